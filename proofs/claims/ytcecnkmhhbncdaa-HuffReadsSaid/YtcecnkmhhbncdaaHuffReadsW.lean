/- The walk of HuffReads. -/
import Derived.Test.YtcecnkmhhbncdaaRdI
import Derived.Test.YtcecnkmhhbncdaaStr
import Derived.Test.YtcecnkmhhbncdaaHfV
import Derived.Test.YtcecnkmhhbncdaaOpen
namespace Go.Proofs.Ytcecnkmhhbncdaa.huffReads
open Go Go.RowKit Go.ChangeMaps Go.MapKept Go.Mg Go.Hf Go.Proofs.Ytcecnkmhhbncdaa.Hu Go.Proofs.Ytcecnkmhhbncdaa.He Go.Proofs.Ytcecnkmhhbncdaa.Bw Go.Proofs.Ytcecnkmhhbncdaa.Rd Go.Proofs.Ytcecnkmhhbncdaa.Op

set_option maxRecDepth 100000 in
set_option maxHeartbeats 1000000 in
theorem walk (a2 : Int) (w2 : (Lit.int .i64 a2).wf = true) (w : World) (a0 : Option Addr) (c0 : Nat) (l0 : List Int) (r0 : SlR w 1 (.slice a0 l0.length c0) l0.length (l0.map (Value.int .i64))) (_ : ∀ x ∈ l0, (Lit.int .i64 x).wf = true)
    (a1 : Option Addr) (c1 : Nat) (l1 : List UInt8) (w1 : SlR w 1 (.slice a1 l1.length c1) l1.length (l1.map u8c)) :
    Calls Try.prog 10 #[.slice a0 l0.length c0, .slice a1 l1.length c1, .int .i64 a2] w (LawPost w) := by
  have R0 := Lib.hid (show Nm w a0 c0 l0 from r0)
  have R1 := Lib.hid w1
  clear r0 w1
  obtain ⟨i0, hi0, hz0, hz1, hz2⟩ := info_parts Rd.infoU
  by_cases hl : l0.length ≤ 300
  · by_cases hm : l1.length ≤ 500
    · by_cases hn : a2 ≤ 2000
      · have k0 : Kp (fun _ => False) w (w.alloc (.cells #[] 5)) := (Kp.refl _ _).alloc _
        have HN := Lib.hid (own_none w 5 1)
        have HC := Lib.hid (R1.out.kp k0 (fun _ _ q => q))
        have O1 := Lib.hid (u8c_one l1)
        have K0 := Lib.hid k0
        clear k0 w2
        go_enter Try.func10, Try.ntmps10
        go_wp2_with (at_builtin; refine wpList_app _ rfl _ _ 30 rfl 5 i0 _ 1 1 Try.underlying30 hi0 hz0 hz1 hz2 rfl (by decide) (by decide) (.slice (some ⟨w.heap.size, 0, none⟩) 0 0) 0 [] rfl HN.out (.slice a1 l1.length c1) l1.length _ rfl HC.out O1.out (by omega) ?_; intro v' w1 g1 g2 g3 g4 g5; rw [Nat.zero_add, List.nil_append] at g1; obtain ⟨b1, d1, rfl⟩ := g1.form; have G1 := Lib.hid g1; have G2 := Lib.hid (K0.out.up g2 (fun i e => (by have := own_b e; omega))); clear g1 g2 g3 g4 g5)
        refine (decode_p _ l0 a0 c0 (R0.out.kp G2.out) hl l1 b1 d1 G1.out.sl (by omega) a2 hn).mono ?_
        rintro e w2 (⟨o, hy, ⟨v, rfl, ⟨a3, c3, rfl, h1, _⟩⟩, k2⟩ | ⟨hno, rfl, k2⟩)
        · have K2 := Lib.hid (G2.out.trans k2)
          have H1 := Lib.hid h1
          have HY := Lib.hid hy
          have D2 := Lib.hid (decode_d w2 l0 a0 c0 (R0.out.kp K2.out) hl l1 a1 c1 (R1.out.kp K2.out (fun _ _ q => q)) (by omega) a2 hn)
          clear k2 h1 hy
          go_wp2_with fail
          refine D2.out.mono ?_
          rintro e w3 (⟨o2, hy2, ⟨v, rfl, ⟨a4, c4, rfl, h2, _⟩⟩, k3⟩ | ⟨hno, rfl, k3⟩)
          · obtain rfl := hy2.one HY.out
            have v1 := strOf (H1.out.kp k3 (fun _ _ q => q)).sl
            have v2 := strOf h2.sl
            have K3 := Lib.hid (K2.out.trans k3)
            clear k3 h2 hy2 D2
            go_wp2_with fail
            refine (known_c _).mono ?_
            rintro e w5 ⟨rfl, k5⟩
            have K5 := Lib.hid (K3.out.trans k5)
            clear k5
            go_wp2_with fail
            go_ret
            exact ⟨rfl, K5.out.below⟩
          · exact absurd HY.out (hno _)
        · have K2 := Lib.hid (G2.out.trans k2)
          have HNO := Lib.hid hno
          have D2 := Lib.hid (decode_d w2 l0 a0 c0 (R0.out.kp K2.out) hl l1 a1 c1 (R1.out.kp K2.out (fun _ _ q => q)) (by omega) a2 hn)
          clear k2 hno
          go_wp2_with fail
          refine D2.out.mono ?_
          rintro e w3 (⟨o2, hy2, _⟩ | ⟨_, rfl, k3⟩)
          · exact absurd hy2 (HNO.out _)
          · have v1 := strOf (w := w3) (a := none) (n := 0) (cap := 0) (l := []) ⟨rfl, none, 0, rfl, Nat.le_refl _, Nat.zero_le _, (fun _ => rfl), (fun h => absurd h (by simp))⟩
            have K3 := Lib.hid (K2.out.trans k3)
            clear k3 D2
            go_wp2_with fail
            refine (known_c _).mono ?_
            rintro e w5 ⟨rfl, k5⟩
            have K5 := Lib.hid (K3.out.trans k5)
            clear k5
            go_wp2_with fail
            go_ret
            exact ⟨rfl, K5.out.below⟩
      · have hg : 2000 < a2 := by omega
        clear R0 R1 w2
        go_enter Try.func10, Try.ntmps10
        go_wp2_with fail
        go_ret
        exact ⟨rfl, Below.refl _ _⟩
    · have hg : 500 < l1.length := by omega
      clear R0 R1
      go_enter Try.func10, Try.ntmps10
      go_wp2_with fail
      go_ret
      exact ⟨rfl, Below.refl _ _⟩
  · have hg : 300 < l0.length := by omega
    clear R0 R1
    go_enter Try.func10, Try.ntmps10
    go_wp2_with fail
    go_ret
    exact ⟨rfl, Below.refl _ _⟩
end Go.Proofs.Ytcecnkmhhbncdaa.huffReads
