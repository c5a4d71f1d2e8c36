/- The walk of HuffCodes. -/
import Derived.Test.YtcecnkmhhbncdaaHeE
import Derived.Test.YtcecnkmhhbncdaaStr
import Derived.Test.YtcecnkmhhbncdaaHfV
import Derived.Test.YtcecnkmhhbncdaaOpen
namespace Go.Proofs.Ytcecnkmhhbncdaa.huffCodes
open Go Go.RowKit Go.ChangeMaps Go.MapKept Go.Mg Go.Hf Go.Proofs.Ytcecnkmhhbncdaa.Hu Go.Proofs.Ytcecnkmhhbncdaa.He Go.Proofs.Ytcecnkmhhbncdaa.Bw Go.Proofs.Ytcecnkmhhbncdaa.Op

set_option maxRecDepth 100000 in
set_option maxHeartbeats 1000000 in
theorem walk (w : World) (a0 : Option Addr) (c0 : Nat) (l0 : List Int) (r0 : SlR w 1 (.slice a0 l0.length c0) l0.length (l0.map (Value.int .i64))) (_ : ∀ x ∈ l0, (Lit.int .i64 x).wf = true)
    (a1 : Option Addr) (c1 : Nat) (l1 : List UInt8) (w1 : SlR w 1 (.slice a1 l1.length c1) l1.length (l1.map u8c)) :
    Calls Try.prog 9 #[.slice a0 l0.length c0, .slice a1 l1.length c1] w (LawPost w) := by
  have R0 := Lib.hid (show Nm w a0 c0 l0 from r0)
  have R1 := Lib.hid w1
  clear r0 w1
  by_cases hl : l0.length ≤ 300
  · by_cases hm : l1.length ≤ 1000
    · have D1 := Lib.hid (encode_p w l0 a0 c0 R0.out hl l1 a1 c1 R1.out hm)
      go_enter Try.func9, Try.ntmps9
      go_wp2_with fail
      refine D1.out.mono ?_
      rintro e w2 (⟨hok, g1, rfl, p1, p2, p3⟩ | ⟨hok, rfl, p3⟩)
      · have D2 := Lib.hid (encode_d w2 l0 a0 c0 (R0.out.kp p3) hl l1 a1 c1 (R1.out.kp p3 (fun _ _ q => q)) hm)
        have P2 := Lib.hid p2
        have P3 := Lib.hid p3
        clear p2 p3 D1
        have hbl := bt_len hok.1.2.1 l1 l1.length
        go_wp2_with fail
        refine D2.out.mono ?_
        rintro e w3 (⟨_, g2, rfl, q1, q2, q3⟩ | ⟨hno, _, _⟩)
        · have v1 := strOf (pack_sl (P2.out.kp q3 (fun q => q)) (by omega))
          have v2 := strOf (pack_sl q2 (by omega))
          have K3 := Lib.hid (P3.out.trans q3)
          clear q2 q3 D2 P2 P3 hbl hok p1 q1
          go_wp2_with fail
          refine (known_c _).mono ?_
          rintro e w5 ⟨rfl, k5⟩
          have K5 := Lib.hid (K3.out.trans k5)
          clear k5
          go_wp2_with fail
          go_ret
          exact ⟨rfl, K5.out.below⟩
        · exact absurd hok hno
      · have D2 := Lib.hid (encode_d w2 l0 a0 c0 (R0.out.kp p3) hl l1 a1 c1 (R1.out.kp p3 (fun _ _ q => q)) hm)
        have P3 := Lib.hid p3
        have HOK := Lib.hid hok
        clear p3 D1 hok
        go_wp2_with fail
        refine D2.out.mono ?_
        rintro e w3 (⟨hyes, _⟩ | ⟨_, rfl, q3⟩)
        · exact absurd hyes HOK.out
        · have v1 := strOf (w := w3) (a := none) (n := 0) (cap := 0) (l := []) ⟨rfl, none, 0, rfl, Nat.le_refl _, Nat.zero_le _, (fun _ => rfl), (fun h => absurd h (by simp))⟩
          have K3 := Lib.hid (P3.out.trans q3)
          clear q3 D2 P3
          go_wp2_with fail
          refine (known_c _).mono ?_
          rintro e w5 ⟨rfl, k5⟩
          have K5 := Lib.hid (K3.out.trans k5)
          clear k5
          go_wp2_with fail
          go_ret
          exact ⟨rfl, K5.out.below⟩
    · have hg : 1000 < l1.length := by omega
      clear R0 R1
      go_enter Try.func9, Try.ntmps9
      go_wp2_with fail
      go_ret
      exact ⟨rfl, Below.refl _ _⟩
  · have hg : 300 < l0.length := by omega
    clear R0 R1
    go_enter Try.func9, Try.ntmps9
    go_wp2_with fail
    go_ret
    exact ⟨rfl, Below.refl _ _⟩
end Go.Proofs.Ytcecnkmhhbncdaa.huffCodes
