/- The walk of HuffIs. -/
import Derived.Test.YtcecnkmhhbncdaaHfV
import Derived.Test.YtcecnkmhhbncdaaHfX
import Derived.Test.YtcecnkmhhbncdaaOpen
namespace Go.Proofs.Ytcecnkmhhbncdaa.huffIs
open Go Go.RowKit Go.ChangeMaps Go.MapKept Go.Mg Go.Hf Go.Proofs.Ytcecnkmhhbncdaa.Hu Go.Proofs.Ytcecnkmhhbncdaa.Op

set_option maxRecDepth 100000 in
set_option maxHeartbeats 1000000 in
theorem walk (w : World) (a0 : Option Addr) (c0 : Nat) (l0 : List Int) (r0 : SlR w 1 (.slice a0 l0.length c0) l0.length (l0.map (Value.int .i64))) (_ : ∀ x ∈ l0, (Lit.int .i64 x).wf = true) :
    Calls Try.prog 4 #[.slice a0 l0.length c0] w (LawPost w) := by
  have R0 := Lib.hid (show Nm w a0 c0 l0 from r0)
  clear r0
  by_cases hl : l0.length ≤ 300
  · have D1 := Lib.hid (is_d w l0 a0 c0 R0.out (by omega))
    have D2 := Lib.hid (is_p w l0 a0 c0 R0.out (by omega))
    go_enter Try.func4, Try.ntmps4
    go_wp2_with fail
    refine D1.out.mono ?_
    rintro e w' ⟨z, hz, rfl, rfl⟩
    have HZ := Lib.hid hz
    clear hz D1
    go_wp2_with fail
    refine D2.out.mono ?_
    rintro e w2 ⟨z2, hz2, rfl, hw2⟩
    obtain rfl : z2 = z := by
      cases z <;> cases z2
      · rfl
      · exact absurd (HZ.out.2 (hz2.1 rfl)) (by simp)
      · exact absurd (hz2.2 (HZ.out.1 rfl)) (by simp)
      · rfl
    obtain rfl := hw2
    clear hz2 D2
    cases z2 with
    | false =>
      go_wp2_with fail
      refine (known_c _).mono ?_
      rintro e w5 ⟨rfl, k5⟩
      have K5 := Lib.hid k5
      clear k5
      go_wp2_with fail
      go_ret
      exact ⟨rfl, K5.out.below⟩
    | true =>
      have hok : IsOk l0 := HZ.out.1 rfl
      have hpos : 0 < l0.length := by
        apply Nat.pos_of_ne_zero
        intro e
        have : l0 = [] := List.eq_nil_of_length_eq_zero e
        subst this
        obtain ⟨_, _, h | h⟩ := hok <;> simp [isSt] at h
      clear HZ hok
      go_wp2_with fail
      refine (codes_p _ l0 a0 c0 R0.out hpos hl).mono ?_
      rintro e w3 ⟨g1, rfl, p1, p2, p3⟩
      have P2 := Lib.hid p2
      have P3 := Lib.hid p3
      clear p1 p2 p3
      go_wp2_with fail
      refine (codes_d w3 l0 a0 c0 (R0.out.kp P3.out) hpos hl).mono ?_
      rintro e w4 ⟨g2, rfl, q1, q2, q3⟩
      have Q2 := Lib.hid q2
      have Q3 := Lib.hid q3
      clear q1 q2 q3
      go_wp2_with fail
      refine (same_c w4 l0.length (codes l0) (codes l0) (some ⟨g1, 0, none⟩) (some ⟨g2, 0, none⟩) l0.length l0.length ((P2.out.kp Q3.out).sl (by omega)) (Q2.out.sl (by omega)) (by omega)).mono ?_
      rintro e w5 ⟨z, hz, rfl, m, hw5⟩
      obtain rfl : z = true := hz.2 (fun k _ => rfl)
      have K5 := Lib.hid (show Kp (fun _ => False) w2 w5 by rw [hw5]; exact (P3.out.trans Q3.out).drewN m)
      clear hz hw5
      go_wp2_with fail
      refine (known_c w5).mono ?_
      rintro e w6 ⟨rfl, k6⟩
      have K6 := Lib.hid (K5.out.trans k6)
      clear k6
      go_wp2_with fail
      go_ret
      exact ⟨rfl, K6.out.below⟩
  · have hg : 300 < l0.length := by omega
    clear R0
    go_enter Try.func4, Try.ntmps4
    go_wp2_with fail
    go_ret
    exact ⟨rfl, Below.refl _ _⟩
end Go.Proofs.Ytcecnkmhhbncdaa.huffIs
