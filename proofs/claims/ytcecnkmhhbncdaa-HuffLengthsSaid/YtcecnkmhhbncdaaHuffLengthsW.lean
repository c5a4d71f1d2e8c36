/- The walk of HuffLengths. -/
import Derived.Test.YtcecnkmhhbncdaaHfV
import Derived.Test.YtcecnkmhhbncdaaOpen
namespace Go.Proofs.Ytcecnkmhhbncdaa.huffLengths
open Go Go.RowKit Go.ChangeMaps Go.MapKept Go.Mg Go.Hf Go.Proofs.Ytcecnkmhhbncdaa.Hu Go.Proofs.Ytcecnkmhhbncdaa.Op

theorem nats_of (l : List Int) (h : ∀ x, x ∈ l → 0 ≤ x ∧ x ≤ 1073741824) : ∃ cs : List Nat, cs.length = l.length ∧ cs.map nv = l.map (Value.int .i64) ∧ cs.sum ≤ 1073741824 * cs.length := by
  induction l with
  | nil => exact ⟨[], rfl, rfl, by simp⟩
  | cons x l ih =>
    obtain ⟨cs, h1, h2, h3⟩ := ih (fun y hy => h y (List.mem_cons_of_mem _ hy))
    obtain ⟨p, q⟩ := h x List.mem_cons_self
    refine ⟨x.toNat :: cs, by simp [h1], ?_, ?_⟩
    · rw [List.map_cons, List.map_cons, h2]
      congr 1
      unfold nv
      congr 1
      omega
    · simp only [List.sum_cons, List.length_cons]
      omega
theorem below_of {w w' : World} (h : Kp (fun _ => False) w w') : Below w.heap.size w w' := h.below
set_option maxRecDepth 100000 in
set_option maxHeartbeats 1000000 in
theorem walk (w : World) (a0 : Option Addr) (c0 : Nat) (l0 : List Int) (r0 : SlR w 1 (.slice a0 l0.length c0) l0.length (l0.map (Value.int .i64))) (_ : ∀ x ∈ l0, (Lit.int .i64 x).wf = true) :
    Calls Try.prog 3 #[.slice a0 l0.length c0] w (LawPost w) := by
  have hml : l0.length ≤ maxLen := by
    obtain ⟨_, a, c, e, h1, h2, _⟩ := r0
    exact Nat.le_trans h1 h2
  have MC := Lib.hid (may_c w l0 a0 c0 r0 hml)
  have R0 := Lib.hid r0
  clear r0
  go_enter Try.func3, Try.ntmps3
  go_wp2_with fail
  refine MC.out.mono ?_
  rintro e w' ⟨z, hz, rfl, rfl⟩
  cases z with
  | false =>
    go_wp2_with fail
    go_ret
    exact ⟨rfl, Below.refl _ _⟩
  | true =>
    obtain ⟨hl, hx⟩ := hz rfl
    obtain ⟨cs, h1, h2, h3⟩ := nats_of l0 hx
    have r1 := R0.out
    rw [← h2, ← h1] at r1
    rw [← h1] at hl
    have hS : cs.sum ≤ 1125899906842624 := by omega
    rw [← h1]
    have k0 : Kp (fun _ => False) w' (w'.alloc (.cells #[] 3)) := (Kp.refl _ _).alloc _
    have HN := Lib.hid (own_none w' 3 1)
    have HC := Lib.hid (r1.kp k0 (fun _ _ q => q))
    have HC0 := Lib.hid r1
    have O1 := Lib.hid (nv_one cs)
    have K0 := Lib.hid k0
    have HS := Lib.hid hS
    obtain ⟨j0, hj0, hy0, hy1, hy2⟩ := info_parts infoI
    clear hx hz h1 h2 h3 r1 k0 hS R0 MC hml
    go_wp2_with (at_builtin; refine wpList_app _ rfl _ _ 22 rfl 3 j0 _ 1 8 Try.underlying22 hj0 hy0 hy1 hy2 rfl (by decide) (by decide) (.slice (some ⟨w'.heap.size, 0, none⟩) 0 0) 0 [] rfl HN.out (.slice a0 cs.length c0) cs.length _ rfl HC.out O1.out (by omega) ?_; intro v' w1 g1 g2 g3 g4 g5; rw [Nat.zero_add, List.nil_append] at g1; obtain ⟨b1, d1, rfl⟩ := g1.form; have G1 := Lib.hid g1; have G2 := Lib.hid (K0.out.up g2 (fun i e => (by have := own_b e; omega))); clear g1 g2 g3 g4 g5)
    refine (lens_p w1 cs b1 d1 G1.out.sl hl HS.out).mono ?_
    rintro e w2 ⟨L1, a1, c1, rfl, i1, o1, k1⟩
    have I1 := Lib.hid i1
    have Q1 := Lib.hid o1
    have K1 := Lib.hid (G2.out.trans k1)
    clear i1 o1 k1
    go_wp2_with fail
    refine (lens_d w2 cs a0 c0 (HC0.out.kp K1.out (fun _ _ q => q)) hl HS.out).mono ?_
    rintro e w3 ⟨L2, a2, c2, rfl, i2, o2, k2⟩
    have HE := Lib.hid (IsLens.det I1.out i2)
    have Q2 := Lib.hid o2
    have K2 := Lib.hid k2
    clear i2 o2 k2
    go_wp2_with fail
    refine (same_c w3 cs.length (fun k => ((L1 k : Nat) : Int)) (fun k => ((L2 k : Nat) : Int)) a1 a2 c1 c2 (Q1.out.row.sl.kp K2.out (fun _ _ q => q)) Q2.out.row.sl (by omega)).mono ?_
    rintro e w4 ⟨z, hz, rfl, m, hw4⟩
    obtain rfl : z = true := hz.2 (fun k _ => by rw [HE.out])
    have K4 : Hid (Kp (fun _ => False) w' w4) := Lib.hid (by rw [hw4]; exact (K1.out.trans K2.out).drewN m)
    clear hz hw4
    go_wp2_with fail
    refine (known_c w4).mono ?_
    rintro e w5 ⟨rfl, k5⟩
    have K5 := Lib.hid (K4.out.trans k5)
    clear k5
    go_wp2_with fail
    go_ret
    exact ⟨rfl, K5.out.below⟩
end Go.Proofs.Ytcecnkmhhbncdaa.huffLengths
