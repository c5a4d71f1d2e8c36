/- huff: what the law knows: five, one, one. -/
import Derived.Test.YtcecnkmhhbncdaaHfU
namespace Go.Proofs.Ytcecnkmhhbncdaa.Hu
open Go Go.RowKit Go.ChangeMaps Go.MapKept Go.Mg Go.Hf Go.Sort Go.Proofs.Ytcecnkmhhbncdaa.It

theorem lit_sl {w : World} {g : Nat} {xs : List Int} (hg : w.heap[g]? = some (.cells (xs.map (Value.int .i64)).toArray 3 (0, 0))) (hl : xs.length ≤ 1000) : Nm w (some ⟨g, 0, none⟩) xs.length xs := by
  refine ⟨by simp, _, _, rfl, Nat.le_refl _, by unfold maxLen; omega, (fun h => by cases h), fun _ => ⟨g, 0, rfl, lt_of_at hg, fun i u hu => ?_⟩⟩
  rw [Nat.zero_add, cell_of hg]
  simpa using hu
theorem Nm.range {w : World} {a : Option Addr} {c : Nat} {xs : List Int} (h : Nm w a c xs) : SlR w 1 (.slice a xs.length c) xs.length ((List.range xs.length).map fun i => .int .i64 (lf xs i)) := by
  have e : (List.range xs.length).map (fun i => Value.int .i64 (lf xs i)) = xs.map (Value.int .i64) := by
    apply List.ext_getElem
    · simp
    · intro i h1 h2
      have hi : i < xs.length := by simpa using h2
      simp [lf_at hi]
  rw [e]
  exact h
def run511 : Nat → Nat := bump [1, 2, 0] (bump [1, 2] (fun _ => 0))
theorem jd511 : Jd [5, 1, 1] run511 := by
  refine .inr ⟨by decide, ?_⟩
  have hf : forest [5, 1, 1] = [leaf 0 5, leaf 1 1, leaf 2 1] := rfl
  rw [hf]
  refine Run.step (a := leaf 1 1) (b := leaf 2 1) (c := ⟨2, 1, [1, 2]⟩) (r := [leaf 0 5]) (r' := [⟨2, 1, [1, 2]⟩, leaf 0 5]) ?_ ?_ ?_ ⟨rfl, rfl, List.Perm.refl _⟩ (List.Perm.refl _) ?_
  · exact (List.perm_append_comm (l₁ := [leaf 0 5]) (l₂ := [leaf 1 1, leaf 2 1]))
  · intro t ht
    simp only [List.mem_cons, List.not_mem_nil, or_false] at ht
    rcases ht with rfl | rfl
    · exact .inr ⟨rfl, by decide⟩
    · exact .inl (by decide)
  · intro t ht
    simp only [List.mem_cons, List.not_mem_nil, or_false] at ht
    subst ht
    exact .inl (by decide)
  · refine Run.step (a := ⟨2, 1, [1, 2]⟩) (b := leaf 0 5) (c := ⟨7, 0, [1, 2, 0]⟩) (r := []) (r' := [⟨7, 0, [1, 2, 0]⟩]) (List.Perm.refl _) ?_ (fun t ht => by cases ht) ⟨rfl, rfl, List.Perm.refl _⟩ (List.Perm.refl _) (.stop (by simp))
    intro t ht
    simp only [List.mem_cons, List.not_mem_nil, or_false] at ht
    subst ht
    exact .inl (by decide)
theorem lens511 {L : Nat → Nat} (h : IsLens [5, 1, 1] L) : ∀ k, k < 3 → ((L k : Nat) : Int) = lf [1, 2, 2] k := by
  have hd : IsLens [5, 1, 1] run511 := .done jd511 (fun i hi => by
    have : i = 0 ∨ i = 1 ∨ i = 2 := by simp at hi; omega
    rcases this with rfl | rfl | rfl <;> decide)
  rw [h.det hd]
  intro k hk
  have : k = 0 ∨ k = 1 ∨ k = 2 := by omega
  rcases this with rfl | rfl | rfl <;> decide
theorem codes122 : ∀ k, k < 3 → codes [1, 2, 2] k = lf [0, 2, 3] k := by
  intro k hk
  have : k = 0 ∨ k = 1 ∨ k = 2 := by omega
  rcases this with rfl | rfl | rfl <;> decide
theorem ok1 : IsOk [1] := ⟨by decide, fun x hx => by rw [List.mem_singleton.1 hx]; omega, .inl ⟨by decide, by decide⟩⟩
def KnownPost (w : World) (e : Ending) (w' : World) : Prop := e = .returned (.bool true) ∧ Kp (fun _ => False) w w'
theorem kp_new {w : World} {o : Obj} : Kp (fun _ => False) w (w.alloc o) := (Kp.refl _ _).alloc _
set_option maxRecDepth 100000 in
set_option maxHeartbeats 400000 in
theorem known_c (w : World) : Calls Try.prog 19 #[] w (KnownPost w) := by
  go_enter Try.func19, Try.ntmps19
  go_wp2_with fail
  have L1 := lit_sl (xs := [5, 1, 1]) (alloc_at w (.cells #[.int .i64 5, .int .i64 1, .int .i64 1] 3)) (by decide)
  refine Calls.mono (lens_p _ [5, 1, 1] (some ⟨w.heap.size, 0, none⟩) 3 L1 (by decide) (by decide)) ?_
  rintro e w1 ⟨L, a, c, rfl, hL, hLo, hk⟩
  have HL := Lib.hid (lens511 hL)
  have HLo := Lib.hid hLo
  have HK := Lib.hid (kp_new.trans hk)
  clear L1 hL hLo hk
  go_wp2_with fail
  have L2 := lit_sl (xs := [1, 2, 2]) (alloc_at w1 (.cells #[.int .i64 1, .int .i64 2, .int .i64 2] 3)) (by decide)
  refine Calls.mono (same_c _ 3 (fun k => ((L k : Nat) : Int)) (lf [1, 2, 2]) a _ c 3 (HLo.out.row.sl.kp kp_new (fun _ _ q => q)) L2.range (by decide)) ?_
  rintro e w2 ⟨z, hz, rfl, m, hw2⟩
  obtain rfl : z = true := hz.2 HL.out
  have HK2 : Hid (Kp (fun _ => False) w w2) := Lib.hid (by rw [hw2]; exact (HK.out.trans kp_new).drewN m)
  clear L2 hz HLo HK hw2
  go_wp2_with fail
  have L3 := lit_sl (xs := [1, 2, 2]) (alloc_at w2 (.cells #[.int .i64 1, .int .i64 2, .int .i64 2] 3)) (by decide)
  refine Calls.mono (codes_p _ [1, 2, 2] (some ⟨w2.heap.size, 0, none⟩) 3 L3 (by decide) (by decide)) ?_
  rintro e w3 ⟨g, rfl, q1, q2, q3⟩
  have Q2 := Lib.hid q2
  have HK3 := Lib.hid (HK2.out.trans (kp_new.trans q3))
  clear L3 q1 q2 q3 HK2
  go_wp2_with fail
  have L4 := lit_sl (xs := [0, 2, 3]) (alloc_at w3 (.cells #[.int .i64 0, .int .i64 2, .int .i64 3] 3)) (by decide)
  refine Calls.mono (same_c _ 3 (codes [1, 2, 2]) (lf [0, 2, 3]) (some ⟨g, 0, none⟩) _ 3 3 ((Q2.out.kp kp_new).sl (by decide)) L4.range (by decide)) ?_
  rintro e w4 ⟨z, hz, rfl, m2, hw4⟩
  obtain rfl : z = true := hz.2 codes122
  have HK4 : Hid (Kp (fun _ => False) w w4) := Lib.hid (by rw [hw4]; exact (HK3.out.trans kp_new).drewN m2)
  clear L4 hz Q2 HK3 hw4
  go_wp2_with fail
  have L5 := lit_sl (xs := [1]) (alloc_at w4 (.cells #[.int .i64 1] 3)) (by decide)
  refine Calls.mono (is_p _ [1] (some ⟨w4.heap.size, 0, none⟩) 1 L5 (by decide)) ?_
  rintro e w5 ⟨z, hz, rfl, rfl⟩
  obtain rfl : z = true := hz.2 ok1
  clear L5 hz
  go_wp2_with fail
  go_ret
  exact ⟨rfl, HK4.out.trans kp_new⟩
end Go.Proofs.Ytcecnkmhhbncdaa.Hu
