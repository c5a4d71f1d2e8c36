/- The document's huff: which of two trees comes first. -/
import Derived.Test.YtcecnkmhhbncdaaHfA
import Derived.Test.YtcecnkmhhbncdaaQuiet
namespace Go.Proofs.Ytcecnkmhhbncdaa.Hu
open Go Go.RowKit Go.ChangeMaps Go.MapKept Go.Mg Go.Hf Go.Sort

/-- v holds the symbols of t. -/
def Tv (w : World) (t : Tr) (v : Value) : Prop := ∃ a c, v = .slice a t.s.length c ∧ SlR w 1 v t.s.length (t.s.map nv) ∧ IsMin t.m t.s ∧ t.s.length ≤ 1000
theorem Tv.kp {w w' : World} {t : Tr} {v : Value} {F : Nat → Prop} (h : Tv w t v) (hk : Kp F w w') (hn : ∀ b, v.ownBlock = some b → ¬ F b) : Tv w' t v := by
  obtain ⟨a, c, rfl, h1, h2⟩ := h
  exact ⟨a, c, rfl, h1.kp hk hn, h2⟩
/-- A tree's cells. -/
def tcs (t : Tr) (v : Value) : List Value := [.int .i64 (t.n : Nat), v]

instance (a b : Tr) : Decidable (Lt a b) := by unfold Lt; infer_instance
set_option maxHeartbeats 600000 in
theorem less_c (w : World) (t u : Tr) (v x : Value) (ht : Tv w t v) (hu : Tv w u x) :
    Calls Try.prog 66 #[.agg #[.int .i64 (t.n : Nat), v], .agg #[.int .i64 (u.n : Nat), x]] w fun e w' => e = .returned (.bool (decide (Lt t u))) ∧ ∃ q os', w' = grow (w.drewN q) os' := by
  obtain ⟨a, c, rfl, h1, h2, h3⟩ := ht
  obtain ⟨a', c', rfl, h1', h2', h3'⟩ := hu
  obtain ⟨W, hW⟩ : ∃ W, W = (w.alloc (.cells #[.int .i64 (t.n : Nat), .slice a t.s.length c] 79)).alloc (.cells #[.int .i64 (u.n : Nat), .slice a' u.s.length c'] 79) := ⟨_, rfl⟩
  have k1 : Kp (fun _ => False) w W := by rw [hW]; exact ((Kp.refl _ _).alloc _).alloc _
  have hWt : W.heap[w.heap.size]? = some (.cells #[.int .i64 (t.n : Nat), .slice a t.s.length c] 79 (0, 0)) := by
    rw [hW]; exact (Below.heap_alloc _ _ _ (by simp)).trans (alloc_at w _)
  have hWu : W.heap[w.heap.size + 1]? = some (.cells #[.int .i64 (u.n : Nat), .slice a' u.s.length c'] 79 (0, 0)) := by
    rw [hW]; have := alloc_at (w.alloc (.cells #[.int .i64 (t.n : Nat), .slice a t.s.length c] 79)) (.cells #[.int .i64 (u.n : Nat), .slice a' u.s.length c'] 79); rwa [World.size_alloc] at this
  have hsz : W.heap.size = w.heap.size + 2 := by rw [hW]; simp
  have ct0 : ∀ n os, (grow (W.drewN n) os).cell? ⟨w.heap.size, 0, none⟩ = some (.int .i64 (t.n : Nat)) := fun n os => cell_grown (by simp only; omega) (by rw [cell_of hWt]; rfl) n os
  have ct1 : ∀ n os, (grow (W.drewN n) os).cell? ⟨w.heap.size, 1, none⟩ = some (.slice a t.s.length c) := fun n os => cell_grown (by simp only; omega) (by rw [cell_of hWt]; rfl) n os
  have cu0 : ∀ n os, (grow (W.drewN n) os).cell? ⟨w.heap.size + 1, 0, none⟩ = some (.int .i64 (u.n : Nat)) := fun n os => cell_grown (by simp only; omega) (by rw [cell_of hWu]; rfl) n os
  have cu1 : ∀ n os, (grow (W.drewN n) os).cell? ⟨w.heap.size + 1, 1, none⟩ = some (.slice a' u.s.length c') := fun n os => cell_grown (by simp only; omega) (by rw [cell_of hWu]; rfl) n os
  have H1 := Lib.hid (fun n os => (h1.kp k1 (fun _ _ q => q)).kp (kp_grow W n os) (fun _ _ q => q))
  have H1' := Lib.hid (fun n os => (h1'.kp k1 (fun _ _ q => q)).kp (kp_grow W n os) (fun _ _ q => q))
  have H2 := Lib.hid h2
  have H2' := Lib.hid h2'
  have fin : ∀ n os, ∃ q os', grow (W.drewN n) os = grow (w.drewN q) os' := fun n os => ⟨n, _, by rw [hW, alloc_eq_grow, alloc_eq_grow, grow_grow]; exact grow_grow (w.drewN n) _ os⟩
  have FIN := Lib.hid fin
  have HL := Lib.hid (show decide (Lt t u) = (decide (t.n < u.n) || ((t.n == u.n) && decide (t.m < u.m))) from by
    unfold Lt
    by_cases e1 : t.n < u.n <;> by_cases e2 : t.n = u.n <;> by_cases e3 : t.m < u.m <;> simp [e1, e2, e3])
  have C1 := Lib.hid (fun (z : Int) n os => grown_alloc (least_c (grow (W.drewN n) os) z a c t.s t.m (H1.out n os) H2.out h3))
  have C2 := Lib.hid (fun (z : Int) n os => grown_alloc (least_c (grow (W.drewN n) os) z a' c' u.s u.m (H1'.out n os) H2'.out h3'))
  clear h1 h1' h2 h2' k1 hWt hWu hsz fin
  have mixed : Try.prog.follows .mixedOrders = true := by kernel_rfl
  go_enter Try.func66, Try.ntmps66
  go_wp2_with fail
  rw [← hW]
  clear hW
  by_cases e1 : t.n < u.n
  · have e1' : decide (t.n < u.n) = true := by simpa using e1
    refine WQ.region mixed (by kernel_rfl) ?_
    repeat (refine WQ.step (fun K hK => ?_); go_simp; first | (refine hK _ ?_; clear hK K) | (apply Exists.intro; refine ⟨fun _ => ?_, hK _ ?_⟩; (fail); clear hK K))
    refine WQ.nil ?_
    intro _ hw'
    obtain ⟨⟨nq, osq⟩, hw''⟩ := hw'
    subst hw''
    go_wp2_with fail
    go_ret
    exact ⟨by rw [HL.out]; simp [e1], FIN.out _ _⟩
  · have e1' : decide (t.n < u.n) = false := by simpa using e1
    by_cases e2 : t.n = u.n
    · have e2' : (t.n == u.n) = true := by simpa using e2
      refine WQ.region mixed (by kernel_rfl) ?_
      repeat (refine WQ.step (fun K hK => ?_); go_simp; first | (refine hK _ ?_; clear hK K) | (apply Exists.intro; refine ⟨fun _ => ?_, hK _ ?_⟩; (go_at_call 82; apply Calls.grown_of; first | with_reducible exact C1.out _ _ _ | with_reducible exact C2.out _ _ _); clear hK K))
      refine WQ.nil ?_
      intro _ hw'
      obtain ⟨⟨nq, osq⟩, hw''⟩ := hw'
      subst hw''
      go_wp2_with fail
      go_ret
      exact ⟨by rw [HL.out]; simp [e2], FIN.out _ _⟩
    · have e2' : (t.n == u.n) = false := by simpa using e2
      have e2'' : ((t.n : Int) == (u.n : Int)) = false := by rw [beq_eq_false_iff_ne]; omega
      refine WQ.region mixed (by kernel_rfl) ?_
      repeat (refine WQ.step (fun K hK => ?_); go_simp; first | (refine hK _ ?_; clear hK K) | (apply Exists.intro; refine ⟨fun _ => ?_, hK _ ?_⟩; (fail); clear hK K))
      refine WQ.nil ?_
      intro _ hw'
      obtain ⟨⟨nq, osq⟩, hw''⟩ := hw'
      subst hw''
      go_wp2_with fail
      go_ret
      exact ⟨by rw [HL.out]; simp [e1, e2], FIN.out _ _⟩
end Go.Proofs.Ytcecnkmhhbncdaa.Hu
