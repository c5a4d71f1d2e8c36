/- huff: which of two trees is joined first; trees sorted. -/
import Derived.Test.YtcecnkmhhbncdaaLayA
import Derived.Test.YtcecnkmhhbncdaaHfD
import Derived.Test.YtcecnkmhhbncdaaRowsS
namespace Go.Proofs.Ytcecnkmhhbncdaa.Hu
open Go Go.RowKit Go.ChangeMaps Go.MapKept Go.Mg Go.Hf Go.Sort

theorem cmp_c (x y : Int) (w : World) : Calls Try.prog 61 #[.int .i64 x, .int .i64 y] w fun e w' => e = .returned (.int .i64 (Lib.compareInt x y)) ∧ w' = w :=
  AnyG.cmp_Compare_int Try.cmpInt x y w
set_option maxHeartbeats 1000000 in
theorem or_c (g : Nat) (x y : Int) (w : World) (h0 : w.cell? ⟨g, 0, none⟩ = some (.int .i64 x)) (h1 : w.cell? ⟨g, 1, none⟩ = some (.int .i64 y)) :
    Calls Try.prog 60 #[.slice (some ⟨g, 0, none⟩) 2 2] w fun e w' => e = .returned (.int .i64 (if x = 0 then y else x)) ∧ w' = w := by
  by_cases hx : x = 0
  · subst hx
    go_enter Try.func60, Try.ntmps60
    go_wp2_with fail
    go_loopw [8] (fun i wr => wr = w ∧ (i = .int .i64 0 ∨ i = .int .i64 1 ∨ (i = .int .i64 2 ∧ y = 0))) (fun i _ => 2 - (intOf i).toNat)
    case atStart => exact ⟨rfl, .inl rfl⟩
    case round =>
      obtain ⟨rfl, rfl | rfl | ⟨rfl, rfl⟩⟩ := hrel
      · go_wp2_with fail
        exact ⟨⟨by first | trivial | rfl, .inr (.inl (by go_num))⟩, by simp [intOf]⟩
      · by_cases hy : y = 0
        · subst hy
          go_wp2_with fail
          exact ⟨⟨by first | trivial | rfl, .inr (.inr ⟨by go_num, by first | trivial | rfl⟩)⟩, by simp [intOf]⟩
        · have hy' : (y == 0) = false := by simpa using hy
          go_wp2_with fail
          go_ret
          exact ⟨by simp, rfl⟩
      · go_wp2_with fail
        go_ret
        exact ⟨by simp, rfl⟩
  · have hx' : (x == 0) = false := by simpa using hx
    go_enter Try.func60, Try.ntmps60
    go_wp2_with fail
    go_loopw [8] (fun i wr => wr = w ∧ i = .int .i64 0) (fun i _ => 2 - (intOf i).toNat)
    case atStart => exact ⟨rfl, rfl⟩
    case round =>
      obtain ⟨rfl, rfl⟩ := hrel
      go_wp2_with fail
      go_ret
      exact ⟨by simp, rfl⟩
/-- A tree of the program's: its symbols rise. -/
def Srt (t : Tr) : Prop := t.s.Pairwise (· ≤ ·)
theorem head_eq {t : Tr} (hm : IsMin t.m t.s) (hs : Srt t) : ∃ l, t.s = t.m :: l := by
  obtain ⟨h1, h2⟩ := hm
  unfold Srt at hs
  cases e : t.s with
  | nil => rw [e] at h1; cases h1
  | cons x l =>
    refine ⟨l, ?_⟩
    rw [e] at h1 h2 hs
    have e1 := h2 x (by simp)
    rcases List.mem_cons.1 h1 with q | q
    · rw [q]
    · have := (List.pairwise_cons.1 hs).1 _ q
      have : x = t.m := by omega
      rw [this]
def cfT (t u : Tr) : Int := if Lib.compareInt (t.n : Nat) (u.n : Nat) = 0 then Lib.compareInt (t.m : Nat) (u.m : Nat) else Lib.compareInt (t.n : Nat) (u.n : Nat)
theorem cfT_lt (t u : Tr) : cfT t u < 0 ↔ Lt t u := by
  unfold cfT Lib.compareInt Lt
  by_cases h1 : ((t.n : Nat) : Int) < (u.n : Nat)
  · simp [h1]; omega
  · by_cases h2 : ((u.n : Nat) : Int) < (t.n : Nat)
    · simp [h1, h2]; omega
    · by_cases h3 : ((t.m : Nat) : Int) < (u.m : Nat)
      · simp [h1, h2, h3]; omega
      · by_cases h4 : ((u.m : Nat) : Int) < (t.m : Nat)
        · simp [h1, h2, h3, h4]; omega
        · simp [h1, h2, h3, h4]; omega
set_option maxRecDepth 100000 in
set_option maxHeartbeats 2000000 in
theorem first_c (w : World) (t u : Tr) (v x : Value) (ht : Tv w t v) (hu : Tv w u x) (st : Srt t) (su : Srt u) :
    Calls Try.prog 47 #[.agg #[.int .i64 (t.n : Nat), v], .agg #[.int .i64 (u.n : Nat), x]] w fun e w' => e = .returned (.int .i64 (cfT t u)) ∧ ∃ q os', w' = grow (w.drewN q) os' := by
  obtain ⟨a, c, rfl, h1, h2, h3⟩ := ht
  obtain ⟨a', c', rfl, h1', h2', h3'⟩ := hu
  obtain ⟨lt, et⟩ := head_eq h2 st
  obtain ⟨lu, eu⟩ := head_eq h2' su
  obtain ⟨g, off, rfl, hg, hcap, hc⟩ := at_nv h1 h2.pos
  obtain ⟨g', off', rfl, hg', hcap', hc'⟩ := at_nv h1' h2'.pos
  have c0 := hc 0 h2.pos
  have c0' := hc' 0 h2'.pos
  have p1 := h2.pos
  have p1' := h2'.pos
  simp only [et, eu, List.getElem_cons_zero, Nat.add_zero] at c0 c0'
  obtain ⟨W, hW⟩ : ∃ W, W = (w.alloc (.cells #[.int .i64 (t.n : Nat), .slice (some ⟨g, off, none⟩) t.s.length c] 69)).alloc (.cells #[.int .i64 (u.n : Nat), .slice (some ⟨g', off', none⟩) u.s.length c'] 69) := ⟨_, rfl⟩
  have k1 : Kp (fun _ => False) w W := by rw [hW]; exact ((Kp.refl _ _).alloc _).alloc _
  have hWt : W.heap[w.heap.size]? = some (.cells #[.int .i64 (t.n : Nat), .slice (some ⟨g, off, none⟩) t.s.length c] 69 (0, 0)) := by
    rw [hW]; exact (Below.heap_alloc _ _ _ (by simp)).trans (alloc_at w _)
  have hWu : W.heap[w.heap.size + 1]? = some (.cells #[.int .i64 (u.n : Nat), .slice (some ⟨g', off', none⟩) u.s.length c'] 69 (0, 0)) := by
    rw [hW]; have := alloc_at (w.alloc (.cells #[.int .i64 (t.n : Nat), .slice (some ⟨g, off, none⟩) t.s.length c] 69)) (.cells #[.int .i64 (u.n : Nat), .slice (some ⟨g', off', none⟩) u.s.length c'] 69); rwa [World.size_alloc] at this
  have hsz : W.heap.size = w.heap.size + 2 := by rw [hW]; simp
  have ct0 : W.cell? ⟨w.heap.size, 0, none⟩ = some (.int .i64 (t.n : Nat)) := by rw [cell_of hWt]; rfl
  have ct1 : W.cell? ⟨w.heap.size, 1, none⟩ = some (.slice (some ⟨g, off, none⟩) t.s.length c) := by rw [cell_of hWt]; rfl
  have cu0 : W.cell? ⟨w.heap.size + 1, 0, none⟩ = some (.int .i64 (u.n : Nat)) := by rw [cell_of hWu]; rfl
  have cu1 : W.cell? ⟨w.heap.size + 1, 1, none⟩ = some (.slice (some ⟨g', off', none⟩) u.s.length c') := by rw [cell_of hWu]; rfl
  have d0 := (k1.cell (p := ⟨g, off, none⟩) hg (fun q => q)).trans c0
  have d0' := (k1.cell (p := ⟨g', off', none⟩) hg' (fun q => q)).trans c0'
  have hWg : W = grow w (#[Obj.cells #[.int .i64 (t.n : Nat), .slice (some ⟨g, off, none⟩) t.s.length c] 69] ++ #[Obj.cells #[.int .i64 (u.n : Nat), .slice (some ⟨g', off', none⟩) u.s.length c'] 69]) := by rw [hW, alloc_eq_grow, alloc_eq_grow, grow_grow]
  have fin : ∀ n o, ∃ q os', (W.drewN n).alloc o = grow (w.drewN q) os' := fun n o => ⟨n, _, by rw [hWg, alloc_eq_grow]; exact grow_grow (w.drewN n) _ _⟩
  have FIN := Lib.hid fin
  have HSZ := Lib.hid hsz
  clear hc hc' h1 h1' h2 h2' k1 hWt hWu fin c0 c0' st su et eu hsz hWg
  generalize t.s.length = nt at *
  generalize u.s.length = nu at *
  unfold cfT
  generalize hx1 : Lib.compareInt (t.n : Nat) (u.n : Nat) = z1
  generalize hx2 : Lib.compareInt (t.m : Nat) (u.m : Nat) = z2
  have C1 : ∀ V, Calls Try.prog 61 #[.int .i64 (t.n : Nat), .int .i64 (u.n : Nat)] V fun e w' => e = .returned (.int .i64 z1) ∧ w' = V := fun V => by rw [← hx1]; exact cmp_c _ _ V
  have C2 : ∀ V, Calls Try.prog 61 #[.int .i64 (t.m : Nat), .int .i64 (u.m : Nat)] V fun e w' => e = .returned (.int .i64 z2) ∧ w' = V := fun V => by rw [← hx2]; exact cmp_c _ _ V
  have HC1 := Lib.hid C1
  have HC2 := Lib.hid C2
  have HC3 := Lib.hid (fun (gg : Nat) V p q => or_c gg z1 z2 V p q)
  generalize (if z1 = 0 then z2 else z1) = r at HC3 ⊢
  clear C1 C2 hx1 hx2
  go_enter Try.func47, Try.ntmps47
  go_wp2_with fail
  rw [← hW]
  clear hW
  go_region_held3 (fun w' => (w'.cell? ⟨w.heap.size, 0, none⟩ = some (.int .i64 (t.n : Nat)) ∧ w'.cell? ⟨w.heap.size, 1, none⟩ = some (.slice (some ⟨g, off, none⟩) nt c)) ∧ (w'.cell? ⟨w.heap.size + 1, 0, none⟩ = some (.int .i64 (u.n : Nat)) ∧ w'.cell? ⟨w.heap.size + 1, 1, none⟩ = some (.slice (some ⟨g', off', none⟩) nu c')) ∧ w'.cell? ⟨g, off, none⟩ = some (.int .i64 (t.m : Nat)) ∧ w'.cell? ⟨g', off', none⟩ = some (.int .i64 (u.m : Nat))) (go_keep) ((first
    | (go_simp; go_at_call 61; first | (refine (Calls.mono (by with_reducible exact HC1.out _) ?_); rintro e w' ⟨rfl, rfl⟩) | (refine (Calls.mono (by with_reducible exact HC2.out _) ?_); rintro e w' ⟨rfl, rfl⟩))
    | (go_simp; go_at_call 60; refine (HC3.out _ _ (by simp [World.cell?_alloc_new]) (by simp [World.cell?_alloc_new])).mono ?_; rintro e w' ⟨rfl, rfl⟩)))
  all_goals (go_wp2_with fail; go_ret; exact ⟨rfl, FIN.out 1 _⟩)
end Go.Proofs.Ytcecnkmhhbncdaa.Hu
