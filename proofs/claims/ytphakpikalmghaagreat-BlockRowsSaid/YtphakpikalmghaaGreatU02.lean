/- What joining keeps, and how long codes become; in plain words. The lengths of counts, in plain words; that halving ends. Who has more is not longer; in plain words. The document's huff: least, less. -/
import Derived.Test.YtphakpikalmghaaGreatProg
import Derived.Deep.QuietTactic
import Derived.BigQuiet
import Derived.Deep.RegionLaw
import Derived.Shelf.SlSortCmp.QuietGrown
import Derived.Test.YtphakpikalmghaaGreatU01
namespace Go.Hf
theorem sum_perm {l l' : List Nat} (h : l.Perm l') : l.sum = l'.sum := h.sum_nat
theorem Joins.mem_s {a b c : Tr} (h : Joins a b c) {i : Nat} : i ∈ c.s ↔ i ∈ a.s ∨ i ∈ b.s := by rw [h.s.mem_iff, List.mem_append]
/-- What the loop that joins keeps: F0 was there first, F is there now; L: how often each symbol was joined. -/
structure Fst (N S : Nat) (F0 F : List Tr) (L : Nat → Nat) : Prop where
  nd : (F.flatMap Tr.s).Nodup
  mem : ∀ t, t ∈ F → t.m ∈ t.s
  lt : ∀ t, t ∈ F → ∀ i, i ∈ t.s → i < N
  sum : (F.map Tr.n).sum = S
  len : ∀ i, L i + F.length ≤ N
  tot : (F.map fun t => t.s.length).sum ≤ N
  run : ∀ L', Run F L L' → Run F0 (fun _ => 0) L'
theorem Fst.perm {N S : Nat} {F0 F F' : List Tr} {L : Nat → Nat} (h : Fst N S F0 F L) (hp : F.Perm F') : Fst N S F0 F' L where
  nd := ((hp.flatMap_right Tr.s).nodup_iff).1 h.nd
  mem t ht := h.mem t (hp.mem_iff.2 ht)
  lt t ht := h.lt t (hp.mem_iff.2 ht)
  sum := by rw [← h.sum]; exact (sum_perm (hp.map Tr.n)).symm
  len i := by have := h.len i; rw [hp.length_eq] at this; exact this
  tot := by rw [sum_perm (hp.symm.map fun t => t.s.length)]; exact h.tot
  run L' hr := h.run L' (by
    cases hr with
    | stop hl => exact .stop (by rw [hp.length_eq]; exact hl)
    | step q ha hb hc hr' h' => exact .step (hp.trans q) ha hb hc hr' h')
theorem nodup_app {α : Type} {l m : List α} : (l ++ m).Nodup ↔ l.Nodup ∧ m.Nodup ∧ ∀ x, x ∈ l → x ∈ m → False := by
  rw [List.nodup_append]
  exact ⟨fun ⟨a, b, c⟩ => ⟨a, b, fun x hx hy => c x hx x hy rfl⟩, fun ⟨a, b, c⟩ => ⟨a, b, fun x hx y hy e => c x hx (e ▸ hy)⟩⟩
/-- Two trees' least symbols are unlike. -/
theorem Fst.ne {N S : Nat} {F0 r : List Tr} {a : Tr} {L : Nat → Nat} (h : Fst N S F0 (a :: r) L) {t : Tr} (ht : t ∈ r) : a.m ≠ t.m := by
  have h1 := h.nd
  rw [List.flatMap_cons, nodup_app] at h1
  intro e
  exact h1.2.2 a.m (h.mem a List.mem_cons_self) (List.mem_flatMap.2 ⟨t, ht, e ▸ h.mem t (List.mem_cons_of_mem _ ht)⟩)
theorem Lt.of_not {a b : Tr} (h : ¬ Lt b a) (hne : a.m ≠ b.m) : Lt a b := by unfold Lt at *; omega
theorem count_le_one {l : List Nat} (h : l.Nodup) (i : Nat) : l.count i ≤ 1 := List.nodup_iff_count.1 h i
theorem Fst.step {N S : Nat} {F0 F r r' : List Tr} {L : Nat → Nat} {a b c : Tr} (h : Fst N S F0 F L) (hp : F.Perm (a :: b :: r)) (ha : ∀ t, t ∈ b :: r → ¬ Lt t a) (hb : ∀ t, t ∈ r → ¬ Lt t b) (hc : Joins a b c) (hr : r'.Perm (c :: r)) :
    Fst N S F0 r' (bump c.s L) := by
  have h1 := h.perm hp
  have hnd := h1.nd
  rw [List.flatMap_cons, List.flatMap_cons] at hnd
  have hcr : (c.s ++ r.flatMap Tr.s).Perm (a.s ++ (b.s ++ r.flatMap Tr.s)) := by rw [← List.append_assoc]; exact hc.s.append_right _
  have hcn : (c.s ++ r.flatMap Tr.s).Nodup := (hcr.nodup_iff).2 hnd
  have h2 : Fst N S F0 (a :: b :: r) L := h1
  have hb2 : ∀ t, t ∈ r → b.m ≠ t.m := fun t ht => by
    have h3 := hnd
    rw [nodup_app] at h3
    have h4 := h3.2.1
    rw [nodup_app] at h4
    intro e
    exact h4.2.2 b.m (h1.mem b (by simp)) (List.mem_flatMap.2 ⟨t, ht, e ▸ h1.mem t (by simp [ht])⟩)
  have base : Fst N S F0 (c :: r) (bump c.s L) := by
    refine ⟨by rw [List.flatMap_cons]; exact hcn, ?_, ?_, ?_, ?_, ?_, ?_⟩
    · intro t ht
      rcases List.mem_cons.1 ht with rfl | ht
      · rw [hc.m, hc.mem_s]
        have e1 := h1.mem a (by simp)
        have e2 := h1.mem b (by simp)
        rcases Nat.le_total a.m b.m with q | q
        · rw [Nat.min_eq_left q]; exact .inl e1
        · rw [Nat.min_eq_right q]; exact .inr e2
      · exact h1.mem t (by simp [ht])
    · intro t ht i hi
      rcases List.mem_cons.1 ht with rfl | ht
      · rcases hc.mem_s.1 hi with q | q
        · exact h1.lt a (by simp) i q
        · exact h1.lt b (by simp) i q
      · exact h1.lt t (by simp [ht]) i hi
    · rw [← h1.sum]; simp [hc.n]; omega
    · intro i
      have e1 := h1.len i
      have e2 := count_le_one (nodup_app.1 hcn).1 i
      simp only [List.length_cons] at e1 ⊢
      unfold bump
      omega
    · have e1 := h1.tot
      have e2 := hc.s.length_eq
      simp only [List.map_cons, List.sum_cons, List.length_append] at e1 e2 ⊢
      omega
    · intro L' hr'
      exact h1.run L' (.step (List.Perm.refl _) (fun t ht => Lt.of_not (ha t ht) (Fst.ne h2 ht)) (fun t ht => Lt.of_not (hb t ht) (hb2 t ht)) hc (List.Perm.refl _) hr')
  exact base.perm hr.symm
theorem Fst.done {N S : Nat} {F0 F : List Tr} {L : Nat → Nat} (h : Fst N S F0 F L) (hl : F.length ≤ 1) : Run F0 (fun _ => 0) L := h.run L (.stop hl)

theorem sum_mem {α : Type} {f : α → Nat} {l : List α} {x : α} (h : x ∈ l) : f x ≤ (l.map f).sum := by
  induction l with
  | nil => cases h
  | cons y l ih =>
    simp only [List.map_cons, List.sum_cons]
    rcases List.mem_cons.1 h with rfl | h
    · omega
    · have := ih h; omega
theorem Fst.size {N S : Nat} {F0 F : List Tr} {L : Nat → Nat} (h : Fst N S F0 F L) {t : Tr} (ht : t ∈ F) : t.s.length ≤ N := Nat.le_trans (sum_mem (f := fun t : Tr => t.s.length) ht) h.tot
theorem Fst.count {N S : Nat} {F0 F : List Tr} {L : Nat → Nat} (h : Fst N S F0 F L) {t : Tr} (ht : t ∈ F) : t.n ≤ S := by rw [← h.sum]; exact sum_mem ht
/-- Two of them together. -/
theorem Fst.two {N S : Nat} {F0 F r : List Tr} {L : Nat → Nat} {a b : Tr} (h : Fst N S F0 F L) (hp : F.Perm (a :: b :: r)) : a.n + b.n ≤ S ∧ a.s.length + b.s.length ≤ N := by
  have h1 := (h.perm hp).sum
  have h2 := (h.perm hp).tot
  simp only [List.map_cons, List.sum_cons] at h1 h2
  omega

/-! ### the trees of counts -/
def leaf (i c : Nat) : Tr := ⟨c, i, [i]⟩
def forestFrom : Nat → List Nat → List Tr
  | _, [] => []
  | k, c :: l => if 0 < c then leaf k c :: forestFrom (k + 1) l else forestFrom (k + 1) l
def forest (l : List Nat) : List Tr := forestFrom 0 l
theorem forestFrom_snoc (k : Nat) (l : List Nat) (c : Nat) : forestFrom k (l ++ [c]) = forestFrom k l ++ (if 0 < c then [leaf (k + l.length) c] else []) := by
  induction l generalizing k with
  | nil => simp [forestFrom]
  | cons d l ih =>
    simp only [List.cons_append, forestFrom, ih, List.length_cons]
    rw [show k + 1 + l.length = k + (l.length + 1) by omega]
    split <;> rfl
theorem forest_snoc (l : List Nat) (c : Nat) : forest (l ++ [c]) = forest l ++ (if 0 < c then [leaf l.length c] else []) := by
  unfold forest; rw [forestFrom_snoc, Nat.zero_add]
theorem mem_forestFrom {k : Nat} {l : List Nat} {t : Tr} (h : t ∈ forestFrom k l) : ∃ j, ∃ h : j < l.length, t = leaf (k + j) l[j] ∧ 0 < l[j] := by
  induction l generalizing k with
  | nil => cases h
  | cons c l ih =>
    simp only [forestFrom] at h
    split at h
    · rename_i hc
      rcases List.mem_cons.1 h with rfl | h
      · exact ⟨0, by simp, by simp, by simpa using hc⟩
      · obtain ⟨j, hj, e, q⟩ := ih h
        exact ⟨j + 1, by simp only [List.length_cons]; omega, by rw [e]; simp only [List.getElem_cons_succ]; congr 1; omega, by simpa using q⟩
    · obtain ⟨j, hj, e, q⟩ := ih h
      exact ⟨j + 1, by simp only [List.length_cons]; omega, by rw [e]; simp only [List.getElem_cons_succ]; congr 1; omega, by simpa using q⟩
theorem forestFrom_at {k : Nat} {l : List Nat} {j : Nat} (hj : j < l.length) (h : 0 < l[j]) : leaf (k + j) l[j] ∈ forestFrom k l := by
  induction l generalizing k j with
  | nil => simp at hj
  | cons c l ih =>
    simp only [forestFrom]
    cases j with
    | zero => simp only [List.getElem_cons_zero] at h ⊢; rw [if_pos h]; simp
    | succ j =>
      simp only [List.getElem_cons_succ] at h ⊢
      have := ih (k := k + 1) (by simpa using hj) h
      rw [show k + 1 + j = k + (j + 1) by omega] at this
      split
      · exact List.mem_cons_of_mem _ this
      · exact this
theorem forestFrom_syms {k : Nat} {l : List Nat} : (forestFrom k l).flatMap Tr.s = (forestFrom k l).map Tr.m := by
  induction l generalizing k with
  | nil => rfl
  | cons c l ih => simp only [forestFrom]; split <;> simp [ih, leaf]
theorem forestFrom_ge {k : Nat} {l : List Nat} {t : Tr} (h : t ∈ forestFrom k l) : k ≤ t.m := by
  obtain ⟨j, _, rfl, _⟩ := mem_forestFrom h
  simp [leaf]
theorem forestFrom_nodup {k : Nat} {l : List Nat} : ((forestFrom k l).map Tr.m).Nodup := by
  induction l generalizing k with
  | nil => simp [forestFrom]
  | cons c l ih =>
    simp only [forestFrom]
    split
    · rw [List.map_cons, List.nodup_cons]
      refine ⟨fun hm => ?_, ih⟩
      obtain ⟨t, ht, e⟩ := List.mem_map.1 hm
      have := forestFrom_ge ht
      simp [leaf] at e
      omega
    · exact ih
theorem forestFrom_length {k : Nat} {l : List Nat} : (forestFrom k l).length ≤ l.length := by
  induction l generalizing k with
  | nil => simp [forestFrom]
  | cons c l ih => have := ih (k := k + 1); simp only [forestFrom]; split <;> simp <;> omega
theorem forestFrom_sum {k : Nat} {l : List Nat} : ((forestFrom k l).map Tr.n).sum = l.sum := by
  induction l generalizing k with
  | nil => rfl
  | cons c l ih => simp only [forestFrom]; split <;> simp [ih, leaf]; omega
theorem forestFrom_tot {k : Nat} {l : List Nat} : ((forestFrom k l).map fun t => t.s.length).sum ≤ l.length := by
  induction l generalizing k with
  | nil => simp [forestFrom]
  | cons c l ih => have := ih (k := k + 1); simp only [forestFrom]; split <;> simp [leaf] <;> omega
theorem Fst.start (cs : List Nat) : Fst cs.length cs.sum (forest cs) (forest cs) (fun _ => 0) where
  nd := by unfold forest; rw [forestFrom_syms]; exact forestFrom_nodup
  mem t ht := by obtain ⟨j, _, rfl, _⟩ := mem_forestFrom ht; simp [leaf]
  lt t ht i hi := by obtain ⟨j, hj, rfl, _⟩ := mem_forestFrom ht; simp [leaf] at hi; omega
  sum := forestFrom_sum
  len i := by have := forestFrom_length (k := 0) (l := cs); unfold forest; omega
  tot := forestFrom_tot
  run L' h := h

/-! ### how long codes become -/
def fib : Nat → Nat
  | 0 => 0
  | 1 => 1
  | n + 2 => fib (n + 1) + fib n
theorem fib_step (n : Nat) : fib (n + 2) = fib (n + 1) + fib n := rfl
theorem fib_mono_one (n : Nat) : fib n ≤ fib (n + 1) := by
  induction n with
  | zero => simp [fib]
  | succ n ih => rw [fib_step n]; omega
theorem fib_mono {a b : Nat} (h : a ≤ b) : fib a ≤ fib b := by
  induction h with
  | refl => exact Nat.le_refl _
  | step _ ih => exact Nat.le_trans ih (fib_mono_one _)
/-- lo: the least count that is. -/
structure Hgt (lo : Nat) (F : List Tr) (L : Nat → Nat) : Prop where
  own : ∀ t, t ∈ F → ∀ i, i ∈ t.s → fib (L i + 2) * lo ≤ t.n
  oth : ∀ t u r, F.Perm (t :: u :: r) → ∀ i, i ∈ t.s → fib (L i + 1) * lo ≤ u.n
  out : ∀ i, 0 < L i → ∃ t, t ∈ F ∧ i ∈ t.s
theorem Lt.le {a b : Tr} (h : Lt a b) : a.n ≤ b.n := by unfold Lt at h; omega
theorem perm_pick {α : Type} {l : List α} {t u : α} (ht : t ∈ l) (hu : u ∈ l) (hne : t ≠ u) : ∃ r, l.Perm (t :: u :: r) := by
  obtain ⟨l1, h1⟩ : ∃ l1, l.Perm (t :: l1) := by
    obtain ⟨x, y, rfl⟩ := List.append_of_mem ht
    exact ⟨x ++ y, List.perm_middle⟩
  have hu1 : u ∈ l1 := by
    rcases List.mem_cons.1 (h1.mem_iff.1 hu) with e | e
    · exact (hne e.symm).elim
    · exact e
  obtain ⟨x, y, rfl⟩ := List.append_of_mem hu1
  exact ⟨x ++ y, h1.trans (List.Perm.cons t List.perm_middle)⟩
theorem bump_le {s : List Nat} (hn : s.Nodup) (L : Nat → Nat) (i : Nat) : bump s L i ≤ L i + 1 := by have := count_le_one hn i; unfold bump; omega
theorem bump_not {s : List Nat} {i : Nat} (h : i ∉ s) (L : Nat → Nat) : bump s L i = L i := by unfold bump; rw [List.count_eq_zero_of_not_mem h]; rfl
/-- A longer run's words: sets of symbols stay apart. -/
theorem Run.heights {lo : Nat} {F : List Tr} {L L' : Nat → Nat} (h : Run F L L') (hn : (F.flatMap Tr.s).Nodup) (hh : Hgt lo F L) : ∀ i, 0 < L' i → fib (L' i + 2) * lo ≤ (F.map Tr.n).sum := by
  induction h with
  | stop hl =>
    rename_i F L
    intro i hi
    obtain ⟨t, ht, hit⟩ := hh.out i hi
    have h1 := hh.own t ht i hit
    obtain ⟨x, y, rfl⟩ := List.append_of_mem ht
    have hp : (x ++ t :: y).Perm (t :: (x ++ y)) := List.perm_middle
    rw [sum_perm (hp.map Tr.n)]
    simp only [List.map_cons, List.sum_cons]
    omega
  | step hp ha hb hc hr hrun ih =>
    rename_i F L L' a b c r r'
    have hnd := ((hp.flatMap_right Tr.s).nodup_iff).1 hn
    rw [List.flatMap_cons, List.flatMap_cons] at hnd
    have hcr : (c.s ++ r.flatMap Tr.s).Perm (a.s ++ (b.s ++ r.flatMap Tr.s)) := by rw [← List.append_assoc]; exact hc.s.append_right _
    have hcn : (c.s ++ r.flatMap Tr.s).Nodup := (hcr.nodup_iff).2 hnd
    have hcs := (nodup_app.1 hcn).1
    have hsum : (F.map Tr.n).sum = (r'.map Tr.n).sum := by
      rw [sum_perm (hp.map Tr.n), sum_perm (hr.map Tr.n)]
      simp [hc.n]; omega
    rw [hsum]
    have hab : a.n ≤ b.n := (ha b (by simp)).le
    -- the new tree's symbols
    have hnew : ∀ i, i ∈ c.s → fib (L i + 2) * lo ≤ b.n ∧ fib (L i + 1 + 2) * lo ≤ c.n := by
      intro i hi
      have e : fib (L i + 1 + 2) * lo = fib (L i + 2) * lo + fib (L i + 1) * lo := by
        rw [show L i + 1 + 2 = (L i + 1) + 2 from rfl, fib_step (L i + 1), Nat.add_mul]
      rw [e, hc.n]
      rcases hc.mem_s.1 hi with q | q
      · have h1 := hh.own a (hp.mem_iff.2 (by simp)) i q
        have h2 := hh.oth a b r hp i q
        omega
      · have h1 := hh.own b (hp.mem_iff.2 (by simp)) i q
        have h2 := hh.oth b a r (hp.trans (List.Perm.swap _ _ _)) i q
        omega
    have hcnt : ∀ i, i ∈ c.s → bump c.s L i = L i + 1 := fun i hi => by
      have := List.count_pos_iff.2 hi
      have := count_le_one hcs i
      unfold bump; omega
    have hnot : ∀ t, t ∈ r → ∀ i, i ∈ t.s → bump c.s L i = L i := fun t ht i hi => bump_not (fun hic => (nodup_app.1 hcn).2.2 i hic (List.mem_flatMap.2 ⟨t, ht, hi⟩)) L
    refine ih (((hr.flatMap_right Tr.s).nodup_iff).2 (by rw [List.flatMap_cons]; exact hcn)) ⟨?_, ?_, ?_⟩
    · intro t ht i hi
      rcases List.mem_cons.1 (hr.mem_iff.1 ht) with rfl | ht
      · rw [hcnt i hi]; exact (hnew i hi).2
      · rw [hnot t ht i hi]; exact hh.own t (hp.mem_iff.2 (by simp [ht])) i hi
    · intro t u q hq i hi
      have h3 : (c :: r).Perm (t :: u :: q) := hr.symm.trans hq
      have hub : ∀ v, v ∈ r → b.n ≤ v.n := fun v hv => (hb v hv).le
      by_cases htc : t = c
      · subst htc
        have h4 : r.Perm (u :: q) := (List.perm_cons t).1 h3
        have h5 := hub u (h4.mem_iff.2 (by simp))
        rw [hcnt i hi]
        have := (hnew i hi).1
        exact Nat.le_trans this h5
      · have htr : t ∈ r := by
          rcases List.mem_cons.1 (h3.mem_iff.2 (List.mem_cons_self)) with e | e
          · exact (htc e).elim
          · exact e
        rw [hnot t htr i hi]
        by_cases huc : u = c
        · subst huc
          obtain ⟨x, y, rfl⟩ := List.append_of_mem htr
          have h6 : F.Perm (t :: a :: (b :: (x ++ y))) := by
            refine hp.trans ?_
            have : (x ++ t :: y).Perm (t :: (x ++ y)) := List.perm_middle
            refine ((this.cons b).cons a).trans ?_
            refine ((List.Perm.swap t b _).cons a).trans ?_
            exact List.Perm.swap t a _
          have := hh.oth t a _ h6 i hi
          rw [hc.n]; omega
        · have h7 : ∃ q', r.Perm (t :: u :: q') := by
            have hcq : c ∈ t :: u :: q := h3.mem_iff.1 (by simp)
            have hcq' : c ∈ q := by
              rcases List.mem_cons.1 hcq with e | e
              · exact (htc e.symm).elim
              · rcases List.mem_cons.1 e with e | e
                · exact (huc e.symm).elim
                · exact e
            obtain ⟨x, y, rfl⟩ := List.append_of_mem hcq'
            refine ⟨x ++ y, (List.perm_cons c).1 (h3.trans ?_)⟩
            have : (x ++ c :: y).Perm (c :: (x ++ y)) := List.perm_middle
            refine ((this.cons u).cons t).trans ?_
            refine ((List.Perm.swap c u _).cons t).trans ?_
            exact List.Perm.swap c t _
          obtain ⟨q', h7⟩ := h7
          have h8 : F.Perm (t :: u :: (a :: b :: q')) := by
            refine hp.trans ?_
            refine ((h7.cons b).cons a).trans ?_
            have e1 : (a :: b :: t :: u :: q') = [a, b] ++ ([t, u] ++ q') := rfl
            have e2 : (t :: u :: a :: b :: q') = [t, u] ++ ([a, b] ++ q') := rfl
            rw [e1, e2, ← List.append_assoc, ← List.append_assoc]
            exact (List.perm_append_comm).append_right q'
          exact hh.oth t u _ h8 i hi
    · intro i hi
      by_cases hic : i ∈ c.s
      · exact ⟨c, hr.mem_iff.2 (by simp), hic⟩
      · rw [bump_not hic] at hi
        obtain ⟨t, ht, hit⟩ := hh.out i hi
        have ht' := hp.mem_iff.1 ht
        rcases List.mem_cons.1 ht' with rfl | ht'
        · exact (hic (hc.mem_s.2 (.inl hit))).elim
        · rcases List.mem_cons.1 ht' with rfl | ht'
          · exact (hic (hc.mem_s.2 (.inr hit))).elim
          · exact ⟨t, hr.mem_iff.2 (by simp [ht']), hit⟩
theorem Hgt.start {lo : Nat} (cs : List Nat) (hlo : ∀ c, c ∈ cs → 0 < c → lo ≤ c) : Hgt lo (forest cs) (fun _ => 0) := by
  have key : ∀ t, t ∈ forest cs → lo ≤ t.n := fun t ht => by
    obtain ⟨j, hj, rfl, h⟩ := mem_forestFrom ht
    exact hlo _ (List.getElem_mem hj) h
  refine ⟨fun t ht i _ => ?_, fun t u r hp i _ => ?_, fun i h => by simp at h⟩
  · have := key t ht; simpa [fib] using this
  · have := key u (hp.mem_iff.2 (by simp)); simpa [fib] using this
theorem heights {lo : Nat} {cs : List Nat} (hlo : ∀ c, c ∈ cs → 0 < c → lo ≤ c) {L : Nat → Nat} (h : Run (forest cs) (fun _ => 0) L) {i : Nat} (hi : 0 < L i) : fib (L i + 2) * lo ≤ cs.sum := by
  have := h.heights (Fst.start cs).nd (Hgt.start cs hlo) i hi
  rwa [(Fst.start cs).sum] at this
end Go.Hf
namespace Go.Hf
/-- What joining gives: how long each symbol's code is. -/
def Jd (cs : List Nat) (L : Nat → Nat) : Prop :=
  (∃ t, forest cs = [t] ∧ L = fun i => if i = t.m then 1 else 0) ∨ ((forest cs).length ≠ 1 ∧ Run (forest cs) (fun _ => 0) L)
theorem Jd.det {cs : List Nat} {L L' : Nat → Nat} (h : Jd cs L) (h' : Jd cs L') : L = L' := by
  rcases h with ⟨t, e, rfl⟩ | ⟨hn, hr⟩
  · rcases h' with ⟨t', e', rfl⟩ | ⟨hn', _⟩
    · rw [e] at e'; cases e'; rfl
    · exact (hn' (by rw [e]; rfl)).elim
  · rcases h' with ⟨t', e', rfl⟩ | ⟨_, hr'⟩
    · exact (hn (by rw [e']; rfl)).elim
    · exact hr.det hr' (List.Perm.refl _)
def half (c : Nat) : Nat := (c + 1) / 2
inductive IsLens : List Nat → (Nat → Nat) → Prop
  | done {cs : List Nat} {L : Nat → Nat} (h : Jd cs L) (hs : ∀ i, i < cs.length → L i ≤ 11) : IsLens cs L
  | half {cs : List Nat} {L1 L : Nat → Nat} (h : Jd cs L1) (hs : ∃ i, i < cs.length ∧ 11 < L1 i) (k : IsLens (cs.map half) L) : IsLens cs L
theorem IsLens.det {cs : List Nat} {L L' : Nat → Nat} (h : IsLens cs L) (h' : IsLens cs L') : L = L' := by
  induction h with
  | done h hs =>
    cases h' with
    | done k _ => exact h.det k
    | half k ks _ => obtain ⟨i, hi, q⟩ := ks; rw [← h.det k] at q; have := hs i hi; omega
  | half h hs _ ih =>
    cases h' with
    | done k ks => obtain ⟨i, hi, q⟩ := hs; rw [h.det k] at q; have := ks i hi; omega
    | half _ _ k => exact ih k
theorem fib14 : fib 14 = 377 := rfl
theorem fib13 : fib 13 = 233 := rfl
theorem fib12 : fib 12 = 144 := rfl
theorem Jd.heights {lo : Nat} {cs : List Nat} (hlo : ∀ c, c ∈ cs → 0 < c → lo ≤ c) {L : Nat → Nat} (h : Jd cs L) {i : Nat} (hi : 1 < L i) : fib (L i + 2) * lo ≤ cs.sum := by
  rcases h with ⟨t, e, rfl⟩ | ⟨_, hr⟩
  · simp only at hi; split at hi <;> omega
  · exact Hf.heights hlo hr (by omega)
theorem sum_le_ones {cs : List Nat} (h : ∀ c, c ∈ cs → c ≤ 1) : cs.sum ≤ cs.length := by
  induction cs with
  | nil => simp
  | cons c l ih =>
    have h1 := h c (by simp)
    have h2 := ih (fun d hd => h d (by simp [hd]))
    simp only [List.sum_cons, List.length_cons]
    omega
theorem half_sum_le (cs : List Nat) : (cs.map half).sum ≤ cs.sum := by
  induction cs with
  | nil => simp
  | cons c l ih => simp only [List.map_cons, List.sum_cons, half]; omega
theorem half_sum_lt {cs : List Nat} (h : ∃ c, c ∈ cs ∧ 2 ≤ c) : (cs.map half).sum < cs.sum := by
  induction cs with
  | nil => obtain ⟨c, hc, _⟩ := h; cases hc
  | cons d l ih =>
    obtain ⟨c, hc, h2⟩ := h
    simp only [List.map_cons, List.sum_cons, half]
    rcases List.mem_cons.1 hc with rfl | hc
    · have := half_sum_le l; omega
    · have := ih ⟨c, hc, h2⟩; omega
/-- Where a code is too long, halving makes less. -/
theorem Jd.falls {cs : List Nat} {L : Nat → Nat} (h : Jd cs L) (hl : cs.length ≤ 256) (hs : ∃ i, i < cs.length ∧ 11 < L i) : (cs.map half).sum < cs.sum := by
  refine half_sum_lt ?_
  apply Classical.byContradiction
  intro hno
  have h1 : ∀ c, c ∈ cs → c ≤ 1 := fun c hc => by
    apply Classical.byContradiction
    intro q
    exact hno ⟨c, hc, by omega⟩
  obtain ⟨i, _, hi⟩ := hs
  have h2 := h.heights (lo := 1) (fun c _ hc => hc) (show 1 < L i by omega)
  have h3 := fib_mono (show 14 ≤ L i + 2 by omega)
  rw [fib14] at h3
  have := sum_le_ones h1
  omega
end Go.Hf
namespace Go.Hf
open Classical in
/-- How many joinings a tree goes through yet, and what that says of two trees. -/
theorem Run.depths {F : List Tr} {L L' : Nat → Nat} (h : Run F L L') (hn : (F.flatMap Tr.s).Nodup) (hm : ∀ t, t ∈ F → t.m ∈ t.s) (hpos : ∀ t, t ∈ F → 0 < t.n) :
    ∃ D : Tr → Nat, (∀ t, t ∈ F → ∀ i, i ∈ t.s → L' i = L i + D t) ∧ (∀ i, (∀ t, t ∈ F → i ∉ t.s) → L' i = L i) ∧ (2 ≤ F.length → ∀ t, t ∈ F → 0 < D t) ∧
      (∀ t u q, F.Perm (t :: u :: q) → t.n < u.n → D u ≤ D t) ∧
      (∀ v u q, F.Perm (v :: u :: q) → (∀ x, x ∈ q → v.n < u.n + x.n) → D u ≤ D v + 1) ∧
      (∀ v u q, F.Perm (v :: u :: q) → (∀ x, x ∈ q → v.n ≤ u.n + x.n) → D u ≤ D v + 2) := by
  induction h with
  | stop hl =>
    refine ⟨fun _ => 0, fun _ _ _ _ => rfl, fun _ _ => rfl, fun h => by omega, ?_, ?_, ?_⟩ <;>
    · intro t u q hp
      have := hp.length_eq
      simp only [List.length_cons] at this
      omega
  | step hp ha hb hc hr hrun ih =>
    rename_i F L L' a b c r r'
    have hnd := ((hp.flatMap_right Tr.s).nodup_iff).1 hn
    rw [List.flatMap_cons, List.flatMap_cons] at hnd
    have hcr : (c.s ++ r.flatMap Tr.s).Perm (a.s ++ (b.s ++ r.flatMap Tr.s)) := by rw [← List.append_assoc]; exact hc.s.append_right _
    have hcn : (c.s ++ r.flatMap Tr.s).Nodup := (hcr.nodup_iff).2 hnd
    have hcs := (nodup_app.1 hcn).1
    have ma := hm a (hp.mem_iff.2 (by simp))
    have mb := hm b (hp.mem_iff.2 (by simp))
    have mr : ∀ t, t ∈ r → t.m ∈ t.s := fun t ht => hm t (hp.mem_iff.2 (by simp [ht]))
    have na := hpos a (hp.mem_iff.2 (by simp))
    have nb := hpos b (hp.mem_iff.2 (by simp))
    have nr : ∀ t, t ∈ r → 0 < t.n := fun t ht => hpos t (hp.mem_iff.2 (by simp [ht]))
    have hab : a.n ≤ b.n := (ha b (by simp)).le
    have hbr : ∀ t, t ∈ r → b.n ≤ t.n := fun t ht => (hb t ht).le
    -- who is of r is neither a nor b
    have rna : ∀ t, t ∈ r → t ≠ a := fun t ht e => (nodup_app.1 hnd).2.2 a.m ma (List.mem_append.2 (.inr (List.mem_flatMap.2 ⟨t, ht, e ▸ ma⟩)))
    have rnb : ∀ t, t ∈ r → t ≠ b := fun t ht e => (nodup_app.1 (nodup_app.1 hnd).2.1).2.2 b.m mb (List.mem_flatMap.2 ⟨t, ht, e ▸ mb⟩)
    have nab : a ≠ b := fun e => (nodup_app.1 hnd).2.2 a.m ma (List.mem_append.2 (.inl (e ▸ ma)))
    have hm' : ∀ t, t ∈ r' → t.m ∈ t.s := by
      intro t ht
      rcases List.mem_cons.1 (hr.mem_iff.1 ht) with rfl | ht
      · rw [hc.m, hc.mem_s]
        rcases Nat.le_total a.m b.m with q | q
        · rw [Nat.min_eq_left q]; exact .inl ma
        · rw [Nat.min_eq_right q]; exact .inr mb
      · exact mr t ht
    have hpos' : ∀ t, t ∈ r' → 0 < t.n := by
      intro t ht
      rcases List.mem_cons.1 (hr.mem_iff.1 ht) with rfl | ht
      · rw [hc.n]; omega
      · exact nr t ht
    obtain ⟨D, d1, d0, d2, dP, dQ, dR⟩ := ih (((hr.flatMap_right Tr.s).nodup_iff).2 (by rw [List.flatMap_cons]; exact hcn)) hm' hpos'
    have hcnt : ∀ i, i ∈ c.s → bump c.s L i = L i + 1 := fun i hi => by
      have := List.count_pos_iff.2 hi
      have := count_le_one hcs i
      unfold bump; omega
    have hnot : ∀ t, t ∈ r → ∀ i, i ∈ t.s → bump c.s L i = L i := fun t ht i hi => bump_not (fun hic => (nodup_app.1 hcn).2.2 i hic (List.mem_flatMap.2 ⟨t, ht, hi⟩)) L
    -- the two laws at c
    have cP1 : ∀ u, u ∈ r → c.n < u.n → D u ≤ D c := fun u hu hlt => by
      obtain ⟨x, y, rfl⟩ := List.append_of_mem hu
      exact dP c u (x ++ y) (hr.trans (List.Perm.cons c List.perm_middle)) hlt
    have cP2 : ∀ u, u ∈ r → u.n < c.n → D c ≤ D u := fun u hu hlt => by
      obtain ⟨x, y, rfl⟩ := List.append_of_mem hu
      exact dP u c (x ++ y) (hr.trans ((List.Perm.cons c List.perm_middle).trans (List.Perm.swap _ _ _))) hlt
    have inr : ∀ {t u : Tr} {q : List Tr}, F.Perm (t :: u :: q) → t ∈ r → u ∈ r → ∃ q', r.Perm (t :: u :: q') ∧ q.Perm (a :: b :: q') := by
      intro t u q hq ht hu
      have htu : t ≠ u := by
        intro e
        have h9 := ((hq.flatMap_right Tr.s).nodup_iff).1 hn
        rw [List.flatMap_cons, List.flatMap_cons] at h9
        exact (nodup_app.1 h9).2.2 t.m (mr t ht) (List.mem_append.2 (.inl (e ▸ mr t ht)))
      obtain ⟨q', h1⟩ := perm_pick ht hu htu
      refine ⟨q', h1, ?_⟩
      have h2 : (t :: u :: q).Perm (t :: u :: (a :: b :: q')) := by
        refine hq.symm.trans (hp.trans ?_)
        refine ((h1.cons b).cons a).trans ?_
        have e1 : (a :: b :: t :: u :: q') = [a, b] ++ ([t, u] ++ q') := rfl
        have e2 : (t :: u :: a :: b :: q') = [t, u] ++ ([a, b] ++ q') := rfl
        rw [e1, e2, ← List.append_assoc, ← List.append_assoc]
        exact (List.perm_append_comm).append_right q'
      exact (List.perm_cons u).1 ((List.perm_cons t).1 h2)
    have inc : ∀ {t u : Tr} {q' : List Tr}, r.Perm (t :: u :: q') → r'.Perm (t :: u :: (c :: q')) := by
      intro t u q' h1
      refine hr.trans ((h1.cons c).trans ?_)
      exact (List.Perm.swap _ _ _).trans ((List.Perm.swap _ _ _).cons t)
    -- what a pair with a or b looks like
    have cases4 : ∀ {t u : Tr} {q : List Tr}, F.Perm (t :: u :: q) → (t ∈ r ∧ u ∈ r) ∨ (t ∈ r ∧ (u = a ∨ u = b)) ∨ ((t = a ∨ t = b) ∧ u ∈ r) ∨ ((t = a ∨ t = b) ∧ (u = a ∨ u = b)) := by
      intro t u q hq
      have ht := hp.mem_iff.1 (hq.mem_iff.2 (List.mem_cons_self (a := t)))
      have hu := hp.mem_iff.1 (hq.mem_iff.2 (show u ∈ t :: u :: q by simp))
      rcases List.mem_cons.1 ht with e1 | ht
      · rcases List.mem_cons.1 hu with e2 | hu
        · exact .inr (.inr (.inr ⟨.inl e1, .inl e2⟩))
        · rcases List.mem_cons.1 hu with e2 | hu
          · exact .inr (.inr (.inr ⟨.inl e1, .inr e2⟩))
          · exact .inr (.inr (.inl ⟨.inl e1, hu⟩))
      · rcases List.mem_cons.1 ht with e1 | ht
        · rcases List.mem_cons.1 hu with e2 | hu
          · exact .inr (.inr (.inr ⟨.inr e1, .inl e2⟩))
          · rcases List.mem_cons.1 hu with e2 | hu
            · exact .inr (.inr (.inr ⟨.inr e1, .inr e2⟩))
            · exact .inr (.inr (.inl ⟨.inr e1, hu⟩))
        · rcases List.mem_cons.1 hu with e2 | hu
          · exact .inr (.inl ⟨ht, .inl e2⟩)
          · rcases List.mem_cons.1 hu with e2 | hu
            · exact .inr (.inl ⟨ht, .inr e2⟩)
            · exact .inl ⟨ht, hu⟩
    refine ⟨fun t => if t = a ∨ t = b then D c + 1 else D t, ?_, ?_, ?_, ?_, ?_, ?_⟩
    · intro t ht i hi
      rcases List.mem_cons.1 (hp.mem_iff.1 ht) with rfl | ht
      · have hic : i ∈ c.s := hc.mem_s.2 (.inl hi)
        rw [d1 c (hr.mem_iff.2 (by simp)) i hic, hcnt i hic]
        simp only [true_or, if_true]; omega
      · rcases List.mem_cons.1 ht with rfl | ht
        · have hic : i ∈ c.s := hc.mem_s.2 (.inr hi)
          rw [d1 c (hr.mem_iff.2 (by simp)) i hic, hcnt i hic]
          simp only [or_true, if_true]; omega
        · rw [d1 t (hr.mem_iff.2 (by simp [ht])) i hi, hnot t ht i hi]
          simp only [rna t ht, rnb t ht, or_self, if_false]
    · intro i hi
      have h1 : i ∉ c.s := fun h => by
        rcases hc.mem_s.1 h with q | q
        · exact hi a (hp.mem_iff.2 (by simp)) q
        · exact hi b (hp.mem_iff.2 (by simp)) q
      rw [d0 i (fun t ht => by
        rcases List.mem_cons.1 (hr.mem_iff.1 ht) with rfl | ht
        · exact h1
        · exact hi t (hp.mem_iff.2 (by simp [ht]))), bump_not h1]
    · intro _ t ht
      rcases List.mem_cons.1 (hp.mem_iff.1 ht) with rfl | ht
      · simp
      · rcases List.mem_cons.1 ht with rfl | ht
        · simp
        · simp only [rna t ht, rnb t ht, or_self, if_false]
          refine d2 ?_ t (hr.mem_iff.2 (by simp [ht]))
          rw [hr.length_eq]
          have := List.length_pos_of_mem ht
          simp only [List.length_cons]; omega
    · -- P
      intro t u q hq hlt
      rcases cases4 hq with ⟨ht, hu⟩ | ⟨ht, hu⟩ | ⟨ht, hu⟩ | ⟨ht, hu⟩
      · simp only [rna t ht, rnb t ht, rna u hu, rnb u hu, or_self, if_false]
        obtain ⟨q', h1, _⟩ := inr hq ht hu
        exact dP t u (c :: q') (inc h1) hlt
      · have := hbr t ht
        rcases hu with rfl | rfl <;> omega
      · simp only [ht, if_true, rna u hu, rnb u hu, or_self, if_false]
        obtain ⟨x, y, e⟩ := List.append_of_mem hu
        refine dQ c u (x ++ y) (hr.trans ?_) (fun z hz => ?_)
        · rw [e]; exact List.Perm.cons c List.perm_middle
        · have hz' : z ∈ r := by rw [e]; rcases List.mem_append.1 hz with q | q <;> simp [q]
          have e1 := hbr z hz'
          have e2 := hbr u hu
          rw [hc.n]
          rcases ht with rfl | rfl <;> omega
      · simp only [ht, hu, if_true]; omega
    · -- Q
      intro v u q hq hle
      rcases cases4 hq with ⟨ht, hu⟩ | ⟨ht, hu⟩ | ⟨ht, hu⟩ | ⟨ht, hu⟩
      · simp only [rna v ht, rnb v ht, rna u hu, rnb u hu, or_self, if_false]
        obtain ⟨q', h1, h2⟩ := inr hq ht hu
        refine dQ v u (c :: q') (inc h1) (fun z hz => ?_)
        rcases List.mem_cons.1 hz with rfl | hz
        · have := hle a (h2.mem_iff.2 (by simp))
          rw [hc.n]; omega
        · exact hle z (h2.mem_iff.2 (by simp [hz]))
      · simp only [rna v ht, rnb v ht, or_self, if_false, hu, if_true]
        -- the other one of a, b is in q
        have hvc : v.n < c.n := by
          rw [hc.n]
          have key : ∀ z, (z = a ∨ z = b) → z ≠ u → z ∈ q := fun z hz hne => by
            have : z ∈ v :: u :: q := hq.mem_iff.1 (hp.mem_iff.2 (by rcases hz with rfl | rfl <;> simp))
            rcases List.mem_cons.1 this with e | this
            · rcases hz with rfl | rfl
              · exact (rna v ht e.symm).elim
              · exact (rnb v ht e.symm).elim
            · rcases List.mem_cons.1 this with e | this
              · exact (hne e).elim
              · exact this
          rcases hu with rfl | rfl
          · exact hle b (key b (.inr rfl) (fun e => nab e.symm))
          · have := hle a (key a (.inl rfl) nab); omega
        have := cP2 v ht hvc
        omega
      · simp only [ht, if_true, rna u hu, rnb u hu, or_self, if_false]
        obtain ⟨x, y, e⟩ := List.append_of_mem hu
        have := dR c u (x ++ y) (hr.trans (by rw [e]; exact List.Perm.cons c List.perm_middle)) (fun z hz => by
          have hz' : z ∈ r := by rw [e]; rcases List.mem_append.1 hz with q | q <;> simp [q]
          have e1 := hbr z hz'
          have e2 := hbr u hu
          rw [hc.n]; omega)
        omega
      · simp only [ht, hu, if_true]; omega
    · -- R
      intro v u q hq hle
      rcases cases4 hq with ⟨ht, hu⟩ | ⟨ht, hu⟩ | ⟨ht, hu⟩ | ⟨ht, hu⟩
      · simp only [rna v ht, rnb v ht, rna u hu, rnb u hu, or_self, if_false]
        obtain ⟨q', h1, h2⟩ := inr hq ht hu
        refine dR v u (c :: q') (inc h1) (fun z hz => ?_)
        rcases List.mem_cons.1 hz with rfl | hz
        · have := hle a (h2.mem_iff.2 (by simp))
          rw [hc.n]; omega
        · exact hle z (h2.mem_iff.2 (by simp [hz]))
      · simp only [rna v ht, rnb v ht, or_self, if_false, hu, if_true]
        have hvc : v.n ≤ c.n := by
          rw [hc.n]
          have key : ∀ z, (z = a ∨ z = b) → z ≠ u → z ∈ q := fun z hz hne => by
            have : z ∈ v :: u :: q := hq.mem_iff.1 (hp.mem_iff.2 (by rcases hz with rfl | rfl <;> simp))
            rcases List.mem_cons.1 this with e | this
            · rcases hz with rfl | rfl
              · exact (rna v ht e.symm).elim
              · exact (rnb v ht e.symm).elim
            · rcases List.mem_cons.1 this with e | this
              · exact (hne e).elim
              · exact this
          rcases hu with rfl | rfl
          · exact hle b (key b (.inr rfl) (fun e => nab e.symm))
          · have := hle a (key a (.inl rfl) nab); omega
        by_cases heq : v.n < c.n
        · have := cP2 v ht heq; omega
        · obtain ⟨x, y, e⟩ := List.append_of_mem ht
          have := dQ v c (x ++ y) (hr.trans (by rw [e]; exact (List.Perm.cons c List.perm_middle).trans (List.Perm.swap _ _ _))) (fun z hz => by
            have hz' : z ∈ r := by rw [e]; rcases List.mem_append.1 hz with q | q <;> simp [q]
            have e1 := nr z hz'
            omega)
          omega
      · simp only [ht, if_true, rna u hu, rnb u hu, or_self, if_false]
        obtain ⟨x, y, e⟩ := List.append_of_mem hu
        have := dR c u (x ++ y) (hr.trans (by rw [e]; exact List.Perm.cons c List.perm_middle)) (fun z hz => by
          have hz' : z ∈ r := by rw [e]; rcases List.mem_append.1 hz with q | q <;> simp [q]
          have e1 := hbr z hz'
          have e2 := hbr u hu
          rw [hc.n]; omega)
        omega
      · simp only [ht, hu, if_true]; omega
end Go.Hf
namespace Go.Proofs.YtphakpikalmghaaGreat.Hu
open Go Go.RowKit Go.ChangeMaps Go.MapKept Go.Mg Go.Hf Go.Sort

def nv (i : Nat) : Value := .int .i64 i
theorem nv_one : ∀ (l : List Nat), ∀ u ∈ l.map nv, u.oneCell' = true := by
  intro l u hu
  obtain ⟨b, _, rfl⟩ := List.mem_map.1 hu
  rfl
theorem at_nv {w : World} {a : Option Addr} {c : Nat} {s : List Nat} (h : SlR w 1 (.slice a s.length c) s.length (s.map nv)) (h0 : 0 < s.length) :
    ∃ g off, a = some ⟨g, off, none⟩ ∧ g < w.heap.size ∧ s.length ≤ c ∧ ∀ i (hi : i < s.length), w.cell? ⟨g, off + i, none⟩ = some (.int .i64 (s[i] : Nat)) := by
  obtain ⟨_, a0, c0, e0, h1, _, _, hc⟩ := h
  simp only [Value.slice.injEq, true_and] at e0
  obtain ⟨rfl, rfl⟩ := e0
  obtain ⟨g, off, rfl, hg, hc⟩ := hc h0
  exact ⟨g, off, rfl, hg, h1, fun i hi => hc i _ (by rw [List.getElem?_map, List.getElem?_eq_getElem hi]; rfl)⟩
def IsMin (m : Nat) (s : List Nat) : Prop := m ∈ s ∧ ∀ i, i ∈ s → m ≤ i
theorem IsMin.pos {m : Nat} {s : List Nat} (h : IsMin m s) : 0 < s.length := List.length_pos_of_mem h.1
theorem IsMin.eq {m v : Nat} {s : List Nat} (h : IsMin m s) (hv : v ∈ s) (hl : ∀ j (hj : j < s.length), v ≤ s[j]) : v = m := by
  have h1 := h.2 v hv
  obtain ⟨j, hj, e⟩ := List.getElem_of_mem h.1
  have := hl j hj
  omega

set_option maxHeartbeats 1000000 in
theorem least_c (w : World) (n : Int) (a : Option Addr) (c : Nat) (s : List Nat) (m : Nat) (hs : SlR w 1 (.slice a s.length c) s.length (s.map nv)) (hm : IsMin m s) (hlen : s.length ≤ 1000) :
    Calls Tryz.prog 150 #[.agg #[.int .i64 n, .slice a s.length c]] w fun e w' => e = .returned (.int .i64 m) ∧ w' = w.alloc (.cells #[.int .i64 n, .slice a s.length c] 120) := by
  obtain ⟨g, off, rfl, hg, hcap, hc⟩ := at_nv hs hm.pos
  have hpos := hm.pos
  obtain ⟨W, hW⟩ : ∃ W, W = w.alloc (.cells #[.int .i64 n, .slice (some ⟨g, off, none⟩) s.length c] 120) := ⟨_, rfl⟩
  have hWh := alloc_at w (.cells #[.int .i64 n, .slice (some ⟨g, off, none⟩) s.length c] 120)
  rw [← hW] at hWh
  have c1 : W.cell? ⟨w.heap.size, 1, none⟩ = some (.slice (some ⟨g, off, none⟩) s.length c) := by rw [cell_of hWh]; rfl
  have hk : Kp (fun _ => False) w W := by rw [hW]; exact (Kp.refl _ _).alloc _
  have hc' : ∀ i (hi : i < s.length), W.cell? ⟨g, off + i, none⟩ = some (.int .i64 (s[i] : Nat)) := fun i hi => (hk.cell (p := ⟨g, off + i, none⟩) hg (fun q => q)).trans (hc i hi)
  have HC := Lib.hid hc'
  have d0 := hc 0 hpos
  rw [Nat.add_zero] at d0
  have m0 : s[0] ∈ s := List.getElem_mem _
  generalize s[0] = x0 at d0 m0
  have HM := Lib.hid hm
  clear hc hc' hs hm hk hWh
  go_enter Tryz.func150, Tryz.ntmps150
  go_wp2_with fail
  rw [← hW]
  have HW := Lib.hid hW
  clear hW
  go_wp2_with fail
  go_loopw [3, 4] (fun v i wr => ∃ (k : Nat) (x : Nat), k ≤ s.length ∧ i = .int .i64 k ∧ v = .int .i64 x ∧ x ∈ s ∧ (∀ j (hj : j < s.length), j < k → x ≤ s[j]) ∧ wr = W) (fun _ i _ => s.length - (intOf i).toNat)
  case atStart => exact ⟨0, x0, Nat.zero_le _, rfl, rfl, m0, fun j _ h => by omega, rfl⟩
  case round =>
    clear d0
    obtain ⟨k, x, hk, rfl, rfl, hx, hl, rfl⟩ := hrel
    have HL := Lib.hid hl
    clear hl
    by_cases hlt : k < s.length
    · have d0 := HC.out k hlt
      have hmem : s[k] ∈ s := List.getElem_mem _
      obtain ⟨y, hy⟩ : ∃ y, y = s[k] := ⟨_, rfl⟩
      rw [← hy] at d0 hmem
      have HY := Lib.hid hy
      clear hy
      go_wp2_with fail
      refine ⟨⟨k + 1, min x y, by omega, by go_num, by go_num, ?_, fun j hj hjk => ?_, by first | trivial | rfl⟩, by simp [intOf]; omega⟩
      · rcases Nat.le_total x y with q | q
        · rw [Nat.min_eq_left q]; exact hx
        · rw [Nat.min_eq_right q]; exact hmem
      · by_cases e : j = k
        · subst e; rw [← HY.out]; exact Nat.min_le_right _ _
        · exact Nat.le_trans (Nat.min_le_left _ _) (HL.out j hj (by omega))
    · obtain rfl : k = s.length := by omega
      go_wp2_with fail
      go_ret
      exact ⟨by rw [HM.out.eq hx (fun j hj => HL.out j hj hj)]; rfl, HW.out⟩
end Go.Proofs.YtphakpikalmghaaGreat.Hu
