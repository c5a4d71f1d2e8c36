/- Who has more is not longer; in plain words. -/
import Derived.Test.YtcecnkmhhbncdaaHuffR
namespace Go.Hf
open Classical in
/-- How many joinings a tree goes through yet, and what that says of two trees. -/
theorem Run.depths {F : List Tr} {L L' : Nat → Nat} (h : Run F L L') (hn : (F.flatMap Tr.s).Nodup) (hm : ∀ t, t ∈ F → t.m ∈ t.s) (hpos : ∀ t, t ∈ F → 0 < t.n) :
    ∃ D : Tr → Nat, (∀ t, t ∈ F → ∀ i, i ∈ t.s → L' i = L i + D t) ∧ (∀ i, (∀ t, t ∈ F → i ∉ t.s) → L' i = L i) ∧ (2 ≤ F.length → ∀ t, t ∈ F → 0 < D t) ∧
      (∀ t u q, F.Perm (t :: u :: q) → t.n < u.n → D u ≤ D t) ∧
      (∀ v u q, F.Perm (v :: u :: q) → (∀ x, x ∈ q → v.n < u.n + x.n) → D u ≤ D v + 1) ∧
      (∀ v u q, F.Perm (v :: u :: q) → (∀ x, x ∈ q → v.n ≤ u.n + x.n) → D u ≤ D v + 2) := by
  induction h with
  | stop hl =>
    refine ⟨fun _ => 0, fun _ _ _ _ => rfl, fun _ _ => rfl, fun h => by omega, ?_, ?_, ?_⟩ <;>
    · intro t u q hp
      have := hp.length_eq
      simp only [List.length_cons] at this
      omega
  | step hp ha hb hc hr hrun ih =>
    rename_i F L L' a b c r r'
    have hnd := ((hp.flatMap_right Tr.s).nodup_iff).1 hn
    rw [List.flatMap_cons, List.flatMap_cons] at hnd
    have hcr : (c.s ++ r.flatMap Tr.s).Perm (a.s ++ (b.s ++ r.flatMap Tr.s)) := by rw [← List.append_assoc]; exact hc.s.append_right _
    have hcn : (c.s ++ r.flatMap Tr.s).Nodup := (hcr.nodup_iff).2 hnd
    have hcs := (nodup_app.1 hcn).1
    have ma := hm a (hp.mem_iff.2 (by simp))
    have mb := hm b (hp.mem_iff.2 (by simp))
    have mr : ∀ t, t ∈ r → t.m ∈ t.s := fun t ht => hm t (hp.mem_iff.2 (by simp [ht]))
    have na := hpos a (hp.mem_iff.2 (by simp))
    have nb := hpos b (hp.mem_iff.2 (by simp))
    have nr : ∀ t, t ∈ r → 0 < t.n := fun t ht => hpos t (hp.mem_iff.2 (by simp [ht]))
    have hab : a.n ≤ b.n := (ha b (by simp)).le
    have hbr : ∀ t, t ∈ r → b.n ≤ t.n := fun t ht => (hb t ht).le
    -- who is of r is neither a nor b
    have rna : ∀ t, t ∈ r → t ≠ a := fun t ht e => (nodup_app.1 hnd).2.2 a.m ma (List.mem_append.2 (.inr (List.mem_flatMap.2 ⟨t, ht, e ▸ ma⟩)))
    have rnb : ∀ t, t ∈ r → t ≠ b := fun t ht e => (nodup_app.1 (nodup_app.1 hnd).2.1).2.2 b.m mb (List.mem_flatMap.2 ⟨t, ht, e ▸ mb⟩)
    have nab : a ≠ b := fun e => (nodup_app.1 hnd).2.2 a.m ma (List.mem_append.2 (.inl (e ▸ ma)))
    have hm' : ∀ t, t ∈ r' → t.m ∈ t.s := by
      intro t ht
      rcases List.mem_cons.1 (hr.mem_iff.1 ht) with rfl | ht
      · rw [hc.m, hc.mem_s]
        rcases Nat.le_total a.m b.m with q | q
        · rw [Nat.min_eq_left q]; exact .inl ma
        · rw [Nat.min_eq_right q]; exact .inr mb
      · exact mr t ht
    have hpos' : ∀ t, t ∈ r' → 0 < t.n := by
      intro t ht
      rcases List.mem_cons.1 (hr.mem_iff.1 ht) with rfl | ht
      · rw [hc.n]; omega
      · exact nr t ht
    obtain ⟨D, d1, d0, d2, dP, dQ, dR⟩ := ih (((hr.flatMap_right Tr.s).nodup_iff).2 (by rw [List.flatMap_cons]; exact hcn)) hm' hpos'
    have hcnt : ∀ i, i ∈ c.s → bump c.s L i = L i + 1 := fun i hi => by
      have := List.count_pos_iff.2 hi
      have := count_le_one hcs i
      unfold bump; omega
    have hnot : ∀ t, t ∈ r → ∀ i, i ∈ t.s → bump c.s L i = L i := fun t ht i hi => bump_not (fun hic => (nodup_app.1 hcn).2.2 i hic (List.mem_flatMap.2 ⟨t, ht, hi⟩)) L
    -- the two laws at c
    have cP1 : ∀ u, u ∈ r → c.n < u.n → D u ≤ D c := fun u hu hlt => by
      obtain ⟨x, y, rfl⟩ := List.append_of_mem hu
      exact dP c u (x ++ y) (hr.trans (List.Perm.cons c List.perm_middle)) hlt
    have cP2 : ∀ u, u ∈ r → u.n < c.n → D c ≤ D u := fun u hu hlt => by
      obtain ⟨x, y, rfl⟩ := List.append_of_mem hu
      exact dP u c (x ++ y) (hr.trans ((List.Perm.cons c List.perm_middle).trans (List.Perm.swap _ _ _))) hlt
    have inr : ∀ {t u : Tr} {q : List Tr}, F.Perm (t :: u :: q) → t ∈ r → u ∈ r → ∃ q', r.Perm (t :: u :: q') ∧ q.Perm (a :: b :: q') := by
      intro t u q hq ht hu
      have htu : t ≠ u := by
        intro e
        have h9 := ((hq.flatMap_right Tr.s).nodup_iff).1 hn
        rw [List.flatMap_cons, List.flatMap_cons] at h9
        exact (nodup_app.1 h9).2.2 t.m (mr t ht) (List.mem_append.2 (.inl (e ▸ mr t ht)))
      obtain ⟨q', h1⟩ := perm_pick ht hu htu
      refine ⟨q', h1, ?_⟩
      have h2 : (t :: u :: q).Perm (t :: u :: (a :: b :: q')) := by
        refine hq.symm.trans (hp.trans ?_)
        refine ((h1.cons b).cons a).trans ?_
        have e1 : (a :: b :: t :: u :: q') = [a, b] ++ ([t, u] ++ q') := rfl
        have e2 : (t :: u :: a :: b :: q') = [t, u] ++ ([a, b] ++ q') := rfl
        rw [e1, e2, ← List.append_assoc, ← List.append_assoc]
        exact (List.perm_append_comm).append_right q'
      exact (List.perm_cons u).1 ((List.perm_cons t).1 h2)
    have inc : ∀ {t u : Tr} {q' : List Tr}, r.Perm (t :: u :: q') → r'.Perm (t :: u :: (c :: q')) := by
      intro t u q' h1
      refine hr.trans ((h1.cons c).trans ?_)
      exact (List.Perm.swap _ _ _).trans ((List.Perm.swap _ _ _).cons t)
    -- what a pair with a or b looks like
    have cases4 : ∀ {t u : Tr} {q : List Tr}, F.Perm (t :: u :: q) → (t ∈ r ∧ u ∈ r) ∨ (t ∈ r ∧ (u = a ∨ u = b)) ∨ ((t = a ∨ t = b) ∧ u ∈ r) ∨ ((t = a ∨ t = b) ∧ (u = a ∨ u = b)) := by
      intro t u q hq
      have ht := hp.mem_iff.1 (hq.mem_iff.2 (List.mem_cons_self (a := t)))
      have hu := hp.mem_iff.1 (hq.mem_iff.2 (show u ∈ t :: u :: q by simp))
      rcases List.mem_cons.1 ht with e1 | ht
      · rcases List.mem_cons.1 hu with e2 | hu
        · exact .inr (.inr (.inr ⟨.inl e1, .inl e2⟩))
        · rcases List.mem_cons.1 hu with e2 | hu
          · exact .inr (.inr (.inr ⟨.inl e1, .inr e2⟩))
          · exact .inr (.inr (.inl ⟨.inl e1, hu⟩))
      · rcases List.mem_cons.1 ht with e1 | ht
        · rcases List.mem_cons.1 hu with e2 | hu
          · exact .inr (.inr (.inr ⟨.inr e1, .inl e2⟩))
          · rcases List.mem_cons.1 hu with e2 | hu
            · exact .inr (.inr (.inr ⟨.inr e1, .inr e2⟩))
            · exact .inr (.inr (.inl ⟨.inr e1, hu⟩))
        · rcases List.mem_cons.1 hu with e2 | hu
          · exact .inr (.inl ⟨ht, .inl e2⟩)
          · rcases List.mem_cons.1 hu with e2 | hu
            · exact .inr (.inl ⟨ht, .inr e2⟩)
            · exact .inl ⟨ht, hu⟩
    refine ⟨fun t => if t = a ∨ t = b then D c + 1 else D t, ?_, ?_, ?_, ?_, ?_, ?_⟩
    · intro t ht i hi
      rcases List.mem_cons.1 (hp.mem_iff.1 ht) with rfl | ht
      · have hic : i ∈ c.s := hc.mem_s.2 (.inl hi)
        rw [d1 c (hr.mem_iff.2 (by simp)) i hic, hcnt i hic]
        simp only [true_or, if_true]; omega
      · rcases List.mem_cons.1 ht with rfl | ht
        · have hic : i ∈ c.s := hc.mem_s.2 (.inr hi)
          rw [d1 c (hr.mem_iff.2 (by simp)) i hic, hcnt i hic]
          simp only [or_true, if_true]; omega
        · rw [d1 t (hr.mem_iff.2 (by simp [ht])) i hi, hnot t ht i hi]
          simp only [rna t ht, rnb t ht, or_self, if_false]
    · intro i hi
      have h1 : i ∉ c.s := fun h => by
        rcases hc.mem_s.1 h with q | q
        · exact hi a (hp.mem_iff.2 (by simp)) q
        · exact hi b (hp.mem_iff.2 (by simp)) q
      rw [d0 i (fun t ht => by
        rcases List.mem_cons.1 (hr.mem_iff.1 ht) with rfl | ht
        · exact h1
        · exact hi t (hp.mem_iff.2 (by simp [ht]))), bump_not h1]
    · intro _ t ht
      rcases List.mem_cons.1 (hp.mem_iff.1 ht) with rfl | ht
      · simp
      · rcases List.mem_cons.1 ht with rfl | ht
        · simp
        · simp only [rna t ht, rnb t ht, or_self, if_false]
          refine d2 ?_ t (hr.mem_iff.2 (by simp [ht]))
          rw [hr.length_eq]
          have := List.length_pos_of_mem ht
          simp only [List.length_cons]; omega
    · -- P
      intro t u q hq hlt
      rcases cases4 hq with ⟨ht, hu⟩ | ⟨ht, hu⟩ | ⟨ht, hu⟩ | ⟨ht, hu⟩
      · simp only [rna t ht, rnb t ht, rna u hu, rnb u hu, or_self, if_false]
        obtain ⟨q', h1, _⟩ := inr hq ht hu
        exact dP t u (c :: q') (inc h1) hlt
      · have := hbr t ht
        rcases hu with rfl | rfl <;> omega
      · simp only [ht, if_true, rna u hu, rnb u hu, or_self, if_false]
        obtain ⟨x, y, e⟩ := List.append_of_mem hu
        refine dQ c u (x ++ y) (hr.trans ?_) (fun z hz => ?_)
        · rw [e]; exact List.Perm.cons c List.perm_middle
        · have hz' : z ∈ r := by rw [e]; rcases List.mem_append.1 hz with q | q <;> simp [q]
          have e1 := hbr z hz'
          have e2 := hbr u hu
          rw [hc.n]
          rcases ht with rfl | rfl <;> omega
      · simp only [ht, hu, if_true]; omega
    · -- Q
      intro v u q hq hle
      rcases cases4 hq with ⟨ht, hu⟩ | ⟨ht, hu⟩ | ⟨ht, hu⟩ | ⟨ht, hu⟩
      · simp only [rna v ht, rnb v ht, rna u hu, rnb u hu, or_self, if_false]
        obtain ⟨q', h1, h2⟩ := inr hq ht hu
        refine dQ v u (c :: q') (inc h1) (fun z hz => ?_)
        rcases List.mem_cons.1 hz with rfl | hz
        · have := hle a (h2.mem_iff.2 (by simp))
          rw [hc.n]; omega
        · exact hle z (h2.mem_iff.2 (by simp [hz]))
      · simp only [rna v ht, rnb v ht, or_self, if_false, hu, if_true]
        -- the other one of a, b is in q
        have hvc : v.n < c.n := by
          rw [hc.n]
          have key : ∀ z, (z = a ∨ z = b) → z ≠ u → z ∈ q := fun z hz hne => by
            have : z ∈ v :: u :: q := hq.mem_iff.1 (hp.mem_iff.2 (by rcases hz with rfl | rfl <;> simp))
            rcases List.mem_cons.1 this with e | this
            · rcases hz with rfl | rfl
              · exact (rna v ht e.symm).elim
              · exact (rnb v ht e.symm).elim
            · rcases List.mem_cons.1 this with e | this
              · exact (hne e).elim
              · exact this
          rcases hu with rfl | rfl
          · exact hle b (key b (.inr rfl) (fun e => nab e.symm))
          · have := hle a (key a (.inl rfl) nab); omega
        have := cP2 v ht hvc
        omega
      · simp only [ht, if_true, rna u hu, rnb u hu, or_self, if_false]
        obtain ⟨x, y, e⟩ := List.append_of_mem hu
        have := dR c u (x ++ y) (hr.trans (by rw [e]; exact List.Perm.cons c List.perm_middle)) (fun z hz => by
          have hz' : z ∈ r := by rw [e]; rcases List.mem_append.1 hz with q | q <;> simp [q]
          have e1 := hbr z hz'
          have e2 := hbr u hu
          rw [hc.n]; omega)
        omega
      · simp only [ht, hu, if_true]; omega
    · -- R
      intro v u q hq hle
      rcases cases4 hq with ⟨ht, hu⟩ | ⟨ht, hu⟩ | ⟨ht, hu⟩ | ⟨ht, hu⟩
      · simp only [rna v ht, rnb v ht, rna u hu, rnb u hu, or_self, if_false]
        obtain ⟨q', h1, h2⟩ := inr hq ht hu
        refine dR v u (c :: q') (inc h1) (fun z hz => ?_)
        rcases List.mem_cons.1 hz with rfl | hz
        · have := hle a (h2.mem_iff.2 (by simp))
          rw [hc.n]; omega
        · exact hle z (h2.mem_iff.2 (by simp [hz]))
      · simp only [rna v ht, rnb v ht, or_self, if_false, hu, if_true]
        have hvc : v.n ≤ c.n := by
          rw [hc.n]
          have key : ∀ z, (z = a ∨ z = b) → z ≠ u → z ∈ q := fun z hz hne => by
            have : z ∈ v :: u :: q := hq.mem_iff.1 (hp.mem_iff.2 (by rcases hz with rfl | rfl <;> simp))
            rcases List.mem_cons.1 this with e | this
            · rcases hz with rfl | rfl
              · exact (rna v ht e.symm).elim
              · exact (rnb v ht e.symm).elim
            · rcases List.mem_cons.1 this with e | this
              · exact (hne e).elim
              · exact this
          rcases hu with rfl | rfl
          · exact hle b (key b (.inr rfl) (fun e => nab e.symm))
          · have := hle a (key a (.inl rfl) nab); omega
        by_cases heq : v.n < c.n
        · have := cP2 v ht heq; omega
        · obtain ⟨x, y, e⟩ := List.append_of_mem ht
          have := dQ v c (x ++ y) (hr.trans (by rw [e]; exact (List.Perm.cons c List.perm_middle).trans (List.Perm.swap _ _ _))) (fun z hz => by
            have hz' : z ∈ r := by rw [e]; rcases List.mem_append.1 hz with q | q <;> simp [q]
            have e1 := nr z hz'
            omega)
          omega
      · simp only [ht, if_true, rna u hu, rnb u hu, or_self, if_false]
        obtain ⟨x, y, e⟩ := List.append_of_mem hu
        have := dR c u (x ++ y) (hr.trans (by rw [e]; exact List.Perm.cons c List.perm_middle)) (fun z hz => by
          have hz' : z ∈ r := by rw [e]; rcases List.mem_append.1 hz with q | q <;> simp [q]
          have e1 := hbr z hz'
          have e2 := hbr u hu
          rw [hc.n]; omega)
        omega
      · simp only [ht, hu, if_true]; omega
end Go.Hf
