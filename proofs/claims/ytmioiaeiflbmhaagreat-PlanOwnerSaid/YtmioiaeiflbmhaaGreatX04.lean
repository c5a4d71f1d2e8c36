/- The lengths of counts, in plain words; that halving ends. Who has more is not longer; in plain words. The document's huff: least, less. Which lengths may be, and their codes; in plain words. -/
import Derived.Test.YtmioiaeiflbmhaaGreatProg
import Derived.Deep.QuietTactic
import Derived.BigQuiet
import Derived.Deep.RegionLaw
import Derived.Shelf.SlSortCmp.QuietGrown
import Derived.Test.YtmioiaeiflbmhaaGreatX03
import Derived.Test.YtmioiaeiflbmhaaGreatX01
namespace Go.Hf
def Jd (cs : List Nat) (L : Nat → Nat) : Prop :=
  (∃ t, forest cs = [t] ∧ L = fun i => if i = t.m then 1 else 0) ∨ ((forest cs).length ≠ 1 ∧ Run (forest cs) (fun _ => 0) L)
theorem Jd.det {cs : List Nat} {L L' : Nat → Nat} (h : Jd cs L) (h' : Jd cs L') : L = L' := by
  rcases h with ⟨t, e, rfl⟩ | ⟨hn, hr⟩
  · rcases h' with ⟨t', e', rfl⟩ | ⟨hn', _⟩
    · rw [e] at e'; cases e'; rfl
    · exact (hn' (by rw [e]; rfl)).elim
  · rcases h' with ⟨t', e', rfl⟩ | ⟨_, hr'⟩
    · exact (hn (by rw [e']; rfl)).elim
    · exact hr.det hr' (List.Perm.refl _)
def half (c : Nat) : Nat := (c + 1) / 2
inductive IsLens : List Nat → (Nat → Nat) → Prop
  | done {cs : List Nat} {L : Nat → Nat} (h : Jd cs L) (hs : ∀ i, i < cs.length → L i ≤ 11) : IsLens cs L
  | half {cs : List Nat} {L1 L : Nat → Nat} (h : Jd cs L1) (hs : ∃ i, i < cs.length ∧ 11 < L1 i) (k : IsLens (cs.map half) L) : IsLens cs L
theorem IsLens.det {cs : List Nat} {L L' : Nat → Nat} (h : IsLens cs L) (h' : IsLens cs L') : L = L' := by
  induction h with
  | done h hs =>
    cases h' with
    | done k _ => exact h.det k
    | half k ks _ => obtain ⟨i, hi, q⟩ := ks; rw [← h.det k] at q; have := hs i hi; omega
  | half h hs _ ih =>
    cases h' with
    | done k ks => obtain ⟨i, hi, q⟩ := hs; rw [h.det k] at q; have := ks i hi; omega
    | half _ _ k => exact ih k
theorem fib14 : fib 14 = 377 := rfl
theorem Jd.heights {lo : Nat} {cs : List Nat} (hlo : ∀ c, c ∈ cs → 0 < c → lo ≤ c) {L : Nat → Nat} (h : Jd cs L) {i : Nat} (hi : 1 < L i) : fib (L i + 2) * lo ≤ cs.sum := by
  rcases h with ⟨t, e, rfl⟩ | ⟨_, hr⟩
  · simp only at hi; split at hi <;> omega
  · exact Hf.heights hlo hr (by omega)
theorem sum_le_ones {cs : List Nat} (h : ∀ c, c ∈ cs → c ≤ 1) : cs.sum ≤ cs.length := by
  induction cs with
  | nil => simp
  | cons c l ih =>
    have h1 := h c (by simp)
    have h2 := ih (fun d hd => h d (by simp [hd]))
    simp only [List.sum_cons, List.length_cons]
    omega
theorem half_sum_le (cs : List Nat) : (cs.map half).sum ≤ cs.sum := by
  induction cs with
  | nil => simp
  | cons c l ih => simp only [List.map_cons, List.sum_cons, half]; omega
theorem half_sum_lt {cs : List Nat} (h : ∃ c, c ∈ cs ∧ 2 ≤ c) : (cs.map half).sum < cs.sum := by
  induction cs with
  | nil => obtain ⟨c, hc, _⟩ := h; cases hc
  | cons d l ih =>
    obtain ⟨c, hc, h2⟩ := h
    simp only [List.map_cons, List.sum_cons, half]
    rcases List.mem_cons.1 hc with rfl | hc
    · have := half_sum_le l; omega
    · have := ih ⟨c, hc, h2⟩; omega
theorem Jd.falls {cs : List Nat} {L : Nat → Nat} (h : Jd cs L) (hl : cs.length ≤ 256) (hs : ∃ i, i < cs.length ∧ 11 < L i) : (cs.map half).sum < cs.sum := by
  refine half_sum_lt ?_
  apply Classical.byContradiction
  intro hno
  have h1 : ∀ c, c ∈ cs → c ≤ 1 := fun c hc => by
    apply Classical.byContradiction
    intro q
    exact hno ⟨c, hc, by omega⟩
  obtain ⟨i, _, hi⟩ := hs
  have h2 := h.heights (lo := 1) (fun c _ hc => hc) (show 1 < L i by omega)
  have h3 := fib_mono (show 14 ≤ L i + 2 by omega)
  rw [fib14] at h3
  have := sum_le_ones h1
  omega
end Go.Hf
namespace Go.Hf
open Classical in
theorem Run.depths {F : List Tr} {L L' : Nat → Nat} (h : Run F L L') (hn : (F.flatMap Tr.s).Nodup) (hm : ∀ t, t ∈ F → t.m ∈ t.s) (hpos : ∀ t, t ∈ F → 0 < t.n) :
    ∃ D : Tr → Nat, (∀ t, t ∈ F → ∀ i, i ∈ t.s → L' i = L i + D t) ∧ (∀ i, (∀ t, t ∈ F → i ∉ t.s) → L' i = L i) ∧ (2 ≤ F.length → ∀ t, t ∈ F → 0 < D t) ∧
      (∀ t u q, F.Perm (t :: u :: q) → t.n < u.n → D u ≤ D t) ∧
      (∀ v u q, F.Perm (v :: u :: q) → (∀ x, x ∈ q → v.n < u.n + x.n) → D u ≤ D v + 1) ∧
      (∀ v u q, F.Perm (v :: u :: q) → (∀ x, x ∈ q → v.n ≤ u.n + x.n) → D u ≤ D v + 2) := by
  induction h with
  | stop hl =>
    refine ⟨fun _ => 0, fun _ _ _ _ => rfl, fun _ _ => rfl, fun h => by omega, ?_, ?_, ?_⟩ <;>
    · intro t u q hp
      have := hp.length_eq
      simp only [List.length_cons] at this
      omega
  | step hp ha hb hc hr hrun ih =>
    rename_i F L L' a b c r r'
    have hnd := ((hp.flatMap_right Tr.s).nodup_iff).1 hn
    rw [List.flatMap_cons, List.flatMap_cons] at hnd
    have hcr : (c.s ++ r.flatMap Tr.s).Perm (a.s ++ (b.s ++ r.flatMap Tr.s)) := by rw [← List.append_assoc]; exact hc.s.append_right _
    have hcn : (c.s ++ r.flatMap Tr.s).Nodup := (hcr.nodup_iff).2 hnd
    have hcs := (nodup_app.1 hcn).1
    have ma := hm a (hp.mem_iff.2 (by simp))
    have mb := hm b (hp.mem_iff.2 (by simp))
    have mr : ∀ t, t ∈ r → t.m ∈ t.s := fun t ht => hm t (hp.mem_iff.2 (by simp [ht]))
    have na := hpos a (hp.mem_iff.2 (by simp))
    have nb := hpos b (hp.mem_iff.2 (by simp))
    have nr : ∀ t, t ∈ r → 0 < t.n := fun t ht => hpos t (hp.mem_iff.2 (by simp [ht]))
    have hab : a.n ≤ b.n := (ha b (by simp)).le
    have hbr : ∀ t, t ∈ r → b.n ≤ t.n := fun t ht => (hb t ht).le
    have rna : ∀ t, t ∈ r → t ≠ a := fun t ht e => (nodup_app.1 hnd).2.2 a.m ma (List.mem_append.2 (.inr (List.mem_flatMap.2 ⟨t, ht, e ▸ ma⟩)))
    have rnb : ∀ t, t ∈ r → t ≠ b := fun t ht e => (nodup_app.1 (nodup_app.1 hnd).2.1).2.2 b.m mb (List.mem_flatMap.2 ⟨t, ht, e ▸ mb⟩)
    have nab : a ≠ b := fun e => (nodup_app.1 hnd).2.2 a.m ma (List.mem_append.2 (.inl (e ▸ ma)))
    have hm' : ∀ t, t ∈ r' → t.m ∈ t.s := by
      intro t ht
      rcases List.mem_cons.1 (hr.mem_iff.1 ht) with rfl | ht
      · rw [hc.m, hc.mem_s]
        rcases Nat.le_total a.m b.m with q | q
        · rw [Nat.min_eq_left q]; exact .inl ma
        · rw [Nat.min_eq_right q]; exact .inr mb
      · exact mr t ht
    have hpos' : ∀ t, t ∈ r' → 0 < t.n := by
      intro t ht
      rcases List.mem_cons.1 (hr.mem_iff.1 ht) with rfl | ht
      · rw [hc.n]; omega
      · exact nr t ht
    obtain ⟨D, d1, d0, d2, dP, dQ, dR⟩ := ih (((hr.flatMap_right Tr.s).nodup_iff).2 (by rw [List.flatMap_cons]; exact hcn)) hm' hpos'
    have hcnt : ∀ i, i ∈ c.s → bump c.s L i = L i + 1 := fun i hi => by
      have := List.count_pos_iff.2 hi
      have := count_le_one hcs i
      unfold bump; omega
    have hnot : ∀ t, t ∈ r → ∀ i, i ∈ t.s → bump c.s L i = L i := fun t ht i hi => bump_not (fun hic => (nodup_app.1 hcn).2.2 i hic (List.mem_flatMap.2 ⟨t, ht, hi⟩)) L
    have cP1 : ∀ u, u ∈ r → c.n < u.n → D u ≤ D c := fun u hu hlt => by
      obtain ⟨x, y, rfl⟩ := List.append_of_mem hu
      exact dP c u (x ++ y) (hr.trans (List.Perm.cons c List.perm_middle)) hlt
    have cP2 : ∀ u, u ∈ r → u.n < c.n → D c ≤ D u := fun u hu hlt => by
      obtain ⟨x, y, rfl⟩ := List.append_of_mem hu
      exact dP u c (x ++ y) (hr.trans ((List.Perm.cons c List.perm_middle).trans (List.Perm.swap _ _ _))) hlt
    have inr : ∀ {t u : Tr} {q : List Tr}, F.Perm (t :: u :: q) → t ∈ r → u ∈ r → ∃ q', r.Perm (t :: u :: q') ∧ q.Perm (a :: b :: q') := by
      intro t u q hq ht hu
      have htu : t ≠ u := by
        intro e
        have h9 := ((hq.flatMap_right Tr.s).nodup_iff).1 hn
        rw [List.flatMap_cons, List.flatMap_cons] at h9
        exact (nodup_app.1 h9).2.2 t.m (mr t ht) (List.mem_append.2 (.inl (e ▸ mr t ht)))
      obtain ⟨q', h1⟩ := perm_pick ht hu htu
      refine ⟨q', h1, ?_⟩
      have h2 : (t :: u :: q).Perm (t :: u :: (a :: b :: q')) := by
        refine hq.symm.trans (hp.trans ?_)
        refine ((h1.cons b).cons a).trans ?_
        have e1 : (a :: b :: t :: u :: q') = [a, b] ++ ([t, u] ++ q') := rfl
        have e2 : (t :: u :: a :: b :: q') = [t, u] ++ ([a, b] ++ q') := rfl
        rw [e1, e2, ← List.append_assoc, ← List.append_assoc]
        exact (List.perm_append_comm).append_right q'
      exact (List.perm_cons u).1 ((List.perm_cons t).1 h2)
    have inc : ∀ {t u : Tr} {q' : List Tr}, r.Perm (t :: u :: q') → r'.Perm (t :: u :: (c :: q')) := by
      intro t u q' h1
      refine hr.trans ((h1.cons c).trans ?_)
      exact (List.Perm.swap _ _ _).trans ((List.Perm.swap _ _ _).cons t)
    have cases4 : ∀ {t u : Tr} {q : List Tr}, F.Perm (t :: u :: q) → (t ∈ r ∧ u ∈ r) ∨ (t ∈ r ∧ (u = a ∨ u = b)) ∨ ((t = a ∨ t = b) ∧ u ∈ r) ∨ ((t = a ∨ t = b) ∧ (u = a ∨ u = b)) := by
      intro t u q hq
      have ht := hp.mem_iff.1 (hq.mem_iff.2 (List.mem_cons_self (a := t)))
      have hu := hp.mem_iff.1 (hq.mem_iff.2 (show u ∈ t :: u :: q by simp))
      rcases List.mem_cons.1 ht with e1 | ht
      · rcases List.mem_cons.1 hu with e2 | hu
        · exact .inr (.inr (.inr ⟨.inl e1, .inl e2⟩))
        · rcases List.mem_cons.1 hu with e2 | hu
          · exact .inr (.inr (.inr ⟨.inl e1, .inr e2⟩))
          · exact .inr (.inr (.inl ⟨.inl e1, hu⟩))
      · rcases List.mem_cons.1 ht with e1 | ht
        · rcases List.mem_cons.1 hu with e2 | hu
          · exact .inr (.inr (.inr ⟨.inr e1, .inl e2⟩))
          · rcases List.mem_cons.1 hu with e2 | hu
            · exact .inr (.inr (.inr ⟨.inr e1, .inr e2⟩))
            · exact .inr (.inr (.inl ⟨.inr e1, hu⟩))
        · rcases List.mem_cons.1 hu with e2 | hu
          · exact .inr (.inl ⟨ht, .inl e2⟩)
          · rcases List.mem_cons.1 hu with e2 | hu
            · exact .inr (.inl ⟨ht, .inr e2⟩)
            · exact .inl ⟨ht, hu⟩
    refine ⟨fun t => if t = a ∨ t = b then D c + 1 else D t, ?_, ?_, ?_, ?_, ?_, ?_⟩
    · intro t ht i hi
      rcases List.mem_cons.1 (hp.mem_iff.1 ht) with rfl | ht
      · have hic : i ∈ c.s := hc.mem_s.2 (.inl hi)
        rw [d1 c (hr.mem_iff.2 (by simp)) i hic, hcnt i hic]
        simp only [true_or, if_true]; omega
      · rcases List.mem_cons.1 ht with rfl | ht
        · have hic : i ∈ c.s := hc.mem_s.2 (.inr hi)
          rw [d1 c (hr.mem_iff.2 (by simp)) i hic, hcnt i hic]
          simp only [or_true, if_true]; omega
        · rw [d1 t (hr.mem_iff.2 (by simp [ht])) i hi, hnot t ht i hi]
          simp only [rna t ht, rnb t ht, or_self, if_false]
    · intro i hi
      have h1 : i ∉ c.s := fun h => by
        rcases hc.mem_s.1 h with q | q
        · exact hi a (hp.mem_iff.2 (by simp)) q
        · exact hi b (hp.mem_iff.2 (by simp)) q
      rw [d0 i (fun t ht => by
        rcases List.mem_cons.1 (hr.mem_iff.1 ht) with rfl | ht
        · exact h1
        · exact hi t (hp.mem_iff.2 (by simp [ht]))), bump_not h1]
    · intro _ t ht
      rcases List.mem_cons.1 (hp.mem_iff.1 ht) with rfl | ht
      · simp
      · rcases List.mem_cons.1 ht with rfl | ht
        · simp
        · simp only [rna t ht, rnb t ht, or_self, if_false]
          refine d2 ?_ t (hr.mem_iff.2 (by simp [ht]))
          rw [hr.length_eq]
          have := List.length_pos_of_mem ht
          simp only [List.length_cons]; omega
    · -- P
      intro t u q hq hlt
      rcases cases4 hq with ⟨ht, hu⟩ | ⟨ht, hu⟩ | ⟨ht, hu⟩ | ⟨ht, hu⟩
      · simp only [rna t ht, rnb t ht, rna u hu, rnb u hu, or_self, if_false]
        obtain ⟨q', h1, _⟩ := inr hq ht hu
        exact dP t u (c :: q') (inc h1) hlt
      · have := hbr t ht
        rcases hu with rfl | rfl <;> omega
      · simp only [ht, if_true, rna u hu, rnb u hu, or_self, if_false]
        obtain ⟨x, y, e⟩ := List.append_of_mem hu
        refine dQ c u (x ++ y) (hr.trans ?_) (fun z hz => ?_)
        · rw [e]; exact List.Perm.cons c List.perm_middle
        · have hz' : z ∈ r := by rw [e]; rcases List.mem_append.1 hz with q | q <;> simp [q]
          have e1 := hbr z hz'
          have e2 := hbr u hu
          rw [hc.n]
          rcases ht with rfl | rfl <;> omega
      · simp only [ht, hu, if_true]; omega
    · -- Q
      intro v u q hq hle
      rcases cases4 hq with ⟨ht, hu⟩ | ⟨ht, hu⟩ | ⟨ht, hu⟩ | ⟨ht, hu⟩
      · simp only [rna v ht, rnb v ht, rna u hu, rnb u hu, or_self, if_false]
        obtain ⟨q', h1, h2⟩ := inr hq ht hu
        refine dQ v u (c :: q') (inc h1) (fun z hz => ?_)
        rcases List.mem_cons.1 hz with rfl | hz
        · have := hle a (h2.mem_iff.2 (by simp))
          rw [hc.n]; omega
        · exact hle z (h2.mem_iff.2 (by simp [hz]))
      · simp only [rna v ht, rnb v ht, or_self, if_false, hu, if_true]
        have hvc : v.n < c.n := by
          rw [hc.n]
          have key : ∀ z, (z = a ∨ z = b) → z ≠ u → z ∈ q := fun z hz hne => by
            have : z ∈ v :: u :: q := hq.mem_iff.1 (hp.mem_iff.2 (by rcases hz with rfl | rfl <;> simp))
            rcases List.mem_cons.1 this with e | this
            · rcases hz with rfl | rfl
              · exact (rna v ht e.symm).elim
              · exact (rnb v ht e.symm).elim
            · rcases List.mem_cons.1 this with e | this
              · exact (hne e).elim
              · exact this
          rcases hu with rfl | rfl
          · exact hle b (key b (.inr rfl) (fun e => nab e.symm))
          · have := hle a (key a (.inl rfl) nab); omega
        have := cP2 v ht hvc
        omega
      · simp only [ht, if_true, rna u hu, rnb u hu, or_self, if_false]
        obtain ⟨x, y, e⟩ := List.append_of_mem hu
        have := dR c u (x ++ y) (hr.trans (by rw [e]; exact List.Perm.cons c List.perm_middle)) (fun z hz => by
          have hz' : z ∈ r := by rw [e]; rcases List.mem_append.1 hz with q | q <;> simp [q]
          have e1 := hbr z hz'
          have e2 := hbr u hu
          rw [hc.n]; omega)
        omega
      · simp only [ht, hu, if_true]; omega
    · -- R
      intro v u q hq hle
      rcases cases4 hq with ⟨ht, hu⟩ | ⟨ht, hu⟩ | ⟨ht, hu⟩ | ⟨ht, hu⟩
      · simp only [rna v ht, rnb v ht, rna u hu, rnb u hu, or_self, if_false]
        obtain ⟨q', h1, h2⟩ := inr hq ht hu
        refine dR v u (c :: q') (inc h1) (fun z hz => ?_)
        rcases List.mem_cons.1 hz with rfl | hz
        · have := hle a (h2.mem_iff.2 (by simp))
          rw [hc.n]; omega
        · exact hle z (h2.mem_iff.2 (by simp [hz]))
      · simp only [rna v ht, rnb v ht, or_self, if_false, hu, if_true]
        have hvc : v.n ≤ c.n := by
          rw [hc.n]
          have key : ∀ z, (z = a ∨ z = b) → z ≠ u → z ∈ q := fun z hz hne => by
            have : z ∈ v :: u :: q := hq.mem_iff.1 (hp.mem_iff.2 (by rcases hz with rfl | rfl <;> simp))
            rcases List.mem_cons.1 this with e | this
            · rcases hz with rfl | rfl
              · exact (rna v ht e.symm).elim
              · exact (rnb v ht e.symm).elim
            · rcases List.mem_cons.1 this with e | this
              · exact (hne e).elim
              · exact this
          rcases hu with rfl | rfl
          · exact hle b (key b (.inr rfl) (fun e => nab e.symm))
          · have := hle a (key a (.inl rfl) nab); omega
        by_cases heq : v.n < c.n
        · have := cP2 v ht heq; omega
        · obtain ⟨x, y, e⟩ := List.append_of_mem ht
          have := dQ v c (x ++ y) (hr.trans (by rw [e]; exact (List.Perm.cons c List.perm_middle).trans (List.Perm.swap _ _ _))) (fun z hz => by
            have hz' : z ∈ r := by rw [e]; rcases List.mem_append.1 hz with q | q <;> simp [q]
            have e1 := nr z hz'
            omega)
          omega
      · simp only [ht, if_true, rna u hu, rnb u hu, or_self, if_false]
        obtain ⟨x, y, e⟩ := List.append_of_mem hu
        have := dR c u (x ++ y) (hr.trans (by rw [e]; exact List.Perm.cons c List.perm_middle)) (fun z hz => by
          have hz' : z ∈ r := by rw [e]; rcases List.mem_append.1 hz with q | q <;> simp [q]
          have e1 := hbr z hz'
          have e2 := hbr u hu
          rw [hc.n]; omega)
        omega
      · simp only [ht, hu, if_true]; omega
end Go.Hf
namespace Go.Proofs.YtmioiaeiflbmhaaGreat.Hu
open Go Go.RowKit Go.ChangeMaps Go.MapKept Go.Mg Go.Hf Go.Sort
def nv (i : Nat) : Value := .int .i64 i
theorem nv_one : ∀ (l : List Nat), ∀ u ∈ l.map nv, u.oneCell' = true := by
  intro l u hu
  obtain ⟨b, _, rfl⟩ := List.mem_map.1 hu
  rfl
theorem at_nv {w : World} {a : Option Addr} {c : Nat} {s : List Nat} (h : SlR w 1 (.slice a s.length c) s.length (s.map nv)) (h0 : 0 < s.length) :
    ∃ g off, a = some ⟨g, off, none⟩ ∧ g < w.heap.size ∧ s.length ≤ c ∧ ∀ i (hi : i < s.length), w.cell? ⟨g, off + i, none⟩ = some (.int .i64 (s[i] : Nat)) := by
  obtain ⟨_, a0, c0, e0, h1, _, _, hc⟩ := h
  simp only [Value.slice.injEq, true_and] at e0
  obtain ⟨rfl, rfl⟩ := e0
  obtain ⟨g, off, rfl, hg, hc⟩ := hc h0
  exact ⟨g, off, rfl, hg, h1, fun i hi => hc i _ (by rw [List.getElem?_map, List.getElem?_eq_getElem hi]; rfl)⟩
def IsMin (m : Nat) (s : List Nat) : Prop := m ∈ s ∧ ∀ i, i ∈ s → m ≤ i
theorem IsMin.pos {m : Nat} {s : List Nat} (h : IsMin m s) : 0 < s.length := List.length_pos_of_mem h.1
end Go.Proofs.YtmioiaeiflbmhaaGreat.Hu
namespace Go.Hf
def pass1 (ls : Nat → Int) (n : Int) : Nat → Nat × (Nat → Int) → Nat × (Nat → Int)
  | 0, st => st
  | j + 1, st => if ls j = n then ((pass1 ls n j st).1 + 1, fun i => if i = j then ((pass1 ls n j st).1 : Int) else (pass1 ls n j st).2 i) else pass1 ls n j st
def passes (ls : Nat → Int) (N : Nat) : Nat → Nat × (Nat → Int)
  | 0 => (0, fun _ => -1)
  | n + 1 => pass1 ls ((n : Int) + 1) N (2 * (passes ls N n).1, (passes ls N n).2)
theorem pass1_le (ls : Nat → Int) (n : Int) (j : Nat) (st : Nat × (Nat → Int)) : (pass1 ls n j st).1 ≤ st.1 + j ∧ st.1 ≤ (pass1 ls n j st).1 := by
  induction j with
  | zero => simp [pass1]
  | succ j ih => simp only [pass1]; split <;> (try simp only) <;> omega
theorem passes_le (ls : Nat → Int) (N n : Nat) : (passes ls N n).1 + N ≤ N * 2 ^ n := by
  induction n with
  | zero => simp [passes]
  | succ n ih =>
    have h := (pass1_le ls ((n : Int) + 1) N (2 * (passes ls N n).1, (passes ls N n).2)).1
    simp only [passes]
    simp only at h
    rw [Nat.pow_succ, ← Nat.mul_assoc]
    omega
theorem passes_bound (ls : Nat → Int) {N n : Nat} (hN : N ≤ 300) (hn : n ≤ 11) : (passes ls N n).1 ≤ 614400 := by
  have h := passes_le ls N n
  have h2 : N * 2 ^ n ≤ 300 * 2 ^ 11 := Nat.mul_le_mul hN (Nat.pow_le_pow_right (by omega) hn)
  have : 300 * 2 ^ 11 = 614400 := rfl
  omega
def lf (xs : List Int) : Nat → Int := fun i => xs[i]?.getD 0
theorem lf_at {xs : List Int} {i : Nat} (h : i < xs.length) : lf xs i = xs[i] := by simp [lf, h]
def codes (xs : List Int) : Nat → Int := (passes (lf xs) xs.length 11).2
def isStep (st : Nat × Nat × Int) (n : Int) : Nat × Nat × Int := if 0 < n then (st.1 + 2 ^ (11 - n.toNat), st.2.1 + 1, n) else st
def isSt (l : List Int) : Nat × Nat × Int := l.foldl isStep (0, 0, 0)
theorem snoc_ind {P : List Int → Prop} (h0 : P []) (h1 : ∀ l n, P l → P (l ++ [n])) (l : List Int) : P l := by
  have h : ∀ l : List Int, P l.reverse := fun l => by
    induction l with
    | nil => exact h0
    | cons n l ih => rw [List.reverse_cons]; exact h1 _ _ ih
  have := h l.reverse
  rwa [List.reverse_reverse] at this
theorem isSt_snoc (l : List Int) (n : Int) : isSt (l ++ [n]) = isStep (isSt l) n := by simp [isSt]
theorem isSt_le (l : List Int) : (isSt l).1 ≤ 2048 * l.length ∧ (isSt l).2.1 ≤ l.length := by
  refine snoc_ind (P := fun l => (isSt l).1 ≤ 2048 * l.length ∧ (isSt l).2.1 ≤ l.length) (by simp [isSt]) (fun l n ih => ?_) l
  · rw [isSt_snoc, List.length_append, List.length_singleton]
    unfold isStep
    split
    · have : 2 ^ (11 - n.toNat) ≤ 2 ^ 11 := Nat.pow_le_pow_right (by omega) (by omega)
      have e : 2 ^ 11 = 2048 := rfl
      simp only
      omega
    · omega
def InR (xs : List Int) : Prop := ∀ x, x ∈ xs → 0 ≤ x ∧ x ≤ 11
def IsOk (xs : List Int) : Prop := xs.length ≤ 256 ∧ InR xs ∧ (((isSt xs).2.1 = 1 ∧ (isSt xs).2.2 = 1) ∨ (isSt xs).1 = 2048)
theorem isSt_one {l : List Int} (h : InR l) : ((isSt l).2.1 = 0 → (isSt l).1 = 0) ∧ ((isSt l).2.1 = 1 → (isSt l).1 = 2 ^ (11 - (isSt l).2.2.toNat) ∧ 0 < (isSt l).2.2) := by
  revert h
  refine snoc_ind (P := fun l => InR l → ((isSt l).2.1 = 0 → (isSt l).1 = 0) ∧ ((isSt l).2.1 = 1 → (isSt l).1 = 2 ^ (11 - (isSt l).2.2.toNat) ∧ 0 < (isSt l).2.2)) (by simp [isSt]) (fun l n ih h => ?_) l
  · have ih := ih (fun x hx => h x (List.mem_append.2 (.inl hx)))
    rw [isSt_snoc]
    unfold isStep
    split
    · simp only
      refine ⟨fun q => by omega, fun q => ?_⟩
      have h0 := ih.1 (by omega)
      rw [h0, Nat.zero_add]
      exact ⟨rfl, by assumption⟩
    · exact ih
end Go.Hf
