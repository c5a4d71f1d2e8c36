/- Of ShelfBytes: how many bytes are there, in plain words. -/
import Derived.Test.YtnjkchbombjemaaShelfE
namespace Go.Proofs.Ytnjkchbombjemaa.shelfBytes
open Go Go.RowKit Go.ChangeMaps Go.MapKept Go.Mg Go.Proofs.Ytnjkchbombjemaa.Sh Go.Proofs.Ytnjkchbombjemaa.Op
def sm (l : List (Int × Bk)) : Nat := (l.map fun p => p.2.data.length).sum
theorem sm_cons (p : Int × Bk) (l : List (Int × Bk)) : sm (p :: l) = p.2.data.length + sm l := by simp [sm]
theorem del_none {l : List (Int × Bk)} {id : Int} (h : AL.get l id = none) : AL.del l id = l := by
  unfold AL.del
  rw [List.filter_eq_self]
  intro p hp
  simpa using AL.get_none.1 h p hp
theorem sm_del {l : List (Int × Bk)} (hn : (l.map (·.1)).Nodup) {id : Int} {k : Bk} (h : AL.get l id = some k) : sm (AL.del l id) + k.data.length = sm l := by
  induction l with
  | nil => cases h
  | cons p l ih =>
    rw [List.map_cons, List.nodup_cons] at hn
    rw [AL.get_cons] at h
    by_cases e : p.1 = id
    · rw [if_pos e] at h
      have hk : p.2 = k := by simpa using h
      have : AL.get l id = none := AL.get_none.2 fun q hq e2 => hn.1 (by rw [e, ← e2]; exact List.mem_map_of_mem hq)
      have hd : AL.del (p :: l) id = AL.del l id := by unfold AL.del; rw [List.filter_cons, if_neg (by simp [e])]
      rw [hd, del_none this, sm_cons, hk]; omega
    · rw [if_neg e] at h
      have hd : AL.del (p :: l) id = p :: AL.del l id := by unfold AL.del; rw [List.filter_cons, if_pos (by simp [e])]
      rw [hd, sm_cons, sm_cons]
      have := ih hn.2 h
      omega
theorem nd_del {l : List (Int × Bk)} (hn : (l.map (·.1)).Nodup) (id : Int) : ((AL.del l id).map (·.1)).Nodup := (List.filter_sublist.map _).nodup hn
theorem nd_put {l : List (Int × Bk)} (hn : (l.map (·.1)).Nodup) (id : Int) (k : Bk) : ((AL.put l id k).map (·.1)).Nodup := by
  unfold AL.put
  split
  · have : (l.map fun p => if p.1 = id then (id, k) else p).map (·.1) = l.map (·.1) := by
      rw [List.map_map]
      refine List.map_congr_left fun p _ => ?_
      show (if p.1 = id then (id, k) else p).1 = p.1
      split
      · rename_i e; exact e.symm
      · rfl
    rw [this]; exact hn
  · rename_i h
    have hg : AL.get l id = none := by simpa using h
    rw [List.map_append, List.nodup_append]
    refine ⟨hn, by simp, ?_⟩
    intro a ha b hb
    obtain ⟨p, hp, rfl⟩ := List.mem_map.1 ha
    have hb : b = id := by simpa using hb
    rw [hb]; exact AL.get_none.1 hg p hp
theorem sm_put_new {l : List (Int × Bk)} {id : Int} (h : AL.get l id = none) (k : Bk) : sm (AL.put l id k) = sm l + k.data.length := by
  unfold AL.put; rw [if_neg (by rw [h]; simp)]; simp [sm]
theorem sm_put_same {l : List (Int × Bk)} {id : Int} {k k' : Bk} (hn : (l.map (·.1)).Nodup) (h : AL.get l id = some k) (hd : k'.data.length = k.data.length) : sm (AL.put l id k') = sm l := by
  unfold AL.put; rw [if_pos (by rw [h]; rfl)]
  unfold sm
  rw [List.map_map]
  congr 1
  refine List.map_congr_left fun p hp => ?_
  show (if p.1 = id then (id, k') else p).2.data.length = _
  split
  · rename_i e
    have := AL.get_of_mem hn (show (id, p.2) ∈ l by rw [← e]; exact hp)
    rw [h] at this
    cases this
    exact hd
  · rfl
/-- What is there when i were loaded: wt bytes; lt of them will go with the next. -/
structure Inv (i wt lt : Nat) (S : Shs) : Prop where
  last : S.last = i
  nm : AL.get S.names nameA = if i = 0 then none else some (i : Int)
  cur : 0 < i → ∃ d p, AL.get S.books (i : Int) = some ⟨d, true, p⟩ ∧ lt = if p = 0 then d.length else 0
  zero : i = 0 → lt = 0
  nd : (S.books.map (·.1)).Nodup
  by_ : sm S.books = wt
  le : wt ≤ 256 * i
  ll : lt ≤ wt
  pins : ∀ id k, AL.get S.books id = some k → k.pins ≤ 1 ∧ 1 ≤ id ∧ id ≤ i
theorem inv0 : Inv 0 0 0 sh0 := ⟨rfl, rfl, fun h => by omega, fun _ => rfl, List.nodup_nil, rfl, Nat.le_refl _, Nat.le_refl _, fun id k h => by cases h⟩
def zs (n : Nat) : List UInt8 := List.replicate n 0
theorem is_zs {n : Nat} (h1 : 1 ≤ n) (h2 : n ≤ 256) : isS nameA (dat (zs n)) = 0 := is_dat (by simp [zs]; omega) (by simp [zs]; omega)
theorem load_step {i wt lt n : Nat} {S : Shs} (h : Inv i wt lt S) (h1 : 1 ≤ n) (h2 : n ≤ 256) : ∃ S' f, S.load nameA (dat (zs n)) = (S', (i : Int) + 1, f, 0) ∧ Inv (i + 1) (wt + n - lt) n S' ∧ ∀ k, AL.get S'.books ((i : Int) + 1) = some k → k.pins = 0 := by
  have hz := is_zs h1 h2
  have hd : (dat (zs n)).drop 4 = zs n := rfl
  have hzl : (zs n).length = n := by simp [zs]
  -- what stays of the one that is retired
  have hr : ∃ S1 f, S.retires nameA = (S1, f) ∧ S1.last = i ∧ (S1.books.map (·.1)).Nodup ∧ sm S1.books = wt - lt ∧ (∀ id k, AL.get S1.books id = some k → k.pins ≤ 1 ∧ 1 ≤ id ∧ id ≤ i) := by
    by_cases h0 : i = 0
    · refine ⟨S, 0, by unfold Shs.retires; rw [h.nm, if_pos h0], h.last, h.nd, ?_, h.pins⟩
      rw [h.by_, h.zero h0]; rfl
    · obtain ⟨d, p, hb, hl⟩ := h.cur (by omega)
      have hnd := nd_put h.nd (i : Int) ⟨d, false, p⟩
      have hsm := sm_put_same (k' := ⟨d, false, p⟩) h.nd hb rfl
      have hg : AL.get (AL.put S.books (i : Int) ⟨d, false, p⟩) (i : Int) = some ⟨d, false, p⟩ := by rw [AL.get_put, if_pos rfl]
      have hpn : ∀ id k, AL.get (AL.put S.books (i : Int) ⟨d, false, p⟩) id = some k → k.pins ≤ 1 ∧ 1 ≤ id ∧ id ≤ i := fun id k hk => by
        rw [AL.get_put] at hk
        split at hk
        · rename_i e; cases hk; rw [e]; have hq := h.pins _ _ hb; exact hq
        · exact h.pins id k hk
      by_cases hp : p = 0
      · rw [if_pos hp] at hl
        refine ⟨⟨S.last, AL.del (AL.put S.books (i : Int) ⟨d, false, p⟩) (i : Int), AL.del S.names nameA⟩, (i : Int), ?_, h.last, nd_del hnd _, ?_, fun id k hk => ?_⟩
        · unfold Shs.retires; rw [h.nm, if_neg h0]; simp only [hb]; unfold Shs.lets; simp only [hg]; rw [if_neg (by simp [hp])]
        · have := sm_del hnd hg
          have hl' : lt = d.length := hl
          show sm (AL.del _ _) = _
          have e2 := h.by_
          simp only at this
          omega
        · have hk' : AL.get (AL.del _ _) id = some k := hk
          rw [AL.get_del] at hk'
          split at hk'
          · cases hk'
          · exact hpn id k hk'
      · rw [if_neg hp] at hl
        refine ⟨⟨S.last, AL.put S.books (i : Int) ⟨d, false, p⟩, AL.del S.names nameA⟩, 0, ?_, h.last, hnd, ?_, hpn⟩
        · unfold Shs.retires; rw [h.nm, if_neg h0]; simp only [hb]; unfold Shs.lets; simp only [hg]; rw [if_pos (by right; show 0 < p; omega)]
        · show sm (AL.put _ _ _) = _
          rw [hsm, h.by_, hl]; rfl
  obtain ⟨S1, f, e1, e2, e3, e4, e5⟩ := hr
  have hnew : AL.get S1.books ((i : Int) + 1) = none := by
    cases hq : AL.get S1.books ((i : Int) + 1) with
    | none => rfl
    | some k => have := e5 _ _ hq; omega
  refine ⟨⟨i + 1, AL.put S1.books ((i : Int) + 1) ⟨zs n, true, 0⟩, AL.put S1.names nameA ((i : Int) + 1)⟩, f, by unfold Shs.load; rw [if_pos hz, e1]; simp only [e2, hd], ?_⟩
  refine ⟨?_, fun k hk => by
    have hk' : AL.get (AL.put _ _ _) _ = some k := hk
    rw [AL.get_put, if_pos rfl] at hk'; cases hk'; rfl⟩
  refine ⟨by simp, by simp [AL.get_put], fun _ => ⟨zs n, 0, by simp [AL.get_put], by simp [hzl]⟩, fun hq => by omega, nd_put e3 _ _, ?_, by have := h.le; omega, by have := h.ll; omega, fun id k hk => ?_⟩
  · show sm (AL.put _ _ _) = _
    rw [sm_put_new hnew, e4, hzl]
    have := h.ll; omega
  · have hk' : AL.get (AL.put _ _ _) id = some k := hk
    rw [AL.get_put] at hk'
    split at hk'
    · rename_i e; cases hk'; exact ⟨Nat.zero_le _, by omega, by omega⟩
    · have := e5 id k hk'; exact ⟨this.1, this.2.1, by omega⟩
theorem pin_step {i wt n : Nat} {S : Shs} (h : Inv (i + 1) wt n S) (hp : ∀ k, AL.get S.books ((i : Int) + 1) = some k → k.pins = 0) : ∃ S' d, S.pin nameA = (S', (i : Int) + 1, d, 0) ∧ Inv (i + 1) wt 0 S' := by
  obtain ⟨d, p, hb, hl⟩ := h.cur (by omega)
  have e0 : ((i + 1 : Nat) : Int) = (i : Int) + 1 := by omega
  rw [e0] at hb
  have hp0 : p = 0 := hp _ hb
  have hnm := h.nm
  rw [if_neg (by omega), e0] at hnm
  refine ⟨⟨S.last, AL.put S.books ((i : Int) + 1) ⟨d, true, p + 1⟩, S.names⟩, d, by unfold Shs.pin; simp only [hnm, hb], h.last, by rw [if_neg (by omega), e0]; exact hnm, fun _ => ⟨d, p + 1, by rw [e0]; simp [AL.get_put], by simp⟩, fun hq => by omega, nd_put h.nd _ _, ?_, h.le, Nat.zero_le _, fun id k hk => ?_⟩
  · have hs := sm_put_same (k' := ⟨d, true, p + 1⟩) h.nd hb rfl
    show sm (AL.put _ _ _) = _
    rw [hs, h.by_]
  · have hk' : AL.get (AL.put _ _ _) id = some k := hk
    rw [AL.get_put] at hk'
    split at hk'
    · rename_i e; cases hk'; rw [e, hp0]; exact ⟨Nat.le_refl _, by omega, by omega⟩
    · exact h.pins id k hk'
end Go.Proofs.Ytnjkchbombjemaa.shelfBytes
