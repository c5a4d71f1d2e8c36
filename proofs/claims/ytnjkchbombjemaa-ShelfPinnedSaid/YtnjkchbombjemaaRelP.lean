/- The program's Shelf and the document's: they answer alike. -/
import Derived.Test.YtnjkchbombjemaaRefD
namespace Go.Proofs.Ytnjkchbombjemaa.Rf
open Go Go.RowKit Go.ChangeMaps Go.MapKept Go.Mg Go.Proofs.Ytnjkchbombjemaa.Sh Go.Proofs.Ytnjkchbombjemaa.Op
def ent (y : It) : Int × Bk := (y.id, ⟨y.data, y.cur, y.refs.toNat⟩)
structure Rel (S : Shs) (last : Int) (R : List It) : Prop where
  lst : last = S.last
  books : S.books = R.map ent
  names : ∀ n, AL.get S.names n = (R.find? (isCur n)).map It.id
  refs : ∀ y, y ∈ R → 0 ≤ y.refs
  ids : R.Pairwise fun y z => y.id ≠ z.id
  uq : R.Pairwise fun y z => ¬ (y.cur = true ∧ z.cur = true ∧ y.nm = z.nm)
  pos : ∀ y, y ∈ R → 1 ≤ y.id ∧ y.id ≤ last
theorem rel0 : Rel sh0 0 [] := ⟨rfl, rfl, fun _ => rfl, fun _ h => (by cases h), .nil, .nil, fun _ h => (by cases h)⟩
theorem nm_iff {a b : ByteArray} : (a.toList == b.toList) = true ↔ a = b := by
  rw [beq_iff_eq, ByteArray.toList_eq, ByteArray.toList_eq]
  constructor
  · intro h
    have : a.data = b.data := by rw [← Array.toList_inj]; exact h
    cases a; cases b; simp_all
  · intro h; rw [h]
theorem isCur_iff {n : ByteArray} {y : It} : isCur n y = true ↔ y.cur = true ∧ y.nm = n := by unfold isCur; rw [Bool.and_eq_true, nm_iff]
theorem isId_iff {id : Int} {y : It} : isId id y = true ↔ y.id = id := by unfold isId; rw [beq_iff_eq]
variable {R : List It} {S : Shs} {last : Int}
theorem get_ent (id : Int) : AL.get (R.map ent) id = (R.find? (isId id)).map fun y => (ent y).2 := by
  induction R with
  | nil => rfl
  | cons y R ih =>
    rw [List.map_cons, AL.get_cons, List.find?_cons, ih]
    by_cases h : y.id = id
    · rw [if_pos (show (ent y).1 = id from h), isId_iff.2 h]; rfl
    · rw [if_neg (show ¬ (ent y).1 = id from h), Bool.eq_false_iff.2 (fun q => h (isId_iff.1 q))]
theorem find_id (hd : R.Pairwise fun y z => y.id ≠ z.id) {k : Nat} {y : It} (hy : R[k]? = some y) : R.find? (isId y.id) = some y := by
  refine find_of hy (isId_iff.2 rfl) (fun j z hj hz => ?_)
  rw [Bool.eq_false_iff]
  intro q
  have := List.pairwise_iff_getElem.1 hd j k (List.getElem?_eq_some_iff.1 hz).1 (List.getElem?_eq_some_iff.1 hy).1 hj
  rw [(List.getElem?_eq_some_iff.1 hz).2, (List.getElem?_eq_some_iff.1 hy).2] at this
  exact this (isId_iff.1 q)
theorem put_ent (hd : R.Pairwise fun y z => y.id ≠ z.id) {k : Nat} {y y' : It} (hy : R[k]? = some y) (hi : y'.id = y.id) : AL.put (R.map ent) y.id (ent y').2 = (R.set k y').map ent := by
  have hg : (AL.get (R.map ent) y.id).isSome := by rw [get_ent, find_id hd hy]; rfl
  unfold AL.put
  rw [if_pos hg, List.map_map]
  refine List.ext_getElem? fun j => ?_
  rw [List.getElem?_map, List.getElem?_map, List.getElem?_set]
  have hk : k < R.length := (List.getElem?_eq_some_iff.1 hy).1
  by_cases e : k = j
  · subst e
    rw [if_pos rfl, if_pos hk, hy]
    show some (if (ent y).1 = y.id then _ else _) = _
    rw [if_pos (show (ent y).1 = y.id from rfl)]
    show some (y.id, (ent y').2) = some (ent y')
    rw [← hi]; rfl
  · rw [if_neg e]
    cases hz : R[j]? with
    | none => rfl
    | some z =>
      show some (if (ent z).1 = y.id then _ else _) = some (ent z)
      rw [if_neg]
      intro q
      have hj := (List.getElem?_eq_some_iff.1 hz)
      have hk' := (List.getElem?_eq_some_iff.1 hy)
      rcases Nat.lt_or_gt_of_ne e with h | h
      · have := List.pairwise_iff_getElem.1 hd k j hk'.1 hj.1 h
        rw [hj.2, hk'.2] at this; exact this q.symm
      · have := List.pairwise_iff_getElem.1 hd j k hj.1 hk'.1 h
        rw [hj.2, hk'.2] at this; exact this q
theorem del_ent (hd : R.Pairwise fun y z => y.id ≠ z.id) {k : Nat} {y : It} (hy : R[k]? = some y) : AL.del (R.map ent) y.id = (R.eraseIdx k).map ent := by
  induction R generalizing k with
  | nil => cases hy
  | cons z R ih =>
    rw [List.pairwise_cons] at hd
    cases k with
    | zero =>
      simp only [List.getElem?_cons_zero, Option.some.injEq] at hy
      subst hy
      rw [List.eraseIdx_cons_zero]
      unfold AL.del
      rw [List.map_cons, List.filter_cons, if_neg (by simp [ent]), List.filter_eq_self]
      intro p hp
      obtain ⟨u, hu, rfl⟩ := List.mem_map.1 hp
      have := hd.1 u hu
      exact decide_eq_true (fun q => this (Eq.symm q))
    | succ k =>
      have hy' : R[k]? = some y := hy
      have hne : z.id ≠ y.id := hd.1 y (List.mem_of_getElem? hy')
      rw [List.eraseIdx_cons_succ]
      show AL.del (ent z :: R.map ent) y.id = ent z :: (R.eraseIdx k).map ent
      rw [← ih hd.2 hy']
      unfold AL.del
      rw [List.filter_cons, if_pos (show decide ((ent z).1 ≠ y.id) = true from decide_eq_true hne)]
theorem find_set {p : It → Bool} {k : Nat} {y y' : It} (hy : R[k]? = some y) (h1 : p y = false) (h2 : p y' = false) : (R.set k y').find? p = R.find? p := by
  induction R generalizing k with
  | nil => cases hy
  | cons z R ih =>
    cases k with
    | zero =>
      simp only [List.getElem?_cons_zero, Option.some.injEq] at hy
      subst hy
      rw [List.set_cons_zero, List.find?_cons, List.find?_cons, h1, h2]
    | succ k =>
      rw [List.set_cons_succ, List.find?_cons, List.find?_cons]
      rw [ih (k := k) hy]
theorem find_erase {p : It → Bool} {k : Nat} {y : It} (hy : R[k]? = some y) (h1 : p y = false) : (R.eraseIdx k).find? p = R.find? p := by
  induction R generalizing k with
  | nil => cases hy
  | cons z R ih =>
    cases k with
    | zero =>
      simp only [List.getElem?_cons_zero, Option.some.injEq] at hy
      subst hy
      rw [List.eraseIdx_cons_zero, List.find?_cons, h1]
    | succ k =>
      rw [List.eraseIdx_cons_succ, List.find?_cons, List.find?_cons, ih (k := k) hy]
theorem pw_set {r : It → It → Prop} (hd : R.Pairwise r) {k : Nat} {y y' : It} (hy : R[k]? = some y) (h1 : ∀ z, r y z → r y' z) (h2 : ∀ z, r z y → r z y') : (R.set k y').Pairwise r := by
  induction R generalizing k with
  | nil => cases hy
  | cons z R ih =>
    rw [List.pairwise_cons] at hd
    cases k with
    | zero =>
      simp only [List.getElem?_cons_zero, Option.some.injEq] at hy
      subst hy
      rw [List.set_cons_zero, List.pairwise_cons]
      exact ⟨fun u hu => h1 u (hd.1 u hu), hd.2⟩
    | succ k =>
      have hy' : R[k]? = some y := hy
      rw [List.set_cons_succ, List.pairwise_cons]
      refine ⟨fun u hu => ?_, ih hd.2 hy'⟩
      rcases List.mem_or_eq_of_mem_set hu with q | rfl
      · exact hd.1 u q
      · exact h2 z (hd.1 y (List.mem_of_getElem? hy'))
/-- An item whose currency or pins change. -/
theorem Rel.set (h : Rel S last R) {k : Nat} {y y' : It} (hy : R[k]? = some y) (hi : y'.id = y.id) (hr : 0 ≤ y'.refs) (hn : y'.nm = y.nm) (hc : y'.cur = y.cur ∨ (y'.cur = false)) (names' : List (ByteArray × Int))
    (hnm : ∀ n, AL.get names' n = ((R.set k y').find? (isCur n)).map It.id) : Rel ⟨S.last, AL.put S.books y.id (ent y').2, names'⟩ last (R.set k y') := by
  have hm : ∀ z, z ∈ R.set k y' → z ∈ R ∨ z = y' := fun z hz => List.mem_or_eq_of_mem_set hz
  refine ⟨h.lst, by rw [h.books]; exact put_ent h.ids hy hi, hnm, fun z hz => ?_, pw_set h.ids hy (fun z q => by rw [hi]; exact q) (fun z q => by rw [hi]; exact q), pw_set h.uq hy (fun z q => ?_) (fun z q => ?_), fun z hz => ?_⟩
  · rcases hm z hz with q | rfl
    · exact h.refs z q
    · exact hr
  · rintro ⟨q1, q2, q3⟩
    rcases hc with c | c
    · exact q ⟨c ▸ q1, q2, hn ▸ q3⟩
    · rw [c] at q1; cases q1
  · rintro ⟨q1, q2, q3⟩
    rcases hc with c | c
    · exact q ⟨q1, c ▸ q2, hn ▸ q3⟩
    · rw [c] at q2; cases q2
  · rcases hm z hz with q | rfl
    · exact h.pos z q
    · rw [hi]; exact h.pos y (List.mem_of_getElem? hy)
/-- What is neither current nor pinned goes. -/
theorem Rel.drop (h : Rel S last R) {k : Nat} {y : It} (hy : R[k]? = some y) : (S.lets y.id).2 = (rDrop R k y).2 ∧ Rel (S.lets y.id).1 last (rDrop R k y).1 := by
  have hg : AL.get S.books y.id = some (ent y).2 := by rw [h.books, get_ent, find_id h.ids hy]; rfl
  have hr := h.refs y (List.mem_of_getElem? hy)
  unfold Shs.lets rDrop
  simp only [hg]
  by_cases hc : y.cur = true ∨ 0 < y.refs
  · have hc' : (ent y).2.cur = true ∨ 0 < (ent y).2.pins := hc.imp id (fun q => by show 0 < y.refs.toNat; omega)
    rw [if_pos hc, if_pos hc']
    exact ⟨rfl, h⟩
  · have hc' : ¬ ((ent y).2.cur = true ∨ 0 < (ent y).2.pins) := fun q => hc (q.imp id (fun q => by have : 0 < y.refs.toNat := q; omega))
    rw [if_neg hc, if_neg hc']
    have hcf : y.cur = false := by
      cases hq : y.cur
      · rfl
      · exact absurd (.inl hq) hc
    have hsub : (R.eraseIdx k).Sublist R := List.eraseIdx_sublist R k
    exact ⟨rfl, h.lst, by show AL.del S.books y.id = _; rw [h.books]; exact del_ent h.ids hy, fun n => by rw [h.names n, find_erase hy (by unfold isCur; rw [hcf]; rfl)], fun z hz => h.refs z (hsub.subset hz), h.ids.sublist hsub, h.uq.sublist hsub, fun z hz => h.pos z (hsub.subset hz)⟩
theorem Rel.noCur (h : Rel S last R) {k : Nat} {y : It} (hy : R[k]? = some y) {n : ByteArray} (hp : isCur n y = true) (hn : ∀ j z, j < k → R[j]? = some z → isCur n z = false) (m : ByteArray) :
    AL.get (AL.del S.names n) m = ((R.set k { y with cur := false }).find? (isCur m)).map It.id := by
  rw [AL.get_del, h.names]
  have hf : isCur m { y with cur := false } = false := by unfold isCur; rfl
  by_cases e : m = n
  · subst e
    rw [if_pos rfl, find_none]
    · rfl
    · intro z hz
      obtain ⟨j, hj, rfl⟩ := List.mem_iff_getElem.1 hz
      rw [List.getElem_set]
      split
      · exact hf
      · rename_i hne
        have hjR : j < R.length := by simpa using hj
        rcases Nat.lt_or_gt_of_ne hne with q | q
        · rw [Bool.eq_false_iff]
          intro hc
          have hk := List.getElem?_eq_some_iff.1 hy
          have := List.pairwise_iff_getElem.1 h.uq k j hk.1 hjR q
          rw [hk.2] at this
          have h1 := isCur_iff.1 hp
          have h2 := isCur_iff.1 hc
          exact this ⟨h1.1, h2.1, h1.2.trans h2.2.symm⟩
        · exact hn j _ q (List.getElem?_eq_getElem hjR)
  · rw [if_neg e, find_set hy _ hf]
    rw [Bool.eq_false_iff]
    intro q
    exact e ((isCur_iff.1 q).2.symm.trans (isCur_iff.1 hp).2)
theorem Rel.retires (h : Rel S last R) (n : ByteArray) : (S.retires n).2 = (rRetire R n).2.1 ∧ Rel (S.retires n).1 last (rRetire R n).1 ∧ AL.get (S.retires n).1.names n = none ∧ (AL.get S.names n = none → (rRetire R n).2.2 = 5) ∧ (AL.get S.names n ≠ none → (rRetire R n).2.2 = 0) := by
  rcases ix_cases (isCur n) R with ⟨hm, hn⟩ | ⟨k, y, hm, hy, hp, hn⟩
  · have hr : rRetire R n = (R, 0, 5) := by unfold rRetire; rw [hm, if_pos (by decide)]
    have hg : AL.get S.names n = none := by rw [h.names, find_none hn]; rfl
    have hs : S.retires n = (S, 0) := by unfold Shs.retires; rw [hg]
    rw [hr, hs]
    exact ⟨rfl, h, hg, fun _ => rfl, fun q => absurd hg q⟩
  · have hr : rRetire R n = ((rDrop (R.set k { y with cur := false }) k { y with cur := false }).1, (rDrop (R.set k { y with cur := false }) k { y with cur := false }).2, 0) := by
      unfold rRetire; rw [hm, if_neg (by omega)]; simp only [Int.toNat_natCast, hy]
    have hg : AL.get S.names n = some y.id := by rw [h.names, find_of hy hp hn]; rfl
    have hb : AL.get S.books y.id = some (ent y).2 := by rw [h.books, get_ent, find_id h.ids hy]; rfl
    have hs : S.retires n = (⟨S.last, AL.put S.books y.id (ent { y with cur := false }).2, AL.del S.names n⟩ : Shs).lets y.id := by unfold Shs.retires; rw [hg]; simp only [hb]; rfl
    have h1 := h.set (y' := { y with cur := false }) hy rfl (h.refs y (List.mem_of_getElem? hy)) rfl (.inr rfl) (AL.del S.names n) (fun m => h.noCur hy hp hn m)
    obtain ⟨h2, h3⟩ := h1.drop (set_get hy)
    rw [hr, hs]
    refine ⟨h2, h3, ?_, fun q => absurd (hg.symm.trans q) (by simp), fun _ => rfl⟩
    have : ∀ (T : Shs) (id : Int), (T.lets id).1.names = T.names := fun T id => by
      unfold Shs.lets
      split
      · rfl
      · split <;> rfl
    rw [this]
    show AL.get (AL.del S.names n) n = none
    rw [AL.get_del, if_pos rfl]
theorem Rel.retire (h : Rel S last R) (n : ByteArray) : (S.retire n).2 = (rRetire R n).2 ∧ Rel (S.retire n).1 last (rRetire R n).1 := by
  obtain ⟨h1, h2, _, h4, h5⟩ := h.retires n
  by_cases hg : AL.get S.names n = none
  · have hs : S.retires n = (S, 0) := by unfold Shs.retires; rw [hg]
    unfold Shs.retire
    rw [if_pos hg]
    rw [hs] at h1 h2
    exact ⟨Prod.ext h1 (h4 hg).symm, h2⟩
  · unfold Shs.retire
    rw [if_neg hg]
    exact ⟨Prod.ext h1 (h5 hg).symm, h2⟩
theorem Rel.load (h : Rel S last R) {n : ByteArray} {l : List UInt8} (hi : isS n l = 0) (da : Option Addr) (dc : Nat) :
    (S.load n l).2 = (last + 1, (rRetire R n).2.1, 0) ∧ Rel (S.load n l).1 (last + 1) ((rRetire R n).1 ++ [⟨last + 1, n, l.drop 4, true, 0, da, dc⟩]) := by
  obtain ⟨h1, h2, h3, _, _⟩ := h.retires n
  unfold Shs.load
  rw [if_pos hi]
  have hl := h2.lst
  have hnone : AL.get (S.retires n).1.books (last + 1) = none := by
    rw [h2.books, get_ent, find_none]
    · rfl
    · intro y hy
      rw [Bool.eq_false_iff]
      intro q
      have := h2.pos y hy
      have := isId_iff.1 q
      omega
  rw [hl] at hnone
  refine ⟨by rw [h1, hl], ?_⟩
  have hne : ∀ y, y ∈ (rRetire R n).1 → isCur n y = false := by
    have := h2.names n
    rw [h3] at this
    cases hf : (rRetire R n).1.find? (isCur n) with
    | none => intro y hy; have := List.find?_eq_none.1 hf y hy; simpa using this
    | some y => rw [hf] at this; cases this
  refine ⟨by simp [hl], ?_, fun m => ?_, fun y hy => ?_, ?_, ?_, fun y hy => ?_⟩
  · show AL.put _ _ _ = _
    unfold AL.put
    rw [if_neg (by rw [hnone]; simp), h2.books, List.map_append, hl]
    rfl
  · show AL.get (AL.put _ _ _) m = _
    rw [AL.get_put, List.find?_append]
    by_cases e : m = n
    · subst e
      rw [if_pos rfl, find_none hne]
      have : isCur m ⟨last + 1, m, l.drop 4, true, 0, da, dc⟩ = true := isCur_iff.2 ⟨rfl, rfl⟩
      rw [List.find?_cons, this, hl]; rfl
    · rw [if_neg e, h2.names]
      have : isCur m ⟨last + 1, n, l.drop 4, true, 0, da, dc⟩ = false := by rw [Bool.eq_false_iff]; intro q; exact e (isCur_iff.1 q).2.symm
      rw [List.find?_cons, this, List.find?_nil, Option.or_none]
  · rcases List.mem_append.1 hy with q | q
    · exact h2.refs y q
    · rw [List.mem_singleton] at q; subst q; exact Int.le_refl _
  · rw [List.pairwise_append]
    refine ⟨h2.ids, List.pairwise_singleton _ _, fun y hy z hz => ?_⟩
    rw [List.mem_singleton] at hz; subst hz
    have := h2.pos y hy
    show y.id ≠ last + 1
    omega
  · rw [List.pairwise_append]
    refine ⟨h2.uq, List.pairwise_singleton _ _, fun y hy z hz => ?_⟩
    rw [List.mem_singleton] at hz; subst hz
    rintro ⟨q1, _, q3⟩
    have := hne y hy
    rw [isCur_iff.2 ⟨q1, q3⟩] at this; cases this
  · rcases List.mem_append.1 hy with q | q
    · have := h2.pos y q; exact ⟨this.1, by omega⟩
    · rw [List.mem_singleton] at q; subst q
      have : (0 : Int) ≤ last := by rw [hl]; omega
      exact ⟨by show 1 ≤ last + 1; omega, Int.le_refl _⟩
theorem Rel.pin (h : Rel S last R) (n : ByteArray) : (S.pin n).2 = (rPin R n).2 ∧ Rel (S.pin n).1 last (rPin R n).1 := by
  rcases ix_cases (isCur n) R with ⟨hm, hn⟩ | ⟨k, y, hm, hy, hp, hn⟩
  · have hr : rPin R n = (R, 0, [], 5) := by unfold rPin; rw [hm, if_pos (by decide)]
    have hg : AL.get S.names n = none := by rw [h.names, find_none hn]; rfl
    have hs : S.pin n = (S, 0, [], 5) := by unfold Shs.pin; rw [hg]
    rw [hr, hs]
    exact ⟨rfl, h⟩
  · have hr : rPin R n = (R.set k { y with refs := y.refs + 1 }, y.id, y.data, 0) := by unfold rPin; rw [hm, if_neg (by omega)]; simp only [Int.toNat_natCast, hy]
    have hg : AL.get S.names n = some y.id := by rw [h.names, find_of hy hp hn]; rfl
    have hb : AL.get S.books y.id = some (ent y).2 := by rw [h.books, get_ent, find_id h.ids hy]; rfl
    have h0 := h.refs y (List.mem_of_getElem? hy)
    have he : (ent { y with refs := y.refs + 1 }).2 = { (ent y).2 with pins := (ent y).2.pins + 1 } := by
      show Bk.mk _ _ _ = Bk.mk _ _ _
      congr 1
      show (y.refs + 1).toNat = y.refs.toNat + 1
      omega
    have hs : S.pin n = (⟨S.last, AL.put S.books y.id (ent { y with refs := y.refs + 1 }).2, S.names⟩, y.id, y.data, 0) := by unfold Shs.pin; rw [hg]; simp only [hb]; rw [he]; rfl
    rw [hr, hs]
    refine ⟨rfl, h.set (y' := { y with refs := y.refs + 1 }) hy rfl (by show 0 ≤ y.refs + 1; omega) rfl (.inl rfl) S.names (fun m => ?_)⟩
    rw [h.names m]
    by_cases e : isCur m y = true
    · have e1 : (R.set k { y with refs := y.refs + 1 }).find? (isCur m) = some { y with refs := y.refs + 1 } := by
        refine find_of (set_get hy) (by exact e) (fun j z hj hz => ?_)
        rw [List.getElem?_set_ne (by omega)] at hz
        have := (isCur_iff.1 e).2
        have q := (isCur_iff.1 hp).2
        have : m = n := this.symm.trans q
        subst this
        exact hn j z hj hz
      have e2 : R.find? (isCur m) = some y := by
        have : m = n := (isCur_iff.1 e).2.symm.trans (isCur_iff.1 hp).2
        subst this
        exact find_of hy hp hn
      rw [e1, e2]; rfl
    · rw [find_set hy (by simpa using e) (by simpa [isCur] using e)]
theorem Rel.unpin (h : Rel S last R) (id : Int) : (S.unpin id).2 = (rUnpin R id).2 ∧ Rel (S.unpin id).1 last (rUnpin R id).1 := by
  rcases ix_cases (isId id) R with ⟨hm, hn⟩ | ⟨k, y, hm, hy, hp, hn⟩
  · have hr : rUnpin R id = (R, false) := by unfold rUnpin; rw [hm, if_pos (by decide)]
    have hs : S.unpin id = (S, false) := by unfold Shs.unpin; rw [h.books, get_ent, find_none hn]; rfl
    rw [hr, hs]
    exact ⟨rfl, h⟩
  · have hid := isId_iff.1 hp
    subst hid
    have hb : AL.get S.books y.id = some (ent y).2 := by rw [h.books, get_ent, find_id h.ids hy]; rfl
    have h0 := h.refs y (List.mem_of_getElem? hy)
    by_cases hz : y.refs = 0
    · have hr : rUnpin R y.id = (R, false) := by unfold rUnpin; rw [hm, if_neg (by omega)]; simp only [Int.toNat_natCast, hy]; rw [if_pos hz]
      have hs : S.unpin y.id = (S, false) := by unfold Shs.unpin; rw [hb]; simp only; rw [if_pos (by show y.refs.toNat = 0; omega)]
      rw [hr, hs]
      exact ⟨rfl, h⟩
    · have hr : rUnpin R y.id = ((rDrop (R.set k { y with refs := y.refs - 1 }) k { y with refs := y.refs - 1 }).1, (rDrop (R.set k { y with refs := y.refs - 1 }) k { y with refs := y.refs - 1 }).2 != 0) := by
        unfold rUnpin; rw [hm, if_neg (by omega)]; simp only [Int.toNat_natCast, hy]; rw [if_neg hz]
      have he : (ent { y with refs := y.refs - 1 }).2 = { (ent y).2 with pins := (ent y).2.pins - 1 } := by
        show Bk.mk _ _ _ = Bk.mk _ _ _
        congr 1
        show (y.refs - 1).toNat = y.refs.toNat - 1
        omega
      have hs : S.unpin y.id = (((⟨S.last, AL.put S.books y.id (ent { y with refs := y.refs - 1 }).2, S.names⟩ : Shs).lets y.id).1, decide (0 < ((⟨S.last, AL.put S.books y.id (ent { y with refs := y.refs - 1 }).2, S.names⟩ : Shs).lets y.id).2)) := by
        unfold Shs.unpin; rw [hb]; simp only; rw [if_neg (by show ¬ y.refs.toNat = 0; omega), he]
      have h1 := h.set (y' := { y with refs := y.refs - 1 }) hy rfl (by show 0 ≤ y.refs - 1; omega) rfl (.inl rfl) S.names (fun m => by
        rw [h.names m]
        by_cases e : isCur m y = true
        · have hu : ∀ (z : It) (j : Nat), j < k → R[j]? = some z → isCur m z = false := fun z j hj hz => by
            rw [Bool.eq_false_iff]
            intro q
            have a1 := List.getElem?_eq_some_iff.1 hz
            have a2 := List.getElem?_eq_some_iff.1 hy
            have := List.pairwise_iff_getElem.1 h.uq j k a1.1 a2.1 hj
            rw [a1.2, a2.2] at this
            exact this ⟨(isCur_iff.1 q).1, (isCur_iff.1 e).1, (isCur_iff.1 q).2.trans (isCur_iff.1 e).2.symm⟩
          have e1 : (R.set k { y with refs := y.refs - 1 }).find? (isCur m) = some { y with refs := y.refs - 1 } := by
            refine find_of (set_get hy) (by exact e) (fun j z hj hz => ?_)
            rw [List.getElem?_set_ne (by omega)] at hz
            exact hu z j hj hz
          rw [e1, find_of hy e (fun j z hj hz => hu z j hj hz)]; rfl
        · rw [find_set hy (by simpa using e) (by simpa [isCur] using e)])
      obtain ⟨h2, h3⟩ := h1.drop (set_get hy)
      have hid := h.pos y (List.mem_of_getElem? hy)
      rw [hr, hs]
      refine ⟨?_, h3⟩
      show decide (0 < _) = (_ != (0 : Int))
      have h2' : ((⟨S.last, AL.put S.books y.id (ent { y with refs := y.refs - 1 }).2, S.names⟩ : Shs).lets y.id).2 = (rDrop (R.set k { y with refs := y.refs - 1 }) k { y with refs := y.refs - 1 }).2 := h2
      rw [h2']
      have : (rDrop (R.set k { y with refs := y.refs - 1 }) k { y with refs := y.refs - 1 }).2 = 0 ∨ (rDrop (R.set k { y with refs := y.refs - 1 }) k { y with refs := y.refs - 1 }).2 = y.id := by
        unfold rDrop; split
        · exact .inl rfl
        · exact .inr rfl
      rcases this with q | q <;> rw [q]
      · rfl
      · have a1 : (0 : Int) < y.id := by omega
        have a2 : y.id ≠ 0 := by omega
        simp [a1, a2]
theorem Rel.refsOf (h : Rel S last R) (id : Int) : S.refs id = rRefs R id := by
  unfold Shs.refs rRefs
  rw [h.books, get_ent]
  cases hf : R.find? (isId id) with
  | none => rfl
  | some y =>
    have := h.refs y (List.mem_of_find?_eq_some hf)
    show ((y.refs.toNat : Nat) : Int) = y.refs
    omega
theorem Rel.sizeOf (h : Rel S last R) (id : Int) : S.size id = rSize R id := by
  unfold Shs.size rSize
  rw [h.books, get_ent]
  cases R.find? (isId id) <;> rfl
theorem Rel.bytes (h : Rel S last R) : S.bytes = rBytes R := by
  unfold Shs.bytes rBytes
  rw [h.books, List.map_map]
  rfl
end Go.Proofs.Ytnjkchbombjemaa.Rf
