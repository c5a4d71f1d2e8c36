/- Forests in memory; lengths in memory. -/
import Derived.Test.YtcecnkmhhbncdaaHfC
import Derived.Test.YtcecnkmhhbncdaaRowsO
namespace Go.Proofs.Ytcecnkmhhbncdaa.Hu
open Go Go.RowKit Go.ChangeMaps Go.MapKept Go.Mg Go.Hf Go.Sort

theorem Tv.sl {w : World} {t : Tr} {v : Value} (h : Tv w t v) : SlR w 1 v t.s.length (t.s.map nv) := by
  obtain ⟨a, c, e, h1, _⟩ := h; exact h1
theorem Tv.pos {w : World} {t : Tr} {v : Value} (h : Tv w t v) : 0 < t.s.length := by
  obtain ⟨a, c, e, _, h1, _⟩ := h; exact h1.pos
theorem Tv.len {w : World} {t : Tr} {a : Option Addr} {n c : Nat} (h : Tv w t (.slice a n c)) : t.s.length = n := by
  obtain ⟨a', c', e, _⟩ := h; simp only [Value.slice.injEq] at e; omega
theorem Tv.lt {w : World} {t : Tr} {v : Value} (h : Tv w t v) {b : Nat} (hb : v.ownBlock = some b) : b < w.heap.size := by
  obtain ⟨a, c, rfl, ⟨_, a0, c0, e0, _, _, _, hc⟩, hm, _⟩ := h
  simp only [Value.slice.injEq, true_and] at e0
  obtain ⟨rfl, rfl⟩ := e0
  obtain ⟨g, off, rfl, hg, _⟩ := hc hm.pos
  have := own_b hb
  omega
/-- A forest in memory, its row made since B. -/
structure Fo (B : Nat) (w : World) (e : TypeId) (vl : Value) (Fs : List (Tr × Value)) : Prop where
  row : OwnO w e 2 vl Fs.length (Fs.flatMap E)
  new : ∀ b, vl.ownBlock = some b → B ≤ b
  trees : ∀ p, p ∈ Fs → Tv w p.1 p.2
  apart : ∀ p, p ∈ Fs → ∀ b, p.2.ownBlock = some b → vl.ownBlock ≠ some b
theorem Fo.nil (B : Nat) (w : World) (e : TypeId) : Fo B w e (.slice none 0 0) [] := ⟨OwnO.nil _ _ _, (fun b h => by cases h), (fun p h => by cases h), fun p h => by cases h⟩
theorem Fo.kp {B : Nat} {w w' : World} {e : TypeId} {vl : Value} {Fs : List (Tr × Value)} {F : Nat → Prop} (h : Fo B w e vl Fs) (hk : Kp F w w') (h1 : ∀ b, vl.ownBlock = some b → ¬ F b) (h2 : ∀ p, p ∈ Fs → ∀ b, p.2.ownBlock = some b → ¬ F b) : Fo B w' e vl Fs :=
  ⟨h.row.kp hk h1, h.new, fun p hp => (h.trees p hp).kp hk (h2 p hp), h.apart⟩
/-- A tree behind the others. -/
theorem Fo.push {B : Nat} {w w' : World} {e : TypeId} {vl vl' : Value} {Fs : List (Tr × Value)} {t : Tr} {v : Value} (h : Fo B w e vl Fs) (hB : B ≤ w.heap.size) (ht : Tv w t v) (hd : ∀ b, v.ownBlock = some b → vl.ownBlock ≠ some b)
    (ho : OwnO w' e 2 vl' (Fs.length + 1) (Fs.flatMap E ++ E (t, v))) (hk : Kp (fun k => vl.ownBlock = some k) w w') (hv : vl'.ownBlock = vl.ownBlock ∨ vl'.ownBlock = some w.heap.size) : Fo B w' e vl' (Fs ++ [(t, v)]) := by
  have hall : ∀ p, p ∈ Fs ++ [(t, v)] → Tv w p.1 p.2 ∧ ∀ b, p.2.ownBlock = some b → vl.ownBlock ≠ some b := by
    intro p hp
    rcases List.mem_append.1 hp with hp | hp
    · exact ⟨h.trees p hp, h.apart p hp⟩
    · rw [List.mem_singleton] at hp; subst hp; exact ⟨ht, hd⟩
  refine ⟨by simpa using ho, fun b hb => ?_, fun p hp => (hall p hp).1.kp hk (fun b hb q => (hall p hp).2 b hb q), fun p hp b hb q => ?_⟩
  · rcases hv with q | q
    · exact h.new b (by rw [← q]; exact hb)
    · rw [hb] at q; simp at q; omega
  · rcases hv with q' | q'
    · exact (hall p hp).2 b hb (by rw [← q']; exact q)
    · rw [q] at q'; simp at q'; have := (hall p hp).1.lt hb; omega
/-- The lengths in memory, in a row made since B. -/
structure Lo (B : Nat) (w : World) (vo : Value) (N : Nat) (L : Nat → Nat) : Prop where
  row : OwnR w 3 1 vo N ((List.range N).map fun i => nv (L i))
  new : ∀ b, vo.ownBlock = some b → B ≤ b
theorem Lo.kp {B : Nat} {w w' : World} {vo : Value} {N : Nat} {L : Nat → Nat} {F : Nat → Prop} (h : Lo B w vo N L) (hk : Kp F w w') (h1 : ∀ b, vo.ownBlock = some b → ¬ F b) : Lo B w' vo N L := ⟨h.row.kp hk h1, h.new⟩
def Apart (vo vl : Value) (Fs : List (Tr × Value)) : Prop := ∀ b, vo.ownBlock = some b → vl.ownBlock ≠ some b ∧ ∀ p, p ∈ Fs → p.2.ownBlock ≠ some b
theorem bump_one (s : Nat) (L : Nat → Nat) : bump [s] L = fun i => if i = s then L i + 1 else L i := by
  funext i
  unfold bump
  rw [List.count_singleton]
  by_cases h : i = s
  · subst h; simp
  · have : ¬ (s = i) := fun e => h e.symm
    simp [h, this]
theorem range_set (N s : Nat) (L : Nat → Nat) : ((List.range N).map fun i => nv (L i)).set s (nv (L s + 1)) = (List.range N).map fun i => nv (bump [s] L i) := by
  apply List.ext_getElem
  · simp
  · intro i h1 h2
    simp only [List.length_set, List.length_map, List.length_range] at h1
    simp only [List.getElem_set, List.getElem_map, List.getElem_range]
    rw [bump_one]
    by_cases h : s = i
    · subst h; simp
    · have : ¬ (i = s) := fun e => h e.symm
      simp [h, this]
/-- 'lengths[s]++'. -/
theorem Lo.at_ {B : Nat} {w : World} {a : Option Addr} {c N : Nat} {L : Nat → Nat} (h : Lo B w (.slice a N c) N L) {s : Nat} (hs : s < N) :
    ∃ g, a = some ⟨g, 0, none⟩ ∧ g < w.heap.size ∧ N ≤ c ∧ B ≤ g ∧ w.cell? ⟨g, s, none⟩ = some (.int .i64 (L s : Nat)) ∧ w.frozen? ⟨g, s, none⟩ = false ∧
      Lo B (w.setCell ⟨g, s, none⟩ (.int .i64 ((L s + 1 : Nat) : Int))) (.slice a N c) N (bump [s] L) ∧ Kp (· = g) w (w.setCell ⟨g, s, none⟩ (.int .i64 ((L s + 1 : Nat) : Int))) := by
  obtain ⟨g, rfl, hc, hj⟩ := h.row.at1 (by omega)
  obtain ⟨h1, h2, h3⟩ := hj s hs
  obtain ⟨h4, h5⟩ := h3 (.int .i64 ((L s + 1 : Nat) : Int))
  refine ⟨g, rfl, h.row.lt rfl, hc, h.new g rfl, h1 _ (by simp [hs, nv]), h2, ⟨?_, h.new⟩, h5⟩
  rw [← range_set N s L]
  exact h4
theorem bump_app (s t : List Nat) (L : Nat → Nat) : bump (s ++ t) L = bump t (bump s L) := by
  funext i; unfold bump; rw [List.count_append]; omega
theorem bump_nil (L : Nat → Nat) : bump [] L = L := by funext i; simp [bump]
theorem bump_take {s : List Nat} {k : Nat} (hk : k < s.length) (L : Nat → Nat) : bump (s.take (k + 1)) L = bump [s[k]] (bump (s.take k) L) := by
  rw [List.take_succ_eq_append_getElem hk, bump_app]
/-- The greatest length so far. -/
structure Most (N : Nat) (L : Nat → Nat) (m : Nat) : Prop where
  le : ∀ i, i < N → L i ≤ m
  is : m = 0 ∨ ∃ i, i < N ∧ L i = m
theorem Most.bump {N : Nat} {L : Nat → Nat} {m s : Nat} (h : Most N L m) (hs : s < N) : Most N (bump [s] L) (max m (L s + 1)) := by
  rw [bump_one]
  refine ⟨fun i hi => ?_, ?_⟩
  · have := h.le i hi
    split
    · rename_i e; subst e; omega
    · omega
  · by_cases q : m ≤ L s + 1
    · exact .inr ⟨s, hs, by simp; omega⟩
    · rcases h.is with e | ⟨i, hi, e⟩
      · omega
      · refine .inr ⟨i, hi, ?_⟩
        have : ¬ i = s := fun z => by subst z; omega
        simp only [if_neg this]; omega
theorem leaf_tv {w : World} {g i c : Nat} (hg : w.heap[g]? = some (.cells #[nv i] 3 (0, 0))) : Tv w (leaf i c) (.slice (some ⟨g, 0, none⟩) 1 1) := by
  refine ⟨_, _, rfl, ⟨by simp [leaf], _, _, rfl, Nat.le_refl _, by unfold maxLen; omega, (fun h => by cases h), fun _ => ⟨g, 0, rfl, lt_of_at hg, fun j u hu => ?_⟩⟩, ⟨by simp [leaf], fun j hj => by simp [leaf] at hj ⊢; omega⟩, by simp [leaf]⟩
  rw [cell_of hg]
  simp only [leaf, List.map_cons, List.map_nil] at hu
  cases j with
  | zero => simpa using hu
  | succ j => simp at hu
/-- A row of one tree, as it is laid for append. -/
theorem one_sl {w : World} {g : Nat} {e : TypeId} {t : Tr} {v : Value} (hg : w.heap[g]? = some (.cells #[.int .i64 (t.n : Nat), v] e (0, 0))) : SlR w 2 (.slice (some ⟨g, 0, none⟩) 1 1) 1 (E (t, v)) := by
  refine ⟨rfl, _, _, rfl, Nat.le_refl _, by unfold maxLen; omega, (fun h => by cases h), fun _ => ⟨g, 0, rfl, lt_of_at hg, fun j u hu => ?_⟩⟩
  rw [cell_of hg, Nat.zero_add]
  simp only [E, tcs] at hu
  match j, hu with
  | 0, hu => simpa using hu
  | 1, hu => simpa using hu
  | j + 2, hu => simp at hu
theorem E_one1 {w : World} {t : Tr} {v : Value} (h : Tv w t v) : ∀ u ∈ E (t, v), u.oneCell' = true := by
  intro u hu
  obtain ⟨a, c, e, _⟩ := h
  simp only [E, tcs, List.mem_cons, List.not_mem_nil, or_false] at hu
  rcases hu with rfl | rfl
  · rfl
  · rw [e]; rfl
def lenOf (v : Value) : Nat := match v with | .slice _ n _ => n | _ => 0
/-- What joins two trees, their symbols in a row. -/
theorem joins_tv {w : World} {a b : Tr} {va vb : Value} (ha : Tv w a va) (hb : Tv w b vb) (hl : a.s.length + b.s.length ≤ 1000) : ∃ c : Tr, Joins a b c ∧ c.s = a.s ++ b.s ∧
    ∀ w' x y, SlR w' 1 (.slice x (a.s.length + b.s.length) y) (a.s.length + b.s.length) (a.s.map nv ++ b.s.map nv) → Tv w' c (.slice x (a.s.length + b.s.length) y) := by
  obtain ⟨_, _, _, _, ma, _⟩ := ha
  obtain ⟨_, _, _, _, mb, _⟩ := hb
  refine ⟨⟨a.n + b.n, min a.m b.m, a.s ++ b.s⟩, ⟨rfl, rfl, List.Perm.refl _⟩, rfl, fun w' x y h => ⟨x, y, by simp, by simpa using h, ⟨?_, ?_⟩, by simpa using hl⟩⟩
  · show min a.m b.m ∈ a.s ++ b.s
    rcases Nat.le_total a.m b.m with q | q
    · rw [Nat.min_eq_left q]; exact List.mem_append.2 (.inl ma.1)
    · rw [Nat.min_eq_right q]; exact List.mem_append.2 (.inr mb.1)
  · intro i hi
    show min a.m b.m ≤ i
    rcases List.mem_append.1 hi with q | q
    · exact Nat.le_trans (Nat.min_le_left _ _) (ma.2 i q)
    · exact Nat.le_trans (Nat.min_le_right _ _) (mb.2 i q)
theorem pick_perm {α : Type} {l : List α} {k : Nat} (hk : k < l.length) : l.Perm (l[k] :: (l.take k ++ l.drop (k + 1))) := by
  have : l = l.take k ++ l[k] :: l.drop (k + 1) := by simp
  rw (occs := .pos [1]) [this]
  exact List.perm_middle
/-! ### a row that is being made, beside a block for a tree -/
structure Gro (e : TypeId) (W V : World) (v : Value) (n : Nat) (xs : List Value) (q : Option Nat) : Prop where
  kp : Kp (fun _ => False) W V
  own : OwnR V 3 1 v n xs
  new : ∀ b, v.ownBlock = some b → W.heap.size ≤ b ∧ q ≠ some b
  at_ : ∀ g, q = some g → W.heap.size ≤ g ∧ V.heap[g]? = some (.cells #[.int .i64 0, .slice none 0 0] e (0, 0))
theorem Gro.start (e : TypeId) (W : World) : Gro e W (W.drew.alloc (.cells #[] 3)) (.slice (some ⟨W.heap.size, 0, none⟩) 0 0) 0 [] none :=
  ⟨((Kp.refl _ _).drew).alloc _, own_none W.drew _ _, fun b hb => ⟨Nat.le_of_eq (own_b hb).symm, by simp⟩, fun g h => by cases h⟩
theorem Gro.start2 (e : TypeId) (W : World) : Gro e W ((W.drew.alloc (.cells #[.int .i64 0, .slice none 0 0] e)).alloc (.cells #[] 3)) (.slice (some ⟨W.heap.size + 1, 0, none⟩) 0 0) 0 [] (some W.heap.size) := by
  refine ⟨(((Kp.refl _ _).drew).alloc _).alloc _, ?_, fun b hb => ?_, fun g h => ?_⟩
  · have := own_none (W.drew.alloc (.cells #[.int .i64 0, .slice none 0 0] e)) 3 1
    rwa [World.size_alloc] at this
  · have e1 := own_b hb
    subst e1
    exact ⟨by omega, by simp⟩
  · cases h
    exact ⟨Nat.le_refl _, (Below.heap_alloc _ _ _ (by simp)).trans (alloc_at W.drew _)⟩
theorem Gro.alloc {e : TypeId} {W V : World} {v : Value} {n : Nat} {xs : List Value} (h : Gro e W V v n xs none) : Gro e W (V.alloc (.cells #[.int .i64 0, .slice none 0 0] e)) v n xs (some V.heap.size) := by
  have ha : Kp (fun _ => False) V (V.alloc (.cells #[.int .i64 0, .slice none 0 0] e)) := (Kp.refl _ _).alloc _
  refine ⟨h.kp.alloc _, h.own.kp ha (fun _ _ q => q), fun b hb => ⟨(h.new b hb).1, fun e => ?_⟩, fun g hg => ?_⟩
  · have := h.own.lt hb; simp at e; omega
  · cases hg
    exact ⟨h.kp.size, alloc_at V _⟩
theorem Gro.app {e : TypeId} {W V w' : World} {v v' : Value} {n m : Nat} {xs ys : List Value} {q : Option Nat} (h : Gro e W V v n xs q) (h1 : OwnR w' 3 1 v' (n + m) (xs ++ ys)) (h2 : Kp (fun k => v.ownBlock = some k) V w') (h3 : v'.ownBlock = v.ownBlock ∨ v'.ownBlock = some V.heap.size) :
    Gro e W w' v' (n + m) (xs ++ ys) q := by
  refine ⟨h.kp.up h2 (fun i hi => (h.new i hi).1), h1, fun b hb => ?_, fun g hg => ⟨(h.at_ g hg).1, h2.at_ (h.at_ g hg).2 (fun e => (h.new g e).2 hg)⟩⟩
  rcases h3 with e | e
  · exact h.new b (by rw [← e]; exact hb)
  · rw [hb] at e
    simp only [Option.some.injEq] at e
    subst e
    refine ⟨h.kp.size, fun hq => ?_⟩
    have := lt_of_at (h.at_ _ hq).2
    omega
theorem Gro.later {e : TypeId} {W V V' : World} {v : Value} {n : Nat} {xs : List Value} {q : Option Nat} (h : Gro e W V v n xs q) (k : Kp (fun _ => False) V V') : Gro e W V' v n xs q :=
  ⟨h.kp.trans k, h.own.kp k (fun _ _ z => z), h.new, fun g hg => ⟨(h.at_ g hg).1, k.at_ (h.at_ g hg).2 (fun z => z)⟩⟩
/-- A call has made a row. -/
theorem Gro.call {e : TypeId} {W V w' : World} {v v' : Value} {n m : Nat} {xs ys : List Value} {q : Option Nat} (h : Gro e W V v n xs q) (h1 : OwnR w' 3 1 v' m ys) (h2 : Kp (fun _ => False) V w') (h3 : ∀ b, v'.ownBlock = some b → V.heap.size ≤ b) : Gro e W w' v' m ys q :=
  ⟨h.kp.trans h2, h1, fun b hb => ⟨Nat.le_trans h.kp.size (h3 b hb), fun e => by have := lt_of_at (h.at_ b e).2; have := h3 b hb; omega⟩, (h.later h2).at_⟩
/-- Two slices laid for a call. -/
theorem Gro.pair (e : TypeId) (W : World) (o : Obj) : Gro e W (W.drew.alloc o) (.slice none 0 0) 0 [] none :=
  ⟨((Kp.refl _ _).drew).alloc _, OwnR.nil _ _ _, (fun b hb => by cases hb), (fun g h => by cases h)⟩
theorem Gro.pair2 (e : TypeId) (W : World) (o : Obj) : Gro e W ((W.drew.alloc (.cells #[.int .i64 0, .slice none 0 0] e)).alloc o) (.slice none 0 0) 0 [] (some W.heap.size) :=
  ⟨(((Kp.refl _ _).drew).alloc _).alloc _, OwnR.nil _ _ _, (fun b hb => by cases hb), (fun g h => by cases h; exact ⟨Nat.le_refl _, (Below.heap_alloc _ _ _ (by simp)).trans (alloc_at W.drew _)⟩)⟩
theorem Gro.pair3 (e : TypeId) (W : World) (o : Obj) : Gro e W ((W.drew.alloc o).alloc (.cells #[.int .i64 0, .slice none 0 0] e)) (.slice none 0 0) 0 [] (some (W.heap.size + 1)) := by
  have := (Gro.pair e W o).alloc
  rw [World.size_alloc] at this
  exact this
/-- The tree laid. -/
def JoinAt (e : TypeId) (W : World) (n : Nat) (k : Nat) (xs : List Value) (s : Value) (w' : World) : Prop :=
  ∃ g b d, s = .pointer (some ⟨g, 0, none⟩) ∧ W.heap.size ≤ g ∧ w'.heap[g]? = some (.cells #[.int .i64 (n : Nat), .slice b k d] e (0, 0)) ∧ OwnR w' 3 1 (.slice b k d) k xs ∧
    (∀ i, (Value.slice b k d).ownBlock = some i → W.heap.size ≤ i ∧ i ≠ g) ∧ Kp (fun _ => False) W w'
theorem Gro.fin_set {e : TypeId} {W V : World} {b : Option Addr} {d n k : Nat} {xs : List Value} {g : Nat} (h : Gro e W V (.slice b k d) k xs (some g)) :
    JoinAt e W n k xs (.pointer (some ⟨g, 0, none⟩)) ((V.setCell ⟨g, 0, none⟩ (.int .i64 (n : Nat))).setCell ⟨g, 1, none⟩ (.slice b k d)) := by
  obtain ⟨h1, h2⟩ := h.at_ g rfl
  have kk : Kp (· = g) V ((V.setCell ⟨g, 0, none⟩ (.int .i64 (n : Nat))).setCell ⟨g, 1, none⟩ (.slice b k d)) :=
    ((Kp.refl (· = g) V).setCell (p := ⟨g, 0, none⟩) (fun _ => rfl) _).setCell (p := ⟨g, 1, none⟩) (fun _ => rfl) _
  exact ⟨g, b, d, rfl, h1, setCell_at (i := 1) (setCell_at (i := 0) h2 (.int .i64 (n : Nat))) (.slice b k d), h.own.kp kk (fun i hi e => (h.new i hi).2 (by rw [e])), fun i hi => ⟨(h.new i hi).1, fun e => (h.new i hi).2 (by rw [e])⟩,
    h.kp.up kk (fun i e => by rw [e]; exact h1)⟩
theorem Gro.fin_alloc {e : TypeId} {W V : World} {b : Option Addr} {d n k : Nat} {xs : List Value} (h : Gro e W V (.slice b k d) k xs none) :
    JoinAt e W n k xs (.pointer (some ⟨V.heap.size, 0, none⟩)) (V.alloc (.cells #[.int .i64 (n : Nat), .slice b k d] e)) := by
  have kk : Kp (fun _ => False) V (V.alloc (.cells #[.int .i64 (n : Nat), .slice b k d] e)) := (Kp.refl _ _).alloc _
  exact ⟨_, b, d, rfl, h.kp.size, alloc_at V _, h.own.kp kk (fun _ _ q => q), fun i hi => ⟨(h.new i hi).1, by have := h.own.lt hi; omega⟩, h.kp.trans kk⟩
end Go.Proofs.Ytcecnkmhhbncdaa.Hu
