/- Forests in memory; lengths in memory. What sorting a row of one's own leaves of it. huff: which of two trees is joined first; trees sorted. huff: trees sorted. -/
import Derived.Sort.Grow
import Derived.Test.YtphakpikalmghaaGreatJ11
namespace Go.Proofs.YtphakpikalmghaaGreat.Hu
open Go Go.RowKit Go.ChangeMaps Go.MapKept Go.Mg Go.Hf Go.Sort

theorem Tv.sl {w : World} {t : Tr} {v : Value} (h : Tv w t v) : SlR w 1 v t.s.length (t.s.map nv) := by
  obtain ⟨a, c, e, h1, _⟩ := h; exact h1
theorem Tv.pos {w : World} {t : Tr} {v : Value} (h : Tv w t v) : 0 < t.s.length := by
  obtain ⟨a, c, e, _, h1, _⟩ := h; exact h1.pos
theorem Tv.len {w : World} {t : Tr} {a : Option Addr} {n c : Nat} (h : Tv w t (.slice a n c)) : t.s.length = n := by
  obtain ⟨a', c', e, _⟩ := h; simp only [Value.slice.injEq] at e; omega
theorem Tv.lt {w : World} {t : Tr} {v : Value} (h : Tv w t v) {b : Nat} (hb : v.ownBlock = some b) : b < w.heap.size := by
  obtain ⟨a, c, rfl, ⟨_, a0, c0, e0, _, _, _, hc⟩, hm, _⟩ := h
  simp only [Value.slice.injEq, true_and] at e0
  obtain ⟨rfl, rfl⟩ := e0
  obtain ⟨g, off, rfl, hg, _⟩ := hc hm.pos
  have := own_b hb
  omega
/-- A forest in memory, its row made since B. -/
structure Fo (B : Nat) (w : World) (e : TypeId) (vl : Value) (Fs : List (Tr × Value)) : Prop where
  row : OwnO w e 2 vl Fs.length (Fs.flatMap E)
  new : ∀ b, vl.ownBlock = some b → B ≤ b
  trees : ∀ p, p ∈ Fs → Tv w p.1 p.2
  apart : ∀ p, p ∈ Fs → ∀ b, p.2.ownBlock = some b → vl.ownBlock ≠ some b
theorem Fo.nil (B : Nat) (w : World) (e : TypeId) : Fo B w e (.slice none 0 0) [] := ⟨OwnO.nil _ _ _, (fun b h => by cases h), (fun p h => by cases h), fun p h => by cases h⟩
theorem Fo.kp {B : Nat} {w w' : World} {e : TypeId} {vl : Value} {Fs : List (Tr × Value)} {F : Nat → Prop} (h : Fo B w e vl Fs) (hk : Kp F w w') (h1 : ∀ b, vl.ownBlock = some b → ¬ F b) (h2 : ∀ p, p ∈ Fs → ∀ b, p.2.ownBlock = some b → ¬ F b) : Fo B w' e vl Fs :=
  ⟨h.row.kp hk h1, h.new, fun p hp => (h.trees p hp).kp hk (h2 p hp), h.apart⟩
/-- A tree behind the others. -/
theorem Fo.push {B : Nat} {w w' : World} {e : TypeId} {vl vl' : Value} {Fs : List (Tr × Value)} {t : Tr} {v : Value} (h : Fo B w e vl Fs) (hB : B ≤ w.heap.size) (ht : Tv w t v) (hd : ∀ b, v.ownBlock = some b → vl.ownBlock ≠ some b)
    (ho : OwnO w' e 2 vl' (Fs.length + 1) (Fs.flatMap E ++ E (t, v))) (hk : Kp (fun k => vl.ownBlock = some k) w w') (hv : vl'.ownBlock = vl.ownBlock ∨ vl'.ownBlock = some w.heap.size) : Fo B w' e vl' (Fs ++ [(t, v)]) := by
  have hall : ∀ p, p ∈ Fs ++ [(t, v)] → Tv w p.1 p.2 ∧ ∀ b, p.2.ownBlock = some b → vl.ownBlock ≠ some b := by
    intro p hp
    rcases List.mem_append.1 hp with hp | hp
    · exact ⟨h.trees p hp, h.apart p hp⟩
    · rw [List.mem_singleton] at hp; subst hp; exact ⟨ht, hd⟩
  refine ⟨by simpa using ho, fun b hb => ?_, fun p hp => (hall p hp).1.kp hk (fun b hb q => (hall p hp).2 b hb q), fun p hp b hb q => ?_⟩
  · rcases hv with q | q
    · exact h.new b (by rw [← q]; exact hb)
    · rw [hb] at q; simp at q; omega
  · rcases hv with q' | q'
    · exact (hall p hp).2 b hb (by rw [← q']; exact q)
    · rw [q] at q'; simp at q'; have := (hall p hp).1.lt hb; omega
/-- The lengths in memory, in a row made since B. -/
structure Lo (B : Nat) (w : World) (vo : Value) (N : Nat) (L : Nat → Nat) : Prop where
  row : OwnR w 3 1 vo N ((List.range N).map fun i => nv (L i))
  new : ∀ b, vo.ownBlock = some b → B ≤ b
theorem Lo.kp {B : Nat} {w w' : World} {vo : Value} {N : Nat} {L : Nat → Nat} {F : Nat → Prop} (h : Lo B w vo N L) (hk : Kp F w w') (h1 : ∀ b, vo.ownBlock = some b → ¬ F b) : Lo B w' vo N L := ⟨h.row.kp hk h1, h.new⟩
def Apart (vo vl : Value) (Fs : List (Tr × Value)) : Prop := ∀ b, vo.ownBlock = some b → vl.ownBlock ≠ some b ∧ ∀ p, p ∈ Fs → p.2.ownBlock ≠ some b
theorem bump_one (s : Nat) (L : Nat → Nat) : bump [s] L = fun i => if i = s then L i + 1 else L i := by
  funext i
  unfold bump
  rw [List.count_singleton]
  by_cases h : i = s
  · subst h; simp
  · have : ¬ (s = i) := fun e => h e.symm
    simp [h, this]
theorem range_set (N s : Nat) (L : Nat → Nat) : ((List.range N).map fun i => nv (L i)).set s (nv (L s + 1)) = (List.range N).map fun i => nv (bump [s] L i) := by
  apply List.ext_getElem
  · simp
  · intro i h1 h2
    simp only [List.length_set, List.length_map, List.length_range] at h1
    simp only [List.getElem_set, List.getElem_map, List.getElem_range]
    rw [bump_one]
    by_cases h : s = i
    · subst h; simp
    · have : ¬ (i = s) := fun e => h e.symm
      simp [h, this]
/-- 'lengths[s]++'. -/
theorem Lo.at_ {B : Nat} {w : World} {a : Option Addr} {c N : Nat} {L : Nat → Nat} (h : Lo B w (.slice a N c) N L) {s : Nat} (hs : s < N) :
    ∃ g, a = some ⟨g, 0, none⟩ ∧ g < w.heap.size ∧ N ≤ c ∧ B ≤ g ∧ w.cell? ⟨g, s, none⟩ = some (.int .i64 (L s : Nat)) ∧ w.frozen? ⟨g, s, none⟩ = false ∧
      Lo B (w.setCell ⟨g, s, none⟩ (.int .i64 ((L s + 1 : Nat) : Int))) (.slice a N c) N (bump [s] L) ∧ Kp (· = g) w (w.setCell ⟨g, s, none⟩ (.int .i64 ((L s + 1 : Nat) : Int))) := by
  obtain ⟨g, rfl, hc, hj⟩ := h.row.at1 (by omega)
  obtain ⟨h1, h2, h3⟩ := hj s hs
  obtain ⟨h4, h5⟩ := h3 (.int .i64 ((L s + 1 : Nat) : Int))
  refine ⟨g, rfl, h.row.lt rfl, hc, h.new g rfl, h1 _ (by simp [hs, nv]), h2, ⟨?_, h.new⟩, h5⟩
  rw [← range_set N s L]
  exact h4
theorem bump_app (s t : List Nat) (L : Nat → Nat) : bump (s ++ t) L = bump t (bump s L) := by
  funext i; unfold bump; rw [List.count_append]; omega
theorem bump_nil (L : Nat → Nat) : bump [] L = L := by funext i; simp [bump]
theorem bump_take {s : List Nat} {k : Nat} (hk : k < s.length) (L : Nat → Nat) : bump (s.take (k + 1)) L = bump [s[k]] (bump (s.take k) L) := by
  rw [List.take_succ_eq_append_getElem hk, bump_app]
/-- The greatest length so far. -/
structure Most (N : Nat) (L : Nat → Nat) (m : Nat) : Prop where
  le : ∀ i, i < N → L i ≤ m
  is : m = 0 ∨ ∃ i, i < N ∧ L i = m
theorem Most.bump {N : Nat} {L : Nat → Nat} {m s : Nat} (h : Most N L m) (hs : s < N) : Most N (bump [s] L) (max m (L s + 1)) := by
  rw [bump_one]
  refine ⟨fun i hi => ?_, ?_⟩
  · have := h.le i hi
    split
    · rename_i e; subst e; omega
    · omega
  · by_cases q : m ≤ L s + 1
    · exact .inr ⟨s, hs, by simp; omega⟩
    · rcases h.is with e | ⟨i, hi, e⟩
      · omega
      · refine .inr ⟨i, hi, ?_⟩
        have : ¬ i = s := fun z => by subst z; omega
        simp only [if_neg this]; omega
theorem leaf_tv {w : World} {g i c : Nat} (hg : w.heap[g]? = some (.cells #[nv i] 3 (0, 0))) : Tv w (leaf i c) (.slice (some ⟨g, 0, none⟩) 1 1) := by
  refine ⟨_, _, rfl, ⟨by simp [leaf], _, _, rfl, Nat.le_refl _, by unfold maxLen; omega, (fun h => by cases h), fun _ => ⟨g, 0, rfl, lt_of_at hg, fun j u hu => ?_⟩⟩, ⟨by simp [leaf], fun j hj => by simp [leaf] at hj ⊢; omega⟩, by simp [leaf]⟩
  rw [cell_of hg]
  simp only [leaf, List.map_cons, List.map_nil] at hu
  cases j with
  | zero => simpa using hu
  | succ j => simp at hu
/-- A row of one tree, as it is laid for append. -/
theorem one_sl {w : World} {g : Nat} {e : TypeId} {t : Tr} {v : Value} (hg : w.heap[g]? = some (.cells #[.int .i64 (t.n : Nat), v] e (0, 0))) : SlR w 2 (.slice (some ⟨g, 0, none⟩) 1 1) 1 (E (t, v)) := by
  refine ⟨rfl, _, _, rfl, Nat.le_refl _, by unfold maxLen; omega, (fun h => by cases h), fun _ => ⟨g, 0, rfl, lt_of_at hg, fun j u hu => ?_⟩⟩
  rw [cell_of hg, Nat.zero_add]
  simp only [E, tcs] at hu
  match j, hu with
  | 0, hu => simpa using hu
  | 1, hu => simpa using hu
  | j + 2, hu => simp at hu
theorem E_one1 {w : World} {t : Tr} {v : Value} (h : Tv w t v) : ∀ u ∈ E (t, v), u.oneCell' = true := by
  intro u hu
  obtain ⟨a, c, e, _⟩ := h
  simp only [E, tcs, List.mem_cons, List.not_mem_nil, or_false] at hu
  rcases hu with rfl | rfl
  · rfl
  · rw [e]; rfl
def lenOf (v : Value) : Nat := match v with | .slice _ n _ => n | _ => 0
/-- What joins two trees, their symbols in a row. -/
theorem joins_tv {w : World} {a b : Tr} {va vb : Value} (ha : Tv w a va) (hb : Tv w b vb) (hl : a.s.length + b.s.length ≤ 1000) : ∃ c : Tr, Joins a b c ∧ c.s = a.s ++ b.s ∧
    ∀ w' x y, SlR w' 1 (.slice x (a.s.length + b.s.length) y) (a.s.length + b.s.length) (a.s.map nv ++ b.s.map nv) → Tv w' c (.slice x (a.s.length + b.s.length) y) := by
  obtain ⟨_, _, _, _, ma, _⟩ := ha
  obtain ⟨_, _, _, _, mb, _⟩ := hb
  refine ⟨⟨a.n + b.n, min a.m b.m, a.s ++ b.s⟩, ⟨rfl, rfl, List.Perm.refl _⟩, rfl, fun w' x y h => ⟨x, y, by simp, by simpa using h, ⟨?_, ?_⟩, by simpa using hl⟩⟩
  · show min a.m b.m ∈ a.s ++ b.s
    rcases Nat.le_total a.m b.m with q | q
    · rw [Nat.min_eq_left q]; exact List.mem_append.2 (.inl ma.1)
    · rw [Nat.min_eq_right q]; exact List.mem_append.2 (.inr mb.1)
  · intro i hi
    show min a.m b.m ≤ i
    rcases List.mem_append.1 hi with q | q
    · exact Nat.le_trans (Nat.min_le_left _ _) (ma.2 i q)
    · exact Nat.le_trans (Nat.min_le_right _ _) (mb.2 i q)
theorem pick_perm {α : Type} {l : List α} {k : Nat} (hk : k < l.length) : l.Perm (l[k] :: (l.take k ++ l.drop (k + 1))) := by
  have : l = l.take k ++ l[k] :: l.drop (k + 1) := by simp
  rw (occs := .pos [1]) [this]
  exact List.perm_middle
/-! ### a row that is being made, beside a block for a tree -/
structure Gro (e : TypeId) (W V : World) (v : Value) (n : Nat) (xs : List Value) (q : Option Nat) : Prop where
  kp : Kp (fun _ => False) W V
  own : OwnR V 3 1 v n xs
  new : ∀ b, v.ownBlock = some b → W.heap.size ≤ b ∧ q ≠ some b
  at_ : ∀ g, q = some g → W.heap.size ≤ g ∧ V.heap[g]? = some (.cells #[.int .i64 0, .slice none 0 0] e (0, 0))
theorem Gro.start (e : TypeId) (W : World) : Gro e W (W.drew.alloc (.cells #[] 3)) (.slice (some ⟨W.heap.size, 0, none⟩) 0 0) 0 [] none :=
  ⟨((Kp.refl _ _).drew).alloc _, own_none W.drew _ _, fun b hb => ⟨Nat.le_of_eq (own_b hb).symm, by simp⟩, fun g h => by cases h⟩
theorem Gro.start2 (e : TypeId) (W : World) : Gro e W ((W.drew.alloc (.cells #[.int .i64 0, .slice none 0 0] e)).alloc (.cells #[] 3)) (.slice (some ⟨W.heap.size + 1, 0, none⟩) 0 0) 0 [] (some W.heap.size) := by
  refine ⟨(((Kp.refl _ _).drew).alloc _).alloc _, ?_, fun b hb => ?_, fun g h => ?_⟩
  · have := own_none (W.drew.alloc (.cells #[.int .i64 0, .slice none 0 0] e)) 3 1
    rwa [World.size_alloc] at this
  · have e1 := own_b hb
    subst e1
    exact ⟨by omega, by simp⟩
  · cases h
    exact ⟨Nat.le_refl _, (Below.heap_alloc _ _ _ (by simp)).trans (alloc_at W.drew _)⟩
theorem Gro.alloc {e : TypeId} {W V : World} {v : Value} {n : Nat} {xs : List Value} (h : Gro e W V v n xs none) : Gro e W (V.alloc (.cells #[.int .i64 0, .slice none 0 0] e)) v n xs (some V.heap.size) := by
  have ha : Kp (fun _ => False) V (V.alloc (.cells #[.int .i64 0, .slice none 0 0] e)) := (Kp.refl _ _).alloc _
  refine ⟨h.kp.alloc _, h.own.kp ha (fun _ _ q => q), fun b hb => ⟨(h.new b hb).1, fun e => ?_⟩, fun g hg => ?_⟩
  · have := h.own.lt hb; simp at e; omega
  · cases hg
    exact ⟨h.kp.size, alloc_at V _⟩
theorem Gro.app {e : TypeId} {W V w' : World} {v v' : Value} {n m : Nat} {xs ys : List Value} {q : Option Nat} (h : Gro e W V v n xs q) (h1 : OwnR w' 3 1 v' (n + m) (xs ++ ys)) (h2 : Kp (fun k => v.ownBlock = some k) V w') (h3 : v'.ownBlock = v.ownBlock ∨ v'.ownBlock = some V.heap.size) :
    Gro e W w' v' (n + m) (xs ++ ys) q := by
  refine ⟨h.kp.up h2 (fun i hi => (h.new i hi).1), h1, fun b hb => ?_, fun g hg => ⟨(h.at_ g hg).1, h2.at_ (h.at_ g hg).2 (fun e => (h.new g e).2 hg)⟩⟩
  rcases h3 with e | e
  · exact h.new b (by rw [← e]; exact hb)
  · rw [hb] at e
    simp only [Option.some.injEq] at e
    subst e
    refine ⟨h.kp.size, fun hq => ?_⟩
    have := lt_of_at (h.at_ _ hq).2
    omega
theorem Gro.later {e : TypeId} {W V V' : World} {v : Value} {n : Nat} {xs : List Value} {q : Option Nat} (h : Gro e W V v n xs q) (k : Kp (fun _ => False) V V') : Gro e W V' v n xs q :=
  ⟨h.kp.trans k, h.own.kp k (fun _ _ z => z), h.new, fun g hg => ⟨(h.at_ g hg).1, k.at_ (h.at_ g hg).2 (fun z => z)⟩⟩
/-- A call has made a row. -/
theorem Gro.call {e : TypeId} {W V w' : World} {v v' : Value} {n m : Nat} {xs ys : List Value} {q : Option Nat} (h : Gro e W V v n xs q) (h1 : OwnR w' 3 1 v' m ys) (h2 : Kp (fun _ => False) V w') (h3 : ∀ b, v'.ownBlock = some b → V.heap.size ≤ b) : Gro e W w' v' m ys q :=
  ⟨h.kp.trans h2, h1, fun b hb => ⟨Nat.le_trans h.kp.size (h3 b hb), fun e => by have := lt_of_at (h.at_ b e).2; have := h3 b hb; omega⟩, (h.later h2).at_⟩
/-- Two slices laid for a call. -/
theorem Gro.pair (e : TypeId) (W : World) (o : Obj) : Gro e W (W.drew.alloc o) (.slice none 0 0) 0 [] none :=
  ⟨((Kp.refl _ _).drew).alloc _, OwnR.nil _ _ _, (fun b hb => by cases hb), (fun g h => by cases h)⟩
theorem Gro.pair2 (e : TypeId) (W : World) (o : Obj) : Gro e W ((W.drew.alloc (.cells #[.int .i64 0, .slice none 0 0] e)).alloc o) (.slice none 0 0) 0 [] (some W.heap.size) :=
  ⟨(((Kp.refl _ _).drew).alloc _).alloc _, OwnR.nil _ _ _, (fun b hb => by cases hb), (fun g h => by cases h; exact ⟨Nat.le_refl _, (Below.heap_alloc _ _ _ (by simp)).trans (alloc_at W.drew _)⟩)⟩
theorem Gro.pair3 (e : TypeId) (W : World) (o : Obj) : Gro e W ((W.drew.alloc o).alloc (.cells #[.int .i64 0, .slice none 0 0] e)) (.slice none 0 0) 0 [] (some (W.heap.size + 1)) := by
  have := (Gro.pair e W o).alloc
  rw [World.size_alloc] at this
  exact this
/-- The tree laid. -/
def JoinAt (e : TypeId) (W : World) (n : Nat) (k : Nat) (xs : List Value) (s : Value) (w' : World) : Prop :=
  ∃ g b d, s = .pointer (some ⟨g, 0, none⟩) ∧ W.heap.size ≤ g ∧ w'.heap[g]? = some (.cells #[.int .i64 (n : Nat), .slice b k d] e (0, 0)) ∧ OwnR w' 3 1 (.slice b k d) k xs ∧
    (∀ i, (Value.slice b k d).ownBlock = some i → W.heap.size ≤ i ∧ i ≠ g) ∧ Kp (fun _ => False) W w'
theorem Gro.fin_set {e : TypeId} {W V : World} {b : Option Addr} {d n k : Nat} {xs : List Value} {g : Nat} (h : Gro e W V (.slice b k d) k xs (some g)) :
    JoinAt e W n k xs (.pointer (some ⟨g, 0, none⟩)) ((V.setCell ⟨g, 0, none⟩ (.int .i64 (n : Nat))).setCell ⟨g, 1, none⟩ (.slice b k d)) := by
  obtain ⟨h1, h2⟩ := h.at_ g rfl
  have kk : Kp (· = g) V ((V.setCell ⟨g, 0, none⟩ (.int .i64 (n : Nat))).setCell ⟨g, 1, none⟩ (.slice b k d)) :=
    ((Kp.refl (· = g) V).setCell (p := ⟨g, 0, none⟩) (fun _ => rfl) _).setCell (p := ⟨g, 1, none⟩) (fun _ => rfl) _
  exact ⟨g, b, d, rfl, h1, setCell_at (i := 1) (setCell_at (i := 0) h2 (.int .i64 (n : Nat))) (.slice b k d), h.own.kp kk (fun i hi e => (h.new i hi).2 (by rw [e])), fun i hi => ⟨(h.new i hi).1, fun e => (h.new i hi).2 (by rw [e])⟩,
    h.kp.up kk (fun i e => by rw [e]; exact h1)⟩
theorem Gro.fin_alloc {e : TypeId} {W V : World} {b : Option Addr} {d n k : Nat} {xs : List Value} (h : Gro e W V (.slice b k d) k xs none) :
    JoinAt e W n k xs (.pointer (some ⟨V.heap.size, 0, none⟩)) (V.alloc (.cells #[.int .i64 (n : Nat), .slice b k d] e)) := by
  have kk : Kp (fun _ => False) V (V.alloc (.cells #[.int .i64 (n : Nat), .slice b k d] e)) := (Kp.refl _ _).alloc _
  exact ⟨_, b, d, rfl, h.kp.size, alloc_at V _, h.own.kp kk (fun _ _ q => q), fun i hi => ⟨(h.new i hi).1, by have := h.own.lt hi; omega⟩, h.kp.trans kk⟩
end Go.Proofs.YtphakpikalmghaaGreat.Hu
namespace Go.Mg
open Go Go.RowKit Go.ChangeMaps Go.MapKept Go.Sort

theorem sorted_at {α : Type} [Inhabited α] (enc : α → Value) {W : World} {g k off : Nat} {cur : Array Value} {e : TypeId} {fr : Nat × Nat} (hg : W.heap[g]? = some (.cells cur e fr)) (d : Array α) (os : Array Obj) :
    (grow (putRow enc (Sort.ahead W k) g off d) os).heap[g]? = some (.cells (putCells enc off d cur) e fr) := by
  have hlt := lt_of_at hg
  rw [heap_grow_old _ _ (by simp; exact hlt)]
  show (W.heap.modify g _)[g]? = _
  have h' : W.heap[g] = .cells cur e fr := by simpa [Array.getElem?_eq_getElem hlt] using hg
  rw [Array.getElem?_eq_getElem (by simpa using hlt), Array.getElem_modify_self, h']
  rfl
theorem sorted_kp {α : Type} [Inhabited α] (enc : α → Value) (W : World) (g k off : Nat) (d : Array α) (os : Array Obj) : Kp (· = g) W (grow (putRow enc (Sort.ahead W k) g off d) os) := by
  refine ⟨rfl, rfl, rfl, by simp, fun i hi hn => ?_⟩
  rw [heap_grow_old _ _ (by simp; exact hi)]
  show (W.heap.modify g _)[i]? = _
  rw [Array.getElem?_modify, if_neg (fun e => hn e.symm)]
theorem size_putCells {α : Type} [Inhabited α] (enc : α → Value) (off : Nat) (d : Array α) (c : Array Value) : (putCells enc off d c).size = c.size := by simp [putCells]
theorem drop_putCells {α : Type} [Inhabited α] (enc : α → Value) (off : Nat) (d : Array α) (c : Array Value) (h : off + d.size ≤ c.size) : ((putCells enc off d c).toList.drop off).take d.size = d.toList.map enc := by
  apply List.ext_getElem
  · rw [List.length_take, List.length_drop, Array.length_toList, size_putCells, List.length_map, Array.length_toList]; omega
  · intro i h1 h2
    have hi : i < d.size := by simpa using h2
    rw [List.getElem_take, List.getElem_drop, Array.getElem_toList, List.getElem_map, Array.getElem_toList]
    simp only [putCells, Array.getElem_mapIdx]
    rw [if_pos ⟨by omega, by omega⟩, Nat.add_sub_cancel_left, getElem!_pos d i hi]
theorem OwnO.sorted {W : World} {e : TypeId} {size n cap g off k : Nat} {xs : List Value} (h : OwnO W e size (.slice (some ⟨g, off, none⟩) n cap) n xs) (h0 : 0 < n) (d : Array Value) (hd : d.size = n * size) (os : Array Obj) :
    OwnO (grow (putRow id (Sort.ahead W k) g off d) os) e size (.slice (some ⟨g, off, none⟩) n cap) n d.toList := by
  rcases h.2 with ⟨_, rfl⟩ | ⟨g', off', cap', cur, fr, e1, hg, hfr, h1, h2, h3, h4⟩
  · omega
  · simp only [Value.slice.injEq, true_and, Option.some.injEq, Addr.mk.injEq, and_true] at e1
    obtain ⟨⟨rfl, rfl⟩, rfl⟩ := e1
    have hs := h3 (by omega)
    have hle : n * size ≤ cap * size := Nat.mul_le_mul_right _ h1
    refine ⟨by simpa using hd, .inr ⟨g, off, cap, _, fr, rfl, sorted_at id hg d os, ?_, h1, h2, fun _ => by rw [size_putCells]; exact hs, ?_⟩⟩
    · rw [size_putCells]; exact hfr
    · rw [← hd, drop_putCells id off d cur (by omega)]; simp
theorem OwnR.sortedI {W : World} {e : TypeId} {n cap g k : Nat} {xs : List Value} (h : OwnR W e 1 (.slice (some ⟨g, 0, none⟩) n cap) n xs) (ys : List Int) (hd : ys.length = n) (os : Array Obj) :
    OwnR (grow (putRow (Value.int .i64) (Sort.ahead W k) g 0 ys.toArray) os) e 1 (.slice (some ⟨g, 0, none⟩) n cap) n (ys.map (Value.int .i64)) := by
  rcases h.2 with ⟨e0, _⟩ | ⟨g', cap', cur, fr, e1, hg, hfr, h1, h2, h3, h4⟩
  · cases e0
  · simp only [Value.slice.injEq, true_and, Option.some.injEq, Addr.mk.injEq, and_true] at e1
    obtain ⟨rfl, rfl⟩ := e1
    refine ⟨by simpa using hd, .inr ⟨g, cap, _, fr, rfl, sorted_at (Value.int .i64) hg _ os, ?_, h1, h2, by rw [size_putCells]; exact h3, ?_⟩⟩
    · rw [size_putCells]; exact hfr
    · have := drop_putCells (Value.int .i64) 0 ys.toArray cur (by simp; omega)
      simp only [List.drop_zero, List.size_toArray, hd] at this
      rw [Nat.mul_one]; exact this
theorem OwnR.of_owns {w : World} {base : Nat} {e : TypeId} {size : Nat} {v : Value} {n : Nat} {xs : List Value} (h : w.ownsRow base e size v n xs) : OwnR w e size v n xs ∧ ∀ b, v.ownBlock = some b → base ≤ b := by
  rcases h.2 with ⟨rfl, h0⟩ | ⟨g, cap, cur, rfl, hb, hg, h1, h2, h3, h4⟩
  · exact ⟨⟨h.1, .inl ⟨rfl, h0⟩⟩, fun b hb => by cases hb⟩
  · exact ⟨⟨h.1, .inr ⟨g, cap, cur, (0, 0), rfl, hg, .inl rfl, h1, h2, h3, h4⟩⟩, fun b hb' => by have := own_b hb'; omega⟩
end Go.Mg
namespace Go.Proofs.YtphakpikalmghaaGreat.Hu
open Go Go.RowKit Go.ChangeMaps Go.MapKept Go.Mg Go.Hf Go.Sort

theorem cmp_c (x y : Int) (w : World) : Calls Tryz.prog 142 #[.int .i64 x, .int .i64 y] w fun e w' => e = .returned (.int .i64 (Lib.compareInt x y)) ∧ w' = w :=
  AnyG.cmp_Compare_int Tryz.cmpInt x y w
set_option maxHeartbeats 1000000 in
theorem or_c (g : Nat) (x y : Int) (w : World) (h0 : w.cell? ⟨g, 0, none⟩ = some (.int .i64 x)) (h1 : w.cell? ⟨g, 1, none⟩ = some (.int .i64 y)) :
    Calls Tryz.prog 141 #[.slice (some ⟨g, 0, none⟩) 2 2] w fun e w' => e = .returned (.int .i64 (if x = 0 then y else x)) ∧ w' = w := by
  by_cases hx : x = 0
  · subst hx
    go_enter Tryz.func141, Tryz.ntmps141
    go_wp2_with fail
    go_loopw [8] (fun i wr => wr = w ∧ (i = .int .i64 0 ∨ i = .int .i64 1 ∨ (i = .int .i64 2 ∧ y = 0))) (fun i _ => 2 - (intOf i).toNat)
    case atStart => exact ⟨rfl, .inl rfl⟩
    case round =>
      obtain ⟨rfl, rfl | rfl | ⟨rfl, rfl⟩⟩ := hrel
      · go_wp2_with fail
        exact ⟨⟨by first | trivial | rfl, .inr (.inl (by go_num))⟩, by simp [intOf]⟩
      · by_cases hy : y = 0
        · subst hy
          go_wp2_with fail
          exact ⟨⟨by first | trivial | rfl, .inr (.inr ⟨by go_num, by first | trivial | rfl⟩)⟩, by simp [intOf]⟩
        · have hy' : (y == 0) = false := by simpa using hy
          go_wp2_with fail
          go_ret
          exact ⟨by simp, rfl⟩
      · go_wp2_with fail
        go_ret
        exact ⟨by simp, rfl⟩
  · have hx' : (x == 0) = false := by simpa using hx
    go_enter Tryz.func141, Tryz.ntmps141
    go_wp2_with fail
    go_loopw [8] (fun i wr => wr = w ∧ i = .int .i64 0) (fun i _ => 2 - (intOf i).toNat)
    case atStart => exact ⟨rfl, rfl⟩
    case round =>
      obtain ⟨rfl, rfl⟩ := hrel
      go_wp2_with fail
      go_ret
      exact ⟨by simp, rfl⟩
/-- A tree of the program's: its symbols rise. -/
def Srt (t : Tr) : Prop := t.s.Pairwise (· ≤ ·)
theorem head_eq {t : Tr} (hm : IsMin t.m t.s) (hs : Srt t) : ∃ l, t.s = t.m :: l := by
  obtain ⟨h1, h2⟩ := hm
  unfold Srt at hs
  cases e : t.s with
  | nil => rw [e] at h1; cases h1
  | cons x l =>
    refine ⟨l, ?_⟩
    rw [e] at h1 h2 hs
    have e1 := h2 x (by simp)
    rcases List.mem_cons.1 h1 with q | q
    · rw [q]
    · have := (List.pairwise_cons.1 hs).1 _ q
      have : x = t.m := by omega
      rw [this]
def cfT (t u : Tr) : Int := if Lib.compareInt (t.n : Nat) (u.n : Nat) = 0 then Lib.compareInt (t.m : Nat) (u.m : Nat) else Lib.compareInt (t.n : Nat) (u.n : Nat)
theorem cfT_lt (t u : Tr) : cfT t u < 0 ↔ Lt t u := by
  unfold cfT Lib.compareInt Lt
  by_cases h1 : ((t.n : Nat) : Int) < (u.n : Nat)
  · simp [h1]; omega
  · by_cases h2 : ((u.n : Nat) : Int) < (t.n : Nat)
    · simp [h1, h2]; omega
    · by_cases h3 : ((t.m : Nat) : Int) < (u.m : Nat)
      · simp [h1, h2, h3]; omega
      · by_cases h4 : ((u.m : Nat) : Int) < (t.m : Nat)
        · simp [h1, h2, h3, h4]; omega
        · simp [h1, h2, h3, h4]; omega
set_option maxRecDepth 100000 in
set_option maxHeartbeats 2000000 in
theorem first_c (w : World) (t u : Tr) (v x : Value) (ht : Tv w t v) (hu : Tv w u x) (st : Srt t) (su : Srt u) :
    Calls Tryz.prog 118 #[.agg #[.int .i64 (t.n : Nat), v], .agg #[.int .i64 (u.n : Nat), x]] w fun e w' => e = .returned (.int .i64 (cfT t u)) ∧ ∃ q os', w' = grow (w.drewN q) os' := by
  obtain ⟨a, c, rfl, h1, h2, h3⟩ := ht
  obtain ⟨a', c', rfl, h1', h2', h3'⟩ := hu
  obtain ⟨lt, et⟩ := head_eq h2 st
  obtain ⟨lu, eu⟩ := head_eq h2' su
  obtain ⟨g, off, rfl, hg, hcap, hc⟩ := at_nv h1 h2.pos
  obtain ⟨g', off', rfl, hg', hcap', hc'⟩ := at_nv h1' h2'.pos
  have c0 := hc 0 h2.pos
  have c0' := hc' 0 h2'.pos
  have p1 := h2.pos
  have p1' := h2'.pos
  simp only [et, eu, List.getElem_cons_zero, Nat.add_zero] at c0 c0'
  obtain ⟨W, hW⟩ : ∃ W, W = (w.alloc (.cells #[.int .i64 (t.n : Nat), .slice (some ⟨g, off, none⟩) t.s.length c] 144)).alloc (.cells #[.int .i64 (u.n : Nat), .slice (some ⟨g', off', none⟩) u.s.length c'] 144) := ⟨_, rfl⟩
  have k1 : Kp (fun _ => False) w W := by rw [hW]; exact ((Kp.refl _ _).alloc _).alloc _
  have hWt : W.heap[w.heap.size]? = some (.cells #[.int .i64 (t.n : Nat), .slice (some ⟨g, off, none⟩) t.s.length c] 144 (0, 0)) := by
    rw [hW]; exact (Below.heap_alloc _ _ _ (by simp)).trans (alloc_at w _)
  have hWu : W.heap[w.heap.size + 1]? = some (.cells #[.int .i64 (u.n : Nat), .slice (some ⟨g', off', none⟩) u.s.length c'] 144 (0, 0)) := by
    rw [hW]; have := alloc_at (w.alloc (.cells #[.int .i64 (t.n : Nat), .slice (some ⟨g, off, none⟩) t.s.length c] 144)) (.cells #[.int .i64 (u.n : Nat), .slice (some ⟨g', off', none⟩) u.s.length c'] 144); rwa [World.size_alloc] at this
  have hsz : W.heap.size = w.heap.size + 2 := by rw [hW]; simp
  have ct0 : W.cell? ⟨w.heap.size, 0, none⟩ = some (.int .i64 (t.n : Nat)) := by rw [cell_of hWt]; rfl
  have ct1 : W.cell? ⟨w.heap.size, 1, none⟩ = some (.slice (some ⟨g, off, none⟩) t.s.length c) := by rw [cell_of hWt]; rfl
  have cu0 : W.cell? ⟨w.heap.size + 1, 0, none⟩ = some (.int .i64 (u.n : Nat)) := by rw [cell_of hWu]; rfl
  have cu1 : W.cell? ⟨w.heap.size + 1, 1, none⟩ = some (.slice (some ⟨g', off', none⟩) u.s.length c') := by rw [cell_of hWu]; rfl
  have d0 := (k1.cell (p := ⟨g, off, none⟩) hg (fun q => q)).trans c0
  have d0' := (k1.cell (p := ⟨g', off', none⟩) hg' (fun q => q)).trans c0'
  have hWg : W = grow w (#[Obj.cells #[.int .i64 (t.n : Nat), .slice (some ⟨g, off, none⟩) t.s.length c] 144] ++ #[Obj.cells #[.int .i64 (u.n : Nat), .slice (some ⟨g', off', none⟩) u.s.length c'] 144]) := by rw [hW, alloc_eq_grow, alloc_eq_grow, grow_grow]
  have fin : ∀ n o, ∃ q os', (W.drewN n).alloc o = grow (w.drewN q) os' := fun n o => ⟨n, _, by rw [hWg, alloc_eq_grow]; exact grow_grow (w.drewN n) _ _⟩
  have FIN := Lib.hid fin
  have HSZ := Lib.hid hsz
  clear hc hc' h1 h1' h2 h2' k1 hWt hWu fin c0 c0' st su et eu hsz hWg
  generalize t.s.length = nt at *
  generalize u.s.length = nu at *
  unfold cfT
  generalize hx1 : Lib.compareInt (t.n : Nat) (u.n : Nat) = z1
  generalize hx2 : Lib.compareInt (t.m : Nat) (u.m : Nat) = z2
  have C1 : ∀ V, Calls Tryz.prog 142 #[.int .i64 (t.n : Nat), .int .i64 (u.n : Nat)] V fun e w' => e = .returned (.int .i64 z1) ∧ w' = V := fun V => by rw [← hx1]; exact cmp_c _ _ V
  have C2 : ∀ V, Calls Tryz.prog 142 #[.int .i64 (t.m : Nat), .int .i64 (u.m : Nat)] V fun e w' => e = .returned (.int .i64 z2) ∧ w' = V := fun V => by rw [← hx2]; exact cmp_c _ _ V
  have HC1 := Lib.hid C1
  have HC2 := Lib.hid C2
  have HC3 := Lib.hid (fun (gg : Nat) V p q => or_c gg z1 z2 V p q)
  generalize (if z1 = 0 then z2 else z1) = r at HC3 ⊢
  clear C1 C2 hx1 hx2
  go_enter Tryz.func118, Tryz.ntmps118
  go_wp2_with fail
  rw [← hW]
  clear hW
  go_region_held3 (fun w' => (w'.cell? ⟨w.heap.size, 0, none⟩ = some (.int .i64 (t.n : Nat)) ∧ w'.cell? ⟨w.heap.size, 1, none⟩ = some (.slice (some ⟨g, off, none⟩) nt c)) ∧ (w'.cell? ⟨w.heap.size + 1, 0, none⟩ = some (.int .i64 (u.n : Nat)) ∧ w'.cell? ⟨w.heap.size + 1, 1, none⟩ = some (.slice (some ⟨g', off', none⟩) nu c')) ∧ w'.cell? ⟨g, off, none⟩ = some (.int .i64 (t.m : Nat)) ∧ w'.cell? ⟨g', off', none⟩ = some (.int .i64 (u.m : Nat))) (go_keep) ((first
    | (go_simp; go_at_call 142; first | (refine (Calls.mono (by with_reducible exact HC1.out _) ?_); rintro e w' ⟨rfl, rfl⟩) | (refine (Calls.mono (by with_reducible exact HC2.out _) ?_); rintro e w' ⟨rfl, rfl⟩))
    | (go_simp; go_at_call 141; refine (HC3.out _ _ (by simp [World.cell?_alloc_new]) (by simp [World.cell?_alloc_new])).mono ?_; rintro e w' ⟨rfl, rfl⟩)))
  all_goals (go_wp2_with fail; go_ret; exact ⟨rfl, FIN.out 1 _⟩)
end Go.Proofs.YtphakpikalmghaaGreat.Hu
namespace Go.Proofs.YtphakpikalmghaaGreat.Hu
open Go Go.RowKit Go.ChangeMaps Go.MapKept Go.Mg Go.Hf Go.Sort Go.Shelf Go.Proofs.YtphakpikalmghaaGreat.Op

theorem flat_toList {α : Type} [Inhabited α] (enc : α → List Value) (h : ∀ x, (enc x).length = 2) (d : Array α) : (flatK enc 2 d).toList = d.toList.flatMap enc := by
  apply List.ext_getElem?
  intro t
  have hl : (d.toList.flatMap enc).length = d.size * 2 := by rw [flatMap_len (fun y _ => h y), Array.length_toList]
  by_cases ht : t < d.size * 2
  · have h1 : t / 2 < d.size := by omega
    have e := flatMap_at (E := enc) (k := 2) (l := d.toList) (fun y _ => h y) (i := t / 2) (j := t % 2) (Nat.mod_lt _ (by omega)) (y := d[t / 2]) (by simp [h1])
    rw [show t / 2 * 2 + t % 2 = t by omega] at e
    rw [e]
    have hs : t < (flatK enc 2 d).size := by simpa using ht
    rw [Array.getElem?_toList, Array.getElem?_eq_getElem hs]
    have e2 := get_flatK enc 2 d t ht
    rw [getElem!_pos _ t hs] at e2
    rw [e2, getElem!_pos d _ h1]
    have hlt : t % 2 < (enc d[t / 2]).length := by rw [h]; exact Nat.mod_lt _ (by omega)
    rw [getElem!_pos (enc d[t / 2]) (t % 2) hlt, List.getElem?_eq_getElem hlt]
  · rw [List.getElem?_eq_none (by simp; omega), List.getElem?_eq_none (by omega)]
theorem swo_cfT {α : Type} (f : α → Tr) : SWO (ltOf fun x y => cfT (f x) (f y)) where
  irrefl x := by unfold ltOf; rw [decide_eq_false_iff_not, cfT_lt]; unfold Lt; omega
  trans x y z h1 h2 := by unfold ltOf at *; rw [decide_eq_true_iff, cfT_lt] at *; unfold Lt at *; omega
  ntrans x y z h1 h2 := by unfold ltOf at *; rw [decide_eq_false_iff_not, cfT_lt] at *; unfold Lt at *; omega
def SortPost (B : Nat) (w : World) (g : Nat) (vl : Value) (Fs : List (Tr × Value)) (e : Ending) (w' : World) : Prop :=
  e = .returned (.tuple #[]) ∧ ∃ Fs', Fs'.Perm Fs ∧ Fo B w' 144 vl Fs' ∧ (∀ i j (hi : i < j) (hj : j < Fs'.length), ¬ Lt Fs'[j].1 Fs'[i].1) ∧ Kp (· = g) w w'
set_option maxHeartbeats 1000000 in
theorem sort_c {B : Nat} (w : World) (g off cap : Nat) (Fs : List (Tr × Value)) (h : Fo B w 144 (.slice (some ⟨g, off, none⟩) Fs.length cap) Fs) (hS : ∀ p, p ∈ Fs → Srt p.1) (h0 : 0 < Fs.length) (hl : Fs.length ≤ 1000) :
    Calls Tryz.prog 117 #[.slice (some ⟨g, off, none⟩) Fs.length cap, .func (.func 118) #[] #[]] w (SortPost B w g (.slice (some ⟨g, off, none⟩) Fs.length cap) Fs) := by
  haveI : Inhabited {p : Tr × Value // p ∈ Fs} := ⟨⟨Fs[0], List.getElem_mem h0⟩⟩
  obtain ⟨d, hd⟩ : ∃ d : Array {p : Tr × Value // p ∈ Fs}, d = Fs.attach.toArray := ⟨_, rfl⟩
  have hds : d.size = Fs.length := by rw [hd]; simp
  have hdl : d.toList.map (·.1) = Fs := by rw [hd]; exact List.attach_map_subtype_val Fs
  let enc : {p : Tr × Value // p ∈ Fs} → List Value := fun x => E x.1
  have hk2 : ∀ x, (enc x).length = 2 := fun x => rfl
  have h1 : ∀ x, ∀ v ∈ enc x, v.oneCell' = true := fun x v hv => E_one1 (h.trees x.1 x.2) v hv
  have hgl : g < w.heap.size := h.row.lt rfl
  have hfm : d.toList.flatMap enc = Fs.flatMap E :=
    (show d.toList.flatMap enc = (d.toList.map (·.1)).flatMap E by rw [List.flatMap_map]).trans (congrArg (fun l => l.flatMap E) hdl)
  have hH : HoldsK enc 2 w g off d := by
    intro j hj
    have hj2 : j < d.size * 2 := by simpa using hj
    refine ⟨?_, h.row.free j (by omega)⟩
    obtain ⟨_, a0, c0, e0, _, _, _, hc⟩ := h.row.sl
    simp only [Value.slice.injEq, true_and] at e0
    obtain ⟨g', off', e1, _, hc⟩ := hc h0
    rw [e1] at e0
    simp only [Option.some.injEq, Addr.mk.injEq, and_true] at e0
    obtain ⟨⟨rfl, rfl⟩, _⟩ := e0
    refine hc j _ ?_
    rw [← hfm, ← flat_toList enc hk2 d, Array.getElem?_toList, getElem!_pos _ j hj]
    simp
  have eg : ∀ args w, (callFunc 118 args).run Tryz.prog w = .ok (.enter 118 args) w := enters_of Tryz.func118 (by kernel_rfl) rfl
  have hcmp : CmpLays Tryz.prog 118 #[] enc 2 (fun x y => cfT x.1.1 y.1.1) g off d.size w := by
    intro m os dk _ x y
    have kk : Kp (· = g) w (sortWorldK enc 2 w g off m dk os) := sorted_kp id w g m off (flatK enc 2 dk) os
    have t : ∀ z : {p : Tr × Value // p ∈ Fs}, Tv (sortWorldK enc 2 w g off m dk os) z.1.1 z.1.2 := fun z => (h.trees z.1 z.2).kp kk (fun b hb e => h.apart z.1 z.2 b hb (by rw [e]; rfl))
    exact first_c _ x.1.1 y.1.1 x.1.2 y.1.2 (t x) (t y) (hS x.1 x.2) (hS y.1 y.2)
  have hcon := AnyQ.slices_SortFunc Tryz.sortTrees 2 Tryz.isAgg144 Tryz.sizeOf144 enc hk2 h1 (fun x y => cfT x.1.1 y.1.1) (swo_cfT (fun x : {p : Tr × Value // p ∈ Fs} => x.1.1)) 118 #[] g off cap d w eg hcmp hH hgl (by omega)
  rw [hds] at hcon
  refine Calls.mono hcon ?_
  rintro e w' ⟨rfl, d', n, os, hp, hs, rfl⟩
  have hsz : d'.size = Fs.length := by rw [hp.1, hds]
  refine ⟨rfl, d'.toList.map (·.1), ?_, ?_, ?_, sorted_kp id w g n off (flatK enc 2 d') os⟩
  · have h2 := hp.2.2
    rw [show d'.extract 0 Fs.length = d' by rw [← hsz]; simp, show d.extract 0 Fs.length = d by rw [← hds]; simp] at h2
    have h5 := h2.map (·.1)
    rwa [hdl] at h5
  · have hperm : (d'.toList.map (·.1)).Perm Fs := by
      have h2 := hp.2.2
      rw [show d'.extract 0 Fs.length = d' by rw [← hsz]; simp, show d.extract 0 Fs.length = d by rw [← hds]; simp] at h2
      have := h2.map (·.1)
      rwa [hdl] at this
    have hlen : (d'.toList.map (·.1)).length = Fs.length := hperm.length_eq
    have kk : Kp (· = g) w (sortWorldK enc 2 w g off n d' os) := sorted_kp id w g n off (flatK enc 2 d') os
    refine ⟨?_, h.new, fun p hp' => (h.trees p (hperm.mem_iff.1 hp')).kp kk (fun b hb e => h.apart p (hperm.mem_iff.1 hp') b hb (by rw [e]; rfl)), fun p hp' => h.apart p (hperm.mem_iff.1 hp')⟩
    have h3 := h.row.sorted (k := n) h0 (flatK enc 2 d') (by rw [size_flatK, hsz]) os
    rw [flat_toList enc hk2 d'] at h3
    rw [hlen, List.flatMap_map]
    exact h3
  · intro i j hi hj
    have hj' : j < d'.size := by simpa using hj
    have hi' : i < d'.size := by omega
    have h4 := hs i j (Nat.zero_le _) hi (by omega)
    unfold ltOf at h4
    rw [decide_eq_false_iff_not, cfT_lt, getElem!_pos d' i hi', getElem!_pos d' j hj'] at h4
    simpa using h4
end Go.Proofs.YtphakpikalmghaaGreat.Hu
