/- Lemmas that speak of no program: what blocks of memory a step leaves alone, and maps in memory as lists of pairs. Rows of memory: slices that are read, slices of one's own, what append and stores make of them. Of no program. More of one's own rows: elements of several cells. A region that only reads, one operation at a time, what follows kept from being unfolded. -/
import Derived.WalkKit
import Derived.Lib.Hide
import Derived.WalkSpells
import Derived.WalkLawsBesides
import Derived.Maps.OwnSet
import Derived.Maps.RangeWalk
import Derived.Lib.AppendZerosOnto
import Derived.Shelf.SlSortCmp.QuietGrown
namespace Go.Mg
open Go Go.RowKit Go.ChangeMaps Go.MapKept
structure Kp (F : Nat → Prop) (w w' : World) : Prop where
  os : w'.os = w.os
  tape : w'.tape = w.tape
  output : w'.output = w.output
  size : w.heap.size ≤ w'.heap.size
  block : ∀ k, k < w.heap.size → ¬ F k → w'.heap[k]? = w.heap[k]?
theorem Kp.refl (F : Nat → Prop) (w : World) : Kp F w w := ⟨rfl, rfl, rfl, Nat.le_refl _, fun _ _ _ => rfl⟩
theorem Kp.mono {F G : Nat → Prop} {w w' : World} (h : Kp F w w') (hg : ∀ k, k < w.heap.size → F k → G k) : Kp G w w' :=
  ⟨h.os, h.tape, h.output, h.size, fun k hk hn => h.block k hk (fun hf => hn (hg k hk hf))⟩
theorem Kp.trans {F : Nat → Prop} {a b c : World} (h : Kp F a b) (k : Kp F b c) : Kp F a c :=
  ⟨k.os.trans h.os, k.tape.trans h.tape, k.output.trans h.output, Nat.le_trans h.size k.size,
    fun i hi hn => (k.block i (Nat.lt_of_lt_of_le hi h.size) hn).trans (h.block i hi hn)⟩
theorem Kp.trans2 {F G : Nat → Prop} {a b c : World} (h : Kp F a b) (k : Kp G b c) (hg : ∀ i, i < a.heap.size → G i → F i) : Kp F a c :=
  ⟨k.os.trans h.os, k.tape.trans h.tape, k.output.trans h.output, Nat.le_trans h.size k.size,
    fun i hi hn => (k.block i (Nat.lt_of_lt_of_le hi h.size) (fun hG => hn (hg i hi hG))).trans (h.block i hi hn)⟩
theorem Kp.up {G : Nat → Prop} {a b c : World} (h : Kp (fun _ => False) a b) (k : Kp G b c) (hg : ∀ i, G i → a.heap.size ≤ i) : Kp (fun _ => False) a c :=
  h.trans2 k (fun i hi e => by have := hg i e; omega)
theorem Kp.drew {F : Nat → Prop} {a w : World} (h : Kp F a w) : Kp F a w.drew := ⟨h.os, h.tape, h.output, h.size, h.block⟩
theorem Kp.drewN {F : Nat → Prop} {a w : World} (h : Kp F a w) (n : Nat) : Kp F a (w.drewN n) := ⟨h.os, h.tape, h.output, h.size, h.block⟩
theorem Kp.alloc {F : Nat → Prop} {a w : World} (h : Kp F a w) (o : Obj) : Kp F a (w.alloc o) :=
  h.trans ⟨rfl, rfl, rfl, by simp, fun k hk _ => Below.heap_alloc _ _ _ hk⟩
theorem Kp.setCell {F : Nat → Prop} {a w : World} (h : Kp F a w) {p : Addr} (hp : p.block < a.heap.size → F p.block) (u : Value) : Kp F a (w.setCell p u) :=
  ⟨h.os, h.tape, h.output, by have := h.size; simpa [World.setCell] using this, fun k hk hn => (Below.heap_setCell _ _ _ _ (fun e => by subst e; exact hn (hp hk))).trans (h.block k hk hn)⟩
theorem Kp.grown {F : Nat → Prop} {a w w' : World} {row : Option Nat} (h : Kp F a w) (hg : w.grownBy w' row) (hr : ∀ k, k < a.heap.size → row = some k → F k) : Kp F a w' :=
  ⟨hg.os.trans h.os, hg.tape.trans h.tape, hg.output.trans h.output, Nat.le_trans h.size hg.size,
    fun k hk hn => (hg.block k (Nat.lt_of_lt_of_le hk h.size) (fun e => hn (hr k hk e.symm))).trans (h.block k hk hn)⟩
theorem Kp.below {w w' : World} (h : Kp (fun _ => False) w w') : Below w.heap.size w w' := ⟨h.os, h.tape, h.output, h.size, fun k hk => h.block k hk id⟩
theorem Kp.of_below {F : Nat → Prop} {w w' : World} (h : Below w.heap.size w w') : Kp F w w' := ⟨h.os, h.tape, h.output, h.size, fun k hk _ => h.block k hk⟩
theorem Kp.cell {F : Nat → Prop} {w w' : World} (h : Kp F w w') {p : Addr} (hp : p.block < w.heap.size) (hn : ¬ F p.block) : w'.cell? p = w.cell? p := World.cell?_of_block (w := w) (h.block p.block hp hn)
theorem Kp.frozen {F : Nat → Prop} {w w' : World} (h : Kp F w w') {p : Addr} (hp : p.block < w.heap.size) (hn : ¬ F p.block) : w'.frozen? p = w.frozen? p := World.frozen?_of_block (w := w) (h.block p.block hp hn)
theorem Kp.at_ {F : Nat → Prop} {w w' : World} {b : Nat} {o : Obj} (h : Kp F w w') (hb : w.heap[b]? = some o) (hn : ¬ F b) : w'.heap[b]? = some o :=
  (h.block b (Array.getElem?_eq_some_iff.1 hb).1 hn).trans hb
theorem lt_of_at {w : World} {b : Nat} {o : Obj} (h : w.heap[b]? = some o) : b < w.heap.size := (Array.getElem?_eq_some_iff.1 h).1
/-! ### a block of cells -/
theorem cell_of {w : World} {b : Nat} {c : Array Value} {t : TypeId} {f : Nat × Nat} (h : w.heap[b]? = some (.cells c t f)) (i : Nat) : w.cell? ⟨b, i, none⟩ = c[i]? := by simp [World.cell?, h]
theorem free_of {w : World} {b : Nat} {c : Array Value} {t : TypeId} (h : w.heap[b]? = some (.cells c t (0, 0))) (i : Nat) : w.frozen? ⟨b, i, none⟩ = false := by simp [World.frozen?, h]
theorem setCell_at {w : World} {b i : Nat} {c : Array Value} {t : TypeId} {f : Nat × Nat} (h : w.heap[b]? = some (.cells c t f)) (u : Value) :
    (w.setCell ⟨b, i, none⟩ u).heap[b]? = some (.cells (c.setIfInBounds i u) t f) := by
  have hlt := lt_of_at h
  have h' : w.heap[b] = .cells c t f := by simpa [Array.getElem?_eq_getElem hlt] using h
  show (w.heap.modify b _)[b]? = _
  rw [Array.getElem?_eq_getElem (by simpa using hlt), Array.getElem_modify_self, h']
  rfl
theorem alloc_at (w : World) (o : Obj) : (w.alloc o).heap[w.heap.size]? = some o := (MapKept.heap_alloc w o).1
/-! ### association lists -/
namespace AL
variable {κ ε : Type} [DecidableEq κ]
def get (l : List (κ × ε)) (k : κ) : Option ε := (l.find? fun p => decide (p.1 = k)).map (·.2)
def put (l : List (κ × ε)) (k : κ) (v : ε) : List (κ × ε) := if (get l k).isSome then l.map (fun p => if p.1 = k then (k, v) else p) else l ++ [(k, v)]
def del (l : List (κ × ε)) (k : κ) : List (κ × ε) := l.filter fun p => decide (p.1 ≠ k)
theorem get_none {l : List (κ × ε)} {k : κ} : get l k = none ↔ ∀ p ∈ l, p.1 ≠ k := by simp [get]
theorem get_nil (k : κ) : get ([] : List (κ × ε)) k = none := rfl
theorem get_cons (p : κ × ε) (l : List (κ × ε)) (k : κ) : get (p :: l) k = if p.1 = k then some p.2 else get l k := by
  unfold get; rw [List.find?_cons]; by_cases h : p.1 = k <;> simp [h]
theorem get_append (l m : List (κ × ε)) (k : κ) : get (l ++ m) k = (get l k).or (get m k) := by
  induction l with
  | nil => simp [get_nil]
  | cons p l ih => rw [List.cons_append, get_cons, get_cons, ih]; split <;> simp
theorem get_mem {l : List (κ × ε)} {k : κ} {v : ε} (h : get l k = some v) : (k, v) ∈ l := by
  induction l with
  | nil => simp [get_nil] at h
  | cons p l ih =>
    rw [get_cons] at h
    split at h
    · rename_i e; cases h; subst e; simp
    · exact List.mem_cons_of_mem _ (ih h)
theorem get_of_mem {l : List (κ × ε)} (hn : (l.map (·.1)).Nodup) {k : κ} {v : ε} (h : (k, v) ∈ l) : get l k = some v := by
  induction l with
  | nil => cases h
  | cons p l ih =>
    rw [List.map_cons, List.nodup_cons] at hn
    rw [get_cons]
    rcases List.mem_cons.1 h with rfl | h
    · simp
    · rw [if_neg (fun e => hn.1 (List.mem_map.2 ⟨_, h, e.symm⟩))]; exact ih hn.2 h
theorem get_put (l : List (κ × ε)) (k : κ) (v : ε) (k' : κ) : get (put l k v) k' = if k' = k then some v else get l k' := by
  unfold put
  split
  · rename_i h
    have gm : ∀ m : List (κ × ε), get (m.map (fun p => if p.1 = k then (k, v) else p)) k' = if k' = k then (if (get m k).isSome then some v else none) else get m k' := by
      intro m
      induction m with
      | nil => simp [get_nil]
      | cons p m ih =>
        rw [List.map_cons, get_cons, ih, get_cons, get_cons]
        by_cases e : p.1 = k
        · by_cases e' : k' = k
          · simp [e, e']
          · have : ¬ k = k' := fun q => e' q.symm
            simp [e, e', this]
        · by_cases e' : k' = k
          · subst e'; simp [e]
          · simp [e, e']
    rw [gm l, h]; simp
  · rename_i h
    rw [get_append, get_cons, get_nil]
    have hn : get l k = none := by cases hg : get l k <;> simp_all
    by_cases e : k' = k
    · subst e; simp [hn]
    · have : ¬ k = k' := fun q => e q.symm
      simp [e, this]
theorem get_del (l : List (κ × ε)) (k k' : κ) : get (del l k) k' = if k' = k then none else get l k' := by
  unfold del
  induction l with
  | nil => simp [get_nil]
  | cons p l ih =>
    rw [List.filter_cons, get_cons]
    by_cases e : p.1 = k
    · simp only [e, ne_eq, not_true_eq_false, decide_false, Bool.false_eq_true, if_false]
      rw [ih]
      by_cases e' : k' = k
      · simp [e']
      · have : ¬ k = k' := fun q => e' q.symm
        simp [e', this]
    · simp only [e, ne_eq, not_false_eq_true, decide_true, if_true]
      rw [get_cons, ih]
      by_cases e' : k' = k
      · subst e'; simp [e]
      · simp [e']
theorem keys_put_of_some {l : List (κ × ε)} {k : κ} (v : ε) (h : (get l k).isSome) : (put l k v).map (·.1) = l.map (·.1) := by
  unfold put; rw [if_pos h, List.map_map]
  apply List.map_congr_left
  intro p _
  simp only [Function.comp]; split
  · rename_i e; exact e.symm
  · rfl
theorem put_of_none {l : List (κ × ε)} {k : κ} (v : ε) (h : get l k = none) : put l k v = l ++ [(k, v)] := by
  unfold put; rw [h]; rfl
theorem nodup_put {l : List (κ × ε)} (hn : (l.map (·.1)).Nodup) (k : κ) (v : ε) : ((put l k v).map (·.1)).Nodup := by
  cases h : get l k with
  | some x => rw [keys_put_of_some v (by rw [h]; rfl)]; exact hn
  | none =>
    rw [put_of_none v h, List.map_append]
    refine List.nodup_append.2 ⟨hn, by simp, ?_⟩
    intro a ha b hb
    simp only [List.map_cons, List.map_nil, List.mem_singleton] at hb
    subst hb
    obtain ⟨p, hp, rfl⟩ := List.mem_map.1 ha
    exact get_none.1 h p hp
end AL
/-! ### a map in memory as a list of pairs -/
structure KeyK (d : TypeDesc) {κ : Type} (kv : κ → Value) : Prop where
  isK : ∀ a, IsKey d (kv a)
  inj : ∀ a b, kv a = kv b → a = b
theorem key_int : KeyK (.int .i64) (Value.int .i64) := ⟨fun _ => rfl, fun _ _ h => by cases h; rfl⟩
theorem key_string : KeyK .string Value.string := ⟨fun _ => trivial, fun _ _ h => by cases h; rfl⟩
def MapAt {κ ε : Type} (w : World) (d : TypeDesc) (kv : κ → Value) (ev : ε → Value) (b : Nat) (l : List (κ × ε)) : Prop :=
  ∃ es clk, w.heap[b]? = some (.map es clk) ∧ Stamped es clk ∧ (∀ x ∈ es.toList, IsKey d x.key) ∧ es.toList.map (fun x => (x.key, x.val)) = l.map fun p => (kv p.1, ev p.2)
section
variable {κ ε : Type} {P : Program} {w : World} {d : TypeDesc} {kv : κ → Value} {ev : ε → Value} {b : Nat} {l : List (κ × ε)}
theorem MapAt.lt (h : MapAt w d kv ev b l) : b < w.heap.size := by obtain ⟨_, _, h, _⟩ := h; exact lt_of_at h
theorem MapAt.kept {w' : World} (h : MapAt w d kv ev b l) (he : w'.heap[b]? = w.heap[b]?) : MapAt w' d kv ev b l := by
  obtain ⟨es, clk, h1, h2⟩ := h; exact ⟨es, clk, he.trans h1, h2⟩
theorem MapAt.kp {F : Nat → Prop} {w' : World} (h : MapAt w d kv ev b l) (hk : Kp F w w') (hn : ¬ F b) : MapAt w' d kv ev b l := h.kept (hk.block b h.lt hn)
theorem MapAt.drew (h : MapAt w d kv ev b l) : MapAt w.drew d kv ev b l := h
theorem MapAt.made (w : World) (d : TypeDesc) (kv : κ → Value) (ev : ε → Value) : MapAt (w.alloc (.map #[] 0)) d kv ev w.heap.size [] :=
  ⟨#[], 0, alloc_at w _, stamped_empty 0, by simp, rfl⟩
theorem MapAt.nodup (h : MapAt w d kv ev b l) (_ : KeyK d kv) : (l.map (·.1)).Nodup := by
  obtain ⟨es, clk, _, hs, _, he⟩ := h
  have h1 := hs.2.2
  have h2 : es.toList.map (·.key) = l.map (fun p => kv p.1) := by
    have := congrArg (List.map (·.1)) he
    simpa [List.map_map, Function.comp_def] using this
  rw [h2] at h1
  have h3 : l.map (fun p => kv p.1) = (l.map (·.1)).map kv := by simp [List.map_map, Function.comp_def]
  rw [h3] at h1
  exact (List.pairwise_map.1 h1).imp (fun {a b} hne e => hne (by rw [e]))
theorem entries_eq {κ ε : Type} {kv : κ → Value} {ev : ε → Value} {l : List (κ × ε)} {es : Array MapEntry} (he : es.toList.map (fun x => (x.key, x.val)) = l.map fun p => (kv p.1, ev p.2)) {j : Nat} {e : MapEntry} (hj : es.toList[j]? = some e) :
    ∃ p, l[j]? = some p ∧ e.key = kv p.1 ∧ e.val = ev p.2 := by
  have h1 : (es.toList.map (fun x => (x.key, x.val)))[j]? = some (e.key, e.val) := by rw [List.getElem?_map, hj]; rfl
  rw [he, List.getElem?_map] at h1
  cases hp : l[j]? with
  | none => rw [hp] at h1; cases h1
  | some p => rw [hp] at h1; simp at h1; exact ⟨p, rfl, h1.1.symm, h1.2.symm⟩
variable [DecidableEq κ]
omit [DecidableEq κ] in
theorem MapAt.isMap (h : MapAt w d kv ev b l) : ∃ es clk, w.heap[b]? = some (.map es clk) := by obtain ⟨es, clk, h, _⟩ := h; exact ⟨es, clk, h⟩
theorem MapAt.find (h : MapAt w d kv ev b l) (K : KeyK d kv) (k : κ) : ∃ es clk, w.heap[b]? = some (.map es clk) ∧ Stamped es clk ∧ (∀ x ∈ es.toList, IsKey d x.key) ∧ es.toList.map (fun x => (x.key, x.val)) = l.map (fun p => (kv p.1, ev p.2)) ∧
    ((Instr.findNow d (kv k) es.toList 0 = some none ∧ AL.get l k = none) ∨
     ∃ j e v, Instr.findNow d (kv k) es.toList 0 = some (some (j, ev v)) ∧ es.toList[j]? = some e ∧ e.key = kv k ∧ e.val = ev v ∧ l[j]? = some (k, v) ∧ AL.get l k = some v) := by
  have hnd := h.nodup K
  obtain ⟨es, clk, hb, hs, hk, he⟩ := h
  refine ⟨es, clk, hb, hs, hk, he, ?_⟩
  rcases findNow_spec (K.isK k) es.toList 0 hk with ⟨h1, h2⟩ | ⟨j, e, h1, h2, h3⟩
  · refine .inl ⟨h1, AL.get_none.2 fun p hp e => ?_⟩
    obtain ⟨j, hj, hjp⟩ := List.mem_iff_getElem.1 hp
    have hjl : j < es.toList.length := by have := congrArg List.length he; simp at this; simp; omega
    obtain ⟨q, hq, hq1, _⟩ := entries_eq he (List.getElem?_eq_getElem hjl)
    have : q = p := by rw [List.getElem?_eq_getElem hj] at hq; simpa [hjp] using hq.symm
    subst this
    exact h2 _ (List.getElem_mem hjl) (by rw [hq1, e])
  · obtain ⟨q, hq, hq1, hq2⟩ := entries_eq he h2
    have e1 : q.1 = k := K.inj _ _ (by rw [← hq1, h3])
    obtain ⟨qk, qv⟩ := q
    simp only at e1 hq2 hq1; subst e1
    refine .inr ⟨j, e, qv, by rw [← hq2]; simpa using h1, h2, h3, hq2, hq, AL.get_of_mem hnd (List.mem_of_getElem? hq)⟩
theorem MapAt.look (h : MapAt w d kv ev b l) (K : KeyK d kv) {t kt et : TypeId} (ht : P.underlying t = some (.map kt et)) (hkt : P.underlying kt = some d) {z : Value} (hz : (zeroValue et).run P w = .ok z w) (k : κ) (c : Bool) :
    (Instr.lookup t (.map (some b)) (kv k) c).run P w = .ok (if c then .tuple #[((AL.get l k).map ev).getD z, .bool (AL.get l k).isSome] else ((AL.get l k).map ev).getD z) w := by
  obtain ⟨es, clk, hb, hs, hk, he, h1⟩ := h.find K k
  rcases h1 with ⟨h1, h2⟩ | ⟨j, e, v, h1, _, _, _, _, h2⟩
  · simp [Instr.lookup, run_underlying ht, MapKept.run_getObj_map hb, run_checkKey hkt (K.isK k), run_findKey hkt h1, hz, Result.andThen, h2]
  · simp [Instr.lookup, run_underlying ht, MapKept.run_getObj_map hb, run_checkKey hkt (K.isK k), run_findKey hkt h1, Result.andThen, h2]
theorem set_kp (w : World) (b : Nat) (o : Obj) : Kp (· = b) w (setBlock w b o) :=
  ⟨rfl, rfl, rfl, by simp [setBlock], fun k _ hn => by simp [setBlock, Ne.symm hn]⟩
theorem al_put_some {l : List (κ × ε)} {k : κ} {v0 : ε} (hnd : (l.map (·.1)).Nodup) {j : Nat} (hj : l[j]? = some (k, v0)) (v : ε) : AL.put l k v = l.set j (k, v) := by
  have hg : AL.get l k = some v0 := AL.get_of_mem hnd (List.mem_of_getElem? hj)
  unfold AL.put
  rw [hg]
  simp only [Option.isSome_some, if_true]
  apply List.ext_getElem?
  intro i
  rw [List.getElem?_map, List.getElem?_set]
  obtain ⟨hjl, hje⟩ := List.getElem?_eq_some_iff.1 hj
  by_cases e : j = i
  · subst e
    rw [if_pos rfl, if_pos hjl, hj]
    simp
  · rw [if_neg e]
    cases hi : l[i]? with
    | none => rfl
    | some p =>
      have hne : p.1 ≠ k := by
        intro q
        obtain ⟨hil, hie⟩ := List.getElem?_eq_some_iff.1 hi
        have := List.pairwise_iff_getElem.1 hnd
        rcases Nat.lt_or_gt_of_ne e with hlt | hlt
        · exact this j i (by simpa using hjl) (by simpa using hil) hlt (by simp [hje, hie, q])
        · exact this i j (by simpa using hil) (by simpa using hjl) hlt (by simp [hje, hie, q])
      simp [hne]
theorem map_eraseIdx {α β : Type} (f : α → β) : ∀ (l : List α) (j : Nat), (l.eraseIdx j).map f = (l.map f).eraseIdx j
  | [], _ => rfl
  | _ :: _, 0 => rfl
  | a :: l, j + 1 => by simp [map_eraseIdx f l j]
theorem al_del_some {l : List (κ × ε)} {k : κ} {v0 : ε} (hnd : (l.map (·.1)).Nodup) {j : Nat} (hj : l[j]? = some (k, v0)) : AL.del l k = l.eraseIdx j := by
  unfold AL.del
  induction l generalizing j with
  | nil => simp at hj
  | cons p l ih =>
    rw [List.map_cons, List.nodup_cons] at hnd
    cases j with
    | zero =>
      simp at hj; subst hj
      simp only [List.eraseIdx_zero, List.tail_cons]
      rw [List.filter_cons]
      simp only [ne_eq, not_true_eq_false, decide_false, Bool.false_eq_true, if_false]
      apply List.filter_eq_self.2
      intro q hq
      simp only [decide_eq_true_eq]
      intro e
      exact hnd.1 (List.mem_map.2 ⟨q, hq, e⟩)
    | succ j =>
      simp only [List.getElem?_cons_succ] at hj
      have hne : p.1 ≠ k := fun e => hnd.1 (List.mem_map.2 ⟨_, List.mem_of_getElem? hj, e.symm⟩)
      rw [List.filter_cons, if_pos (by simpa using hne), ih hnd.2 hj]
      rfl
theorem MapAt.store (h : MapAt w d kv ev b l) (K : KeyK d kv) {t kt et : TypeId} (ht : P.underlying t = some (.map kt et)) (hkt : P.underlying kt = some d) (k : κ) (v : ε) :
    ∃ w', (Instr.mapUpdate t (.map (some b)) (kv k) (ev v)).run P w = .ok () w' ∧ MapAt w' d kv ev b (AL.put l k v) ∧ Kp (· = b) w w' ∧ w'.heap.size = w.heap.size := by
  have hnd := h.nodup K
  obtain ⟨es, clk, hb, hs, hk, he, h1⟩ := h.find K k
  rcases h1 with ⟨h1, h2⟩ | ⟨j, e, v0, h1, h3, h4, h5, h6, h2⟩
  · refine ⟨setBlock w b (.map (es.push { key := kv k, val := ev v, born := clk }) (clk + 1)), ?_, ?_, set_kp _ _ _, by simp [setBlock]⟩
    · simp [Instr.mapUpdate, run_underlying ht, MapKept.run_getObj_map hb, run_checkKey hkt (K.isK k), run_findKey hkt h1, run_setObj_map _ hb, Result.andThen, setBlock]
    · refine ⟨_, _, heap_setBlock_same hb _, stamped_push hs ?_, ?_, ?_⟩
      · intro x hx e
        obtain ⟨j, hj, hjx⟩ := List.mem_iff_getElem.1 hx
        obtain ⟨q, hq, hq1, _⟩ := entries_eq he (List.getElem?_eq_getElem hj)
        exact AL.get_none.1 h2 q (List.mem_of_getElem? hq) (K.inj _ _ (by rw [← hq1, hjx, e]))
      · intro x hx
        simp only [Array.toList_push, List.mem_append, List.mem_singleton] at hx
        rcases hx with hx | rfl
        · exact hk x hx
        · exact K.isK k
      · rw [AL.put_of_none v h2]
        simp [he]
  · have hj : es[j]? = some e := by simpa using h3
    refine ⟨setBlock w b (.map (es.modify j fun e => { e with key := kv k, val := ev v }) clk), ?_, ?_, set_kp _ _ _, by simp [setBlock]⟩
    · simp [Instr.mapUpdate, run_underlying ht, MapKept.run_getObj_map hb, run_checkKey hkt (K.isK k), run_findKey hkt h1, run_setObj_map _ hb, Result.andThen, setBlock, hj, h4, run_keyThatStays (K.isK k)]
    · refine ⟨_, _, heap_setBlock_same hb _, stamped_modify hs _ _ (fun _ _ => rfl) (fun e' _ he' => ?_), isKey_modify hk _ _ (fun e' he' => ?_), ?_⟩
      · rw [hj] at he'; cases he'; exact h4.symm
      · rw [hj] at he'; cases he'; exact h4.symm
      · rw [al_put_some hnd h6]
        apply List.ext_getElem?
        intro i
        have hei := congrArg (fun l => l[i]?) he
        simp only [List.getElem?_map, Array.getElem?_toList] at hei
        simp only [List.getElem?_map, Array.getElem?_toList, Array.getElem?_modify, List.getElem?_set]
        obtain ⟨hjl, _⟩ := List.getElem?_eq_some_iff.1 h6
        by_cases q : j = i
        · subst q
          simp [hj, hjl]
        · simp [q, hei]
theorem MapAt.drop (h : MapAt w d kv ev b l) (K : KeyK d kv) {t kt kt' et : TypeId} (ht : P.underlying t = some (.map kt et)) (hkt : P.underlying kt = some d) (k : κ) (ty : TypeId) :
    ∃ w', (Builtin.delete_ #[t, kt'] ty #[.map (some b), kv k]).run P w = .ok (.tuple #[]) w' ∧ MapAt w' d kv ev b (AL.del l k) ∧ Kp (· = b) w w' ∧ w'.heap.size = w.heap.size := by
  have hnd := h.nodup K
  obtain ⟨es, clk, hb, hs, hk, he, h1⟩ := h.find K k
  rcases h1 with ⟨h1, h2⟩ | ⟨j, e, v0, h1, h3, h4, h5, h6, h2⟩
  · refine ⟨setBlock w b (.map es clk), ?_, ?_, set_kp _ _ _, by simp [setBlock]⟩
    · simp [Builtin.delete_, run_underlying ht, MapKept.run_getObj_map hb, run_checkKey hkt (K.isK k), run_findKey hkt h1, run_setObj_map _ hb, Result.andThen, setBlock]
    · refine ⟨_, _, heap_setBlock_same hb _, hs, hk, ?_⟩
      rw [he]
      have : AL.del l k = l := List.filter_eq_self.2 (fun p hp => by simpa using AL.get_none.1 h2 p hp)
      rw [this]
  · refine ⟨setBlock w b (.map (es.eraseIdxIfInBounds j) clk), ?_, ?_, set_kp _ _ _, by simp [setBlock]⟩
    · simp [Builtin.delete_, run_underlying ht, MapKept.run_getObj_map hb, run_checkKey hkt (K.isK k), run_findKey hkt h1, run_setObj_map _ hb, Result.andThen, setBlock]
    · have hjl : j < es.size := by have := (List.getElem?_eq_some_iff.1 h3).1; simpa using this
      have hl : (es.eraseIdxIfInBounds j).toList = es.toList.eraseIdx j := by
        unfold Array.eraseIdxIfInBounds
        rw [dif_pos hjl]; simp
      refine ⟨_, _, heap_setBlock_same hb _, stamped_erase hs j, ?_, ?_⟩
      · intro x hx
        rw [hl] at hx
        exact hk x ((List.eraseIdx_sublist _ _).subset hx)
      · rw [hl, al_del_some hnd h6, map_eraseIdx, map_eraseIdx, he]
omit [DecidableEq κ] in
theorem MapAt.len (h : MapAt w d kv ev b l) {t kt et : TypeId} (ht : P.underlying t = some (.map kt et)) (ty : TypeId) : (Builtin.len_ #[t] ty #[.map (some b)]).run P w = .ok (.int .i64 l.length) w := by
  obtain ⟨es, clk, hb, hs, hk, he⟩ := h
  have e1 : es.size = l.length := by have := congrArg List.length he; simpa using this
  simp [Builtin.len_, run_underlying ht, MapKept.run_getObj_map hb, goInt, Result.andThen, e1]
end
/-! ### ranging over a map -/
def RangeAt {κ ε : Type} (w : World) (d : TypeDesc) (kv : κ → Value) (ev : ε → Value) (b r : Nat) (l left : List (κ × ε)) : Prop :=
  ∃ es clk since seen, w.heap[b]? = some (.map es clk) ∧ Stamped es clk ∧ (∀ x ∈ es.toList, IsKey d x.key) ∧ es.toList.map (fun x => (x.key, x.val)) = l.map (fun p => (kv p.1, ev p.2)) ∧
    w.heap[r]? = some (.mapIter (some b) since seen clk) ∧ (∀ x ∈ es.toList, x.born < since) ∧ since ≤ clk ∧ (leftOf es seen).toList.map (fun x => (x.key, x.val)) = left.map (fun p => (kv p.1, ev p.2))
section
variable {κ ε : Type} {P : Program} {w : World} {d : TypeDesc} {kv : κ → Value} {ev : ε → Value} {b r : Nat} {l left : List (κ × ε)}
theorem RangeAt.kp {F : Nat → Prop} {w' : World} (h : RangeAt w d kv ev b r l left) (hk : Kp F w w') (hb : ¬ F b) (hr : ¬ F r) : RangeAt w' d kv ev b r l left := by
  obtain ⟨es, clk, since, seen, h1, h2, h3, h4, h5, h6⟩ := h
  exact ⟨es, clk, since, seen, hk.at_ h1 hb, h2, h3, h4, hk.at_ h5 hr, h6⟩
theorem RangeAt.lt (h : RangeAt w d kv ev b r l left) : r < w.heap.size := by
  obtain ⟨es, clk, since, seen, h1, h2, h3, h4, h5, h6⟩ := h; exact lt_of_at h5
theorem RangeAt.ne (h : RangeAt w d kv ev b r l left) : b ≠ r := by
  obtain ⟨es, clk, since, seen, h1, h2, h3, h4, h5, h6⟩ := h
  intro e; rw [e, h5] at h1; cases h1
theorem RangeAt.start (h : MapAt w d kv ev b l) : ∃ clk, (∀ t kt et, P.underlying t = some (.map kt et) → (Instr.range t (.map (some b))).run P w = .ok (.pointer (some ⟨w.heap.size, 0, none⟩)) (w.alloc (.mapIter (some b) clk #[] clk))) ∧
    RangeAt (w.alloc (.mapIter (some b) clk #[] clk)) d kv ev b w.heap.size l l := by
  obtain ⟨es, clk, h1, h2, h3, h4⟩ := h
  refine ⟨clk, fun t kt et ht => ?_, es, clk, clk, #[], ?_, h2, h3, h4, alloc_at w _, h2.1, Nat.le_refl _, ?_⟩
  · simp [Instr.range, run_underlying ht, MapKept.run_getObj_map h1, newObj, Result.andThen, Sem.run]
  · exact ((Kp.refl (fun _ => False) w).alloc _).at_ h1 (fun q => q)
  · rw [← h4]
    congr 1
    unfold leftOf
    simp
def rgLeft (w : World) (b r : Nat) : Nat := match w.heap[r]?, w.heap[b]? with
  | some (.mapIter _ _ seen _), some (.map es _) => (leftOf es seen).size
  | _, _ => 0
theorem RangeAt.count (h : RangeAt w d kv ev b r l left) : rgLeft w b r = left.length := by
  obtain ⟨es, clk, since, seen, h1, h2, h3, h4, h5, h6, h7, h8⟩ := h
  have := congrArg List.length h8
  simp only [List.length_map, Array.length_toList] at this
  simp [rgLeft, h5, h1, this]
theorem leftOf_push (es : Array MapEntry) (seen : Array Nat) (x : Nat) : (leftOf es (seen.push x)).toList = (leftOf es seen).toList.filter (fun e => e.born != x) := by
  unfold leftOf
  simp only [Array.toList_filter, List.filter_filter]
  apply List.filter_congr
  intro e _
  simp only [Array.contains_push, Bool.not_or]
  cases seen.contains e.born <;> cases h : (e.born == x) <;> simp [bne, h]
theorem perm_eraseIdx {α : Type} : ∀ (l : List α) (j : Nat) (hj : j < l.length), l.Perm (l[j] :: l.eraseIdx j)
  | [], _, h => by simp at h
  | a :: l, 0, _ => by simp
  | a :: l, j + 1, h => by
    simp only [List.getElem_cons_succ, List.eraseIdx_cons_succ]
    exact ((perm_eraseIdx l j (by simpa using h)).cons a).trans (List.Perm.swap _ _ _)
theorem perm_filter_one {α : Type} {l : List α} {f : α → Nat} (hn : (l.map f).Nodup) {x : α} (hx : x ∈ l) : l.Perm (x :: l.filter (fun y => f y != f x)) := by
  induction l with
  | nil => cases hx
  | cons a l ih =>
    rw [List.map_cons, List.nodup_cons] at hn
    rcases List.mem_cons.1 hx with rfl | hx
    · have : (x :: l).filter (fun y => f y != f x) = l := by
        rw [List.filter_cons]
        simp only [bne_self_eq_false, Bool.false_eq_true, if_false]
        apply List.filter_eq_self.2
        intro y hy
        simp only [bne_iff_ne, ne_eq]
        intro e
        exact hn.1 (List.mem_map.2 ⟨y, hy, e⟩)
      rw [this]
    · have hne : f a ≠ f x := fun e => hn.1 (List.mem_map.2 ⟨x, hx, e.symm⟩)
      rw [List.filter_cons]
      simp only [bne_iff_ne, ne_eq, hne, not_false_eq_true, if_true]
      exact ((ih hn.2 hx).cons a).trans (List.Perm.swap _ _ _)
theorem RangeAt.step (h : RangeAt w d kv ev b r l left) (ty : TypeId) :
    (left = [] ∧ (Instr.next (.pointer (some ⟨r, 0, none⟩)) false ty).run P w = .ok (.tuple #[.bool false]) w) ∨
    ∃ k v left' w', left.Perm ((k, v) :: left') ∧ (Instr.next (.pointer (some ⟨r, 0, none⟩)) false ty).run P w = .ok (.tuple #[.bool true, kv k, ev v]) w' ∧ RangeAt w' d kv ev b r l left' ∧ Kp (· = r) w w' ∧ w'.heap.size = w.heap.size ∧
      (Instr.entry (.pointer (some ⟨r, 0, none⟩))).run P w' = .ok (.tuple #[kv k, ev v]) w' := by
  have hbr := h.ne
  obtain ⟨es, clk, since, seen, h1, h2, h3, h4, h5, h6, h7, h8⟩ := h
  rcases run_next_at (P := P) w ty r b since clk seen es clk h5 h1 h6 h7 with ⟨h0, hrun⟩ | ⟨e, he, w1, hw1, hrun⟩
  · left
    refine ⟨?_, hrun⟩
    have := congrArg List.length h8
    simp only [List.length_map, Array.length_toList, h0] at this
    exact List.eq_nil_of_length_eq_zero this.symm
  · right
    obtain ⟨j, hj, hje⟩ := List.mem_iff_getElem.1 he
    obtain ⟨q, hq, hq1, hq2⟩ := entries_eq h8 (show (leftOf es seen).toList[j]? = some e by rw [List.getElem?_eq_getElem hj, hje])
    have hsub : (leftOf es seen).toList.Sublist es.toList := by unfold leftOf; rw [Array.toList_filter]; exact List.filter_sublist
    have hnd : ((leftOf es seen).toList.map (·.born)).Nodup := (hsub.map _).nodup h2.2.1
    have hw1h : w1.heap = w.heap := by rcases hw1 with rfl | rfl <;> rfl
    have hk1 : Kp (· = r) w (setBlock w1 r (.mapIter (some b) since (seen.push e.born) clk)) := by
      have := set_kp w1 r (.mapIter (some b) since (seen.push e.born) clk)
      rcases hw1 with rfl | rfl
      · exact this
      · exact ⟨this.os, this.tape, this.output, this.size, this.block⟩
    have hb' := hk1.at_ h1 hbr
    have hr' : (setBlock w1 r (.mapIter (some b) since (seen.push e.born) clk)).heap[r]? = some (.mapIter (some b) since (seen.push e.born) clk) := by
      have hlt : r < w1.heap.size := by rw [hw1h]; exact lt_of_at h5
      simp [setBlock, hlt]
    let L' := (leftOf es (seen.push e.born)).toList
    have hperm : (leftOf es seen).toList.Perm (e :: L') := by
      show (leftOf es seen).toList.Perm (e :: (leftOf es (seen.push e.born)).toList)
      rw [leftOf_push]
      exact perm_filter_one hnd he
    have hL' : ∃ left', L'.map (fun x => (x.key, x.val)) = left'.map (fun p => (kv p.1, ev p.2)) ∧ left.Perm (q :: left') := by
      have e1 : L' = (leftOf es seen).toList.eraseIdx j := by
        show (leftOf es (seen.push e.born)).toList = _
        rw [leftOf_push]
        have : ∀ (m : List MapEntry) (i : Nat) (hi : i < m.length), (m.map (·.born)).Nodup → m[i] = e → m.filter (fun x => x.born != e.born) = m.eraseIdx i := by
          intro m
          induction m with
          | nil => intro i hi; simp at hi
          | cons a m ih =>
            intro i hi hn hx
            rw [List.map_cons, List.nodup_cons] at hn
            cases i with
            | zero =>
              simp only [List.getElem_cons_zero] at hx
              subst hx
              rw [List.filter_cons]
              simp only [bne_self_eq_false, Bool.false_eq_true, if_false, List.eraseIdx_zero, List.tail_cons]
              apply List.filter_eq_self.2
              intro y hy
              simp only [bne_iff_ne, ne_eq]
              intro e'
              exact hn.1 (List.mem_map.2 ⟨y, hy, e'⟩)
            | succ i =>
              simp only [List.getElem_cons_succ] at hx
              have hne : a.born ≠ e.born := fun e' => hn.1 (List.mem_map.2 ⟨e, by rw [← hx]; exact List.getElem_mem _, e'.symm⟩)
              rw [List.filter_cons]
              simp only [bne_iff_ne, ne_eq, hne, not_false_eq_true, if_true, List.eraseIdx_cons_succ]
              rw [ih i (by simpa using hi) hn.2 hx]
        exact this _ j hj hnd hje
      refine ⟨left.eraseIdx j, ?_, ?_⟩
      · rw [e1, map_eraseIdx, h8, ← map_eraseIdx]
      · obtain ⟨hjl, hjq⟩ := List.getElem?_eq_some_iff.1 hq
        rw [← hjq]
        exact perm_eraseIdx left j hjl
    obtain ⟨left', hl', hp⟩ := hL'
    refine ⟨q.1, q.2, left', _, hp, ?_, ⟨es, clk, since, seen.push e.born, hb', h2, h3, h4, hr', h6, h7, hl'⟩, hk1, by simp [setBlock, hw1h], ?_⟩
    · rw [hrun, hq1, hq2]
    · rw [run_entry_at (P := P) _ r b since seen es clk e hr' hb' (hsub.subset he) h2.2.1, hq1, hq2]
end
/-! ### at the operation, for the walk -/
section
variable {κ ε : Type} [DecidableEq κ] {P : Program} (w : World) {ops : Array Oper} {rest : List Oper} {o : Oper} {a : Act} {Q : Exit → Act → World → Prop}
theorem wpList_mdel (hg : o.guard = none) (m x : Operand) (t kt' : TypeId) (hop : o.op = Op.call { callee := Callee.builtin Builtin.delete, args := #[m, x], argTypes := #[t, kt'] }) {d : TypeDesc} {kv : κ → Value} (K : KeyK d kv) (ev : ε → Value) {kt et : TypeId} (ht : P.underlying t = some (.map kt et)) (hkt : P.underlying kt = some d)
    (b : Nat) (l : List (κ × ε)) (hm : a.eval m = .map (some b)) (hown : MapAt w d kv ev b l) (k : κ) (hx : a.eval x = kv k)
    (hK : ∀ w', MapAt w' d kv ev b (AL.del l k) → Kp (· = b) w w' → w'.heap.size = w.heap.size → wpList P ops Q rest (a.put o.dst (.tuple #[])) w') :
    wpList P ops Q (o :: rest) a w := by
  refine wpList_plain hg fun K' hK' => ?_
  obtain ⟨w', hrun, r1, r2, r3⟩ := hown.drop (P := P) K ht hkt (kt' := kt') k o.type
  unfold Oper.wp execOp
  simp only [hop, resolve, invoke, builtin, Sem.run_bind, Sem.run_pure, Result.andThen_ok, List.map_toArray, List.map_cons, List.map_nil, hm, hx, hrun]
  exact hK' _ _ (hK w' r1 r2 r3)
end
end Go.Mg
namespace Go.Mg
open Go Go.RowKit Go.ChangeMaps Go.MapKept
def u8c (b : UInt8) : Value := .int .u8 b.toNat
theorem u8c_one : ∀ (l : List UInt8), ∀ u ∈ l.map u8c, u.oneCell' = true := by
  intro l u hu
  obtain ⟨b, _, rfl⟩ := List.mem_map.1 hu
  rfl
def SlR (w : World) (size : Nat) (v : Value) (n : Nat) (xs : List Value) : Prop :=
  xs.length = n * size ∧ ∃ a cap, v = .slice a n cap ∧ n ≤ cap ∧ cap ≤ maxLen ∧ (a = none → cap = 0) ∧
    (0 < n → ∃ g off, a = some ⟨g, off, none⟩ ∧ g < w.heap.size ∧ ∀ i u, xs[i]? = some u → w.cell? ⟨g, off + i, none⟩ = some u)
theorem SlR.nil (w : World) (size : Nat) : SlR w size (.slice none 0 0) 0 [] := ⟨by simp, none, 0, rfl, Nat.le_refl _, by unfold maxLen; omega, fun _ => rfl, fun h => by omega⟩
theorem SlR.kept {w w' : World} {size : Nat} {v : Value} {n : Nat} {xs : List Value} (h : SlR w size v n xs) (hs : w.heap.size ≤ w'.heap.size) (hk : ∀ b, v.ownBlock = some b → b < w.heap.size → w'.heap[b]? = w.heap[b]?) : SlR w' size v n xs := by
  obtain ⟨h1, a, cap, rfl, h2, h3, h4, h5⟩ := h
  refine ⟨h1, a, cap, rfl, h2, h3, h4, fun hn => ?_⟩
  obtain ⟨g, off, rfl, hg, hc⟩ := h5 hn
  exact ⟨g, off, rfl, by omega, fun i u hu => (World.cell?_of_block (w := w) (hk g rfl hg)).trans (hc i u hu)⟩
theorem SlR.kp {w w' : World} {size : Nat} {v : Value} {n : Nat} {xs : List Value} {F : Nat → Prop} (h : SlR w size v n xs) (hk : Kp F w w') (hn : ∀ b, v.ownBlock = some b → ¬ F b) : SlR w' size v n xs :=
  h.kept hk.size (fun b hb hl => hk.block b hl (hn b hb))
theorem SlR.below {w w' : World} {size : Nat} {v : Value} {n : Nat} {xs : List Value} (h : SlR w size v n xs) (hk : Below w.heap.size w w') : SlR w' size v n xs :=
  h.kept hk.size (fun b _ hl => hk.block b hl)
theorem SlR.drewN {w : World} {size : Nat} {v : Value} {n : Nat} {xs : List Value} (h : SlR w size v n xs) (k : Nat) : SlR (w.drewN k) size v n xs := h
theorem SlR.old {w0 w' : World} {size : Nat} {v : Value} {n : Nat} {xs : List Value} (h : SlR w0 size v n xs) (hk : Kp (fun _ => False) w0 w') : SlR w' size v n xs := h.kp hk (fun _ _ q => q)
theorem own_b {g o n c b : Nat} (h : (Value.slice (some ⟨g, o, none⟩) n c).ownBlock = some b) : b = g := by simpa [Value.ownBlock] using h.symm
def OwnR (w : World) (e : TypeId) (size : Nat) (v : Value) (n : Nat) (xs : List Value) : Prop :=
  xs.length = n * size ∧ ((v = .slice none 0 0 ∧ n = 0) ∨
    ∃ g cap cur fr, v = .slice (some ⟨g, 0, none⟩) n cap ∧ w.heap[g]? = some (.cells cur e fr) ∧ (fr = (0, 0) ∨ cur.size ≤ fr.1) ∧ n ≤ cap ∧ cap ≤ maxLen ∧ cur.size = cap * size ∧ cur.toList.take (n * size) = xs)
theorem OwnR.nil (w : World) (e : TypeId) (size : Nat) : OwnR w e size (.slice none 0 0) 0 [] := ⟨by simp, .inl ⟨rfl, rfl⟩⟩
theorem OwnR.form {w : World} {e : TypeId} {size : Nat} {v : Value} {n : Nat} {xs : List Value} (h : OwnR w e size v n xs) : ∃ a c, v = .slice a n c := by
  rcases h.2 with ⟨rfl, rfl⟩ | ⟨g, cap, cur, fr, rfl, hg, _⟩
  · exact ⟨_, _, rfl⟩
  · exact ⟨_, _, rfl⟩
theorem OwnR.lt {w : World} {e : TypeId} {size : Nat} {v : Value} {n : Nat} {xs : List Value} (h : OwnR w e size v n xs) {b : Nat} (hb : v.ownBlock = some b) : b < w.heap.size := by
  rcases h.2 with ⟨rfl, _⟩ | ⟨g, cap, cur, fr, rfl, hg, _⟩
  · cases hb
  · cases hb; exact lt_of_at hg
theorem OwnR.kept {w w' : World} {e : TypeId} {size : Nat} {v : Value} {n : Nat} {xs : List Value} (h : OwnR w e size v n xs) (hk : ∀ b, v.ownBlock = some b → b < w.heap.size → w'.heap[b]? = w.heap[b]?) : OwnR w' e size v n xs := by
  refine ⟨h.1, ?_⟩
  rcases h.2 with h | ⟨g, cap, cur, fr, rfl, hg, r⟩
  · exact .inl h
  · exact .inr ⟨g, cap, cur, fr, rfl, (hk g rfl (lt_of_at hg)).trans hg, r⟩
theorem OwnR.kp {w w' : World} {e : TypeId} {size : Nat} {v : Value} {n : Nat} {xs : List Value} {F : Nat → Prop} (h : OwnR w e size v n xs) (hk : Kp F w w') (hn : ∀ b, v.ownBlock = some b → ¬ F b) : OwnR w' e size v n xs :=
  h.kept (fun b hb hl => hk.block b hl (hn b hb))
theorem OwnR.sl {w : World} {e : TypeId} {size : Nat} {v : Value} {n : Nat} {xs : List Value} (h : OwnR w e size v n xs) : SlR w size v n xs := by
  refine ⟨h.1, ?_⟩
  have hx := h.1
  rcases h.2 with ⟨rfl, rfl⟩ | ⟨g, cap, cur, fr, rfl, hg, _, h1, h2, h3, h4⟩
  · exact ⟨none, 0, rfl, Nat.le_refl _, by unfold maxLen; omega, fun _ => rfl, fun h => by omega⟩
  · refine ⟨_, cap, rfl, h1, h2, (fun h => by cases h), fun _ => ⟨g, 0, rfl, lt_of_at hg, fun i u hu => ?_⟩⟩
    rw [cell_of hg, Nat.zero_add]
    rw [← h4, List.getElem?_take] at hu
    split at hu
    · simpa using hu
    · cases hu
theorem storeCells_gen (P : Program) (g o : Nat) (t : TypeId) (fr : Nat × Nat) : ∀ (vs : List Value) (i : Nat) (cur : Array Value) (w : World), w.heap[g]? = some (.cells cur t fr) → (fr = (0, 0) ∨ cur.size ≤ fr.1) → o + i + vs.length ≤ cur.size → (∀ v ∈ vs, v.oneCell' = true) →
    (storeCells ⟨g, o, none⟩ vs i).run P w = .ok () (w.setRow g (cur.toList.take (o + i) ++ vs ++ cur.toList.drop (o + i + vs.length)).toArray)
  | [], i, cur, w, hg, _, _, _ => by
    simp only [storeCells, List.append_nil, List.length_nil, Nat.add_zero, List.take_append_drop, Array.toArray_toList]
    rw [setRow_self w g cur t fr hg]
    rfl
  | v :: rest, i, cur, w, hg, hfr, hl, h1 => by
    have hi : o + i < cur.size := by simp at hl; omega
    have hadd : (⟨g, o, none⟩ : Addr).add i = ⟨g, o + i, none⟩ := by unfold Addr.add; split <;> simp_all
    have hcell : w.cell? ⟨g, o + i, none⟩ = some cur[o + i] := by simp [World.cell?, hg, hi]
    have hfro : w.frozen? ⟨g, o + i, none⟩ = false := by
      rcases hfr with rfl | hfr
      · simp [World.frozen?, hg]
      · obtain ⟨lo, hi'⟩ := fr
        simp only [World.frozen?, hg, Bool.and_eq_false_iff, decide_eq_false_iff_not]
        left; simp at hfr; omega
    have hst : (store ((⟨g, o, none⟩ : Addr).add i) v).run P w = .ok () (w.setRow g (cur.setIfInBounds (o + i) v)) := by
      rw [hadd, run_store P w _ v _ (h1 v (by simp)), hcell]
      simp [hfro, setCell_eq_setRow w g (o + i) cur t fr v hg]
    have ih := storeCells_gen P g o t fr rest (i + 1) (cur.setIfInBounds (o + i) v) (w.setRow g (cur.setIfInBounds (o + i) v)) (setRow_heap w g cur _ t _ hg) (by simpa using hfr) (by simp at hl ⊢; omega) (fun x hx => h1 x (by simp [hx]))
    simp only [storeCells, Sem.run_bind, hst, Result.andThen_ok, ih, setRow_setRow]
    congr 3
    have e := list_seg_step cur.toList (o + i) v rest (by simp at hl ⊢; omega)
    simpa [Array.toList_setIfInBounds, Nat.add_assoc] using e
theorem kp_setRow (w : World) (g : Nat) (c : Array Value) : Kp (· = g) w (w.setRow g c) :=
  ⟨rfl, rfl, rfl, by simp [World.setRow], fun k _ hn => setRow_other w g k c hn⟩
theorem run_app {P : Program} (w : World) (t ty e : TypeId) (i : TypeInfo) (z : Value) (size bytes : Nat) (ht : P.underlying t = some (.slice e)) (hi : P.info? e = some i) (hz : i.zero = some z)
    (hsize : i.size = size) (hby : i.bytes = bytes) (hzs : z.cells.size = size) (hsz : 0 < size) (hbp : 0 < bytes)
    {v : Value} {n : Nat} {xs : List Value} (hown : OwnR w e size v n xs) {x : Value} {m : Nat} {ys : List Value} (hsl : SlR w size x m ys) (h1 : ∀ u ∈ ys, u.oneCell' = true) (hbytes : (n + m) * bytes ≤ 140737488355328) :
    ∃ v' w', (Builtin.append_ #[t, t] ty #[v, x]).run P w = .ok v' w' ∧ OwnR w' e size v' (n + m) (xs ++ ys) ∧ Kp (fun k => v.ownBlock = some k) w w' ∧
      (v'.ownBlock = v.ownBlock ∨ v'.ownBlock = some w.heap.size) ∧ (m = 0 → v' = v ∧ w' = w) ∧ (0 < m → v'.ownBlock ≠ none) := by
  subst hsize
  subst hby
  obtain ⟨hys, ax, cx, rfl, hmc, hcx, hax, hcell⟩ := hsl
  have hnm : n + m ≤ 140737488355328 := Nat.le_trans (Nat.le_mul_of_pos_right _ hbp) hbytes
  have hlen : (xs ++ ys).length = (n + m) * i.size := by rw [List.length_append, hown.1, hys, Nat.add_mul]
  by_cases hm : m = 0
  · subst hm
    have hy : ys = [] := List.eq_nil_of_length_eq_zero (by simpa using hys)
    subst hy
    refine ⟨v, w, ?_, by simpa using hown, Kp.refl _ _, .inl rfl, fun _ => ⟨rfl, rfl⟩, fun h => by omega⟩
    have hfc : ∀ (w : World), (Builtin.firstCells i.size 0 (.slice ax 0 cx)).run P w = .ok #[] w := by
      intro w
      cases ax <;> simp [Builtin.firstCells, loadCells, loadCellsFrom]
    rcases hown.2 with ⟨rfl, rfl⟩ | ⟨g, cap, cur, fr, rfl, hg, hfr, hnc, hcm, hcs, htake⟩
    · simp [Builtin.append_, run_underlying ht, sizeOf, typeInfo, hi, Builtin.lenOf, hfc]
    · simp [Builtin.append_, run_underlying ht, sizeOf, typeInfo, hi, Builtin.lenOf, hfc, hnc, storeCells]
  · obtain ⟨gx, ox, rfl, hgx, hc⟩ := hcell (by omega)
    have hnews : ∀ j u, ys[j]? = some u → w.cell? ((⟨gx, ox, none⟩ : Addr).add j) = some u := by
      intro j u hu
      have hadd : (⟨gx, ox, none⟩ : Addr).add j = ⟨gx, ox + j, none⟩ := by unfold Addr.add; split <;> simp_all
      rw [hadd]; exact hc j u hu
    have grown : ∀ (old : Nat), old < n + m →
        OwnR (w.drew.alloc (.cells (xs.toArray ++ ys.toArray ++ Builtin.zeroCells z.cells (grownCap w (n + m) old e - (n + m))) e)) e i.size
          (.slice (some ⟨w.heap.size, 0, none⟩) (n + m) (grownCap w (n + m) old e)) (n + m) (xs ++ ys) := by
      intro old ho
      have hge := grownCap_ge w (n + m) old e
      have hcm : grownCap w (n + m) old e ≤ maxLen := grownCap_le_maxLen w (n + m) old e (by unfold maxLen; omega)
      refine ⟨hlen, .inr ⟨w.heap.size, _, _, (0, 0), rfl, alloc_at w.drew _, .inl rfl, hge, hcm, ?_, ?_⟩⟩
      · simp only [Array.size_append, List.size_toArray, size_zeroCells, hzs, hown.1, hys, ← Nat.add_mul]
        congr 1
        omega
      · simp only [Array.toList_append, List.append_assoc]
        rw [← List.append_assoc, ← hlen]
        exact List.take_left
    have kpa : ∀ (F : Nat → Prop) (o : Obj), Kp F w (w.drew.alloc o) := fun F o => (Kp.refl F w).drew.alloc o
    rcases hown.2 with ⟨rfl, rfl⟩ | ⟨g, cap, cur, fr, rfl, hg, hfr, hnc, hcm, hcs, htake⟩
    · have hx : xs = [] := List.eq_nil_of_length_eq_zero (by simpa using hown.1)
      subst hx
      have hr := run_append_nil (P := P) w t ty e i z ht hi hz ⟨gx, ox, none⟩ m cx ys hys hnews (by omega) (by omega) (by have hb := hbytes; simp only [Nat.zero_add] at hb; omega)
      have hgr := grown 0 (by omega)
      simp only [Nat.zero_add, List.nil_append, Array.empty_append] at hgr ⊢
      exact ⟨_, _, hr, hgr, kpa _ _, .inr rfl, fun h => absurd h hm, fun _ => by simp [Value.ownBlock]⟩
    · by_cases hroom : n + m ≤ cap
      · have hfit : n * i.size + ys.length ≤ cur.size := by rw [hys, hcs, ← Nat.add_mul]; exact Nat.mul_le_mul_right _ hroom
        have hf := run_firstCells_some (P := P) w i.size m ⟨gx, ox, none⟩ m cx ys hys hnews
        have hst := storeCells_gen P g (n * i.size) e fr ys 0 cur w hg hfr (by simpa using hfit) h1
        simp only [Nat.add_zero] at hst
        have hr : (Builtin.append_ #[t, t] ty #[.slice (some ⟨g, 0, none⟩) n cap, .slice (some ⟨gx, ox, none⟩) m cx]).run P w =
            .ok (.slice (some ⟨g, 0, none⟩) (n + m) cap) (w.setRow g (cur.toList.take (n * i.size) ++ ys ++ cur.toList.drop (n * i.size + ys.length)).toArray) := by
          simp [Builtin.append_, run_underlying ht, sizeOf, typeInfo, hi, Builtin.lenOf, hroom, hf, Addr.add_lit, hst]
        refine ⟨_, _, hr, ⟨hlen, .inr ⟨g, cap, _, fr, rfl, setRow_heap w g cur _ e _ hg, ?_, hroom, hcm, ?_, ?_⟩⟩, (kp_setRow w g _).mono (fun k _ hk => by rw [hk]; rfl), .inl rfl, fun h => absurd h hm, fun _ => by simp [Value.ownBlock]⟩
        · rcases hfr with rfl | hfr
          · exact .inl rfl
          · right
            simp only [List.size_toArray, List.length_append, List.length_take, List.length_drop, Array.length_toList]
            omega
        · simp only [List.size_toArray, List.length_append, List.length_take, List.length_drop, Array.length_toList]
          omega
        · rw [htake, ← hlen]
          exact List.take_left
      · have holds : ∀ j u, xs[j]? = some u → w.cell? ((⟨g, 0, none⟩ : Addr).add j) = some u := by
          intro j u hu
          have hadd : (⟨g, 0, none⟩ : Addr).add j = ⟨g, j, none⟩ := by unfold Addr.add; split <;> simp_all
          rw [hadd, cell_of hg]
          rw [← htake, List.getElem?_take] at hu
          split at hu
          · simpa using hu
          · cases hu
        have hr := run_append_grow (P := P) w t ty e i z ht hi hz ⟨g, 0, none⟩ n cap xs hown.1 holds ⟨gx, ox, none⟩ m cx ys hys hnews (by omega) (by omega) (growslice_fits (by omega) hbytes)
        exact ⟨_, _, hr, grown cap (by omega), kpa _ _, .inr rfl, fun h => absurd h hm, fun _ => by simp [Value.ownBlock]⟩
theorem wpList_app {P : Program} (w : World) {ops : Array Oper} {rest : List Oper} {o : Oper} {a : Act} {Q : Exit → Act → World → Prop} (hgd : o.guard = none) (s x : Operand) (t : TypeId)
    (ho : o.op = .call { callee := .builtin .append, args := #[s, x], argTypes := #[t, t] })
    (e : TypeId) (i : TypeInfo) (z : Value) (size bytes : Nat) (ht : P.underlying t = some (.slice e)) (hi : P.info? e = some i) (hz : i.zero = some z)
    (hsize : i.size = size) (hby : i.bytes = bytes) (hzs : z.cells.size = size) (hsz : 0 < size) (hbp : 0 < bytes)
    (v : Value) (n : Nat) (xs : List Value) (hs : a.eval s = v) (hown : OwnR w e size v n xs) (xv : Value) (m : Nat) (ys : List Value) (hx : a.eval x = xv) (hsl : SlR w size xv m ys) (h1 : ∀ u ∈ ys, u.oneCell' = true) (hbytes : (n + m) * bytes ≤ 140737488355328)
    (h : ∀ v' w', OwnR w' e size v' (n + m) (xs ++ ys) → Kp (fun k => v.ownBlock = some k) w w' → (v'.ownBlock = v.ownBlock ∨ v'.ownBlock = some w.heap.size) → (m = 0 → v' = v ∧ w' = w) → (0 < m → v'.ownBlock ≠ none) → wpList P ops Q rest (a.put o.dst v') w') : wpList P ops Q (o :: rest) a w := by
  refine wpList_plain hgd fun K hK => ?_
  obtain ⟨v', w', hr, h2, h3, h4, h5, h6⟩ := run_app (P := P) w t o.type e i z size bytes ht hi hz hsize hby hzs hsz hbp hown hsl h1 hbytes
  unfold Oper.wp execOp
  simp only [ho, resolve, invoke, builtin, Sem.run_bind, Sem.run_pure, Result.andThen_ok, List.map_toArray, List.map_cons, List.map_nil, hs, hx, hr]
  exact hK _ _ (h v' w' h2 h3 h4 h5 h6)
theorem zeroCells_one (z : Value) (m : Nat) : (Builtin.zeroCells #[z] m).toList = List.replicate m z := by
  apply List.ext_getElem
  · simp [Builtin.zeroCells]
  · intro i h1 h2
    simp [Builtin.zeroCells, Nat.mod_one]
theorem run_appz {P : Program} (w : World) (t tn ty e : TypeId) (i : TypeInfo) (z : Value) (kq kn : IntKind) (size bytes : Nat) (ht : P.underlying t = some (.slice e)) (htn : P.underlying tn = some (.int kn)) (hi : P.info? e = some i) (hz : i.zero = some z)
    (hsize : i.size = size) (hby : i.bytes = bytes) (hzs : z.cells.size = size) (hsz : 0 < size) (hbp : 0 < bytes) (h1 : ∀ m, ∀ u ∈ (Builtin.zeroCells z.cells m).toList, u.oneCell' = true)
    {v : Value} {n : Nat} {xs : List Value} (hown : OwnR w e size v n xs) (m : Nat) (hbytes : (n + m) * bytes ≤ 140737488355328) :
    ∃ v' w', (Builtin.append_ #[t, tn] ty #[v, .int kq m]).run P w = .ok v' w' ∧ OwnR w' e size v' (n + m) (xs ++ (Builtin.zeroCells z.cells m).toList) ∧ Kp (fun k => v.ownBlock = some k) w w' ∧
      (v'.ownBlock = v.ownBlock ∨ v'.ownBlock = some w.heap.size) ∧ (m = 0 → v' = v ∧ w' = w) ∧ (0 < m → v'.ownBlock ≠ none) := by
  subst hsize
  subst hby
  have hnm : n + m ≤ 140737488355328 := Nat.le_trans (Nat.le_mul_of_pos_right _ hbp) hbytes
  have hzl : (Builtin.zeroCells z.cells m).toList.length = m * i.size := by rw [Array.length_toList, size_zeroCells, hzs]
  have hlen : (xs ++ (Builtin.zeroCells z.cells m).toList).length = (n + m) * i.size := by rw [List.length_append, hown.1, hzl, Nat.add_mul]
  have hw : IntKind.i64.wrap (m : Int) = m := by rw [IntKind.wrap_i64]; omega
  have hmb : m * i.bytes ≤ 140737488355328 := Nat.le_trans (Nat.mul_le_mul_right _ (by omega)) hbytes
  have h48i : ¬ (281474976710656 < (m : Int) * (i.bytes : Int)) := by rw [← Int.natCast_mul]; omega
  have hneg : ¬ ((m : Int) < 0) := by omega
  by_cases hm : m = 0
  · subst hm
    have hz0 : (Builtin.zeroCells z.cells 0).toList = [] := List.eq_nil_of_length_eq_zero (by rw [hzl]; omega)
    refine ⟨v, w, ?_, by rw [hz0]; simpa using hown, Kp.refl _ _, .inl rfl, fun _ => ⟨rfl, rfl⟩, fun h => by omega⟩
    have hw0 : IntKind.i64.wrap 0 = 0 := by rw [IntKind.wrap_i64]; omega
    rcases hown.2 with ⟨rfl, rfl⟩ | ⟨g, cap, cur, fr, rfl, hg, hfr, hnc, hcm, hcs, htake⟩
    · simp [Builtin.append_, run_underlying ht, run_underlying htn, sizeOf, typeInfo, hi, asInt, asIntOf, hw0]
    · simp [Builtin.append_, run_underlying ht, run_underlying htn, sizeOf, typeInfo, hi, asInt, asIntOf, hw0, hnc, storeCells]
  · have hns : ¬ (m * i.size = 0) := Nat.mul_ne_zero hm (by omega)
    have kpa : ∀ (F : Nat → Prop) (o : Obj), Kp F w (w.drew.alloc o) := fun F o => (Kp.refl F w).drew.alloc o
    have grown : ∀ (old : Nat), old < n + m →
        OwnR (w.drew.alloc (.cells (xs.toArray ++ Builtin.zeroCells z.cells m ++ Builtin.zeroCells z.cells (grownCap w (n + m) old e - (n + m))) e)) e i.size
          (.slice (some ⟨w.heap.size, 0, none⟩) (n + m) (grownCap w (n + m) old e)) (n + m) (xs ++ (Builtin.zeroCells z.cells m).toList) := by
      intro old ho
      have hge := grownCap_ge w (n + m) old e
      have hcm : grownCap w (n + m) old e ≤ maxLen := grownCap_le_maxLen w (n + m) old e (by unfold maxLen; omega)
      refine ⟨hlen, .inr ⟨w.heap.size, _, _, (0, 0), rfl, alloc_at w.drew _, .inl rfl, hge, hcm, ?_, ?_⟩⟩
      · simp only [Array.size_append, List.size_toArray, size_zeroCells, hzs, hown.1, ← Nat.add_mul]
        congr 1
        omega
      · simp only [Array.toList_append]
        rw [← hlen]
        exact List.take_left
    have hfin : ∀ (old : Nat), old < n + m → Builtin.nextslicecap (n + m) old * i.bytes ≤ 281474976710656 := fun old ho => growslice_fits ho hbytes
    rcases hown.2 with ⟨rfl, rfl⟩ | ⟨g, cap, cur, fr, rfl, hg, hfr, hnc, hcm, hcs, htake⟩
    · have hx : xs = [] := List.eq_nil_of_length_eq_zero (by simpa using hown.1)
      subst hx
      have hr := Lib.run_append_nil_zeros (P := P) w t tn ty e i z kq kn ht htn hi hz m (by omega) hsz (by omega) (by omega)
      have hgr := grown 0 (by omega)
      simp only [Nat.zero_add, List.nil_append, Array.empty_append] at hgr ⊢
      exact ⟨_, _, hr, hgr, kpa _ _, .inr rfl, fun h => absurd h hm, fun _ => by simp [Value.ownBlock]⟩
    · by_cases hroom : n + m ≤ cap
      · have hfit : n * i.size + (Builtin.zeroCells z.cells m).toList.length ≤ cur.size := by rw [hzl, hcs, ← Nat.add_mul]; exact Nat.mul_le_mul_right _ hroom
        have hst := storeCells_gen P g (n * i.size) e fr (Builtin.zeroCells z.cells m).toList 0 cur w hg hfr (by simpa using hfit) (h1 m)
        simp only [Nat.add_zero] at hst
        have hr : (Builtin.append_ #[t, tn] ty #[.slice (some ⟨g, 0, none⟩) n cap, .int kq m]).run P w =
            .ok (.slice (some ⟨g, 0, none⟩) (n + m) cap) (w.setRow g (cur.toList.take (n * i.size) ++ (Builtin.zeroCells z.cells m).toList ++ cur.toList.drop (n * i.size + (Builtin.zeroCells z.cells m).toList.length)).toArray) := by
          simp [Builtin.append_, run_underlying ht, run_underlying htn, sizeOf, typeInfo, zeroValue, hi, hz, asInt, asIntOf, hw, hneg, h48i, hns, hroom, Addr.add_lit, hst]
        refine ⟨_, _, hr, ⟨hlen, .inr ⟨g, cap, _, fr, rfl, setRow_heap w g cur _ e _ hg, ?_, hroom, hcm, ?_, ?_⟩⟩, (kp_setRow w g _).mono (fun k _ hk => by rw [hk]; rfl), .inl rfl, fun h => absurd h hm, fun _ => by simp [Value.ownBlock]⟩
        · rcases hfr with rfl | hfr
          · exact .inl rfl
          · right
            simp only [List.size_toArray, List.length_append, List.length_take, List.length_drop, Array.length_toList] at hfit ⊢
            omega
        · simp only [List.size_toArray, List.length_append, List.length_take, List.length_drop, Array.length_toList] at hfit ⊢
          omega
        · rw [htake, ← hlen]
          exact List.take_left
      · have hold : (Builtin.firstCells i.size n (.slice (some ⟨g, 0, none⟩) n cap)).run P w.drew = .ok xs.toArray w.drew := by
          refine run_firstCells_some (P := P) w.drew i.size n ⟨g, 0, none⟩ n cap xs hown.1 (fun j u hu => ?_)
          have hadd : (⟨g, 0, none⟩ : Addr).add j = ⟨g, j, none⟩ := by unfold Addr.add; split <;> simp_all
          show w.cell? _ = _
          rw [hadd, cell_of hg]
          rw [← htake, List.getElem?_take] at hu
          split at hu
          · simpa using hu
          · cases hu
        have hr := Lib.run_append_grow_zeros (P := P) w t tn ty e i z kq kn ht htn hi hz (some ⟨g, 0, none⟩) n cap xs hold m (by omega) hsz (by omega) (by omega) (by omega) (hfin cap (by omega))
        exact ⟨_, _, hr, grown cap (by omega), kpa _ _, .inr rfl, fun h => absurd h hm, fun _ => by simp [Value.ownBlock]⟩
theorem wpList_appz {P : Program} (w : World) {ops : Array Oper} {rest : List Oper} {o : Oper} {a : Act} {Q : Exit → Act → World → Prop} (hgd : o.guard = none) (s x : Operand) (t tn : TypeId)
    (ho : o.op = .call { callee := .builtin .append, args := #[s, x], argTypes := #[t, tn] })
    (e : TypeId) (i : TypeInfo) (z : Value) (kn : IntKind) (size bytes : Nat) (ht : P.underlying t = some (.slice e)) (htn : P.underlying tn = some (.int kn)) (hi : P.info? e = some i) (hz : i.zero = some z)
    (hsize : i.size = size) (hby : i.bytes = bytes) (hzs : z.cells.size = size) (hsz : 0 < size) (hbp : 0 < bytes) (h1 : ∀ m, ∀ u ∈ (Builtin.zeroCells z.cells m).toList, u.oneCell' = true)
    (v : Value) (n : Nat) (xs : List Value) (hs : a.eval s = v) (hown : OwnR w e size v n xs) (kq : IntKind) (m : Nat) (hx : a.eval x = .int kq m) (hbytes : (n + m) * bytes ≤ 140737488355328)
    (h : ∀ v' w', OwnR w' e size v' (n + m) (xs ++ (Builtin.zeroCells z.cells m).toList) → Kp (fun k => v.ownBlock = some k) w w' → (v'.ownBlock = v.ownBlock ∨ v'.ownBlock = some w.heap.size) → (m = 0 → v' = v ∧ w' = w) → (0 < m → v'.ownBlock ≠ none) → wpList P ops Q rest (a.put o.dst v') w') : wpList P ops Q (o :: rest) a w := by
  refine wpList_plain hgd fun K hK => ?_
  obtain ⟨v', w', hr, h2, h3, h4, h5, h6⟩ := run_appz (P := P) w t tn o.type e i z kq kn size bytes ht htn hi hz hsize hby hzs hsz hbp h1 hown m hbytes
  unfold Oper.wp execOp
  simp only [ho, resolve, invoke, builtin, Sem.run_bind, Sem.run_pure, Result.andThen_ok, List.map_toArray, List.map_cons, List.map_nil, hs, hx, hr]
  exact hK _ _ (h v' w' h2 h3 h4 h5 h6)
theorem OwnR.at1 {w : World} {e : TypeId} {a : Option Addr} {n c : Nat} {xs : List Value} (h : OwnR w e 1 (.slice a n c) n xs) (hn : 0 < n) :
    ∃ g, a = some ⟨g, 0, none⟩ ∧ n ≤ c ∧ ∀ j, j < n → (∀ u, xs[j]? = some u → w.cell? ⟨g, j, none⟩ = some u) ∧ w.frozen? ⟨g, j, none⟩ = false ∧
      ∀ u, OwnR (w.setCell ⟨g, j, none⟩ u) e 1 (.slice a n c) n (xs.set j u) ∧ Kp (· = g) w (w.setCell ⟨g, j, none⟩ u) := by
  have hx := h.1
  rcases h.2 with ⟨_, h0⟩ | ⟨g, cap, cur, fr, e1, hg, hfr, h1, h2, h3, h4⟩
  · omega
  · simp only [Value.slice.injEq, true_and] at e1
    obtain ⟨rfl, rfl⟩ := e1
    refine ⟨g, rfl, h1, fun j hj => ⟨fun u hu => ?_, ?_, fun u => ⟨⟨by simpa using hx, .inr ⟨g, c, cur.setIfInBounds j u, fr, rfl, setCell_at hg u, by simpa using hfr, h1, h2, by simpa using h3, ?_⟩⟩, ?_⟩⟩⟩
    · rw [cell_of hg, ← h4, List.getElem?_take] at *
      split at hu
      · simpa using hu
      · cases hu
    · rcases hfr with rfl | hfr
      · exact free_of hg j
      · obtain ⟨lo, hi⟩ := fr
        simp only [World.frozen?, hg, Bool.and_eq_false_iff, decide_eq_false_iff_not]
        left; simp at hfr; omega
    · rw [Array.toList_setIfInBounds, List.take_set, h4]
    · exact (Kp.refl (· = g) w).setCell (p := ⟨g, j, none⟩) (fun _ => rfl) u
/-! ### slices of slices -/
theorem sizeOf_run {P : Program} {e : TypeId} {size : Nat} (hi : (P.info? e).map (·.size) = some size) (w : World) : (sizeOf e).run P w = .ok size w := by
  cases h : P.info? e with
  | none => rw [h] at hi; cases hi
  | some i => rw [h] at hi; simp at hi; simp [sizeOf, typeInfo, h, hi]
theorem elem_of {P : Program} {t e : TypeId} (ht : P.underlying t = some (.slice e)) : P.underlying t = some (.slice (P.elem t)) := by
  simp [Program.elem, ht]
theorem SlR.from_ {P : Program} {w : World} {size n cap : Nat} {a : Option Addr} {xs : List Value} (h : SlR w size (.slice a n cap) n xs) {t e : TypeId} (ht : P.underlying t = some (.slice e)) (hi : (P.info? e).map (·.size) = some size) {k : Nat} (hk : k ≤ n) :
    ∃ a' c', (∀ w', (Instr.slice t (.slice a n cap) (some (.int .i64 k)) none none).run P w' = .ok (.slice a' (n - k) c') w') ∧ SlR w size (.slice a' (n - k) c') (n - k) (xs.drop (k * size)) ∧
      (∀ b, (Value.slice a' (n - k) c').ownBlock = some b → (Value.slice a n cap).ownBlock = some b) := by
  obtain ⟨h0, a0, c0, e0, h1, h2, h3, h4⟩ := h
  simp only [Value.slice.injEq, true_and] at e0
  obtain ⟨rfl, rfl⟩ := e0
  have he : P.elem t = e := by have := elem_of ht; rw [ht] at this; simp at this; exact this.symm
  refine ⟨if cap = k then a else a.map (·.add (k * size)), cap - k, fun w' => ?_, ⟨?_, _, _, rfl, by omega, by omega, ?_, fun hn => ?_⟩, fun b hb => ?_⟩
  · rw [run_slice_l (P := P) w' t a n cap (elem_of ht) .i64 (k : Int) (by omega) (by omega), he, sizeOf_run hi]
    simp [Result.andThen, sliced]
  · simp [List.length_drop, h0, Nat.sub_mul]
  · intro hn
    split at hn
    · omega
    · have := h3 (by cases a <;> simp_all); omega
  · obtain ⟨g, off, rfl, hg, hc⟩ := h4 (by omega)
    rw [if_neg (by omega)]
    refine ⟨g, off + k * size, ?_, hg, fun i u hu => ?_⟩
    · simp only [Option.map_some, Addr.add]
      split
      · rename_i e; rw [e]; rfl
      · rfl
    · rw [List.getElem?_drop] at hu
      have := hc _ _ hu
      rw [← Nat.add_assoc] at this
      exact this
  · cases a with
    | none => split at hb <;> cases hb
    | some ad =>
      simp only [Value.ownBlock, Option.some.injEq]
      split at hb
      · cases hb; rfl
      · simp only [Option.map_some, Value.ownBlock, Option.some.injEq] at hb
        rw [← hb]; unfold Addr.add; split <;> rfl
theorem SlR.upto {P : Program} {w : World} {size n cap : Nat} {a : Option Addr} {xs : List Value} (h : SlR w size (.slice a n cap) n xs) {t e : TypeId} (ht : P.underlying t = some (.slice e)) (hi : (P.info? e).map (·.size) = some size) {k : Nat} (hk : k ≤ n) :
    (∀ w', (Instr.slice t (.slice a n cap) none (some (.int .i64 k)) none).run P w' = .ok (.slice a k cap) w') ∧ SlR w size (.slice a k cap) k (xs.take (k * size)) := by
  obtain ⟨h0, a0, c0, e0, h1, h2, h3, h4⟩ := h
  simp only [Value.slice.injEq, true_and] at e0
  obtain ⟨rfl, rfl⟩ := e0
  have he : P.elem t = e := by have := elem_of ht; rw [ht] at this; simp at this; exact this.symm
  refine ⟨fun w' => ?_, ⟨?_, _, _, rfl, by omega, h2, h3, fun hn => ?_⟩⟩
  · rw [run_slice_h (P := P) w' t a n cap (elem_of ht) .i64 (k : Int) (by omega) (by omega), he, sizeOf_run hi]
    cases a with
    | none => simp [Result.andThen, sliced]
    | some ad => simp [Result.andThen, sliced, Addr.add]
  · have : k * size ≤ n * size := Nat.mul_le_mul_right _ hk
    rw [List.length_take, h0, Nat.min_eq_left this]
  · obtain ⟨g, off, rfl, hg, hc⟩ := h4 (by omega)
    refine ⟨g, off, rfl, hg, fun i u hu => hc i u ?_⟩
    rw [List.getElem?_take] at hu
    split at hu
    · exact hu
    · cases hu
end Go.Mg
namespace Go.Mg
open Go Go.RowKit Go.ChangeMaps
theorem OwnR.atS {w : World} {e : TypeId} {size : Nat} {a : Option Addr} {n c : Nat} {xs : List Value} (h : OwnR w e size (.slice a n c) n xs) (hn : 0 < n) :
    ∃ g, a = some ⟨g, 0, none⟩ ∧ n ≤ c ∧ ∀ j, j < n * size → (∀ u, xs[j]? = some u → w.cell? ⟨g, j, none⟩ = some u) ∧ w.frozen? ⟨g, j, none⟩ = false ∧
      ∀ u, OwnR (w.setCell ⟨g, j, none⟩ u) e size (.slice a n c) n (xs.set j u) ∧ Kp (· = g) w (w.setCell ⟨g, j, none⟩ u) := by
  have hx := h.1
  rcases h.2 with ⟨_, h0⟩ | ⟨g, cap, cur, fr, e1, hg, hfr, h1, h2, h3, h4⟩
  · omega
  · simp only [Value.slice.injEq, true_and] at e1
    obtain ⟨rfl, rfl⟩ := e1
    have hnc : n * size ≤ c * size := Nat.mul_le_mul_right _ h1
    refine ⟨g, rfl, h1, fun j hj => ⟨fun u hu => ?_, ?_, fun u => ⟨⟨by simpa using hx, .inr ⟨g, c, cur.setIfInBounds j u, fr, rfl, setCell_at hg u, by simpa using hfr, h1, h2, by simpa using h3, ?_⟩⟩, ?_⟩⟩⟩
    · rw [← h4, List.getElem?_take, if_pos hj] at hu
      rw [cell_of hg]
      simpa using hu
    · rcases hfr with rfl | hfr
      · exact free_of hg j
      · obtain ⟨lo, hi⟩ := fr
        simp only [World.frozen?, hg, Bool.and_eq_false_iff, decide_eq_false_iff_not]
        left; simp at hfr; omega
    · rw [Array.toList_setIfInBounds, List.take_set, h4]
    · exact (Kp.refl (· = g) w).setCell (p := ⟨g, j, none⟩) (fun _ => rfl) u
section
variable {P : Program} {ops : Array Oper} {o : Oper} {a : Act} {Q : Exit → Act → World → Prop}
theorem wp_app (w : World) (s x : Operand) (t : TypeId) (ho : o.op = .call { callee := .builtin .append, args := #[s, x], argTypes := #[t, t] })
    (e : TypeId) (i : TypeInfo) (z : Value) (size bytes : Nat) (ht : P.underlying t = some (.slice e)) (hi : P.info? e = some i) (hz : i.zero = some z)
    (hsize : i.size = size) (hby : i.bytes = bytes) (hzs : z.cells.size = size) (hsz : 0 < size) (hbp : 0 < bytes)
    (v : Value) (n : Nat) (xs : List Value) (hs : a.eval s = v) (hown : OwnR w e size v n xs) (xv : Value) (m : Nat) (ys : List Value) (hx : a.eval x = xv) (hsl : SlR w size xv m ys) (h1 : ∀ u ∈ ys, u.oneCell' = true) (hbytes : (n + m) * bytes ≤ 140737488355328)
    {K : Act → World → Prop} (h : ∀ v' w', OwnR w' e size v' (n + m) (xs ++ ys) → Kp (fun k => v.ownBlock = some k) w w' → (v'.ownBlock = v.ownBlock ∨ v'.ownBlock = some w.heap.size) → (m = 0 → v' = v ∧ w' = w) → (0 < m → v'.ownBlock ≠ none) → K (a.put o.dst v') w') : Oper.wp P o a w K Q := by
  obtain ⟨v', w', hr, h2, h3, h4, h5, h6⟩ := run_app (P := P) w t o.type e i z size bytes ht hi hz hsize hby hzs hsz hbp hown hsl h1 hbytes
  unfold Oper.wp execOp
  simp only [ho, resolve, invoke, builtin, Sem.run_bind, Sem.run_pure, Result.andThen_ok, List.map_toArray, List.map_cons, List.map_nil, hs, hx, hr]
  exact h v' w' h2 h3 h4 h5 h6
theorem step_app (w : World) {E : Prop} (hg : o.guard = none) (s x : Operand) (t : TypeId) (ho : o.op = .call { callee := .builtin .append, args := #[s, x], argTypes := #[t, t] })
    (e : TypeId) (i : TypeInfo) (z : Value) (size bytes : Nat) (ht : P.underlying t = some (.slice e)) (hi : P.info? e = some i) (hz : i.zero = some z)
    (hsize : i.size = size) (hby : i.bytes = bytes) (hzs : z.cells.size = size) (hsz : 0 < size) (hbp : 0 < bytes)
    (v : Value) (n : Nat) (xs : List Value) (hs : a.eval s = v) (hown : OwnR w e size v n xs) (xv : Value) (m : Nat) (ys : List Value) (hx : a.eval x = xv) (hsl : SlR w size xv m ys) (h1 : ∀ u ∈ ys, u.oneCell' = true) (hbytes : (n + m) * bytes ≤ 140737488355328)
    {K : Act → World → Prop} (h : ∀ v' w', OwnR w' e size v' (n + m) (xs ++ ys) → Kp (fun k => v.ownBlock = some k) w w' → (v'.ownBlock = v.ownBlock ∨ v'.ownBlock = some w.heap.size) → (m = 0 → v' = v ∧ w' = w) → (0 < m → v'.ownBlock ≠ none) → K (a.put o.dst v') w') :
    if Region.wanted o (yielded ops a.tmps) = true then Oper.wp P o a w K Q else E := by
  rw [if_pos (by simp [Region.wanted, hg])]
  exact wp_app w s x t ho e i z size bytes ht hi hz hsize hby hzs hsz hbp v n xs hs hown xv m ys hx hsl h1 hbytes h
end
theorem own_none (w : World) (e : TypeId) (size : Nat) : OwnR (w.alloc (.cells #[] e)) e size (.slice (some ⟨w.heap.size, 0, none⟩) 0 0) 0 [] :=
  ⟨by simp, .inr ⟨_, 0, #[], (0, 0), rfl, alloc_at w _, .inl rfl, Nat.le_refl _, by unfold maxLen; omega, by simp, by simp⟩⟩
theorem SlR.drew {w : World} {size : Nat} {v : Value} {n : Nat} {xs : List Value} (h : SlR w size v n xs) : SlR w.drew size v n xs := h
end Go.Mg
namespace Go.Mg
open Go Go.RowKit Go.Sort
variable {P : Program} {ops : Array Oper} {C : World → Prop}
structure WQ (P : Program) (ops : Array Oper) (C : World → Prop) (Q : Act → Prop) (l : List Oper) (a : Act) : Prop where
  h : wpQuiet P ops C Q l a
theorem WQ.nil {Q : Act → Prop} {a : Act} (h : Q a) : WQ P ops C Q [] a := ⟨wpQuiet_nil h⟩
theorem WQ.step {Q : Act → Prop} {a : Act} {o : Oper} {rest : List Oper}
    (h : ∀ K : Act → Prop, (∀ a, WQ P ops C Q rest a → K a) → if Region.wanted o (yielded ops a.tmps) then o.quiet P a C K else K (a.put o.dst undef)) : WQ P ops C Q (o :: rest) a :=
  ⟨wpQuiet_step fun K hK => h K (fun a ha => hK a ha.h)⟩
theorem WQ.region {id : Nat} {Q : Exit → Act → World → Prop} {a : Act} {w : World} {l : List Oper} (hm : P.follows .mixedOrders = true) (hB : Region.lexB .any l.toArray = true)
    (h : WQ P l.toArray (fun w' => ∃ p : GrownBy, w' = grow (w.drewN p.n) p.os) (fun a' => ∀ w', (∃ p : GrownBy, w' = grow (w.drewN p.n) p.os) → Q .normal a' w') l a) : (Code.region id l.toArray true).wp P Q a w :=
  wp_region_quiet_grown hm hB h.h
theorem kp_grow (w : World) (n : Nat) (os : Array Obj) : Kp (fun _ => False) w (grow (w.drewN n) os) :=
  ⟨rfl, rfl, rfl, by simp, fun k hk _ => heap_grow_old (w.drewN n) os hk⟩
theorem grown_same {P : Program} {f : FuncId} {args : Array Value} {w : World} {v : Value} (h : Calls P f args w fun e w' => e = .returned v ∧ w' = w) :
    Calls P f args w fun e w' => e = .returned v ∧ ∃ q os', w' = grow (w.drewN q) os' :=
  h.mono fun _ _ ⟨he, hw⟩ => ⟨he, 0, #[], by rw [hw, grow_empty]; rfl⟩
end Go.Mg
