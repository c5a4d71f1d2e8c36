/- Lemmas that speak of no program: what blocks of memory a step leaves alone, and maps in memory as lists of pairs. -/
import Derived.WalkKit
import Derived.Lib.Hide
import Derived.WalkSpells
import Derived.WalkLawsBesides
import Derived.Maps.OwnSet
import Derived.Maps.RangeWalk
namespace Go.Mg
open Go Go.RowKit Go.ChangeMaps Go.MapKept

/-- All blocks but those in F are as they were; streams too. -/
structure Kp (F : Nat → Prop) (w w' : World) : Prop where
  os : w'.os = w.os
  tape : w'.tape = w.tape
  output : w'.output = w.output
  size : w.heap.size ≤ w'.heap.size
  block : ∀ k, k < w.heap.size → ¬ F k → w'.heap[k]? = w.heap[k]?

theorem Kp.refl (F : Nat → Prop) (w : World) : Kp F w w := ⟨rfl, rfl, rfl, Nat.le_refl _, fun _ _ _ => rfl⟩
theorem Kp.mono {F G : Nat → Prop} {w w' : World} (h : Kp F w w') (hg : ∀ k, k < w.heap.size → F k → G k) : Kp G w w' :=
  ⟨h.os, h.tape, h.output, h.size, fun k hk hn => h.block k hk (fun hf => hn (hg k hk hf))⟩
theorem Kp.trans {F : Nat → Prop} {a b c : World} (h : Kp F a b) (k : Kp F b c) : Kp F a c :=
  ⟨k.os.trans h.os, k.tape.trans h.tape, k.output.trans h.output, Nat.le_trans h.size k.size,
    fun i hi hn => (k.block i (Nat.lt_of_lt_of_le hi h.size) hn).trans (h.block i hi hn)⟩
/-- The second step may also write what the first has made. -/
theorem Kp.trans2 {F G : Nat → Prop} {a b c : World} (h : Kp F a b) (k : Kp G b c) (hg : ∀ i, i < a.heap.size → G i → F i) : Kp F a c :=
  ⟨k.os.trans h.os, k.tape.trans h.tape, k.output.trans h.output, Nat.le_trans h.size k.size,
    fun i hi hn => (k.block i (Nat.lt_of_lt_of_le hi h.size) (fun hG => hn (hg i hi hG))).trans (h.block i hi hn)⟩
/-- What is written lies beyond what was there at first. -/
theorem Kp.up {G : Nat → Prop} {a b c : World} (h : Kp (fun _ => False) a b) (k : Kp G b c) (hg : ∀ i, G i → a.heap.size ≤ i) : Kp (fun _ => False) a c :=
  h.trans2 k (fun i hi e => by have := hg i e; omega)
theorem Kp.drew {F : Nat → Prop} {a w : World} (h : Kp F a w) : Kp F a w.drew := ⟨h.os, h.tape, h.output, h.size, h.block⟩
theorem Kp.drewN {F : Nat → Prop} {a w : World} (h : Kp F a w) (n : Nat) : Kp F a (w.drewN n) := ⟨h.os, h.tape, h.output, h.size, h.block⟩
theorem Kp.alloc {F : Nat → Prop} {a w : World} (h : Kp F a w) (o : Obj) : Kp F a (w.alloc o) :=
  h.trans ⟨rfl, rfl, rfl, by simp, fun k hk _ => Below.heap_alloc _ _ _ hk⟩
theorem Kp.setCell {F : Nat → Prop} {a w : World} (h : Kp F a w) {p : Addr} (hp : p.block < a.heap.size → F p.block) (u : Value) : Kp F a (w.setCell p u) :=
  ⟨h.os, h.tape, h.output, by have := h.size; simpa [World.setCell] using this, fun k hk hn => (Below.heap_setCell _ _ _ _ (fun e => by subst e; exact hn (hp hk))).trans (h.block k hk hn)⟩
theorem Kp.grown {F : Nat → Prop} {a w w' : World} {row : Option Nat} (h : Kp F a w) (hg : w.grownBy w' row) (hr : ∀ k, k < a.heap.size → row = some k → F k) : Kp F a w' :=
  ⟨hg.os.trans h.os, hg.tape.trans h.tape, hg.output.trans h.output, Nat.le_trans h.size hg.size,
    fun k hk hn => (hg.block k (Nat.lt_of_lt_of_le hk h.size) (fun e => hn (hr k hk e.symm))).trans (h.block k hk hn)⟩
theorem Kp.below {w w' : World} (h : Kp (fun _ => False) w w') : Below w.heap.size w w' := ⟨h.os, h.tape, h.output, h.size, fun k hk => h.block k hk id⟩
theorem Kp.belowOf {F : Nat → Prop} {w w' : World} {B : Nat} (h : Kp F w w') (hB : B ≤ w.heap.size) (hF : ∀ k, F k → B ≤ k) : Below B w w' :=
  ⟨h.os, h.tape, h.output, h.size, fun k hk => h.block k (by omega) (fun hf => by have := hF k hf; omega)⟩
theorem Kp.of_below {F : Nat → Prop} {w w' : World} (h : Below w.heap.size w w') : Kp F w w' := ⟨h.os, h.tape, h.output, h.size, fun k hk _ => h.block k hk⟩
theorem Kp.cell {F : Nat → Prop} {w w' : World} (h : Kp F w w') {p : Addr} (hp : p.block < w.heap.size) (hn : ¬ F p.block) : w'.cell? p = w.cell? p := World.cell?_of_block (w := w) (h.block p.block hp hn)
theorem Kp.frozen {F : Nat → Prop} {w w' : World} (h : Kp F w w') {p : Addr} (hp : p.block < w.heap.size) (hn : ¬ F p.block) : w'.frozen? p = w.frozen? p := World.frozen?_of_block (w := w) (h.block p.block hp hn)
theorem Kp.at_ {F : Nat → Prop} {w w' : World} {b : Nat} {o : Obj} (h : Kp F w w') (hb : w.heap[b]? = some o) (hn : ¬ F b) : w'.heap[b]? = some o :=
  (h.block b (Array.getElem?_eq_some_iff.1 hb).1 hn).trans hb

theorem lt_of_at {w : World} {b : Nat} {o : Obj} (h : w.heap[b]? = some o) : b < w.heap.size := (Array.getElem?_eq_some_iff.1 h).1

/-! ### a block of cells -/
theorem cell_of {w : World} {b : Nat} {c : Array Value} {t : TypeId} {f : Nat × Nat} (h : w.heap[b]? = some (.cells c t f)) (i : Nat) : w.cell? ⟨b, i, none⟩ = c[i]? := by simp [World.cell?, h]
theorem free_of {w : World} {b : Nat} {c : Array Value} {t : TypeId} (h : w.heap[b]? = some (.cells c t (0, 0))) (i : Nat) : w.frozen? ⟨b, i, none⟩ = false := by simp [World.frozen?, h]
theorem setCell_at {w : World} {b i : Nat} {c : Array Value} {t : TypeId} {f : Nat × Nat} (h : w.heap[b]? = some (.cells c t f)) (u : Value) :
    (w.setCell ⟨b, i, none⟩ u).heap[b]? = some (.cells (c.setIfInBounds i u) t f) := by
  have hlt := lt_of_at h
  have h' : w.heap[b] = .cells c t f := by simpa [Array.getElem?_eq_getElem hlt] using h
  show (w.heap.modify b _)[b]? = _
  rw [Array.getElem?_eq_getElem (by simpa using hlt), Array.getElem_modify_self, h']
  rfl
theorem alloc_at (w : World) (o : Obj) : (w.alloc o).heap[w.heap.size]? = some o := (MapKept.heap_alloc w o).1

/-! ### association lists -/
namespace AL
variable {κ ε : Type} [DecidableEq κ]
def get (l : List (κ × ε)) (k : κ) : Option ε := (l.find? fun p => decide (p.1 = k)).map (·.2)
def put (l : List (κ × ε)) (k : κ) (v : ε) : List (κ × ε) := if (get l k).isSome then l.map (fun p => if p.1 = k then (k, v) else p) else l ++ [(k, v)]
def del (l : List (κ × ε)) (k : κ) : List (κ × ε) := l.filter fun p => decide (p.1 ≠ k)
theorem get_none {l : List (κ × ε)} {k : κ} : get l k = none ↔ ∀ p ∈ l, p.1 ≠ k := by simp [get]
theorem get_nil (k : κ) : get ([] : List (κ × ε)) k = none := rfl
theorem get_cons (p : κ × ε) (l : List (κ × ε)) (k : κ) : get (p :: l) k = if p.1 = k then some p.2 else get l k := by
  unfold get; rw [List.find?_cons]; by_cases h : p.1 = k <;> simp [h]
theorem get_append (l m : List (κ × ε)) (k : κ) : get (l ++ m) k = (get l k).or (get m k) := by
  induction l with
  | nil => simp [get_nil]
  | cons p l ih => rw [List.cons_append, get_cons, get_cons, ih]; split <;> simp
theorem get_mem {l : List (κ × ε)} {k : κ} {v : ε} (h : get l k = some v) : (k, v) ∈ l := by
  induction l with
  | nil => simp [get_nil] at h
  | cons p l ih =>
    rw [get_cons] at h
    split at h
    · rename_i e; cases h; subst e; simp
    · exact List.mem_cons_of_mem _ (ih h)
theorem get_of_mem {l : List (κ × ε)} (hn : (l.map (·.1)).Nodup) {k : κ} {v : ε} (h : (k, v) ∈ l) : get l k = some v := by
  induction l with
  | nil => cases h
  | cons p l ih =>
    rw [List.map_cons, List.nodup_cons] at hn
    rw [get_cons]
    rcases List.mem_cons.1 h with rfl | h
    · simp
    · rw [if_neg (fun e => hn.1 (List.mem_map.2 ⟨_, h, e.symm⟩))]; exact ih hn.2 h
theorem get_put (l : List (κ × ε)) (k : κ) (v : ε) (k' : κ) : get (put l k v) k' = if k' = k then some v else get l k' := by
  unfold put
  split
  · rename_i h
    have gm : ∀ m : List (κ × ε), get (m.map (fun p => if p.1 = k then (k, v) else p)) k' = if k' = k then (if (get m k).isSome then some v else none) else get m k' := by
      intro m
      induction m with
      | nil => simp [get_nil]
      | cons p m ih =>
        rw [List.map_cons, get_cons, ih, get_cons, get_cons]
        by_cases e : p.1 = k
        · by_cases e' : k' = k
          · simp [e, e']
          · have : ¬ k = k' := fun q => e' q.symm
            simp [e, e', this]
        · by_cases e' : k' = k
          · subst e'; simp [e]
          · simp [e, e']
    rw [gm l, h]; simp
  · rename_i h
    rw [get_append, get_cons, get_nil]
    have hn : get l k = none := by cases hg : get l k <;> simp_all
    by_cases e : k' = k
    · subst e; simp [hn]
    · have : ¬ k = k' := fun q => e q.symm
      simp [e, this]
theorem get_del (l : List (κ × ε)) (k k' : κ) : get (del l k) k' = if k' = k then none else get l k' := by
  unfold del
  induction l with
  | nil => simp [get_nil]
  | cons p l ih =>
    rw [List.filter_cons, get_cons]
    by_cases e : p.1 = k
    · simp only [e, ne_eq, not_true_eq_false, decide_false, Bool.false_eq_true, if_false]
      rw [ih]
      by_cases e' : k' = k
      · simp [e']
      · have : ¬ k = k' := fun q => e' q.symm
        simp [e', this]
    · simp only [e, ne_eq, not_false_eq_true, decide_true, if_true]
      rw [get_cons, ih]
      by_cases e' : k' = k
      · subst e'; simp [e]
      · simp [e']
theorem keys_put_of_some {l : List (κ × ε)} {k : κ} (v : ε) (h : (get l k).isSome) : (put l k v).map (·.1) = l.map (·.1) := by
  unfold put; rw [if_pos h, List.map_map]
  apply List.map_congr_left
  intro p _
  simp only [Function.comp]; split
  · rename_i e; exact e.symm
  · rfl
theorem put_of_none {l : List (κ × ε)} {k : κ} (v : ε) (h : get l k = none) : put l k v = l ++ [(k, v)] := by
  unfold put; rw [h]; rfl
theorem nodup_put {l : List (κ × ε)} (hn : (l.map (·.1)).Nodup) (k : κ) (v : ε) : ((put l k v).map (·.1)).Nodup := by
  cases h : get l k with
  | some x => rw [keys_put_of_some v (by rw [h]; rfl)]; exact hn
  | none =>
    rw [put_of_none v h, List.map_append]
    refine List.nodup_append.2 ⟨hn, by simp, ?_⟩
    intro a ha b hb
    simp only [List.map_cons, List.map_nil, List.mem_singleton] at hb
    subst hb
    obtain ⟨p, hp, rfl⟩ := List.mem_map.1 ha
    exact get_none.1 h p hp
theorem nodup_del {l : List (κ × ε)} (hn : (l.map (·.1)).Nodup) (k : κ) : ((del l k).map (·.1)).Nodup := (List.filter_sublist.map _).nodup hn
end AL

/-! ### a map in memory as a list of pairs -/
/-- How keys of a Lean type stand in memory. -/
structure KeyK (d : TypeDesc) {κ : Type} (kv : κ → Value) : Prop where
  isK : ∀ a, IsKey d (kv a)
  inj : ∀ a b, kv a = kv b → a = b
theorem key_int : KeyK (.int .i64) (Value.int .i64) := ⟨fun _ => rfl, fun _ _ h => by cases h; rfl⟩
theorem key_string : KeyK .string Value.string := ⟨fun _ => trivial, fun _ _ h => by cases h; rfl⟩

/-- Block b is a map whose entries, in the order in which they were laid, are l. -/
def MapAt {κ ε : Type} (w : World) (d : TypeDesc) (kv : κ → Value) (ev : ε → Value) (b : Nat) (l : List (κ × ε)) : Prop :=
  ∃ es clk, w.heap[b]? = some (.map es clk) ∧ Stamped es clk ∧ (∀ x ∈ es.toList, IsKey d x.key) ∧ es.toList.map (fun x => (x.key, x.val)) = l.map fun p => (kv p.1, ev p.2)

section
variable {κ ε : Type} {P : Program} {w : World} {d : TypeDesc} {kv : κ → Value} {ev : ε → Value} {b : Nat} {l : List (κ × ε)}

theorem MapAt.lt (h : MapAt w d kv ev b l) : b < w.heap.size := by obtain ⟨_, _, h, _⟩ := h; exact lt_of_at h
theorem MapAt.kept {w' : World} (h : MapAt w d kv ev b l) (he : w'.heap[b]? = w.heap[b]?) : MapAt w' d kv ev b l := by
  obtain ⟨es, clk, h1, h2⟩ := h; exact ⟨es, clk, he.trans h1, h2⟩
theorem MapAt.kp {F : Nat → Prop} {w' : World} (h : MapAt w d kv ev b l) (hk : Kp F w w') (hn : ¬ F b) : MapAt w' d kv ev b l := h.kept (hk.block b h.lt hn)
theorem MapAt.drew (h : MapAt w d kv ev b l) : MapAt w.drew d kv ev b l := h
theorem MapAt.made (w : World) (d : TypeDesc) (kv : κ → Value) (ev : ε → Value) : MapAt (w.alloc (.map #[] 0)) d kv ev w.heap.size [] :=
  ⟨#[], 0, alloc_at w _, stamped_empty 0, by simp, rfl⟩

theorem MapAt.nodup (h : MapAt w d kv ev b l) (_ : KeyK d kv) : (l.map (·.1)).Nodup := by
  obtain ⟨es, clk, _, hs, _, he⟩ := h
  have h1 := hs.2.2
  have h2 : es.toList.map (·.key) = l.map (fun p => kv p.1) := by
    have := congrArg (List.map (·.1)) he
    simpa [List.map_map, Function.comp_def] using this
  rw [h2] at h1
  have h3 : l.map (fun p => kv p.1) = (l.map (·.1)).map kv := by simp [List.map_map, Function.comp_def]
  rw [h3] at h1
  exact (List.pairwise_map.1 h1).imp (fun {a b} hne e => hne (by rw [e]))

theorem entries_eq {κ ε : Type} {kv : κ → Value} {ev : ε → Value} {l : List (κ × ε)} {es : Array MapEntry} (he : es.toList.map (fun x => (x.key, x.val)) = l.map fun p => (kv p.1, ev p.2)) {j : Nat} {e : MapEntry} (hj : es.toList[j]? = some e) :
    ∃ p, l[j]? = some p ∧ e.key = kv p.1 ∧ e.val = ev p.2 := by
  have h1 : (es.toList.map (fun x => (x.key, x.val)))[j]? = some (e.key, e.val) := by rw [List.getElem?_map, hj]; rfl
  rw [he, List.getElem?_map] at h1
  cases hp : l[j]? with
  | none => rw [hp] at h1; cases h1
  | some p => rw [hp] at h1; simp at h1; exact ⟨p, rfl, h1.1.symm, h1.2.symm⟩

variable [DecidableEq κ]

omit [DecidableEq κ] in
theorem MapAt.isMap (h : MapAt w d kv ev b l) : ∃ es clk, w.heap[b]? = some (.map es clk) := by obtain ⟨es, clk, h, _⟩ := h; exact ⟨es, clk, h⟩

/-- What the search for a key finds. -/
theorem MapAt.find (h : MapAt w d kv ev b l) (K : KeyK d kv) (k : κ) : ∃ es clk, w.heap[b]? = some (.map es clk) ∧ Stamped es clk ∧ (∀ x ∈ es.toList, IsKey d x.key) ∧ es.toList.map (fun x => (x.key, x.val)) = l.map (fun p => (kv p.1, ev p.2)) ∧
    ((Instr.findNow d (kv k) es.toList 0 = some none ∧ AL.get l k = none) ∨
     ∃ j e v, Instr.findNow d (kv k) es.toList 0 = some (some (j, ev v)) ∧ es.toList[j]? = some e ∧ e.key = kv k ∧ e.val = ev v ∧ l[j]? = some (k, v) ∧ AL.get l k = some v) := by
  have hnd := h.nodup K
  obtain ⟨es, clk, hb, hs, hk, he⟩ := h
  refine ⟨es, clk, hb, hs, hk, he, ?_⟩
  rcases findNow_spec (K.isK k) es.toList 0 hk with ⟨h1, h2⟩ | ⟨j, e, h1, h2, h3⟩
  · refine .inl ⟨h1, AL.get_none.2 fun p hp e => ?_⟩
    obtain ⟨j, hj, hjp⟩ := List.mem_iff_getElem.1 hp
    have hjl : j < es.toList.length := by have := congrArg List.length he; simp at this; simp; omega
    obtain ⟨q, hq, hq1, _⟩ := entries_eq he (List.getElem?_eq_getElem hjl)
    have : q = p := by rw [List.getElem?_eq_getElem hj] at hq; simpa [hjp] using hq.symm
    subst this
    exact h2 _ (List.getElem_mem hjl) (by rw [hq1, e])
  · obtain ⟨q, hq, hq1, hq2⟩ := entries_eq he h2
    have e1 : q.1 = k := K.inj _ _ (by rw [← hq1, h3])
    obtain ⟨qk, qv⟩ := q
    simp only at e1 hq2 hq1; subst e1
    refine .inr ⟨j, e, qv, by rw [← hq2]; simpa using h1, h2, h3, hq2, hq, AL.get_of_mem hnd (List.mem_of_getElem? hq)⟩

/-- 'm[k]': the look-up's run. -/
theorem MapAt.look (h : MapAt w d kv ev b l) (K : KeyK d kv) {t kt et : TypeId} (ht : P.underlying t = some (.map kt et)) (hkt : P.underlying kt = some d) {z : Value} (hz : (zeroValue et).run P w = .ok z w) (k : κ) (c : Bool) :
    (Instr.lookup t (.map (some b)) (kv k) c).run P w = .ok (if c then .tuple #[((AL.get l k).map ev).getD z, .bool (AL.get l k).isSome] else ((AL.get l k).map ev).getD z) w := by
  obtain ⟨es, clk, hb, hs, hk, he, h1⟩ := h.find K k
  rcases h1 with ⟨h1, h2⟩ | ⟨j, e, v, h1, _, _, _, _, h2⟩
  · simp [Instr.lookup, run_underlying ht, MapKept.run_getObj_map hb, run_checkKey hkt (K.isK k), run_findKey hkt h1, hz, Result.andThen, h2]
  · simp [Instr.lookup, run_underlying ht, MapKept.run_getObj_map hb, run_checkKey hkt (K.isK k), run_findKey hkt h1, Result.andThen, h2]

theorem set_kp (w : World) (b : Nat) (o : Obj) : Kp (· = b) w (setBlock w b o) :=
  ⟨rfl, rfl, rfl, by simp [setBlock], fun k _ hn => by simp [setBlock, Ne.symm hn]⟩

theorem al_put_some {l : List (κ × ε)} {k : κ} {v0 : ε} (hnd : (l.map (·.1)).Nodup) {j : Nat} (hj : l[j]? = some (k, v0)) (v : ε) : AL.put l k v = l.set j (k, v) := by
  have hg : AL.get l k = some v0 := AL.get_of_mem hnd (List.mem_of_getElem? hj)
  unfold AL.put
  rw [hg]
  simp only [Option.isSome_some, if_true]
  apply List.ext_getElem?
  intro i
  rw [List.getElem?_map, List.getElem?_set]
  obtain ⟨hjl, hje⟩ := List.getElem?_eq_some_iff.1 hj
  by_cases e : j = i
  · subst e
    rw [if_pos rfl, if_pos hjl, hj]
    simp
  · rw [if_neg e]
    cases hi : l[i]? with
    | none => rfl
    | some p =>
      have hne : p.1 ≠ k := by
        intro q
        obtain ⟨hil, hie⟩ := List.getElem?_eq_some_iff.1 hi
        have := List.pairwise_iff_getElem.1 hnd
        rcases Nat.lt_or_gt_of_ne e with hlt | hlt
        · exact this j i (by simpa using hjl) (by simpa using hil) hlt (by simp [hje, hie, q])
        · exact this i j (by simpa using hil) (by simpa using hjl) hlt (by simp [hje, hie, q])
      simp [hne]

theorem map_eraseIdx {α β : Type} (f : α → β) : ∀ (l : List α) (j : Nat), (l.eraseIdx j).map f = (l.map f).eraseIdx j
  | [], _ => rfl
  | _ :: _, 0 => rfl
  | a :: l, j + 1 => by simp [map_eraseIdx f l j]

theorem al_del_some {l : List (κ × ε)} {k : κ} {v0 : ε} (hnd : (l.map (·.1)).Nodup) {j : Nat} (hj : l[j]? = some (k, v0)) : AL.del l k = l.eraseIdx j := by
  unfold AL.del
  induction l generalizing j with
  | nil => simp at hj
  | cons p l ih =>
    rw [List.map_cons, List.nodup_cons] at hnd
    cases j with
    | zero =>
      simp at hj; subst hj
      simp only [List.eraseIdx_zero, List.tail_cons]
      rw [List.filter_cons]
      simp only [ne_eq, not_true_eq_false, decide_false, Bool.false_eq_true, if_false]
      apply List.filter_eq_self.2
      intro q hq
      simp only [decide_eq_true_eq]
      intro e
      exact hnd.1 (List.mem_map.2 ⟨q, hq, e⟩)
    | succ j =>
      simp only [List.getElem?_cons_succ] at hj
      have hne : p.1 ≠ k := fun e => hnd.1 (List.mem_map.2 ⟨_, List.mem_of_getElem? hj, e.symm⟩)
      rw [List.filter_cons, if_pos (by simpa using hne), ih hnd.2 hj]
      rfl

/-- 'm[k] = v'. -/
theorem MapAt.store (h : MapAt w d kv ev b l) (K : KeyK d kv) {t kt et : TypeId} (ht : P.underlying t = some (.map kt et)) (hkt : P.underlying kt = some d) (k : κ) (v : ε) :
    ∃ w', (Instr.mapUpdate t (.map (some b)) (kv k) (ev v)).run P w = .ok () w' ∧ MapAt w' d kv ev b (AL.put l k v) ∧ Kp (· = b) w w' ∧ w'.heap.size = w.heap.size := by
  have hnd := h.nodup K
  obtain ⟨es, clk, hb, hs, hk, he, h1⟩ := h.find K k
  rcases h1 with ⟨h1, h2⟩ | ⟨j, e, v0, h1, h3, h4, h5, h6, h2⟩
  · refine ⟨setBlock w b (.map (es.push { key := kv k, val := ev v, born := clk }) (clk + 1)), ?_, ?_, set_kp _ _ _, by simp [setBlock]⟩
    · simp [Instr.mapUpdate, run_underlying ht, MapKept.run_getObj_map hb, run_checkKey hkt (K.isK k), run_findKey hkt h1, run_setObj_map _ hb, Result.andThen, setBlock]
    · refine ⟨_, _, heap_setBlock_same hb _, stamped_push hs ?_, ?_, ?_⟩
      · intro x hx e
        obtain ⟨j, hj, hjx⟩ := List.mem_iff_getElem.1 hx
        obtain ⟨q, hq, hq1, _⟩ := entries_eq he (List.getElem?_eq_getElem hj)
        exact AL.get_none.1 h2 q (List.mem_of_getElem? hq) (K.inj _ _ (by rw [← hq1, hjx, e]))
      · intro x hx
        simp only [Array.toList_push, List.mem_append, List.mem_singleton] at hx
        rcases hx with hx | rfl
        · exact hk x hx
        · exact K.isK k
      · rw [AL.put_of_none v h2]
        simp [he]
  · have hj : es[j]? = some e := by simpa using h3
    refine ⟨setBlock w b (.map (es.modify j fun e => { e with key := kv k, val := ev v }) clk), ?_, ?_, set_kp _ _ _, by simp [setBlock]⟩
    · simp [Instr.mapUpdate, run_underlying ht, MapKept.run_getObj_map hb, run_checkKey hkt (K.isK k), run_findKey hkt h1, run_setObj_map _ hb, Result.andThen, setBlock, hj, h4, run_keyThatStays (K.isK k)]
    · refine ⟨_, _, heap_setBlock_same hb _, stamped_modify hs _ _ (fun _ _ => rfl) (fun e' _ he' => ?_), isKey_modify hk _ _ (fun e' he' => ?_), ?_⟩
      · rw [hj] at he'; cases he'; exact h4.symm
      · rw [hj] at he'; cases he'; exact h4.symm
      · rw [al_put_some hnd h6]
        apply List.ext_getElem?
        intro i
        have hei := congrArg (fun l => l[i]?) he
        simp only [List.getElem?_map, Array.getElem?_toList] at hei
        simp only [List.getElem?_map, Array.getElem?_toList, Array.getElem?_modify, List.getElem?_set]
        obtain ⟨hjl, _⟩ := List.getElem?_eq_some_iff.1 h6
        by_cases q : j = i
        · subst q
          simp [hj, hjl]
        · simp [q, hei]

/-- 'delete(m, k)'. -/
theorem MapAt.drop (h : MapAt w d kv ev b l) (K : KeyK d kv) {t kt kt' et : TypeId} (ht : P.underlying t = some (.map kt et)) (hkt : P.underlying kt = some d) (k : κ) (ty : TypeId) :
    ∃ w', (Builtin.delete_ #[t, kt'] ty #[.map (some b), kv k]).run P w = .ok (.tuple #[]) w' ∧ MapAt w' d kv ev b (AL.del l k) ∧ Kp (· = b) w w' ∧ w'.heap.size = w.heap.size := by
  have hnd := h.nodup K
  obtain ⟨es, clk, hb, hs, hk, he, h1⟩ := h.find K k
  rcases h1 with ⟨h1, h2⟩ | ⟨j, e, v0, h1, h3, h4, h5, h6, h2⟩
  · refine ⟨setBlock w b (.map es clk), ?_, ?_, set_kp _ _ _, by simp [setBlock]⟩
    · simp [Builtin.delete_, run_underlying ht, MapKept.run_getObj_map hb, run_checkKey hkt (K.isK k), run_findKey hkt h1, run_setObj_map _ hb, Result.andThen, setBlock]
    · refine ⟨_, _, heap_setBlock_same hb _, hs, hk, ?_⟩
      rw [he]
      have : AL.del l k = l := List.filter_eq_self.2 (fun p hp => by simpa using AL.get_none.1 h2 p hp)
      rw [this]
  · refine ⟨setBlock w b (.map (es.eraseIdxIfInBounds j) clk), ?_, ?_, set_kp _ _ _, by simp [setBlock]⟩
    · simp [Builtin.delete_, run_underlying ht, MapKept.run_getObj_map hb, run_checkKey hkt (K.isK k), run_findKey hkt h1, run_setObj_map _ hb, Result.andThen, setBlock]
    · have hjl : j < es.size := by have := (List.getElem?_eq_some_iff.1 h3).1; simpa using this
      have hl : (es.eraseIdxIfInBounds j).toList = es.toList.eraseIdx j := by
        unfold Array.eraseIdxIfInBounds
        rw [dif_pos hjl]; simp
      refine ⟨_, _, heap_setBlock_same hb _, stamped_erase hs j, ?_, ?_⟩
      · intro x hx
        rw [hl] at hx
        exact hk x ((List.eraseIdx_sublist _ _).subset hx)
      · rw [hl, al_del_some hnd h6, map_eraseIdx, map_eraseIdx, he]

omit [DecidableEq κ] in
/-- 'len(m)'. -/
theorem MapAt.len (h : MapAt w d kv ev b l) {t kt et : TypeId} (ht : P.underlying t = some (.map kt et)) (ty : TypeId) : (Builtin.len_ #[t] ty #[.map (some b)]).run P w = .ok (.int .i64 l.length) w := by
  obtain ⟨es, clk, hb, hs, hk, he⟩ := h
  have e1 : es.size = l.length := by have := congrArg List.length he; simpa using this
  simp [Builtin.len_, run_underlying ht, MapKept.run_getObj_map hb, goInt, Result.andThen, e1]
end

/-! ### ranging over a map -/
/-- Block r is an iterator over the map in block b, whose entries are l; 'left' are still to come. -/
def RangeAt {κ ε : Type} (w : World) (d : TypeDesc) (kv : κ → Value) (ev : ε → Value) (b r : Nat) (l left : List (κ × ε)) : Prop :=
  ∃ es clk since seen, w.heap[b]? = some (.map es clk) ∧ Stamped es clk ∧ (∀ x ∈ es.toList, IsKey d x.key) ∧ es.toList.map (fun x => (x.key, x.val)) = l.map (fun p => (kv p.1, ev p.2)) ∧
    w.heap[r]? = some (.mapIter (some b) since seen clk) ∧ (∀ x ∈ es.toList, x.born < since) ∧ since ≤ clk ∧ (leftOf es seen).toList.map (fun x => (x.key, x.val)) = left.map (fun p => (kv p.1, ev p.2))
section
variable {κ ε : Type} {P : Program} {w : World} {d : TypeDesc} {kv : κ → Value} {ev : ε → Value} {b r : Nat} {l left : List (κ × ε)}
theorem RangeAt.mapAt (h : RangeAt w d kv ev b r l left) : MapAt w d kv ev b l := by
  obtain ⟨es, clk, _, _, h1, h2, h3, h4, _⟩ := h; exact ⟨es, clk, h1, h2, h3, h4⟩
theorem RangeAt.kp {F : Nat → Prop} {w' : World} (h : RangeAt w d kv ev b r l left) (hk : Kp F w w') (hb : ¬ F b) (hr : ¬ F r) : RangeAt w' d kv ev b r l left := by
  obtain ⟨es, clk, since, seen, h1, h2, h3, h4, h5, h6⟩ := h
  exact ⟨es, clk, since, seen, hk.at_ h1 hb, h2, h3, h4, hk.at_ h5 hr, h6⟩
theorem RangeAt.lt (h : RangeAt w d kv ev b r l left) : r < w.heap.size := by
  obtain ⟨es, clk, since, seen, h1, h2, h3, h4, h5, h6⟩ := h; exact lt_of_at h5
theorem RangeAt.ne (h : RangeAt w d kv ev b r l left) : b ≠ r := by
  obtain ⟨es, clk, since, seen, h1, h2, h3, h4, h5, h6⟩ := h
  intro e; rw [e, h5] at h1; cases h1
theorem RangeAt.start (h : MapAt w d kv ev b l) : ∃ clk, (∀ t kt et, P.underlying t = some (.map kt et) → (Instr.range t (.map (some b))).run P w = .ok (.pointer (some ⟨w.heap.size, 0, none⟩)) (w.alloc (.mapIter (some b) clk #[] clk))) ∧
    RangeAt (w.alloc (.mapIter (some b) clk #[] clk)) d kv ev b w.heap.size l l := by
  obtain ⟨es, clk, h1, h2, h3, h4⟩ := h
  refine ⟨clk, fun t kt et ht => ?_, es, clk, clk, #[], ?_, h2, h3, h4, alloc_at w _, h2.1, Nat.le_refl _, ?_⟩
  · simp [Instr.range, run_underlying ht, MapKept.run_getObj_map h1, newObj, Result.andThen, Sem.run]
  · exact ((Kp.refl (fun _ => False) w).alloc _).at_ h1 (fun q => q)
  · rw [← h4]
    congr 1
    unfold leftOf
    simp
/-- How many entries are still to come. -/
def rgLeft (w : World) (b r : Nat) : Nat := match w.heap[r]?, w.heap[b]? with
  | some (.mapIter _ _ seen _), some (.map es _) => (leftOf es seen).size
  | _, _ => 0
theorem RangeAt.count (h : RangeAt w d kv ev b r l left) : rgLeft w b r = left.length := by
  obtain ⟨es, clk, since, seen, h1, h2, h3, h4, h5, h6, h7, h8⟩ := h
  have := congrArg List.length h8
  simp only [List.length_map, Array.length_toList] at this
  simp [rgLeft, h5, h1, this]
theorem leftOf_push (es : Array MapEntry) (seen : Array Nat) (x : Nat) : (leftOf es (seen.push x)).toList = (leftOf es seen).toList.filter (fun e => e.born != x) := by
  unfold leftOf
  simp only [Array.toList_filter, List.filter_filter]
  apply List.filter_congr
  intro e _
  simp only [Array.contains_push, Bool.not_or]
  cases seen.contains e.born <;> cases h : (e.born == x) <;> simp [bne, h]
theorem perm_eraseIdx {α : Type} : ∀ (l : List α) (j : Nat) (hj : j < l.length), l.Perm (l[j] :: l.eraseIdx j)
  | [], _, h => by simp at h
  | a :: l, 0, _ => by simp
  | a :: l, j + 1, h => by
    simp only [List.getElem_cons_succ, List.eraseIdx_cons_succ]
    exact ((perm_eraseIdx l j (by simpa using h)).cons a).trans (List.Perm.swap _ _ _)
theorem perm_filter_one {α : Type} {l : List α} {f : α → Nat} (hn : (l.map f).Nodup) {x : α} (hx : x ∈ l) : l.Perm (x :: l.filter (fun y => f y != f x)) := by
  induction l with
  | nil => cases hx
  | cons a l ih =>
    rw [List.map_cons, List.nodup_cons] at hn
    rcases List.mem_cons.1 hx with rfl | hx
    · have : (x :: l).filter (fun y => f y != f x) = l := by
        rw [List.filter_cons]
        simp only [bne_self_eq_false, Bool.false_eq_true, if_false]
        apply List.filter_eq_self.2
        intro y hy
        simp only [bne_iff_ne, ne_eq]
        intro e
        exact hn.1 (List.mem_map.2 ⟨y, hy, e⟩)
      rw [this]
    · have hne : f a ≠ f x := fun e => hn.1 (List.mem_map.2 ⟨x, hx, e.symm⟩)
      rw [List.filter_cons]
      simp only [bne_iff_ne, ne_eq, hne, not_false_eq_true, if_true]
      exact ((ih hn.2 hx).cons a).trans (List.Perm.swap _ _ _)
/-- The step. -/
theorem RangeAt.step (h : RangeAt w d kv ev b r l left) (ty : TypeId) :
    (left = [] ∧ (Instr.next (.pointer (some ⟨r, 0, none⟩)) false ty).run P w = .ok (.tuple #[.bool false]) w) ∨
    ∃ k v left' w', left.Perm ((k, v) :: left') ∧ (Instr.next (.pointer (some ⟨r, 0, none⟩)) false ty).run P w = .ok (.tuple #[.bool true, kv k, ev v]) w' ∧ RangeAt w' d kv ev b r l left' ∧ Kp (· = r) w w' ∧ w'.heap.size = w.heap.size ∧
      (Instr.entry (.pointer (some ⟨r, 0, none⟩))).run P w' = .ok (.tuple #[kv k, ev v]) w' := by
  have hbr := h.ne
  obtain ⟨es, clk, since, seen, h1, h2, h3, h4, h5, h6, h7, h8⟩ := h
  rcases run_next_at (P := P) w ty r b since clk seen es clk h5 h1 h6 h7 with ⟨h0, hrun⟩ | ⟨e, he, w1, hw1, hrun⟩
  · left
    refine ⟨?_, hrun⟩
    have := congrArg List.length h8
    simp only [List.length_map, Array.length_toList, h0] at this
    exact List.eq_nil_of_length_eq_zero this.symm
  · right
    obtain ⟨j, hj, hje⟩ := List.mem_iff_getElem.1 he
    obtain ⟨q, hq, hq1, hq2⟩ := entries_eq h8 (show (leftOf es seen).toList[j]? = some e by rw [List.getElem?_eq_getElem hj, hje])
    have hsub : (leftOf es seen).toList.Sublist es.toList := by unfold leftOf; rw [Array.toList_filter]; exact List.filter_sublist
    have hnd : ((leftOf es seen).toList.map (·.born)).Nodup := (hsub.map _).nodup h2.2.1
    have hw1h : w1.heap = w.heap := by rcases hw1 with rfl | rfl <;> rfl
    have hk1 : Kp (· = r) w (setBlock w1 r (.mapIter (some b) since (seen.push e.born) clk)) := by
      have := set_kp w1 r (.mapIter (some b) since (seen.push e.born) clk)
      rcases hw1 with rfl | rfl
      · exact this
      · exact ⟨this.os, this.tape, this.output, this.size, this.block⟩
    have hb' := hk1.at_ h1 hbr
    have hr' : (setBlock w1 r (.mapIter (some b) since (seen.push e.born) clk)).heap[r]? = some (.mapIter (some b) since (seen.push e.born) clk) := by
      have hlt : r < w1.heap.size := by rw [hw1h]; exact lt_of_at h5
      simp [setBlock, hlt]
    -- the entries that are left, as pairs, with e taken out
    let L' := (leftOf es (seen.push e.born)).toList
    have hperm : (leftOf es seen).toList.Perm (e :: L') := by
      show (leftOf es seen).toList.Perm (e :: (leftOf es (seen.push e.born)).toList)
      rw [leftOf_push]
      exact perm_filter_one hnd he
    have hL' : ∃ left', L'.map (fun x => (x.key, x.val)) = left'.map (fun p => (kv p.1, ev p.2)) ∧ left.Perm (q :: left') := by
      have e1 : L' = (leftOf es seen).toList.eraseIdx j := by
        show (leftOf es (seen.push e.born)).toList = _
        rw [leftOf_push]
        have : ∀ (m : List MapEntry) (i : Nat) (hi : i < m.length), (m.map (·.born)).Nodup → m[i] = e → m.filter (fun x => x.born != e.born) = m.eraseIdx i := by
          intro m
          induction m with
          | nil => intro i hi; simp at hi
          | cons a m ih =>
            intro i hi hn hx
            rw [List.map_cons, List.nodup_cons] at hn
            cases i with
            | zero =>
              simp only [List.getElem_cons_zero] at hx
              subst hx
              rw [List.filter_cons]
              simp only [bne_self_eq_false, Bool.false_eq_true, if_false, List.eraseIdx_zero, List.tail_cons]
              apply List.filter_eq_self.2
              intro y hy
              simp only [bne_iff_ne, ne_eq]
              intro e'
              exact hn.1 (List.mem_map.2 ⟨y, hy, e'⟩)
            | succ i =>
              simp only [List.getElem_cons_succ] at hx
              have hne : a.born ≠ e.born := fun e' => hn.1 (List.mem_map.2 ⟨e, by rw [← hx]; exact List.getElem_mem _, e'.symm⟩)
              rw [List.filter_cons]
              simp only [bne_iff_ne, ne_eq, hne, not_false_eq_true, if_true, List.eraseIdx_cons_succ]
              rw [ih i (by simpa using hi) hn.2 hx]
        exact this _ j hj hnd hje
      refine ⟨left.eraseIdx j, ?_, ?_⟩
      · rw [e1, map_eraseIdx, h8, ← map_eraseIdx]
      · obtain ⟨hjl, hjq⟩ := List.getElem?_eq_some_iff.1 hq
        rw [← hjq]
        exact perm_eraseIdx left j hjl
    obtain ⟨left', hl', hp⟩ := hL'
    refine ⟨q.1, q.2, left', _, hp, ?_, ⟨es, clk, since, seen.push e.born, hb', h2, h3, h4, hr', h6, h7, hl'⟩, hk1, by simp [setBlock, hw1h], ?_⟩
    · rw [hrun, hq1, hq2]
    · rw [run_entry_at (P := P) _ r b since seen es clk e hr' hb' (hsub.subset he) h2.2.1, hq1, hq2]
end

/-! ### at the operation, for the walk -/
section
variable {κ ε : Type} [DecidableEq κ] {P : Program} (w : World) {ops : Array Oper} {rest : List Oper} {o : Oper} {a : Act} {Q : Exit → Act → World → Prop}
omit [DecidableEq κ] in
theorem wpList_mrange (hg : o.guard = none) (m : Operand) (t : TypeId) (hop : o.op = Op.range t m) {d : TypeDesc} {kv : κ → Value} {ev : ε → Value} {kt et : TypeId} (ht : P.underlying t = some (.map kt et)) (b : Nat) (l : List (κ × ε)) (hm : a.eval m = .map (some b)) (hown : MapAt w d kv ev b l)
    (hK : ∀ w', RangeAt w' d kv ev b w.heap.size l l → Kp (fun _ => False) w w' → w'.heap.size = w.heap.size + 1 → wpList P ops Q rest (a.put o.dst (.pointer (some ⟨w.heap.size, 0, none⟩))) w') : wpList P ops Q (o :: rest) a w := by
  refine wpList_plain hg fun K' hK' => ?_
  obtain ⟨clk, hrun, r1⟩ := RangeAt.start (P := P) hown
  unfold Oper.wp
  simp [execOp, hop, hm, hrun t kt et ht, Result.andThen]
  exact hK' _ _ (hK _ r1 ((Kp.refl _ _).alloc _) (by simp))
omit [DecidableEq κ] in
theorem wpList_mnext (hg : o.guard = none) (it : Operand) (hop : o.op = Op.next it false) {d : TypeDesc} {kv : κ → Value} {ev : ε → Value} (b r : Nat) (l left : List (κ × ε)) (hit : a.eval it = .pointer (some ⟨r, 0, none⟩)) (h : RangeAt w d kv ev b r l left)
    (hDone : left = [] → wpList P ops Q rest (a.put o.dst (.tuple #[.bool false])) w)
    (hMore : ∀ k v left' w', left.Perm ((k, v) :: left') → RangeAt w' d kv ev b r l left' → Kp (· = r) w w' → w'.heap.size = w.heap.size → (Instr.entry (.pointer (some ⟨r, 0, none⟩))).run P w' = .ok (.tuple #[kv k, ev v]) w' →
      wpList P ops Q rest (a.put o.dst (.tuple #[.bool true, kv k, ev v])) w') : wpList P ops Q (o :: rest) a w := by
  refine wpList_plain hg fun K' hK' => ?_
  unfold Oper.wp
  rcases h.step (P := P) o.type with ⟨h0, hrun⟩ | ⟨k, v, left', w', hp, hrun, r1, r2, r3, r4⟩
  · simp [execOp, hop, hit, hrun, Result.andThen]
    exact hK' _ _ (hDone h0)
  · simp [execOp, hop, hit, hrun, Result.andThen]
    exact hK' _ _ (hMore k v left' w' hp r1 r2 r3 r4)
theorem wp_mput (m x v : Operand) (t : TypeId) (hop : o.op = Op.mapUpdate t m x v) {d : TypeDesc} {kv : κ → Value} (K : KeyK d kv) (ev : ε → Value) {kt et : TypeId} (ht : P.underlying t = some (.map kt et)) (hkt : P.underlying kt = some d)
    (b : Nat) (l : List (κ × ε)) (hm : a.eval m = .map (some b)) (hown : MapAt w d kv ev b l) (k : κ) (val : ε) (hx : a.eval x = kv k) (hv : a.eval v = ev val) {K' : Act → World → Prop}
    (hK : ∀ w', MapAt w' d kv ev b (AL.put l k val) → Kp (· = b) w w' → w'.heap.size = w.heap.size → K' (a.put o.dst undef) w') : o.wp P a w K' Q := by
  obtain ⟨w', hrun, r1, r2, r3⟩ := hown.store (P := P) K ht hkt k val
  unfold Oper.wp
  simp [execOp, hop, hm, hx, hv, hrun, Result.andThen]
  exact hK w' r1 r2 r3
theorem wpList_mput (hg : o.guard = none) (m x v : Operand) (t : TypeId) (hop : o.op = Op.mapUpdate t m x v) {d : TypeDesc} {kv : κ → Value} (K : KeyK d kv) (ev : ε → Value) {kt et : TypeId} (ht : P.underlying t = some (.map kt et)) (hkt : P.underlying kt = some d)
    (b : Nat) (l : List (κ × ε)) (hm : a.eval m = .map (some b)) (hown : MapAt w d kv ev b l) (k : κ) (val : ε) (hx : a.eval x = kv k) (hv : a.eval v = ev val)
    (hK : ∀ w', MapAt w' d kv ev b (AL.put l k val) → Kp (· = b) w w' → w'.heap.size = w.heap.size → wpList P ops Q rest (a.put o.dst undef) w') :
    wpList P ops Q (o :: rest) a w :=
  wpList_plain hg fun _ hK' => wp_mput w m x v t hop K ev ht hkt b l hm hown k val hx hv fun w' h1 h2 h3 => hK' _ _ (hK w' h1 h2 h3)
/-- .. at a step of a region that draws. -/
theorem step_mput {E : Prop} (hg : o.guard = none) (m x v : Operand) (t : TypeId) (hop : o.op = Op.mapUpdate t m x v) {d : TypeDesc} {kv : κ → Value} (K : KeyK d kv) (ev : ε → Value) {kt et : TypeId} (ht : P.underlying t = some (.map kt et)) (hkt : P.underlying kt = some d)
    (b : Nat) (l : List (κ × ε)) (hm : a.eval m = .map (some b)) (hown : MapAt w d kv ev b l) (k : κ) (val : ε) (hx : a.eval x = kv k) (hv : a.eval v = ev val) {K' : Act → World → Prop}
    (hK : ∀ w', MapAt w' d kv ev b (AL.put l k val) → Kp (· = b) w w' → w'.heap.size = w.heap.size → K' (a.put o.dst undef) w') : if Region.wanted o (yielded ops a.tmps) = true then Oper.wp P o a w K' Q else E := by
  rw [if_pos (by simp [Region.wanted, hg])]
  exact wp_mput w m x v t hop K ev ht hkt b l hm hown k val hx hv hK
theorem wpList_mdel (hg : o.guard = none) (m x : Operand) (t kt' : TypeId) (hop : o.op = Op.call { callee := Callee.builtin Builtin.delete, args := #[m, x], argTypes := #[t, kt'] }) {d : TypeDesc} {kv : κ → Value} (K : KeyK d kv) (ev : ε → Value) {kt et : TypeId} (ht : P.underlying t = some (.map kt et)) (hkt : P.underlying kt = some d)
    (b : Nat) (l : List (κ × ε)) (hm : a.eval m = .map (some b)) (hown : MapAt w d kv ev b l) (k : κ) (hx : a.eval x = kv k)
    (hK : ∀ w', MapAt w' d kv ev b (AL.del l k) → Kp (· = b) w w' → w'.heap.size = w.heap.size → wpList P ops Q rest (a.put o.dst (.tuple #[])) w') :
    wpList P ops Q (o :: rest) a w := by
  refine wpList_plain hg fun K' hK' => ?_
  obtain ⟨w', hrun, r1, r2, r3⟩ := hown.drop (P := P) K ht hkt (kt' := kt') k o.type
  unfold Oper.wp execOp
  simp only [hop, resolve, invoke, builtin, Sem.run_bind, Sem.run_pure, Result.andThen_ok, List.map_toArray, List.map_cons, List.map_nil, hm, hx, hrun]
  exact hK' _ _ (hK w' r1 r2 r3)
end

end Go.Mg
