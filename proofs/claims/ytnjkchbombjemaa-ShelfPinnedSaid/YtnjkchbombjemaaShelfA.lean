/- The walks of shelf's small functions: what each call does to memory. -/
import Derived.Test.YtnjkchbombjemaaRows0
import Derived.Test.YtnjkchbombjemaaProg
import Derived.Deep.QuietTactic
import Derived.BigQuiet
namespace Go.Proofs.Ytnjkchbombjemaa.Sh
open Go Go.RowKit Go.ChangeMaps Go.MapKept Go.Mg

/-- v is a slice of the bytes l. -/
def Byt (w : World) (v : Value) (l : List UInt8) : Prop := SlR w 1 v l.length (l.map u8c)

theorem info5 : (Try.prog.info? 5).map (fun i => (i.zero, i.size, i.bytes)) = some (some (.int .u8 0), 1, 1) := by kernel_rfl

theorem cap0 {w : World} {n cap : Nat} {l : List UInt8} (h : SlR w 1 (.slice none n cap) n (l.map u8c)) : cap = 0 ∧ n = 0 ∧ l = [] := by
  obtain ⟨h0, a, c, e, h1, _, h2, _⟩ := h
  simp only [Value.slice.injEq] at e
  obtain ⟨rfl, e2, rfl⟩ := e
  have := h2 rfl
  have hn : n = 0 := by omega
  subst hn
  exact ⟨this, rfl, List.eq_nil_of_length_eq_zero (by simpa using h0)⟩
theorem own_zero (w : World) : OwnR (w.alloc (.cells #[] 5)) 5 1 (.slice (some ⟨w.heap.size, 0, none⟩) 0 0) 0 [] :=
  ⟨rfl, .inr ⟨_, 0, #[], (0, 0), rfl, alloc_at w _, .inl rfl, Nat.le_refl _, by unfold maxLen; omega, rfl, rfl⟩⟩
/-! ### slices.Clone -/
def ClonePost (w : World) (n : Nat) (l : List UInt8) (e : Ending) (w' : World) : Prop :=
  ∃ a' c', e = .returned (.slice a' n c') ∧ OwnR w' 5 1 (.slice a' n c') n (l.map u8c) ∧ Kp (fun _ => False) w w' ∧ (∀ b, (Value.slice a' n c').ownBlock = some b → w.heap.size ≤ b)

set_option maxHeartbeats 400000 in
theorem clone_any (a : Option Addr) (n cap : Nat) (l : List UInt8) (w : World) (h : SlR w 1 (.slice a n cap) n (l.map u8c)) (hb : n ≤ 140737488355328) :
    Calls Try.prog 29 #[.slice a n cap] w (ClonePost w n l) := by
  cases a with
  | none =>
    obtain ⟨rfl, rfl, rfl⟩ := cap0 h
    have hn := @Lib.run_eql_slice_nil Try.prog
    go_enter Try.func29, Try.ntmps29
    go_wp2
    go_ret
    exact ⟨_, _, rfl, OwnR.nil _ _ _, Kp.refl _ _, fun b hb => by cases hb⟩
  | some ad =>
    have hn := @Lib.run_eql_slice_nil Try.prog
    obtain ⟨i0, hi, hz0, hz1, hz2⟩ := info_parts info5
    go_enter Try.func29, Try.ntmps29
    go_wp2_with (at_builtin; refine wpList_app _ rfl _ _ 22 rfl 5 i0 (.int .u8 0) 1 1 Try.underlying22 hi hz0 hz1 hz2 rfl (by decide) (by decide) (.slice (some ⟨w.heap.size, 0, none⟩) 0 0) 0 [] rfl (own_zero w) (.slice (some ad) n cap) n (l.map u8c) rfl (h.below ((Below.refl _ _).alloc (Nat.le_refl _) _)) (u8c_one l) (by simpa using hb) ?_; intro v' w' h1 h2 h3 h4 h5)
    go_ret
    simp only [Nat.zero_add, List.nil_append] at h1
    obtain ⟨a', c', rfl⟩ := h1.form
    refine ⟨a', c', rfl, h1, ((Kp.refl _ _).alloc _).trans2 h2 (fun i hi (e : some w.heap.size = some i) => by cases e; omega), fun b hb => ?_⟩
    · rcases h3 with h3 | h3
      · rw [h3] at hb; cases hb; exact Nat.le_refl _
      · rw [h3] at hb; cases hb; simp

/-! ### what a Shelf is in memory -/
structure Bk where
  data : List UInt8
  cur : Bool
  pins : Nat
structure Shs where
  last : Nat
  books : List (Int × Bk)
  names : List (ByteArray × Int)

def bev (e : Nat × Bk) : Value := .pointer (some ⟨e.1, 0, none⟩)
def BookAt (F : Nat → Prop) (w : World) (b : Nat) (k : Bk) : Prop :=
  F b ∧ k.data.length ≤ 2000 ∧ ∃ dv, w.heap[b]? = some (.cells #[dv, .bool k.cur, .int .i64 k.pins] 64 (0, 0)) ∧ OwnR w 5 1 dv k.data.length (k.data.map u8c) ∧ (∀ g, dv.ownBlock = some g → F g)
/-- s is a Shelf; F: the blocks it lies in. -/
structure ShelfRaw (F : Nat → Prop) (w : World) (s bm nm last : Nat) (bl : List (Int × (Nat × Bk))) (names : List (ByteArray × Int)) : Prop where
  hs : w.heap[s]? = some (.cells #[.map (some bm), .map (some nm), .int .i64 last] 59 (0, 0))
  ne : bm ≠ nm
  books : MapAt w (.int .i64) (Value.int .i64) bev bm bl
  names : MapAt w .string Value.string (Value.int .i64) nm names
  each : ∀ p ∈ bl, BookAt F w p.2.1 p.2.2
  nod : (bl.map (·.2.1)).Nodup
  fs : F s
  fb : F bm
  fn : F nm
  fin : ∀ i, F i → i < w.heap.size
def absB (bl : List (Int × (Nat × Bk))) : List (Int × Bk) := bl.map fun p => (p.1, p.2.2)
def ShelfAt (F : Nat → Prop) (w : World) (s : Nat) (S : Shs) : Prop := ∃ bm nm bl, ShelfRaw F w s bm nm S.last bl S.names ∧ S.books = absB bl

theorem zero61 (w : World) : (zeroValue 61).run Try.prog w = .ok (.pointer none) w := by kernel_rfl
theorem zero3 (w : World) : (zeroValue 3).run Try.prog w = .ok (.int .i64 0) w := by kernel_rfl

theorem BookAt.kp {F G : Nat → Prop} {w w' : World} {b : Nat} {k : Bk} (h : BookAt F w b k) (hk : Kp G w w') (hd : ∀ i, F i → ¬ G i) : BookAt F w' b k := by
  obtain ⟨h1, h2, dv, h3, h4, h5⟩ := h
  exact ⟨h1, h2, dv, hk.at_ h3 (hd b h1), h4.kp hk (fun g hg => hd g (h5 g hg)), h5⟩
theorem ShelfRaw.kp {F G : Nat → Prop} {w w' : World} {s bm nm last : Nat} {bl : List (Int × (Nat × Bk))} {names : List (ByteArray × Int)} (h : ShelfRaw F w s bm nm last bl names) (hk : Kp G w w') (hd : ∀ i, F i → ¬ G i) : ShelfRaw F w' s bm nm last bl names :=
  ⟨hk.at_ h.hs (hd s h.fs), h.ne, h.books.kp hk (hd bm h.fb), h.names.kp hk (hd nm h.fn), fun p hp => (h.each p hp).kp hk hd, h.nod, h.fs, h.fb, h.fn, fun i hi => Nat.lt_of_lt_of_le (h.fin i hi) hk.size⟩

/-- A step that writes one map, or one block of no book's, leaves the books. -/
theorem BookAt.kpMap {F : Nat → Prop} {w w' : World} {b m : Nat} {k : Bk} (h : BookAt F w b k) (hk : Kp (· = m) w w') (hm : ∃ es c, w.heap[m]? = some (.map es c)) : BookAt F w' b k := by
  obtain ⟨h1, h2, dv, h3, h4, h5⟩ := h
  obtain ⟨es, c, hm⟩ := hm
  refine ⟨h1, h2, dv, hk.at_ h3 (fun e => by rw [e, hm] at h3; cases h3), h4.kept (fun g hg hl => hk.block g hl (fun e => ?_)), h5⟩
  rcases h4.2 with ⟨rfl, _⟩ | ⟨g', cap, cur, fr, rfl, hg', _⟩
  · cases hg
  · cases hg
    have e' : g' = m := e
    rw [e', hm] at hg'; cases hg'
theorem get_abs (bl : List (Int × (Nat × Bk))) (id : Int) : AL.get (absB bl) id = (AL.get bl id).map (·.2) := by
  induction bl with
  | nil => rfl
  | cons p l ih =>
    show AL.get ((p.1, p.2.2) :: absB l) id = _
    rw [AL.get_cons, AL.get_cons, ih]
    split <;> rfl

/-! ### (*Shelf).book, at -/
set_option maxHeartbeats 400000 in
theorem book_nil (id : Int) (w : World) : Calls Try.prog 31 #[.pointer none, .int .i64 id] w fun e w' => e = .returned (.pointer none) ∧ w = w' := by
  go_enter Try.func31, Try.ntmps31
  go_wp2
  go_ret
  exact ⟨rfl, rfl⟩
set_option maxHeartbeats 400000 in
theorem book_any {F : Nat → Prop} {s bm nm last : Nat} {bl : List (Int × (Nat × Bk))} {names : List (ByteArray × Int)} (id : Int) (w : World) (h : ShelfRaw F w s bm nm last bl names) :
    Calls Try.prog 31 #[.pointer (some ⟨s, 0, none⟩), .int .i64 id] w fun e w' => e = .returned (((AL.get bl id).map bev).getD (.pointer none)) ∧ w = w' := by
  have hl := h.books.look (P := Try.prog) key_int Try.underlying56 Try.underlying3 (zero61 w) id false
  simp only [Bool.false_eq_true, if_false] at hl
  have c0 : w.cell? ⟨s, 0, none⟩ = some (.map (some bm)) := by rw [cell_of h.hs]; rfl
  go_enter Try.func31, Try.ntmps31
  go_wp2
  go_ret
  exact ⟨rfl, rfl⟩
set_option maxHeartbeats 400000 in
theorem at_nil (nm : ByteArray) (w : World) : Calls Try.prog 30 #[.pointer none, .string nm] w fun e w' => e = .returned (.int .i64 0) ∧ w = w' := by
  go_enter Try.func30, Try.ntmps30
  go_wp2
  go_ret
  exact ⟨rfl, rfl⟩
set_option maxHeartbeats 400000 in
theorem at_any {F : Nat → Prop} {s bm nm last : Nat} {bl : List (Int × (Nat × Bk))} {names : List (ByteArray × Int)} (name : ByteArray) (w : World) (h : ShelfRaw F w s bm nm last bl names) :
    Calls Try.prog 30 #[.pointer (some ⟨s, 0, none⟩), .string name] w fun e w' => e = .returned (.int .i64 ((AL.get names name).getD 0)) ∧ w = w' := by
  have hl := h.names.look (P := Try.prog) key_string Try.underlying57 Try.underlying9 (zero3 w) name false
  have hg : ((AL.get names name).map (Value.int .i64)).getD (.int .i64 0) = .int .i64 ((AL.get names name).getD 0) := by cases AL.get names name <;> rfl
  simp only [Bool.false_eq_true, if_false, hg] at hl
  clear hg
  have c0 : w.cell? ⟨s, 1, none⟩ = some (.map (some nm)) := by rw [cell_of h.hs]; rfl
  go_enter Try.func30, Try.ntmps30
  go_wp2
  go_ret
  exact ⟨rfl, rfl⟩

/-! ### New -/
def NewPost (w : World) (e : Ending) (w' : World) : Prop := ∃ s, e = .returned (.pointer (some ⟨s, 0, none⟩)) ∧ ShelfAt (fun i => w.heap.size ≤ i ∧ i < w.heap.size + 3) w' s ⟨0, [], []⟩ ∧ Kp (fun _ => False) w w'
set_option maxHeartbeats 400000 in
theorem new_any (w : World) : Calls Try.prog 14 #[] w (NewPost w) := by
  have hmm := @run_makeMap Try.prog
  go_enter Try.func14, Try.ntmps14
  go_wp2
  go_ret
  have k1 : Kp (fun _ => False) (w.alloc (.map #[] 0)) (((w.alloc (.map #[] 0)).alloc (.map #[] 0)).alloc (.cells #[.map (some w.heap.size), .map (some (w.heap.size + 1)), .int .i64 0] 59)) := ((Kp.refl _ _).alloc _).alloc _
  have k2 : Kp (fun _ => False) ((w.alloc (.map #[] 0)).alloc (.map #[] 0)) (((w.alloc (.map #[] 0)).alloc (.map #[] 0)).alloc (.cells #[.map (some w.heap.size), .map (some (w.heap.size + 1)), .int .i64 0] 59)) := (Kp.refl _ _).alloc _
  refine ⟨w.heap.size + 2, rfl, ⟨w.heap.size, w.heap.size + 1, [], ⟨?_, by omega, ?_, ?_, (fun p hp => by cases hp), List.nodup_nil, ?_, ?_, ?_, ?_⟩, rfl⟩, ?_⟩
  · have := alloc_at ((w.alloc (.map #[] 0)).alloc (.map #[] 0)) (.cells #[.map (some w.heap.size), .map (some (w.heap.size + 1)), .int .i64 0] 59)
    simpa using this
  · exact (MapAt.made w _ _ _).kp k1 (fun h => h)
  · have := (MapAt.made (κ := ByteArray) (ε := Int) (w.alloc (.map #[] 0)) .string Value.string (Value.int .i64)).kp k2 (fun h => h)
    simpa using this
  · exact ⟨by omega, by omega⟩
  · exact ⟨by omega, by omega⟩
  · exact ⟨by omega, by omega⟩
  · intro i hi; simp; exact hi.2
  · exact (((Kp.refl _ _).alloc _).alloc _).alloc _

/-! ### lets -/
def Shs.lets (S : Shs) (id : Int) : Shs × Int :=
  match AL.get S.books id with
  | none => (S, 0)
  | some k => if k.cur = true ∨ 0 < k.pins then (S, 0) else ({ S with books := AL.del S.books id }, id)
theorem abs_del (bl : List (Int × (Nat × Bk))) (id : Int) : absB (AL.del bl id) = AL.del (absB bl) id := by
  unfold absB AL.del
  rw [List.filter_map]
  rfl
theorem abs_put (bl : List (Int × (Nat × Bk))) (id : Int) (e : Nat × Bk) : absB (AL.put bl id e) = AL.put (absB bl) id e.2 := by
  unfold AL.put
  rw [get_abs]
  cases AL.get bl id with
  | none => simp [absB]
  | some x =>
    simp only [Option.isSome_some, if_true, Option.map_some, absB, List.map_map]
    apply List.map_congr_left
    intro p _
    simp only [Function.comp]
    split <;> rfl

/-- Some step of the Shelf s, from w to w', turns it from S to S'; only blocks of F are written. -/
def ShStep (F : Nat → Prop) (w : World) (s : Nat) (S' : Shs) (w' : World) : Prop :=
  ∃ F', ShelfAt F' w' s S' ∧ Kp F w w' ∧ (∀ i, F' i → F i ∨ w.heap.size ≤ i)

def LetsPost (F : Nat → Prop) (w : World) (s : Nat) (S : Shs) (id : Int) (e : Ending) (w' : World) : Prop := e = .returned (.int .i64 (S.lets id).2) ∧ ShelfAt F w' s (S.lets id).1 ∧ Kp F w w'

theorem pins_b {n : Nat} (h : 0 < n) : decide ((0 : Int) < (n : Int)) = true := by simp; omega

set_option maxHeartbeats 1000000 in
theorem lets_any {F : Nat → Prop} {s : Nat} (S : Shs) (id : Int) (w : World) (h : ShelfAt F w s S) : Calls Try.prog 32 #[.pointer (some ⟨s, 0, none⟩), .int .i64 id] w (LetsPost F w s S id) := by
  obtain ⟨bm, nm, bl, h, hb⟩ := h
  have hl := h.books.look (P := Try.prog) key_int Try.underlying56 Try.underlying3 (zero61 w) id true
  have hga := get_abs bl id
  have c0 : w.cell? ⟨s, 0, none⟩ = some (.map (some bm)) := by rw [cell_of h.hs]; rfl
  simp only [if_true] at hl
  cases hg : AL.get bl id with
  | none =>
    simp only [hg, Option.map_none, Option.getD_none, Option.isSome_none] at hl hga
    have hS : S.lets id = (S, 0) := by unfold Shs.lets; rw [hb, hga]
    clear hg hga
    have HS := Lib.hid hS; clear hS
    have Hb := Lib.hid hb; clear hb
    go_enter Try.func32, Try.ntmps32
    go_wp2
    go_ret
    exact ⟨by rw [HS.out]; rfl, by rw [HS.out]; exact ⟨bm, nm, bl, h, Hb.out⟩, Kp.refl _ _⟩
  | some e =>
    obtain ⟨b, k⟩ := e
    simp only [hg, Option.map_some, Option.getD_some, Option.isSome_some, bev] at hl hga
    obtain ⟨hFb, hk2000, dv, hbk, hown, hdv⟩ := h.each _ (AL.get_mem hg)
    simp only at hFb hk2000 hbk hown hdv
    have c1 : w.cell? ⟨b, 1, none⟩ = some (.bool k.cur) := by rw [cell_of hbk]; rfl
    have c2 : w.cell? ⟨b, 2, none⟩ = some (.int .i64 k.pins) := by rw [cell_of hbk]; rfl
    have hS : S.lets id = if k.cur = true ∨ 0 < k.pins then (S, 0) else ({ S with books := AL.del S.books id }, id) := by unfold Shs.lets; rw [hb, hga]
    have Hg := Lib.hid hg
    clear hg hga hbk
    obtain ⟨data, cur, pins⟩ := k
    simp only at c1 c2 hS
    have Hb := Lib.hid hb; clear hb
    cases cur with
    | true =>
      have HS := Lib.hid (hS.trans (if_pos (.inl rfl))); clear hS
      go_enter Try.func32, Try.ntmps32
      go_wp2
      go_ret
      exact ⟨by rw [HS.out]; rfl, by rw [HS.out]; exact ⟨bm, nm, bl, h, Hb.out⟩, Kp.refl _ _⟩
    | false =>
      by_cases hp : 0 < pins
      · have HS := Lib.hid (hS.trans (if_pos (.inr hp))); clear hS
        have hp1 := pins_b hp
        go_enter Try.func32, Try.ntmps32
        go_wp2
        go_ret
        exact ⟨by rw [HS.out]; rfl, by rw [HS.out]; exact ⟨bm, nm, bl, h, Hb.out⟩, Kp.refl _ _⟩
      · have HS := Lib.hid (hS.trans (if_neg (fun q => by rcases q with q | q; · cases q
                                                          · exact hp q))); clear hS
        obtain rfl : pins = 0 := by omega
        clear hp
        go_enter Try.func32, Try.ntmps32
        go_wp2_with (at_delete; refine wpList_mdel _ rfl _ _ 56 3 rfl key_int bev Try.underlying56 Try.underlying3 bm bl rfl h.books id rfl ?_; intro w' h1 h2 h3)
        go_ret
        refine ⟨by rw [HS.out]; rfl, ?_, h2.mono (fun k _ e => by rw [e]; exact h.fb)⟩
        rw [HS.out]
        refine ⟨bm, nm, AL.del bl id, ⟨h2.at_ h.hs (fun e => ?_), h.ne, h1, h.names.kp h2 (fun e => h.ne e.symm), fun p hp => (h.each p (List.mem_filter.1 hp).1).kpMap h2 h.books.isMap, (List.filter_sublist.map _).nodup h.nod, h.fs, h.fb, h.fn, fun i hi => Nat.lt_of_lt_of_le (h.fin i hi) h2.size⟩, ?_⟩
        · obtain ⟨es, c, hm⟩ := h.books.isMap
          have := h.hs; rw [e, hm] at this; cases this
        · rw [abs_del, ← Hb.out]

/-! ### a book is turned -/
theorem put_blocks {bl : List (Int × (Nat × Bk))} (hn : (bl.map (·.1)).Nodup) {id : Int} {b : Nat} {k k' : Bk} (hg : AL.get bl id = some (b, k)) : (AL.put bl id (b, k')).map (·.2.1) = bl.map (·.2.1) := by
  unfold AL.put
  rw [hg]
  simp only [Option.isSome_some, if_true, List.map_map]
  apply List.map_congr_left
  intro p hp
  simp only [Function.comp]
  split
  · rename_i e
    have := AL.get_of_mem hn (show (p.1, p.2) ∈ bl from hp)
    rw [e, hg] at this
    have e2 : (b, k) = p.2 := Option.some.inj this
    rw [← e2]
  · rfl
theorem mem_put {bl : List (Int × (Nat × Bk))} {id : Int} {e : Nat × Bk} {p : Int × (Nat × Bk)} (hp : p ∈ AL.put bl id e) : p = (id, e) ∨ (p ∈ bl ∧ p.1 ≠ id) := by
  unfold AL.put at hp
  split at hp
  · obtain ⟨q, hq, rfl⟩ := List.mem_map.1 hp
    split
    · exact .inl rfl
    · rename_i hne; exact .inr ⟨hq, hne⟩
  · rename_i hne
    rcases List.mem_append.1 hp with hp | hp
    · refine .inr ⟨hp, fun e' => ?_⟩
      have : AL.get bl id = none := by cases hg : AL.get bl id <;> simp_all
      exact AL.get_none.1 this p hp e'
    · exact .inl (by simpa using hp)
theorem two_blocks {bl : List (Int × (Nat × Bk))} (hn : (bl.map (·.2.1)).Nodup) {p q : Int × (Nat × Bk)} (hp : p ∈ bl) (hq : q ∈ bl) (h : p.2.1 = q.2.1) : p = q := by
  induction bl with
  | nil => cases hp
  | cons x l ih =>
    rw [List.map_cons, List.nodup_cons] at hn
    rcases List.mem_cons.1 hp with hp' | hp' <;> rcases List.mem_cons.1 hq with hq' | hq'
    · rw [hp', hq']
    · subst hp'; exact (hn.1 (List.mem_map.2 ⟨q, hq', h.symm⟩)).elim
    · subst hq'; exact (hn.1 (List.mem_map.2 ⟨p, hp', h⟩)).elim
    · exact ih hn.2 hp' hq'
theorem BookAt.other {F : Nat → Prop} {w w' : World} {b b' : Nat} {k : Bk} {c : Array Value} {T : TypeId} {fr : Nat × Nat} (h : BookAt F w b k) (hk : Kp (· = b') w w') (hne : b ≠ b') (hb' : w.heap[b']? = some (.cells c T fr)) (hT : T ≠ 5) : BookAt F w' b k := by
  obtain ⟨h1, h2, dv, h3, h4, h5⟩ := h
  refine ⟨h1, h2, dv, hk.at_ h3 hne, h4.kept (fun g hg hl => hk.block g hl (fun e => ?_)), h5⟩
  rcases h4.2 with ⟨rfl, _⟩ | ⟨g', cap, cur, fr, rfl, hg', _⟩
  · cases hg
  · cases hg
    have e' : g' = b' := e
    rw [e', hb'] at hg'; cases hg'; exact hT rfl
theorem ShelfRaw.upd {F : Nat → Prop} {w w' : World} {s bm nm last : Nat} {bl : List (Int × (Nat × Bk))} {names : List (ByteArray × Int)} (h : ShelfRaw F w s bm nm last bl names) {id : Int} {b : Nat} {k : Bk} (hg : AL.get bl id = some (b, k))
    {dv : Value} {c0 : Bool} {p0 : Int} (hbk : w.heap[b]? = some (.cells #[dv, .bool c0, .int .i64 p0] 64 (0, 0))) (hk : Kp (· = b) w w') {cur : Bool} {pins : Nat}
    (hb' : w'.heap[b]? = some (.cells #[dv, .bool cur, .int .i64 pins] 64 (0, 0))) : ShelfRaw F w' s bm nm last (AL.put bl id (b, ⟨k.data, cur, pins⟩)) names := by
  have hmem := AL.get_mem hg
  have hnk := h.books.nodup key_int
  have hm : MapAt w (.int .i64) (Value.int .i64) bev bm (AL.put bl id (b, ⟨k.data, cur, pins⟩)) := by
    obtain ⟨es, clk, m1, m2, m3, m4⟩ := h.books
    refine ⟨es, clk, m1, m2, m3, m4.trans ?_⟩
    unfold AL.put
    rw [hg]
    simp only [Option.isSome_some, if_true, List.map_map]
    apply List.map_congr_left
    intro p hp
    simp only [Function.comp]
    split
    · rename_i e
      have := AL.get_of_mem hnk (show (p.1, p.2) ∈ bl from hp)
      rw [e, hg] at this
      have e2 : (b, k) = p.2 := Option.some.inj this
      rw [e, ← e2]; rfl
    · rfl
  refine ⟨hk.at_ h.hs (fun e => ?_), h.ne, hm.kp hk (fun e => ?_), h.names.kp hk (fun e => ?_), fun p hp => ?_, by rw [put_blocks hnk hg]; exact h.nod, h.fs, h.fb, h.fn, fun i hi => Nat.lt_of_lt_of_le (h.fin i hi) hk.size⟩
  · have := h.hs; rw [e, hbk] at this; cases this
  · obtain ⟨es, c, hm'⟩ := h.books.isMap
    rw [e, hbk] at hm'; cases hm'
  · obtain ⟨es, c, hm'⟩ := h.names.isMap
    rw [e, hbk] at hm'; cases hm'
  · rcases mem_put hp with rfl | ⟨hp, hne⟩
    · obtain ⟨h1, h2, dv', h3, h4, h5⟩ := h.each _ hmem
      simp only at h1 h2 h3 h4 h5 ⊢
      rw [hbk] at h3; cases h3
      refine ⟨h1, h2, dv, hb', h4.kept (fun g hg hl => hk.block g hl (fun e => ?_)), h5⟩
      rcases h4.2 with ⟨rfl, _⟩ | ⟨g', cap, cur, fr, rfl, hg', _⟩
      · cases hg
      · cases hg
        have e' : g' = b := e
        rw [e', hbk] at hg'; cases hg'
    · refine (h.each p hp).other hk (fun e => hne ?_) hbk (by decide)
      have := two_blocks h.nod hp hmem e
      rw [this]

/-! ### retires -/
def Shs.retires (S : Shs) (n : ByteArray) : Shs × Int :=
  match AL.get S.names n with
  | none => (S, 0)
  | some id =>
    match AL.get S.books id with
    | none => (S, 0)
    | some k => ({ S with names := AL.del S.names n, books := AL.put S.books id { k with cur := false } } : Shs).lets id
/-- What of a Shelf the code leans on. -/
structure Shs.Ok (S : Shs) : Prop where
  nm : ∀ n id, AL.get S.names n = some id → ∃ k, AL.get S.books id = some k ∧ k.cur = true
  one : ∀ n n' id, AL.get S.names n = some id → AL.get S.names n' = some id → n = n'
  pos : ∀ id k, AL.get S.books id = some k → 1 ≤ id ∧ id ≤ S.last

theorem retires_mid {F : Nat → Prop} {w w1 : World} {s bm nm last : Nat} {bl : List (Int × (Nat × Bk))} {names names' : List (ByteArray × Int)} (h : ShelfRaw F w s bm nm last bl names) {id : Int} {b : Nat} {k : Bk} (hg : AL.get bl id = some (b, k))
    {dv : Value} {c0 : Bool} {p0 : Int} (hbk : w.heap[b]? = some (.cells #[dv, .bool c0, .int .i64 p0] 64 (0, 0))) (h1 : MapAt w1 .string Value.string (Value.int .i64) nm names') (h2 : Kp (· = nm) w w1) :
    ShelfRaw F w1 s bm nm last bl names' ∧ w1.cell? ⟨s, 0, none⟩ = some (.map (some bm)) ∧ (Instr.lookup 56 (.map (some bm)) (.int .i64 id) false).run Try.prog w1 = .ok (.pointer (some ⟨b, 0, none⟩)) w1 ∧
      w1.cell? ⟨b, 1, none⟩ = some (.bool c0) ∧ w1.frozen? ⟨b, 1, none⟩ = false := by
  have hs1 : w1.heap[s]? = _ := h2.at_ h.hs (fun e => by obtain ⟨es, c, hm⟩ := h.names.isMap; have := h.hs; rw [e, hm] at this; cases this)
  have hb1 := h2.at_ hbk (fun e => by obtain ⟨es, c, hm⟩ := h.names.isMap; rw [e, hm] at hbk; cases hbk)
  have hm1 := h.books.kp h2 h.ne
  refine ⟨⟨hs1, h.ne, hm1, h1, fun p hp => (h.each p hp).kpMap h2 h.names.isMap, h.nod, h.fs, h.fb, h.fn, fun i hi => Nat.lt_of_lt_of_le (h.fin i hi) h2.size⟩, by rw [cell_of hs1]; rfl, ?_, by rw [cell_of hb1]; rfl, free_of hb1 1⟩
  have := hm1.look (P := Try.prog) key_int Try.underlying56 Try.underlying3 (zero61 w1) id false
  rw [this, hg]; rfl

def RetiresPost (F : Nat → Prop) (w : World) (s : Nat) (S : Shs) (n : ByteArray) (e : Ending) (w' : World) : Prop := e = .returned (.int .i64 (S.retires n).2) ∧ ShelfAt F w' s (S.retires n).1 ∧ Kp F w w'

set_option maxHeartbeats 1000000 in
theorem retires_any {F : Nat → Prop} {s : Nat} (S : Shs) (hok : S.Ok) (n : ByteArray) (w : World) (h : ShelfAt F w s S) : Calls Try.prog 28 #[.pointer (some ⟨s, 0, none⟩), .string n] w (RetiresPost F w s S n) := by
  have hSA := h
  obtain ⟨bm, nm, bl, h, hb⟩ := h
  have hl := h.names.look (P := Try.prog) key_string Try.underlying57 Try.underlying9 (zero3 w) n true
  have c1 : w.cell? ⟨s, 1, none⟩ = some (.map (some nm)) := by rw [cell_of h.hs]; rfl
  simp only [if_true] at hl
  cases hg : AL.get S.names n with
  | none =>
    simp only [hg, Option.map_none, Option.getD_none, Option.isSome_none] at hl
    have HS := Lib.hid (show S.retires n = (S, 0) by unfold Shs.retires; rw [hg])
    clear hg hb
    go_enter Try.func28, Try.ntmps28
    go_wp2
    go_ret
    exact ⟨by rw [HS.out]; rfl, by rw [HS.out]; exact hSA, Kp.refl _ _⟩
  | some id =>
    simp only [hg, Option.map_some, Option.getD_some, Option.isSome_some] at hl
    obtain ⟨k, hgk, hkc⟩ := hok.nm n id hg
    have hgb : ∃ b, AL.get bl id = some (b, k) := by
      rw [hb, get_abs] at hgk
      cases hq : AL.get bl id with
      | none => rw [hq] at hgk; cases hgk
      | some e => rw [hq] at hgk; cases hgk; exact ⟨e.1, rfl⟩
    obtain ⟨b, hgb⟩ := hgb
    have HS := Lib.hid (show S.retires n = ({ S with names := AL.del S.names n, books := AL.put S.books id { k with cur := false } } : Shs).lets id by unfold Shs.retires; rw [hg]; simp only [hgk])
    have HG := Lib.hid hg
    have HGB := Lib.hid hgb
    have HB := Lib.hid hb
    obtain ⟨hFb, hk2000, dv, hbk, hown, hdv⟩ := h.each _ (AL.get_mem hgb)
    simp only at hFb hk2000 hbk hown hdv
    have HBK := Lib.hid hbk
    clear hg hgb hb hgk hbk
    go_enter Try.func28, Try.ntmps28
    go_wp2_with (at_delete; refine wpList_mdel _ rfl _ _ 57 9 rfl key_string (Value.int .i64) Try.underlying57 Try.underlying9 nm S.names rfl h.names n rfl ?_; intro w1 h1 h2 h3; obtain ⟨hr1, cs0, hlk, cb1, fb1⟩ := retires_mid h HGB.out HBK.out h1 h2; go_frame)
    have hbk1 : w1.heap[b]? = some (.cells #[dv, .bool k.cur, .int .i64 k.pins] 64 (0, 0)) := h2.at_ HBK.out (fun e => by obtain ⟨es, c, hm⟩ := h.names.isMap; have := HBK.out; rw [e, hm] at this; cases this)
    have hk2 : Kp (· = b) w1 (w1.setCell ⟨b, 1, none⟩ (.bool false)) := (Kp.refl (· = b) w1).setCell (p := ⟨b, 1, none⟩) (fun _ => rfl) _
    have hr2 := hr1.upd HGB.out hbk1 hk2 (cur := false) (pins := k.pins) (by rw [setCell_at hbk1]; rfl)
    refine (lets_any ⟨S.last, AL.put S.books id ⟨k.data, false, k.pins⟩, AL.del S.names n⟩ id _ ⟨bm, nm, _, hr2, by rw [abs_put, HB.out]⟩).mono ?_
    rintro e w3 ⟨rfl, h4, h5⟩
    clear hl c1 cs0 hlk cb1 fb1 hbk1 hr2
    go_wp2
    go_ret
    refine ⟨by rw [HS.out]; rfl, by rw [HS.out]; exact h4, ?_⟩
    exact ((h2.mono (fun k _ e => by rw [e]; exact h.fn)).trans (hk2.mono (fun k _ e => by rw [e]; exact hFb))).trans h5
end Go.Proofs.Ytnjkchbombjemaa.Sh
