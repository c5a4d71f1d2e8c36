/- The document's huff: which of two trees comes first. Blocks of numbers, told by a function; slices that read as numbers. fse: the document's Norm. fse: the document's digits, Is, Table. -/
import Derived.Laws.MakeOwn
import Derived.Laws.OwnMore
import Derived.Test.YtmioiaeiflbmhaaGreatX04
import Derived.Test.YtmioiaeiflbmhaaGreatX01
import Derived.Test.YtmioiaeiflbmhaaGreatX05
import Derived.Test.YtmioiaeiflbmhaaGreatX06
namespace Go.Proofs.YtmioiaeiflbmhaaGreat.Hu
open Go Go.RowKit Go.ChangeMaps Go.MapKept Go.Mg Go.Hf Go.Sort
def Tv (w : World) (t : Tr) (v : Value) : Prop := ∃ a c, v = .slice a t.s.length c ∧ SlR w 1 v t.s.length (t.s.map nv) ∧ IsMin t.m t.s ∧ t.s.length ≤ 1000
theorem Tv.kp {w w' : World} {t : Tr} {v : Value} {F : Nat → Prop} (h : Tv w t v) (hk : Kp F w w') (hn : ∀ b, v.ownBlock = some b → ¬ F b) : Tv w' t v := by
  obtain ⟨a, c, rfl, h1, h2⟩ := h
  exact ⟨a, c, rfl, h1.kp hk hn, h2⟩
def tcs (t : Tr) (v : Value) : List Value := [.int .i64 (t.n : Nat), v]
instance (a b : Tr) : Decidable (Lt a b) := by unfold Lt; infer_instance
end Go.Proofs.YtmioiaeiflbmhaaGreat.Hu
namespace Go.Mg
open Go Go.RowKit Go.ChangeMaps Go.MapKept Go.Fse
def IAt (e : TypeId) (w : World) (g N : Nat) (f : Nat → Nat) : Prop := w.heap[g]? = some (.cells ((List.range N).map fun i => Value.int .i64 (f i : Nat)).toArray e (0, 0))
theorem IAt.set {e : TypeId} {w : World} {g N : Nat} {f : Nat → Nat} (h : IAt e w g N f) {i : Nat} (hi : i < N) (x : Nat) : IAt e (w.setCell ⟨g, i, none⟩ (.int .i64 (x : Nat))) g N (up f i x) := by
  have h2 := setCell_at (i := i) h (.int .i64 (x : Nat))
  unfold IAt
  rw [h2]
  congr 2
  apply Array.ext_getElem?
  intro k
  rw [Array.getElem?_setIfInBounds]
  simp only [List.size_toArray, List.length_map, List.length_range, List.getElem?_toArray, List.getElem?_map]
  by_cases hk : i = k
  · subst hk
    rw [if_pos rfl, if_pos hi, List.getElem?_range hi]
    simp [up]
  · rw [if_neg hk]
    by_cases hkn : k < N
    · rw [List.getElem?_range hkn]
      have : ¬ k = i := fun e => hk e.symm
      simp [up, this]
    · rw [List.getElem?_eq_none (by simpa using hkn)]
      rfl
theorem IAt.cell {e : TypeId} {w : World} {g N : Nat} {f : Nat → Nat} (h : IAt e w g N f) {i : Nat} (hi : i < N) : w.cell? ⟨g, i, none⟩ = some (.int .i64 (f i : Nat)) := by
  rw [cell_of h]; simp [hi]
theorem IAt.free {e : TypeId} {w : World} {g N : Nat} {f : Nat → Nat} (h : IAt e w g N f) (i : Nat) : w.frozen? ⟨g, i, none⟩ = false := free_of h i
theorem IAt.kp {e : TypeId} {w w' : World} {g N : Nat} {f : Nat → Nat} {F : Nat → Prop} (h : IAt e w g N f) (hk : Kp F w w') (hF : ¬ F g) : IAt e w' g N f := hk.at_ h hF
theorem IAt.congr {e : TypeId} {w : World} {g N : Nat} {f f' : Nat → Nat} (h : IAt e w g N f) (hf : ∀ i, i < N → f i = f' i) : IAt e w g N f' := by
  unfold IAt at *
  rw [h]
  have : ((List.range N).map fun i => Value.int .i64 (f i : Nat)) = (List.range N).map fun i => Value.int .i64 (f' i : Nat) := by
    apply List.map_congr_left
    intro i hi
    rw [hf i (List.mem_range.1 hi)]
  rw [this]
def IntsR (w : World) (a : Option Addr) (c N : Nat) (f : Nat → Nat) : Prop := SlR w 1 (.slice a N c) N ((List.range N).map fun i => Value.int .i64 (f i : Nat))
theorem IAt.rd {e : TypeId} {w : World} {g N : Nat} {f : Nat → Nat} (h : IAt e w g N f) (hN : N ≤ 100000) : IntsR w (some ⟨g, 0, none⟩) N N f := by
  refine ⟨by simp, _, _, rfl, Nat.le_refl _, by unfold maxLen; omega, (fun h => by cases h), fun _ => ⟨g, 0, rfl, lt_of_at h, fun i u hu => ?_⟩⟩
  rw [Nat.zero_add, cell_of h]
  simpa using hu
theorem IntsR.kp {w w' : World} {a : Option Addr} {c N : Nat} {f : Nat → Nat} (h : IntsR w a c N f) (hk : Kp (fun _ => False) w w') : IntsR w' a c N f := SlR.kp h hk (fun _ _ q => q)
theorem IntsR.at_ {w : World} {a : Option Addr} {c N : Nat} {f : Nat → Nat} (h : IntsR w a c N f) (h0 : 0 < N) :
    ∃ g o, a = some ⟨g, o, none⟩ ∧ g < w.heap.size ∧ N ≤ c ∧ ∀ V, Kp (fun _ => False) w V → ∀ i, i < N → V.cell? ⟨g, o + i, none⟩ = some (.int .i64 (f i : Nat)) := by
  obtain ⟨_, a', c', e, h1, _, _, hc⟩ := h
  simp only [Value.slice.injEq, true_and] at e
  obtain ⟨rfl, rfl⟩ := e
  obtain ⟨g, o, rfl, hg, hcc⟩ := hc h0
  exact ⟨g, o, rfl, hg, h1, fun V hk i hi => (hk.cell (p := ⟨g, o + i, none⟩) hg (fun q => q)).trans (hcc i _ (by simp [hi]))⟩
theorem rdM {e : TypeId} {B : Nat} {w : World} {a : Option Addr} {n c : Nat} {l : List Nat} (h : RowM e (fun x : Nat => Value.int .i64 (x : Nat)) B w (.slice a n c) l) : IntsR w a c n (fun i => l[i]?.getD 0) := by
  obtain ⟨h1, rfl⟩ := h.sl
  unfold IntsR
  have e : ((List.range l.length).map fun i => Value.int .i64 ((l[i]?.getD 0 : Nat) : Int)) = l.map fun x : Nat => Value.int .i64 (x : Nat) := by
    apply List.ext_getElem
    · simp
    · intro i h1 h2
      have hi : i < l.length := by simpa using h2
      simp [hi]
  rw [e]
  exact h1
end Go.Mg
namespace Go.Proofs.YtmioiaeiflbmhaaGreat.Ma
open Go Go.RowKit Go.ChangeMaps Go.MapKept Go.Mg Go.Proofs.YtmioiaeiflbmhaaGreat.Hu
theorem infoI_ : (Tryz.prog.info? 3).map (fun i => (i.zero, i.size, i.bytes)) = some (some (.int .i64 0), 1, 8) := by kernel_rfl
theorem nv1 : ∀ x : Nat, (Value.int .i64 (x : Nat)).oneCell' = true := fun _ => rfl
set_option maxRecDepth 100000 in
theorem made_i (w : World) (n : Nat) (hn : n ≤ 1000) : ∃ W, (Instr.makeSlice 179 (.int .i64 (n : Nat)) (.int .i64 (n : Nat))).run Tryz.prog w = .ok (.slice (some ⟨w.heap.size, 0, none⟩) n n) W ∧ IAt 3 W w.heap.size n (fun _ => 0) ∧ Kp (fun _ => False) w W ∧ w.heap.size < W.heap.size := by
  obtain ⟨i0, hi0, hz0, hz1, hz2⟩ := info_parts infoI_
  have h := run_make (P := Tryz.prog) w 179 3 i0 _ Tryz.underlying179 hi0 hz0 .i64 .i64 (n : Int) (n : Int) (by omega) (by omega) (by rw [hz2]; omega) (by omega)
  rw [hz1] at h
  refine ⟨_, h, ?_, (Kp.refl _ _).alloc _, by simp⟩
  unfold IAt
  rw [alloc_at w _]
  congr 2
  apply Array.toList_inj.1
  show (madeCells #[_] _).toList = _
  rw [toList_madeCells_one]
  apply List.ext_getElem
  · simp
  · intro i h1 h2
    simp
end Go.Proofs.YtmioiaeiflbmhaaGreat.Ma
namespace Go.Proofs.YtmioiaeiflbmhaaGreat.Ma
open Go Go.RowKit Go.ChangeMaps Go.MapKept Go.Mg Go.Fse Go.Proofs.YtmioiaeiflbmhaaGreat.Hu
def NormPost (w : World) (N : Nat) (f : Nat → Nat) (e : Ending) (w' : World) : Prop := ∃ g, e = .returned (.tuple #[.slice (some ⟨g, 0, none⟩) N N, .bool true]) ∧ w.heap.size ≤ g ∧ IAt 3 w' g N f ∧ Kp (fun _ => False) w w'
def Way (c : Nat → Nat) (N : Nat) (h : Nat → Nat) : Prop := fixN N (dist (sm h N)) h = shn c N ∧ (∀ i, i < N → h i ≤ 64) ∧ sm h N ≤ 4096
theorem Way.start {c : Nat → Nat} {N : Nat} (hN : N ≤ 32) : Way c N (n0 c (sm c N)) :=
  ⟨rfl, fun i hi => n0_le c i hi, by have := sm_bound (f := n0 c (sm c N)) (b := 64) N (fun i hi => n0_le c i hi); omega⟩
theorem Way.next {c : Nat → Nat} {N : Nat} {h : Nat → Nat} (hw : Way c N h) (hN : 0 < N) (hN2 : N ≤ 32) (hs : sm h N ≠ 64) : Way c N (stp N h) ∧ dist (sm h N) = dist (sm (stp N h) N) + 1 := by
  obtain ⟨h1, h2, _⟩ := hw
  have hb := stp_le hN h2
  refine ⟨⟨by rw [← fixN_step hN hs]; exact h1, hb, ?_⟩, dist_step hN hs⟩
  have := sm_bound (f := stp N h) (b := 64) N hb; omega
theorem Way.done {c : Nat → Nat} {N : Nat} {h : Nat → Nat} (hw : Way c N h) (hs : sm h N = 64) : h = shn c N := by
  have := hw.1
  rw [fixN_done hs] at this; exact this
def part0 (c : Nat → Nat) (all k : Nat) : Nat → Nat := fun i => if i < k then n0 c all i else 0
theorem part0_up {c : Nat → Nat} {all k : Nat} (h : 0 < c k) : up (part0 c all k) k (max 1 (c k * 64 / all)) = part0 c all (k + 1) := by
  funext i
  unfold up part0
  by_cases e : i = k
  · subst e; simp [n0, h]
  · by_cases q : i < k
    · have : i < k + 1 := by omega
      simp [e, q, this]
    · have : ¬ i < k + 1 := by omega
      simp [e, q, this]
theorem part0_no {c : Nat → Nat} {all k : Nat} (h : ¬ 0 < c k) : part0 c all k = part0 c all (k + 1) := by
  funext i
  unfold part0
  by_cases e : i = k
  · subst e; simp [n0, h]
  · by_cases q : i < k
    · have : i < k + 1 := by omega
      simp [q, this]
    · have : ¬ i < k + 1 := by omega
      simp [q, this]
end Go.Proofs.YtmioiaeiflbmhaaGreat.Ma
namespace Go.Proofs.YtmioiaeiflbmhaaGreat.Ma
open Go Go.RowKit Go.ChangeMaps Go.MapKept Go.Mg Go.Fse Go.Proofs.YtmioiaeiflbmhaaGreat.Hu
theorem shares_le {f : Nat → Nat} {N : Nat} (h : Shares f N) {i : Nat} (hi : i < N) : f i ≤ 64 := by
  have := sm_le f hi
  unfold Shares at h
  omega
def OwnF (B : Nat) (w : World) (a : Option Addr) (c N : Nat) (f : Nat → Nat) : Prop := OwnR w 3 1 (.slice a N c) N ((List.range N).map fun i => Value.int .i64 (f i : Nat)) ∧ ∀ k, (Value.slice a N c).ownBlock = some k → B ≤ k
theorem OwnF.kp {B : Nat} {w w' : World} {a : Option Addr} {c N : Nat} {f : Nat → Nat} {F : Nat → Prop} (h : OwnF B w a c N f) (hk : Kp F w w') (hF : ∀ k, F k → ¬ (Value.slice a N c).ownBlock = some k) : OwnF B w' a c N f :=
  ⟨h.1.kp hk (fun k q r => hF k r q), h.2⟩
theorem up_row (f : Nat → Nat) (N j x : Nat) : ((List.range N).map fun i => Value.int .i64 (f i : Nat)).set j (.int .i64 (x : Nat)) = (List.range N).map fun i => Value.int .i64 (up f j x i : Nat) := by
  apply List.ext_getElem
  · simp
  · intro i h1 h2
    simp only [List.getElem_set, List.getElem_map, List.getElem_range, up]
    by_cases e : j = i
    · subst e; simp
    · have : ¬ i = j := fun q => e q.symm
      simp [e, this]
theorem OwnF.at_ {B : Nat} {w : World} {a : Option Addr} {c N : Nat} {f : Nat → Nat} (h : OwnF B w a c N f) (h0 : 0 < N) :
    ∃ g, a = some ⟨g, 0, none⟩ ∧ N ≤ c ∧ B ≤ g ∧ g < w.heap.size ∧ ∀ j, j < N → w.cell? ⟨g, j, none⟩ = some (.int .i64 (f j : Nat)) ∧ w.frozen? ⟨g, j, none⟩ = false ∧ ∀ x : Nat, OwnF B (w.setCell ⟨g, j, none⟩ (.int .i64 (x : Nat))) a c N (up f j x) := by
  obtain ⟨h1, h2⟩ := h
  obtain ⟨g, rfl, hc, hat⟩ := h1.at1 h0
  refine ⟨g, rfl, hc, h2 g rfl, h1.lt rfl, fun j hj => ?_⟩
  obtain ⟨q1, q2, q3⟩ := hat j hj
  refine ⟨q1 _ (by simp [hj]), q2, fun x => ⟨?_, h2⟩⟩
  have := (q3 (.int .i64 (x : Nat))).1
  rw [up_row f N j x] at this
  exact this
def tcell (S B Z : Nat → Nat) : Nat → Nat := fun i => if i % 3 = 0 then S (i / 3) else if i % 3 = 1 then B (i / 3) else Z (i / 3)
theorem tcell_sym (S B Z : Nat → Nat) (u : Nat) : tcell S B Z (u * 3) = S u := by
  unfold tcell; rw [if_pos (by omega)]; congr 1; omega
theorem tcell_bits (S B Z : Nat → Nat) (u : Nat) : tcell S B Z (u * 3 + 1) = B u := by
  unfold tcell; rw [if_neg (by omega), if_pos (by omega)]; congr 1; omega
theorem tcell_base (S B Z : Nat → Nat) (u : Nat) : tcell S B Z (u * 3 + 2) = Z u := by
  unfold tcell; rw [if_neg (by omega), if_neg (by omega)]; congr 1; omega
theorem up_sym (S B Z : Nat → Nat) (u x : Nat) : up (tcell S B Z) (u * 3) x = tcell (up S u x) B Z := by
  funext i
  simp only [up, tcell]
  by_cases e : i = u * 3
  · subst e; rw [if_pos rfl, if_pos (by omega), if_pos (by omega)]
  · rw [if_neg e]
    split
    · rw [if_neg (by omega)]
    · rfl
theorem up_bits (S B Z : Nat → Nat) (u x : Nat) : up (tcell S B Z) (u * 3 + 1) x = tcell S (up B u x) Z := by
  funext i
  simp only [up, tcell]
  by_cases e : i = u * 3 + 1
  · subst e; rw [if_pos rfl, if_neg (by omega), if_pos (by omega), if_pos (by omega)]
  · rw [if_neg e]
    split
    · rfl
    · split
      · rw [if_neg (by omega)]
      · rfl
theorem up_base (S B Z : Nat → Nat) (u x : Nat) : up (tcell S B Z) (u * 3 + 2) x = tcell S B (up Z u x) := by
  funext i
  simp only [up, tcell]
  by_cases e : i = u * 3 + 2
  · subst e; rw [if_pos rfl, if_neg (by omega), if_neg (by omega), if_pos (by omega)]
  · rw [if_neg e]
    split
    · rfl
    · split
      · rfl
      · rw [if_neg (by omega)]
def till (u : Nat) (B : Nat → Nat) : Nat → Nat := fun i => if i < u then B i else 0
theorem till_up (u : Nat) (B : Nat → Nat) : up (till u B) u (B u) = till (u + 1) B := by
  funext i
  unfold up till
  by_cases e : i = u
  · subst e; simp
  · by_cases q : i < u
    · have : i < u + 1 := by omega
      simp [e, q, this]
    · have : ¬ i < u + 1 := by omega
      simp [e, q, this]
def eb (f : Nat → Nat) (N u : Nat) : Nat := (ent f N u).bits
def ez (f : Nat → Nat) (N u : Nat) : Nat := (ent f N u).base
def TAt (w : World) (g : Nat) (f : Nat → Nat) (N : Nat) : Prop := IAt 243 w g 192 (tcell (sy f N) (eb f N) (ez f N))
theorem TAt.at_ {w : World} {g : Nat} {f : Nat → Nat} {N : Nat} (h : TAt w g f N) {u : Nat} (hu : u < 64) :
    w.cell? ⟨g, u * 3, none⟩ = some (.int .i64 ((ent f N u).sym : Nat)) ∧ w.cell? ⟨g, u * 3 + 1, none⟩ = some (.int .i64 ((ent f N u).bits : Nat)) ∧ w.cell? ⟨g, u * 3 + 2, none⟩ = some (.int .i64 ((ent f N u).base : Nat)) := by
  refine ⟨?_, ?_, ?_⟩
  · rw [IAt.cell h (by omega), tcell_sym]; rfl
  · rw [IAt.cell h (by omega), tcell_bits]; rfl
  · rw [IAt.cell h (by omega), tcell_base]; rfl
theorem infoE_ : (Tryz.prog.info? 243).map (fun i => (i.zero, i.size, i.bytes)) = some (some (.agg #[.int .i64 0, .int .i64 0, .int .i64 0]), 3, 24) := by kernel_rfl
set_option maxRecDepth 100000 in
theorem made_t (w : World) : ∃ W, (Instr.makeSlice 239 (.int .i64 64) (.int .i64 64)).run Tryz.prog w = .ok (.slice (some ⟨w.heap.size, 0, none⟩) 64 64) W ∧ IAt 243 W w.heap.size 192 (fun _ => 0) ∧ Kp (fun _ => False) w W ∧ w.heap.size < W.heap.size := by
  obtain ⟨i0, hi0, hz0, hz1, hz2⟩ := info_parts infoE_
  have h := run_make (P := Tryz.prog) w 239 243 i0 _ Tryz.underlying239 hi0 hz0 .i64 .i64 (64 : Int) (64 : Int) (by omega) (by omega) (by rw [hz2]; omega) (by omega)
  rw [hz1] at h
  refine ⟨_, h, ?_, (Kp.refl _ _).alloc _, by simp⟩
  unfold IAt
  rw [alloc_at w _]
  congr 2
  kernel_rfl
def TabPost (w : World) (f : Nat → Nat) (N : Nat) (e : Ending) (w' : World) : Prop := ∃ g, e = .returned (.tuple #[.slice (some ⟨g, 0, none⟩) 64 64, .bool true]) ∧ w.heap.size ≤ g ∧ TAt w' g f N ∧ Kp (fun _ => False) w w'
end Go.Proofs.YtmioiaeiflbmhaaGreat.Ma
