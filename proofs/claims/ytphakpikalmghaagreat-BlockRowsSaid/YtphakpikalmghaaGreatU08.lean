/- What a law's walk is told of its arguments. What a law's walk is told of a slice whose elements are structs or slices. match: the document's Literals. The library over bytes: Grow, Concat. -/
import Derived.ProofKit
import Derived.OpenShut
import Derived.Deep.Slices
import Derived.ChangeArms
import Derived.Test.YtphakpikalmghaaGreatU01
import Derived.Test.YtphakpikalmghaaGreatU07
import Derived.Test.YtphakpikalmghaaGreatU04
import Derived.Test.YtphakpikalmghaaGreatU05
namespace Go.Proofs.YtphakpikalmghaaGreat.Op
open Go Go.ChangeShapes Go.WideShapes Go.ChangeAt Go.RowKit Go.Mg Go.ChangeMaps Go.Deep

/-- What a law leaves: true; nothing that was there has turned. -/
def LawPost (w : World) (e : Ending) (w' : World) : Prop := e = .returned (.bool true) ∧ Below w.heap.size w w'

section
variable {H : Type} {enc : TypeId × Value → H} {P : Program} {w : World} {base : Nat} {spare : Nat → Bool} {held : Bool} {r : Reach} {b0 : Nat} {t : TypeId} {v : Value} {d : DataW H} {p : List MemPlace}
theorem get_int {k : IntKind} (ht : P.underlying t = some (.int k)) (hv : Value.okWide P w r b0 t v) (h : DataW.Trod enc P w base spare held t v d p) : ∃ x, v = .int k x ∧ (Lit.int k x).wf = true := by
  obtain ⟨x, rfl, _, _, hx⟩ := open_int ht hv h
  exact ⟨x, rfl, hx⟩
theorem get_bool (ht : P.underlying t = some .bool) (hv : Value.okWide P w r b0 t v) (h : DataW.Trod enc P w base spare held t v d p) : ∃ x, v = .bool x := by
  obtain ⟨x, rfl, _, _⟩ := open_bool ht hv h
  exact ⟨x, rfl⟩
theorem get_string (ht : P.underlying t = some .string) (hv : Value.okWide P w r b0 t v) (h : DataW.Trod enc P w base spare held t v d p) : ∃ s, v = .string s ∧ s.size ≤ maxLen := by
  obtain ⟨s, rfl, _, _, hs⟩ := open_string ht hv h
  exact ⟨s, rfl, hs⟩
theorem addr_plain {w : World} {x : Addr} {u : Value} (h : w.cell? (x.add 0) = some u) : x = ⟨x.block, x.off, none⟩ := by
  obtain ⟨b, o, s⟩ := x
  cases s with
  | none => rfl
  | some k =>
    simp only [Addr.add, if_true, World.cell?, Option.isSome_some] at h
    split at h <;> cases h
theorem add_none (b o i : Nat) : (⟨b, o, none⟩ : Addr).add i = ⟨b, o + i, none⟩ := by unfold Addr.add; split <;> simp_all
/-- A slice whose elements have one cell each. -/
theorem sl_of_cells {w : World} {x : Addr} {n cap : Nat} {xs : List Value} (hn : xs.length = n) (hl : n ≤ cap) (hm : cap ≤ maxLen) (hc : ∀ i u, xs[i]? = some u → w.cell? (x.add i) = some u) :
    SlR w 1 (.slice (some x) n cap) n xs := by
  refine ⟨by simpa using hn, some x, cap, rfl, hl, hm, (fun h => by cases h), fun h0 => ?_⟩
  have h1 := hc 0 (xs[0]'(by omega)) (List.getElem?_eq_getElem _)
  have hp := addr_plain h1
  refine ⟨x.block, x.off, by rw [← hp], World.block_lt_of_cell? w _ h1, fun i u hu => ?_⟩
  have hthis := hc i u hu
  have this : w.cell? ((⟨x.block, x.off, none⟩ : Addr).add i) = some u := hp ▸ hthis
  have hadd : (⟨x.block, x.off, none⟩ : Addr).add i = ⟨x.block, x.off + i, none⟩ := add_none _ _ _
  rw [hadd] at this
  exact this
theorem get_ints0 {k : IntKind} {e : TypeId} (ht : P.underlying t = some (.slice e)) (he : P.underlying e = some (.int k)) (hc : P.cellsOf e = 1) (hv : Value.okWide P w r b0 t v) (h : DataW.Trod enc P w base spare held t v d p) :
    ∃ (a : Option Addr) (c : Nat) (l : List Int), v = .slice a l.length c ∧ SlR w 1 (.slice a l.length c) l.length (l.map (Value.int k)) ∧ ∀ x ∈ l, (Lit.int k x).wf = true := by
  obtain ⟨a, n, c, rfl⟩ := okWide_slice ht hv
  obtain ⟨fuel, hf⟩ := h
  rcases open_ints ht he hc hf with ⟨hcs, _⟩ | ⟨x, l, c', zs, hcs, _, hl, hm, hz, _, hcell, hwz⟩
  · simp [Value.cells] at hcs
    obtain ⟨rfl, rfl, rfl⟩ := hcs
    exact ⟨none, 0, [], rfl, SlR.nil _ _, fun x hx => by cases hx⟩
  · simp [Value.cells] at hcs
    obtain ⟨rfl, rfl, rfl⟩ := hcs
    have hzl : n ≤ zs.length := by rw [hz]; split <;> omega
    have e1 : (zs.take n).length = n := by simp; omega
    refine ⟨some x, c, zs.take n, by rw [e1], ?_, fun y hy => hwz y (List.mem_of_mem_take hy)⟩
    rw [e1]
    refine sl_of_cells (by simp; omega) hl hm (fun i u hu => ?_)
    rw [List.getElem?_map, List.getElem?_take] at hu
    split at hu
    · rename_i hi
      rw [hcell i (by omega)]
      rw [List.getElem?_eq_getElem (by omega)] at hu
      simp only [Option.map_some, Option.some.injEq] at hu
      rw [← hu]
      simp [List.getD, List.getElem?_eq_getElem (show i < zs.length by omega)]
    · cases hu
theorem get_ints {e : TypeId} (ht : P.underlying t = some (.slice e)) (he : P.underlying e = some (.int .i64)) (hc : P.cellsOf e = 1) (hv : Value.okWide P w r b0 t v) (h : DataW.Trod enc P w base spare held t v d p) :
    ∃ (a : Option Addr) (c : Nat) (l : List Int), v = .slice a l.length c ∧ SlR w 1 (.slice a l.length c) l.length (l.map (Value.int .i64)) ∧ ∀ x ∈ l, (Lit.int .i64 x).wf = true := get_ints0 ht he hc hv h
theorem u8_of_wf {x : Int} (h : (Lit.int .u8 x).wf = true) : Value.int .u8 x = u8c (UInt8.ofNat x.toNat) := by
  have hb : 0 ≤ x ∧ x ≤ 255 := by simpa [Lit.wf, IntKind.min, IntKind.max, IntKind.signed, IntKind.bits] using h
  unfold u8c
  congr 1
  have : (UInt8.ofNat x.toNat).toNat = x.toNat := by simp [UInt8.toNat_ofNat']; omega
  rw [this]; omega
theorem get_bytes {e : TypeId} (ht : P.underlying t = some (.slice e)) (he : P.underlying e = some (.int .u8)) (hc : P.cellsOf e = 1) (hv : Value.okWide P w r b0 t v) (h : DataW.Trod enc P w base spare held t v d p) :
    ∃ (a : Option Addr) (c : Nat) (l : List UInt8), v = .slice a l.length c ∧ SlR w 1 (.slice a l.length c) l.length (l.map u8c) := by
  obtain ⟨a, c, l, rfl, h1, h2⟩ := get_ints0 ht he hc hv h
  refine ⟨a, c, l.map fun x => UInt8.ofNat x.toNat, by simp, ?_⟩
  have : (l.map fun x => UInt8.ofNat x.toNat).map u8c = l.map (Value.int .u8) := by
    rw [List.map_map]
    exact List.map_congr_left fun x hx => (u8_of_wf (h2 x hx)).symm
  rw [this]
  simpa using h1
theorem get_bools {e : TypeId} (ht : P.underlying t = some (.slice e)) (he : P.underlying e = some .bool) (hc : P.cellsOf e = 1) (hv : Value.okWide P w r b0 t v) (h : DataW.Trod enc P w base spare held t v d p) :
    ∃ (a : Option Addr) (c : Nat) (l : List Bool), v = .slice a l.length c ∧ SlR w 1 (.slice a l.length c) l.length (l.map Value.bool) := by
  obtain ⟨a, n, c, rfl⟩ := okWide_slice ht hv
  obtain ⟨fuel, hf⟩ := h
  rcases open_slice1 ht hc hf with ⟨hcs, _⟩ | ⟨x, l, c', m, n', V, D, Pl, hcs, _, hl, hm, hz, _, hcell⟩
  · simp [Value.cells] at hcs
    obtain ⟨rfl, rfl, rfl⟩ := hcs
    exact ⟨none, 0, [], rfl, SlR.nil _ _⟩
  · simp [Value.cells] at hcs
    obtain ⟨rfl, rfl, rfl⟩ := hcs
    have hzl : n ≤ m := by rw [hz]; split <;> omega
    have hb : ∀ i, i < m → ∃ b, V i = .bool b := fun i hi => by
      obtain ⟨_, h2⟩ := hcell i hi
      cases n' with
      | zero => simp [DataW.trod] at h2
      | succ n' =>
        cases hV : V i <;> simp [DataW.trod, he, hV] at h2
        exact ⟨_, rfl⟩
    let f : Nat → Bool := fun i => match V i with | .bool b => b | _ => false
    have hf : ∀ i, i < m → V i = .bool (f i) := fun i hi => by obtain ⟨b, hb⟩ := hb i hi; simp [f, hb]
    have e1 : ((List.range n).map f).length = n := by simp
    refine ⟨some x, c, (List.range n).map f, by rw [e1], ?_⟩
    rw [e1]
    refine sl_of_cells (by simp) hl hm (fun i u hu => ?_)
    rw [List.map_map, List.getElem?_map] at hu
    by_cases hi : i < n
    · rw [List.getElem?_range hi] at hu
      simp only [Option.map_some, Function.comp, Option.some.injEq] at hu
      rw [← hu, (hcell i (by omega)).1, hf i (by omega)]
    · rw [List.getElem?_eq_none (by simpa using hi)] at hu
      cases hu
end
end Go.Proofs.YtphakpikalmghaaGreat.Op
namespace Go.Proofs.YtphakpikalmghaaGreat.Op
open Go Go.ChangeShapes Go.WideShapes Go.ChangeAt Go.RowKit Go.Mg Go.ChangeMaps Go.Deep

theorem flatMap_len {α β : Type} {k : Nat} {E : α → List β} {l : List α} (h : ∀ y, y ∈ l → (E y).length = k) : (l.flatMap E).length = l.length * k := by
  induction l with
  | nil => simp
  | cons y l ih =>
    rw [List.flatMap_cons, List.length_append, h y List.mem_cons_self, ih (fun z hz => h z (List.mem_cons_of_mem _ hz)), List.length_cons, Nat.succ_mul]
    omega
theorem flatMap_at {α β : Type} {k : Nat} {E : α → List β} {l : List α} (h : ∀ y, y ∈ l → (E y).length = k) {i j : Nat} (hj : j < k) {y : α} (hy : l[i]? = some y) : (l.flatMap E)[i * k + j]? = (E y)[j]? := by
  induction l generalizing i with
  | nil => cases hy
  | cons z l ih =>
    have hz := h z List.mem_cons_self
    cases i with
    | zero =>
      simp only [List.getElem?_cons_zero, Option.some.injEq] at hy
      subst hy
      rw [List.flatMap_cons, Nat.zero_mul, Nat.zero_add, List.getElem?_append_left (by omega)]
    | succ i =>
      rw [List.flatMap_cons, List.getElem?_append_right (by rw [hz, Nat.succ_mul]; omega), hz, show (i + 1) * k + j - k = i * k + j by rw [Nat.succ_mul]; omega]
      exact ih (fun y hy => h y (List.mem_cons_of_mem _ hy)) hy
/-- A slice whose elements have k cells each. -/
theorem sl_of_cellsK {w : World} {x : Addr} {n cap k : Nat} (hk : 0 < k) {xs : List Value} (hn : xs.length = n * k) (hl : n ≤ cap) (hm : cap ≤ maxLen) (hc : ∀ i u, xs[i]? = some u → w.cell? (x.add i) = some u) :
    SlR w k (.slice (some x) n cap) n xs := by
  refine ⟨hn, some x, cap, rfl, hl, hm, (fun h => by cases h), fun h0 => ?_⟩
  have hpos : 0 < xs.length := by rw [hn]; exact Nat.mul_pos h0 hk
  have h1 := hc 0 (xs[0]'hpos) (List.getElem?_eq_getElem _)
  have hp := addr_plain h1
  refine ⟨x.block, x.off, by rw [← hp], World.block_lt_of_cell? w _ h1, fun i u hu => ?_⟩
  have hthis := hc i u hu
  have this : w.cell? ((⟨x.block, x.off, none⟩ : Addr).add i) = some u := hp ▸ hthis
  have hadd : (⟨x.block, x.off, none⟩ : Addr).add i = ⟨x.block, x.off + i, none⟩ := add_none _ _ _
  rw [hadd] at this
  exact this
/-- What an element's cells are. -/
theorem SlR.cellK {w : World} {k : Nat} {α : Type} {E : α → List Value} {a : Option Addr} {c : Nat} {l : List α} (h : SlR w k (.slice a l.length c) l.length (l.flatMap E)) (hE : ∀ y, y ∈ l → (E y).length = k) {i : Nat} (hi : i < l.length) :
    ∃ g off, a = some ⟨g, off, none⟩ ∧ g < w.heap.size ∧ ∀ (j : Nat) (u : Value), (E l[i])[j]? = some u → j < k → w.cell? ⟨g, off + (i * k + j), none⟩ = some u := by
  obtain ⟨_, a0, c0, e0, _, _, _, hc⟩ := h
  simp only [Value.slice.injEq, true_and] at e0
  obtain ⟨rfl, rfl⟩ := e0
  obtain ⟨g, off, rfl, hg, hc⟩ := hc (by omega)
  exact ⟨g, off, rfl, hg, fun j u hu hj => hc _ _ (by rw [flatMap_at hE hj (List.getElem?_eq_getElem hi)]; exact hu)⟩

section
variable {H : Type} {enc : TypeId × Value → H} {P : Program} {w : World} {base : Nat} {spare : Nat → Bool} {held : Bool} {r : Reach} {b0 : Nat} {t : TypeId} {v : Value} {d : DataW H} {p : List MemPlace}
theorem bytes_of {e : TypeId} (ht : P.underlying t = some (.slice e)) (he : P.underlying e = some (.int .u8)) (hc : P.cellsOf e = 1) {fuel : Nat} {cs : List Value} {x : DataW H × List MemPlace}
    (h : DataW.trod enc P w base spare held fuel t cs = some x) : ∃ (a : Option Addr) (c : Nat) (l : List UInt8), cs = [.slice a l.length c] ∧ SlR w 1 (.slice a l.length c) l.length (l.map u8c) := by
  rcases open_ints ht he hc h with ⟨rfl, _⟩ | ⟨y, n, c, zs, rfl, _, hl, hm, hz, _, hcell, hwz⟩
  · exact ⟨none, 0, [], rfl, SlR.nil _ _⟩
  · have hzl : n ≤ zs.length := by rw [hz]; split <;> omega
    have e1 : (zs.take n).length = n := by simp; omega
    refine ⟨some y, c, (zs.take n).map fun x => UInt8.ofNat x.toNat, by simp; omega, ?_⟩
    have e2 : ((zs.take n).map fun x => UInt8.ofNat x.toNat).map u8c = (zs.take n).map (Value.int .u8) := by
      rw [List.map_map]
      exact List.map_congr_left fun x hx => (u8_of_wf (hwz x (List.mem_of_mem_take hx))).symm
    have e3 : ((zs.take n).map fun x => UInt8.ofNat x.toNat).length = n := by simpa using e1
    rw [e2, e3]
    refine sl_of_cells (by simpa using e1) hl hm (fun i u hu => ?_)
    rw [List.getElem?_map, List.getElem?_take] at hu
    split at hu
    · rename_i hi
      rw [hcell i (by omega)]
      rw [List.getElem?_eq_getElem (by omega)] at hu
      simp only [Option.map_some, Option.some.injEq] at hu
      rw [← hu]
      simp [List.getD, List.getElem?_eq_getElem (show i < zs.length by omega)]
    · cases hu
theorem int_of {k : IntKind} (ht : P.underlying t = some (.int k)) {fuel : Nat} {cs : List Value} {x : DataW H × List MemPlace} (h : DataW.trod enc P w base spare held fuel t cs = some x) : ∃ y, cs = [.int k y] ∧ (Lit.int k y).wf = true := by
  obtain ⟨y, h1, _, h2⟩ := DataW.trod_int ht h
  exact ⟨y, h1, h2⟩
/-- Any slice: what its elements' cells are told to be, they are. -/
theorem get_sl {e : TypeId} {k : Nat} (ht : P.underlying t = some (.slice e)) (hk : P.cellsOf e = k) (hk0 : 0 < k) {α : Type} [Inhabited α] (E : α → List Value) (Good : α → Prop) (hlen : ∀ y, (E y).length = k)
    (hE : ∀ (n : Nat) (cs : List Value) (x : DataW H × List MemPlace), cs.length = k → DataW.trod enc P w base spare held n e cs = some x → ∃ y, cs = E y ∧ Good y)
    (hv : Value.okWide P w r b0 t v) (h : DataW.Trod enc P w base spare held t v d p) :
    ∃ (a : Option Addr) (c : Nat) (l : List α), v = .slice a l.length c ∧ SlR w k (.slice a l.length c) l.length (l.flatMap E) ∧ ∀ y ∈ l, Good y := by
  obtain ⟨a, n, c, rfl⟩ := okWide_slice ht hv
  obtain ⟨fuel, hf⟩ := h
  rcases open_slice ht hf with ⟨hcs, _⟩ | ⟨x, l, c', m, n', D, Pl, hcs, _, hl, hm, hz, _, hcell⟩
  · simp [Value.cells] at hcs
    obtain ⟨rfl, rfl, rfl⟩ := hcs
    exact ⟨none, 0, [], rfl, SlR.nil _ _, fun y hy => by cases hy⟩
  · simp [Value.cells] at hcs
    obtain ⟨rfl, rfl, rfl⟩ := hcs
    have hzl : n ≤ m := by rw [hz]; split <;> omega
    obtain ⟨V, hV⟩ := choose_lt (α := α) (n := m) (p := fun i y => w.cells? base (x.add (i * k)) k = some (E y) ∧ Good y) (fun i hi => by
      obtain ⟨cs', h1, h2⟩ := hcell i hi
      rw [hk] at h1
      obtain ⟨_, h3, _⟩ := World.cells?_some h1
      obtain ⟨y, rfl, hg⟩ := hE _ _ _ h3 h2
      exact ⟨y, h1, hg⟩)
    have e1 : ((List.range n).map V).length = n := by simp
    refine ⟨some x, c, (List.range n).map V, by rw [e1], ?_, fun y hy => ?_⟩
    · rw [e1]
      refine sl_of_cellsK hk0 (by rw [flatMap_len (fun y _ => hlen y), e1]) hl hm (fun i u hu => ?_)
      have hi : i < n * k := by
        have := (List.getElem?_eq_some_iff.1 hu).1
        rwa [flatMap_len (fun y _ => hlen y), e1] at this
      have hik : i / k < n := (Nat.div_lt_iff_lt_mul hk0).2 hi
      have hmod : i % k < k := Nat.mod_lt _ hk0
      have hdm : i / k * k + i % k = i := by rw [Nat.mul_comm]; exact Nat.div_add_mod i k
      obtain ⟨h1, _⟩ := hV (i / k) (by omega)
      obtain ⟨_, _, h2⟩ := World.cells?_some h1
      have h3 := h2 (i % k) hmod
      rw [add_add, hdm] at h3
      rw [h3]
      have hg : ((List.range n).map V)[i / k]? = some (V (i / k)) := by rw [List.getElem?_map, List.getElem?_range hik]; rfl
      rw [← hdm, flatMap_at (fun y _ => hlen y) hmod hg] at hu
      exact hu
    · obtain ⟨i, hi, rfl⟩ := List.mem_map.1 hy
      exact (hV i (by have := List.mem_range.1 hi; omega)).2
end
end Go.Proofs.YtphakpikalmghaaGreat.Op
namespace Go.Proofs.YtphakpikalmghaaGreat.Ma
open Go Go.RowKit Go.ChangeMaps Go.MapKept Go.Mg Go.Mt Go.Proofs.YtphakpikalmghaaGreat.Hu Go.Proofs.YtphakpikalmghaaGreat.Op

theorem sq_at {w : World} {a : Option Addr} {c : Nat} {l : List Sq} (h : SlR w 3 (.slice a l.length c) l.length (l.flatMap sqc)) (h0 : 0 < l.length) :
    ∃ g o, a = some ⟨g, o, none⟩ ∧ g < w.heap.size ∧ l.length ≤ c ∧ ∀ i, i < l.length → w.cell? ⟨g, o + i * 3, none⟩ = some (.int .i64 ((sqAt l i).lit : Nat)) ∧ w.cell? ⟨g, o + i * 3 + 1, none⟩ = some (.int .i64 ((sqAt l i).off : Nat)) ∧ w.cell? ⟨g, o + i * 3 + 2, none⟩ = some (.int .i64 ((sqAt l i).len : Nat)) := by
  have hcap : l.length ≤ c := by
    obtain ⟨_, a0, c0, e0, h1, _⟩ := h
    simp only [Value.slice.injEq, true_and] at e0
    omega
  obtain ⟨g, o, e, hg, _⟩ := SlR.cellK h (fun y _ => rfl) h0
  refine ⟨g, o, e, hg, hcap, fun i hi => ?_⟩
  obtain ⟨g', o', e', _, hc⟩ := SlR.cellK h (fun y _ => rfl) hi
  rw [e] at e'
  simp only [Option.some.injEq, Addr.mk.injEq, and_true] at e'
  obtain ⟨rfl, rfl⟩ := e'
  have es : sqAt l i = l[i] := by simp [sqAt, hi]
  rw [es]
  exact ⟨hc 0 _ rfl (by omega), by have := hc 1 _ rfl (by omega); rwa [← Nat.add_assoc] at this, by have := hc 2 _ rfl (by omega); rwa [← Nat.add_assoc] at this⟩
def LitPost (w : World) (d : List UInt8) (l : List Sq) (e : Ending) (w' : World) : Prop := ∃ v, e = .returned (.tuple #[v, .bool true]) ∧ RowB w.heap.size w' v (literals d l) ∧ Kp (fun _ => False) w w'
theorem infoU1 : (Tryz.prog.info? 5).map (·.size) = some 1 := by kernel_rfl
theorem drop_map {α β : Type} (f : α → β) (l : List α) (p n : Nat) : ((l.map f).drop (p * 1)).take (n * 1) = ((l.drop p).take n).map f := by
  rw [Nat.mul_one, Nat.mul_one, List.map_take, List.map_drop]
set_option maxRecDepth 100000 in
set_option maxHeartbeats 4000000 in
theorem literals_d (w : World) (d : List UInt8) (ad : Option Addr) (cd : Nat) (hd : SlR w 1 (.slice ad d.length cd) d.length (d.map u8c)) (l : List Sq) (al : Option Addr) (cl : Nat) (hl : SlR w 3 (.slice al l.length cl) l.length (l.flatMap sqc)) (hd5 : d.length ≤ 500) (hl5 : l.length ≤ 500) (ht : tot l ≤ d.length) :
    Calls Tryz.prog 24 #[.slice ad d.length cd, .slice al l.length cl] w (LitPost w d l) := by
  obtain ⟨i0, hi0, hz0, hz1, hz2⟩ := info_parts infoU8
  have HD : Hid (∀ V, Kp (fun _ => False) w V → ∀ lo hi, lo ≤ hi → hi ≤ d.length → ∃ a' c', (∀ w', (Instr.slice 22 (.slice ad d.length cd) (some (.int .i64 lo)) (some (.int .i64 hi)) none).run Tryz.prog w' = .ok (.slice a' (hi - lo) c') w') ∧ SlR V 1 (.slice a' (hi - lo) c') (hi - lo) (((d.drop lo).take (hi - lo)).map u8c)) := Lib.hid (fun V hk lo hi h1 h2 => by
    obtain ⟨a', c', q1, q2, _⟩ := (hd.kp hk (fun _ _ q => q)).mid Tryz.underlying22 infoU1 h1 h2
    rw [drop_map] at q2
    exact ⟨a', c', q1, q2⟩)
  have HE : Hid (∀ V, Kp (fun _ => False) w V → ∀ lo, lo ≤ d.length → ∃ a' c', (∀ w', (Instr.slice 22 (.slice ad d.length cd) (some (.int .i64 lo)) none none).run Tryz.prog w' = .ok (.slice a' (d.length - lo) c') w') ∧ SlR V 1 (.slice a' (d.length - lo) c') (d.length - lo) ((d.drop lo).map u8c)) := Lib.hid (fun V hk lo h1 => by
    obtain ⟨a', c', q1, q2, _⟩ := (hd.kp hk (fun _ _ q => q)).from_ Tryz.underlying22 infoU1 h1
    rw [Nat.mul_one, ← List.map_drop] at q2
    exact ⟨a', c', q1, q2⟩)
  have HL : Hid (0 < l.length → ∃ g o, al = some ⟨g, o, none⟩ ∧ l.length ≤ cl ∧ ∀ V, Kp (fun _ => False) w V → ∀ i, i < l.length → V.cell? ⟨g, o + i * 3, none⟩ = some (.int .i64 ((sqAt l i).lit : Nat)) ∧ V.cell? ⟨g, o + i * 3 + 2, none⟩ = some (.int .i64 ((sqAt l i).len : Nat))) := Lib.hid (fun h0 => by
    obtain ⟨g, o, e, hg, hc, hs⟩ := sq_at hl h0
    exact ⟨g, o, e, hc, fun V hk i hi => ⟨(hk.cell (p := ⟨g, o + i * 3, none⟩) hg (fun q => q)).trans (hs i hi).1, (hk.cell (p := ⟨g, o + i * 3 + 2, none⟩) hg (fun q => q)).trans (hs i hi).2.2⟩⟩)
  have HLE := Lib.hid (lts_le d l ht)
  have HLL := Lib.hid (lts_len d l)
  have HLD : Hid ((lts d l l.length).2 ≤ d.length) := Lib.hid (by have h2 := lts_tot d l l.length (Nat.le_refl _); rw [List.take_length] at h2; omega)
  obtain ⟨nd, hnd⟩ : ∃ nd, nd = d.length := ⟨_, rfl⟩
  obtain ⟨n, hn⟩ : ∃ n, n = l.length := ⟨_, rfl⟩
  rw [← hnd] at HD HE HLE HLD hd5 ⊢
  rw [← hn] at HL HLE HLD hl5 ⊢
  have HND := Lib.hid hnd
  have HN := Lib.hid hn
  clear hd hl hnd hn ht
  go_enter Tryz.func24, Tryz.ntmps24
  go_wp2_with fail
  go_loopw [6, 7, 8] (fun v at' i wr => ∃ k p : Nat, k ≤ n ∧ p = (lts d l k).2 ∧ p ≤ nd ∧ i = .int .i64 k ∧ at' = .int .i64 p ∧ RowB w.heap.size wr v (lts d l k).1 ∧ Kp (fun _ => False) w wr) (fun _ _ i _ => n - (intOf i).toNat)
  case atStart => exact ⟨0, 0, Nat.zero_le _, rfl, Nat.zero_le _, rfl, rfl, RowM.nil _ _ _, Kp.refl _ _⟩
  case round =>
    obtain ⟨k, p, hk, hp, hpn, rfl, rfl, hrow, hkw⟩ := hrel
    obtain ⟨av, cv, rfl, hown, hbeyond⟩ := hrow
    obtain ⟨o1, ho1⟩ : ∃ o1, o1 = (lts d l k).1 := ⟨_, rfl⟩
    have hol := HLL.out k
    rw [← ho1, ← hp] at hol
    have HROW : Hid (RowB w.heap.size wr (.slice av (lts d l k).1.length cv) (lts d l k).1) := Lib.hid ⟨av, cv, rfl, hown, hbeyond⟩
    rw [← ho1] at HROW ⊢
    obtain ⟨on, hon⟩ : ∃ on, on = o1.length := ⟨_, rfl⟩
    rw [← hon] at HROW hol ⊢
    have HO := Lib.hid ho1
    have HON := Lib.hid hon
    have HP := Lib.hid hp
    have HKW := Lib.hid hkw
    clear hown hbeyond hkw ho1 hon hp
    by_cases hlt : k < n
    · obtain ⟨g, o, rfl, hcl, hcc⟩ := HL.out (by omega)
      obtain ⟨d0, d2⟩ := hcc _ HKW.out k hlt
      have hle := HLE.out k hlt
      obtain ⟨x, hx⟩ : ∃ x, x = (sqAt l k).lit := ⟨_, rfl⟩
      obtain ⟨y, hy⟩ : ∃ y, y = (sqAt l k).len := ⟨_, rfl⟩
      rw [← hx] at d0 hle
      rw [← hy] at d2 hle
      rw [← HP.out] at hle
      have HX := Lib.hid hx
      have HY := Lib.hid hy
      have HCC := Lib.hid hcc
      clear hcc hx hy
      have b1 : decide ((x : Int) < 0) = false := by simp
      have b2 : decide ((y : Int) < 0) = false := by simp
      have s1 : IntKind.i64.wrap ((nd : Int) - (p : Nat)) = (nd : Int) - (p : Nat) := by rw [IntKind.wrap_i64]; omega
      have b3 : decide ((nd : Int) - (p : Nat) < (x : Nat)) = false := by simp; omega
      have s2 : IntKind.i64.wrap ((nd : Int) - (p : Nat) - (x : Nat)) = (nd : Int) - (p : Nat) - (x : Nat) := by rw [IntKind.wrap_i64]; omega
      have b4 : decide ((nd : Int) - (p : Nat) - (x : Nat) < (y : Nat)) = false := by simp; omega
      go_wp2_with fail
      go_quiet (fail)
      clear b1 b2 s1 b3 s2 b4
      obtain ⟨a8, c8, hr8, hs8⟩ := HD.out _ (HKW.out.drewN nq) p (p + x) (by omega) (by omega)
      have e8 : p + x - p = x := by omega
      rw [e8] at hs8
      have hr9 : ∀ w', (Instr.slice 22 (.slice ad nd cd) (some (.int .i64 (p : Nat))) (some (.int .i64 ((p : Int) + (x : Nat)))) none).run Tryz.prog w' = .ok (.slice a8 x c8) w' := fun w' => by
        have := hr8 w'
        rw [e8, Int.natCast_add] at this
        exact this
      have HS8 := Lib.hid hs8
      have KN := Lib.hid (HKW.out.drewN nq)
      have HR2 : Hid (RowB w.heap.size (wr.drewN nq) (.slice av on cv) o1) := Lib.hid (HROW.out.kp0 ((Kp.refl _ _).drewN _))
      have HTL : Hid (((d.drop p).take x).length = x) := Lib.hid (by rw [List.length_take, List.length_drop, ← HND.out]; omega)
      have s1 : IntKind.i64.wrap ((p : Int) + (x : Nat)) = (p : Int) + (x : Nat) := by rw [IntKind.wrap_i64]; omega
      have HNX : Hid ((lts d l (k + 1)).1 = o1 ++ (d.drop p).take x ∧ (lts d l (k + 1)).2 = p + x + y) := Lib.hid (by
        simp only [lts]
        rw [HO.out, HP.out, HX.out, HY.out]
        exact ⟨rfl, rfl⟩)
      clear hr8 e8 hs8 HROW
      go_wp2_with (at_builtin; refine wpList_appM (w0 := w) _ rfl _ _ 22 rfl 5 i0 _ 1 Tryz.underlying22 hi0 hz0 hz1 hz2 rfl (by decide) (by decide) u8c_1 (.slice av on cv) o1 rfl HR2.out (.slice a8 x c8) x _ rfl HS8.out HTL.out KN.out (on + x) (by rw [HON.out]) (by omega) ?_; intro a5 c5 w5 g1 g2 _; have G1 := Lib.hid g1; have G2 := Lib.hid g2; clear g1 g2 HR2 HS8)
      obtain ⟨d3, d4⟩ := HCC.out _ G2.out k hlt
      rw [← HX.out] at d3
      rw [← HY.out] at d4
      have s2 : IntKind.i64.wrap ((p : Int) + (x : Nat) + (y : Nat)) = (p : Int) + (x : Nat) + (y : Nat) := by rw [IntKind.wrap_i64]; omega
      clear HCC
      go_quiet (fail)
      clear s1 s2 d3 d4 d0 d2
      go_wp2_with fail
      refine ⟨⟨k + 1, p + x + y, by omega, HNX.out.2.symm, by omega, by go_num, by go_num, ?_, G2.out.drewN _⟩, by simp [intOf]; try omega⟩
      rw [HNX.out.1]
      exact G1.out.kp0 ((Kp.refl _ _).drewN _)
    · obtain rfl : k = n := by omega
      obtain ⟨a8, c8, hr8, hs8⟩ := HE.out _ HKW.out p hpn
      have HS8 := Lib.hid hs8
      have HTL : Hid ((d.drop p).length = nd - p) := Lib.hid (by rw [List.length_drop, ← HND.out])
      have HLT : Hid (literals d l = o1 ++ d.drop p) := Lib.hid (by
        unfold literals
        rw [← HN.out, ← HO.out, ← HP.out])
      clear hs8
      go_wp2_with (at_builtin; refine wpList_appM (w0 := w) _ rfl _ _ 22 rfl 5 i0 _ 1 Tryz.underlying22 hi0 hz0 hz1 hz2 rfl (by decide) (by decide) u8c_1 (.slice av on cv) o1 rfl HROW.out (.slice a8 (nd - p) c8) (nd - p) _ rfl HS8.out HTL.out HKW.out (on + (nd - p)) (by rw [HON.out]) (by omega) ?_; intro a5 c5 w5 g1 g2 _; have G1 := Lib.hid g1; have G2 := Lib.hid g2; clear g1 g2 HS8)
      go_ret2
      exact ⟨_, rfl, by rw [HLT.out]; exact G1.out, G2.out⟩
end Go.Proofs.YtphakpikalmghaaGreat.Ma
namespace Go.Proofs.YtphakpikalmghaaGreat.Ma
open Go Go.RowKit Go.ChangeMaps Go.MapKept Go.Mg

theorem infoU8c : (Tryz.prog.info? 5).map (fun i => (i.zero, i.size, i.bytes)) = some (some (.int .u8 0), 1, 1) := by kernel_rfl
theorem u8c_1c : ∀ y, (u8c y).oneCell' = true := fun _ => rfl
theorem zero_oneU : ∀ m, ∀ u ∈ (Builtin.zeroCells (Value.int IntKind.u8 0).cells m).toList, u.oneCell' = true := by
  intro m u hu
  have e : (Builtin.zeroCells (Value.int IntKind.u8 0).cells m).toList = List.replicate m (.int .u8 0) := zeroCells_one _ m
  rw [e] at hu
  rw [(List.mem_replicate.1 hu).2]
  rfl
theorem own_anyU (a : Option Addr) (n c m d : Nat) : (Value.slice a n c).ownBlock = (Value.slice a m d).ownBlock := by cases a <;> rfl
theorem upto0U {w : World} {e : TypeId} {n cap : Nat} {a : Option Addr} {xs : List Value} (h : OwnR w e 1 (.slice a n cap) n xs) (h0 : 0 < n) : OwnR w e 1 (.slice a 0 cap) 0 [] := by
  rcases h.2 with ⟨_, h1⟩ | ⟨g, c, cur, fr, e1, hg, hfr, h1, h2, h3, h4⟩
  · omega
  · simp only [Value.slice.injEq, true_and] at e1
    obtain ⟨rfl, rfl⟩ := e1
    exact ⟨rfl, .inr ⟨g, cap, cur, fr, rfl, hg, hfr, Nat.zero_le _, h2, h3, by simp⟩⟩
set_option maxRecDepth 100000 in
set_option maxHeartbeats 1000000 in
theorem grow_u (n : Nat) (hn : n ≤ 100000) (w : World) :
    Calls Tryz.prog 71 #[.slice none 0 0, .int .i64 (n : Nat)] w fun e w' => ∃ a c, e = .returned (.slice a 0 c) ∧ RowM 5 u8c w.heap.size w' (.slice a 0 c) [] ∧ Kp (fun _ => False) w w' := by
  obtain ⟨j0, hj0, hy0, hy1, hy2⟩ := info_parts infoU8c
  have HN := Lib.hid (OwnR.nil w 5 1)
  by_cases h0 : 0 < n
  · have hnp : 0 < n := h0
    go_enter Tryz.func71, Tryz.ntmps71
    go_wp2_with (at_builtin; go_must (refine wpList_appz _ rfl _ _ 22 3 rfl 5 j0 (.int .u8 0) .i64 1 1 Tryz.underlying22 Tryz.underlying3 hj0 hy0 hy1 hy2 rfl (by decide) (by decide) zero_oneU (.slice none 0 0) 0 [] rfl HN.out .i64 n rfl (by omega) ?_; intro v' w2 g1 g2 g3 g4 g5; rw [Nat.zero_add, List.nil_append] at g1; obtain ⟨b1, d1, rfl⟩ := g1.form; have G1 := Lib.hid g1; have G2 := Lib.hid g2; have G3 := Lib.hid g3; have hle : (0:Int) ≤ n := (by omega); clear g1 g2 g3 g4 g5))
    go_ret
    refine ⟨b1, d1, rfl, ⟨b1, d1, rfl, upto0U G1.out h0, fun b hb => ?_⟩, G2.out.mono (fun k _ e => by cases e)⟩
    have hb' : (Value.slice b1 n d1).ownBlock = some b := (own_anyU b1 n d1 0 d1).trans hb
    rcases G3.out with q | q
    · rw [hb'] at q; cases q
    · rw [hb'] at q; simp at q; omega
  · obtain rfl : n = 0 := by omega
    go_enter Tryz.func71, Tryz.ntmps71
    go_wp2_with fail
    go_ret
    exact ⟨none, 0, rfl, RowM.nil _ _ _, Kp.refl _ _⟩
abbrev Piece := Option Addr × Nat × List UInt8
def cat (L : List Piece) (k : Nat) : List UInt8 := (L.take k).flatMap (·.2.2)
theorem cat_succ {L : List Piece} {k : Nat} (h : k < L.length) : cat L (k + 1) = cat L k ++ L[k].2.2 := by
  unfold cat
  rw [List.take_succ_eq_append_getElem h, List.flatMap_append]
  simp
theorem cat_le (L : List Piece) (k : Nat) : (cat L k).length ≤ (cat L L.length).length := by
  have : cat L L.length = cat L k ++ (L.drop k).flatMap (·.2.2) := by
    unfold cat
    rw [List.take_length, ← List.flatMap_append, List.take_append_drop]
  rw [this, List.length_append]; omega
def CatPostU (w : World) (l : List UInt8) (e : Ending) (w' : World) : Prop := ∃ a c, e = .returned (.slice a l.length c) ∧ RowM 5 u8c w.heap.size w' (.slice a l.length c) l ∧ Kp (fun _ => False) w w'
set_option maxRecDepth 100000 in
set_option maxHeartbeats 4000000 in
/-- slices.Concat of so many. -/
theorem concat_u (w : World) (g o cap : Nat) (L : List Piece) (hg : g < w.heap.size) (hcap : L.length ≤ cap) (hc : ∀ i (hi : i < L.length), w.cell? ⟨g, o + i, none⟩ = some (.slice L[i].1 L[i].2.2.length L[i].2.1))
    (hs : ∀ i (hi : i < L.length), SlR w 1 (.slice L[i].1 L[i].2.2.length L[i].2.1) L[i].2.2.length (L[i].2.2.map u8c)) (hl : L.length ≤ 100) (hn : (cat L L.length).length ≤ 100000) :
    Calls Tryz.prog 34 #[.slice (some ⟨g, o, none⟩) L.length cap] w (CatPostU w (cat L L.length)) := by
  obtain ⟨j0, hj0, hy0, hy1, hy2⟩ := info_parts infoU8c
  have HC := Lib.hid hc
  have HS := Lib.hid hs
  have HLE := Lib.hid (cat_le L)
  have HSU := Lib.hid (fun k (h : k < L.length) => cat_succ h)
  have HZ : Hid (cat L 0 = []) := Lib.hid rfl
  obtain ⟨n, hnn⟩ : ∃ n, n = L.length := ⟨_, rfl⟩
  obtain ⟨m, hm⟩ : ∃ m, m = (cat L n).length := ⟨_, rfl⟩
  have HN := Lib.hid hnn
  rw [← hnn] at hl hcap HLE hn ⊢
  rw [← hm] at HLE hn
  have HM := Lib.hid hm
  have hle0 := HLE.out
  clear hc hs hnn hm hle0
  go_enter Tryz.func34, Tryz.ntmps34
  go_wp2_with fail
  go_loopw [3, 11] (fun z i wr => ∃ k q : Nat, k ≤ n ∧ q = (cat L k).length ∧ wr = w ∧ i = .int .i64 k ∧ z = .int .i64 q) (fun _ i _ => n - (intOf i).toNat)
  case atStart => exact ⟨0, 0, Nat.zero_le _, by rw [HZ.out]; rfl, rfl, rfl, rfl⟩
  case round =>
    obtain ⟨k, q, hk, hq, rfl, rfl, rfl⟩ := hrel
    have hqm := HLE.out k
    rw [← hq] at hqm
    have HQ := Lib.hid hq
    clear hq
    by_cases hlt : k < n
    · have hlt' : k < L.length := by rw [← HN.out]; exact hlt
      have d0 := HC.out k hlt'
      have hsu := HSU.out k hlt'
      have hqs := HLE.out (k + 1)
      rw [hsu, List.length_append, ← HQ.out] at hqs
      obtain ⟨x, hx⟩ : ∃ x, x = L[k].2.2.length := ⟨_, rfl⟩
      rw [← hx] at d0 hqs
      have HX : Hid (q + x = (cat L (k + 1)).length) := Lib.hid (by rw [hsu, List.length_append, ← HQ.out, hx])
      generalize L[k].1 = ak at d0
      generalize L[k].2.1 = ck at d0
      clear hsu hx
      go_wp2_with fail
      exact ⟨⟨k + 1, q + x, by omega, HX.out, by first | trivial | rfl, by go_num, by go_num⟩, by simp [intOf]; try omega⟩
    · obtain rfl : k = n := by omega
      obtain ⟨wo, rfl⟩ : ∃ wo : World, wo = wr := ⟨_, rfl⟩
      go_wp2_with fail
      refine (grow_u q (by omega) wo).mono ?_
      rintro e w1 ⟨a1, c1, rfl, p1, p2⟩
      have P1 := Lib.hid p1
      have P2 := Lib.hid p2
      clear p1 p2
      go_wp2_with fail
      go_loopw [6, 27] (fun v i wx => ∃ j : Nat, j ≤ k ∧ i = .int .i64 j ∧ RowM 5 u8c wo.heap.size wx v (cat L j) ∧ Kp (fun _ => False) wo wx) (fun _ i _ => k - (intOf i).toNat)
      case atStart => exact ⟨0, Nat.zero_le _, rfl, by rw [HZ.out]; exact P1.out, P2.out⟩
      case round =>
        obtain ⟨j, hj, rfl, hrow, hkw⟩ := hrel
        have hjm := HLE.out j
        obtain ⟨av, cv, rfl, hown, hbeyond⟩ := hrow
        obtain ⟨z, hz⟩ : ∃ z, z = cat L j := ⟨_, rfl⟩
        rw [← hz] at hown hjm hbeyond ⊢
        have HZZ := Lib.hid hz
        obtain ⟨zn, hzn⟩ : ∃ zn, zn = z.length := ⟨_, rfl⟩
        rw [← hzn] at hown hbeyond hjm ⊢
        have HZN := Lib.hid hzn
        have HROW : Hid (RowM 5 u8c wo.heap.size wr (.slice av zn cv) z) := Lib.hid ⟨av, cv, by rw [hzn], by rw [← hzn]; exact hown, hbeyond⟩
        have HKW := Lib.hid hkw
        clear hown hbeyond hkw hz hzn
        by_cases hlt : j < k
        · have hlt' : j < L.length := by rw [← HN.out]; exact hlt
          have d0 := (HKW.out.cell (p := ⟨g, o + j, none⟩) hg (fun q => q)).trans (HC.out j hlt')
          have hsu := HSU.out j hlt'
          have hqs := HLE.out (j + 1)
          rw [hsu, ← HZZ.out, List.length_append, ← HZN.out] at hqs
          have HSU2 := Lib.hid hsu
          have HSJ := Lib.hid ((HS.out j hlt').kp HKW.out (fun _ _ q => q))
          obtain ⟨y, hy⟩ : ∃ y, y = L[j].2.2 := ⟨_, rfl⟩
          rw [← hy] at d0 hqs HSJ HSU2
          obtain ⟨x, hx⟩ : ∃ x, x = y.length := ⟨_, rfl⟩
          rw [← hx] at d0 hqs HSJ
          have HX := Lib.hid hx
          generalize L[j].1 = ak at d0 HSJ
          generalize L[j].2.1 = ck at d0 HSJ
          rw [← HZZ.out] at HSU2
          clear hsu hx hy
          go_wp2_with (at_builtin; refine wpList_appM (w0 := wo) _ rfl _ _ 22 rfl 5 j0 _ 1 Tryz.underlying22 hj0 hy0 hy1 hy2 rfl (by decide) (by decide) u8c_1c (.slice av zn cv) z rfl HROW.out (.slice ak x ck) x y rfl HSJ.out HX.out.symm HKW.out (zn + x) (by rw [HZN.out]) (by omega) ?_; intro a5 c5 w5 g1 g2 _; have G1 := Lib.hid g1; have G2 := Lib.hid g2; clear g1 g2)
          exact ⟨⟨j + 1, by omega, by go_num, by rw [HSU2.out]; exact G1.out, G2.out⟩, by simp [intOf]; try omega⟩
        · obtain rfl : j = k := by omega
          go_wp2_with fail
          go_ret
          rw [← HZZ.out]
          exact ⟨av, cv, by rw [← HZN.out]; rfl, by rw [← HZN.out]; exact HROW.out, HKW.out⟩
end Go.Proofs.YtphakpikalmghaaGreat.Ma
