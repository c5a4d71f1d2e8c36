/- What a law's walk is told of a slice whose elements are structs or slices. -/
import Derived.Test.YtcecnkmhhbncdaaOpen
import Derived.ChangeArms
namespace Go.Proofs.Ytcecnkmhhbncdaa.Op
open Go Go.ChangeShapes Go.WideShapes Go.ChangeAt Go.RowKit Go.Mg Go.ChangeMaps Go.Deep

theorem flatMap_len {α β : Type} {k : Nat} {E : α → List β} {l : List α} (h : ∀ y, y ∈ l → (E y).length = k) : (l.flatMap E).length = l.length * k := by
  induction l with
  | nil => simp
  | cons y l ih =>
    rw [List.flatMap_cons, List.length_append, h y List.mem_cons_self, ih (fun z hz => h z (List.mem_cons_of_mem _ hz)), List.length_cons, Nat.succ_mul]
    omega
theorem flatMap_at {α β : Type} {k : Nat} {E : α → List β} {l : List α} (h : ∀ y, y ∈ l → (E y).length = k) {i j : Nat} (hj : j < k) {y : α} (hy : l[i]? = some y) : (l.flatMap E)[i * k + j]? = (E y)[j]? := by
  induction l generalizing i with
  | nil => cases hy
  | cons z l ih =>
    have hz := h z List.mem_cons_self
    cases i with
    | zero =>
      simp only [List.getElem?_cons_zero, Option.some.injEq] at hy
      subst hy
      rw [List.flatMap_cons, Nat.zero_mul, Nat.zero_add, List.getElem?_append_left (by omega)]
    | succ i =>
      rw [List.flatMap_cons, List.getElem?_append_right (by rw [hz, Nat.succ_mul]; omega), hz, show (i + 1) * k + j - k = i * k + j by rw [Nat.succ_mul]; omega]
      exact ih (fun y hy => h y (List.mem_cons_of_mem _ hy)) hy
/-- A slice whose elements have k cells each. -/
theorem sl_of_cellsK {w : World} {x : Addr} {n cap k : Nat} (hk : 0 < k) {xs : List Value} (hn : xs.length = n * k) (hl : n ≤ cap) (hm : cap ≤ maxLen) (hc : ∀ i u, xs[i]? = some u → w.cell? (x.add i) = some u) :
    SlR w k (.slice (some x) n cap) n xs := by
  refine ⟨hn, some x, cap, rfl, hl, hm, (fun h => by cases h), fun h0 => ?_⟩
  have hpos : 0 < xs.length := by rw [hn]; exact Nat.mul_pos h0 hk
  have h1 := hc 0 (xs[0]'hpos) (List.getElem?_eq_getElem _)
  have hp := addr_plain h1
  refine ⟨x.block, x.off, by rw [← hp], World.block_lt_of_cell? w _ h1, fun i u hu => ?_⟩
  have hthis := hc i u hu
  have this : w.cell? ((⟨x.block, x.off, none⟩ : Addr).add i) = some u := hp ▸ hthis
  have hadd : (⟨x.block, x.off, none⟩ : Addr).add i = ⟨x.block, x.off + i, none⟩ := add_none _ _ _
  rw [hadd] at this
  exact this
/-- What an element's cells are. -/
theorem SlR.cellK {w : World} {k : Nat} {α : Type} {E : α → List Value} {a : Option Addr} {c : Nat} {l : List α} (h : SlR w k (.slice a l.length c) l.length (l.flatMap E)) (hE : ∀ y, y ∈ l → (E y).length = k) {i : Nat} (hi : i < l.length) :
    ∃ g off, a = some ⟨g, off, none⟩ ∧ g < w.heap.size ∧ ∀ (j : Nat) (u : Value), (E l[i])[j]? = some u → j < k → w.cell? ⟨g, off + (i * k + j), none⟩ = some u := by
  obtain ⟨_, a0, c0, e0, _, _, _, hc⟩ := h
  simp only [Value.slice.injEq, true_and] at e0
  obtain ⟨rfl, rfl⟩ := e0
  obtain ⟨g, off, rfl, hg, hc⟩ := hc (by omega)
  exact ⟨g, off, rfl, hg, fun j u hu hj => hc _ _ (by rw [flatMap_at hE hj (List.getElem?_eq_getElem hi)]; exact hu)⟩

section
variable {H : Type} {enc : TypeId × Value → H} {P : Program} {w : World} {base : Nat} {spare : Nat → Bool} {held : Bool} {r : Reach} {b0 : Nat} {t : TypeId} {v : Value} {d : DataW H} {p : List MemPlace}
theorem bytes_of {e : TypeId} (ht : P.underlying t = some (.slice e)) (he : P.underlying e = some (.int .u8)) (hc : P.cellsOf e = 1) {fuel : Nat} {cs : List Value} {x : DataW H × List MemPlace}
    (h : DataW.trod enc P w base spare held fuel t cs = some x) : ∃ (a : Option Addr) (c : Nat) (l : List UInt8), cs = [.slice a l.length c] ∧ SlR w 1 (.slice a l.length c) l.length (l.map u8c) := by
  rcases open_ints ht he hc h with ⟨rfl, _⟩ | ⟨y, n, c, zs, rfl, _, hl, hm, hz, _, hcell, hwz⟩
  · exact ⟨none, 0, [], rfl, SlR.nil _ _⟩
  · have hzl : n ≤ zs.length := by rw [hz]; split <;> omega
    have e1 : (zs.take n).length = n := by simp; omega
    refine ⟨some y, c, (zs.take n).map fun x => UInt8.ofNat x.toNat, by simp; omega, ?_⟩
    have e2 : ((zs.take n).map fun x => UInt8.ofNat x.toNat).map u8c = (zs.take n).map (Value.int .u8) := by
      rw [List.map_map]
      exact List.map_congr_left fun x hx => (u8_of_wf (hwz x (List.mem_of_mem_take hx))).symm
    have e3 : ((zs.take n).map fun x => UInt8.ofNat x.toNat).length = n := by simpa using e1
    rw [e2, e3]
    refine sl_of_cells (by simpa using e1) hl hm (fun i u hu => ?_)
    rw [List.getElem?_map, List.getElem?_take] at hu
    split at hu
    · rename_i hi
      rw [hcell i (by omega)]
      rw [List.getElem?_eq_getElem (by omega)] at hu
      simp only [Option.map_some, Option.some.injEq] at hu
      rw [← hu]
      simp [List.getD, List.getElem?_eq_getElem (show i < zs.length by omega)]
    · cases hu
theorem int_of {k : IntKind} (ht : P.underlying t = some (.int k)) {fuel : Nat} {cs : List Value} {x : DataW H × List MemPlace} (h : DataW.trod enc P w base spare held fuel t cs = some x) : ∃ y, cs = [.int k y] ∧ (Lit.int k y).wf = true := by
  obtain ⟨y, h1, _, h2⟩ := DataW.trod_int ht h
  exact ⟨y, h1, h2⟩
/-- Any slice: what its elements' cells are told to be, they are. -/
theorem get_sl {e : TypeId} {k : Nat} (ht : P.underlying t = some (.slice e)) (hk : P.cellsOf e = k) (hk0 : 0 < k) {α : Type} [Inhabited α] (E : α → List Value) (Good : α → Prop) (hlen : ∀ y, (E y).length = k)
    (hE : ∀ (n : Nat) (cs : List Value) (x : DataW H × List MemPlace), cs.length = k → DataW.trod enc P w base spare held n e cs = some x → ∃ y, cs = E y ∧ Good y)
    (hv : Value.okWide P w r b0 t v) (h : DataW.Trod enc P w base spare held t v d p) :
    ∃ (a : Option Addr) (c : Nat) (l : List α), v = .slice a l.length c ∧ SlR w k (.slice a l.length c) l.length (l.flatMap E) ∧ ∀ y ∈ l, Good y := by
  obtain ⟨a, n, c, rfl⟩ := okWide_slice ht hv
  obtain ⟨fuel, hf⟩ := h
  rcases open_slice ht hf with ⟨hcs, _⟩ | ⟨x, l, c', m, n', D, Pl, hcs, _, hl, hm, hz, _, hcell⟩
  · simp [Value.cells] at hcs
    obtain ⟨rfl, rfl, rfl⟩ := hcs
    exact ⟨none, 0, [], rfl, SlR.nil _ _, fun y hy => by cases hy⟩
  · simp [Value.cells] at hcs
    obtain ⟨rfl, rfl, rfl⟩ := hcs
    have hzl : n ≤ m := by rw [hz]; split <;> omega
    obtain ⟨V, hV⟩ := choose_lt (α := α) (n := m) (p := fun i y => w.cells? base (x.add (i * k)) k = some (E y) ∧ Good y) (fun i hi => by
      obtain ⟨cs', h1, h2⟩ := hcell i hi
      rw [hk] at h1
      obtain ⟨_, h3, _⟩ := World.cells?_some h1
      obtain ⟨y, rfl, hg⟩ := hE _ _ _ h3 h2
      exact ⟨y, h1, hg⟩)
    have e1 : ((List.range n).map V).length = n := by simp
    refine ⟨some x, c, (List.range n).map V, by rw [e1], ?_, fun y hy => ?_⟩
    · rw [e1]
      refine sl_of_cellsK hk0 (by rw [flatMap_len (fun y _ => hlen y), e1]) hl hm (fun i u hu => ?_)
      have hi : i < n * k := by
        have := (List.getElem?_eq_some_iff.1 hu).1
        rwa [flatMap_len (fun y _ => hlen y), e1] at this
      have hik : i / k < n := (Nat.div_lt_iff_lt_mul hk0).2 hi
      have hmod : i % k < k := Nat.mod_lt _ hk0
      have hdm : i / k * k + i % k = i := by rw [Nat.mul_comm]; exact Nat.div_add_mod i k
      obtain ⟨h1, _⟩ := hV (i / k) (by omega)
      obtain ⟨_, _, h2⟩ := World.cells?_some h1
      have h3 := h2 (i % k) hmod
      rw [add_add, hdm] at h3
      rw [h3]
      have hg : ((List.range n).map V)[i / k]? = some (V (i / k)) := by rw [List.getElem?_map, List.getElem?_range hik]; rfl
      rw [← hdm, flatMap_at (fun y _ => hlen y) hmod hg] at hu
      exact hu
    · obtain ⟨i, hi, rfl⟩ := List.mem_map.1 hy
      exact (hV i (by have := List.mem_range.1 hi; omega)).2
end
end Go.Proofs.Ytcecnkmhhbncdaa.Op
