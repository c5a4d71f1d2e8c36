/- match: the document's Parse. What a law's walk is told of its arguments. What a law's walk is told of a slice whose elements are structs or slices. match: the document's Literals. -/
import Derived.ProofKit
import Derived.OpenShut
import Derived.Deep.Slices
import Derived.ChangeArms
import Derived.Test.YtmioiaeiflbmhaaGreatX08
import Derived.Test.YtmioiaeiflbmhaaGreatX05
import Derived.Test.YtmioiaeiflbmhaaGreatX01
namespace Go.Proofs.YtmioiaeiflbmhaaGreat.Ma
open Go Go.RowKit Go.ChangeMaps Go.MapKept Go.Mg Go.Mt Go.Proofs.YtmioiaeiflbmhaaGreat.Hu
def sqc (s : Sq) : List Value := [nv s.lit, nv s.off, nv s.len]
abbrev RowQ (B : Nat) (w : World) (v : Value) (l : List Sq) : Prop := RowG 186 3 sqc B w v l
abbrev RowB (B : Nat) (w : World) (v : Value) (l : List UInt8) : Prop := RowM 5 u8c B w v l
theorem infoQ : (Tryz.prog.info? 186).map (fun i => (i.zero, i.size, i.bytes)) = some (some (.agg #[.int .i64 0, .int .i64 0, .int .i64 0]), 3, 24) := by kernel_rfl
theorem infoU8 : (Tryz.prog.info? 5).map (fun i => (i.zero, i.size, i.bytes)) = some (some (.int .u8 0), 1, 1) := by kernel_rfl
theorem u8c_1 : ∀ y, (u8c y).oneCell' = true := fun _ => rfl
theorem sqc_1 : ∀ y, ∀ u ∈ sqc y, u.oneCell' = true := by
  intro y u hs
  simp only [sqc, List.mem_cons, List.not_mem_nil, or_false] at hs
  rcases hs with rfl | rfl | rfl <;> rfl
def ParsePost (w : World) (a : Nat → Nat) (m depth start : Nat) (e : Ending) (w' : World) : Prop := ∃ v, e = .returned v ∧ RowQ w.heap.size w' v (rest a m depth start 0) ∧ Kp (fun _ => False) w w'
def Going (a : Nat → Nat) (m depth start : Nat) (l : List Sq) (i lit : Nat) : Prop := l ++ rest a m depth i lit = rest a m depth start 0 ∧ 4 * l.length ≤ i ∧ lit ≤ i
theorem Going.lit {a : Nat → Nat} {m depth start : Nat} {l : List Sq} {i lit : Nat} (h : Going a m depth start l i lit) (h4 : i + 4 ≤ m) (e : (best a m i depth).2 = 0) : Going a m depth start l (i + 1) (lit + 1) := by
  obtain ⟨h1, h2, h3⟩ := h
  rw [rest_lit h4 e] at h1
  exact ⟨h1, by omega, by omega⟩
theorem Going.hit {a : Nat → Nat} {m depth start : Nat} {l : List Sq} {i lit off size : Nat} (h : Going a m depth start l i lit) (h4 : i + 4 ≤ m) (hb : (off, size) = best a m i depth) (e : size ≠ 0) : Going a m depth start (l ++ [⟨lit, off, size⟩]) (i + size) 0 := by
  obtain ⟨h1, h2, h3⟩ := h
  have e2 : (best a m i depth).2 ≠ 0 := by rw [← hb]; exact e
  rw [rest_hit h4 e2, ← hb] at h1
  have hok := best_ok (a := a) (depth := depth) (show i ≤ m by omega)
  rw [← hb] at hok
  rcases hok with q | q
  · exact absurd q e
  · simp only at q
    exact ⟨by rw [← h1]; simp, by simp; omega, by omega⟩
theorem Going.done {a : Nat → Nat} {m depth start : Nat} {l : List Sq} {i lit : Nat} (h : Going a m depth start l i lit) (h4 : m < i + 4) : l = rest a m depth start 0 := by
  have h1 := h.1
  rw [rest_end h4, List.append_nil] at h1
  exact h1
end Go.Proofs.YtmioiaeiflbmhaaGreat.Ma
namespace Go.Proofs.YtmioiaeiflbmhaaGreat.Op
open Go Go.ChangeShapes Go.WideShapes Go.ChangeAt Go.RowKit Go.Mg Go.ChangeMaps Go.Deep
def LawPost (w : World) (e : Ending) (w' : World) : Prop := e = .returned (.bool true) ∧ Below w.heap.size w w'
section
variable {H : Type} {enc : TypeId × Value → H} {P : Program} {w : World} {base : Nat} {spare : Nat → Bool} {held : Bool} {r : Reach} {b0 : Nat} {t : TypeId} {v : Value} {d : DataW H} {p : List MemPlace}
theorem get_int {k : IntKind} (ht : P.underlying t = some (.int k)) (hv : Value.okWide P w r b0 t v) (h : DataW.Trod enc P w base spare held t v d p) : ∃ x, v = .int k x ∧ (Lit.int k x).wf = true := by
  obtain ⟨x, rfl, _, _, hx⟩ := open_int ht hv h
  exact ⟨x, rfl, hx⟩
theorem get_bool (ht : P.underlying t = some .bool) (hv : Value.okWide P w r b0 t v) (h : DataW.Trod enc P w base spare held t v d p) : ∃ x, v = .bool x := by
  obtain ⟨x, rfl, _, _⟩ := open_bool ht hv h
  exact ⟨x, rfl⟩
theorem get_string (ht : P.underlying t = some .string) (hv : Value.okWide P w r b0 t v) (h : DataW.Trod enc P w base spare held t v d p) : ∃ s, v = .string s ∧ s.size ≤ maxLen := by
  obtain ⟨s, rfl, _, _, hs⟩ := open_string ht hv h
  exact ⟨s, rfl, hs⟩
theorem addr_plain {w : World} {x : Addr} {u : Value} (h : w.cell? (x.add 0) = some u) : x = ⟨x.block, x.off, none⟩ := by
  obtain ⟨b, o, s⟩ := x
  cases s with
  | none => rfl
  | some k =>
    simp only [Addr.add, if_true, World.cell?, Option.isSome_some] at h
    split at h <;> cases h
theorem add_none (b o i : Nat) : (⟨b, o, none⟩ : Addr).add i = ⟨b, o + i, none⟩ := by unfold Addr.add; split <;> simp_all
theorem sl_of_cells {w : World} {x : Addr} {n cap : Nat} {xs : List Value} (hn : xs.length = n) (hl : n ≤ cap) (hm : cap ≤ maxLen) (hc : ∀ i u, xs[i]? = some u → w.cell? (x.add i) = some u) :
    SlR w 1 (.slice (some x) n cap) n xs := by
  refine ⟨by simpa using hn, some x, cap, rfl, hl, hm, (fun h => by cases h), fun h0 => ?_⟩
  have h1 := hc 0 (xs[0]'(by omega)) (List.getElem?_eq_getElem _)
  have hp := addr_plain h1
  refine ⟨x.block, x.off, by rw [← hp], World.block_lt_of_cell? w _ h1, fun i u hu => ?_⟩
  have hthis := hc i u hu
  have this : w.cell? ((⟨x.block, x.off, none⟩ : Addr).add i) = some u := hp ▸ hthis
  have hadd : (⟨x.block, x.off, none⟩ : Addr).add i = ⟨x.block, x.off + i, none⟩ := add_none _ _ _
  rw [hadd] at this
  exact this
theorem get_ints0 {k : IntKind} {e : TypeId} (ht : P.underlying t = some (.slice e)) (he : P.underlying e = some (.int k)) (hc : P.cellsOf e = 1) (hv : Value.okWide P w r b0 t v) (h : DataW.Trod enc P w base spare held t v d p) :
    ∃ (a : Option Addr) (c : Nat) (l : List Int), v = .slice a l.length c ∧ SlR w 1 (.slice a l.length c) l.length (l.map (Value.int k)) ∧ ∀ x ∈ l, (Lit.int k x).wf = true := by
  obtain ⟨a, n, c, rfl⟩ := okWide_slice ht hv
  obtain ⟨fuel, hf⟩ := h
  rcases open_ints ht he hc hf with ⟨hcs, _⟩ | ⟨x, l, c', zs, hcs, _, hl, hm, hz, _, hcell, hwz⟩
  · simp [Value.cells] at hcs
    obtain ⟨rfl, rfl, rfl⟩ := hcs
    exact ⟨none, 0, [], rfl, SlR.nil _ _, fun x hx => by cases hx⟩
  · simp [Value.cells] at hcs
    obtain ⟨rfl, rfl, rfl⟩ := hcs
    have hzl : n ≤ zs.length := by rw [hz]; split <;> omega
    have e1 : (zs.take n).length = n := by simp; omega
    refine ⟨some x, c, zs.take n, by rw [e1], ?_, fun y hy => hwz y (List.mem_of_mem_take hy)⟩
    rw [e1]
    refine sl_of_cells (by simp; omega) hl hm (fun i u hu => ?_)
    rw [List.getElem?_map, List.getElem?_take] at hu
    split at hu
    · rename_i hi
      rw [hcell i (by omega)]
      rw [List.getElem?_eq_getElem (by omega)] at hu
      simp only [Option.map_some, Option.some.injEq] at hu
      rw [← hu]
      simp [List.getD, List.getElem?_eq_getElem (show i < zs.length by omega)]
    · cases hu
theorem get_ints {e : TypeId} (ht : P.underlying t = some (.slice e)) (he : P.underlying e = some (.int .i64)) (hc : P.cellsOf e = 1) (hv : Value.okWide P w r b0 t v) (h : DataW.Trod enc P w base spare held t v d p) :
    ∃ (a : Option Addr) (c : Nat) (l : List Int), v = .slice a l.length c ∧ SlR w 1 (.slice a l.length c) l.length (l.map (Value.int .i64)) ∧ ∀ x ∈ l, (Lit.int .i64 x).wf = true := get_ints0 ht he hc hv h
theorem u8_of_wf {x : Int} (h : (Lit.int .u8 x).wf = true) : Value.int .u8 x = u8c (UInt8.ofNat x.toNat) := by
  have hb : 0 ≤ x ∧ x ≤ 255 := by simpa [Lit.wf, IntKind.min, IntKind.max, IntKind.signed, IntKind.bits] using h
  unfold u8c
  congr 1
  have : (UInt8.ofNat x.toNat).toNat = x.toNat := by simp [UInt8.toNat_ofNat']; omega
  rw [this]; omega
theorem get_bytes {e : TypeId} (ht : P.underlying t = some (.slice e)) (he : P.underlying e = some (.int .u8)) (hc : P.cellsOf e = 1) (hv : Value.okWide P w r b0 t v) (h : DataW.Trod enc P w base spare held t v d p) :
    ∃ (a : Option Addr) (c : Nat) (l : List UInt8), v = .slice a l.length c ∧ SlR w 1 (.slice a l.length c) l.length (l.map u8c) := by
  obtain ⟨a, c, l, rfl, h1, h2⟩ := get_ints0 ht he hc hv h
  refine ⟨a, c, l.map fun x => UInt8.ofNat x.toNat, by simp, ?_⟩
  have : (l.map fun x => UInt8.ofNat x.toNat).map u8c = l.map (Value.int .u8) := by
    rw [List.map_map]
    exact List.map_congr_left fun x hx => (u8_of_wf (h2 x hx)).symm
  rw [this]
  simpa using h1
theorem get_bools {e : TypeId} (ht : P.underlying t = some (.slice e)) (he : P.underlying e = some .bool) (hc : P.cellsOf e = 1) (hv : Value.okWide P w r b0 t v) (h : DataW.Trod enc P w base spare held t v d p) :
    ∃ (a : Option Addr) (c : Nat) (l : List Bool), v = .slice a l.length c ∧ SlR w 1 (.slice a l.length c) l.length (l.map Value.bool) := by
  obtain ⟨a, n, c, rfl⟩ := okWide_slice ht hv
  obtain ⟨fuel, hf⟩ := h
  rcases open_slice1 ht hc hf with ⟨hcs, _⟩ | ⟨x, l, c', m, n', V, D, Pl, hcs, _, hl, hm, hz, _, hcell⟩
  · simp [Value.cells] at hcs
    obtain ⟨rfl, rfl, rfl⟩ := hcs
    exact ⟨none, 0, [], rfl, SlR.nil _ _⟩
  · simp [Value.cells] at hcs
    obtain ⟨rfl, rfl, rfl⟩ := hcs
    have hzl : n ≤ m := by rw [hz]; split <;> omega
    have hb : ∀ i, i < m → ∃ b, V i = .bool b := fun i hi => by
      obtain ⟨_, h2⟩ := hcell i hi
      cases n' with
      | zero => simp [DataW.trod] at h2
      | succ n' =>
        cases hV : V i <;> simp [DataW.trod, he, hV] at h2
        exact ⟨_, rfl⟩
    let f : Nat → Bool := fun i => match V i with | .bool b => b | _ => false
    have hf : ∀ i, i < m → V i = .bool (f i) := fun i hi => by obtain ⟨b, hb⟩ := hb i hi; simp [f, hb]
    have e1 : ((List.range n).map f).length = n := by simp
    refine ⟨some x, c, (List.range n).map f, by rw [e1], ?_⟩
    rw [e1]
    refine sl_of_cells (by simp) hl hm (fun i u hu => ?_)
    rw [List.map_map, List.getElem?_map] at hu
    by_cases hi : i < n
    · rw [List.getElem?_range hi] at hu
      simp only [Option.map_some, Function.comp, Option.some.injEq] at hu
      rw [← hu, (hcell i (by omega)).1, hf i (by omega)]
    · rw [List.getElem?_eq_none (by simpa using hi)] at hu
      cases hu
end
end Go.Proofs.YtmioiaeiflbmhaaGreat.Op
namespace Go.Proofs.YtmioiaeiflbmhaaGreat.Op
open Go Go.ChangeShapes Go.WideShapes Go.ChangeAt Go.RowKit Go.Mg Go.ChangeMaps Go.Deep
theorem flatMap_len {α β : Type} {k : Nat} {E : α → List β} {l : List α} (h : ∀ y, y ∈ l → (E y).length = k) : (l.flatMap E).length = l.length * k := by
  induction l with
  | nil => simp
  | cons y l ih =>
    rw [List.flatMap_cons, List.length_append, h y List.mem_cons_self, ih (fun z hz => h z (List.mem_cons_of_mem _ hz)), List.length_cons, Nat.succ_mul]
    omega
theorem flatMap_at {α β : Type} {k : Nat} {E : α → List β} {l : List α} (h : ∀ y, y ∈ l → (E y).length = k) {i j : Nat} (hj : j < k) {y : α} (hy : l[i]? = some y) : (l.flatMap E)[i * k + j]? = (E y)[j]? := by
  induction l generalizing i with
  | nil => cases hy
  | cons z l ih =>
    have hz := h z List.mem_cons_self
    cases i with
    | zero =>
      simp only [List.getElem?_cons_zero, Option.some.injEq] at hy
      subst hy
      rw [List.flatMap_cons, Nat.zero_mul, Nat.zero_add, List.getElem?_append_left (by omega)]
    | succ i =>
      rw [List.flatMap_cons, List.getElem?_append_right (by rw [hz, Nat.succ_mul]; omega), hz, show (i + 1) * k + j - k = i * k + j by rw [Nat.succ_mul]; omega]
      exact ih (fun y hy => h y (List.mem_cons_of_mem _ hy)) hy
theorem sl_of_cellsK {w : World} {x : Addr} {n cap k : Nat} (hk : 0 < k) {xs : List Value} (hn : xs.length = n * k) (hl : n ≤ cap) (hm : cap ≤ maxLen) (hc : ∀ i u, xs[i]? = some u → w.cell? (x.add i) = some u) :
    SlR w k (.slice (some x) n cap) n xs := by
  refine ⟨hn, some x, cap, rfl, hl, hm, (fun h => by cases h), fun h0 => ?_⟩
  have hpos : 0 < xs.length := by rw [hn]; exact Nat.mul_pos h0 hk
  have h1 := hc 0 (xs[0]'hpos) (List.getElem?_eq_getElem _)
  have hp := addr_plain h1
  refine ⟨x.block, x.off, by rw [← hp], World.block_lt_of_cell? w _ h1, fun i u hu => ?_⟩
  have hthis := hc i u hu
  have this : w.cell? ((⟨x.block, x.off, none⟩ : Addr).add i) = some u := hp ▸ hthis
  have hadd : (⟨x.block, x.off, none⟩ : Addr).add i = ⟨x.block, x.off + i, none⟩ := add_none _ _ _
  rw [hadd] at this
  exact this
theorem SlR.cellK {w : World} {k : Nat} {α : Type} {E : α → List Value} {a : Option Addr} {c : Nat} {l : List α} (h : SlR w k (.slice a l.length c) l.length (l.flatMap E)) (hE : ∀ y, y ∈ l → (E y).length = k) {i : Nat} (hi : i < l.length) :
    ∃ g off, a = some ⟨g, off, none⟩ ∧ g < w.heap.size ∧ ∀ (j : Nat) (u : Value), (E l[i])[j]? = some u → j < k → w.cell? ⟨g, off + (i * k + j), none⟩ = some u := by
  obtain ⟨_, a0, c0, e0, _, _, _, hc⟩ := h
  simp only [Value.slice.injEq, true_and] at e0
  obtain ⟨rfl, rfl⟩ := e0
  obtain ⟨g, off, rfl, hg, hc⟩ := hc (by omega)
  exact ⟨g, off, rfl, hg, fun j u hu hj => hc _ _ (by rw [flatMap_at hE hj (List.getElem?_eq_getElem hi)]; exact hu)⟩
section
variable {H : Type} {enc : TypeId × Value → H} {P : Program} {w : World} {base : Nat} {spare : Nat → Bool} {held : Bool} {r : Reach} {b0 : Nat} {t : TypeId} {v : Value} {d : DataW H} {p : List MemPlace}
theorem bytes_of {e : TypeId} (ht : P.underlying t = some (.slice e)) (he : P.underlying e = some (.int .u8)) (hc : P.cellsOf e = 1) {fuel : Nat} {cs : List Value} {x : DataW H × List MemPlace}
    (h : DataW.trod enc P w base spare held fuel t cs = some x) : ∃ (a : Option Addr) (c : Nat) (l : List UInt8), cs = [.slice a l.length c] ∧ SlR w 1 (.slice a l.length c) l.length (l.map u8c) := by
  rcases open_ints ht he hc h with ⟨rfl, _⟩ | ⟨y, n, c, zs, rfl, _, hl, hm, hz, _, hcell, hwz⟩
  · exact ⟨none, 0, [], rfl, SlR.nil _ _⟩
  · have hzl : n ≤ zs.length := by rw [hz]; split <;> omega
    have e1 : (zs.take n).length = n := by simp; omega
    refine ⟨some y, c, (zs.take n).map fun x => UInt8.ofNat x.toNat, by simp; omega, ?_⟩
    have e2 : ((zs.take n).map fun x => UInt8.ofNat x.toNat).map u8c = (zs.take n).map (Value.int .u8) := by
      rw [List.map_map]
      exact List.map_congr_left fun x hx => (u8_of_wf (hwz x (List.mem_of_mem_take hx))).symm
    have e3 : ((zs.take n).map fun x => UInt8.ofNat x.toNat).length = n := by simpa using e1
    rw [e2, e3]
    refine sl_of_cells (by simpa using e1) hl hm (fun i u hu => ?_)
    rw [List.getElem?_map, List.getElem?_take] at hu
    split at hu
    · rename_i hi
      rw [hcell i (by omega)]
      rw [List.getElem?_eq_getElem (by omega)] at hu
      simp only [Option.map_some, Option.some.injEq] at hu
      rw [← hu]
      simp [List.getD, List.getElem?_eq_getElem (show i < zs.length by omega)]
    · cases hu
theorem int_of {k : IntKind} (ht : P.underlying t = some (.int k)) {fuel : Nat} {cs : List Value} {x : DataW H × List MemPlace} (h : DataW.trod enc P w base spare held fuel t cs = some x) : ∃ y, cs = [.int k y] ∧ (Lit.int k y).wf = true := by
  obtain ⟨y, h1, _, h2⟩ := DataW.trod_int ht h
  exact ⟨y, h1, h2⟩
theorem get_sl {e : TypeId} {k : Nat} (ht : P.underlying t = some (.slice e)) (hk : P.cellsOf e = k) (hk0 : 0 < k) {α : Type} [Inhabited α] (E : α → List Value) (Good : α → Prop) (hlen : ∀ y, (E y).length = k)
    (hE : ∀ (n : Nat) (cs : List Value) (x : DataW H × List MemPlace), cs.length = k → DataW.trod enc P w base spare held n e cs = some x → ∃ y, cs = E y ∧ Good y)
    (hv : Value.okWide P w r b0 t v) (h : DataW.Trod enc P w base spare held t v d p) :
    ∃ (a : Option Addr) (c : Nat) (l : List α), v = .slice a l.length c ∧ SlR w k (.slice a l.length c) l.length (l.flatMap E) ∧ ∀ y ∈ l, Good y := by
  obtain ⟨a, n, c, rfl⟩ := okWide_slice ht hv
  obtain ⟨fuel, hf⟩ := h
  rcases open_slice ht hf with ⟨hcs, _⟩ | ⟨x, l, c', m, n', D, Pl, hcs, _, hl, hm, hz, _, hcell⟩
  · simp [Value.cells] at hcs
    obtain ⟨rfl, rfl, rfl⟩ := hcs
    exact ⟨none, 0, [], rfl, SlR.nil _ _, fun y hy => by cases hy⟩
  · simp [Value.cells] at hcs
    obtain ⟨rfl, rfl, rfl⟩ := hcs
    have hzl : n ≤ m := by rw [hz]; split <;> omega
    obtain ⟨V, hV⟩ := choose_lt (α := α) (n := m) (p := fun i y => w.cells? base (x.add (i * k)) k = some (E y) ∧ Good y) (fun i hi => by
      obtain ⟨cs', h1, h2⟩ := hcell i hi
      rw [hk] at h1
      obtain ⟨_, h3, _⟩ := World.cells?_some h1
      obtain ⟨y, rfl, hg⟩ := hE _ _ _ h3 h2
      exact ⟨y, h1, hg⟩)
    have e1 : ((List.range n).map V).length = n := by simp
    refine ⟨some x, c, (List.range n).map V, by rw [e1], ?_, fun y hy => ?_⟩
    · rw [e1]
      refine sl_of_cellsK hk0 (by rw [flatMap_len (fun y _ => hlen y), e1]) hl hm (fun i u hu => ?_)
      have hi : i < n * k := by
        have := (List.getElem?_eq_some_iff.1 hu).1
        rwa [flatMap_len (fun y _ => hlen y), e1] at this
      have hik : i / k < n := (Nat.div_lt_iff_lt_mul hk0).2 hi
      have hmod : i % k < k := Nat.mod_lt _ hk0
      have hdm : i / k * k + i % k = i := by rw [Nat.mul_comm]; exact Nat.div_add_mod i k
      obtain ⟨h1, _⟩ := hV (i / k) (by omega)
      obtain ⟨_, _, h2⟩ := World.cells?_some h1
      have h3 := h2 (i % k) hmod
      rw [add_add, hdm] at h3
      rw [h3]
      have hg : ((List.range n).map V)[i / k]? = some (V (i / k)) := by rw [List.getElem?_map, List.getElem?_range hik]; rfl
      rw [← hdm, flatMap_at (fun y _ => hlen y) hmod hg] at hu
      exact hu
    · obtain ⟨i, hi, rfl⟩ := List.mem_map.1 hy
      exact (hV i (by have := List.mem_range.1 hi; omega)).2
end
end Go.Proofs.YtmioiaeiflbmhaaGreat.Op
namespace Go.Proofs.YtmioiaeiflbmhaaGreat.Ma
open Go Go.RowKit Go.ChangeMaps Go.MapKept Go.Mg Go.Mt Go.Proofs.YtmioiaeiflbmhaaGreat.Hu Go.Proofs.YtmioiaeiflbmhaaGreat.Op
theorem sq_at {w : World} {a : Option Addr} {c : Nat} {l : List Sq} (h : SlR w 3 (.slice a l.length c) l.length (l.flatMap sqc)) (h0 : 0 < l.length) :
    ∃ g o, a = some ⟨g, o, none⟩ ∧ g < w.heap.size ∧ l.length ≤ c ∧ ∀ i, i < l.length → w.cell? ⟨g, o + i * 3, none⟩ = some (.int .i64 ((sqAt l i).lit : Nat)) ∧ w.cell? ⟨g, o + i * 3 + 1, none⟩ = some (.int .i64 ((sqAt l i).off : Nat)) ∧ w.cell? ⟨g, o + i * 3 + 2, none⟩ = some (.int .i64 ((sqAt l i).len : Nat)) := by
  have hcap : l.length ≤ c := by
    obtain ⟨_, a0, c0, e0, h1, _⟩ := h
    simp only [Value.slice.injEq, true_and] at e0
    omega
  obtain ⟨g, o, e, hg, _⟩ := SlR.cellK h (fun y _ => rfl) h0
  refine ⟨g, o, e, hg, hcap, fun i hi => ?_⟩
  obtain ⟨g', o', e', _, hc⟩ := SlR.cellK h (fun y _ => rfl) hi
  rw [e] at e'
  simp only [Option.some.injEq, Addr.mk.injEq, and_true] at e'
  obtain ⟨rfl, rfl⟩ := e'
  have es : sqAt l i = l[i] := by simp [sqAt, hi]
  rw [es]
  exact ⟨hc 0 _ rfl (by omega), by have := hc 1 _ rfl (by omega); rwa [← Nat.add_assoc] at this, by have := hc 2 _ rfl (by omega); rwa [← Nat.add_assoc] at this⟩
def LitPost (w : World) (d : List UInt8) (l : List Sq) (e : Ending) (w' : World) : Prop := ∃ v, e = .returned (.tuple #[v, .bool true]) ∧ RowB w.heap.size w' v (literals d l) ∧ Kp (fun _ => False) w w'
theorem infoU1 : (Tryz.prog.info? 5).map (·.size) = some 1 := by kernel_rfl
end Go.Proofs.YtmioiaeiflbmhaaGreat.Ma
