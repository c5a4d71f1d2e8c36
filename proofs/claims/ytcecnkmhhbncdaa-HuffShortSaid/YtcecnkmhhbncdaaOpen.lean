/- What a law's walk is told of its arguments. -/
import Derived.Test.YtcecnkmhhbncdaaRows0
import Derived.ProofKit
import Derived.OpenShut
import Derived.Deep.Slices
namespace Go.Proofs.Ytcecnkmhhbncdaa.Op
open Go Go.ChangeShapes Go.WideShapes Go.ChangeAt Go.RowKit Go.Mg Go.ChangeMaps Go.Deep

/-- What a law leaves: true; nothing that was there has turned. -/
def LawPost (w : World) (e : Ending) (w' : World) : Prop := e = .returned (.bool true) ∧ Below w.heap.size w w'

section
variable {H : Type} {enc : TypeId × Value → H} {P : Program} {w : World} {base : Nat} {spare : Nat → Bool} {held : Bool} {r : Reach} {b0 : Nat} {t : TypeId} {v : Value} {d : DataW H} {p : List MemPlace}
theorem get_int {k : IntKind} (ht : P.underlying t = some (.int k)) (hv : Value.okWide P w r b0 t v) (h : DataW.Trod enc P w base spare held t v d p) : ∃ x, v = .int k x ∧ (Lit.int k x).wf = true := by
  obtain ⟨x, rfl, _, _, hx⟩ := open_int ht hv h
  exact ⟨x, rfl, hx⟩
theorem get_bool (ht : P.underlying t = some .bool) (hv : Value.okWide P w r b0 t v) (h : DataW.Trod enc P w base spare held t v d p) : ∃ x, v = .bool x := by
  obtain ⟨x, rfl, _, _⟩ := open_bool ht hv h
  exact ⟨x, rfl⟩
theorem get_string (ht : P.underlying t = some .string) (hv : Value.okWide P w r b0 t v) (h : DataW.Trod enc P w base spare held t v d p) : ∃ s, v = .string s ∧ s.size ≤ maxLen := by
  obtain ⟨s, rfl, _, _, hs⟩ := open_string ht hv h
  exact ⟨s, rfl, hs⟩
theorem addr_plain {w : World} {x : Addr} {u : Value} (h : w.cell? (x.add 0) = some u) : x = ⟨x.block, x.off, none⟩ := by
  obtain ⟨b, o, s⟩ := x
  cases s with
  | none => rfl
  | some k =>
    simp only [Addr.add, if_true, World.cell?, Option.isSome_some] at h
    split at h <;> cases h
theorem add_none (b o i : Nat) : (⟨b, o, none⟩ : Addr).add i = ⟨b, o + i, none⟩ := by unfold Addr.add; split <;> simp_all
/-- A slice whose elements have one cell each. -/
theorem sl_of_cells {w : World} {x : Addr} {n cap : Nat} {xs : List Value} (hn : xs.length = n) (hl : n ≤ cap) (hm : cap ≤ maxLen) (hc : ∀ i u, xs[i]? = some u → w.cell? (x.add i) = some u) :
    SlR w 1 (.slice (some x) n cap) n xs := by
  refine ⟨by simpa using hn, some x, cap, rfl, hl, hm, (fun h => by cases h), fun h0 => ?_⟩
  have h1 := hc 0 (xs[0]'(by omega)) (List.getElem?_eq_getElem _)
  have hp := addr_plain h1
  refine ⟨x.block, x.off, by rw [← hp], World.block_lt_of_cell? w _ h1, fun i u hu => ?_⟩
  have hthis := hc i u hu
  have this : w.cell? ((⟨x.block, x.off, none⟩ : Addr).add i) = some u := hp ▸ hthis
  have hadd : (⟨x.block, x.off, none⟩ : Addr).add i = ⟨x.block, x.off + i, none⟩ := add_none _ _ _
  rw [hadd] at this
  exact this
theorem get_ints0 {k : IntKind} {e : TypeId} (ht : P.underlying t = some (.slice e)) (he : P.underlying e = some (.int k)) (hc : P.cellsOf e = 1) (hv : Value.okWide P w r b0 t v) (h : DataW.Trod enc P w base spare held t v d p) :
    ∃ (a : Option Addr) (c : Nat) (l : List Int), v = .slice a l.length c ∧ SlR w 1 (.slice a l.length c) l.length (l.map (Value.int k)) ∧ ∀ x ∈ l, (Lit.int k x).wf = true := by
  obtain ⟨a, n, c, rfl⟩ := okWide_slice ht hv
  obtain ⟨fuel, hf⟩ := h
  rcases open_ints ht he hc hf with ⟨hcs, _⟩ | ⟨x, l, c', zs, hcs, _, hl, hm, hz, _, hcell, hwz⟩
  · simp [Value.cells] at hcs
    obtain ⟨rfl, rfl, rfl⟩ := hcs
    exact ⟨none, 0, [], rfl, SlR.nil _ _, fun x hx => by cases hx⟩
  · simp [Value.cells] at hcs
    obtain ⟨rfl, rfl, rfl⟩ := hcs
    have hzl : n ≤ zs.length := by rw [hz]; split <;> omega
    have e1 : (zs.take n).length = n := by simp; omega
    refine ⟨some x, c, zs.take n, by rw [e1], ?_, fun y hy => hwz y (List.mem_of_mem_take hy)⟩
    rw [e1]
    refine sl_of_cells (by simp; omega) hl hm (fun i u hu => ?_)
    rw [List.getElem?_map, List.getElem?_take] at hu
    split at hu
    · rename_i hi
      rw [hcell i (by omega)]
      rw [List.getElem?_eq_getElem (by omega)] at hu
      simp only [Option.map_some, Option.some.injEq] at hu
      rw [← hu]
      simp [List.getD, List.getElem?_eq_getElem (show i < zs.length by omega)]
    · cases hu
theorem get_ints {e : TypeId} (ht : P.underlying t = some (.slice e)) (he : P.underlying e = some (.int .i64)) (hc : P.cellsOf e = 1) (hv : Value.okWide P w r b0 t v) (h : DataW.Trod enc P w base spare held t v d p) :
    ∃ (a : Option Addr) (c : Nat) (l : List Int), v = .slice a l.length c ∧ SlR w 1 (.slice a l.length c) l.length (l.map (Value.int .i64)) ∧ ∀ x ∈ l, (Lit.int .i64 x).wf = true := get_ints0 ht he hc hv h
theorem u8_of_wf {x : Int} (h : (Lit.int .u8 x).wf = true) : Value.int .u8 x = u8c (UInt8.ofNat x.toNat) := by
  have hb : 0 ≤ x ∧ x ≤ 255 := by simpa [Lit.wf, IntKind.min, IntKind.max, IntKind.signed, IntKind.bits] using h
  unfold u8c
  congr 1
  have : (UInt8.ofNat x.toNat).toNat = x.toNat := by simp [UInt8.toNat_ofNat']; omega
  rw [this]; omega
theorem get_bytes {e : TypeId} (ht : P.underlying t = some (.slice e)) (he : P.underlying e = some (.int .u8)) (hc : P.cellsOf e = 1) (hv : Value.okWide P w r b0 t v) (h : DataW.Trod enc P w base spare held t v d p) :
    ∃ (a : Option Addr) (c : Nat) (l : List UInt8), v = .slice a l.length c ∧ SlR w 1 (.slice a l.length c) l.length (l.map u8c) := by
  obtain ⟨a, c, l, rfl, h1, h2⟩ := get_ints0 ht he hc hv h
  refine ⟨a, c, l.map fun x => UInt8.ofNat x.toNat, by simp, ?_⟩
  have : (l.map fun x => UInt8.ofNat x.toNat).map u8c = l.map (Value.int .u8) := by
    rw [List.map_map]
    exact List.map_congr_left fun x hx => (u8_of_wf (h2 x hx)).symm
  rw [this]
  simpa using h1
theorem get_bools {e : TypeId} (ht : P.underlying t = some (.slice e)) (he : P.underlying e = some .bool) (hc : P.cellsOf e = 1) (hv : Value.okWide P w r b0 t v) (h : DataW.Trod enc P w base spare held t v d p) :
    ∃ (a : Option Addr) (c : Nat) (l : List Bool), v = .slice a l.length c ∧ SlR w 1 (.slice a l.length c) l.length (l.map Value.bool) := by
  obtain ⟨a, n, c, rfl⟩ := okWide_slice ht hv
  obtain ⟨fuel, hf⟩ := h
  rcases open_slice1 ht hc hf with ⟨hcs, _⟩ | ⟨x, l, c', m, n', V, D, Pl, hcs, _, hl, hm, hz, _, hcell⟩
  · simp [Value.cells] at hcs
    obtain ⟨rfl, rfl, rfl⟩ := hcs
    exact ⟨none, 0, [], rfl, SlR.nil _ _⟩
  · simp [Value.cells] at hcs
    obtain ⟨rfl, rfl, rfl⟩ := hcs
    have hzl : n ≤ m := by rw [hz]; split <;> omega
    have hb : ∀ i, i < m → ∃ b, V i = .bool b := fun i hi => by
      obtain ⟨_, h2⟩ := hcell i hi
      cases n' with
      | zero => simp [DataW.trod] at h2
      | succ n' =>
        cases hV : V i <;> simp [DataW.trod, he, hV] at h2
        exact ⟨_, rfl⟩
    let f : Nat → Bool := fun i => match V i with | .bool b => b | _ => false
    have hf : ∀ i, i < m → V i = .bool (f i) := fun i hi => by obtain ⟨b, hb⟩ := hb i hi; simp [f, hb]
    have e1 : ((List.range n).map f).length = n := by simp
    refine ⟨some x, c, (List.range n).map f, by rw [e1], ?_⟩
    rw [e1]
    refine sl_of_cells (by simp) hl hm (fun i u hu => ?_)
    rw [List.map_map, List.getElem?_map] at hu
    by_cases hi : i < n
    · rw [List.getElem?_range hi] at hu
      simp only [Option.map_some, Function.comp, Option.some.injEq] at hu
      rw [← hu, (hcell i (by omega)).1, hf i (by omega)]
    · rw [List.getElem?_eq_none (by simpa using hi)] at hu
      cases hu
end
end Go.Proofs.Ytcecnkmhhbncdaa.Op
