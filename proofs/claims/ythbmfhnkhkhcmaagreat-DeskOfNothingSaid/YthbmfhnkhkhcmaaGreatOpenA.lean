/- What a law's walk is told of a struct that is a call, an act. -/
import Derived.Test.YthbmfhnkhkhcmaaGreatOpenS
import Derived.Test.YthbmfhnkhkhcmaaGreatProg
namespace Go.Proofs.YthbmfhnkhkhcmaaGreat.Op
open Go Go.ChangeShapes Go.WideShapes Go.ChangeAt Go.RowKit Go.Mg Go.ChangeMaps Go.Deep
section
variable {H : Type} {enc : TypeId × Value → H} {w : World} {base : Nat} {spare : Nat → Bool} {held : Bool} {r : Reach} {b0 : Nat} {t : TypeId} {v : Value} {d : DataW H} {p : List MemPlace}
theorem field_of {fs : Array Field} {xs : List (DataW H × List MemPlace)} {m : Nat} {cs : List Value} (hxl : xs.length = fs.size)
    (hf : ∀ (i : Nat) (f : Field), fs[i]? = some f → DataW.trod enc Tryz.prog w base spare held m f.type ((cs.drop f.offset).take (Tryz.prog.cellsOf f.type)) = xs[i]?) (i o k : Nat) (ty : TypeId) (hi : (fs[i]?).map (fun f => (f.offset, f.type)) = some (o, ty)) (hc : Tryz.prog.cellsOf ty = k) :
    ∃ z, DataW.trod enc Tryz.prog w base spare held m ty ((cs.drop o).take k) = some z := by
  cases hfi : fs[i]? with
  | none => rw [hfi] at hi; cases hi
  | some f =>
    rw [hfi] at hi
    simp only [Option.map_some, Option.some.injEq, Prod.mk.injEq] at hi
    obtain ⟨rfl, rfl⟩ := hi
    have := hf i f hfi
    rw [hc] at this
    have hlt : i < xs.length := by rw [hxl]; exact (Array.getElem?_eq_some_iff.1 hfi).1
    exact ⟨xs[i], by rw [this, List.getElem?_eq_getElem hlt]⟩
theorem call_of {fs : Array Field} (hs : Tryz.prog.underlying 24 = some (.struct fs)) (h0 : (fs[0]?).map (fun f => (f.offset, f.type)) = some (0, 3)) (h1 : (fs[1]?).map (fun f => (f.offset, f.type)) = some (1, 9))
    (h2 : (fs[2]?).map (fun f => (f.offset, f.type)) = some (2, 3)) (h3 : (fs[3]?).map (fun f => (f.offset, f.type)) = some (3, 3)) (h4 : (fs[4]?).map (fun f => (f.offset, f.type)) = some (4, 22))
    (n : Nat) (cs : List Value) (x : DataW H × List MemPlace) (hl : cs.length = 5) (h : DataW.trod enc Tryz.prog w base spare held n 24 cs = some x) :
    ∃ (k : Int) (nm : ByteArray) (lv hd : Int) (da : Option Addr) (ld dc : Nat), cs = [.int .i64 k, .string nm, .int .i64 lv, .int .i64 hd, .slice da ld dc] ∧ nm.size ≤ maxLen ∧ ld ≤ maxLen := by
  obtain ⟨c0, c1, c2, c3, c4, rfl⟩ : ∃ c0 c1 c2 c3 c4, cs = [c0, c1, c2, c3, c4] := by
    match cs, hl with
    | [c0, c1, c2, c3, c4], _ => exact ⟨c0, c1, c2, c3, c4, rfl⟩
  obtain ⟨xs, m, _, _, _, hxl, hf⟩ := DataW.trod_struct hs h
  obtain ⟨z0, g0⟩ := field_of hxl hf 0 0 1 _ h0 (by kernel_rfl)
  obtain ⟨z1, g1⟩ := field_of hxl hf 1 1 1 _ h1 (by kernel_rfl)
  obtain ⟨z2, g2⟩ := field_of hxl hf 2 2 1 _ h2 (by kernel_rfl)
  obtain ⟨z3, g3⟩ := field_of hxl hf 3 3 1 _ h3 (by kernel_rfl)
  obtain ⟨z4, g4⟩ := field_of hxl hf 4 4 1 _ h4 (by kernel_rfl)
  obtain ⟨k, e0, _⟩ := int_of (enc := enc) Tryz.underlying3 g0
  obtain ⟨s, e1, _, w1⟩ := DataW.trod_string (enc := enc) Tryz.underlying9 g1
  obtain ⟨lv, e2, _⟩ := int_of (enc := enc) Tryz.underlying3 g2
  obtain ⟨hd, e3, _⟩ := int_of (enc := enc) Tryz.underlying3 g3
  obtain ⟨a, c, l, e4, w4⟩ := bytes_of (enc := enc) Tryz.underlying22 Tryz.underlying5 (by kernel_rfl) g4
  simp only [List.drop_zero, List.drop_succ_cons, List.take_succ_cons, List.take_zero, List.cons.injEq, and_true] at e0 e1 e2 e3 e4
  subst e0 e1 e2 e3 e4
  obtain ⟨_, _, _, _, q1, q2, _⟩ := w4
  exact ⟨k, s, lv, hd, a, l.length, c, rfl, w1, Nat.le_trans q1 q2⟩
set_option maxRecDepth 100000 in
theorem get_act {fs : Array Field} (hs : Tryz.prog.underlying 26 = some (.struct fs)) (h0 : (fs[0]?).map (fun f => (f.offset, f.type)) = some (0, 4)) (h1 : (fs[1]?).map (fun f => (f.offset, f.type)) = some (1, 3))
    (h2 : (fs[2]?).map (fun f => (f.offset, f.type)) = some (2, 24)) (hv : Value.okWide Tryz.prog w r b0 26 v) (h : DataW.Trod enc Tryz.prog w base spare held 26 v d p) :
    ∃ (q : Bool) (c k : Int) (nm : ByteArray) (lv hd : Int) (da : Option Addr) (ld dc : Nat), v = .agg #[.bool q, .int .i64 c, .int .i64 k, .string nm, .int .i64 lv, .int .i64 hd, .slice da ld dc] ∧ nm.size ≤ maxLen ∧ ld ≤ maxLen := by
  obtain ⟨cs, rfl, hsz⟩ := okWide_struct hs hv
  obtain ⟨fuel, hf0⟩ := h
  have hcs : Tryz.prog.cellsOf 26 = 7 := by kernel_rfl
  rw [hcs] at hsz
  obtain ⟨l, rfl⟩ : ∃ l : List Value, cs = l.toArray := ⟨cs.toList, by simp⟩
  obtain ⟨c0, c1, c2, c3, c4, c5, c6, rfl⟩ : ∃ c0 c1 c2 c3 c4 c5 c6, l = [c0, c1, c2, c3, c4, c5, c6] := by
    have hsz : l.length = 7 := by simpa using hsz
    match l, hsz with
    | [c0, c1, c2, c3, c4, c5, c6], _ => exact ⟨c0, c1, c2, c3, c4, c5, c6, rfl⟩
  obtain ⟨xs, m, _, _, _, hxl, hf⟩ := DataW.trod_struct hs hf0
  obtain ⟨z0, g0⟩ := field_of hxl hf 0 0 1 _ h0 (by kernel_rfl)
  obtain ⟨z1, g1⟩ := field_of hxl hf 1 1 1 _ h1 (by kernel_rfl)
  obtain ⟨z2, g2⟩ := field_of hxl hf 2 2 5 _ h2 (by kernel_rfl)
  obtain ⟨q, e0, _⟩ := DataW.trod_bool (enc := enc) Tryz.underlying4 g0
  obtain ⟨c, e1, _⟩ := int_of (enc := enc) Tryz.underlying3 g1
  obtain ⟨k, nm, lv, hd, da, ld, dc, e2, h5, h6⟩ := call_of (enc := enc) Tryz.underlying24 rfl rfl rfl rfl rfl m _ _ (by simp [Value.cells]) g2
  simp only [Value.cells, List.drop_zero, List.drop_succ_cons, List.take_succ_cons, List.take_zero, List.cons.injEq, and_true] at e0 e1 e2
  obtain ⟨rfl, rfl, rfl, rfl, rfl⟩ := e2
  subst e0 e1
  exact ⟨q, c, k, nm, lv, hd, da, ld, dc, rfl, h5, h6⟩
end
end Go.Proofs.YthbmfhnkhkhcmaaGreat.Op
