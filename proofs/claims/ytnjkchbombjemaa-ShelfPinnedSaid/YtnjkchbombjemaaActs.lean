/- Acts: what a law is told of a script; long. -/
import Derived.Test.YtnjkchbombjemaaTwo
namespace Go.Proofs.Ytnjkchbombjemaa.Rf
open Go Go.ChangeShapes Go.WideShapes Go.ChangeAt Go.RowKit Go.ChangeMaps Go.MapKept Go.Mg Go.Deep Go.Proofs.Ytnjkchbombjemaa.Sh Go.Proofs.Ytnjkchbombjemaa.Op
structure Ac where
  kind : Int
  nm : ByteArray
  data : List UInt8
  da : Option Addr
  dc : Nat
  id : Int
instance : Inhabited Ac := ⟨⟨0, .empty, [], none, 0, 0⟩⟩
def actCells (y : Ac) : List Value := [.int .i64 y.kind, .string y.nm, .slice y.da y.data.length y.dc, .int .i64 y.id]
structure GoodA (w : World) (y : Ac) : Prop where
  nm : y.nm.size ≤ maxLen
  data : Byt w (.slice y.da y.data.length y.dc) y.data
  kind : (Lit.int .i64 y.kind).wf = true
  id : (Lit.int .i64 y.id).wf = true
section
variable {H : Type} {enc : TypeId × Value → H} {w : World} {base : Nat} {spare : Nat → Bool} {held : Bool} {r : Reach} {b0 : Nat} {t : TypeId} {v : Value} {d : DataW H} {p : List MemPlace}
theorem act_of {fs : Array Field} (hs : Try.prog.underlying 51 = some (.struct fs)) (h0 : (fs[0]?).map (fun f => (f.offset, f.type)) = some (0, 3)) (h1 : (fs[1]?).map (fun f => (f.offset, f.type)) = some (1, 9))
    (h2 : (fs[2]?).map (fun f => (f.offset, f.type)) = some (2, 22)) (h3 : (fs[3]?).map (fun f => (f.offset, f.type)) = some (3, 3))
    (n : Nat) (cs : List Value) (x : DataW H × List MemPlace) (hl : cs.length = 4) (h : DataW.trod enc Try.prog w base spare held n 51 cs = some x) : ∃ y, cs = actCells y ∧ GoodA w y := by
  obtain ⟨c0, c1, c2, c3, rfl⟩ : ∃ c0 c1 c2 c3, cs = [c0, c1, c2, c3] := by
    match cs, hl with
    | [c0, c1, c2, c3], _ => exact ⟨c0, c1, c2, c3, rfl⟩
  obtain ⟨xs, m, _, _, _, hxl, hf⟩ := DataW.trod_struct hs h
  have get : ∀ (i : Nat) (o : Nat) (ty : TypeId), (fs[i]?).map (fun f => (f.offset, f.type)) = some (o, ty) → Try.prog.cellsOf ty = 1 → ∃ z, DataW.trod enc Try.prog w base spare held m ty ((([c0, c1, c2, c3] : List Value).drop o).take 1) = some z := by
    intro i o ty hi hc
    cases hfi : fs[i]? with
    | none => rw [hfi] at hi; cases hi
    | some f =>
      rw [hfi] at hi
      simp only [Option.map_some, Option.some.injEq, Prod.mk.injEq] at hi
      obtain ⟨rfl, rfl⟩ := hi
      have := hf i f hfi
      rw [hc] at this
      have hlt : i < xs.length := by rw [hxl]; exact (Array.getElem?_eq_some_iff.1 hfi).1
      exact ⟨xs[i], by rw [this, List.getElem?_eq_getElem hlt]⟩
  obtain ⟨z0, g0⟩ := get 0 0 _ h0 (by kernel_rfl)
  obtain ⟨z1, g1⟩ := get 1 1 _ h1 (by kernel_rfl)
  obtain ⟨z2, g2⟩ := get 2 2 _ h2 (by kernel_rfl)
  obtain ⟨z3, g3⟩ := get 3 3 _ h3 (by kernel_rfl)
  obtain ⟨k, e0, w0⟩ := int_of (enc := enc) Try.underlying3 g0
  obtain ⟨s, e1, _, w1⟩ := DataW.trod_string (enc := enc) Try.underlying9 g1
  obtain ⟨a, c, l, e2, w2⟩ := bytes_of (enc := enc) Try.underlying22 Try.underlying5 (by kernel_rfl) g2
  obtain ⟨j, e3, w3⟩ := int_of (enc := enc) Try.underlying3 g3
  simp only [List.drop_zero, List.drop_succ_cons, List.take_succ_cons, List.take_zero, List.cons.injEq, and_true] at e0 e1 e2 e3
  subst e0 e1 e2 e3
  exact ⟨⟨k, s, l, a, c, j⟩, rfl, ⟨w1, w2, w0, w3⟩⟩
theorem get_acts {fs : Array Field} (hs : Try.prog.underlying 51 = some (.struct fs)) (h0 : (fs[0]?).map (fun f => (f.offset, f.type)) = some (0, 3)) (h1 : (fs[1]?).map (fun f => (f.offset, f.type)) = some (1, 9))
    (h2 : (fs[2]?).map (fun f => (f.offset, f.type)) = some (2, 22)) (h3 : (fs[3]?).map (fun f => (f.offset, f.type)) = some (3, 3))
    (hv : Value.okWide Try.prog w r b0 43 v) (h : DataW.Trod enc Try.prog w base spare held 43 v d p) :
    ∃ (a : Option Addr) (c : Nat) (l : List Ac), v = .slice a l.length c ∧ SlR w 4 (.slice a l.length c) l.length (l.flatMap actCells) ∧ ∀ y ∈ l, GoodA w y :=
  get_sl Try.underlying43 (by kernel_rfl) (by decide) actCells (GoodA w) (fun _ => rfl) (act_of hs h0 h1 h2 h3) hv h
end
/-- What long lets by. -/
def Short (l : List Ac) : Prop := l.length < 200 ∧ ∀ y, y ∈ l → y.nm.size ≤ 50 ∧ y.data.length ≤ 2100
theorem act_at {w : World} {a : Option Addr} {c : Nat} {l : List Ac} (h : SlR w 4 (.slice a l.length c) l.length (l.flatMap actCells)) {i : Nat} (hi : i < l.length) :
    ∃ g o, a = some ⟨g, o, none⟩ ∧ g < w.heap.size ∧ w.cell? ⟨g, o + i * 4, none⟩ = some (.int .i64 l[i].kind) ∧ w.cell? ⟨g, o + i * 4 + 1, none⟩ = some (.string l[i].nm) ∧
      w.cell? ⟨g, o + i * 4 + 2, none⟩ = some (.slice l[i].da l[i].data.length l[i].dc) ∧ w.cell? ⟨g, o + i * 4 + 3, none⟩ = some (.int .i64 l[i].id) := by
  obtain ⟨g, o, rfl, hg, hc⟩ := SlR.cellK h (fun y _ => rfl) hi
  refine ⟨g, o, rfl, hg, ?_, ?_, ?_, ?_⟩
  · simpa using hc 0 _ rfl (by decide)
  · have := hc 1 _ rfl (by decide); rwa [← Nat.add_assoc] at this
  · have := hc 2 _ rfl (by decide); rwa [← Nat.add_assoc] at this
  · have := hc 3 _ rfl (by decide); rwa [← Nat.add_assoc] at this
def LongPost (w : World) (l : List Ac) (e : Ending) (w' : World) : Prop := ∃ b, e = .returned (.bool b) ∧ w = w' ∧ (b = false → Short l)
set_option maxRecDepth 100000 in
set_option maxHeartbeats 1000000 in
theorem long_any (w : World) (a : Option Addr) (c : Nat) (l : List Ac) (h : SlR w 4 (.slice a l.length c) l.length (l.flatMap actCells)) (hg : ∀ y ∈ l, GoodA w y) :
    Calls Try.prog 21 #[.slice a l.length c] w (LongPost w l) := by
  go_enter Try.func21, Try.ntmps21
  go_wp2_with fail
  go_loop [3] (fun i => ∃ k : Nat, k ≤ l.length ∧ i = .int .i64 k ∧ ∀ j y, j < k → l[j]? = some y → y.nm.size ≤ 50 ∧ y.data.length ≤ 2100) (fun i => l.length - (intOf i).toNat)
  case atStart => exact ⟨0, Nat.zero_le _, rfl, fun j y hj => by omega⟩
  case round =>
    obtain ⟨k, hk, rfl, hno⟩ := hrel
    by_cases hlt : k < l.length
    · by_cases h200 : k < 200
      · obtain ⟨g, o, rfl, hgw, c0, c1, c2, c3⟩ := act_at h hlt
        have hgood := hg l[k] (List.getElem_mem _)
        have hnx : ∀ y, l[k] = y → y.nm.size ≤ 50 → y.data.length ≤ 2100 → ∀ j z, j < k + 1 → l[j]? = some z → z.nm.size ≤ 50 ∧ z.data.length ≤ 2100 := fun y hy q1 q2 j z hj hz => by
          by_cases e : j = k
          · subst e
            rw [List.getElem?_eq_getElem hlt, hy] at hz; cases hz; exact ⟨q1, q2⟩
          · exact hno j z (by omega) hz
        have hn2 := hgood.nm
        have hd2 : l[k].data.length ≤ maxLen := by obtain ⟨_, _, _, e, h1, h2, _⟩ := hgood.data; simp only [Value.slice.injEq] at e; omega
        have HX := Lib.hid (hnx l[k] rfl)
        have HN := Lib.hid hno
        generalize l[k] = y at c0 c1 c2 c3 hn2 hd2 HX
        have t1 : decide ((k : Int) < 200) = true := by simp; omega
        have hn3 : y.nm.size ≤ 9223372036854775807 := by unfold maxLen at hn2; omega
        have hd3 : y.data.length ≤ 9223372036854775807 := by unfold maxLen at hd2; omega
        clear hn2 hd2
        clear hnx hgood hno hg
        go_wp2_with fail
        · go_ret
          exact ⟨true, rfl, rfl, fun q => by cases q⟩
        · exact ⟨⟨k + 1, by omega, by go_num, HX.out (by omega) (by omega)⟩, by simp [intOf]; omega⟩
        · go_ret
          exact ⟨true, rfl, rfl, fun q => by cases q⟩
      · have t1 : decide ((k : Int) < 200) = false := by simp; omega
        have t2 : decide ((200 : Int) ≤ l.length) = true := by simp; omega
        clear hno hg
        go_wp2_with fail
        go_ret
        exact ⟨true, rfl, rfl, fun q => by cases q⟩
    · obtain rfl : k = l.length := by omega
      have HN := Lib.hid hno
      clear hno hg
      by_cases h200 : l.length < 200
      · have t2 : decide ((200 : Int) ≤ l.length) = false := by simp; omega
        go_wp2_with fail
        go_ret
        exact ⟨false, rfl, rfl, fun _ => ⟨h200, fun y hy => by
          obtain ⟨j, hj, rfl⟩ := List.mem_iff_getElem.1 hy
          exact HN.out j _ hj (List.getElem?_eq_getElem hj)⟩⟩
      · have t2 : decide ((200 : Int) ≤ l.length) = true := by simp; omega
        go_wp2_with fail
        go_ret
        exact ⟨true, rfl, rfl, fun q => by cases q⟩
end Go.Proofs.Ytnjkchbombjemaa.Rf
