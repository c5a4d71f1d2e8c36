/- seqs: the program's numbers. The library's iterator Backward over steps, and over rows. seqs: the program's Pack: what its two loops keep. seqs: the program's Pack. -/
import Derived.RangeFuncNested
import Derived.Test.YtmioiaeiflbmhaaGreatX23
import Derived.Test.YtmioiaeiflbmhaaGreatX11
import Derived.Test.YtmioiaeiflbmhaaGreatX20
namespace Go.Mg
open Go Go.RowKit Go.ChangeMaps Go.MapKept
theorem wpList_grow {α : Type} {e : TypeId} {enc : α → Value} {P : Program} {B : Nat} (w : World) {ops : Array Oper} {rest : List Oper} {o : Oper} {a : Act} {Q : Exit → Act → World → Prop} (hgd : o.guard = none) (s x : Operand) (t : TypeId) (ho : o.op = .call { callee := .builtin .append, args := #[s, x], argTypes := #[t, t] })
    (i : TypeInfo) (z : Value) (bytes : Nat) (ht : P.underlying t = some (.slice e)) (hi : P.info? e = some i) (hz : i.zero = some z) (hsize : i.size = 1) (hby : i.bytes = bytes) (hzs : z.cells.size = 1) (hbp : 0 < bytes)
    (h1 : ∀ y, (enc y).oneCell' = true) (v : Value) (l : List α) (hs : a.eval s = v) (hrow : RowM e enc B w v l) (hB : B ≤ w.heap.size) (xv : Value) (m : Nat) (r : List α) (hx : a.eval x = xv) (hsl : SlR w 1 xv m (r.map enc)) (hm : r.length = m) (n' : Nat) (hn : l.length + m = n') (hbytes : n' * bytes ≤ 140737488355328)
    (h : ∀ a' c' w', Grown e enc B w w' v (.slice a' n' c') (l ++ r) → wpList P ops Q rest (a.put o.dst (.slice a' n' c')) w') : wpList P ops Q (o :: rest) a w := by
  have e1 : ∀ u ∈ r.map enc, u.oneCell' = true := by
    intro u hu
    obtain ⟨y, _, rfl⟩ := List.mem_map.1 hu
    exact h1 y
  obtain ⟨av, cv, rfl, hown, hb⟩ := hrow
  exact wpList_app w hgd s x t ho e i z 1 bytes ht hi hz hsize hby hzs (by omega) hbp _ _ _ hs hown xv m _ hx hsl e1 (by rw [hn]; exact hbytes) (fun v' w' g1 g2 g3 g4 g5 => by
    obtain ⟨b1, d1, rfl⟩ := g1.form
    subst hn
    subst hm
    refine h _ _ _ ⟨⟨b1, d1, by simp, by rw [List.length_append, List.map_append]; exact g1, fun k hk => ?_⟩, fun k hk => ?_, g2⟩
    · rcases g3 with q | q
      · exact hb k (q.symm.trans hk)
      · rw [hk] at q
        cases q
        exact hB
    · rcases g3 with q | q
      · exact .inl (q.symm.trans hk)
      · rw [hk] at q
        cases q
        exact .inr rfl)
end Go.Mg
namespace Go.Proofs.YtmioiaeiflbmhaaGreat.Ma
open Go Go.RowKit Go.ChangeMaps Go.MapKept Go.Mg Go.Mt Go.Proofs.YtmioiaeiflbmhaaGreat.Hu Go.Proofs.YtmioiaeiflbmhaaGreat.Bw Go.Proofs.YtmioiaeiflbmhaaGreat.He Go.Proofs.YtmioiaeiflbmhaaGreat.Sq
def lits (l : List Sq) (n : Nat) : List Nat := (List.range n).map (lit l)
def mors (l : List Sq) (n : Nat) : List Nat := (List.range n).map (mor l)
theorem lits_succ (l : List Sq) (n : Nat) : lits l (n + 1) = lits l n ++ [lit l n] := by simp [lits, List.range_succ]
theorem mors_succ (l : List Sq) (n : Nat) : mors l (n + 1) = mors l n ++ [mor l n] := by simp [mors, List.range_succ]
theorem lits_len (l : List Sq) (n : Nat) : (lits l n).length = n := by simp [lits]
theorem mors_len (l : List Sq) (n : Nat) : (mors l n).length = n := by simp [mors]
def A3 (w : World) (g : Nat) (x y z : Value) : Prop := w.heap[g]? = some (.cells #[x, y, z] 194 (0, 0))
theorem A3.set0 {w : World} {g : Nat} {x y z : Value} (h : A3 w g x y z) (u : Value) : A3 (w.setCell ⟨g, 0, none⟩ u) g u y z := setCell_at (i := 0) h u
theorem A3.set1 {w : World} {g : Nat} {x y z : Value} (h : A3 w g x y z) (u : Value) : A3 (w.setCell ⟨g, 1, none⟩ u) g x u z := setCell_at (i := 1) h u
theorem A3.set2 {w : World} {g : Nat} {x y z : Value} (h : A3 w g x y z) (u : Value) : A3 (w.setCell ⟨g, 2, none⟩ u) g x y u := setCell_at (i := 2) h u
theorem A3.cells {w : World} {g : Nat} {x y z : Value} (h : A3 w g x y z) : w.cell? ⟨g, 0, none⟩ = some x ∧ w.cell? ⟨g, 1, none⟩ = some y ∧ w.cell? ⟨g, 2, none⟩ = some z := by
  refine ⟨?_, ?_, ?_⟩ <;> rw [cell_of h] <;> rfl
theorem A3.kp {w w' : World} {g : Nat} {x y z : Value} {F : Nat → Prop} (h : A3 w g x y z) (hk : Kp F w w') (hF : ¬ F g) : A3 w' g x y z := hk.at_ h hF
def NumPost (w : World) (l : List Sq) (h : H3) (e : Ending) (w' : World) : Prop := ∃ x y z, e = .returned (.tuple #[.agg #[x, y, z], hv3 (hs (ofs l) h l.length)]) ∧ RowI w.heap.size w' x (lits l l.length) ∧ RowI w.heap.size w' y (vals l h l.length) ∧ RowI w.heap.size w' z (mors l l.length) ∧ Kp (fun _ => False) w w'
structure NumI (w W : World) (G : Nat) (HH : H3) (VA : List Nat) (v1 : Value) (L M : List Nat) (v0 v2 : Value) (wr : World) : Prop where
  arr : A3 wr (G + 1 + 1 + 1) v0 v1 v2
  hat : HAt wr G HH
  res0 : A3 wr (G + 1) (.slice none 0 0) (.slice none 0 0) (.slice none 0 0)
  res1 : HAt wr (G + 1 + 1) ⟨0, 0, 0⟩
  r0 : RowI W.heap.size wr v0 L
  r1 : RowI W.heap.size wr v1 VA
  r2 : RowI W.heap.size wr v2 M
  p01 : Apart2 v0 v1
  p02 : Apart2 v0 v2
  p21 : Apart2 v2 v1
  kp : Kp (fun _ => False) w wr
  sz : W.heap.size ≤ wr.heap.size
theorem NumI.kept {w W : World} {G : Nat} {HH : H3} {VA : List Nat} {v1 : Value} {L M : List Nat} {v0 v2 : Value} {wr V : World} (h : NumI w W G HH VA v1 L M v0 v2 wr) (hk : Kp (fun _ => False) wr V) : NumI w W G HH VA v1 L M v0 v2 V :=
  ⟨h.arr.kp hk (fun q => q), h.hat.kp hk (fun q => q), h.res0.kp hk (fun q => q), h.res1.kp hk (fun q => q), h.r0.kp0 hk, h.r1.kp0 hk, h.r2.kp0 hk, h.p01, h.p02, h.p21, h.kp.trans hk, Nat.le_trans h.sz hk.size⟩
theorem NumI.grow0 {w W : World} {G : Nat} {HH : H3} {VA : List Nat} {v1 : Value} {L M L' : List Nat} {v0 v2 v' : Value} {V V' : World} (h : NumI w W G HH VA v1 L M v0 v2 V) (hG : w.heap.size ≤ G) (hW : G + 4 ≤ W.heap.size) (g : Grown 3 iv W.heap.size V V' v0 v' L') :
    A3 V' (G + 1 + 1 + 1) v0 v1 v2 ∧ NumI w W G HH VA v1 L' M v' v2 (V'.setCell ⟨G + 1 + 1 + 1, 0, none⟩ v') := by
  have hn : ∀ k, v0.ownBlock = some k → W.heap.size ≤ k := fun k q => (h.r0.lt q).1
  have ha := h.arr.kp g.2.2 (fun q => by have := hn _ q; omega)
  have ks := (Kp.refl (· = G + 1 + 1 + 1) V').setCell (p := ⟨G + 1 + 1 + 1, 0, none⟩) (fun _ => rfl) v'
  refine ⟨ha, ha.set0 _, (h.hat.kp g.2.2 (fun q => by have := hn _ q; omega)).kp ks (by omega), (h.res0.kp g.2.2 (fun q => by have := hn _ q; omega)).kp ks (by omega), (h.res1.kp g.2.2 (fun q => by have := hn _ q; omega)).kp ks (by omega), g.1.kp ks (fun k q => by omega), (g.other h.p01 h.r1).kp ks (fun k q => by omega), (g.other h.p02 h.r2).kp ks (fun k q => by omega), g.apart h.p01 (fun k q => (h.r1.lt q).2), g.apart h.p02 (fun k q => (h.r2.lt q).2), h.p21, (h.kp.trans2 g.2.2 (fun i hi q => by have := hn _ q; omega)).trans2 ks (fun i hi q => by omega), ?_⟩
  have := h.sz
  have := g.2.2.size
  have := ks.size
  omega
theorem NumI.grow2 {w W : World} {G : Nat} {HH : H3} {VA : List Nat} {v1 : Value} {L M M' : List Nat} {v0 v2 v' : Value} {V V' : World} (h : NumI w W G HH VA v1 L M v0 v2 V) (hG : w.heap.size ≤ G) (hW : G + 4 ≤ W.heap.size) (g : Grown 3 iv W.heap.size V V' v2 v' M') :
    A3 V' (G + 1 + 1 + 1) v0 v1 v2 ∧ NumI w W G HH VA v1 L M' v0 v' (V'.setCell ⟨G + 1 + 1 + 1, 2, none⟩ v') := by
  have hn : ∀ k, v2.ownBlock = some k → W.heap.size ≤ k := fun k q => (h.r2.lt q).1
  have ha := h.arr.kp g.2.2 (fun q => by have := hn _ q; omega)
  have ks := (Kp.refl (· = G + 1 + 1 + 1) V').setCell (p := ⟨G + 1 + 1 + 1, 2, none⟩) (fun _ => rfl) v'
  refine ⟨ha, ha.set2 _, (h.hat.kp g.2.2 (fun q => by have := hn _ q; omega)).kp ks (by omega), (h.res0.kp g.2.2 (fun q => by have := hn _ q; omega)).kp ks (by omega), (h.res1.kp g.2.2 (fun q => by have := hn _ q; omega)).kp ks (by omega), (g.other h.p02.symm h.r0).kp ks (fun k q => by omega), (g.other h.p21 h.r1).kp ks (fun k q => by omega), g.1.kp ks (fun k q => by omega), h.p01, (g.apart h.p02.symm (fun k q => (h.r0.lt q).2)).symm, g.apart h.p21 (fun k q => (h.r1.lt q).2), (h.kp.trans2 g.2.2 (fun i hi q => by have := hn _ q; omega)).trans2 ks (fun i hi q => by omega), ?_⟩
  have := h.sz
  have := g.2.2.size
  have := ks.size
  omega
set_option maxRecDepth 100000 in
set_option maxHeartbeats 4000000 in
theorem numbers_p (w : World) (l : List Sq) (al : Option Addr) (cl : Nat) (hl : SlR w 3 (.slice al l.length cl) l.length (l.flatMap sqc)) (hm : May l) (h : H3) :
    Calls Tryz.prog 145 #[.slice al l.length cl, hv3 h] w (NumPost w l h) := by
  obtain ⟨i0, hi0, hz0, hz1, hz2⟩ := info_parts infoI_
  have hlen := hm.1
  have OP := Lib.hid (fun V (hV : Kp (fun _ => False) w V) => offsets_p V l al cl (hl.kp hV (fun _ _ q => q)) hm h)
  have HL : Hid (0 < l.length → ∃ g o, al = some ⟨g, o, none⟩ ∧ g < w.heap.size ∧ l.length ≤ cl ∧ ∀ V, Kp (fun _ => False) w V → ∀ i, i < l.length → V.cell? ⟨g, o + i * 3, none⟩ = some (.int .i64 (lit l i : Nat)) ∧ V.cell? ⟨g, o + i * 3 + 1, none⟩ = some (.int .i64 (ofs l i : Nat)) ∧ V.cell? ⟨g, o + i * 3 + 2, none⟩ = some (.int .i64 ((sqAt l i).len : Nat))) := Lib.hid (fun h0 => by
    obtain ⟨g, o, e, hg, hc, hs⟩ := sq_at hl h0
    exact ⟨g, o, e, hg, hc, fun V hk i hi => ⟨(hk.cell (p := ⟨g, o + i * 3, none⟩) hg (fun q => q)).trans (hs i hi).1, (hk.cell (p := ⟨g, o + i * 3 + 1, none⟩) hg (fun q => q)).trans (hs i hi).2.1, (hk.cell (p := ⟨g, o + i * 3 + 2, none⟩) hg (fun q => q)).trans (hs i hi).2.2⟩⟩)
  have HMR : Hid (∀ i, i < l.length → 4 ≤ (sqAt l i).len ∧ (sqAt l i).len ≤ 500 ∧ mor l i = (sqAt l i).len - 4) := Lib.hid (fun i hi => ⟨(hm.at_ hi).2.2.2.1, (hm.at_ hi).2.2.2.2, rfl⟩)
  have HLT := Lib.hid (lit_le hm)
  have HLS := Lib.hid (lits_succ l)
  have HMS := Lib.hid (mors_succ l)
  have HLL := Lib.hid (lits_len l)
  have HML := Lib.hid (mors_len l)
  have H0 : Hid (lits l 0 = [] ∧ mors l 0 = []) := Lib.hid ⟨rfl, rfl⟩
  have HVL := Lib.hid (vals_len l h l.length)
  unfold NumPost
  unfold OffPost at OP
  obtain ⟨n, hn⟩ : ∃ n, n = l.length := ⟨_, rfl⟩
  rw [← hn] at HL hlen OP HMR HVL ⊢
  obtain ⟨VA, hVA⟩ : ∃ VA, VA = vals l h n := ⟨_, rfl⟩
  obtain ⟨HH, hHH⟩ : ∃ HH, HH = hs (ofs l) h n := ⟨_, rfl⟩
  rw [← hVA] at OP HVL ⊢
  rw [← hHH] at OP ⊢
  obtain ⟨LA, hLA⟩ : ∃ LA, LA = lits l := ⟨_, rfl⟩
  obtain ⟨MA, hMA⟩ : ∃ MA, MA = mors l := ⟨_, rfl⟩
  rw [← hLA] at HLS HLL H0 ⊢
  rw [← hMA] at HMS HML H0 ⊢
  clear hl hm hn hVA hHH hLA hMA
  obtain ⟨ha, hb, hc⟩ := h
  unfold hv3 at OP ⊢
  obtain ⟨W, hW⟩ : ∃ W, W = (((w.alloc (.cells #[.int .i64 (ha : Nat), .int .i64 (hb : Nat), .int .i64 (hc : Nat)] 82)).alloc (.cells #[.slice none 0 0, .slice none 0 0, .slice none 0 0] 194)).alloc (.cells #[.int .i64 0, .int .i64 0, .int .i64 0] 82)).alloc (.cells #[.slice none 0 0, .slice none 0 0, .slice none 0 0] 194) := ⟨_, rfl⟩
  have hws : W.heap.size = w.heap.size + 4 := by rw [hW]; simp
  have kr : ∀ X, Kp (fun _ => False) X X := fun X => Kp.refl _ X
  have hkW : Kp (fun _ => False) w W := by rw [hW]; exact ((((kr _).alloc _).alloc _).alloc _).alloc _
  have hG0 : HAt W w.heap.size ⟨ha, hb, hc⟩ := by
    rw [hW]; exact ((((kr _).alloc _).alloc _).alloc _).at_ (alloc_at w _) (fun q => q)
  have hG1 : A3 W (w.heap.size + 1) (.slice none 0 0) (.slice none 0 0) (.slice none 0 0) := by
    have := alloc_at (w.alloc (.cells #[.int .i64 (ha : Nat), .int .i64 (hb : Nat), .int .i64 (hc : Nat)] 82)) (.cells #[.slice none 0 0, .slice none 0 0, .slice none 0 0] 194)
    rw [World.size_alloc] at this
    rw [hW]; exact (((kr _).alloc _).alloc _).at_ this (fun q => q)
  have hG2 : HAt W (w.heap.size + 1 + 1) ⟨0, 0, 0⟩ := by
    have := alloc_at ((w.alloc (.cells #[.int .i64 (ha : Nat), .int .i64 (hb : Nat), .int .i64 (hc : Nat)] 82)).alloc (.cells #[.slice none 0 0, .slice none 0 0, .slice none 0 0] 194)) (.cells #[.int .i64 0, .int .i64 0, .int .i64 0] 82)
    rw [World.size_alloc, World.size_alloc] at this
    rw [hW]; exact ((kr _).alloc _).at_ this (fun q => q)
  have hG3 : A3 W (w.heap.size + 1 + 1 + 1) (.slice none 0 0) (.slice none 0 0) (.slice none 0 0) := by
    have := alloc_at (((w.alloc (.cells #[.int .i64 (ha : Nat), .int .i64 (hb : Nat), .int .i64 (hc : Nat)] 82)).alloc (.cells #[.slice none 0 0, .slice none 0 0, .slice none 0 0] 194)).alloc (.cells #[.int .i64 0, .int .i64 0, .int .i64 0] 82)) (.cells #[.slice none 0 0, .slice none 0 0, .slice none 0 0] 194)
    rw [World.size_alloc, World.size_alloc, World.size_alloc] at this
    rw [hW]; exact this
  obtain ⟨c0, c1, c2⟩ := hG0.cells
  have HW := Lib.hid hW
  have HWS := Lib.hid hws
  have HKW := Lib.hid hkW
  have OPW := Lib.hid (OP.out W hkW)
  have HG0 := Lib.hid hG0
  have HG1 := Lib.hid hG1
  have HG2 := Lib.hid hG2
  have HG3 := Lib.hid hG3
  clear OP hG0 hG1 hG2 hG3 hW hws hkW kr
  go_enter Tryz.func145, Tryz.ntmps145
  go_wp2_with fail
  rw [← HW.out]
  refine OPW.out.mono ?_
  rintro e w1 ⟨v1, rfl, hr1, hk1⟩
  obtain ⟨a1, d1, rfl, ho1, hb1⟩ := hr1
  have hr1 : RowI W.heap.size w1 (.slice a1 VA.length d1) VA := ⟨a1, d1, rfl, ho1, hb1⟩
  clear ho1 hb1
  rw [HVL.out] at hr1 ⊢
  obtain ⟨G, hG⟩ : ∃ G, G = w.heap.size := ⟨_, rfl⟩
  rw [← hG] at HG0 HG1 HG2 HG3 c0 c1 c2 HWS ⊢
  have HGE := Lib.hid hG
  have A1 := HG3.out.kp hk1 (fun q => q)
  have f1 : w1.frozen? ⟨G + 1 + 1 + 1, 1, none⟩ = false := free_of A1 1
  obtain ⟨_, q1, _⟩ := A1.cells
  have AS := A1.set1 (.slice a1 n d1)
  have ks1 := (Kp.refl (· = G + 1 + 1 + 1) w1).setCell (p := ⟨G + 1 + 1 + 1, 1, none⟩) (fun _ => rfl) (.slice a1 n d1)
  obtain ⟨V1, hV1⟩ : ∃ V1, V1 = w1.setCell ⟨G + 1 + 1 + 1, 1, none⟩ (.slice a1 n d1) := ⟨_, rfl⟩
  rw [← hV1] at AS ks1
  have hav := (HG0.out.kp hk1 (fun q => q)).kp ks1 (by omega)
  obtain ⟨s0, s1, s2⟩ := hav.cells
  have e0 : V1.frozen? ⟨G, 0, none⟩ = false := free_of hav 0
  have e1 : V1.frozen? ⟨G, 1, none⟩ = false := free_of hav 1
  have e2 : V1.frozen? ⟨G, 2, none⟩ = false := free_of hav 2
  obtain ⟨hst, hks⟩ := hav.store HH.a HH.b HH.c
  obtain ⟨V2, hV2⟩ : ∃ V2, V2 = ((V1.setCell ⟨G, 0, none⟩ (.int .i64 (HH.a : Nat))).setCell ⟨G, 1, none⟩ (.int .i64 (HH.b : Nat))).setCell ⟨G, 2, none⟩ (.int .i64 (HH.c : Nat)) := ⟨_, rfl⟩
  rw [← hV2] at hst hks
  have hfold1 := hV1.symm
  have hfold2 := hV2.symm
  have HI0 : Hid (NumI w W G HH VA (.slice a1 n d1) (LA 0) (MA 0) (.slice none 0 0) (.slice none 0 0) V2) := Lib.hid ⟨AS.kp hks (by omega), hst, ((HG1.out.kp hk1 (fun q => q)).kp ks1 (by omega)).kp hks (by omega), ((HG2.out.kp hk1 (fun q => q)).kp ks1 (by omega)).kp hks (by omega), by rw [H0.out.1]; exact RowM.nil _ _ _, (hr1.kp ks1 (fun k q => by have := HWS.out; omega)).kp hks (fun k q => by have := HWS.out; omega), by rw [H0.out.2]; exact RowM.nil _ _ _, (fun k q => by cases q), (fun k q => by cases q), (fun k q => by cases q), (((HKW.out.trans hk1).trans2 ks1 (fun i hi q => by omega)).trans2 hks (fun i hi q => by omega)), by have := hk1.size; have := ks1.size; have := hks.size; omega⟩
  have HWZ : Hid (G + 4 ≤ W.heap.size) := Lib.hid (by have := HWS.out; omega)
  have HGG : Hid (w.heap.size ≤ G) := Lib.hid (by omega)
  clear hr1 hk1 A1 AS ks1 hV1 hV2 hst hks hav H0 OPW HW HG0 HG1 HG2 HG3 HKW c0 c1 c2 hG
  go_wp2_with fail
  clear hfold1 hfold2 f1 q1 s0 s1 s2 e0 e1 e2
  go_loopw [18] (fun i wr => ∃ (k : Nat) (a0 a2 : Option Addr) (d0 d2 : Nat), k ≤ n ∧ i = .int .i64 k ∧ NumI w W G HH VA (.slice a1 n d1) (LA k) (MA k) (.slice a0 k d0) (.slice a2 k d2) wr) (fun i _ => n - (intOf i).toNat)
  case atStart => exact ⟨0, _, _, _, _, Nat.zero_le _, rfl, HI0.out⟩
  case round =>
    clear HI0
    obtain ⟨k, a0, a2, z0, z2, hk, rfl, hI⟩ := hrel
    have HI := Lib.hid hI
    by_cases hlt : k < n
    · obtain ⟨g, o, rfl, hgs, hcl, hcc⟩ := HL.out (by omega)
      obtain ⟨d0, d1, d2⟩ := hcc _ hI.kp k hlt
      obtain ⟨m4, m5, hmr⟩ := HMR.out k hlt
      have hls := HLS.out k
      have hms := HMS.out k
      have hl5 := HLT.out k
      obtain ⟨x, hx⟩ : ∃ x, x = lit l k := ⟨_, rfl⟩
      obtain ⟨q, hq⟩ : ∃ q, q = ofs l k := ⟨_, rfl⟩
      obtain ⟨z, hz⟩ : ∃ z, z = (sqAt l k).len := ⟨_, rfl⟩
      obtain ⟨y, hy⟩ : ∃ y, y = mor l k := ⟨_, rfl⟩
      rw [← hx] at d0 hls hl5
      rw [← hq] at d1
      rw [← hz] at d2 m4 m5 hmr
      rw [← hy] at hms hmr
      have hzy : (z : Int) - 4 = (y : Nat) := by omega
      have HLSK := Lib.hid hls
      have HMSK := Lib.hid hms
      have HLENa := Lib.hid (HLL.out k)
      have HLENb := Lib.hid (HML.out k)
      have ka := kp_alloc wr (.cells #[.int .i64 (x : Nat), .int .i64 (q : Nat), .int .i64 (z : Nat)] 186)
      have hAB : (wr.alloc (.cells #[.int .i64 (x : Nat), .int .i64 (q : Nat), .int .i64 (z : Nat)] 186)).heap[wr.heap.size]? = _ := alloc_at wr _
      obtain ⟨V0, hV0⟩ : ∃ V0, V0 = wr.alloc (.cells #[.int .i64 (x : Nat), .int .i64 (q : Nat), .int .i64 (z : Nat)] 186) := ⟨_, rfl⟩
      rw [← hV0] at ka hAB
      obtain ⟨AB, hABe⟩ : ∃ AB, AB = wr.heap.size := ⟨_, rfl⟩
      rw [← hABe] at hAB
      have b0 : V0.cell? ⟨AB, 0, none⟩ = some (.int .i64 (x : Nat)) := by rw [cell_of hAB]; rfl
      obtain ⟨p0, _, _⟩ := (hI.arr.kp ka (fun q => q)).cells
      have ta := lit_m V0 3 [iv x] (n := 1) rfl (by omega)
      have Ta := Lib.hid ta
      have kb := kp_alloc V0 (.cells #[.int .i64 (x : Nat)] 3)
      have HIa := Lib.hid ((hI.kept ka).kept kb)
      have Ra := Lib.hid HIa.out.r0
      have Sa := Lib.hid HIa.out.sz
      have HAB1 := Lib.hid (kb.at_ hAB (fun q => q))
      have HABN : Hid (∀ j, (Value.slice a0 k z0).ownBlock = some j → j ≠ AB) := Lib.hid (fun j q => by have := (hI.r0.lt q).2; omega)
      have HABG : Hid (¬ AB = G + 1 + 1 + 1) := Lib.hid (by have := hI.sz; have := HWZ.out; omega)
      have hfold0 := hV0.symm
      have hfoldA := hABe.symm
      clear hI hls hms hmr hx hq hz hy ka hAB ta kb hcc hV0 hABe
      go_wp2_with (first
        | (at_builtin; refine wpList_grow (B := W.heap.size) _ rfl _ _ 179 rfl i0 _ 8 Tryz.underlying179 hi0 hz0 hz1 hz2 rfl (by decide) nv1 (.slice a0 k z0) (LA k) rfl Ra.out Sa.out (.slice (some ⟨V0.heap.size, 0, none⟩) 1 1) 1 [x] rfl Ta.out rfl (k + 1) (by rw [HLENa.out]) (by omega) ?_; intro a5 c5 w6 g1; obtain ⟨ha6, hn6⟩ := HIa.out.grow0 HGG.out HWZ.out g1; obtain ⟨p6, _, _⟩ := ha6.cells; have f6 : w6.frozen? ⟨G + 1 + 1 + 1, 0, none⟩ = false := free_of ha6 0; have hb6 := (g1.2.2.at_ HAB1.out (fun q => HABN.out _ q rfl)); have hb7 := ((Kp.refl (· = G + 1 + 1 + 1) w6).setCell (p := ⟨G + 1 + 1 + 1, 0, none⟩) (fun _ => rfl) (.slice a5 (k + 1) c5)).at_ hb6 HABG.out; obtain ⟨V2, hV2⟩ : ∃ V2, V2 = w6.setCell ⟨G + 1 + 1 + 1, 0, none⟩ (.slice a5 (k + 1) c5) := ⟨_, rfl⟩; rw [← hV2] at hn6 hb7; have hfold2 := hV2.symm; obtain ⟨_, _, p8⟩ := hn6.arr.cells; have b8 : V2.cell? ⟨AB, 2, none⟩ = some (.int .i64 (z : Nat)) := (by rw [cell_of hb7]; rfl); have tb := lit_m V2 3 [iv y] (n := 1) rfl (by omega); have Tb := Lib.hid tb; have kb := kp_alloc V2 (.cells #[.int .i64 (y : Nat)] 3); have HIb := Lib.hid (hn6.kept kb); have Rb := Lib.hid HIb.out.r2; have Sb := Lib.hid HIb.out.sz; clear g1 ha6 hn6 hb6 hb7 hV2 tb kb)
        | (at_builtin; refine wpList_grow (B := W.heap.size) _ rfl _ _ 179 rfl i0 _ 8 Tryz.underlying179 hi0 hz0 hz1 hz2 rfl (by decide) nv1 (.slice a2 k z2) (MA k) rfl Rb.out Sb.out (.slice (some ⟨V2.heap.size, 0, none⟩) 1 1) 1 [y] rfl Tb.out rfl (k + 1) (by rw [HLENb.out]) (by omega) ?_; intro a7 c7 w8 g1; obtain ⟨ha8, hn8⟩ := HIb.out.grow2 HGG.out HWZ.out g1; obtain ⟨_, _, p9⟩ := ha8.cells; have f9 : w8.frozen? ⟨G + 1 + 1 + 1, 2, none⟩ = false := free_of ha8 2; have HN8 := Lib.hid hn8; clear g1 ha8 hn8))
      refine ⟨⟨k + 1, a5, a7, c5, c7, by omega, by go_num, ?_⟩, by simp [intOf]; try omega⟩
      rw [HLSK.out, HMSK.out]
      exact HN8.out
    · obtain rfl : k = n := by omega
      obtain ⟨t0, t1, t2⟩ := hI.arr.cells
      obtain ⟨u0, u1, u2⟩ := hI.hat.cells
      obtain ⟨x0, x1, x2⟩ := hI.res0.cells
      obtain ⟨y0, y1, y2⟩ := hI.res1.cells
      have f0 : wr.frozen? ⟨G + 1, 0, none⟩ = false := free_of hI.res0 0
      have f1 : wr.frozen? ⟨G + 1, 1, none⟩ = false := free_of hI.res0 1
      have f2 : wr.frozen? ⟨G + 1, 2, none⟩ = false := free_of hI.res0 2
      have f3 : wr.frozen? ⟨G + 1 + 1, 0, none⟩ = false := free_of hI.res1 0
      have f4 : wr.frozen? ⟨G + 1 + 1, 1, none⟩ = false := free_of hI.res1 1
      have f5 : wr.frozen? ⟨G + 1 + 1, 2, none⟩ = false := free_of hI.res1 2
      clear hI HMR HLT HLS HMS HLL HML HL
      go_wp2_with fail
      go_region
      all_goals (go_wp2_with fail)
      have hI := HI.out
      have hm1 := ((hI.res0.set0 (.slice a0 k z0)).set1 (.slice a1 k d1)).set2 (.slice a2 k z2)
      have km1 := (((Kp.refl (· = G + 1) wr).setCell (p := ⟨G + 1, 0, none⟩) (fun _ => rfl) (.slice a0 k z0)).setCell (p := ⟨G + 1, 1, none⟩) (fun _ => rfl) (.slice a1 k d1)).setCell (p := ⟨G + 1, 2, none⟩) (fun _ => rfl) (.slice a2 k z2)
      obtain ⟨X, hX⟩ : ∃ X, X = ((wr.setCell ⟨G + 1, 0, none⟩ (.slice a0 k z0)).setCell ⟨G + 1, 1, none⟩ (.slice a1 k d1)).setCell ⟨G + 1, 2, none⟩ (.slice a2 k z2) := ⟨_, rfl⟩
      rw [← hX] at hm1 km1 ⊢
      obtain ⟨hst, hkst⟩ := (hI.res1.kp km1 (by omega)).store HH.a HH.b HH.c
      have hm2 := hm1.kp hkst.drew (by omega)
      obtain ⟨w0, w1, w2⟩ := hst.cells
      obtain ⟨q0, q1, q2⟩ := hm2.cells
      have hkk : Kp (fun k => k = G + 1 ∨ k = G + 1 + 1) wr _ := ((km1.mono (fun _ _ q => .inl q)).trans2 hkst (fun i _ q => .inr q)).drew
      have hwz := HWZ.out
      have hgg := HGG.out
      refine bodyPost_ret (v := .tuple #[.agg #[.slice a0 k z0, .slice a1 k d1, .slice a2 k z2], .agg #[.int .i64 (HH.a : Nat), .int .i64 (HH.b : Nat), .int .i64 (HH.c : Nat)]]) ?_ rfl ⟨_, _, _, rfl, (hI.r0.kp hkk (fun j q => by omega)).low (by omega), (hI.r1.kp hkk (fun j q => by omega)).low (by omega), (hI.r2.kp hkk (fun j q => by omega)).low (by omega), hI.kp.trans2 hkk (fun i hi q => by omega)⟩
      simp [results, Tryz.results145, go_sem, w0, w1, w2, q0, q1, q2]
end Go.Proofs.YtmioiaeiflbmhaaGreat.Ma
namespace Go.Proofs.YtmioiaeiflbmhaaGreat.Ma
open Go Go.RowKit Go.Shelf Go.ChangeMaps Go.MapKept Go.Mg Go.Mt Go.Proofs.YtmioiaeiflbmhaaGreat.Hu Go.Proofs.YtmioiaeiflbmhaaGreat.Bw Go.Proofs.YtmioiaeiflbmhaaGreat.He Go.Proofs.YtmioiaeiflbmhaaGreat.Sq Go.Proofs.YtmioiaeiflbmhaaGreat.It
def RdS (n₀ Bs : Nat) (W : World) (a : Option Addr) (cap m : Nat) (L O Z : Nat → Nat) : Prop :=
  (∀ V, KB n₀ Bs W V → V.cell? ⟨Bs, 0, none⟩ = some (.slice a m cap)) ∧
  (0 < m → ∃ g o, a = some ⟨g, o, none⟩ ∧ m ≤ cap ∧ ∀ V, KB n₀ Bs W V → ∀ i, i < m → V.cell? ⟨g, o + i * 3, none⟩ = some (.int .i64 (L i : Nat)) ∧ V.cell? ⟨g, o + i * 3 + 1, none⟩ = some (.int .i64 (O i : Nat)) ∧ V.cell? ⟨g, o + i * 3 + 2, none⟩ = some (.int .i64 (Z i : Nat)))
abbrev encS (m : Nat) (L O Z : Nat → Nat) (x : Nat) : Array Value := #[.int .i64 ((m - 1 - x : Nat) : Int), .agg #[.int .i64 (L (m - 1 - x) : Nat), .int .i64 (O (m - 1 - x) : Nat), .int .i64 (Z (m - 1 - x) : Nat)]]
set_option maxRecDepth 100000 in
set_option maxHeartbeats 2000000 in
theorem backS1_in (F : Fence) (n : Nat) (h7 : F.fn 175) (hro : F.round = none) (hn : 1 ≤ n) (lp Bs n₀ cap : Nat) (a : Option Addr) (m : Nat) (L O Z : Nat → Nat) (hreach : m ≤ 100000) (J Jx : List Nat → World → Prop)
    (hY : ∀ pre x W, J pre W → pre.length < m → YieldAt F (n - 1) Tryz.prog lp (encS m L O Z x) W fun e W' =>
      (e = .returned (.bool true) ∧ J (pre ++ [x]) W' ∧ KB n₀ Bs W W') ∨ (e = .returned (.bool false) ∧ Jx (pre ++ [x]) W'))
    (W : World) (hR : RdS n₀ Bs W a cap m L O Z) (h0 : J [] W) :
    CallsIn F n Tryz.prog 175 #[.func (.yield lp) #[] #[], .pointer (some ⟨Bs, 0, none⟩)] W fun e W' => (∃ v, e = .returned v) ∧
      ((∃ ys, ys = upto id m ∧ J ys W') ∨ (∃ pre, (∃ k, k ≤ m ∧ pre = upto id k) ∧ Jx pre W')) := by
  have HRB := Lib.hid hR.1
  have HRC := Lib.hid hR.2
  have d0 := hR.1 _ (KB.refl _ _ _)
  clear hR
  refine callsIn_of_wp Tryz.func175 rfl h7 ?_ hro
  simp only [Tryz.ntmps175, List.size_toArray, List.length_cons, List.length_nil, Nat.reduceAdd, Nat.reduceSub, Array.replicate_succ, Array.replicate_zero, List.push_toArray, List.append_toArray, List.nil_append, List.cons_append]
  gi_wp2
  gi_loopw [3] (fun i wr => ∃ k : Nat, k ≤ m ∧ i = .int .i64 ((m : Int) - 1 - (k : Nat)) ∧ J (upto id k) wr ∧ KB n₀ Bs W wr)
    (fun i _ => (intOf i + 1).toNat)
  case atStart => exact ⟨0, Nat.zero_le _, by simp, h0, KB.refl _ _ _⟩
  case round =>
    obtain ⟨k, hk, rfl, hJs, hnx⟩ := hrel
    have hcx := HRB.out _ hnx
    by_cases hlt : k < m
    · obtain ⟨q, hq⟩ : ∃ q, q = m - 1 - k := ⟨_, rfl⟩
      have hqn : q < m := by omega
      have hqi : ((m : Int) - 1 - (k : Nat)) = (q : Nat) := by omega
      rw [hqi]
      have HQI := Lib.hid hqi
      have HQE := Lib.hid hq
      clear hqi hq
      obtain ⟨g, o, rfl, hcap, hcells⟩ := HRC.out (by omega)
      obtain ⟨hc0, hc1, hc2⟩ := hcells _ hnx q hqn
      obtain ⟨fn, tmps, assign, body, hy, hR⟩ := hY _ k wr hJs (by rw [upto_length]; exact hlt)
      dsimp only [encS] at hy
      rw [← HQE.out] at hy
      clear hcells
      gi_wp2
      refine hR.mono ?_
      rintro e W3 (⟨rfl, hJ3, hk3⟩ | ⟨rfl, hJx3⟩)
      · gi_wp2
        go_roundw
        case rel => exact ⟨k + 1, by omega, by have := HQI.out; congr 1; omega, by rw [upto_succ]; exact hJ3, hnx.trans hk3⟩
        case measure => simp [intOf]; try omega
      · gi_wp2
        refine bodyPost_ret (results_none rfl _ _ _) rfl ?_
        exact ⟨⟨_, rfl⟩, .inr ⟨_, ⟨k + 1, by omega, by rw [upto_succ]; rfl⟩, hJx3⟩⟩
    · obtain rfl : k = m := by omega
      have hi1 : ((k : Int) - 1 - (k : Nat)) = -1 := by omega
      rw [hi1]
      gi_wp2
      go_end0
      exact ⟨⟨_, rfl⟩, .inl ⟨_, rfl, hJs⟩⟩
theorem backS_stops (F : Fence) (n : Nat) (h7 : F.fn 175) (hro : F.round = none) (hn : 1 ≤ n) (Bs n₀ cap : Nat) (a : Option Addr) (m : Nat) (L O Z : Nat → Nat) (hreach : m ≤ 100000) (w : World) (hR : RdS n₀ Bs w a cap m L O Z) :
    SeqStopsK F n Tryz.prog 175 #[.pointer (some ⟨Bs, 0, none⟩)] (encS m L O Z) (KB n₀ Bs) (fun ys => ys = upto id m) (fun pre => ∃ k, k ≤ m ∧ pre = upto id k) m w := fun lp J Jx W hW _ _ hY h0 =>
  backS1_in F n h7 hro hn lp Bs n₀ cap a m L O Z hreach J Jx hY W ⟨fun V hV => hR.1 V ((KB.of_below hW).trans hV), fun h => by
    obtain ⟨g, o, e, h1, h2⟩ := hR.2 h
    exact ⟨g, o, e, h1, fun V hV => h2 V ((KB.of_below hW).trans hV)⟩⟩ h0
set_option maxHeartbeats 1000000 in
theorem backS_in (F : Fence) (n : Nat) (h5 : F.fn 148) (hro : F.round = none) (a : Option Addr) (len cap : Nat) (w : World) :
    CallsIn F n Tryz.prog 148 #[.slice a len cap] w fun e w' => e = .returned (.func (.func 175) #[] #[.pointer (some ⟨w.heap.size, 0, none⟩)]) ∧ w' = w.alloc (.cells #[.slice a len cap] 155) := by
  refine callsIn_of_wp Tryz.func148 rfl h5 ?_ hro
  simp only [Tryz.ntmps148, List.size_toArray, List.length_cons, List.length_nil, Nat.reduceAdd, Nat.reduceSub, Array.replicate_succ, Array.replicate_zero, List.push_toArray, List.append_toArray, List.nil_append, List.cons_append]
  gi_wp2
  go_ret
  exact ⟨rfl, rfl⟩
theorem backS_c (a : Option Addr) (len cap : Nat) (w : World) :
    Calls Tryz.prog 148 #[.slice a len cap] w fun e w' => e = .returned (.func (.func 175) #[] #[.pointer (some ⟨w.heap.size, 0, none⟩)]) ∧ w' = w.alloc (.cells #[.slice a len cap] 155) :=
  callsIn_wide.1 (backS_in Fence.wide 3 trivial rfl a len cap w)
def RdV (n₀ Bs : Nat) (W : World) (a : Option Addr) (cap m : Nat) (R : Nat → Value) : Prop :=
  (∀ V, KB n₀ Bs W V → V.cell? ⟨Bs, 0, none⟩ = some (.slice a m cap)) ∧
  (0 < m → ∃ g o, a = some ⟨g, o, none⟩ ∧ m ≤ cap ∧ ∀ V, KB n₀ Bs W V → ∀ i, i < m → V.cell? ⟨g, o + i, none⟩ = some (R i))
abbrev encV (m : Nat) (R : Nat → Value) (x : Nat) : Array Value := #[.int .i64 ((m - 1 - x : Nat) : Int), R (m - 1 - x)]
set_option maxRecDepth 100000 in
set_option maxHeartbeats 2000000 in
theorem backV1_in (F : Fence) (n : Nat) (h7 : F.fn 176) (hro : F.round = none) (hn : 1 ≤ n) (lp Bs n₀ cap : Nat) (a : Option Addr) (m : Nat) (R : Nat → Value) (hreach : m ≤ 100000) (J Jx : List Nat → World → Prop)
    (hY : ∀ pre x W, J pre W → pre.length < m → YieldAt F (n - 1) Tryz.prog lp (encV m R x) W fun e W' =>
      (e = .returned (.bool true) ∧ J (pre ++ [x]) W' ∧ KB n₀ Bs W W') ∨ (e = .returned (.bool false) ∧ Jx (pre ++ [x]) W'))
    (W : World) (hR : RdV n₀ Bs W a cap m R) (h0 : J [] W) :
    CallsIn F n Tryz.prog 176 #[.func (.yield lp) #[] #[], .pointer (some ⟨Bs, 0, none⟩)] W fun e W' => (∃ v, e = .returned v) ∧
      ((∃ ys, ys = upto id m ∧ J ys W') ∨ (∃ pre, (∃ k, k ≤ m ∧ pre = upto id k) ∧ Jx pre W')) := by
  have HRB := Lib.hid hR.1
  have HRC := Lib.hid hR.2
  have d0 := hR.1 _ (KB.refl _ _ _)
  clear hR
  refine callsIn_of_wp Tryz.func176 rfl h7 ?_ hro
  simp only [Tryz.ntmps176, List.size_toArray, List.length_cons, List.length_nil, Nat.reduceAdd, Nat.reduceSub, Array.replicate_succ, Array.replicate_zero, List.push_toArray, List.append_toArray, List.nil_append, List.cons_append]
  gi_wp2
  gi_loopw [3] (fun i wr => ∃ k : Nat, k ≤ m ∧ i = .int .i64 ((m : Int) - 1 - (k : Nat)) ∧ J (upto id k) wr ∧ KB n₀ Bs W wr)
    (fun i _ => (intOf i + 1).toNat)
  case atStart => exact ⟨0, Nat.zero_le _, by simp, h0, KB.refl _ _ _⟩
  case round =>
    obtain ⟨k, hk, rfl, hJs, hnx⟩ := hrel
    have hcx := HRB.out _ hnx
    by_cases hlt : k < m
    · obtain ⟨q, hq⟩ : ∃ q, q = m - 1 - k := ⟨_, rfl⟩
      have hqn : q < m := by omega
      have hqi : ((m : Int) - 1 - (k : Nat)) = (q : Nat) := by omega
      rw [hqi]
      have HQI := Lib.hid hqi
      have HQE := Lib.hid hq
      clear hqi hq
      obtain ⟨g, o, rfl, hcap, hcells⟩ := HRC.out (by omega)
      have hcq := hcells _ hnx q hqn
      obtain ⟨fn, tmps, assign, body, hy, hR⟩ := hY _ k wr hJs (by rw [upto_length]; exact hlt)
      dsimp only [encV] at hy
      rw [← HQE.out] at hy
      clear hcells
      gi_wp2
      refine hR.mono ?_
      rintro e W3 (⟨rfl, hJ3, hk3⟩ | ⟨rfl, hJx3⟩)
      · gi_wp2
        go_roundw
        case rel => exact ⟨k + 1, by omega, by have := HQI.out; congr 1; omega, by rw [upto_succ]; exact hJ3, hnx.trans hk3⟩
        case measure => simp [intOf]; try omega
      · gi_wp2
        refine bodyPost_ret (results_none rfl _ _ _) rfl ?_
        exact ⟨⟨_, rfl⟩, .inr ⟨_, ⟨k + 1, by omega, by rw [upto_succ]; rfl⟩, hJx3⟩⟩
    · obtain rfl : k = m := by omega
      have hi1 : ((k : Int) - 1 - (k : Nat)) = -1 := by omega
      rw [hi1]
      gi_wp2
      go_end0
      exact ⟨⟨_, rfl⟩, .inl ⟨_, rfl, hJs⟩⟩
theorem backV_stops (F : Fence) (n : Nat) (h7 : F.fn 176) (hro : F.round = none) (hn : 1 ≤ n) (Bs n₀ cap : Nat) (a : Option Addr) (m : Nat) (R : Nat → Value) (hreach : m ≤ 100000) (w : World) (hR : RdV n₀ Bs w a cap m R) :
    SeqStopsK F n Tryz.prog 176 #[.pointer (some ⟨Bs, 0, none⟩)] (encV m R) (KB n₀ Bs) (fun ys => ys = upto id m) (fun pre => ∃ k, k ≤ m ∧ pre = upto id k) m w := fun lp J Jx W hW _ _ hY h0 =>
  backV1_in F n h7 hro hn lp Bs n₀ cap a m R hreach J Jx hY W ⟨fun V hV => hR.1 V ((KB.of_below hW).trans hV), fun h => by
    obtain ⟨g, o, e, h1, h2⟩ := hR.2 h
    exact ⟨g, o, e, h1, fun V hV => h2 V ((KB.of_below hW).trans hV)⟩⟩ h0
set_option maxHeartbeats 1000000 in
theorem backV_in (F : Fence) (n : Nat) (h5 : F.fn 149) (hro : F.round = none) (a : Option Addr) (len cap : Nat) (w : World) :
    CallsIn F n Tryz.prog 149 #[.slice a len cap] w fun e w' => e = .returned (.func (.func 176) #[] #[.pointer (some ⟨w.heap.size, 0, none⟩)]) ∧ w' = w.alloc (.cells #[.slice a len cap] 206) := by
  refine callsIn_of_wp Tryz.func149 rfl h5 ?_ hro
  simp only [Tryz.ntmps149, List.size_toArray, List.length_cons, List.length_nil, Nat.reduceAdd, Nat.reduceSub, Array.replicate_succ, Array.replicate_zero, List.push_toArray, List.append_toArray, List.nil_append, List.cons_append]
  gi_wp2
  go_ret
  exact ⟨rfl, rfl⟩
theorem backV_c (a : Option Addr) (len cap : Nat) (w : World) :
    Calls Tryz.prog 149 #[.slice a len cap] w fun e w' => e = .returned (.func (.func 176) #[] #[.pointer (some ⟨w.heap.size, 0, none⟩)]) ∧ w' = w.alloc (.cells #[.slice a len cap] 206) :=
  callsIn_wide.1 (backV_in Fence.wide 3 trivial rfl a len cap w)
end Go.Proofs.YtmioiaeiflbmhaaGreat.Ma
namespace Go.Proofs.YtmioiaeiflbmhaaGreat.Ma
open Go Go.RowKit Go.Shelf Go.ChangeMaps Go.MapKept Go.Mg Go.Mt Go.Proofs.YtmioiaeiflbmhaaGreat.Hu Go.Proofs.YtmioiaeiflbmhaaGreat.Bw Go.Proofs.YtmioiaeiflbmhaaGreat.He Go.Proofs.YtmioiaeiflbmhaaGreat.Sq Go.Proofs.YtmioiaeiflbmhaaGreat.It
def F3 (l : List Sq) (h : H3) (j : Nat) : Nat → Nat := if j = 0 then lit l else if j = 1 then off l h else mor l
theorem F3_lt {l : List Sq} (hm : May l) (h : H3) (j i : Nat) : F3 l h j i < 4096 := by
  unfold F3
  split
  · have := lit_le hm i; omega
  · split
    · have := off_le hm h i; omega
    · have := mor_le hm i; omega
def exP (l : List Sq) (h : H3) (pre : List Nat) : List Bool := pre.flatMap fun k => xb (mor l (l.length - 1 - k)) ++ xb (off l h (l.length - 1 - k)) ++ xb (lit l (l.length - 1 - k))
theorem exP_all (l : List Sq) (h : H3) : ∀ j, exP l h (upto id j) = exB l h j
  | 0 => rfl
  | j + 1 => by
    have ih := exP_all l h j
    unfold exP at ih ⊢
    rw [upto_succ, List.flatMap_append, ih]
    simp [exB]
theorem exP_snoc (l : List Sq) (h : H3) (pre : List Nat) (k : Nat) : exP l h (pre ++ [k]) = exP l h pre ++ (xb (mor l (l.length - 1 - k)) ++ xb (off l h (l.length - 1 - k)) ++ xb (lit l (l.length - 1 - k))) := by simp [exP]
def inP (l : List Sq) (h : H3) (B : List Bool) (i : Nat) (pre : List Nat) : List Bool := B ++ pre.flatMap fun k => xb (F3 l h (3 - 1 - k) i)
theorem inP_snoc (l : List Sq) (h : H3) (B : List Bool) (i : Nat) (pre : List Nat) (k : Nat) : inP l h B i (pre ++ [k]) = inP l h B i pre ++ xb (F3 l h (3 - 1 - k) i) := by simp [inP]
theorem inP_all (l : List Sq) (h : H3) (B : List Bool) (i : Nat) : inP l h B i (upto id 3) = B ++ (xb (mor l i) ++ xb (off l h i) ++ xb (lit l i)) := by
  have : upto id 3 = [0, 1, 2] := rfl
  rw [this]
  simp [inP, F3]
theorem exP_len {l : List Sq} (hm : May l) (h : H3) : ∀ pre, (exP l h pre).length ≤ 33 * pre.length := by
  intro pre
  induction pre with
  | nil => simp [exP]
  | cons k pre ih =>
    have h1 := xb_len (v := mor l (l.length - 1 - k)) (by have := mor_le hm (l.length - 1 - k); omega)
    have h2 := xb_len (v := off l h (l.length - 1 - k)) (by have := off_le hm h (l.length - 1 - k); omega)
    have h3 := xb_len (v := lit l (l.length - 1 - k)) (by have := lit_le hm (l.length - 1 - k); omega)
    simp only [exP, List.flatMap_cons, List.length_append, List.length_cons] at ih ⊢
    omega
theorem inP_len {l : List Sq} (hm : May l) (h : H3) (B : List Bool) (i : Nat) : ∀ pre, (inP l h B i pre).length ≤ B.length + 11 * pre.length := by
  intro pre
  induction pre with
  | nil => simp [inP]
  | cons k pre ih =>
    have h1 := xb_len (v := F3 l h (3 - 1 - k) i) (F3_lt hm h _ _)
    simp only [inP, List.flatMap_cons, List.length_append, List.length_cons] at ih h1 ⊢
    omega
structure PkI (W0 : World) (p : Nat) (B : List Bool) (W : World) : Prop where
  kp : Kp (· = p) W0 W
  wr : ∃ F a c, WrAt 227 F W p a c B ∧ ∀ k, F k → k = p ∨ W0.heap.size ≤ k
theorem PkI.own {β : Type} (W0 : World) (p : Nat) (f : β → List Bool) : OwnFrom W0.heap.size (fun s W => PkI W0 p (f s) W) := fun s A B row h hg hr =>
  ⟨h.kp.grown hg (fun k hk e => by have := (hr k e).1; omega), by
    obtain ⟨F, a, c, h1, h2⟩ := h.wr
    exact ⟨F, a, c, WrAt.grown h1 hg (fun r e => (hr r e).2), h2⟩⟩
structure PkJ (W0 U0 : World) (p n₀ Bs gi bi i : Nat) (B : List Bool) (W : World) : Prop where
  kp : Kp (· = p) W0 W
  kf : KeepsFrom W0.heap.size U0 W
  kb : KB n₀ Bs U0 W
  ci : W.heap[gi]? = some (.cells #[.int .i64 (i : Nat)] 3 (0, 0))
  wr : ∃ F a c, WrAt 227 F W p a c B ∧ ∀ k, F k → (k = p ∨ W0.heap.size ≤ k) ∧ k ≠ gi ∧ k ≠ bi
theorem PkJ.own {β : Type} (W0 U0 : World) (p n₀ Bs gi bi i : Nat) (hU : W0.heap.size ≤ U0.heap.size) (f : β → List Bool) : OwnFrom U0.heap.size (fun s W => PkJ W0 U0 p n₀ Bs gi bi i (f s) W) := fun s A B row h hg hr =>
  ⟨h.kp.grown hg (fun k hk e => by have := (hr k e).1; omega), ownFrom_keepsFrom (B := W0.heap.size) (β := Unit) (Nat.le_refl _) () A B row h.kf hg hr,
    ⟨Nat.le_trans h.kb.size hg.size, fun k hk hn => by
      refine (hg.block k (Nat.lt_of_lt_of_le hk h.kb.size) (fun e => ?_)).trans (h.kb.block k hk hn)
      have := (hr k e.symm).1; omega⟩,
    (grownBy_keeps_cells hg (fun r e => (hr r e).2) h.ci rfl).trans h.ci, by
    obtain ⟨F, a, c, h1, h2⟩ := h.wr
    exact ⟨F, a, c, WrAt.grown h1 hg (fun r e => (hr r e).2), h2⟩⟩
theorem PkJ.step {W0 U0 W V2 V3 : World} {p n₀ Bs gi bi i : Nat} {B B' : List Bool} {F : Nat → Prop} {a : Option Addr} {c : Nat} (h : PkJ W0 U0 p n₀ Bs gi bi i B W) (hw : WrAt 227 F W p a c B) (hF : ∀ k, F k → (k = p ∨ W0.heap.size ≤ k) ∧ k ≠ gi ∧ k ≠ bi)
    (hn : n₀ ≤ p) (hB : Bs ≠ p) (hBs : Bs < W0.heap.size) (hp : p < W0.heap.size) (hgi : gi < U0.heap.size) (hbi : bi < U0.heap.size)
    (hk2 : Kp (fun _ => False) W V2) (hV : WrPost 227 (fun k => k = p ∨ (Value.slice a B.length c).ownBlock = some k) V2 p B' V3) (hpg : p ≠ gi ∧ p ≠ bi) :
    KeepsFrom U0.heap.size W V3 ∧ KB p bi W V3 ∧ PkJ W0 U0 p n₀ Bs gi bi i B' V3 := by
  obtain ⟨F', a', c', h1, h2, h3⟩ := hV
  have hmin : ∀ k, (k = p ∨ (Value.slice a B.length c).ownBlock = some k) → (k = p ∨ W0.heap.size ≤ k) ∧ k ≠ gi ∧ k ≠ bi := by
    rintro k (rfl | q)
    · exact ⟨.inl rfl, hpg⟩
    · exact hF k (hw.ne k q).1
  have k3 : Kp (fun k => k = p ∨ (Value.slice a B.length c).ownBlock = some k) W V3 := (hk2.mono (fun _ _ q => q.elim)).trans2 h2 (fun i _ q => q)
  have hcell : ∀ k, (k = p ∨ (Value.slice a B.length c).ownBlock = some k) → ∃ o, W.heap[k]? = some o ∧ o.isCells = true := by
    rintro k (rfl | q)
    · exact ⟨_, hw.hp, rfl⟩
    · exact OwnR.cells hw.own q
  refine ⟨Kp.keeps k3 hcell _, Kp.kb k3 (fun k q => ?_), h.kp.trans2 k3 (fun i hi q => ?_), h.kf.trans (Kp.keeps k3 hcell _), h.kb.trans (Kp.kb k3 (fun k q => ?_)), k3.at_ h.ci (fun q => (hmin _ q).2.1 rfl), F', a', c', h1, fun k q => ?_⟩
  · have := hmin k q; omega
  · have := hmin i q; omega
  · have := hmin k q; omega
  · rcases h3 k q with q | q
    · exact hmin k q
    · have := h.kp.size; have := h.kf.size; have := hk2.size
      exact ⟨.inr (by omega), by omega, by omega⟩
def accB (l : List Sq) (h : H3) (n : Nat) : Nat → List UInt8
  | 0 => two n
  | k + 1 => accB l h n k ++ rowB (F3 l h k) n
theorem rowB_le (v : Nat → Nat) (n : Nat) : (rowB v n).length ≤ 6 * n + 28 := by
  rw [rowB_len]
  have := packO_le (v := v) (n := n)
  omega
theorem accB_all (l : List Sq) (h : H3) (n : Nat) : accB l h n 3 = two n ++ rowB (lit l) n ++ rowB (off l h) n ++ rowB (mor l) n := rfl
theorem xb_eq (v : Nat) : xb v = bitsOf (ex v) (nb v) := rfl
theorem nb_le {v : Nat} (hv : v < 4096) : nb v ≤ 11 := by
  have := cd_le hv
  unfold nb; omega
end Go.Proofs.YtmioiaeiflbmhaaGreat.Ma
namespace Go.Proofs.YtmioiaeiflbmhaaGreat.Ma
open Go Go.RowKit Go.Shelf Go.ChangeMaps Go.MapKept Go.Mg Go.Mt Go.Proofs.YtmioiaeiflbmhaaGreat.Hu Go.Proofs.YtmioiaeiflbmhaaGreat.Bw Go.Proofs.YtmioiaeiflbmhaaGreat.He Go.Proofs.YtmioiaeiflbmhaaGreat.Sq Go.Proofs.YtmioiaeiflbmhaaGreat.It
theorem idxA3 (a0 a1 a2 : Option Addr) (n d0 d1 d2 : Nat) (w : World) : (Instr.index 194 (.agg #[.slice a0 n d0, .slice a1 n d1, .slice a2 n d2]) (.int .i64 0)).run Tryz.prog w = .ok (.slice a0 n d0) w ∧ (Instr.index 194 (.agg #[.slice a0 n d0, .slice a1 n d1, .slice a2 n d2]) (.int .i64 1)).run Tryz.prog w = .ok (.slice a1 n d1) w ∧ (Instr.index 194 (.agg #[.slice a0 n d0, .slice a1 n d1, .slice a2 n d2]) (.int .i64 2)).run Tryz.prog w = .ok (.slice a2 n d2) w := ⟨by kernel_rfl, by kernel_rfl, by kernel_rfl⟩
attribute [local go_sem] Oper.semAt_some
set_option maxRecDepth 100000 in
set_option maxHeartbeats 4000000 in
theorem pack_p (w : World) (l : List Sq) (al : Option Addr) (cl : Nat) (hl : SlR w 3 (.slice al l.length cl) l.length (l.flatMap sqc)) (hm : May l) (h : H3) :
    Calls Tryz.prog 120 #[.slice al l.length cl, hv3 h] w (PackPost w l h) := by
  refine (callsIn_wide (n := 9)).1 ?_
  obtain ⟨j0, hj0, hy0, hy1, hy2⟩ := info_parts infoU8
  have hlen := hm.1
  have CT := Lib.hid (fun V (hV : Kp (fun _ => False) w V) => containsSq_p V l al cl (hl.kp hV (fun _ _ q => q)) hm)
  have NP := Lib.hid (fun V (hV : Kp (fun _ => False) w V) => numbers_p V l al cl (hl.kp hV (fun _ _ q => q)) hm h)
  unfold NumPost at NP
  have HLR := Lib.hid hl
  have HMAY := Lib.hid hm
  have HF3 := Lib.hid (F3_lt hm h)
  unfold PackPost
  have HP0 : Hid (l.length = 0 → packB l h = two 0 ∧ (packB l h).length = 2 ∧ hs (ofs l) h l.length = h) := Lib.hid (fun h0 => by
    unfold packB; rw [if_pos h0, h0]; exact ⟨rfl, rfl, rfl⟩)
  have HP1 : Hid (l.length ≠ 0 → packB l h = two l.length ++ rowB (lit l) l.length ++ rowB (off l h) l.length ++ rowB (mor l) l.length ++ Sq.sized (pack (exB l h l.length))) := Lib.hid (fun h0 => by
    unfold packB; rw [if_neg h0])
  have HXL : Hid ((exB l h l.length).length ≤ 33 * l.length) := Lib.hid (exB_len hm h _)
  obtain ⟨n, hn⟩ : ∃ n, n = l.length := ⟨_, rfl⟩
  rw [← hn] at CT NP HLR hlen HP0 HP1 HXL ⊢
  have HN := Lib.hid hn
  obtain ⟨HH, hHH⟩ : ∃ HH, HH = hs (ofs l) h n := ⟨_, rfl⟩
  rw [← hHH] at NP HP0 ⊢
  have HHE := Lib.hid hHH
  obtain ⟨W, hW⟩ : ∃ W, W = (w.alloc (.cells #[.int .i64 (h.a : Nat), .int .i64 (h.b : Nat), .int .i64 (h.c : Nat)] 82)).alloc (.cells #[.int .i64 0, .int .i64 0, .int .i64 0] 82) := ⟨_, rfl⟩
  have hws : W.heap.size = w.heap.size + 2 := by rw [hW]; simp
  have hkW : Kp (fun _ => False) w W := by rw [hW]; exact (kp_alloc _ _).trans (kp_alloc _ _)
  have hG0 : HAt W w.heap.size h := by
    rw [hW]; exact (kp_alloc _ _).at_ (alloc_at w _) (fun q => q)
  have hG1 : HAt W (w.heap.size + 1) ⟨0, 0, 0⟩ := by
    rw [hW]; have := alloc_at (w.alloc (.cells #[.int .i64 (h.a : Nat), .int .i64 (h.b : Nat), .int .i64 (h.c : Nat)] 82)) (.cells #[.int .i64 0, .int .i64 0, .int .i64 0] 82)
    rw [World.size_alloc] at this
    exact this
  have HW := Lib.hid hW
  have HWS := Lib.hid hws
  have HKW := Lib.hid hkW
  have HG0 := Lib.hid hG0
  have HG1 := Lib.hid hG1
  clear hl hm hn hHH hW hws hkW hG0 hG1
  unfold hv3 at NP ⊢
  refine callsIn_of_wp_marks Tryz.func120 rfl trivial ?_ rfl
  refine wpIn_wide.2 ?_
  simp only [Tryz.ntmps120, List.size_toArray, List.length_cons, List.length_nil, Nat.reduceAdd, Nat.reduceSub, Array.replicate_succ, Array.replicate_zero, List.push_toArray, List.append_toArray, List.nil_append, List.cons_append]
  by_cases h0 : n = 0
  · subst h0
    obtain ⟨p0, p1, p2⟩ := HP0.out rfl
    rw [p1]
    have HPK := Lib.hid p0
    have HHX := Lib.hid p2
    clear p0 p1 p2
    go_wp2_with fail
    rw [← HW.out]
    refine (CT.out W HKW.out).mono ?_
    rintro e V1 ⟨rfl, hk1⟩
    have T2 := two_row V1 0
    have ka := kp_alloc V1 (.cells #[.int .u8 (((0 : Nat) : Int) % 256), .int .u8 (((0 : Nat) : Int) / 256 % 256)] 5)
    have e1 : ((0 : Nat) : Int) % 256 = 0 := rfl
    have e2 : ((0 : Nat) : Int) / 256 % 256 = 0 := rfl
    rw [e1, e2] at T2 ka
    obtain ⟨A1, hA1⟩ : ∃ A1, A1 = V1.alloc (.cells #[.int .u8 0, .int .u8 0] 5) := ⟨_, rfl⟩
    rw [← hA1] at T2 ka
    have hfold := hA1.symm
    have hat := HG0.out.kp (hk1.trans ka) (fun q => q)
    have hre := HG1.out.kp (hk1.trans ka) (fun q => q)
    obtain ⟨c0, c1, c2⟩ := hat.cells
    obtain ⟨r0, r1, r2⟩ := hre.cells
    have f0 : A1.frozen? ⟨w.heap.size + 1, 0, none⟩ = false := free_of hre 0
    have f1 : A1.frozen? ⟨w.heap.size + 1, 1, none⟩ = false := free_of hre 1
    have f2 : A1.frozen? ⟨w.heap.size + 1, 2, none⟩ = false := free_of hre 2
    have HT := Lib.hid T2
    have HRE := Lib.hid hre
    have HKA := Lib.hid (HKW.out.trans (hk1.trans ka))
    have HSZ := Lib.hid (show w.heap.size + 2 ≤ V1.heap.size by have := hk1.size; have := HWS.out; omega)
    clear hk1 ka T2 hat hre hA1 CT NP HP0 HP1
    go_wp2_with fail
    go_region
    all_goals (go_wp2_with fail)
    obtain ⟨hst, hkst⟩ := HRE.out.store h.a h.b h.c
    obtain ⟨y0, y1, y2⟩ := (hst.kp (Kp.refl (fun _ => False) _).drew (fun q => q)).cells
    have hsz := HSZ.out
    rw [HHX.out, HPK.out]
    refine ⟨.tuple #[.slice (some ⟨V1.heap.size, 0, none⟩) 2 2, .agg #[.int .i64 (h.a : Nat), .int .i64 (h.b : Nat), .int .i64 (h.c : Nat)], .bool true], ?_, some ⟨V1.heap.size, 0, none⟩, 2, rfl, (RowM.kp HT.out hkst.drew (fun j q => by rw [q]; omega)).low (by omega), (HKA.out.trans2 hkst.drew (fun i hi q => by omega))⟩
    simp [results, Tryz.results120, go_sem, y0, y1, y2]
  · have h0' : (n : Int) ≠ 0 := by omega
    have b0 : ((n : Int) == 0) = false := by rw [beq_eq_false_iff_ne]; exact h0'
    have H0 : Hid (0 < n) := Lib.hid (by omega)
    clear h0 h0'
    have HLAL := Lib.hid (lits_len l n)
    have HVAL := Lib.hid (vals_len l h n)
    have HMAL := Lib.hid (mors_len l n)
    go_wp2_with fail
    rw [← HW.out]
    refine (CT.out W HKW.out).mono ?_
    rintro e V1 ⟨rfl, hk1⟩
    have T2 := two_row V1 n
    rw [show (n : Int) / 256 % 256 = (n : Int) / 256 by omega] at T2
    have ka := kp_alloc V1 (.cells #[.int .u8 ((n : Int) % 256), .int .u8 ((n : Int) / 256)] 5)
    obtain ⟨A1, hA1⟩ : ∃ A1, A1 = V1.alloc (.cells #[.int .u8 ((n : Int) % 256), .int .u8 ((n : Int) / 256)] 5) := ⟨_, rfl⟩
    rw [← hA1] at T2 ka
    have hA1s : A1.heap.size = V1.heap.size + 1 := by rw [hA1]; simp
    have hfold := hA1.symm
    have hat1 := HG0.out.kp (hk1.trans ka) (fun q => q)
    have hre1 := HG1.out.kp (hk1.trans ka) (fun q => q)
    obtain ⟨c0, c1, c2⟩ := hat1.cells
    have NPA := Lib.hid (NP.out A1 (HKW.out.trans (hk1.trans ka)))
    have HT2 := Lib.hid T2
    have HK1 := Lib.hid (HKW.out.trans (hk1.trans ka))
    have HAT1 := Lib.hid hat1
    have HRE1 := Lib.hid hre1
    have HBB : Hid (w.heap.size + 2 ≤ V1.heap.size ∧ A1.heap.size = V1.heap.size + 1) := Lib.hid (by have := hk1.size; have := HWS.out; omega)
    clear CT NP hk1 ka T2 hat1 hre1 hA1s hA1 HG0 HG1 HKW HW
    go_wp2_with fail
    refine NPA.out.mono ?_
    rintro e w2 ⟨x, y, z, rfl, hx, hy, hz, hk2⟩
    obtain ⟨a0, d0, rfl, hx1, hx2⟩ := hx
    obtain ⟨a1, d1, rfl, hy1, hy2⟩ := hy
    obtain ⟨a2, d2, rfl, hz1, hz2⟩ := hz
    rw [HLAL.out] at hx1 hx2 ⊢
    rw [HVAL.out] at hy1 hy2 ⊢
    rw [HMAL.out] at hz1 hz2 ⊢
    have R0 : Hid (IntsR w2 a0 d0 n (lit l)) := Lib.hid (IntsR.congr (rdM ⟨a0, d0, by rw [HLAL.out], by rw [HLAL.out]; exact hx1, hx2⟩) (fun i hi => by simp [lits, hi]))
    have R1 : Hid (IntsR w2 a1 d1 n (off l h)) := Lib.hid (IntsR.congr (rdM ⟨a1, d1, by rw [HVAL.out], by rw [HVAL.out]; exact hy1, hy2⟩) (fun i hi => by simp [vals, hi]))
    have R2 : Hid (IntsR w2 a2 d2 n (mor l)) := Lib.hid (IntsR.congr (rdM ⟨a2, d2, by rw [HMAL.out], by rw [HMAL.out]; exact hz1, hz2⟩) (fun i hi => by simp [mors, hi]))
    have kb := kp_alloc w2 (.cells #[.slice a0 n d0, .slice a1 n d1, .slice a2 n d2] 194)
    have hA2 : A3 (w2.alloc (.cells #[.slice a0 n d0, .slice a1 n d1, .slice a2 n d2] 194)) w2.heap.size (.slice a0 n d0) (.slice a1 n d1) (.slice a2 n d2) := alloc_at w2 _
    obtain ⟨A2, hA2e⟩ : ∃ A2, A2 = w2.alloc (.cells #[.slice a0 n d0, .slice a1 n d1, .slice a2 n d2] 194) := ⟨_, rfl⟩
    rw [← hA2e] at kb hA2
    have hA2s : A2.heap.size = w2.heap.size + 1 := by rw [hA2e]; simp
    have hfold2 := hA2e.symm
    have hat2 := HAT1.out.kp (hk2.trans kb) (fun q => q)
    obtain ⟨s0, s1, s2⟩ := hat2.cells
    have e0 : A2.frozen? ⟨w.heap.size, 0, none⟩ = false := free_of hat2 0
    have e1 : A2.frozen? ⟨w.heap.size, 1, none⟩ = false := free_of hat2 1
    have e2 : A2.frozen? ⟨w.heap.size, 2, none⟩ = false := free_of hat2 2
    obtain ⟨hst, hks⟩ := hat2.store HH.a HH.b HH.c
    obtain ⟨w3, hw3⟩ : ∃ w3, w3 = ((A2.setCell ⟨w.heap.size, 0, none⟩ (.int .i64 (HH.a : Nat))).setCell ⟨w.heap.size, 1, none⟩ (.int .i64 (HH.b : Nat))).setCell ⟨w.heap.size, 2, none⟩ (.int .i64 (HH.c : Nat)) := ⟨_, rfl⟩
    rw [← hw3] at hst hks
    have hfold3 := hw3.symm
    have hsz2 := hk2.size
    have hA3 := hA2.kp hks (by have := HBB.out; omega)
    obtain ⟨t0, t1, t2⟩ := hA3.cells
    have K3 : Hid (Kp (· = w.heap.size) A1 w3) := Lib.hid (((hk2.trans kb).mono (fun _ _ q => q.elim)).trans hks)
    have KW : Hid (Kp (fun _ => False) w w3) := Lib.hid ((HK1.out.trans2 K3.out (fun i hi q => by omega)))
    have Q0 := Lib.hid ((R0.out.kp kb))
    have HAT3 := Lib.hid hst
    have HA3 := Lib.hid hA3
    have HRE3 := Lib.hid (HRE1.out.kp K3.out (by omega))
    have HSZ3 : Hid (A1.heap.size ≤ w2.heap.size ∧ w2.heap.size + 1 = w3.heap.size) := Lib.hid (by have := hks.size; rw [hw3]; simp; omega)
    have KR : Hid (Kp (· = w.heap.size) w2 w3) := Lib.hid ((kb.mono (fun _ _ q => q.elim)).trans hks)
    have HX2 := Lib.hid hx2
    have HY2 := Lib.hid hy2
    have HZ2 := Lib.hid hz2
    have HB3 : Hid (RowB V1.heap.size w3 (.slice (some ⟨V1.heap.size, 0, none⟩) 2 2) (two n)) := Lib.hid (HT2.out.kp K3.out (fun k q => by have := HBB.out; omega))
    clear Q0 hx1 hx2 hy1 hy2 hz1 hz2 kb hA2 hA2e hA2s hat2 hst hks hw3 hA3 NPA HT2 HAT1 HRE1 hk2 hsz2
    go_wp2_with fail
    clear hfold hfold2 hfold3 c0 c1 c2 s0 s1 s2 e0 e1 e2 t0 t1 t2
    obtain ⟨AC, hAC⟩ : ∃ AC, AC = accB l h n := ⟨_, rfl⟩
    have HAC : Hid (∀ k, AC (k + 1) = AC k ++ rowB (F3 l h k) n) := Lib.hid (fun k => by rw [hAC]; rfl)
    have HAC0 : Hid (AC 0 = two n) := Lib.hid (by rw [hAC]; rfl)
    have HRL := Lib.hid (fun k => rowB_le (F3 l h k) n)
    have HACL : Hid (∀ k, k ≤ 3 → (AC k).length ≤ 2 + k * (6 * n + 28)) := Lib.hid (fun k hk => by
      have h2 : (two n).length = 2 := rfl
      have q0 : (AC 0).length = 2 := by rw [HAC0.out]; rfl
      have q1 : (AC 1).length = (AC 0).length + (rowB (F3 l h 0) n).length := by rw [HAC.out 0, List.length_append]
      have q2 : (AC 2).length = (AC 1).length + (rowB (F3 l h 1) n).length := by rw [HAC.out 1, List.length_append]
      have q3 : (AC 3).length = (AC 2).length + (rowB (F3 l h 2) n).length := by rw [HAC.out 2, List.length_append]
      have r0 := HRL.out 0
      have r1 := HRL.out 1
      have r2 := HRL.out 2
      rcases (show k = 0 ∨ k = 1 ∨ k = 2 ∨ k = 3 by omega) with e | e | e | e <;> subst e <;> omega)
    have HPK : Hid (packB l h = AC 3 ++ Sq.sized (pack (exB l h n))) := Lib.hid (by rw [HP1.out (by have := H0.out; omega), hAC, accB_all])
    have RD0 : Hid (∀ V, Kp (· = V1.heap.size) w3 V → IntsR V a0 d0 n (lit l)) := Lib.hid (fun V hV => (SlR.kp R0.out KR.out (fun b hb q => by have := HX2.out b hb; have := HBB.out; omega)).kp hV (fun b hb q => by have := HX2.out b hb; have := HBB.out; omega))
    have RD1 : Hid (∀ V, Kp (· = V1.heap.size) w3 V → IntsR V a1 d1 n (off l h)) := Lib.hid (fun V hV => (SlR.kp R1.out KR.out (fun b hb q => by have := HY2.out b hb; have := HBB.out; omega)).kp hV (fun b hb q => by have := HY2.out b hb; have := HBB.out; omega))
    have RD2 : Hid (∀ V, Kp (· = V1.heap.size) w3 V → IntsR V a2 d2 n (mor l)) := Lib.hid (fun V hV => (SlR.kp R2.out KR.out (fun b hb q => by have := HZ2.out b hb; have := HBB.out; omega)).kp hV (fun b hb q => by have := HZ2.out b hb; have := HBB.out; omega))
    clear hAC R0 R1 R2 HLAL HVAL HMAL HP0 HP1
    go_loopw [7, 10, 46] (fun b _ i wr => ∃ (k : Nat) (ab : Option Addr) (db : Nat), k ≤ 3 ∧ i = .int .i64 k ∧ b = .slice ab (AC k).length db ∧ RowB V1.heap.size wr (.slice ab (AC k).length db) (AC k) ∧ (∀ j, (Value.slice ab (AC k).length db).ownBlock = some j → j = V1.heap.size ∨ w3.heap.size ≤ j) ∧ Kp (· = V1.heap.size) w3 wr) (fun _ _ i _ => 3 - (intOf i).toNat)
    case atStart => exact ⟨0, some ⟨V1.heap.size, 0, none⟩, 2, by omega, rfl, by rw [HAC0.out]; rfl, by rw [HAC0.out]; exact HB3.out, fun j hj => .inl (own_b hj), Kp.refl _ _⟩
    case round =>
      clear HB3 HAC0
      obtain ⟨k, ab, db, hk, rfl, rfl, hrow, hap, hkr⟩ := hrel
      have HROW := Lib.hid hrow
      have HAP := Lib.hid hap
      have HKR := Lib.hid hkr
      clear hrow hap hkr
      rcases (show k = 0 ∨ k = 1 ∨ k = 2 ∨ k = 3 by omega) with e0 | e1 | e2 | e3
      · subst e0
        have IX := (idxA3 a0 a1 a2 n d0 d1 d2 wr).1
        have RW := Lib.hid (row6_p wr a0 d0 n (lit l) (RD0.out wr HKR.out) H0.out hlen (fun i _ => HF3.out 0 i))
        unfold RowPost6 at RW
        have hle := HRL.out 0
        obtain ⟨rb, hrb⟩ : ∃ rb, rb = rowB (lit l) n := ⟨_, rfl⟩
        have hac := HAC.out 0
        have hac0 := HACL.out 0 (by omega)
        have hrl : rb.length ≤ 6 * n + 28 := by rw [hrb]; exact rowB_le _ _
        rw [show rowB (F3 l h 0) n = rb from hrb.symm] at hac
        rw [← hrb] at RW
        have hacl : (AC (0 + 1)).length = (AC 0).length + rb.length := by rw [hac, List.length_append]
        have HACX := Lib.hid hac
        have HACM := Lib.hid hacl
        obtain ⟨m, hm⟩ : ∃ m, m = rb.length := ⟨_, rfl⟩
        obtain ⟨q, hq⟩ : ∃ q, q = (AC 0).length := ⟨_, rfl⟩
        rw [← hm] at RW HACM hrl
        rw [← hq] at HACM hac0 HROW HAP
        rw [← hq]
        have HMM := Lib.hid hm.symm
        have HQQ := Lib.hid hq.symm
        clear hle hrb hac hacl hm hq
        go_wp2_with (first
          | (go_at_call 146; refine RW.out.mono ?_; rintro e w5 ⟨ra, rc, rfl, hr5, hk5⟩; have R5 := Lib.hid (hr5.sl.1); have K5 := Lib.hid hk5; have B5 := Lib.hid (HROW.out.kp0 hk5); have S5 : Hid (V1.heap.size ≤ w5.heap.size) := Lib.hid (by have := HKR.out.size; have := hk5.size; have := HSZ3.out; have := HBB.out; omega); rw [HMM.out] at R5; clear hr5 hk5)
          | (at_builtin; refine wpList_grow (B := V1.heap.size) _ rfl _ _ 23 rfl j0 _ 1 Tryz.underlying23 hj0 hy0 hy1 hy2 rfl (by decide) u8c_1 (.slice ab q db) (AC 0) rfl B5.out S5.out (.slice ra m rc) m rb rfl R5.out HMM.out (q + m) (by rw [HQQ.out]) (by omega) ?_; intro a8 c8 w8 g1; have G1 := Lib.hid g1; clear g1))
        refine ⟨⟨0 + 1, a8, c8, by omega, rfl, by rw [HACM.out], ?_, ?_, ?_⟩, by simp [intOf]⟩
        · rw [HACM.out, HACX.out]; exact G1.out.1
        · intro j hj
          rw [HACM.out] at hj
          rcases G1.out.2.1 j hj with e | e
          · exact HAP.out j e
          · right; have := HKR.out.size; have := K5.out.size; omega
        · exact (HKR.out.trans2 K5.out (fun _ _ q => q.elim)).trans2 G1.out.2.2 (fun i hi e => by rcases HAP.out i e with e | e; exact e; omega)
      · subst e1
        have IX := (idxA3 a0 a1 a2 n d0 d1 d2 wr).2.1
        have RW := Lib.hid (row6_p wr a1 d1 n (off l h) (RD1.out wr HKR.out) H0.out hlen (fun i _ => HF3.out 1 i))
        unfold RowPost6 at RW
        have hle := HRL.out 1
        obtain ⟨rb, hrb⟩ : ∃ rb, rb = rowB (off l h) n := ⟨_, rfl⟩
        have hac := HAC.out 1
        have hac0 := HACL.out 1 (by omega)
        have hrl : rb.length ≤ 6 * n + 28 := by rw [hrb]; exact rowB_le _ _
        rw [show rowB (F3 l h 1) n = rb from hrb.symm] at hac
        rw [← hrb] at RW
        have hacl : (AC (1 + 1)).length = (AC 1).length + rb.length := by rw [hac, List.length_append]
        have HACX := Lib.hid hac
        have HACM := Lib.hid hacl
        obtain ⟨m, hm⟩ : ∃ m, m = rb.length := ⟨_, rfl⟩
        obtain ⟨q, hq⟩ : ∃ q, q = (AC 1).length := ⟨_, rfl⟩
        rw [← hm] at RW HACM hrl
        rw [← hq] at HACM hac0 HROW HAP
        rw [← hq]
        have HMM := Lib.hid hm.symm
        have HQQ := Lib.hid hq.symm
        clear hle hrb hac hacl hm hq
        go_wp2_with (first
          | (go_at_call 146; refine RW.out.mono ?_; rintro e w5 ⟨ra, rc, rfl, hr5, hk5⟩; have R5 := Lib.hid (hr5.sl.1); have K5 := Lib.hid hk5; have B5 := Lib.hid (HROW.out.kp0 hk5); have S5 : Hid (V1.heap.size ≤ w5.heap.size) := Lib.hid (by have := HKR.out.size; have := hk5.size; have := HSZ3.out; have := HBB.out; omega); rw [HMM.out] at R5; clear hr5 hk5)
          | (at_builtin; refine wpList_grow (B := V1.heap.size) _ rfl _ _ 23 rfl j0 _ 1 Tryz.underlying23 hj0 hy0 hy1 hy2 rfl (by decide) u8c_1 (.slice ab q db) (AC 1) rfl B5.out S5.out (.slice ra m rc) m rb rfl R5.out HMM.out (q + m) (by rw [HQQ.out]) (by omega) ?_; intro a8 c8 w8 g1; have G1 := Lib.hid g1; clear g1))
        refine ⟨⟨1 + 1, a8, c8, by omega, rfl, by rw [HACM.out], ?_, ?_, ?_⟩, by simp [intOf]⟩
        · rw [HACM.out, HACX.out]; exact G1.out.1
        · intro j hj
          rw [HACM.out] at hj
          rcases G1.out.2.1 j hj with e | e
          · exact HAP.out j e
          · right; have := HKR.out.size; have := K5.out.size; omega
        · exact (HKR.out.trans2 K5.out (fun _ _ q => q.elim)).trans2 G1.out.2.2 (fun i hi e => by rcases HAP.out i e with e | e; exact e; omega)
      · subst e2
        have IX := (idxA3 a0 a1 a2 n d0 d1 d2 wr).2.2
        have RW := Lib.hid (row6_p wr a2 d2 n (mor l) (RD2.out wr HKR.out) H0.out hlen (fun i _ => HF3.out 2 i))
        unfold RowPost6 at RW
        have hle := HRL.out 2
        obtain ⟨rb, hrb⟩ : ∃ rb, rb = rowB (mor l) n := ⟨_, rfl⟩
        have hac := HAC.out 2
        have hac0 := HACL.out 2 (by omega)
        have hrl : rb.length ≤ 6 * n + 28 := by rw [hrb]; exact rowB_le _ _
        rw [show rowB (F3 l h 2) n = rb from hrb.symm] at hac
        rw [← hrb] at RW
        have hacl : (AC (2 + 1)).length = (AC 2).length + rb.length := by rw [hac, List.length_append]
        have HACX := Lib.hid hac
        have HACM := Lib.hid hacl
        obtain ⟨m, hm⟩ : ∃ m, m = rb.length := ⟨_, rfl⟩
        obtain ⟨q, hq⟩ : ∃ q, q = (AC 2).length := ⟨_, rfl⟩
        rw [← hm] at RW HACM hrl
        rw [← hq] at HACM hac0 HROW HAP
        rw [← hq]
        have HMM := Lib.hid hm.symm
        have HQQ := Lib.hid hq.symm
        clear hle hrb hac hacl hm hq
        go_wp2_with (first
          | (go_at_call 146; refine RW.out.mono ?_; rintro e w5 ⟨ra, rc, rfl, hr5, hk5⟩; have R5 := Lib.hid (hr5.sl.1); have K5 := Lib.hid hk5; have B5 := Lib.hid (HROW.out.kp0 hk5); have S5 : Hid (V1.heap.size ≤ w5.heap.size) := Lib.hid (by have := HKR.out.size; have := hk5.size; have := HSZ3.out; have := HBB.out; omega); rw [HMM.out] at R5; clear hr5 hk5)
          | (at_builtin; refine wpList_grow (B := V1.heap.size) _ rfl _ _ 23 rfl j0 _ 1 Tryz.underlying23 hj0 hy0 hy1 hy2 rfl (by decide) u8c_1 (.slice ab q db) (AC 2) rfl B5.out S5.out (.slice ra m rc) m rb rfl R5.out HMM.out (q + m) (by rw [HQQ.out]) (by omega) ?_; intro a8 c8 w8 g1; have G1 := Lib.hid g1; clear g1))
        refine ⟨⟨2 + 1, a8, c8, by omega, rfl, by rw [HACM.out], ?_, ?_, ?_⟩, by simp [intOf]⟩
        · rw [HACM.out, HACX.out]; exact G1.out.1
        · intro j hj
          rw [HACM.out] at hj
          rcases G1.out.2.1 j hj with e | e
          · exact HAP.out j e
          · right; have := HKR.out.size; have := K5.out.size; omega
        · exact (HKR.out.trans2 K5.out (fun _ _ q => q.elim)).trans2 G1.out.2.2 (fun i hi e => by rcases HAP.out i e with e | e; exact e; omega)
      · subst e3
        have hacl := HACL.out 3 (by omega)
        obtain ⟨q, hq⟩ : ∃ q, q = (AC 3).length := ⟨_, rfl⟩
        rw [← hq] at hacl HROW HAP ⊢
        have HQQ := Lib.hid hq.symm
        clear hq hk
        go_wp2_with (go_at_call 147; refine (neww_c _).mono ?_; rintro e w' ⟨rfl, rfl⟩)
        refine (backS_c al n cl _).mono ?_
        rintro e w' ⟨rfl, rfl⟩
        obtain ⟨p, hp⟩ : ∃ p, p = wr.heap.size := ⟨_, rfl⟩
        obtain ⟨W0, hW0⟩ : ∃ W0, W0 = ((wr.alloc (.cells #[.slice none 0 0] 227)).alloc (.cells #[.pointer (some ⟨wr.heap.size, 0, none⟩)] 198)).alloc (.cells #[.slice al n cl] 155) := ⟨_, rfl⟩
        go_wp2_with fail
        rw [← hW0]
        have W0s : W0.heap.size = p + 3 := by rw [hW0, hp]; simp
        have kr : ∀ X, Kp (fun _ => False) X X := fun X => Kp.refl _ X
        have W0k : Kp (fun _ => False) wr W0 := by rw [hW0]; exact (((kr _).alloc _).alloc _).alloc _
        have x1 : WrAt 227 (· = p) W0 p none 0 [] := by
          have := wr_new 227 wr
          rw [hW0, hp]; exact this.kp (((kr _).alloc _).alloc _) (fun _ _ q => q)
        have x2 : W0.heap[p + 1]? = some (.cells #[.pointer (some ⟨p, 0, none⟩)] 198 (0, 0)) := by
          have := alloc_at (wr.alloc (.cells #[.slice none 0 0] 227)) (.cells #[.pointer (some ⟨wr.heap.size, 0, none⟩)] 198)
          rw [World.size_alloc] at this
          rw [hW0, hp]; exact ((kr _).alloc _).at_ this (fun q => q)
        have x3 : W0.heap[p + 1 + 1]? = some (.cells #[.slice al n cl] 155 (0, 0)) := by
          have := alloc_at ((wr.alloc (.cells #[.slice none 0 0] 227)).alloc (.cells #[.pointer (some ⟨wr.heap.size, 0, none⟩)] 198)) (.cells #[.slice al n cl] 155)
          rw [World.size_alloc, World.size_alloc] at this
          rw [hW0, hp]; exact this
        rw [← hp]
        have hbb := HBB.out
        have hz3 := HSZ3.out
        have hws := HKR.out.size
        have KWR : Hid (Kp (fun _ => False) w wr) := Lib.hid (KW.out.trans2 HKR.out (fun i hi q => by omega))
        have HK0 := Lib.hid (KWR.out.trans W0k)
        have HW0s := Lib.hid W0s
        obtain ⟨R, hR⟩ : ∃ R : Nat → Value, R = fun j => if j = 0 then .slice a0 n d0 else if j = 1 then .slice a1 n d1 else .slice a2 n d2 := ⟨_, rfl⟩
        have hA3 := HA3.out.kp HKR.out (by omega)
        have RC : Hid (∀ j, ∃ g o c, R j = .slice (some ⟨g, o, none⟩) n c ∧ n ≤ c ∧ ∀ V, Kp (· = p) W0 V → ∀ i, i < n → V.cell? ⟨g, o + i, none⟩ = some (.int .i64 (F3 l h j i : Nat))) := Lib.hid (fun j => by
          have key : ∀ (a : Option Addr) (d : Nat) (f : Nat → Nat), IntsR wr a d n f → ∃ g o c, Value.slice a n d = .slice (some ⟨g, o, none⟩) n c ∧ n ≤ c ∧ ∀ V, Kp (· = p) W0 V → ∀ i, i < n → V.cell? ⟨g, o + i, none⟩ = some (.int .i64 (f i : Nat)) := fun a d f hf => by
            obtain ⟨g, o, rfl, hg, hc, hcc⟩ := hf.at_ H0.out
            exact ⟨g, o, d, rfl, hc, fun V hV i hi => (hV.cell (p := ⟨g, o + i, none⟩) (by have := W0k.size; dsimp only; omega) (by dsimp only; omega)).trans (hcc _ W0k i hi)⟩
          rw [hR]
          unfold F3
          by_cases e0 : j = 0
          · simp only [e0, if_pos]; exact key _ _ _ (RD0.out wr HKR.out)
          · by_cases e1 : j = 1
            · subst e1; exact key _ _ _ (RD1.out wr HKR.out)
            · simp only [e0, e1, if_false]; exact key _ _ _ (RD2.out wr HKR.out))
        have HX : Hid (∀ V, Kp (· = p) W0 V → V.cell? ⟨p + 1, 0, none⟩ = some (.pointer (some ⟨p, 0, none⟩)) ∧ HAt V w.heap.size HH ∧ HAt V (w.heap.size + 1) ⟨0, 0, 0⟩ ∧ (∀ i, i < 3 → V.cell? ⟨w2.heap.size, 0 + i, none⟩ = some (R i)) ∧ RowB V1.heap.size V (.slice ab q db) (AC 3)) := Lib.hid (fun V hk => by
          have kA := (hA3.kp W0k (fun q => q)).kp hk (by omega)
          obtain ⟨t0, t1, t2⟩ := kA.cells
          refine ⟨by rw [cell_of (hk.at_ x2 (by omega))]; rfl, ((HAT3.out.kp HKR.out (by omega)).kp W0k (fun q => q)).kp hk (by omega), ((HRE3.out.kp HKR.out (by omega)).kp W0k (fun q => q)).kp hk (by omega), fun i hi => ?_, ?_⟩
          · rw [Nat.zero_add, hR]
            rcases (show i = 0 ∨ i = 1 ∨ i = 2 by omega) with e | e | e <;> subst e
            · exact t0
            · exact t1
            · exact t2
          · have h1 := HROW.out.kp0 W0k
            obtain ⟨av, cv, he, hown, hb⟩ := h1
            exact ⟨av, cv, he, hown.kp hk (fun b hb1 hb2 => by have := HROW.out.lt hb1; omega), hb⟩)
        have HRD : Hid (RdS w.heap.size (p + 1 + 1) W0 al cl n (lit l) (ofs l) (fun i => (sqAt l i).len)) := Lib.hid ⟨fun V hk => by
            rw [hk.cell (p := ⟨p + 1 + 1, 0, none⟩) (by dsimp only; omega) (.inr rfl), cell_of x3]; rfl, fun h0 => by
            have hl2 := HLR.out
            rw [HN.out] at hl2 h0
            obtain ⟨g, o, e, hg, hc, hs⟩ := sq_at hl2 h0
            refine ⟨g, o, e, by rw [HN.out]; exact hc, fun V hk i hi => ?_⟩
            rw [HN.out] at hi
            have hcell : ∀ j, V.cell? ⟨g, j, none⟩ = w.cell? ⟨g, j, none⟩ := fun j => (hk.cell (p := ⟨g, j, none⟩) (by have := HK0.out.size; dsimp only; omega) (.inl hg)).trans (HK0.out.cell (p := ⟨g, j, none⟩) hg (fun q => q))
            rw [hcell, hcell, hcell]
            exact hs i hi⟩
        have HI0 : Hid (PkI W0 p (exP l h []) W0) := Lib.hid ⟨Kp.refl _ _, (· = p), none, 0, x1, fun k q => .inl q⟩
        have HPE := Lib.hid hp
        have HPB : Hid (w.heap.size + 2 ≤ V1.heap.size ∧ V1.heap.size < w2.heap.size ∧ w2.heap.size < p) := Lib.hid (by omega)
        clear hR W0s x1 x2 x3 W0k kr hW0 hp hA3 hbb hz3 hws HA3 HRE3 HAT3 RD0 RD1 RD2 KR HX2 HY2 HZ2 K3 HK1 HLR
        refine (wpIn_wide (n := 9)).1 ?_
        obtain ⟨S, hS⟩ : ∃ S : Nat → Nat → Act, S = fun gi k => { tmps := #[.slice al n cl, .agg #[.int .i64 (h.a : Nat), .int .i64 (h.b : Nat), .int .i64 (h.c : Nat)], undef, .pointer (some ⟨w.heap.size, 0, none⟩), .slice none 0 0, .pointer (some ⟨w.heap.size + 1, 0, none⟩), .bool false, .slice ab q db, .pointer (some ⟨w2.heap.size, 0, none⟩), undef, u10, .pointer (some ⟨p + 1, 0, none⟩), .pointer (some ⟨gi, 0, none⟩), undef, undef, undef, undef, undef, .slice al n cl, .int .i64 (n : Nat), .bool (decide ((500 : Int) < (n : Int))), .bool (decide ((500 : Int) < (n : Int))), .slice al n cl, .bool false, .bool (decide ((500 : Int) < (n : Int))), undef, .slice al n cl, .int .i64 (n : Nat), .int .u8 ((n : Int) % 256), .slice al n cl, .int .i64 (n : Nat), .int .i64 ((n : Int) / 256), .int .u8 ((n : Int) / 256), .slice (some ⟨V1.heap.size, 0, none⟩) 2 2, .slice al n cl, .int .i64 (n : Nat), .bool false, undef, undef, .tuple #[.agg #[.slice a0 n d0, .slice a1 n d1, .slice a2 n d2], .agg #[.int .i64 (HH.a : Nat), .int .i64 (HH.b : Nat), .int .i64 (HH.c : Nat)]], .slice al n cl, .agg #[.int .i64 (h.a : Nat), .int .i64 (h.b : Nat), .int .i64 (h.c : Nat)], .tuple #[.agg #[.slice a0 n d0, .slice a1 n d1, .slice a2 n d2], .agg #[.int .i64 (HH.a : Nat), .int .i64 (HH.b : Nat), .int .i64 (HH.c : Nat)]], .agg #[.slice a0 n d0, .slice a1 n d1, .slice a2 n d2], .agg #[.int .i64 (HH.a : Nat), .int .i64 (HH.b : Nat), .int .i64 (HH.c : Nat)], .agg #[.slice a0 n d0, .slice a1 n d1, .slice a2 n d2], .int .i64 3, .bool false, u48, u49, u50, u51, u52, u53, .pointer (some ⟨p, 0, none⟩), .slice al n cl, .func (.func 175) #[] #[.pointer (some ⟨p + 1 + 1, 0, none⟩)], .int .i64 ((n - 1 - k : Nat) : Int), .agg #[.int .i64 (lit l (n - 1 - k) : Nat), .int .i64 (ofs l (n - 1 - k) : Nat), .int .i64 ((sqAt l (n - 1 - k)).len : Nat)], undef, undef, undef, undef, undef, undef, undef, undef, undef, undef, undef, undef, undef, undef, undef, undef, undef, undef, undef, undef, undef, undef, undef], defers := [] } := ⟨_, rfl⟩
        have HSE := Lib.hid hS
        refine wpIn_rangeFunc_ownH rfl (by omega) (gf := 175) (lb := #[.pointer (some ⟨p + 1 + 1, 0, none⟩)]) rfl trivial (enters_of Tryz.func175 (by kernel_rfl) rfl)
          (backS_stops Fence.wide 8 trivial rfl (by omega) (p + 1 + 1) w.heap.size cl al n (lit l) (ofs l) (fun i => (sqAt l i).len) (by omega) W0 HRD.out) (fun h k => h.trans k) (fun V lp o1 o2 h1 _ _ _ => KB.putObj V lp o2 (by have := HW0s.out; have := HPB.out; omega) (by have := HW0s.out; omega)) (Below.refl _ _) (fun _ => rfl)
          (fun pre V => PkI W0 p (exP l h pre) V) (fun _ _ _ => False) (PkI.own W0 p _) (fun _ _ _ _ _ hs _ _ => hs) HI0.out (fun k a' V => ∃ gi, a' = S gi k ∧ W0.heap.size ≤ gi ∧ V.heap[gi]? = some (.cells #[.int .i64 ((n - 1 - k : Nat) : Int)] 3 (0, 0))) (fun k a' => fun s A B row hh hg hr => by
            obtain ⟨gi, g1, g2, g3⟩ := hh
            exact ⟨gi, g1, g2, (grownBy_keeps_cells hg (fun r e => (hr r e).2) g3 rfl).trans g3⟩) ?assign ?body ?done ?stop
        case assign =>
          intro lp pre k V K hI hK
          have HK2 := Lib.hid hK
          have HI := Lib.hid hI
          clear hI hK
          gi_wp2
          exact HK2.out _ _ (Kp.keeps (kp_alloc V _) (fun k q => q.elim) _) (Kp.kb (kp_alloc V _) (fun k q => q.elim)) ((PkI.own W0 p (exP l h)).alloc _ HI.out) ⟨V.heap.size, by rw [hS], HI.out.kp.size, alloc_at V _⟩
        case body =>
          rintro lp pre k a' V hlp ⟨rec, hrec⟩ hI ⟨gi, rfl, hgs, hgc⟩ hlt
          obtain ⟨F, aw, cw, hw, hF⟩ := hI.wr
          have HI := Lib.hid hI
          obtain ⟨i, hi⟩ : ∃ i, i = n - 1 - k := ⟨_, rfl⟩
          have hin : i < n := by have := H0.out; omega
          have HII := Lib.hid hi
          obtain ⟨bi, hbi⟩ : ∃ bi, bi = V.heap.size := ⟨_, rfl⟩
          have ka := kp_alloc V (.cells #[.slice (some ⟨w2.heap.size, 0, none⟩) 3 3] 206)
          have hbc : (V.alloc (.cells #[.slice (some ⟨w2.heap.size, 0, none⟩) 3 3] 206)).heap[V.heap.size]? = _ := alloc_at V _
          obtain ⟨U0, hU0⟩ : ∃ U0, U0 = V.alloc (.cells #[.slice (some ⟨w2.heap.size, 0, none⟩) 3 3] 206) := ⟨_, rfl⟩
          have hU0s : U0.heap.size = V.heap.size + 1 := by rw [hU0]; simp
          rw [← hU0] at ka hbc
          rw [← hbi] at hbc hU0s
          have hgi : gi < bi := by rw [hbi]; exact lt_of_at hgc
          have hbW : W0.heap.size ≤ bi := by rw [hbi]; exact HI.out.kp.size
          have hkU := HI.out.kp.trans2 ka (fun _ _ q => q.elim)
          have hlen0 : (exP l h pre).length ≤ 33 * pre.length := exP_len HMAY.out h pre
          have HL0 := Lib.hid hlen0
          have HLT := Lib.hid hlt
          have HJ0 : Hid (PkJ W0 U0 p w.heap.size (p + 1 + 1) gi bi i (inP l h (exP l h pre) i []) U0) := Lib.hid ⟨hkU, KeepsFrom.refl _ _, KB.refl _ _ _, by rw [hi]; exact ka.at_ hgc (fun q => q), by
            refine ⟨_, aw, cw, (show inP l h (exP l h pre) i [] = exP l h pre by simp [inP]) ▸ (WrAt.min hw).kp ka (fun _ _ q => q), fun j hj => ?_⟩
            rcases hj with rfl | q
            · exact ⟨.inl rfl, by have := HW0s.out; omega, by have := HW0s.out; omega⟩
            · have q' : (Value.slice aw (exP l h pre).length cw).ownBlock = some j := by simpa [inP] using q
              have h1 := hF j (hw.ne j q').1
              have h2 := hw.own.lt q'
              refine ⟨h1, fun e => ?_, by rw [hbi]; omega⟩
              rcases hw.own.2 with ⟨e2, _⟩ | ⟨g', cap, cur, fr, e2, hg, _⟩
              · rw [e2] at q'; cases q'
              · rw [e2] at q'
                have := own_b q'
                rw [← this, e, hgc] at hg
                cases hg⟩
          have HRV : Hid (RdV p bi U0 (some ⟨w2.heap.size, 0, none⟩) 3 3 R) := Lib.hid ⟨fun V' hk => by
              rw [hk.cell (p := ⟨bi, 0, none⟩) (by dsimp only; omega) (.inr rfl), cell_of hbc]; rfl, fun _ =>
              ⟨w2.heap.size, 0, rfl, by omega, fun V' hk i hi => by
                refine (hk.cell (p := ⟨w2.heap.size, 0 + i, none⟩) (by have := HPB.out; have := HW0s.out; dsimp only; omega) (.inl (by have := HPB.out; dsimp only; omega))).trans ?_
                exact (HX.out U0 hkU).2.2.2.1 i hi⟩⟩
          have HREC := Lib.hid (ka.at_ hrec (fun q => q))
          have HKA := Lib.hid ka
          have HBI := Lib.hid hbi
          have HGI : Hid (gi < bi ∧ W0.heap.size ≤ bi ∧ U0.heap.size = bi + 1 ∧ W0.heap.size ≤ gi) := Lib.hid ⟨hgi, hbW, hU0s, hgs⟩
          have hfold := hU0.symm
          have hfoldb := hbi.symm
          rw [HSE.out]
          dsimp only
          rw [← hi]
          clear hI hw hF hS hrec hgc ka hbc hU0 hi hbi hgi hbW hkU hlen0 hlt hU0s
          gi_wp2
          refine ⟨trivial, (CallsIn.inRound lp (callsIn_wide.2 (backV_c (some ⟨w2.heap.size, 0, none⟩) 3 3 V))).mono ?_⟩
          rintro e w' ⟨rfl, rfl⟩
          rw [hfold]
          gi_wp2
          obtain ⟨S2, hS2⟩ : ∃ S2 : Nat → Act, S2 = fun j => { tmps := #[.slice al n cl, .agg #[.int .i64 (h.a : Nat), .int .i64 (h.b : Nat), .int .i64 (h.c : Nat)], undef, .pointer (some ⟨w.heap.size, 0, none⟩), .slice none 0 0, .pointer (some ⟨w.heap.size + 1, 0, none⟩), .bool false, .slice ab q db, .pointer (some ⟨w2.heap.size, 0, none⟩), undef, u10, .pointer (some ⟨p + 1, 0, none⟩), .pointer (some ⟨gi, 0, none⟩), undef, R (3 - 1 - j), undef, undef, undef, .slice al n cl, .int .i64 (n : Nat), .bool (decide ((500 : Int) < (n : Int))), .bool (decide ((500 : Int) < (n : Int))), .slice al n cl, .bool false, .bool (decide ((500 : Int) < (n : Int))), undef, .slice al n cl, .int .i64 (n : Nat), .int .u8 ((n : Int) % 256), .slice al n cl, .int .i64 (n : Nat), .int .i64 ((n : Int) / 256), .int .u8 ((n : Int) / 256), .slice (some ⟨V1.heap.size, 0, none⟩) 2 2, .slice al n cl, .int .i64 (n : Nat), .bool false, undef, undef, .tuple #[.agg #[.slice a0 n d0, .slice a1 n d1, .slice a2 n d2], .agg #[.int .i64 (HH.a : Nat), .int .i64 (HH.b : Nat), .int .i64 (HH.c : Nat)]], .slice al n cl, .agg #[.int .i64 (h.a : Nat), .int .i64 (h.b : Nat), .int .i64 (h.c : Nat)], .tuple #[.agg #[.slice a0 n d0, .slice a1 n d1, .slice a2 n d2], .agg #[.int .i64 (HH.a : Nat), .int .i64 (HH.b : Nat), .int .i64 (HH.c : Nat)]], .agg #[.slice a0 n d0, .slice a1 n d1, .slice a2 n d2], .agg #[.int .i64 (HH.a : Nat), .int .i64 (HH.b : Nat), .int .i64 (HH.c : Nat)], .agg #[.slice a0 n d0, .slice a1 n d1, .slice a2 n d2], .int .i64 3, .bool false, u48, u49, u50, u51, u52, u53, .pointer (some ⟨p, 0, none⟩), .slice al n cl, .func (.func 175) #[] #[.pointer (some ⟨p + 1 + 1, 0, none⟩)], .int .i64 ((i : Nat) : Int), .agg #[.int .i64 (lit l i : Nat), .int .i64 (ofs l i : Nat), .int .i64 ((sqAt l i).len : Nat)], .slice (some ⟨w2.heap.size, 0, none⟩) 3 3, .func (.func 176) #[] #[.pointer (some ⟨bi, 0, none⟩)], .int .i64 ((3 - 1 - j : Nat) : Int), R (3 - 1 - j), undef, undef, undef, undef, undef, undef, undef, undef, undef, undef, undef, undef, undef, undef, undef, undef, undef, undef, undef], defers := [] } := ⟨_, rfl⟩
          have HSE2 := Lib.hid hS2
          refine wpIn_rangeFunc_ownN rfl HREC.out (by omega) (gf := 176) (lb := #[.pointer (some ⟨bi, 0, none⟩)]) rfl trivial (enters_of Tryz.func176 (by kernel_rfl) rfl)
            (SeqStopsK.inRound lp (backV_stops Fence.wide (9 - 1 - 1 - 1) trivial rfl (by omega) bi p 3 (some ⟨w2.heap.size, 0, none⟩) 3 R (by omega) U0 HRV.out)) (fun h k => h.trans k) (fun V' l' o1 o2 h1 _ _ _ => KB.putObj V' l' o2 (by have := HGI.out; have := HW0s.out; omega) (by have := HGI.out; omega)) (Below.refl _ _) (fun _ => rfl)
            (fun pre' V' => PkJ W0 U0 p w.heap.size (p + 1 + 1) gi bi i (inP l h (exP l h pre) i pre') V') (fun _ _ _ => False) (PkJ.own W0 U0 p _ _ gi bi i (by have := HGI.out; omega) _) (fun _ _ _ _ _ hs _ _ => hs) HJ0.out (fun j a' _ => a' = S2 j) (fun _ _ _ _ _ _ hs _ _ => hs) ?assign2 ?body2 ?done2 ?stop2
          case assign2 =>
            intro lp2 pre2 j V2 K hJ hK
            have HK2 := Lib.hid hK
            have HJ := Lib.hid hJ
            clear hJ hK
            gi_wp2
            exact HK2.out _ _ (KeepsFrom.refl _ _) (KB.refl _ _ _) HJ.out (by rw [hS2])
          case body2 =>
            rintro lp2 pre2 j a' V2 hlp2 _ hJ rfl hlt2
            obtain ⟨g, o, cR, hR, hcR, hcc⟩ := RC.out (3 - 1 - j)
            obtain ⟨F, a3, c3, hw, hF⟩ := hJ.wr
            have d0 : V2.cell? ⟨gi, 0, none⟩ = some (.int .i64 (i : Nat)) := by rw [cell_of hJ.ci]; rfl
            have d1 := hcc V2 hJ.kp i hin
            have hv := HF3.out (3 - 1 - j) i
            have HFV : Hid (inP l h (exP l h pre) i (pre2 ++ [j]) = inP l h (exP l h pre) i pre2 ++ xb (F3 l h (3 - 1 - j) i)) := Lib.hid (inP_snoc _ _ _ _ _ _)
            obtain ⟨v, hve⟩ : ∃ v, v = F3 l h (3 - 1 - j) i := ⟨_, rfl⟩
            rw [← hve] at d1 hv HFV
            have CD := Lib.hid (code_p v hv V2)
            have HJJ := Lib.hid hJ
            have HW := Lib.hid hw
            have HFF := Lib.hid hF
            have HBL : Hid ((inP l h (exP l h pre) i pre2).length ≤ 100000) := Lib.hid (by
              have h1 := inP_len HMAY.out h (exP l h pre) i pre2
              have h2 := HL0.out
              have h3 := HLT.out
              omega)
            have HNB := Lib.hid (nb_le hv)
            have HEX := Lib.hid (Sq.ex_lt hv)
            have PUT := Lib.hid (fun V3 (hk3 : Kp (fun _ => False) V2 V3) => put_p ((WrAt.min HW.out).kp hk3 (fun _ _ q => q)) (ex v) (nb v) (by have := HNB.out; omega) HEX.out (by have := HBL.out; omega))
            have STEP := Lib.hid (fun V3 V4 (hk3 : Kp (fun _ => False) V2 V3) hV => HJJ.out.step (V2 := V3) (V3 := V4) (B' := inP l h (exP l h pre) i pre2 ++ xb v) HW.out HFF.out (by have := HPB.out; omega) (by omega) (by have := HW0s.out; omega) (by have := HW0s.out; omega) (by have := HGI.out; omega) (by have := HGI.out; omega) hk3 hV (by have := HGI.out; have := HW0s.out; omega))
            rw [xb_eq] at STEP HFV
            obtain ⟨nv, hnv⟩ : ∃ nv, nv = nb v := ⟨_, rfl⟩
            obtain ⟨xv, hxv⟩ : ∃ xv, xv = ex v := ⟨_, rfl⟩
            rw [← hnv, ← hxv] at CD PUT STEP HFV
            rw [HSE2.out]
            dsimp only
            rw [hR]
            clear hJ hw hF hcc hR hS2 hve hnv hxv hlt2
            gi_wp2
            refine ⟨trivial, (CallsIn.inRound lp2 (CallsIn.inRound lp (callsIn_wide.2 CD.out))).mono ?_⟩
            rintro e V3 ⟨rfl, hk3⟩
            have d2 := (HX.out V3 (HJJ.out.kp.trans2 hk3 (fun _ _ q => q.elim))).1
            have HK3 := Lib.hid hk3
            clear hk3
            gi_wp2
            refine ⟨trivial, (CallsIn.inRound lp2 (CallsIn.inRound lp (callsIn_wide.2 (PUT.out V3 HK3.out)))).mono ?_⟩
            rintro e V4 ⟨rfl, hV⟩
            obtain ⟨q1, q2, q3⟩ := STEP.out V3 V4 HK3.out hV
            have Q1 := Lib.hid q1
            have Q2 := Lib.hid q2
            have Q3 := Lib.hid q3
            clear q1 q2 q3 hV
            gi_wp2
            have q3 := Q3.out
            rw [← HFV.out] at q3
            exact ⟨Q1.out, Q2.out, q3⟩
          case done2 =>
            rintro xs V3 rfl hJ
            have HJJ := Lib.hid hJ
            clear hJ
            try gi_wp2
            have hJ := HJJ.out
            refine ⟨(Kp.keeps HKA.out (fun k q => q.elim) _).trans hJ.kf, (Kp.kb HKA.out (fun k q => q.elim)).trans hJ.kb, hJ.kp, ?_⟩
            obtain ⟨F, a3, c3, hw, hF⟩ := hJ.wr
            rw [inP_all, HII.out, HN.out, ← exP_snoc] at hw
            exact ⟨F, a3, c3, hw, fun k q => (hF k q).1⟩
          case stop2 =>
            intro c pre' V3 _ hf
            exact hf.elim
        case done =>
          rintro D ys V hD rfl hI hK
          rw [HN.out, exP_all, ← HN.out] at hI
          obtain ⟨F, aw, cw, hw, hF⟩ := hI.wr
          obtain ⟨e0, e1, e2, e3, e4⟩ := HX.out V hI.kp
          obtain ⟨g0, g1, g2⟩ := e1.cells
          obtain ⟨r0, r1, r2⟩ := e2.cells
          have f0 := free_of e2 0
          have f1 := free_of e2 1
          have f2 := free_of e2 2
          obtain ⟨BB, hBB⟩ : ∃ BB, BB = exB l h n := ⟨_, rfl⟩
          rw [← hBB] at hw HXL HPK
          have BY := Lib.hid (bytes_p (hw.kp (Kp.refl (fun _ => False) V).drew (fun _ _ q => q)) (by have := HXL.out; omega))
          have PL := pack_len BB
          obtain ⟨PB, hPB⟩ : ∃ PB, PB = pack BB := ⟨_, rfl⟩
          rw [← hPB] at PL HPK
          obtain ⟨m, hm⟩ : ∃ m, m = BB.length / 8 + 1 := ⟨_, rfl⟩
          rw [← hm] at PL
          have hmle : m ≤ 20000 := by have := HXL.out; omega
          have HPL := Lib.hid PL
          have HMM := Lib.hid hm
          have HPBE := Lib.hid hPB
          have HPS : Hid ((Sq.sized PB).length = 2 + m) := Lib.hid (by rw [← PL]; simp [Sq.sized, two]; omega)
          have HE4 := Lib.hid e4
          have HE2 := Lib.hid e2
          have HE1 := Lib.hid e1
          have HKD := Lib.hid hK
          have HD := Lib.hid hD
          have HI := Lib.hid hI
          have HBBL := Lib.hid (show BB.length ≤ 100000 by have := HXL.out; omega)
          clear hI hK hD hw hF hBB PL hPB hm e4 e1 e2
          have hpb := HPB.out
          have hne1 : w.heap.size ≠ w.heap.size + 1 := by omega
          have hne2 : ¬ p = w.heap.size := by omega
          have hne3 : ¬ w.heap.size = p := by omega
          have HRST : Hid (∀ X, Kp (fun _ => False) V X → X.cell? ⟨p + 1, 0, none⟩ = some (.pointer (some ⟨p, 0, none⟩)) ∧ HAt X w.heap.size HH ∧ HAt X (w.heap.size + 1) ⟨0, 0, 0⟩ ∧ RowB V1.heap.size X (.slice ab q db) (AC 3) ∧ X.heap[D]? = some (.deferred (some []))) := Lib.hid (fun X hX => by
            obtain ⟨c0, _, _, _, _⟩ := HX.out X (HI.out.kp.trans2 hX (fun _ _ q => q.elim))
            exact ⟨c0, HE1.out.kp hX (fun q => q), HE2.out.kp hX (fun q => q), HE4.out.kp0 hX, hX.at_ HKD.out (fun q => q)⟩)
          have HBO : Hid (∀ k, (Value.slice ab q db).ownBlock = some k → V1.heap.size ≤ k ∧ k < p) := Lib.hid (fun k hk => by
            have := HROW.out.lt hk
            have := HPE.out
            omega)
          clear hpb g0 g1 g2 r0 r1 r2 f0 f1 f2 e0
          obtain ⟨e0, e1, e2, _, _⟩ := HRST.out _ (Kp.refl (fun _ => False) V).drew
          obtain ⟨g0, g1, g2⟩ := e1.cells
          clear e1 e2
          go_wp2_with fail
          go_region_held3 (fun V' => V'.cell? ⟨p + 1, 0, none⟩ = some (.pointer (some ⟨p, 0, none⟩)) ∧ V'.cell? ⟨w.heap.size, 0, none⟩ = some (.int .i64 (HH.a : Nat)) ∧ V'.cell? ⟨w.heap.size, 1, none⟩ = some (.int .i64 (HH.b : Nat)) ∧ V'.cell? ⟨w.heap.size, 2, none⟩ = some (.int .i64 (HH.c : Nat))) (go_keep) ((first
            | (go_simp; go_at_call 153; refine BY.out.mono ?_; rintro e w5 ⟨g5, rfl, b1, b2, b3⟩; have k5 : Kp (fun _ => False) V w5 := ((Kp.refl (fun _ => False) V).drew.trans b3); obtain ⟨s3, t1, _, _, _⟩ := HRST.out _ k5; obtain ⟨s0, s1, s2⟩ := t1.cells; have K5 := Lib.hid k5; have hsl := (pack_row b2 HBBL.out).sl.1; rw [← HPBE.out, HPL.out] at hsl; rw [← HMM.out] at ⊢; have SZ := sized6_p w5 PB (some ⟨g5, 0, none⟩) m (by rw [HPL.out]; exact hsl) (by rw [HPL.out]; omega); unfold SizedPost at SZ; rw [HPL.out] at SZ; have SZH := Lib.hid SZ; clear b1 b2 b3 k5 t1 hsl SZ)
            | (go_simp; go_at_call 152; refine SZH.out.mono ?_; rintro e w6 ⟨sa, sc, rfl, t6, k6⟩; have K6 := Lib.hid (K5.out.trans k6); have T6 := t6.sl.1; rw [HPS.out] at T6; have HT6 := Lib.hid T6; obtain ⟨s3, t1, _, tb, _⟩ := HRST.out _ K6.out; obtain ⟨s0, s1, s2⟩ := t1.cells; have B6 := Lib.hid tb; have S6 : Hid (V1.heap.size ≤ w6.heap.size) := Lib.hid (by have := K6.out.size; have := HI.out.kp.size; have := HW0s.out; have := HPB.out; omega); clear t6 k6 T6 t1 tb)
            | (refine step_grow (B := V1.heap.size) _ (by rfl) (.tmp 76) (.tmp 79) 23 (by rfl) j0 _ 1 Tryz.underlying23 hj0 hy0 hy1 hy2 rfl (by decide) u8c_1 (.slice ab q db) (AC 3) (by rfl) (by exact B6.out) (by exact S6.out) (.slice sa (2 + m) sc) (2 + m) (Sq.sized PB) (by rfl) (by exact HT6.out) HPS.out (q + (2 + m)) (by rw [HQQ.out]) (by omega) ?_; intro a7 c7 w7 g7; have K7 := Lib.hid g7.2.2; have R7 := Lib.hid g7.1; obtain ⟨u3, u1, u2, _, uD⟩ := HRST.out _ K6.out; have v3 : w7.cell? ⟨p + 1, 0, none⟩ = some (.pointer (some ⟨p, 0, none⟩)) := (g7.2.2.cell (p := ⟨p + 1, 0, none⟩) (by have := K6.out.size; have := HI.out.kp.size; have := HW0s.out; dsimp only; omega) (fun z => by have h9 := (HBO.out _ z).2; dsimp only at h9; omega)).trans u3; have hv1 := u1.kp g7.2.2 (fun z => by have := HBO.out _ z; have := HPB.out; omega); have hv2 := u2.kp g7.2.2 (fun z => by have := HBO.out _ z; have := HPB.out; omega); have UD := Lib.hid (g7.2.2.at_ uD (fun z => by have := HBO.out _ z; have := HD.out; have := HW0s.out; omega)); obtain ⟨s0, s1, s2⟩ := hv1.cells; obtain ⟨r0, r1, r2⟩ := hv2.cells; have f0 : w7.frozen? ⟨w.heap.size + 1, 0, none⟩ = false := free_of hv2 0; have f1 : w7.frozen? ⟨w.heap.size + 1, 1, none⟩ = false := free_of hv2 1; have f2 : w7.frozen? ⟨w.heap.size + 1, 2, none⟩ = false := free_of hv2 2; have HR7 := Lib.hid hv2; clear g7 u3 u1 u2 uD hv1 hv2)))
          all_goals (go_wp2_with fail)
          obtain ⟨hst, hkst⟩ := HR7.out.store HH.a HH.b HH.c
          obtain ⟨X, hX⟩ : ∃ X, X = ((w7.setCell ⟨w.heap.size + 1, 0, none⟩ (.int .i64 (HH.a : Nat))).setCell ⟨w.heap.size + 1, 1, none⟩ (.int .i64 (HH.b : Nat))).setCell ⟨w.heap.size + 1, 2, none⟩ (.int .i64 (HH.c : Nat)) := ⟨_, rfl⟩
          rw [← hX] at hst hkst ⊢
          clear hX
          have hpb := HPB.out
          have hsz0 := HW0s.out
          have hsD := HD.out
          have hXD := hkst.at_ UD.out (by omega)
          have kY := Kp.put X D (.deferred none)
          have hst2 := hst.kp kY (by omega)
          obtain ⟨y0, y1, y2⟩ := hst2.cells
          have kZ : Kp (fun k => k = w.heap.size + 1 ∨ k = D) w7 (X.putObj D (.deferred none)) := (hkst.mono (fun _ _ q => .inl q)).trans2 kY (fun i _ q => .inr q)
          have hpk : packB l h = AC 3 ++ Sq.sized PB := HPK.out
          have hpl : (packB l h).length = q + (2 + m) := by rw [hpk, List.length_append, HQQ.out, HPS.out]
          have kW7 : Kp (fun _ => False) w w7 := (((HK0.out.trans2 HI.out.kp (fun i hi z => by omega)).trans K6.out).trans2 K7.out (fun i hi z => by have := HBO.out _ z; omega))
          have r9 : RowB w.heap.size (X.putObj D (.deferred none)) (.slice a7 (q + (2 + m)) c7) (AC 3 ++ Sq.sized PB) := by
            obtain ⟨av, cv, he, hown, hb⟩ := R7.out
            refine ⟨av, cv, he, hown.kp kZ (fun b hb1 hb2 => ?_), fun k hk => by have := hb k hk; omega⟩
            have h1 := hb b hb1
            have h2 := hown.lt hb1
            rcases hb2 with e | e
            · omega
            · subst e
              rcases hown.2 with ⟨e2, _⟩ | ⟨g', cap, cur, fr, e2, hg, _⟩
              · rw [e2] at hb1; cases hb1
              · rw [e2] at hb1
                have := own_b hb1
                rw [← this, UD.out] at hg
                cases hg
          rw [← hpk] at r9
          refine ⟨by simp, .inl ⟨_, _, rfl, run_takeDeferred hXD, ?_⟩⟩
          refine ⟨.tuple #[.slice a7 (q + (2 + m)) c7, .agg #[.int .i64 (HH.a : Nat), .int .i64 (HH.b : Nat), .int .i64 (HH.c : Nat)], .bool true], ?_, a7, c7, by rw [hpl], by rw [hpl]; exact r9, kW7.trans2 kZ (fun i hi z => by omega)⟩
          simp [results, Tryz.results120, go_sem, y0, y1, y2]
        case stop =>
          intro D c0 pre V _ _ hf _
          exact hf.elim
end Go.Proofs.YtmioiaeiflbmhaaGreat.Ma
