/- stream, as the document tells it: what is seen is a window of all that is out. block: the document's Encode. stream, the document's: in memory; block. stream, the document's: Depth, Begin, New; Write, Flush, End. -/
import Derived.Deep.QuietTactic
import Derived.BigQuiet
import Derived.Test.YtbakhpakdaflkaaGreatN01
namespace Go.Proofs.YtbakhpakdaflkaaGreat.Str
open Go Go.Mt Go.Proofs.YtbakhpakdaflkaaGreat.Sq Go.Proofs.YtbakhpakdaflkaaGreat.Bk

theorem win_nil {s : List UInt8} (h : s.length ≤ 2000) : win [] s = s := by
  unfold win
  rw [List.nil_append, show s.length - 2000 = 0 by omega, List.drop_zero]
theorem win_win (d a c : List UInt8) : win (win d a) c = win d (a ++ c) := by
  unfold win
  have hk : (d ++ a).length - 2000 ≤ (d ++ a).length := by omega
  have e : (d ++ a).drop ((d ++ a).length - 2000) ++ c = (d ++ (a ++ c)).drop ((d ++ a).length - 2000) := by
    rw [← List.append_assoc, List.drop_append_of_le_length hk]
  rw [e, List.drop_drop]
  have e3 : (d ++ a).length - 2000 + ((List.drop ((d ++ a).length - 2000) (d ++ (a ++ c))).length - 2000) = (d ++ (a ++ c)).length - 2000 := by
    rw [List.length_drop, List.length_append, List.length_append, List.length_append]
    omega
  rw [e3]
/-- What the document's Stream holds, told by the program's. -/
structure DOk (dict : List UInt8) (out : Nat) (S : Str) : Prop where
  le : out ≤ S.all.length
  kept : S.kept = S.all.drop out
  seen : S.seen = win dict (S.all.take out)
theorem DOk.len {dict : List UInt8} {out : Nat} {S : Str} (h : DOk dict out S) : S.all.length = out + S.kept.length := by
  have := h.le
  rw [h.kept, List.length_drop]; omega
theorem DOk.enc {dict : List UInt8} {out : Nat} {S : Str} (h : DOk dict out S) (n : Nat) : Str.enc S n = encB (win dict (S.all.take out)) ((S.all.drop out).take n) S.d S.h := by
  unfold Str.enc
  rw [win_nil (by rw [h.seen]; exact win_len _ _), h.seen, h.kept]
theorem DOk.take {dict : List UInt8} {out : Nat} {S : Str} (h : DOk dict out S) (p : List UInt8) : DOk dict out (Str.take S p) := by
  have ho := h.le
  constructor
  · unfold Str.take; simp only [List.length_append]; omega
  · unfold Str.take; simp only [h.kept, List.drop_append_of_le_length ho]
  · unfold Str.take; simp only [h.seen, List.take_append_of_le_length ho]
theorem DOk.blk {dict : List UInt8} {out : Nat} {S : Str} (h : DOk dict out S) {n : Nat} (hn : n ≤ S.kept.length) : DOk dict (out + n) (blkS S n) := by
  have hl := h.len
  constructor
  · rw [blk_all]; omega
  · unfold blkS; simp only [h.kept, List.drop_drop]
  · rw [blk_seen, blk_all, h.seen, win_win, h.kept]
    rw [List.take_add]
theorem DOk.new (id d : Nat) (dict : List UInt8) (hd : dict.length ≤ 2000) : DOk dict 0 ⟨id, d, dict, [], [], ⟨1, 4, 8⟩, false, false⟩ :=
  ⟨Nat.zero_le _, rfl, by simp only [List.take_nil]; unfold win; rw [List.append_nil, show dict.length - 2000 = 0 by omega, List.drop_zero]⟩
theorem DOk.ended {dict : List UInt8} {out : Nat} {S : Str} (h : DOk dict out S) (b : Bool) : DOk dict out { S with ended := b } := ⟨h.le, h.kept, h.seen⟩
end Go.Proofs.YtbakhpakdaflkaaGreat.Str
namespace Go.Proofs.YtbakhpakdaflkaaGreat.Ma
open Go Go.RowKit Go.ChangeMaps Go.MapKept Go.Mg Go.Mt Go.Hf Go.Proofs.YtbakhpakdaflkaaGreat.Hu Go.Proofs.YtbakhpakdaflkaaGreat.Bw Go.Proofs.YtbakhpakdaflkaaGreat.He Go.Proofs.YtbakhpakdaflkaaGreat.Rd Go.Proofs.YtbakhpakdaflkaaGreat.Sq Go.Proofs.YtbakhpakdaflkaaGreat.Bk

set_option maxRecDepth 100000 in
set_option maxHeartbeats 4000000 in
theorem encode7_same (w : World) (p d : List UInt8) (ap : Option Addr) (cp : Nat) (ad : Option Addr) (cd : Nat) (hd : SlR w 1 (.slice ad d.length cd) d.length (d.map u8c)) (hl2 : d.length ≤ 500) (depth : Nat) (h : H3) (hsame : Bk.same d = true) :
    Calls Tryz.prog 51 #[.slice ap p.length cp, .slice ad d.length cd, .int .i64 (depth : Nat), hv3 h] w (EncPost7 w (Bk.encB p d depth h).1 (Bk.encB p d depth h).2) := by
  have mixed : Tryz.prog.follows .mixedOrders = true := by kernel_rfl
  obtain ⟨j0, hj0, hy0, hy1, hy2⟩ := info_parts infoU8
  have h0 : 0 < d.length := by
    unfold Bk.same at hsame
    simp only [Bool.and_eq_true, decide_eq_true_eq] at hsame
    exact hsame.1
  have SM := Lib.hid (fun V hV => same7_d V d ad cd (hd.kp hV (fun _ _ q => q)) (by omega))
  rw [hsame] at SM
  obtain ⟨g, o, rfl, hg, hcap, hc⟩ := byts_at hd h0
  have HB : Hid (Bk.encB p d depth h = (two d.length ++ [1, UInt8.ofNat (byt d 0)], h)) := Lib.hid (by
    unfold Bk.encB
    rw [if_pos hsame]
    simp [byt])
  have hc0 := hc 0 h0
  rw [Nat.add_zero] at hc0
  have hy256 := byt_lt d 0
  obtain ⟨y, hy⟩ : ∃ y, y = byt d 0 := ⟨_, rfl⟩
  rw [← hy] at HB hc0 hy256
  have HCC := Lib.hid (fun V (hk : Kp (fun _ => False) w V) => (hk.cell (p := ⟨g, o, none⟩) hg (fun q => q)).trans hc0)
  obtain ⟨r, hr⟩ : ∃ r, r = Bk.encB p d depth h := ⟨_, rfl⟩
  rw [← hr] at HB ⊢
  obtain ⟨n, hn⟩ : ∃ n, n = d.length := ⟨_, rfl⟩
  rw [← hn] at HB SM hl2 h0 ⊢
  obtain ⟨m, hm⟩ : ∃ m, m = p.length := ⟨_, rfl⟩
  rw [← hm]
  have TW := Lib.hid (two7_d n)
  have EY := Lib.hid (u8c_lt hy256)
  have HGL := Lib.hid hg
  clear hsame hd hc hc0 hy hr hn hm hg hcap hy256 hl2
  obtain ⟨ha, hb, hc⟩ := h
  have hhv : ∀ a b c, hv3 ⟨a, b, c⟩ = .agg #[.int .i64 (a : Nat), .int .i64 (b : Nat), .int .i64 (c : Nat)] := fun _ _ _ => rfl
  rw [hhv]
  clear hhv
  go_enter Tryz.func51, Tryz.ntmps51
  go_wp2_with fail
  obtain ⟨W, hW⟩ : ∃ W, W = (w.alloc (.cells #[.int .i64 (ha : Nat), .int .i64 (hb : Nat), .int .i64 (hc : Nat)] 42)).alloc (.cells #[.int .i64 0, .int .i64 0, .int .i64 0] 42) := ⟨_, rfl⟩
  have hws : W.heap.size = w.heap.size + 2 := by rw [hW]; simp
  have hkW : Kp (fun _ => False) w W := by rw [hW]; exact (kp_alloc _ _).trans (kp_alloc _ _)
  have hG0 : HAt W w.heap.size ⟨ha, hb, hc⟩ := by
    rw [hW]; exact (kp_alloc _ _).at_ (alloc_at w _) (fun q => q)
  have hR0 : HAt W (w.heap.size + 1) ⟨0, 0, 0⟩ := by
    rw [hW]; have := alloc_at (w.alloc (.cells #[.int .i64 (ha : Nat), .int .i64 (hb : Nat), .int .i64 (hc : Nat)] 42)) (.cells #[.int .i64 0, .int .i64 0, .int .i64 0] 42)
    rw [World.size_alloc] at this
    exact this
  rw [← hW]
  obtain ⟨G, hG⟩ : ∃ G, G = w.heap.size := ⟨_, rfl⟩
  rw [← hG] at hG0 hR0 ⊢
  have HW := Lib.hid hws
  have HKW := Lib.hid hkW
  have HGE := Lib.hid hG
  have HG := Lib.hid (fun V (hV : Kp (fun _ => False) W V) => And.intro (hG0.kp hV (fun q => q)) (hR0.kp hV (fun q => q)))
  have SMW := Lib.hid (SM.out W hkW)
  clear hW hws hkW hG0 hR0 hG
  refine SMW.out.mono ?_
  rintro e w1 ⟨rfl, q0, hw1⟩
  have K1 : Hid (Kp (fun _ => False) W w1) := Lib.hid (by rw [hw1]; exact (Kp.refl _ _).drewN q0)
  clear hw1 SMW SM
  have HS1 : Hid (G + 2 ≤ w1.heap.size) := Lib.hid (by have := K1.out.size; have := HW.out; have := HGE.out; omega)
  have HCELL : Hid (∀ V, Kp (fun _ => False) w1 V → V.cell? ⟨g, o, none⟩ = some (.int .u8 (y : Nat)) ∧ (V.cell? ⟨G, 0, none⟩ = some (.int .i64 (ha : Nat)) ∧ V.cell? ⟨G, 1, none⟩ = some (.int .i64 (hb : Nat)) ∧ V.cell? ⟨G, 2, none⟩ = some (.int .i64 (hc : Nat))) ∧ HAt V (G + 1) ⟨0, 0, 0⟩) := Lib.hid (fun V hV => ⟨HCC.out V ((HKW.out.trans K1.out).trans hV), (HG.out V (K1.out.trans hV)).1.cells, (HG.out V (K1.out.trans hV)).2⟩)
  obtain ⟨c0, ⟨t0, t1, t2⟩, _⟩ := HCELL.out w1 (Kp.refl _ _)
  have LIT : Hid (∀ V : World, SlR (V.alloc (.cells #[.int .u8 1, .int .u8 (y : Nat)] 5)) 1 (.slice (some ⟨V.heap.size, 0, none⟩) 2 2) 2 ([1, UInt8.ofNat y].map u8c)) := Lib.hid (fun V => by
    have := lit_m V 5 [u8c 1, u8c (UInt8.ofNat y)] (n := 2) rfl (by omega)
    rw [EY.out] at this
    simp only [List.map_cons, List.map_nil, EY.out]
    exact this)
  have hgne : g ≠ G + 1 := by have := HGL.out; have := HGE.out; omega
  have hgne2 : G + 1 ≠ g := fun q => hgne q.symm
  have KE : Hid (Kp (fun _ => False) w1 w1.drew) := Lib.hid (Kp.refl _ _).drew
  have KL : Hid (Kp (fun _ => False) w1 (w1.alloc (.cells #[.int .u8 1, .int .u8 (y : Nat)] 5)).drew) := Lib.hid (kp_alloc _ _).drew
  go_wp2_with fail
  go_region_held3 (fun V => V.cell? ⟨g, o, none⟩ = some (.int .u8 (y : Nat)) ∧ V.cell? ⟨G, 0, none⟩ = some (.int .i64 (ha : Nat)) ∧ V.cell? ⟨G, 1, none⟩ = some (.int .i64 (hb : Nat)) ∧ V.cell? ⟨G, 2, none⟩ = some (.int .i64 (hc : Nat))) (go_keep) ((first
    | (go_simp; go_at_call 66; refine (TW.out _).mono ?_; rintro e V ⟨g9, rfl, _, t9, k9⟩; have KV : Hid (Kp (fun _ => False) w1 V) := Lib.hid (Kp.trans (by first | exact KE.out | exact KL.out) k9); obtain ⟨s0, ⟨s1, s2, s3⟩, _⟩ := HCELL.out _ KV.out; have T9 : Hid (RowB w1.heap.size V (.slice (some ⟨g9, 0, none⟩) 2 2) (two n)) := Lib.hid (t9.low (by first | exact KE.out.size | exact KL.out.size)); (try have Q9 : Hid (SlR V 1 (.slice (some ⟨w1.heap.size, 0, none⟩) 2 2) 2 ([1, UInt8.ofNat y].map u8c)) := Lib.hid (by exact (LIT.out w1).kp ((Kp.refl (fun _ => False) _).drew.trans k9) (fun _ _ q => q))); clear t9 k9)
    | (refine step_appM (w0 := w1) _ (by rfl) (.tmp 23) (.tmp 27) 24 (by rfl) 5 j0 _ 1 Tryz.underlying24 hj0 hy0 hy1 hy2 (by decide) (by decide) (by decide) u8c_1 (.slice (some ⟨g9, 0, none⟩) 2 2) (two n) (by rfl) (by first | exact T9.out | exact T9.out.kp0 (kp_alloc _ _)) _ 2 [1, UInt8.ofNat y] (by rfl) (by first | exact Q9.out | exact LIT.out _) rfl (by first | exact KV.out | exact KV.out.alloc _) 4 rfl (by omega) ?_; intro a6 d6 w6 g1 g2 g3; have R6 := Lib.hid g1; have K6 := Lib.hid g2; obtain ⟨s0, ⟨s1, s2, s3⟩, hr6⟩ := HCELL.out _ g2; obtain ⟨r0, r1, r2⟩ := hr6.cells; have f0 : w6.frozen? ⟨G + 1, 0, none⟩ = false := free_of hr6 0; have f1 : w6.frozen? ⟨G + 1, 1, none⟩ = false := free_of hr6 1; have f2 : w6.frozen? ⟨G + 1, 2, none⟩ = false := free_of hr6 2; have HR6 := Lib.hid hr6; clear g1 g2 g3 hr6)))
  all_goals (go_wp2_with fail)
  all_goals
    obtain ⟨hst, hkst⟩ := HR6.out.store ha hb hc
    obtain ⟨y0, y1, y2⟩ := hst.cells
    have hk9 : Kp (fun _ => False) w _ := ((HKW.out.trans K1.out).trans K6.out).trans2 hkst (fun i hi q => by have := HGE.out; omega)
    have hr9 := RowM.kp R6.out hkst.drew (fun j q => by rw [q]; have := HS1.out; omega)
    have hl9 : (two n ++ [1, UInt8.ofNat y]).length = 4 := rfl
    refine bodyPost_ret (v := .tuple #[.slice a6 4 d6, hv3 ⟨ha, hb, hc⟩]) ?_ rfl ⟨a6, d6, by rw [HB.out]; simp only [hl9], by rw [HB.out]; simp only [hl9]; exact hr9.low (by have := HS1.out; have := HGE.out; omega), (by first | exact hk9 | exact hk9.drew)⟩
    simp [results, Tryz.results51, go_sem, y0, y1, y2, hv3]
theorem encode7_d (w : World) (p d : List UInt8) (ap : Option Addr) (cp : Nat) (hp : SlR w 1 (.slice ap p.length cp) p.length (p.map u8c)) (ad : Option Addr) (cd : Nat) (hd : SlR w 1 (.slice ad d.length cd) d.length (d.map u8c)) (hl1 : p.length ≤ 2000) (hl2 : d.length ≤ 500) (depth : Nat) (hd1 : 1 ≤ depth) (hd2 : depth ≤ 32) (h : H3) :
    Calls Tryz.prog 51 #[.slice ap p.length cp, .slice ad d.length cd, .int .i64 (depth : Nat), hv3 h] w (EncPost7 w (Bk.encB p d depth h).1 (Bk.encB p d depth h).2) := by
  cases e : Bk.same d with
  | true => exact encode7_same w p d ap cp ad cd hd hl2 depth h e
  | false => exact encode7_not w p d ap cp hp ad cd hd hl1 hl2 depth hd1 hd2 h e
end Go.Proofs.YtbakhpakdaflkaaGreat.Ma
namespace Go.Proofs.YtbakhpakdaflkaaGreat.Str
open Go Go.RowKit Go.ChangeMaps Go.MapKept Go.Mg Go.Mt Go.Proofs.YtbakhpakdaflkaaGreat.Hu Go.Proofs.YtbakhpakdaflkaaGreat.Sq Go.Proofs.YtbakhpakdaflkaaGreat.Bk Go.Proofs.YtbakhpakdaflkaaGreat.Ma

def cellsD (dict : List UInt8) (out : Nat) (S : Str) (da aa : Option Addr) (dc ac : Nat) : Array Value :=
  #[.slice da dict.length dc, .int .i64 (S.id : Nat), .int .i64 (S.d : Nat), .slice aa S.all.length ac, .int .i64 (out : Nat), .int .i64 (S.h.a : Nat), .int .i64 (S.h.b : Nat), .int .i64 (S.h.c : Nat), .bool S.begun, .bool S.ended]
/-- The document's Stream in memory. -/
structure DC (w : World) (x : Nat) (dict : List UInt8) (out : Nat) (S : Str) (da aa : Option Addr) (dc ac : Nat) : Prop where
  hs : w.heap[x]? = some (.cells (cellsD dict out S da aa dc ac) 44 (0, 0))
  rowD : SlR w 1 (.slice da dict.length dc) dict.length (dict.map u8c)
  rowX : 0 < dict.length → ∀ b, (Value.slice da dict.length dc).ownBlock = some b → b ≠ x
  all : SlR w 1 (.slice aa S.all.length ac) S.all.length (S.all.map u8c)
  allX : 0 < S.all.length → ∀ b, (Value.slice aa S.all.length ac).ownBlock = some b → b ≠ x
section
variable {w w' : World} {x out out' : Nat} {dict : List UInt8} {S S' : Str} {da aa aa' : Option Addr} {dc ac ac' : Nat} {G : Nat → Prop}
theorem DC.lt (h : DC w x dict out S da aa dc ac) : x < w.heap.size := lt_of_at h.hs
theorem DC.cell (h : DC w x dict out S da aa dc ac) (i : Nat) : w.cell? ⟨x, i, none⟩ = (cellsD dict out S da aa dc ac)[i]? := cell_of h.hs i
theorem DC.free (h : DC w x dict out S da aa dc ac) (i : Nat) : w.frozen? ⟨x, i, none⟩ = false := free_of h.hs i
theorem DC.kp (h : DC w x dict out S da aa dc ac) (hk : Kp G w w') (hx : ¬ G x) (hd : 0 < dict.length → ∀ b, (Value.slice da dict.length dc).ownBlock = some b → ¬ G b) (ha : 0 < S.all.length → ∀ b, (Value.slice aa S.all.length ac).ownBlock = some b → ¬ G b) : DC w' x dict out S da aa dc ac :=
  ⟨hk.at_ h.hs hx, SlR.kpN h.rowD hk hd, h.rowX, SlR.kpN h.all hk ha, h.allX⟩
theorem DC.kp0 (h : DC w x dict out S da aa dc ac) (hk : Kp (fun _ => False) w w') : DC w' x dict out S da aa dc ac := h.kp hk (fun q => q) (fun _ _ _ q => q) (fun _ _ _ q => q)
theorem DC.put (h : DC w x dict out S da aa dc ac) (i : Nat) (v : Value) (he : (cellsD dict out S da aa dc ac).setIfInBounds i v = cellsD dict out' S' da aa' dc ac') (h1 : SlR w 1 (.slice aa' S'.all.length ac') S'.all.length (S'.all.map u8c)) (h2 : 0 < S'.all.length → ∀ b, (Value.slice aa' S'.all.length ac').ownBlock = some b → b ≠ x) :
    DC (w.setCell ⟨x, i, none⟩ v) x dict out' S' da aa' dc ac' ∧ Kp (· = x) w (w.setCell ⟨x, i, none⟩ v) := by
  have k : Kp (· = x) w (w.setCell ⟨x, i, none⟩ v) := (Kp.refl (· = x) w).setCell (p := ⟨x, i, none⟩) (fun _ => rfl) _
  exact ⟨⟨by rw [setCell_at h.hs, he], SlR.kpN h.rowD k h.rowX, h.rowX, SlR.kpN h1 k h2, h2⟩, k⟩
theorem DC.begun_put (h : DC w x dict out S da aa dc ac) : DC (w.setCell ⟨x, 8, none⟩ (.bool true)) x dict out { S with begun := true } da aa dc ac ∧ Kp (· = x) w (w.setCell ⟨x, 8, none⟩ (.bool true)) :=
  h.put 8 (.bool true) rfl h.all h.allX
theorem DC.ended_put (h : DC w x dict out S da aa dc ac) : DC (w.setCell ⟨x, 9, none⟩ (.bool true)) x dict out { S with ended := true } da aa dc ac ∧ Kp (· = x) w (w.setCell ⟨x, 9, none⟩ (.bool true)) :=
  h.put 9 (.bool true) rfl h.all h.allX
theorem DC.out_put (h : DC w x dict out S da aa dc ac) (n : Nat) : DC (w.setCell ⟨x, 4, none⟩ (.int .i64 (n : Nat))) x dict n S da aa dc ac ∧ Kp (· = x) w (w.setCell ⟨x, 4, none⟩ (.int .i64 (n : Nat))) :=
  h.put 4 (.int .i64 (n : Nat)) rfl h.all h.allX
theorem DC.h_put (h : DC w x dict out S da aa dc ac) (t : H3) :
    DC (((w.setCell ⟨x, 5, none⟩ (.int .i64 (t.a : Nat))).setCell ⟨x, 6, none⟩ (.int .i64 (t.b : Nat))).setCell ⟨x, 7, none⟩ (.int .i64 (t.c : Nat))) x dict out { S with h := t } da aa dc ac ∧ Kp (· = x) w (((w.setCell ⟨x, 5, none⟩ (.int .i64 (t.a : Nat))).setCell ⟨x, 6, none⟩ (.int .i64 (t.b : Nat))).setCell ⟨x, 7, none⟩ (.int .i64 (t.c : Nat))) := by
  have p1 := h.put (S' := { S with h := ⟨t.a, S.h.b, S.h.c⟩ }) 5 (.int .i64 (t.a : Nat)) rfl h.all h.allX
  have p2 := p1.1.put (S' := { S with h := ⟨t.a, t.b, S.h.c⟩ }) 6 (.int .i64 (t.b : Nat)) rfl p1.1.all p1.1.allX
  have p3 := p2.1.put (S' := { S with h := t }) 7 (.int .i64 (t.c : Nat)) rfl p2.1.all p2.1.allX
  exact ⟨p3.1, (p1.2.trans p2.2).trans p3.2⟩
end
def HdD (w : World) (x : Nat) (dict : List UInt8) (out : Nat) (S : Str) (da aa : Option Addr) (dc ac : Nat) (v : Value) (wx : World) : Prop :=
  ∃ a c, v = .slice a (pre S).length c ∧ RowB w.heap.size wx (.slice a (pre S).length c) (pre S) ∧ DC wx x dict out { S with begun := true } da aa dc ac ∧ Kp (· = x) w wx
def DOut (w : World) (x : Nat) (dict : List UInt8) (out : Nat) (O : List UInt8) (S' : Str) (da aa : Option Addr) (dc ac : Nat) (e : Ending) (w' : World) : Prop :=
  ∃ a c, e = .returned (.slice a O.length c) ∧ RowB w.heap.size w' (.slice a O.length c) O ∧ DC w' x dict out S' da aa dc ac ∧ Kp (· = x) w w'
theorem DC.blk {w : World} {x out n : Nat} {dict : List UInt8} {S : Str} {da aa : Option Addr} {dc ac : Nat} (h : DC w x dict out { S with begun := true, h := (Str.enc S n).2 } da aa dc ac) : DC w x dict out (blkS S n) da aa dc ac := by
  unfold blkS
  generalize (Str.enc S n).2 = t at h ⊢
  generalize win S.seen (S.kept.take n) = z
  generalize S.kept.drop n = y
  exact ⟨h.hs, h.rowD, h.rowX, h.all, h.allX⟩
theorem row_lt' {n : Nat} {w : World} {a : Option Addr} {k c : Nat} {O : List UInt8} (h : RowB n w (.slice a k c) O) {b : Nat} (hb : (Value.slice a k c).ownBlock = some b) : n ≤ b ∧ b < w.heap.size := by
  obtain ⟨_, _, e, h1, h2⟩ := h
  rw [e] at hb
  exact ⟨h2 b (by rw [e]; exact hb), h1.lt (by rw [e]; exact hb)⟩
theorem row_own {n : Nat} {w : World} {a : Option Addr} {k c : Nat} {O : List UInt8} (h : RowB n w (.slice a k c) O) : OwnR w 5 1 (.slice a k c) O.length (O.map u8c) := by
  obtain ⟨_, _, _, h1, _⟩ := h
  exact h1
set_option maxRecDepth 100000 in
set_option maxHeartbeats 2000000 in
theorem block_d {w : World} {x : Nat} {dict : List UInt8} {out : Nat} {S : Str} {da aa : Option Addr} {dc ac : Nat} (h : DC w x dict out S da aa dc ac) (ok : DOk dict out S) (n : Nat) (last : UInt8) (hn : n ≤ S.kept.length) (hn5 : n ≤ 500) (hw : S.Wf 90000) (hd : dict.length ≤ 2000) :
    Calls Tryz.prog 37 #[.pointer (some ⟨x, 0, none⟩), .int .i64 (n : Nat), .int .u8 (last.toNat : Nat)] w (DOut w x dict (out + n) (blkO S n last) (blkS S n) da aa dc ac) := by
  obtain ⟨j0, hj0, hy0, hy1, hy2⟩ := info_parts infoU8c
  have H := Lib.hid h
  have HOK := Lib.hid ok
  have HW := Lib.hid hw
  have HDD := Lib.hid hd
  have HLEN := Lib.hid ok.len
  have HN := Lib.hid hn
  have c8 : w.cell? ⟨x, 8, none⟩ = some (.bool S.begun) := by rw [h.cell]; rfl
  have c1 : w.cell? ⟨x, 1, none⟩ = some (.int .i64 (S.id : Nat)) := by rw [h.cell]; rfl
  have f8 : w.frozen? ⟨x, 8, none⟩ = false := h.free 8
  have HD := Lib.hid (head_d w S.id hw.id)
  have HP : Hid (S.begun = true → pre S = []) := Lib.hid (fun q => by unfold pre; rw [if_pos q])
  have HP2 : Hid (S.begun = false → pre S = headB S.id ∧ (headB S.id).length = 8) := Lib.hid (fun q => ⟨by unfold pre; rw [if_neg (by rw [q]; decide)], headB_len _⟩)
  have HLS := Lib.hid h.lt
  have HLD := Lib.hid (fun (q : 0 < dict.length) (b : Nat) hb => sl_lt h.rowD q (b := b) hb)
  have HLA := Lib.hid (fun (q : 0 < S.all.length) (b : Nat) hb => sl_lt h.all q (b := b) hb)
  clear h ok hw hd hn
  go_enter Tryz.func37, Tryz.ntmps37
  go_upto_if 14 with fail
  go_cut [7] (fun s7 wx => HdD w x dict out S da aa dc ac s7 wx)
  case first =>
    cases hbeg : S.begun with
    | true =>
      rw [hbeg] at c8
      go_wp2_with fail
      go_meet
      exact ⟨none, 0, by rw [HP.out hbeg]; rfl, by rw [HP.out hbeg]; exact RowM.nil _ _ _, by rw [begun_eq hbeg]; exact H.out, Kp.refl _ _⟩
    | false =>
      rw [hbeg] at c8
      go_wp2_with fail
      refine HD.out.mono ?_
      rintro e w1 ⟨a1, c1', rfl, p1, p2⟩
      have h1 := H.out.kp0 p2
      have f81 : w1.frozen? ⟨x, 8, none⟩ = false := h1.free 8
      have c81 : w1.cell? ⟨x, 8, none⟩ = some (.bool S.begun) := by rw [h1.cell]; rfl
      rw [hbeg] at c81
      have HH := Lib.hid h1.begun_put
      have P1 := Lib.hid p1
      have P2 := Lib.hid p2
      clear h1 p1 p2
      go_wp2_with fail
      go_meet
      have hrow : RowB w.heap.size w1 (.slice a1 8 c1') (headB S.id) := P1.out
      refine ⟨a1, c1', by rw [(HP2.out hbeg).1, (HP2.out hbeg).2], by rw [(HP2.out hbeg).1, (HP2.out hbeg).2]; exact hrow.kp HH.out.2 (fun k q => by rw [q]; exact HLS.out), HH.out.1, (P2.out.mono (fun _ _ q => q.elim)).trans HH.out.2⟩
  case rest =>
    obtain ⟨a7, c7, rfl, p7, h7, k7⟩ := hcut
    obtain ⟨W, hWc⟩ : ∃ W : World, W = wc := ⟨_, rfl⟩
    rw [← hWc] at p7 h7 k7 ⊢
    clear hWc c8 c1 f8 HD HP HP2 H
    have hall : SlR W 1 (.slice aa S.all.length ac) S.all.length (S.all.map u8c) := h7.all
    have hol := HLEN.out
    have hnk := HN.out
    have hup := hall.upto Tryz.underlying24 u8size (k := out) HOK.out.le
    obtain ⟨am, cm, hmr, hms, _⟩ := hall.mid Tryz.underlying24 u8size (show out ≤ out + n by omega) (show out + n ≤ S.all.length by omega)
    have e1 : out + n - out = n := by omega
    rw [e1] at hmr hms
    have hupr := hup.1
    obtain ⟨P, hP⟩ : ∃ P, P = win dict (S.all.take out) := ⟨_, rfl⟩
    obtain ⟨D, hD⟩ : ∃ D, D = (S.all.drop out).take n := ⟨_, rfl⟩
    have hDn : D.length = n := by rw [hD]; simp only [List.length_take, List.length_drop]; omega
    have hPn : P.length ≤ 2000 := by rw [hP]; exact win_len _ _
    have HEN0 : Hid (Str.enc S n = encB P D S.d S.h) := Lib.hid (by rw [hP, hD]; exact HOK.out.enc n)
    have WD : Hid (∀ V, Kp (fun _ => False) W V → Calls Tryz.prog 52 #[.slice da dict.length dc, .slice aa out ac] V (WinPost V P)) := Lib.hid (fun V hV => by
      have et : (S.all.take out).length = out := pre_len HOK.out.le
      have hs := hup.2
      simp only [Nat.mul_one, ← List.map_take] at hs
      have ha := HW.out.all
      have hdd := HDD.out
      have ho := HOK.out.le
      have := window_d V dict (S.all.take out) da dc (h7.rowD.kp hV (fun _ _ q => q)) aa ac (by rw [et]; exact hs.kp hV (fun _ _ q => q)) (by rw [et]; omega)
      rw [et, ← hP] at this
      exact this)
    have EN : Hid (∀ V, Kp (fun _ => False) W V → ∀ aw cw, SlR V 1 (.slice aw P.length cw) P.length (P.map u8c) → Calls Tryz.prog 51 #[.slice aw P.length cw, .slice am n cm, .int .i64 (S.d : Nat), .agg #[.int .i64 (S.h.a : Nat), .int .i64 (S.h.b : Nat), .int .i64 (S.h.c : Nat)]] V fun e w' => ∃ a c, e = .returned (.tuple #[.slice a (encB P D S.d S.h).1.length c, .agg #[.int .i64 ((encB P D S.d S.h).2.a : Nat), .int .i64 ((encB P D S.d S.h).2.b : Nat), .int .i64 ((encB P D S.d S.h).2.c : Nat)]]) ∧ RowB V.heap.size w' (.slice a (encB P D S.d S.h).1.length c) (encB P D S.d S.h).1 ∧ Kp (fun _ => False) V w') := Lib.hid (fun V hV aw cw hsw => by
      simp only [Nat.mul_one, ← List.map_drop, ← List.map_take] at hms
      rw [← hD] at hms
      have := encode7_d V P D aw cw hsw am cm (by rw [hDn]; exact hms.kp hV (fun _ _ q => q)) hPn (by rw [hDn]; exact hn5) S.d HW.out.d1 HW.out.d2 S.h
      rw [hDn] at this
      exact this)
    have HEL : Hid ((encB P D S.d S.h).1.length ≤ n + 4) := Lib.hid (by rw [← hDn]; exact encB_le _ _ _ _)
    have HC : Hid (∀ V, Kp (fun _ => False) W V → V.cell? ⟨x, 0, none⟩ = some (.slice da dict.length dc) ∧ V.cell? ⟨x, 3, none⟩ = some (.slice aa S.all.length ac) ∧ V.cell? ⟨x, 4, none⟩ = some (.int .i64 (out : Nat)) ∧ V.cell? ⟨x, 2, none⟩ = some (.int .i64 (S.d : Nat)) ∧ V.cell? ⟨x, 5, none⟩ = some (.int .i64 (S.h.a : Nat)) ∧ V.cell? ⟨x, 6, none⟩ = some (.int .i64 (S.h.b : Nat)) ∧ V.cell? ⟨x, 7, none⟩ = some (.int .i64 (S.h.c : Nat))) := Lib.hid (fun V hV => by
      have hv := h7.kp0 hV
      refine ⟨?_, ?_, ?_, ?_, ?_, ?_, ?_⟩ <;> (rw [hv.cell]; rfl))
    obtain ⟨EB, hEB⟩ : ∃ EB, EB = encB P D S.d S.h := ⟨_, rfl⟩
    rw [← hEB] at EN HEL HEN0
    have H7 := Lib.hid h7
    have P7 := Lib.hid p7
    have K7 := Lib.hid k7
    have hsum : IntKind.i64.wrap ((out : Int) + (n : Int)) = (out : Int) + (n : Int) := by
      have ha := HW.out.all
      have ho := HOK.out.le
      rw [IntKind.wrap_i64]; omega
    have ecast : ((out + n : Nat) : Int) = (out : Int) + (n : Int) := by omega
    have ECAST := Lib.hid ecast
    rw [ecast] at hmr
    obtain ⟨c0, c3, c4, c2, c5, c6, c7'⟩ := HC.out W (Kp.refl _ _)
    clear h7 p7 k7 hall hup hms e1 hD hP hDn hPn hEB hol hnk ecast
    go_upto_region 5 with fail
    go_cut [8, 9] (fun s8 s9 wx => EnAt W EB.1 EB.2 s8 s9 wx)
    case first =>
      have hxW : x < W.heap.size := Nat.lt_of_lt_of_le HLS.out K7.out.size
      have HXW := Lib.hid hxW
      have HNW : Hid (W.heap.size ≠ x ∧ x ≠ W.heap.size) := Lib.hid ⟨by omega, by omega⟩
      clear hxW
      have KD := Lib.hid ((Kp.refl (fun _ => False) W).drew)
      have KDA := Lib.hid ((Kp.refl (fun _ => False) W).drew.alloc (.cells #[.int .i64 0, .int .i64 0, .int .i64 0] 42))
      have KDB := Lib.hid ((kp_alloc W (.cells #[.int .i64 0, .int .i64 0, .int .i64 0] 42)).drew)
      go_region_held3 (fun V => V.cell? ⟨x, 0, none⟩ = some (.slice da dict.length dc) ∧ V.cell? ⟨x, 3, none⟩ = some (.slice aa S.all.length ac) ∧ V.cell? ⟨x, 4, none⟩ = some (.int .i64 (out : Nat)) ∧ V.cell? ⟨x, 2, none⟩ = some (.int .i64 (S.d : Nat)) ∧ V.cell? ⟨x, 5, none⟩ = some (.int .i64 (S.h.a : Nat)) ∧ V.cell? ⟨x, 6, none⟩ = some (.int .i64 (S.h.b : Nat)) ∧ V.cell? ⟨x, 7, none⟩ = some (.int .i64 (S.h.c : Nat))) (go_keep) ((first
        | (go_simp; go_at_call 52; apply Calls.mono; (first | with_reducible exact WD.out _ KD.out | with_reducible exact WD.out _ KDB.out | with_reducible exact WD.out _ KDA.out); rintro e Y ⟨a9, c9, rfl, q1, q2, q3⟩
           have KY : Hid (Kp (fun _ => False) W Y) := Lib.hid (by first | with_reducible exact KD.out.trans q3 | with_reducible exact KDB.out.trans q3 | with_reducible exact KDA.out.trans q3)
           have NY := Lib.hid (Nat.lt_of_lt_of_le HXW.out KY.out.size)
           have KYA := Lib.hid (KY.out.alloc (.cells #[.int .i64 0, .int .i64 0, .int .i64 0] 42))
           obtain ⟨y0, y3, y4, y2, y5, y6, y7⟩ := HC.out Y KY.out
           (try have QZ := Lib.hid (q3.at_ (show (W.alloc (.cells #[.int .i64 0, .int .i64 0, .int .i64 0] 42)).drew.heap[W.heap.size]? = some (.cells #[.int .i64 0, .int .i64 0, .int .i64 0] 42 (0, 0)) from alloc_at W _) (fun q => q)))
           (try have QZ := Lib.hid (q3.at_ (alloc_at _ _) (fun q => q)))
           have PW := Lib.hid q1
           have PWA := Lib.hid (q1.kp (kp_alloc Y (.cells #[.int .i64 0, .int .i64 0, .int .i64 0] 42)) (fun _ _ q => q))
           clear q1 q2 q3)
        | (go_simp; go_at_call 51; apply Calls.mono; (first | with_reducible exact EN.out _ KY.out _ _ PW.out | with_reducible exact EN.out _ KYA.out _ _ PWA.out); rintro e Z ⟨a10, c10, rfl, r1, r2⟩
           have KZ : Hid (Kp (fun _ => False) W Z) := Lib.hid (by first | exact KY.out.trans r2 | exact KYA.out.trans r2)
           obtain ⟨z0, z3, z4, z2, z5, z6, z7⟩ := HC.out Z KZ.out
           have ny1 := Nat.ne_of_gt NY.out
           have ny2 := Nat.ne_of_lt NY.out
           have nw1 := HNW.out.1
           have nw2 := HNW.out.2
           have Q1 : Hid (RowB W.heap.size Z (.slice a10 EB.1.length c10) EB.1) := Lib.hid (r1.low (by first | exact KY.out.size | exact KYA.out.size))
           (try have QZ := Lib.hid (r2.at_ QZ.out (fun q => q)))
           (try have QZ := Lib.hid (r2.at_ (alloc_at _ _) (fun q => q)))
           (try have f0 := free_of QZ.out 0)
           (try have f1 := free_of QZ.out 1)
           (try have f2 := free_of QZ.out 2)
           (try have e0 := cell_of QZ.out 0)
           (try have e1 := cell_of QZ.out 1)
           (try have e2 := cell_of QZ.out 2)
           (try simp only [List.getElem?_toArray, List.getElem?_cons_succ, List.getElem?_cons_zero] at e0 e1 e2)
           clear r1 r2)))
      all_goals (go_wp2_with fail; go_meet)
      all_goals first | exact EnAt.after Q1.out KZ.out | exact EnAt.before Q1.out KZ.out QZ.out (Nat.le_refl _) | exact EnAt.before Q1.out KZ.out QZ.out KY.out.size
    case rest =>
      obtain ⟨a9, c9, p, rfl, rfl, q1, q2, q3⟩ := hcut
      obtain ⟨W2, hW2⟩ : ∃ W2 : World, W2 = wc := ⟨_, rfl⟩
      rw [← hW2] at q1 q2 q3 ⊢
      clear hW2
      have h8 := H7.out.kp0 q3
      have hpne : p ≠ x := by
        rintro rfl
        rw [h8.hs] at q2
        simp only [Option.some.injEq, Obj.cells.injEq] at q2
        exact absurd q2.2.1 (by decide)
      have d4 : W2.cell? ⟨x, 4, none⟩ = some (.int .i64 (out : Nat)) := by rw [h8.cell]; rfl
      have g4 : W2.frozen? ⟨x, 4, none⟩ = false := h8.free 4
      have P4 := h8.out_put (out + n)
      rw [ECAST.out] at P4
      have P4 := Lib.hid P4
      have Q1 := Lib.hid q1
      have Q2 := Lib.hid q2
      have Q3 := Lib.hid q3
      have HPN := Lib.hid hpne
      clear h8 q1 q2 q3 hpne c0 c3 c4 c2 c5 c6 c7' WD EN HC hmr hupr
      go_upto_region 7 with fail
      generalize W2.setCell ⟨x, 4, none⟩ (.int .i64 ((out : Int) + (n : Int))) = X1 at P4 ⊢
      have z0 : X1.cell? ⟨p, 0, none⟩ = some (.int .i64 (EB.2.a : Nat)) := by rw [cell_of (P4.out.2.at_ Q2.out HPN.out)]; rfl
      have z1 : X1.cell? ⟨p, 1, none⟩ = some (.int .i64 (EB.2.b : Nat)) := by rw [cell_of (P4.out.2.at_ Q2.out HPN.out)]; rfl
      have z2 : X1.cell? ⟨p, 2, none⟩ = some (.int .i64 (EB.2.c : Nat)) := by rw [cell_of (P4.out.2.at_ Q2.out HPN.out)]; rfl
      have y5 : X1.cell? ⟨x, 5, none⟩ = some (.int .i64 (S.h.a : Nat)) := by rw [P4.out.1.cell]; rfl
      have y6 : X1.cell? ⟨x, 6, none⟩ = some (.int .i64 (S.h.b : Nat)) := by rw [P4.out.1.cell]; rfl
      have y7 : X1.cell? ⟨x, 7, none⟩ = some (.int .i64 (S.h.c : Nat)) := by rw [P4.out.1.cell]; rfl
      have g5 : X1.frozen? ⟨x, 5, none⟩ = false := P4.out.1.free 5
      have g6 : X1.frozen? ⟨x, 6, none⟩ = false := P4.out.1.free 6
      have g7 : X1.frozen? ⟨x, 7, none⟩ = false := P4.out.1.free 7
      have PH := Lib.hid (P4.out.1.h_put EB.2)
      clear d4 g4
      go_upto_region 8 with fail
      generalize ((X1.setCell ⟨x, 5, none⟩ (.int .i64 (EB.2.a : Nat))).setCell ⟨x, 6, none⟩ (.int .i64 (EB.2.b : Nat))).setCell ⟨x, 7, none⟩ (.int .i64 (EB.2.c : Nat)) = X2 at PH ⊢
      clear z0 z1 z2 y5 y6 y7 g5 g6 g7
      have KX := Lib.hid (P4.out.2.trans PH.out.2)
      have hx1 := HLS.out
      have hx2 := K7.out.size
      have hx3 := Q3.out.size
      have hx4 := KX.out.size
      have HSZ : Hid (w.heap.size ≤ W.heap.size ∧ W.heap.size ≤ W2.heap.size ∧ W2.heap.size ≤ X2.heap.size) := Lib.hid ⟨hx2, hx3, hx4⟩
      have O7 := Lib.hid ((P7.out.kp Q3.out (fun _ q => q.elim)).kp KX.out (fun k q => by rw [q]; exact HLS.out))
      have O9 := Lib.hid (Q1.out.kp KX.out (fun k q => by rw [q]; exact Nat.lt_of_lt_of_le HLS.out HSZ.out.1))
      clear hx1 hx2 hx3 hx4
      have HL7 : Hid (∀ b, (Value.slice a7 (pre S).length c7).ownBlock = some b → w.heap.size ≤ b ∧ b < W.heap.size) := Lib.hid (fun b hb => row_lt' P7.out hb)
      have HL9 : Hid (∀ b, (Value.slice a9 EB.1.length c9).ownBlock = some b → W.heap.size ≤ b) := Lib.hid (fun b hb => (row_lt' Q1.out hb).1)
      have KA := Lib.hid (kp_alloc X2 (.cells #[.int .u8 (last.toNat : Nat)] 5))
      have LI := Lib.hid (lit_sl1 X2 (.int .u8 (last.toNat : Nat)) last rfl)
      have A0 := Lib.hid (row_own (O7.out.kp KA.out (fun _ q => q.elim)))
      have B0 := Lib.hid (row_own (O9.out.kp KA.out (fun _ q => q.elim)))
      have D0 := Lib.hid (PH.out.1.kp0 KA.out)
      have HPL : Hid ((pre S).length ≤ 8) := Lib.hid (by unfold pre; split; simp; rw [headB_len]; omega)
      have HEQ : Hid (blkO S n last = pre S ++ [last] ++ EB.1) := Lib.hid (by unfold blkO; rw [HEN0.out]; rfl)
      have HES : Hid ((Str.enc S n).2 = EB.2) := Lib.hid (by rw [HEN0.out])
      obtain ⟨m7, hm7⟩ : ∃ m7, m7 = (pre S).length := ⟨_, rfl⟩
      have HM7 := Lib.hid hm7
      rw [← hm7] at A0 HPL HL7 ⊢
      obtain ⟨el, hel⟩ : ∃ el, el = EB.1.length := ⟨_, rfl⟩
      have HELL := Lib.hid hel
      rw [← hel] at B0 HEL HL9 ⊢
      clear hm7 hel O7 O9 P7 Q1
      go_wp2_with (first
        | (at_builtin; refine wpList_app (X2.alloc (.cells #[.int .u8 (last.toNat : Nat)] 5)) rfl (.tmp 77) (.tmp 79) 24 rfl 5 j0 _ 1 1 Tryz.underlying24 hj0 hy0 hy1 hy2 rfl (by decide) (by decide) (.slice a7 m7 c7) m7 ((pre S).map u8c) rfl A0.out (.slice (some ⟨X2.heap.size, 0, none⟩) 1 1) 1 ([last].map u8c) rfl LI.out (u8c_one _) (by have := HPL.out; omega) ?_; intro v1 w1 g1 g2 g3 _ _; obtain ⟨b1, d1, rfl⟩ := g1.form
           have hz := KA.out.size
           have hs := HSZ.out
           have A1 := Lib.hid g1
           have B1 := Lib.hid (B0.out.kp g2 (fun b hb q => by have := HL9.out b hb; have := HL7.out b q; omega)).sl
           have D1 := Lib.hid (D0.out.kp g2 (fun q => by have := (HL7.out _ q).1; have := HLS.out; omega) (fun p0 b hb q => by have := (HL7.out b q).1; have := HLD.out p0 b hb; omega) (fun p0 b hb q => by have := (HL7.out b q).1; have := HLA.out p0 b hb; omega))
           have HB1 : Hid (∀ b, (Value.slice b1 (m7 + 1) d1).ownBlock = some b → w.heap.size ≤ b) := Lib.hid (fun b hb => by
             rcases g3 with e | e
             · exact (HL7.out b (e.symm.trans hb)).1
             · rw [e] at hb; simp only [Option.some.injEq] at hb; omega)
           have KQ := Lib.hid (((((K7.out.trans2 Q3.out (fun _ _ q => q.elim)).trans KX.out).trans2 KA.out (fun _ _ q => q.elim))).trans2 g2 (fun i hi q => by have := (HL7.out i q).1; omega))
           clear g1 g2 g3 hz hs)
        | (at_builtin; refine wpList_app w1 rfl (.tmp 80) (.tmp 81) 24 rfl 5 j0 _ 1 1 Tryz.underlying24 hj0 hy0 hy1 hy2 rfl (by decide) (by decide) (.slice b1 (m7 + 1) d1) (m7 + 1) ((pre S).map u8c ++ [last].map u8c) rfl A1.out (.slice a9 el c9) el (EB.1.map u8c) rfl B1.out (u8c_one _) (by have := HPL.out; have := HEL.out; omega) ?_; intro v2 w2 g1 g2 g3 _ _; obtain ⟨b2, d2, rfl⟩ := g1.form
           have A2 := Lib.hid g1
           have D2 := Lib.hid (D1.out.kp g2 (fun q => by have := HB1.out _ q; have := HLS.out; omega) (fun p0 b hb q => by have := HB1.out b q; have := HLD.out p0 b hb; omega) (fun p0 b hb q => by have := HB1.out b q; have := HLA.out p0 b hb; omega))
           have HB2 : Hid (∀ b, (Value.slice b2 (m7 + 1 + el) d2).ownBlock = some b → w.heap.size ≤ b) := Lib.hid (fun b hb => by
             rcases g3 with e | e
             · exact HB1.out b (e.symm.trans hb)
             · rw [e] at hb; simp only [Option.some.injEq] at hb; have := KQ.out.size; omega)
           have KR := Lib.hid (KQ.out.trans2 g2 (fun i hi q => by have := HB1.out i q; omega))
           clear g1 g2 g3))
      go_ret
      have hlen : (blkO S n last).length = m7 + 1 + el := by rw [HEQ.out, HM7.out, HELL.out]; simp; omega
      refine ⟨b2, d2, by rw [hlen]; rfl, ?_, ?_, KR.out⟩
      · rw [hlen]
        refine ⟨b2, d2, by rw [hlen], ?_, HB2.out⟩
        rw [hlen, HEQ.out, List.map_append, List.map_append]
        exact A2.out
      · have := D2.out
        rw [← HES.out] at this
        exact DC.blk this
end Go.Proofs.YtbakhpakdaflkaaGreat.Str
namespace Go.Proofs.YtbakhpakdaflkaaGreat.Str
open Go Go.RowKit Go.ChangeMaps Go.MapKept Go.Mg Go.Mt Go.Proofs.YtbakhpakdaflkaaGreat.Hu Go.Proofs.YtbakhpakdaflkaaGreat.Sq Go.Proofs.YtbakhpakdaflkaaGreat.Bk Go.Proofs.YtbakhpakdaflkaaGreat.Ma

theorem depth_d (l : Int) (w : World) : Calls Tryz.prog 22 #[.int .i64 l] w fun e w' => e = .returned (.int .i64 (dep l)) ∧ w' = w := by
  unfold dep
  by_cases h1 : l = 1
  · subst h1
    go_enter Tryz.func22, Tryz.ntmps22
    go_wp2_with fail
    go_ret
    exact ⟨rfl, rfl⟩
  · have h1' : (l == 1) = false := by simpa using h1
    by_cases h2 : l = 2
    · subst h2
      go_enter Tryz.func22, Tryz.ntmps22
      go_wp2_with fail
      go_ret
      exact ⟨rfl, rfl⟩
    · have h2' : (l == 2) = false := by simpa using h2
      by_cases h3 : l = 3
      · subst h3
        go_enter Tryz.func22, Tryz.ntmps22
        go_wp2_with fail
        go_ret
        exact ⟨rfl, rfl⟩
      · have h3' : (l == 3) = false := by simpa using h3
        rw [if_neg h1, if_neg h2, if_neg h3]
        clear h1 h2 h3
        go_enter Tryz.func22, Tryz.ntmps22
        go_wp2_with fail
        go_ret
        exact ⟨rfl, rfl⟩
set_option maxHeartbeats 1000000 in
theorem begin_d (w : World) : Calls Tryz.prog 36 #[] w (BeginPost w) := by
  go_enter Tryz.func36, Tryz.ntmps36
  go_wp2_with fail
  have y0 : (w.alloc (.cells #[.int .i64 1, .int .i64 4, .int .i64 8] 42)).cell? ⟨w.heap.size, 0, none⟩ = some (.int .i64 1) := by rw [cell_of (alloc_at _ _)]; rfl
  have y1 : (w.alloc (.cells #[.int .i64 1, .int .i64 4, .int .i64 8] 42)).cell? ⟨w.heap.size, 1, none⟩ = some (.int .i64 4) := by rw [cell_of (alloc_at _ _)]; rfl
  have y2 : (w.alloc (.cells #[.int .i64 1, .int .i64 4, .int .i64 8] 42)).cell? ⟨w.heap.size, 2, none⟩ = some (.int .i64 8) := by rw [cell_of (alloc_at _ _)]; rfl
  refine bodyPost_ret (v := .agg #[.int .i64 1, .int .i64 4, .int .i64 8]) ?_ rfl ⟨rfl, kp_alloc _ _⟩
  rw [results_cell1 rfl]
  simp [go_sem, y0, y1, y2]
/-- The document's New. -/
def NewDPost (w : World) (dict : List UInt8) (a : Option Addr) (c : Nat) (S : Str) (e : Ending) (w' : World) : Prop := ∃ x, e = .returned (.pointer (some ⟨x, 0, none⟩)) ∧ DC w' x dict 0 S a none c 0 ∧ DOk dict 0 S ∧ w.heap.size ≤ x ∧ Kp (fun _ => False) w w'
theorem dc_new {w V : World} {id dl : Nat} {a : Option Addr} {c : Nat} {dict : List UInt8} (hk : Kp (fun _ => False) w V) (h : SlR w 1 (.slice a dict.length c) dict.length (dict.map u8c)) (hd : dict.length ≤ 2000) :
    NewDPost w dict a c (S0 id dl dict) (.returned (.pointer (some ⟨V.heap.size, 0, none⟩))) (V.alloc (.cells #[.slice a dict.length c, .int .i64 (id : Nat), .int .i64 (dl : Nat), .slice none 0 0, .int .i64 0, .int .i64 1, .int .i64 4, .int .i64 8, .bool false, .bool false] 44)) := by
  refine ⟨_, rfl, ⟨alloc_at V _, h.kp (hk.alloc _) (fun _ _ q => q), fun h0 b hb q => ?_, SlR.nil _ 1, fun h0 => absurd h0 (by simp [S0])⟩, DOk.new _ _ _ hd, hk.size, hk.alloc _⟩
  have := sl_lt h h0 hb
  have := hk.size
  omega
set_option maxRecDepth 100000 in
set_option maxHeartbeats 2000000 in
theorem newD_go (w : World) (dict : List UInt8) (a : Option Addr) (c : Nat) (id : Nat) (lv : Int) (dl : Nat) (hd : dep lv = (dl : Nat)) (h : SlR w 1 (.slice a dict.length c) dict.length (dict.map u8c)) (h1 : 0 < dl) (h3 : id ≤ 2147483647) (h4 : dict.length ≤ 2000) :
    Calls Tryz.prog 20 #[.slice a dict.length c, .int .i64 (id : Nat), .int .i64 lv] w (NewDPost w dict a c (S0 id dl dict)) := by
  have h1' : (((dl : Nat) : Int) == 0) = false := by rw [beq_eq_false_iff_ne]; omega
  have h2' : decide (((id : Nat) : Int) < 0) = false := decide_eq_false (by omega)
  have h3' : decide ((2147483648 : Int) ≤ ((id : Nat) : Int)) = false := decide_eq_false (by omega)
  have h4' : decide ((2000 : Int) < ((dict.length : Nat) : Int)) = false := decide_eq_false (by omega)
  have D := Lib.hid (fun V => depth_d lv V)
  rw [hd] at D
  have B := Lib.hid begin_d
  have HE := Lib.hid (fun V (hk : Kp (fun _ => False) w V) => dc_new (w := w) (V := V) (id := id) (dl := dl) (a := a) (c := c) (dict := dict) hk h h4)
  obtain ⟨n, hn⟩ : ∃ n, n = dict.length := ⟨_, rfl⟩
  rw [← hn] at h4' HE ⊢
  clear h hd hn h1 h3 h4
  go_enter Tryz.func20, Tryz.ntmps20
  go_wp2_with fail
  refine (D.out w).mono ?_
  rintro e w1 ⟨rfl, rfl⟩
  go_wp2_with fail
  refine (D.out w1).mono ?_
  rintro e w2 ⟨rfl, rfl⟩
  go_wp2_with fail
  refine (B.out w2).mono ?_
  rintro e w3 ⟨rfl, kb⟩
  have KB := Lib.hid kb
  clear kb
  go_wp2_with fail
  go_ret
  exact HE.out _ KB.out
/-- When there is none: the program's, the document's. -/
def NoStream (n : Nat) (id lv : Int) : Prop := dep lv = 0 ∨ id < 0 ∨ 2147483648 ≤ id ∨ 2000 < n
set_option maxRecDepth 100000 in
set_option maxHeartbeats 2000000 in
theorem newD_no (w : World) (n : Nat) (a : Option Addr) (c : Nat) (id lv : Int) (h : NoStream n id lv) :
    Calls Tryz.prog 20 #[.slice a n c, .int .i64 id, .int .i64 lv] w fun e w' => e = .returned (.pointer none) ∧ w' = w := by
  have D := Lib.hid (depth_d lv w)
  obtain ⟨dp, hdp⟩ : ∃ dp, dp = dep lv := ⟨_, rfl⟩
  unfold NoStream at h
  rw [← hdp] at h D
  clear hdp
  by_cases h1 : dp = 0
  · subst h1
    clear h
    go_enter Tryz.func20, Tryz.ntmps20
    go_wp2_with fail
    refine D.out.mono ?_
    rintro e w1 ⟨rfl, rfl⟩
    go_wp2_with fail
    go_ret
    exact ⟨rfl, rfl⟩
  · have h1' : (dp == 0) = false := by simpa using h1
    by_cases h2 : id < 0
    · have h2' : decide (id < 0) = true := decide_eq_true h2
      clear h h1
      go_enter Tryz.func20, Tryz.ntmps20
      go_wp2_with fail
      refine D.out.mono ?_
      rintro e w1 ⟨rfl, rfl⟩
      go_wp2_with fail
      go_ret
      exact ⟨rfl, rfl⟩
    · have h2' : decide (id < 0) = false := decide_eq_false h2
      by_cases h3 : 2147483648 ≤ id
      · have h3' : decide (2147483648 ≤ id) = true := decide_eq_true h3
        clear h h1
        go_enter Tryz.func20, Tryz.ntmps20
        go_wp2_with fail
        refine D.out.mono ?_
        rintro e w1 ⟨rfl, rfl⟩
        go_wp2_with fail
        go_ret
        exact ⟨rfl, rfl⟩
      · have h3' : decide (2147483648 ≤ id) = false := decide_eq_false h3
        have h4' : decide ((2000 : Int) < (n : Int)) = true := decide_eq_true (by omega)
        clear h h1
        go_enter Tryz.func20, Tryz.ntmps20
        go_wp2_with fail
        refine D.out.mono ?_
        rintro e w1 ⟨rfl, rfl⟩
        go_wp2_with fail
        go_ret
        exact ⟨rfl, rfl⟩
set_option maxRecDepth 100000 in
set_option maxHeartbeats 2000000 in
theorem new_no (w : World) (n : Nat) (a : Option Addr) (c : Nat) (id lv : Int) (h : NoStream n id lv) :
    Calls Tryz.prog 12 #[.slice a n c, .int .i64 id, .int .i64 lv] w fun e w' => e = .returned (.pointer none) ∧ w' = w := by
  have D := Lib.hid (depth_c lv w)
  obtain ⟨dp, hdp⟩ : ∃ dp, dp = dep lv := ⟨_, rfl⟩
  unfold NoStream at h
  rw [← hdp] at h D
  clear hdp
  by_cases h1 : dp = 0
  · subst h1
    clear h
    go_enter Tryz.func12, Tryz.ntmps12
    go_wp2_with fail
    refine D.out.mono ?_
    rintro e w1 ⟨rfl, rfl⟩
    go_wp2_with fail
    go_ret
    exact ⟨rfl, rfl⟩
  · have h1' : (dp == 0) = false := by simpa using h1
    by_cases h2 : id < 0
    · have h2' : decide (id < 0) = true := decide_eq_true h2
      clear h h1
      go_enter Tryz.func12, Tryz.ntmps12
      go_wp2_with fail
      refine D.out.mono ?_
      rintro e w1 ⟨rfl, rfl⟩
      go_wp2_with fail
      go_ret
      exact ⟨rfl, rfl⟩
    · have h2' : decide (id < 0) = false := decide_eq_false h2
      by_cases h3 : 2147483648 ≤ id
      · have h3' : decide (2147483647 < id) = true := decide_eq_true (by omega)
        clear h h1
        go_enter Tryz.func12, Tryz.ntmps12
        go_wp2_with fail
        refine D.out.mono ?_
        rintro e w1 ⟨rfl, rfl⟩
        go_wp2_with fail
        go_ret
        exact ⟨rfl, rfl⟩
      · have h3' : decide (2147483647 < id) = false := decide_eq_false (by omega)
        have h4' : decide ((2000 : Int) < (n : Int)) = true := decide_eq_true (by omega)
        clear h h1
        go_enter Tryz.func12, Tryz.ntmps12
        go_wp2_with fail
        refine D.out.mono ?_
        rintro e w1 ⟨rfl, rfl⟩
        go_wp2_with fail
        go_ret
        exact ⟨rfl, rfl⟩
end Go.Proofs.YtbakhpakdaflkaaGreat.Str
