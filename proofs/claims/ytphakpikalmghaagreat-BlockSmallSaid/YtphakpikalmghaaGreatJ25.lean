/- block: the program's Encode of data whose bytes are all the same. block: the program's Encode. Bytes as a string. block's laws: known, fine. -/
import Derived.Lib.SlBytesConst
import Derived.Laws.StructEq
import Derived.Test.YtphakpikalmghaaGreatJ24
namespace Go.Proofs.YtphakpikalmghaaGreat.Ma
open Go Go.RowKit Go.ChangeMaps Go.MapKept Go.Mg Go.Mt Go.Hf Go.Proofs.YtphakpikalmghaaGreat.Hu Go.Proofs.YtphakpikalmghaaGreat.Bw Go.Proofs.YtphakpikalmghaaGreat.He Go.Proofs.YtphakpikalmghaaGreat.Rd Go.Proofs.YtphakpikalmghaaGreat.Sq Go.Proofs.YtphakpikalmghaaGreat.Bk

set_option maxRecDepth 100000 in
set_option maxHeartbeats 4000000 in
theorem encP_same (w : World) (p d : List UInt8) (ap : Option Addr) (cp : Nat) (ad : Option Addr) (cd : Nat) (hd : SlR w 1 (.slice ad d.length cd) d.length (d.map u8c)) (hl2 : d.length ≤ 500) (depth : Nat) (h : H3) (hsame : Bk.same d = true) :
    Calls Tryz.prog 8 #[.slice ap p.length cp, .slice ad d.length cd, .int .i64 (depth : Nat), hv3 h] w (EncPost7 w (Bk.encB p d depth h).1 (Bk.encB p d depth h).2) := by
  have mixed : Tryz.prog.follows .mixedOrders = true := by kernel_rfl
  obtain ⟨j0, hj0, hy0, hy1, hy2⟩ := info_parts infoU8
  have h0 : 0 < d.length := by
    unfold Bk.same at hsame
    simp only [Bool.and_eq_true, decide_eq_true_eq] at hsame
    exact hsame.1
  have SM := Lib.hid (fun V hV => isRun_p V d ad cd (hd.kp hV (fun _ _ q => q)) (by omega))
  rw [hsame] at SM
  obtain ⟨g, o, rfl, hg, hcap, hc⟩ := byts_at hd h0
  have HB : Hid (Bk.encB p d depth h = (two d.length ++ [1, UInt8.ofNat (byt d 0)], h)) := Lib.hid (by
    unfold Bk.encB
    rw [if_pos hsame]
    simp [byt])
  have hc0 := hc 0 h0
  rw [Nat.add_zero] at hc0
  have hy256 := byt_lt d 0
  obtain ⟨y, hy⟩ : ∃ y, y = byt d 0 := ⟨_, rfl⟩
  rw [← hy] at HB hc0 hy256
  have HCC := Lib.hid (fun V (hk : Kp (fun _ => False) w V) => (hk.cell (p := ⟨g, o, none⟩) hg (fun q => q)).trans hc0)
  obtain ⟨r, hr⟩ : ∃ r, r = Bk.encB p d depth h := ⟨_, rfl⟩
  rw [← hr] at HB ⊢
  obtain ⟨n, hn⟩ : ∃ n, n = d.length := ⟨_, rfl⟩
  rw [← hn] at HB SM hl2 h0 ⊢
  obtain ⟨m, hm⟩ : ∃ m, m = p.length := ⟨_, rfl⟩
  rw [← hm]
  have TW := Lib.hid (sized_p n)
  have EY := Lib.hid (u8c_lt hy256)
  have HGL := Lib.hid hg
  clear hsame hd hc hc0 hy hr hn hm hg hcap hy256 hl2
  obtain ⟨ha, hb, hc⟩ := h
  have hhv : ∀ a b c, hv3 ⟨a, b, c⟩ = .agg #[.int .i64 (a : Nat), .int .i64 (b : Nat), .int .i64 (c : Nat)] := fun _ _ _ => rfl
  rw [hhv]
  clear hhv
  go_enter Tryz.func8, Tryz.ntmps8
  go_wp2_with fail
  obtain ⟨W, hW⟩ : ∃ W, W = (w.alloc (.cells #[.int .i64 (ha : Nat), .int .i64 (hb : Nat), .int .i64 (hc : Nat)] 23)).alloc (.cells #[.int .i64 0, .int .i64 0, .int .i64 0] 23) := ⟨_, rfl⟩
  have hws : W.heap.size = w.heap.size + 2 := by rw [hW]; simp
  have hkW : Kp (fun _ => False) w W := by rw [hW]; exact (kp_alloc _ _).trans (kp_alloc _ _)
  have hG0 : HAt W w.heap.size ⟨ha, hb, hc⟩ := by
    rw [hW]; exact (kp_alloc _ _).at_ (alloc_at w _) (fun q => q)
  have hR0 : HAt W (w.heap.size + 1) ⟨0, 0, 0⟩ := by
    rw [hW]; have := alloc_at (w.alloc (.cells #[.int .i64 (ha : Nat), .int .i64 (hb : Nat), .int .i64 (hc : Nat)] 23)) (.cells #[.int .i64 0, .int .i64 0, .int .i64 0] 23)
    rw [World.size_alloc] at this
    exact this
  rw [← hW]
  obtain ⟨G, hG⟩ : ∃ G, G = w.heap.size := ⟨_, rfl⟩
  rw [← hG] at hG0 hR0 ⊢
  have HW := Lib.hid hws
  have HKW := Lib.hid hkW
  have HGE := Lib.hid hG
  have HG := Lib.hid (fun V (hV : Kp (fun _ => False) W V) => And.intro (hG0.kp hV (fun q => q)) (hR0.kp hV (fun q => q)))
  clear hW hws hkW hG0 hR0 hG
  refine (TW.out W).mono ?_
  rintro e w1 ⟨g1, rfl, hg1, t1, k1⟩
  have SM1 := Lib.hid (SM.out w1 (HKW.out.trans k1))
  have K1 := Lib.hid k1
  have T1 := Lib.hid t1
  clear hg1 t1 k1 SM
  go_wp2_with fail
  refine SM1.out.mono ?_
  rintro e w' ⟨rfl, hw⟩
  obtain rfl := hw.symm
  have HS1 : Hid (G + 2 ≤ W.heap.size ∧ W.heap.size ≤ w1.heap.size) := Lib.hid (by have := K1.out.size; have := HW.out; have := HGE.out; omega)
  have HCELL : Hid (∀ V, Kp (fun _ => False) W V → V.cell? ⟨g, o, none⟩ = some (.int .u8 (y : Nat)) ∧ (V.cell? ⟨G, 0, none⟩ = some (.int .i64 (ha : Nat)) ∧ V.cell? ⟨G, 1, none⟩ = some (.int .i64 (hb : Nat)) ∧ V.cell? ⟨G, 2, none⟩ = some (.int .i64 (hc : Nat))) ∧ HAt V (G + 1) ⟨0, 0, 0⟩) := Lib.hid (fun V hV => ⟨HCC.out V (HKW.out.trans hV), (HG.out V hV).1.cells, (HG.out V hV).2⟩)
  obtain ⟨c0, ⟨t0, t1, t2⟩, _⟩ := HCELL.out w1 K1.out
  have LIT : Hid (∀ V : World, SlR (V.alloc (.cells #[.int .u8 1, .int .u8 (y : Nat)] 5)) 1 (.slice (some ⟨V.heap.size, 0, none⟩) 2 2) 2 ([1, UInt8.ofNat y].map u8c)) := Lib.hid (fun V => by
    have := lit_m V 5 [u8c 1, u8c (UInt8.ofNat y)] (n := 2) rfl (by omega)
    rw [EY.out] at this
    simp only [List.map_cons, List.map_nil, EY.out]
    exact this)
  have hgne : g ≠ G + 1 := by have := HGL.out; have := HGE.out; omega
  have hgne2 : G + 1 ≠ g := fun q => hgne q.symm
  have KA := Lib.hid (K1.out.trans (kp_alloc w1 (.cells #[.int .u8 1, .int .u8 (y : Nat)] 5)))
  have T1A := Lib.hid (T1.out.kp0 (kp_alloc w1 (.cells #[.int .u8 1, .int .u8 (y : Nat)] 5)))
  go_wp2_with fail
  go_region_held3 (fun V => V.cell? ⟨g, o, none⟩ = some (.int .u8 (y : Nat)) ∧ V.cell? ⟨G, 0, none⟩ = some (.int .i64 (ha : Nat)) ∧ V.cell? ⟨G, 1, none⟩ = some (.int .i64 (hb : Nat)) ∧ V.cell? ⟨G, 2, none⟩ = some (.int .i64 (hc : Nat))) (go_keep) ((
    (refine step_appM (w0 := W) _ (by rfl) (.tmp 23) (.tmp 27) 22 (by rfl) 5 j0 _ 1 Tryz.underlying22 hj0 hy0 hy1 hy2 (by decide) (by decide) (by decide) u8c_1 (.slice (some ⟨g1, 0, none⟩) 2 2) (two n) (by rfl) (by exact T1A.out) _ 2 [1, UInt8.ofNat y] (by rfl) (by exact LIT.out w1) rfl (by exact KA.out.drew) 4 rfl (by omega) ?_; intro a6 d6 w6 g1' g2 g3; have R6 := Lib.hid g1'; have K6 := Lib.hid g2; obtain ⟨s0, ⟨s1, s2, s3⟩, hr6⟩ := HCELL.out _ g2; obtain ⟨r0, r1, r2⟩ := hr6.cells; have f0 : w6.frozen? ⟨G + 1, 0, none⟩ = false := free_of hr6 0; have f1 : w6.frozen? ⟨G + 1, 1, none⟩ = false := free_of hr6 1; have f2 : w6.frozen? ⟨G + 1, 2, none⟩ = false := free_of hr6 2; have HR6 := Lib.hid hr6; clear g1' g2 g3 hr6)))
  all_goals (go_wp2_with fail)
  all_goals
    obtain ⟨hst, hkst⟩ := HR6.out.store ha hb hc
    obtain ⟨y0, y1, y2⟩ := hst.cells
    have hk9 : Kp (fun _ => False) w _ := (HKW.out.trans K6.out).trans2 hkst (fun i hi q => by have := HGE.out; omega)
    have hr9 := RowM.kp R6.out hkst.drew (fun j q => by rw [q]; have := HS1.out; omega)
    have hl9 : (two n ++ [1, UInt8.ofNat y]).length = 4 := rfl
    refine bodyPost_ret (v := .tuple #[.slice a6 4 d6, hv3 ⟨ha, hb, hc⟩]) ?_ rfl ⟨a6, d6, by rw [HB.out]; simp only [hl9], by rw [HB.out]; simp only [hl9]; exact hr9.low (by have := HS1.out; have := HGE.out; omega), (by first | exact hk9 | exact hk9.drew)⟩
    simp [results, Tryz.results8, go_sem, y0, y1, y2, hv3]
end Go.Proofs.YtphakpikalmghaaGreat.Ma
namespace Go.Proofs.YtphakpikalmghaaGreat.Ma
open Go Go.RowKit Go.ChangeMaps Go.MapKept Go.Mg Go.Mt Go.Hf Go.Proofs.YtphakpikalmghaaGreat.Hu Go.Proofs.YtphakpikalmghaaGreat.Bw Go.Proofs.YtphakpikalmghaaGreat.He Go.Proofs.YtphakpikalmghaaGreat.Rd Go.Proofs.YtphakpikalmghaaGreat.Sq Go.Proofs.YtphakpikalmghaaGreat.Bk

set_option maxRecDepth 100000 in
set_option maxHeartbeats 4000000 in
theorem encP_not (w : World) (p d : List UInt8) (ap : Option Addr) (cp : Nat) (hp : SlR w 1 (.slice ap p.length cp) p.length (p.map u8c)) (ad : Option Addr) (cd : Nat) (hd : SlR w 1 (.slice ad d.length cd) d.length (d.map u8c)) (hl1 : p.length ≤ 2000) (hl2 : d.length ≤ 500) (depth : Nat) (hd1 : 1 ≤ depth) (hd2 : depth ≤ 32) (h : H3) (hsame : Bk.same d = false) :
    Calls Tryz.prog 8 #[.slice ap p.length cp, .slice ad d.length cd, .int .i64 (depth : Nat), hv3 h] w (EncPost7 w (Bk.encB p d depth h).1 (Bk.encB p d depth h).2) := by
  have mixed : Tryz.prog.follows .mixedOrders = true := by kernel_rfl
  obtain ⟨j0, hj0, hy0, hy1, hy2⟩ := info_parts infoU8
  obtain ⟨hmay, htot⟩ := steps_may p d depth hl1 hl2
  have SM := Lib.hid (fun V hV => isRun_p V d ad cd (hd.kp hV (fun _ _ q => q)) (by omega))
  rw [hsame] at SM
  have PA := Lib.hid (fun V hV => parse_p V p d ap cp (hp.kp hV (fun _ _ q => q)) ad cd (hd.kp hV (fun _ _ q => q)) hl1 hl2 depth hd1 hd2)
  have HD := Lib.hid hd
  obtain ⟨l, hl⟩ : ∃ l, l = stepsB p d depth := ⟨_, rfl⟩
  have hl' : rest (byt (p ++ d)) (p ++ d).length depth p.length 0 = l := hl.symm
  unfold ParsePost at PA
  rw [hl'] at PA
  rw [← hl] at hmay htot
  have hl500 := hmay.1
  have LI := Lib.hid (fun V al cl hV hs => literals_p V d ad cd (hd.kp hV (fun _ _ q => q)) l al cl hs hl2 (by omega) htot)
  have PK := Lib.hid (fun V al cl hs => pack_p V l al cl hs hmay h)
  obtain ⟨LT, hLT⟩ : ∃ LT, LT = literals d l := ⟨_, rfl⟩
  have hlt5 : LT.length ≤ 500 := by rw [hLT]; exact Nat.le_trans (literals_len d l htot) hl2
  have RW := Lib.hid (fun V a c hs => rowP_p V LT a c hs (by omega))
  obtain ⟨RL, hRL⟩ : ∃ RL, RL = Bk.rowB LT := ⟨_, rfl⟩
  have hrl : RL.length ≤ 504 := by rw [hRL]; have := rowB7_len LT; omega
  obtain ⟨PB, hPB⟩ : ∃ PB, PB = packB l h := ⟨_, rfl⟩
  have hpb : PB.length ≤ 40000 := by rw [hPB]; exact packB_le hmay h
  obtain ⟨h2, hh2⟩ : ∃ h2, h2 = hs (ofs l) h l.length := ⟨_, rfl⟩
  have HB : Hid (Bk.encB p d depth h = if 2 + (RL ++ PB).length < d.length then (two d.length ++ [2] ++ two (RL ++ PB).length ++ (RL ++ PB), h2) else (two d.length ++ [0] ++ d, h)) := Lib.hid (by
    unfold Bk.encB Bk.bodyB
    rw [if_neg (by rw [hsame]; decide), ← hl, ← hLT, ← hRL, ← hPB, ← hh2])
  unfold LitPost at LI
  unfold RowPost7 at RW
  unfold PackPost at PK
  rw [← hLT] at LI
  rw [← hRL] at RW
  rw [← hPB, ← hh2] at PK
  obtain ⟨r, hr⟩ : ∃ r, r = Bk.encB p d depth h := ⟨_, rfl⟩
  rw [← hr] at HB ⊢
  obtain ⟨nL, hnL⟩ : ∃ nL, nL = RL.length := ⟨_, rfl⟩
  obtain ⟨nP, hnP⟩ : ∃ nP, nP = PB.length := ⟨_, rfl⟩
  obtain ⟨n, hn⟩ : ∃ n, n = d.length := ⟨_, rfl⟩
  obtain ⟨m, hm⟩ : ∃ m, m = p.length := ⟨_, rfl⟩
  have HnL := Lib.hid hnL
  have HnP := Lib.hid hnP
  have HN := Lib.hid hn
  rw [← hn] at SM PA LI HD HB hl2 ⊢
  rw [← hm] at PA ⊢
  rw [← hnL] at hrl
  rw [← hnP] at hpb PK
  have HBD : Hid (n ≤ 500 ∧ nL ≤ 504 ∧ nP ≤ 40000) := Lib.hid ⟨hl2, hrl, hpb⟩
  clear hsame hd hp hmay htot hl hl' hl500 hLT hlt5 hRL hrl hPB hpb hh2 hr hnL hnP hn hm hl1 hl2 hd1 hd2
  obtain ⟨ha, hb, hc⟩ := h
  obtain ⟨ka, kb, kc⟩ := h2
  have hhv : ∀ a b c, hv3 ⟨a, b, c⟩ = .agg #[.int .i64 (a : Nat), .int .i64 (b : Nat), .int .i64 (c : Nat)] := fun _ _ _ => rfl
  rw [hhv] at PK ⊢
  simp only [hhv] at PK
  clear hhv
  go_enter Tryz.func8, Tryz.ntmps8
  go_wp2_with fail
  obtain ⟨W, hW⟩ : ∃ W, W = (w.alloc (.cells #[.int .i64 (ha : Nat), .int .i64 (hb : Nat), .int .i64 (hc : Nat)] 23)).alloc (.cells #[.int .i64 0, .int .i64 0, .int .i64 0] 23) := ⟨_, rfl⟩
  have hws : W.heap.size = w.heap.size + 2 := by rw [hW]; simp
  have hkW : Kp (fun _ => False) w W := by rw [hW]; exact (kp_alloc _ _).trans (kp_alloc _ _)
  have hG0 : HAt W w.heap.size ⟨ha, hb, hc⟩ := by
    rw [hW]; exact (kp_alloc _ _).at_ (alloc_at w _) (fun q => q)
  have hR0 : HAt W (w.heap.size + 1) ⟨0, 0, 0⟩ := by
    rw [hW]; have := alloc_at (w.alloc (.cells #[.int .i64 (ha : Nat), .int .i64 (hb : Nat), .int .i64 (hc : Nat)] 23)) (.cells #[.int .i64 0, .int .i64 0, .int .i64 0] 23)
    rw [World.size_alloc] at this
    exact this
  rw [← hW]
  obtain ⟨G, hG⟩ : ∃ G, G = w.heap.size := ⟨_, rfl⟩
  rw [← hG] at hG0 hR0 ⊢
  have HW := Lib.hid hws
  have HKW := Lib.hid hkW
  have HGE := Lib.hid hG
  have HG := Lib.hid (fun V (hV : Kp (fun _ => False) W V) => And.intro (hG0.kp hV (fun q => q)) (hR0.kp hV (fun q => q)))
  have HGW := Lib.hid (show W.heap.size = G + 2 by omega)
  clear hW hws hkW hG0 hR0 hG
  refine (sized_p n W).mono ?_
  rintro e w1 ⟨g1, rfl, hg1, t1, k1⟩
  have SM1 := Lib.hid (SM.out w1 (HKW.out.trans k1))
  have PA1 := Lib.hid (PA.out w1 (HKW.out.trans k1))
  have K1 := Lib.hid k1
  have T1 := Lib.hid t1
  have HG1 : Hid (W.heap.size ≤ g1 ∧ g1 < w1.heap.size) := Lib.hid ⟨hg1, (t1.lt (k := g1) rfl).2⟩
  clear hg1 t1 k1 SM PA
  go_wp2_with fail
  refine SM1.out.mono ?_
  rintro e w' ⟨rfl, hw⟩
  obtain rfl := hw.symm
  clear SM1
  go_wp2_with fail
  refine PA1.out.mono ?_
  rintro e w2 ⟨v2, rfl, hv2, hk2⟩
  obtain ⟨a2, c2, rfl, hown2, hbey2⟩ := hv2
  have Q2 : Hid (RowQ w1.heap.size w2 (.slice a2 l.length c2) l) := Lib.hid ⟨a2, c2, rfl, hown2, hbey2⟩
  have K2 := Lib.hid (K1.out.trans hk2)
  have J2 := Lib.hid hk2
  have LI2 := Lib.hid (LI.out w2 a2 c2 (HKW.out.trans K2.out) Q2.out.sl.1)
  clear hown2 hbey2 hk2 LI PA1
  go_wp2_with fail
  refine LI2.out.mono ?_
  rintro e w3 ⟨v3, rfl, hv3, hk3⟩
  obtain ⟨a3, c3, rfl, hown3, hbey3⟩ := hv3
  have L3 : Hid (RowB w2.heap.size w3 (.slice a3 LT.length c3) LT) := Lib.hid ⟨a3, c3, rfl, hown3, hbey3⟩
  have K3 := Lib.hid (K2.out.trans hk3)
  have J3 := Lib.hid (J2.out.trans hk3)
  have PK3 := Lib.hid (PK.out w3 a2 c2 (Q2.out.kp0 hk3).sl.1)
  obtain ⟨t0, t1, t2⟩ := (HG.out w3 K3.out).1.cells
  clear hown3 hbey3 hk3 PK LI2
  go_wp2_with fail
  refine PK3.out.mono ?_
  rintro e w4 ⟨a4, c4, rfl, hv4, hk4⟩
  have P4 := Lib.hid hv4
  have K4 := Lib.hid (K3.out.trans hk4)
  have J4 := Lib.hid (J3.out.trans hk4)
  have L4 := Lib.hid (L3.out.kp0 hk4)
  clear hv4 hk4 t0 t1 t2 PK3
  go_wp2_with fail
  obtain ⟨W5, hW5⟩ : ∃ W5, W5 = w4.alloc (.cells #[.int .i64 (ka : Nat), .int .i64 (kb : Nat), .int .i64 (kc : Nat)] 23) := ⟨_, rfl⟩
  have hk5 : Kp (fun _ => False) w4 W5 := by rw [hW5]; exact kp_alloc _ _
  have hA5 : HAt W5 w4.heap.size ⟨ka, kb, kc⟩ := by rw [hW5]; exact alloc_at w4 _
  have hW5s : W5.heap.size = w4.heap.size + 1 := by rw [hW5]; simp
  rw [← hW5]
  obtain ⟨AB, hAB⟩ : ∃ AB, AB = w4.heap.size := ⟨_, rfl⟩
  rw [← hAB] at hA5 hW5s ⊢
  have HLO : Hid (W.heap.size ≤ g1 ∧ g1 < AB ∧ W5.heap.size = AB + 1) := Lib.hid (by have := HG1.out; have := J4.out.size; omega)
  have HA5 := Lib.hid hA5
  have K5 := Lib.hid (K4.out.trans hk5)
  have J5 := Lib.hid (J4.out.trans hk5)
  have P5 := Lib.hid (P4.out.kp0 hk5)
  have RW5 := Lib.hid (RW.out W5 a3 c3 (L4.out.kp0 hk5).sl.1)
  clear hW5 hk5 hA5 hAB hW5s RW P4 L4 L3
  refine RW5.out.mono ?_
  rintro e w6 ⟨a6, c6, rfl, p6, k6⟩
  rw [← HnL.out] at p6 ⊢
  have R6 := Lib.hid p6
  have K6 := Lib.hid k6
  have P6 := Lib.hid ((P5.out.kp0 k6).sl.1)
  rw [← HnP.out] at P6
  have hbd := HBD.out
  obtain ⟨nB, hnB⟩ : ∃ nB, nB = nL + nP := ⟨_, rfl⟩
  have HNB : Hid ((RL ++ PB).length = nB ∧ RL.length + nP = nB ∧ nB ≤ 50000) := Lib.hid ⟨by rw [List.length_append, ← HnL.out, ← HnP.out, hnB], by rw [← HnL.out, hnB], by omega⟩
  have HBB : Hid (r = if 2 + nB < n then (two n ++ [2] ++ two nB ++ (RL ++ PB), ⟨ka, kb, kc⟩) else (two n ++ [0] ++ d, ⟨ha, hb, hc⟩)) := Lib.hid (by
    rw [HB.out, HNB.out.1])
  have hB50 := HNB.out.2.2
  have hn500 := HBD.out.1
  clear p6 k6 P5 RW5 hbd hnB HB
  by_cases hcmp : 2 + nB < n
  · have hrr := HBB.out
    rw [if_pos hcmp] at hrr
    have HRR := Lib.hid hrr
    have hc1 : decide (2 + nB < n) = true := decide_eq_true hcmp
    have hc2 : decide ((2 : Int) + (nB : Int) < (n : Int)) = true := decide_eq_true (by omega)
    clear hcmp hrr HBB
    go_wp2_with (at_builtin; refine wpList_appM (w0 := W5) _ rfl _ _ 22 rfl 5 j0 _ 1 Tryz.underlying22 hj0 hy0 hy1 hy2 rfl (by decide) (by decide) u8c_1 (.slice a6 nL c6) RL rfl R6.out (.slice a4 nP c4) nP PB rfl P6.out HnP.out.symm K6.out nB HNB.out.2.1 (by have := HNB.out.2.2; omega) ?_; intro a7 c7 w7 g1' g2 g3; have B7 := Lib.hid g1'; have K7 := Lib.hid g2; clear g1' g2 g3)
    have BR := Lib.hid ((T1.out.kp0 J5.out).kp0 K7.out)
    have HP : Hid (∀ X, Kp (· = g1) w7 X → SlR X 1 (.slice a7 nB c7) nB ((RL ++ PB).map u8c)) := Lib.hid (fun X hX => by
      have := ((B7.out.kp hX (fun k q => by have := HLO.out; omega))).sl.1
      rw [HNB.out.1] at this
      exact this)
    have HS : Hid (∀ X, Kp (· = g1) w7 X → HAt X AB ⟨ka, kb, kc⟩ ∧ HAt X (G + 1) ⟨0, 0, 0⟩) := Lib.hid (fun X hX => ⟨(HA5.out.kp K7.out (fun q => q)).kp hX (by have := HLO.out; omega), (HG.out w7 (K5.out.trans K7.out)).2.kp hX (by have := HLO.out; have := HGW.out; omega)⟩)
    have KW7 := Lib.hid ((HKW.out.trans K5.out).trans K7.out)
    obtain ⟨t0, t1, t2⟩ := (HS.out w7 (Kp.refl _ _)).1.cells
    have hne : AB ≠ G + 1 := by have := HLO.out; have := HGW.out; omega
    have hne2 : G + 1 ≠ AB := fun q => hne q.symm
    have KE : Hid (Kp (· = g1) w7 w7) := Lib.hid (Kp.refl _ _)
    have KL : Hid (Kp (· = g1) w7 (w7.alloc (.cells #[.int .u8 2] 5))) := Lib.hid ((Kp.refl _ _).alloc _)
    have L0 : Hid (SlR (w7.alloc (.cells #[.int .u8 2] 5)) 1 (.slice (some ⟨w7.heap.size, 0, none⟩) 1 1) 1 (([2] : List UInt8).map u8c)) := Lib.hid (lit_one w7 5 (.int .u8 2) 0 (by omega) 2 rfl).sl.1
    have LIT : Hid (∀ V : World, SlR (V.alloc (.cells #[.int .u8 2] 5)) 1 (.slice (some ⟨V.heap.size, 0, none⟩) 1 1) 1 (([2] : List UInt8).map u8c)) := Lib.hid (fun V => (lit_one V 5 (.int .u8 2) 0 (by omega) 2 rfl).sl.1)
    have BL := Lib.hid (BR.out.kp0 (kp_alloc w7 (.cells #[.int .u8 2] 5)))
    have HSZ : Hid (∀ X, Kp (· = g1) w7 X → W.heap.size ≤ X.heap.size ∧ g1 < X.heap.size ∧ w7.heap.size ≤ X.heap.size) := Lib.hid (fun X hX => by have := hX.size; have := HLO.out; have := K7.out.size; omega)
    clear K1 K2 K3 K4 J2 J3 J4 P6 R6
    go_wp2_with fail
    go_region_held3 (fun V => V.cell? ⟨AB, 0, none⟩ = some (.int .i64 (ka : Nat)) ∧ V.cell? ⟨AB, 1, none⟩ = some (.int .i64 (kb : Nat)) ∧ V.cell? ⟨AB, 2, none⟩ = some (.int .i64 (kc : Nat))) (go_keep) ((first
      | (go_simp; go_at_call 16; refine (sized_p nB _).mono ?_; rintro e V ⟨g10, rfl, hg10, t10, k10⟩; have kd := (Kp.refl (fun _ => False) _).trans k10; have KV : Hid (Kp (· = g1) w7 V) := Lib.hid (Kp.trans2 (by first | exact K59.out | exact K59.out.drew | exact KE.out.drew | exact KL.out.drew) k10 (fun _ _ q => q.elim)); have T10 := Lib.hid t10.sl.1; have G10 : Hid (g1 < g10) := Lib.hid (by first | (have := (HSZ.out _ (by first | exact K59.out | exact K59.out.drew)).2.1; omega) | (have := (HSZ.out _ (by first | exact KE.out.drew | exact KL.out.drew)).2.1; omega)); (try have BV := Lib.hid (BR.out.kp0 ((Kp.refl (fun _ => False) w7).drew.trans k10))); (try have BV := Lib.hid (BL.out.kp0 ((Kp.refl (fun _ => False) (w7.alloc (.cells #[.int .u8 2] 5))).drew.trans k10))); (try have LV := Lib.hid (L0.out.kp ((Kp.refl (fun _ => False) (w7.alloc (.cells #[.int .u8 2] 5))).drew.trans k10) (fun _ _ q => q))); (try have R59V := Lib.hid (R59.out.kp0 k10)); obtain ⟨hsa, _⟩ := HS.out V KV.out; obtain ⟨s0, s1, s2⟩ := hsa.cells; clear hg10 t10 k10 kd hsa)
      | (refine step_grow (B := W.heap.size) _ (by rfl) (.tmp 57) (.tmp 58) 22 (by rfl) j0 _ 1 Tryz.underlying22 hj0 hy0 hy1 hy2 (by decide) (by decide) u8c_1 (.slice (some ⟨g1, 0, none⟩) 2 2) (two n) (by rfl) (by first | exact BV.out | exact BV.out.kp0 (kp_alloc _ _) | exact BL.out) (by first | exact (HSZ.out _ KV.out).1 | exact (HSZ.out _ (KV.out.alloc _)).1 | exact (HSZ.out _ KL.out.drew).1) _ 1 [2] (by rfl) (by first | exact LV.out | exact LIT.out _) rfl 3 rfl (by omega) ?_; intro a9 c9 w9 g9; have K59 : Hid (Kp (· = g1) w7 w9) := Lib.hid (Kp.trans2 (by first | exact KV.out | exact KV.out.alloc _ | exact KL.out.drew) g9.2.2 (fun i hi q => own_b q)); have R59 := Lib.hid g9.1; have O59 : Hid (∀ k, (Value.slice a9 3 c9).ownBlock = some k → k = g1 ∨ w7.heap.size ≤ k) := Lib.hid (fun k hk => by rcases g9.2.1 k hk with q | q; exact .inl (own_b q); right; rw [q]; first | exact (HSZ.out _ KV.out).2.2 | exact (HSZ.out _ (KV.out.alloc _)).2.2 | exact (HSZ.out _ KL.out.drew).2.2); (try have T59 := Lib.hid (T10.out.kp g9.2.2 (fun b hb q => by have := own_b hb; have := own_b q; have := G10.out; omega))); (try have T59 := Lib.hid ((T10.out.kp (kp_alloc _ _) (fun _ _ q => q)).kp g9.2.2 (fun b hb q => by have := own_b hb; have := own_b q; have := G10.out; omega))); obtain ⟨hsa, _⟩ := HS.out w9 K59.out; obtain ⟨s0, s1, s2⟩ := hsa.cells; clear g9 hsa)
      | (refine step_grow (B := W.heap.size) _ (by rfl) (.tmp 59) (.tmp 62) 22 (by rfl) j0 _ 1 Tryz.underlying22 hj0 hy0 hy1 hy2 (by decide) (by decide) u8c_1 (.slice a9 3 c9) (two n ++ [2]) (by rfl) (by first | exact R59V.out | exact R59.out) (by first | exact (HSZ.out _ KV.out).1 | exact (HSZ.out _ K59.out).1) (.slice (some ⟨g10, 0, none⟩) 2 2) 2 (two nB) (by rfl) (by first | exact T59.out | exact T10.out) rfl 5 rfl (by omega) ?_; intro a11 c11 w11 g9; have K63 : Hid (Kp (· = g1) w7 w11) := Lib.hid (Kp.trans2 (by first | exact KV.out | exact K59.out) g9.2.2 (fun i hi q => by rcases O59.out i q with q | q; exact q; omega)); have R63 := Lib.hid g9.1; have O63 : Hid (∀ k, (Value.slice a11 5 c11).ownBlock = some k → k = g1 ∨ w7.heap.size ≤ k) := Lib.hid (fun k hk => by rcases g9.2.1 k hk with q | q; exact O59.out k q; right; rw [q]; first | exact (HSZ.out _ KV.out).2.2 | exact (HSZ.out _ K59.out).2.2); obtain ⟨hsa, _⟩ := HS.out w11 K63.out; obtain ⟨s0, s1, s2⟩ := hsa.cells; clear g9 hsa)
      | (refine step_grow (B := W.heap.size) _ (by rfl) (.tmp 63) (.tmp 64) 22 (by rfl) j0 _ 1 Tryz.underlying22 hj0 hy0 hy1 hy2 (by decide) (by decide) u8c_1 (.slice a11 5 c11) (two n ++ [2] ++ two nB) (by rfl) (by exact R63.out) (by exact (HSZ.out _ K63.out).1) (.slice a7 nB c7) nB (RL ++ PB) (by rfl) (by exact HP.out _ K63.out) HNB.out.1 (5 + nB) rfl (by omega) ?_; intro a12 c12 w12 g9; have KZ : Hid (Kp (· = g1) w7 w12) := Lib.hid (Kp.trans2 K63.out g9.2.2 (fun i hi q => by rcases O63.out i q with q | q; exact q; omega)); have RZ := Lib.hid g9.1; obtain ⟨hsa, hrb⟩ := HS.out w12 KZ.out; obtain ⟨s0, s1, s2⟩ := hsa.cells; obtain ⟨r0, r1, r2⟩ := hrb.cells; have f0 : w12.frozen? ⟨G + 1, 0, none⟩ = false := free_of hrb 0; have f1 : w12.frozen? ⟨G + 1, 1, none⟩ = false := free_of hrb 1; have f2 : w12.frozen? ⟨G + 1, 2, none⟩ = false := free_of hrb 2; have HRZ := Lib.hid hrb; clear g9 hsa hrb)))
    all_goals (go_wp2_with fail)
    all_goals
      obtain ⟨hst, hkst⟩ := HRZ.out.store ka kb kc
      obtain ⟨y0, y1, y2⟩ := hst.cells
      have hgw := HGW.out
      have hge := HGE.out
      have hlo := HLO.out
      have hk9 : Kp (fun _ => False) w _ := (KW7.out.trans2 KZ.out (fun i hi q => by omega)).trans2 hkst (fun i hi q => by omega)
      have hr9 := RowM.kp RZ.out hkst.drew (fun j q => by rw [q]; omega)
      have hl9 := (show (two n ++ [2] ++ two nB ++ (RL ++ PB)).length = 5 + nB by rw [List.length_append (bs := RL ++ PB), HNB.out.1]; rfl)
      refine bodyPost_ret (v := .tuple #[.slice a12 (5 + nB) c12, hv3 ⟨ka, kb, kc⟩]) ?_ rfl ⟨a12, c12, by rw [HRR.out]; simp only [hl9], by rw [HRR.out]; simp only [hl9]; exact hr9.low (by omega), (by first | exact hk9 | exact hk9.drew)⟩
      simp [results, Tryz.results8, go_sem, y0, y1, y2, hv3]
  · have hrr := HBB.out
    rw [if_neg hcmp] at hrr
    have HRR := Lib.hid hrr
    have hc1 : decide (2 + nB < n) = false := decide_eq_false hcmp
    have hc2 : decide ((2 : Int) + (nB : Int) < (n : Int)) = false := decide_eq_false (by omega)
    clear hcmp hrr HBB
    go_wp2_with (at_builtin; refine wpList_appM (w0 := W5) _ rfl _ _ 22 rfl 5 j0 _ 1 Tryz.underlying22 hj0 hy0 hy1 hy2 rfl (by decide) (by decide) u8c_1 (.slice a6 nL c6) RL rfl R6.out (.slice a4 nP c4) nP PB rfl P6.out HnP.out.symm K6.out nB HNB.out.2.1 (by have := HNB.out.2.2; omega) ?_; intro a7 c7 w7 g1' g2 g3; have K7 := Lib.hid g2; clear g1' g2 g3)
    have BR := Lib.hid ((T1.out.kp0 J5.out).kp0 K7.out)
    have KW7 := Lib.hid ((HKW.out.trans K5.out).trans K7.out)
    have HDX : Hid (∀ X, Kp (· = g1) w7 X → SlR X 1 (.slice ad n cd) n (d.map u8c)) := Lib.hid (fun X hX => by
      have hd0 := HD.out
      have hge := HGE.out
      have hgw := HGW.out
      have hlo := HLO.out
      exact SlR.old hd0 ((KW7.out.trans2 hX (fun i hi q => by omega))))
    have HS : Hid (∀ X, Kp (· = g1) w7 X → HAt X G ⟨ha, hb, hc⟩ ∧ HAt X (G + 1) ⟨0, 0, 0⟩) := Lib.hid (fun X hX => ⟨(HG.out w7 (K5.out.trans K7.out)).1.kp hX (by have := HLO.out; have := HGW.out; omega), (HG.out w7 (K5.out.trans K7.out)).2.kp hX (by have := HLO.out; have := HGW.out; omega)⟩)
    obtain ⟨t0, t1, t2⟩ := (HS.out w7 (Kp.refl _ _)).1.cells
    have KL : Hid (Kp (· = g1) w7 (w7.alloc (.cells #[.int .u8 0] 5))) := Lib.hid ((Kp.refl _ _).alloc _)
    have LIT : Hid (∀ V : World, SlR (V.alloc (.cells #[.int .u8 0] 5)) 1 (.slice (some ⟨V.heap.size, 0, none⟩) 1 1) 1 (([0] : List UInt8).map u8c)) := Lib.hid (fun V => (lit_one V 5 (.int .u8 0) 0 (by omega) 0 rfl).sl.1)
    have BL := Lib.hid (BR.out.kp0 (kp_alloc w7 (.cells #[.int .u8 0] 5)))
    have HSZ : Hid (∀ X, Kp (· = g1) w7 X → W.heap.size ≤ X.heap.size ∧ g1 < X.heap.size ∧ w7.heap.size ≤ X.heap.size) := Lib.hid (fun X hX => by have := hX.size; have := HLO.out; have := K7.out.size; omega)
    clear K1 K2 K3 K4 J2 J3 J4 P6 R6
    go_wp2_with fail
    go_region_held3 (fun V => V.cell? ⟨G, 0, none⟩ = some (.int .i64 (ha : Nat)) ∧ V.cell? ⟨G, 1, none⟩ = some (.int .i64 (hb : Nat)) ∧ V.cell? ⟨G, 2, none⟩ = some (.int .i64 (hc : Nat))) (go_keep) ((first
      | (refine step_grow (B := W.heap.size) _ (by rfl) (.tmp 67) (.tmp 68) 22 (by rfl) j0 _ 1 Tryz.underlying22 hj0 hy0 hy1 hy2 (by decide) (by decide) u8c_1 (.slice (some ⟨g1, 0, none⟩) 2 2) (two n) (by rfl) (by exact BL.out) (by exact (HSZ.out _ KL.out.drew).1) _ 1 [0] (by rfl) (by exact LIT.out _) rfl 3 rfl (by omega) ?_; intro a9 c9 w9 g9; have K59 : Hid (Kp (· = g1) w7 w9) := Lib.hid (Kp.trans2 (by exact KL.out.drew) g9.2.2 (fun i hi q => own_b q)); have R59 := Lib.hid g9.1; have O59 : Hid (∀ k, (Value.slice a9 3 c9).ownBlock = some k → k = g1 ∨ w7.heap.size ≤ k) := Lib.hid (fun k hk => by rcases g9.2.1 k hk with q | q; exact .inl (own_b q); right; rw [q]; exact (HSZ.out _ KL.out.drew).2.2); obtain ⟨hsa, _⟩ := HS.out w9 K59.out; obtain ⟨s0, s1, s2⟩ := hsa.cells; clear g9 hsa)
      | (refine step_grow (B := W.heap.size) _ (by rfl) (.tmp 69) (.tmp 70) 22 (by rfl) j0 _ 1 Tryz.underlying22 hj0 hy0 hy1 hy2 (by decide) (by decide) u8c_1 (.slice a9 3 c9) (two n ++ [0]) (by rfl) (by exact R59.out) (by exact (HSZ.out _ K59.out).1) (.slice ad n cd) n d (by rfl) (by exact HDX.out _ K59.out) HN.out.symm (3 + n) rfl (by omega) ?_; intro a12 c12 w12 g9; have KZ : Hid (Kp (· = g1) w7 w12) := Lib.hid (Kp.trans2 K59.out g9.2.2 (fun i hi q => by rcases O59.out i q with q | q; exact q; omega)); have RZ := Lib.hid g9.1; obtain ⟨hsa, hrb⟩ := HS.out w12 KZ.out; obtain ⟨s0, s1, s2⟩ := hsa.cells; obtain ⟨r0, r1, r2⟩ := hrb.cells; have f0 : w12.frozen? ⟨G + 1, 0, none⟩ = false := free_of hrb 0; have f1 : w12.frozen? ⟨G + 1, 1, none⟩ = false := free_of hrb 1; have f2 : w12.frozen? ⟨G + 1, 2, none⟩ = false := free_of hrb 2; have HRZ := Lib.hid hrb; clear g9 hsa hrb)))
    all_goals (go_wp2_with fail)
    all_goals
      obtain ⟨hst, hkst⟩ := HRZ.out.store ha hb hc
      obtain ⟨y0, y1, y2⟩ := hst.cells
      have hgw := HGW.out
      have hge := HGE.out
      have hlo := HLO.out
      have hk9 : Kp (fun _ => False) w _ := (KW7.out.trans2 KZ.out (fun i hi q => by omega)).trans2 hkst (fun i hi q => by omega)
      have hr9 := RowM.kp RZ.out hkst.drew (fun j q => by rw [q]; omega)
      have hl9 := (show (two n ++ [0] ++ d).length = 3 + n by rw [List.length_append (bs := d), ← HN.out]; rfl)
      refine bodyPost_ret (v := .tuple #[.slice a12 (3 + n) c12, hv3 ⟨ha, hb, hc⟩]) ?_ rfl ⟨a12, c12, by rw [HRR.out]; simp only [hl9], by rw [HRR.out]; simp only [hl9]; exact hr9.low (by omega), (by first | exact hk9 | exact hk9.drew)⟩
      simp [results, Tryz.results8, go_sem, y0, y1, y2, hv3]
theorem encP_p (w : World) (p d : List UInt8) (ap : Option Addr) (cp : Nat) (hp : SlR w 1 (.slice ap p.length cp) p.length (p.map u8c)) (ad : Option Addr) (cd : Nat) (hd : SlR w 1 (.slice ad d.length cd) d.length (d.map u8c)) (hl1 : p.length ≤ 2000) (hl2 : d.length ≤ 500) (depth : Nat) (hd1 : 1 ≤ depth) (hd2 : depth ≤ 32) (h : H3) :
    Calls Tryz.prog 8 #[.slice ap p.length cp, .slice ad d.length cd, .int .i64 (depth : Nat), hv3 h] w (EncPost7 w (Bk.encB p d depth h).1 (Bk.encB p d depth h).2) := by
  cases e : Bk.same d with
  | true => exact encP_same w p d ap cp ad cd hd hl2 depth h e
  | false => exact encP_not w p d ap cp hp ad cd hd hl1 hl2 depth hd1 hd2 h e
end Go.Proofs.YtphakpikalmghaaGreat.Ma
namespace Go.Proofs.YtphakpikalmghaaGreat.He
open Go Go.RowKit Go.ChangeMaps Go.MapKept Go.Mg Go.Hf Go.Sort Go.Proofs.YtphakpikalmghaaGreat.Hu Go.Proofs.YtphakpikalmghaaGreat.Bw

set_option maxRecDepth 100000 in
theorem strOf {w : World} {a : Option Addr} {n cap : Nat} {l : List UInt8} (h : SlR w 1 (.slice a n cap) l.length (l.map u8c)) : (convert 22 9 (.slice a n cap)).run Tryz.prog w = .ok (.string ⟨l.toArray⟩) w := by
  obtain ⟨h0, a', c', e, h1, h2, h3, h4⟩ := h
  simp only [Value.slice.injEq] at e
  obtain ⟨rfl, rfl, rfl⟩ := e
  by_cases hl : 0 < l.length
  · obtain ⟨g, off, rfl, hg, hc⟩ := h4 hl
    have := run_convert_bytes_arg (P := Tryz.prog) w 22 5 Tryz.underlying22 Tryz.underlying5 g off l.length cap (l.map fun b => (b.toNat : Int)) (by simp) (fun i hi => by
      rw [hc i (u8c l[i]) (by simp [hi])]
      simp [u8c, List.getD, hi]) 9 Tryz.underlying9
    rw [this]
    simp only [strOfNums, List.map_map]
    congr 3
    have : ((fun n : Int => UInt8.ofNat n.toNat) ∘ fun b : UInt8 => (b.toNat : Int)) = id := by funext b; simp
    rw [this, List.map_id]
  · have : l = [] := List.eq_nil_of_length_eq_zero (by omega)
    subst this
    cases a with
    | none => exact run_convert_bytes_nil (P := Tryz.prog) w 22 5 Tryz.underlying22 Tryz.underlying5 _ _ 9 Tryz.underlying9
    | some ad =>
      rw [run_convert_bytes_string w 22 9 5 (some ad) _ cap Tryz.underlying22 Tryz.underlying5 Tryz.underlying9]
      simp [Conv.bytesToString, loadCells, loadCellsFrom]
      rfl

end Go.Proofs.YtphakpikalmghaaGreat.He
namespace Go.Proofs.YtphakpikalmghaaGreat.Ma
open Go Go.RowKit Go.ChangeMaps Go.MapKept Go.Mg Go.Mt Go.Hf Go.Proofs.YtphakpikalmghaaGreat.Hu Go.Proofs.YtphakpikalmghaaGreat.Bw Go.Proofs.YtphakpikalmghaaGreat.He Go.Proofs.YtphakpikalmghaaGreat.Rd Go.Proofs.YtphakpikalmghaaGreat.Sq Go.Proofs.YtphakpikalmghaaGreat.Bk

set_option maxRecDepth 100000 in
set_option maxHeartbeats 1000000 in
theorem fine_c (x y z : Int) (w : World) (B : Bool) (hB : B = (decide (1 ≤ x) && decide (1 ≤ y) && decide (1 ≤ z) && decide (x ≤ 2500) && decide (y ≤ 2500) && decide (z ≤ 2500))) :
    Calls Tryz.prog 7 #[.agg #[.int .i64 x, .int .i64 y, .int .i64 z]] w fun e w' => e = .returned (.bool B) ∧ Kp (fun _ => False) w w' := by
  have HK := Lib.hid (kp_alloc w (.cells #[.int .i64 x, .int .i64 y, .int .i64 z] 23))
  by_cases hx1 : 1 ≤ x
  · by_cases hy1 : 1 ≤ y
    · by_cases hz1 : 1 ≤ z
      · by_cases hx2 : x ≤ 2500
        · by_cases hy2 : y ≤ 2500
          · by_cases hz2 : z ≤ 2500
            · have b0 : decide (1 ≤ x) = true := decide_eq_true hx1
              have b1 : decide (1 ≤ y) = true := decide_eq_true hy1
              have b2 : decide (1 ≤ z) = true := decide_eq_true hz1
              have b3 : decide (x ≤ 2500) = true := decide_eq_true hx2
              have b4 : decide (y ≤ 2500) = true := decide_eq_true hy2
              have b5 : decide (z ≤ 2500) = true := decide_eq_true hz2
              have HB : Hid (B = true) := Lib.hid (by rw [hB]; simp [b0, b1, b2, b3, b4, b5])
              clear hB hx1 hy1 hz1 hx2 hy2 hz2
              go_enter Tryz.func7, Tryz.ntmps7
              go_wp2_with fail
              go_ret
              exact ⟨by rw [HB.out]; rfl, HK.out⟩
            · have b0 : decide (1 ≤ x) = true := decide_eq_true hx1
              have b1 : decide (1 ≤ y) = true := decide_eq_true hy1
              have b2 : decide (1 ≤ z) = true := decide_eq_true hz1
              have b3 : decide (x ≤ 2500) = true := decide_eq_true hx2
              have b4 : decide (y ≤ 2500) = true := decide_eq_true hy2
              have b5 : decide (z ≤ 2500) = false := decide_eq_false hz2
              have HB : Hid (B = false) := Lib.hid (by rw [hB]; simp [b0, b1, b2, b3, b4, b5])
              clear hB hx1 hy1 hz1 hx2 hy2 hz2
              go_enter Tryz.func7, Tryz.ntmps7
              go_wp2_with fail
              go_ret
              exact ⟨by rw [HB.out]; rfl, HK.out⟩
          · have b0 : decide (1 ≤ x) = true := decide_eq_true hx1
            have b1 : decide (1 ≤ y) = true := decide_eq_true hy1
            have b2 : decide (1 ≤ z) = true := decide_eq_true hz1
            have b3 : decide (x ≤ 2500) = true := decide_eq_true hx2
            have b4 : decide (y ≤ 2500) = false := decide_eq_false hy2
            have HB : Hid (B = false) := Lib.hid (by rw [hB]; simp [b0, b1, b2, b3, b4])
            clear hB hx1 hy1 hz1 hx2 hy2
            go_enter Tryz.func7, Tryz.ntmps7
            go_wp2_with fail
            go_ret
            exact ⟨by rw [HB.out]; rfl, HK.out⟩
        · have b0 : decide (1 ≤ x) = true := decide_eq_true hx1
          have b1 : decide (1 ≤ y) = true := decide_eq_true hy1
          have b2 : decide (1 ≤ z) = true := decide_eq_true hz1
          have b3 : decide (x ≤ 2500) = false := decide_eq_false hx2
          have HB : Hid (B = false) := Lib.hid (by rw [hB]; simp [b0, b1, b2, b3])
          clear hB hx1 hy1 hz1 hx2
          go_enter Tryz.func7, Tryz.ntmps7
          go_wp2_with fail
          go_ret
          exact ⟨by rw [HB.out]; rfl, HK.out⟩
      · have b0 : decide (1 ≤ x) = true := decide_eq_true hx1
        have b1 : decide (1 ≤ y) = true := decide_eq_true hy1
        have b2 : decide (1 ≤ z) = false := decide_eq_false hz1
        have HB : Hid (B = false) := Lib.hid (by rw [hB]; simp [b0, b1, b2])
        clear hB hx1 hy1 hz1
        go_enter Tryz.func7, Tryz.ntmps7
        go_wp2_with fail
        go_ret
        exact ⟨by rw [HB.out]; rfl, HK.out⟩
    · have b0 : decide (1 ≤ x) = true := decide_eq_true hx1
      have b1 : decide (1 ≤ y) = false := decide_eq_false hy1
      have HB : Hid (B = false) := Lib.hid (by rw [hB]; simp [b0, b1])
      clear hB hx1 hy1
      go_enter Tryz.func7, Tryz.ntmps7
      go_wp2_with fail
      go_ret
      exact ⟨by rw [HB.out]; rfl, HK.out⟩
  · have b0 : decide (1 ≤ x) = false := decide_eq_false hx1
    have HB : Hid (B = false) := Lib.hid (by rw [hB]; simp [b0])
    clear hB hx1
    go_enter Tryz.func7, Tryz.ntmps7
    go_wp2_with fail
    go_ret
    exact ⟨by rw [HB.out]; rfl, HK.out⟩
theorem eq_h3 (a b c d e f : Int) (w : World) : (Op.equalIn 10000 23 (.agg #[.int .i64 a, .int .i64 b, .int .i64 c]) (.agg #[.int .i64 d, .int .i64 e, .int .i64 f])).run Tryz.prog w = .ok (a == d && (b == e && c == f)) w := by
  have u3 := Tryz.underlying3
  have a3 := Tryz.isAgg3
  have z3 := Tryz.sizeOf3
  rw [show (10000 : Nat) = 9999 + 1 from rfl, Op.equalIn]
  simp only [Sem.run_bind, run_underlying Tryz.underlying23, Result.andThen_ok]
  simp only [Std.Legacy.Range.forIn_eq_forIn_range', Std.Legacy.Range.size, Nat.sub_zero, Nat.add_sub_cancel, Nat.div_one, List.range'_succ, List.range'_zero, List.forIn_cons, List.forIn_nil]
  go_simp
  by_cases h1 : a = d <;> by_cases h2 : b = e <;> by_cases h3 : c = f <;> simp [h1, h2, h3]
theorem enc_known : Bk.encB [] [97, 97, 97, 97] 8 ⟨1, 4, 8⟩ = ([4, 0, 1, 97], ⟨1, 4, 8⟩) := by
  have h : Bk.same [97, 97, 97, 97] = true := by decide
  unfold Bk.encB
  rw [if_pos h]
  rfl
theorem row_known : Bk.rowB [] = [0, 0, 0] := by
  unfold Bk.rowB
  rw [if_neg (by decide), if_neg (by simp)]
  rfl
set_option maxRecDepth 100000 in
set_option maxHeartbeats 1000000 in
theorem known7_c (w : World) : Calls Tryz.prog 10 #[] w fun e w' => e = .returned (.bool true) ∧ Kp (fun _ => False) w w' := by
  have hcv := Lib.run_convert_bytes_const (P := Tryz.prog) w 22 5 #[.int .u8 97, .int .u8 97, .int .u8 97, .int .u8 97] 4 4 Tryz.underlying22 Tryz.underlying5
  have kA := kp_alloc w (.cells #[.int .u8 97, .int .u8 97, .int .u8 97, .int .u8 97] 5 (4, 5))
  have hb : (w.alloc (.cells #[.int .u8 97, .int .u8 97, .int .u8 97, .int .u8 97] 5 (4, 5))).heap[w.heap.size]? = _ := alloc_at w _
  have hcv2 : (convert 22 22 (.slice (some ⟨w.heap.size, 0, none⟩) 4 4)).run Tryz.prog (w.alloc (.cells #[.int .u8 97, .int .u8 97, .int .u8 97, .int .u8 97] 5)) = .ok (.slice (some ⟨w.heap.size, 0, none⟩) 4 4) (w.alloc (.cells #[.int .u8 97, .int .u8 97, .int .u8 97, .int .u8 97] 5 (4, 5))) := hcv
  clear hcv
  obtain ⟨A, hA⟩ : ∃ A, A = w.alloc (.cells #[.int .u8 97, .int .u8 97, .int .u8 97, .int .u8 97] 5 (4, 5)) := ⟨_, rfl⟩
  rw [← hA] at kA hb hcv2
  have ha : SlR A 1 (.slice (some ⟨w.heap.size, 0, none⟩) 4 4) 4 (([97, 97, 97, 97] : List UInt8).map u8c) := by
    refine ⟨rfl, _, _, rfl, Nat.le_refl _, by unfold maxLen; omega, (fun h => by cases h), fun _ => ⟨w.heap.size, 0, rfl, lt_of_at hb, fun i u hu => ?_⟩⟩
    rw [Nat.zero_add, cell_of hb]
    simpa [u8c] using hu
  have hnil : ∀ V, SlR V 1 (.slice none 0 0) 0 (([] : List UInt8).map u8c) := fun V => SlR.nil V 1
  have EN := encP_p A [] [97, 97, 97, 97] none 0 (hnil A) (some ⟨w.heap.size, 0, none⟩) 4 ha (by simp) (by simp) 8 (by omega) (by omega) ⟨1, 4, 8⟩
  rw [enc_known] at EN
  have EH := Lib.hid EN
  have RW : Hid (∀ V, Calls Tryz.prog 11 #[.slice none 0 0] V (RowPost7 V [0, 0, 0])) := Lib.hid (fun V => by
    have := rowP_p V [] none 0 (hnil V) (by simp)
    rw [row_known] at this
    exact this)
  unfold EncPost7 at EH
  have EQH := eq_h3 1 4 8 1 4 8
  have ehv : hv3 ⟨1, 4, 8⟩ = .agg #[.int .i64 1, .int .i64 4, .int .i64 8] := rfl
  rw [ehv] at EH
  clear ehv
  unfold RowPost7 at RW
  have KA := Lib.hid kA
  clear EN ha kA hnil hA hb
  go_enter Tryz.func10, Tryz.ntmps10
  go_wp2_with fail
  refine EH.out.mono ?_
  rintro e w1 ⟨a1, c1, rfl, r1, k1⟩
  have v1 : (convert 22 9 (.slice a1 4 c1)).run Tryz.prog (w1.alloc (.cells #[.int .i64 1, .int .i64 4, .int .i64 8] 23)) = .ok (.string ⟨#[4, 0, 1, 97]⟩) (w1.alloc (.cells #[.int .i64 1, .int .i64 4, .int .i64 8] 23)) := strOf ((r1.kp0 (kp_alloc w1 (.cells #[.int .i64 1, .int .i64 4, .int .i64 8] 23))).sl.1)
  have k2 := kp_alloc w1 (.cells #[.int .i64 1, .int .i64 4, .int .i64 8] 23)
  have hh : HAt (w1.alloc (.cells #[.int .i64 1, .int .i64 4, .int .i64 8] 23)) w1.heap.size ⟨1, 4, 8⟩ := alloc_at w1 _
  obtain ⟨w2, hw2⟩ : ∃ w2, w2 = w1.alloc (.cells #[.int .i64 1, .int .i64 4, .int .i64 8] 23) := ⟨_, rfl⟩
  rw [← hw2] at v1 k2 hh
  have hfold2 := hw2.symm
  obtain ⟨t0, t1, t2⟩ := hh.cells
  have K2 := Lib.hid ((KA.out.trans k1).trans k2)
  clear r1 k1 k2 hh hw2 EH hcv2
  go_wp2_with fail
  refine (RW.out _).mono ?_
  rintro e w3 ⟨a3, c3, rfl, r3, k3⟩
  have v3 : (convert 22 9 (.slice a3 3 c3)).run Tryz.prog w3 = .ok (.string ⟨#[0, 0, 0]⟩) w3 := strOf r3.sl.1
  have K3 := Lib.hid (K2.out.trans k3)
  clear r3 k3 v1
  go_wp2_with fail
  go_ret
  exact ⟨rfl, K3.out⟩
end Go.Proofs.YtphakpikalmghaaGreat.Ma
