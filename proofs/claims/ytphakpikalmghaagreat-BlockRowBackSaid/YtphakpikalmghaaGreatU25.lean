/- block: the program's Encode. Bytes as a string. block's laws: known, fine. The program's Reader: NewReader, Left. The program's Reader: Take. The document's Reader. The document's Reader: Take. A symbol of a code: the program's and the document's. The document's one symbol. -/
import Derived.Lib.SlBytesConst
import Derived.Laws.StructEq
import Derived.Shelf.Small.Bits
import Derived.Test.YtphakpikalmghaaGreatU24
import Derived.Test.YtphakpikalmghaaGreatU16
import Derived.Test.YtphakpikalmghaaGreatU04
import Derived.Test.YtphakpikalmghaaGreatU11
namespace Go.Proofs.YtphakpikalmghaaGreat.Ma
open Go Go.RowKit Go.ChangeMaps Go.MapKept Go.Mg Go.Mt Go.Hf Go.Proofs.YtphakpikalmghaaGreat.Hu Go.Proofs.YtphakpikalmghaaGreat.Bw Go.Proofs.YtphakpikalmghaaGreat.He Go.Proofs.YtphakpikalmghaaGreat.Rd Go.Proofs.YtphakpikalmghaaGreat.Sq Go.Proofs.YtphakpikalmghaaGreat.Bk

set_option maxRecDepth 100000 in
set_option maxHeartbeats 4000000 in
theorem encP_not (w : World) (p d : List UInt8) (ap : Option Addr) (cp : Nat) (hp : SlR w 1 (.slice ap p.length cp) p.length (p.map u8c)) (ad : Option Addr) (cd : Nat) (hd : SlR w 1 (.slice ad d.length cd) d.length (d.map u8c)) (hl1 : p.length ≤ 2000) (hl2 : d.length ≤ 500) (depth : Nat) (hd1 : 1 ≤ depth) (hd2 : depth ≤ 32) (h : H3) (hsame : Bk.same d = false) :
    Calls Tryz.prog 8 #[.slice ap p.length cp, .slice ad d.length cd, .int .i64 (depth : Nat), hv3 h] w (EncPost7 w (Bk.encB p d depth h).1 (Bk.encB p d depth h).2) := by
  have mixed : Tryz.prog.follows .mixedOrders = true := by kernel_rfl
  obtain ⟨j0, hj0, hy0, hy1, hy2⟩ := info_parts infoU8
  obtain ⟨hmay, htot⟩ := steps_may p d depth hl1 hl2
  have SM := Lib.hid (fun V hV => isRun_p V d ad cd (hd.kp hV (fun _ _ q => q)) (by omega))
  rw [hsame] at SM
  have PA := Lib.hid (fun V hV => parse_p V p d ap cp (hp.kp hV (fun _ _ q => q)) ad cd (hd.kp hV (fun _ _ q => q)) hl1 hl2 depth hd1 hd2)
  have HD := Lib.hid hd
  obtain ⟨l, hl⟩ : ∃ l, l = stepsB p d depth := ⟨_, rfl⟩
  have hl' : rest (byt (p ++ d)) (p ++ d).length depth p.length 0 = l := hl.symm
  unfold ParsePost at PA
  rw [hl'] at PA
  rw [← hl] at hmay htot
  have hl500 := hmay.1
  have LI := Lib.hid (fun V al cl hV hs => literals_p V d ad cd (hd.kp hV (fun _ _ q => q)) l al cl hs hl2 (by omega) htot)
  have PK := Lib.hid (fun V al cl hs => pack_p V l al cl hs hmay h)
  obtain ⟨LT, hLT⟩ : ∃ LT, LT = literals d l := ⟨_, rfl⟩
  have hlt5 : LT.length ≤ 500 := by rw [hLT]; exact Nat.le_trans (literals_len d l htot) hl2
  have RW := Lib.hid (fun V a c hs => rowP_p V LT a c hs (by omega))
  obtain ⟨RL, hRL⟩ : ∃ RL, RL = Bk.rowB LT := ⟨_, rfl⟩
  have hrl : RL.length ≤ 504 := by rw [hRL]; have := rowB7_len LT; omega
  obtain ⟨PB, hPB⟩ : ∃ PB, PB = packB l h := ⟨_, rfl⟩
  have hpb : PB.length ≤ 40000 := by rw [hPB]; exact packB_le hmay h
  obtain ⟨h2, hh2⟩ : ∃ h2, h2 = hs (ofs l) h l.length := ⟨_, rfl⟩
  have HB : Hid (Bk.encB p d depth h = if 2 + (RL ++ PB).length < d.length then (two d.length ++ [2] ++ two (RL ++ PB).length ++ (RL ++ PB), h2) else (two d.length ++ [0] ++ d, h)) := Lib.hid (by
    unfold Bk.encB Bk.bodyB
    rw [if_neg (by rw [hsame]; decide), ← hl, ← hLT, ← hRL, ← hPB, ← hh2])
  unfold LitPost at LI
  unfold RowPost7 at RW
  unfold PackPost at PK
  rw [← hLT] at LI
  rw [← hRL] at RW
  rw [← hPB, ← hh2] at PK
  obtain ⟨r, hr⟩ : ∃ r, r = Bk.encB p d depth h := ⟨_, rfl⟩
  rw [← hr] at HB ⊢
  obtain ⟨nL, hnL⟩ : ∃ nL, nL = RL.length := ⟨_, rfl⟩
  obtain ⟨nP, hnP⟩ : ∃ nP, nP = PB.length := ⟨_, rfl⟩
  obtain ⟨n, hn⟩ : ∃ n, n = d.length := ⟨_, rfl⟩
  obtain ⟨m, hm⟩ : ∃ m, m = p.length := ⟨_, rfl⟩
  have HnL := Lib.hid hnL
  have HnP := Lib.hid hnP
  have HN := Lib.hid hn
  rw [← hn] at SM PA LI HD HB hl2 ⊢
  rw [← hm] at PA ⊢
  rw [← hnL] at hrl
  rw [← hnP] at hpb PK
  have HBD : Hid (n ≤ 500 ∧ nL ≤ 504 ∧ nP ≤ 40000) := Lib.hid ⟨hl2, hrl, hpb⟩
  clear hsame hd hp hmay htot hl hl' hl500 hLT hlt5 hRL hrl hPB hpb hh2 hr hnL hnP hn hm hl1 hl2 hd1 hd2
  obtain ⟨ha, hb, hc⟩ := h
  obtain ⟨ka, kb, kc⟩ := h2
  have hhv : ∀ a b c, hv3 ⟨a, b, c⟩ = .agg #[.int .i64 (a : Nat), .int .i64 (b : Nat), .int .i64 (c : Nat)] := fun _ _ _ => rfl
  rw [hhv] at PK ⊢
  simp only [hhv] at PK
  clear hhv
  go_enter Tryz.func8, Tryz.ntmps8
  go_wp2_with fail
  obtain ⟨W, hW⟩ : ∃ W, W = (w.alloc (.cells #[.int .i64 (ha : Nat), .int .i64 (hb : Nat), .int .i64 (hc : Nat)] 23)).alloc (.cells #[.int .i64 0, .int .i64 0, .int .i64 0] 23) := ⟨_, rfl⟩
  have hws : W.heap.size = w.heap.size + 2 := by rw [hW]; simp
  have hkW : Kp (fun _ => False) w W := by rw [hW]; exact (kp_alloc _ _).trans (kp_alloc _ _)
  have hG0 : HAt W w.heap.size ⟨ha, hb, hc⟩ := by
    rw [hW]; exact (kp_alloc _ _).at_ (alloc_at w _) (fun q => q)
  have hR0 : HAt W (w.heap.size + 1) ⟨0, 0, 0⟩ := by
    rw [hW]; have := alloc_at (w.alloc (.cells #[.int .i64 (ha : Nat), .int .i64 (hb : Nat), .int .i64 (hc : Nat)] 23)) (.cells #[.int .i64 0, .int .i64 0, .int .i64 0] 23)
    rw [World.size_alloc] at this
    exact this
  rw [← hW]
  obtain ⟨G, hG⟩ : ∃ G, G = w.heap.size := ⟨_, rfl⟩
  rw [← hG] at hG0 hR0 ⊢
  have HW := Lib.hid hws
  have HKW := Lib.hid hkW
  have HGE := Lib.hid hG
  have HG := Lib.hid (fun V (hV : Kp (fun _ => False) W V) => And.intro (hG0.kp hV (fun q => q)) (hR0.kp hV (fun q => q)))
  have HGW := Lib.hid (show W.heap.size = G + 2 by omega)
  clear hW hws hkW hG0 hR0 hG
  refine (sized_p n W).mono ?_
  rintro e w1 ⟨g1, rfl, hg1, t1, k1⟩
  have SM1 := Lib.hid (SM.out w1 (HKW.out.trans k1))
  have PA1 := Lib.hid (PA.out w1 (HKW.out.trans k1))
  have K1 := Lib.hid k1
  have T1 := Lib.hid t1
  have HG1 : Hid (W.heap.size ≤ g1 ∧ g1 < w1.heap.size) := Lib.hid ⟨hg1, (t1.lt (k := g1) rfl).2⟩
  clear hg1 t1 k1 SM PA
  go_wp2_with fail
  refine SM1.out.mono ?_
  rintro e w' ⟨rfl, hw⟩
  obtain rfl := hw.symm
  clear SM1
  go_wp2_with fail
  refine PA1.out.mono ?_
  rintro e w2 ⟨v2, rfl, hv2, hk2⟩
  obtain ⟨a2, c2, rfl, hown2, hbey2⟩ := hv2
  have Q2 : Hid (RowQ w1.heap.size w2 (.slice a2 l.length c2) l) := Lib.hid ⟨a2, c2, rfl, hown2, hbey2⟩
  have K2 := Lib.hid (K1.out.trans hk2)
  have J2 := Lib.hid hk2
  have LI2 := Lib.hid (LI.out w2 a2 c2 (HKW.out.trans K2.out) Q2.out.sl.1)
  clear hown2 hbey2 hk2 LI PA1
  go_wp2_with fail
  refine LI2.out.mono ?_
  rintro e w3 ⟨v3, rfl, hv3, hk3⟩
  obtain ⟨a3, c3, rfl, hown3, hbey3⟩ := hv3
  have L3 : Hid (RowB w2.heap.size w3 (.slice a3 LT.length c3) LT) := Lib.hid ⟨a3, c3, rfl, hown3, hbey3⟩
  have K3 := Lib.hid (K2.out.trans hk3)
  have J3 := Lib.hid (J2.out.trans hk3)
  have PK3 := Lib.hid (PK.out w3 a2 c2 (Q2.out.kp0 hk3).sl.1)
  obtain ⟨t0, t1, t2⟩ := (HG.out w3 K3.out).1.cells
  clear hown3 hbey3 hk3 PK LI2
  go_wp2_with fail
  refine PK3.out.mono ?_
  rintro e w4 ⟨a4, c4, rfl, hv4, hk4⟩
  have P4 := Lib.hid hv4
  have K4 := Lib.hid (K3.out.trans hk4)
  have J4 := Lib.hid (J3.out.trans hk4)
  have L4 := Lib.hid (L3.out.kp0 hk4)
  clear hv4 hk4 t0 t1 t2 PK3
  go_wp2_with fail
  obtain ⟨W5, hW5⟩ : ∃ W5, W5 = w4.alloc (.cells #[.int .i64 (ka : Nat), .int .i64 (kb : Nat), .int .i64 (kc : Nat)] 23) := ⟨_, rfl⟩
  have hk5 : Kp (fun _ => False) w4 W5 := by rw [hW5]; exact kp_alloc _ _
  have hA5 : HAt W5 w4.heap.size ⟨ka, kb, kc⟩ := by rw [hW5]; exact alloc_at w4 _
  have hW5s : W5.heap.size = w4.heap.size + 1 := by rw [hW5]; simp
  rw [← hW5]
  obtain ⟨AB, hAB⟩ : ∃ AB, AB = w4.heap.size := ⟨_, rfl⟩
  rw [← hAB] at hA5 hW5s ⊢
  have HLO : Hid (W.heap.size ≤ g1 ∧ g1 < AB ∧ W5.heap.size = AB + 1) := Lib.hid (by have := HG1.out; have := J4.out.size; omega)
  have HA5 := Lib.hid hA5
  have K5 := Lib.hid (K4.out.trans hk5)
  have J5 := Lib.hid (J4.out.trans hk5)
  have P5 := Lib.hid (P4.out.kp0 hk5)
  have RW5 := Lib.hid (RW.out W5 a3 c3 (L4.out.kp0 hk5).sl.1)
  clear hW5 hk5 hA5 hAB hW5s RW P4 L4 L3
  refine RW5.out.mono ?_
  rintro e w6 ⟨a6, c6, rfl, p6, k6⟩
  rw [← HnL.out] at p6 ⊢
  have R6 := Lib.hid p6
  have K6 := Lib.hid k6
  have P6 := Lib.hid ((P5.out.kp0 k6).sl.1)
  rw [← HnP.out] at P6
  have hbd := HBD.out
  obtain ⟨nB, hnB⟩ : ∃ nB, nB = nL + nP := ⟨_, rfl⟩
  have HNB : Hid ((RL ++ PB).length = nB ∧ RL.length + nP = nB ∧ nB ≤ 50000) := Lib.hid ⟨by rw [List.length_append, ← HnL.out, ← HnP.out, hnB], by rw [← HnL.out, hnB], by omega⟩
  have HBB : Hid (r = if 2 + nB < n then (two n ++ [2] ++ two nB ++ (RL ++ PB), ⟨ka, kb, kc⟩) else (two n ++ [0] ++ d, ⟨ha, hb, hc⟩)) := Lib.hid (by
    rw [HB.out, HNB.out.1])
  have hB50 := HNB.out.2.2
  have hn500 := HBD.out.1
  clear p6 k6 P5 RW5 hbd hnB HB
  by_cases hcmp : 2 + nB < n
  · have hrr := HBB.out
    rw [if_pos hcmp] at hrr
    have HRR := Lib.hid hrr
    have hc1 : decide (2 + nB < n) = true := decide_eq_true hcmp
    have hc2 : decide ((2 : Int) + (nB : Int) < (n : Int)) = true := decide_eq_true (by omega)
    clear hcmp hrr HBB
    go_wp2_with (at_builtin; refine wpList_appM (w0 := W5) _ rfl _ _ 22 rfl 5 j0 _ 1 Tryz.underlying22 hj0 hy0 hy1 hy2 rfl (by decide) (by decide) u8c_1 (.slice a6 nL c6) RL rfl R6.out (.slice a4 nP c4) nP PB rfl P6.out HnP.out.symm K6.out nB HNB.out.2.1 (by have := HNB.out.2.2; omega) ?_; intro a7 c7 w7 g1' g2 g3; have B7 := Lib.hid g1'; have K7 := Lib.hid g2; clear g1' g2 g3)
    have BR := Lib.hid ((T1.out.kp0 J5.out).kp0 K7.out)
    have HP : Hid (∀ X, Kp (· = g1) w7 X → SlR X 1 (.slice a7 nB c7) nB ((RL ++ PB).map u8c)) := Lib.hid (fun X hX => by
      have := ((B7.out.kp hX (fun k q => by have := HLO.out; omega))).sl.1
      rw [HNB.out.1] at this
      exact this)
    have HS : Hid (∀ X, Kp (· = g1) w7 X → HAt X AB ⟨ka, kb, kc⟩ ∧ HAt X (G + 1) ⟨0, 0, 0⟩) := Lib.hid (fun X hX => ⟨(HA5.out.kp K7.out (fun q => q)).kp hX (by have := HLO.out; omega), (HG.out w7 (K5.out.trans K7.out)).2.kp hX (by have := HLO.out; have := HGW.out; omega)⟩)
    have KW7 := Lib.hid ((HKW.out.trans K5.out).trans K7.out)
    obtain ⟨t0, t1, t2⟩ := (HS.out w7 (Kp.refl _ _)).1.cells
    have hne : AB ≠ G + 1 := by have := HLO.out; have := HGW.out; omega
    have hne2 : G + 1 ≠ AB := fun q => hne q.symm
    have KE : Hid (Kp (· = g1) w7 w7) := Lib.hid (Kp.refl _ _)
    have KL : Hid (Kp (· = g1) w7 (w7.alloc (.cells #[.int .u8 2] 5))) := Lib.hid ((Kp.refl _ _).alloc _)
    have L0 : Hid (SlR (w7.alloc (.cells #[.int .u8 2] 5)) 1 (.slice (some ⟨w7.heap.size, 0, none⟩) 1 1) 1 (([2] : List UInt8).map u8c)) := Lib.hid (lit_one w7 5 (.int .u8 2) 0 (by omega) 2 rfl).sl.1
    have LIT : Hid (∀ V : World, SlR (V.alloc (.cells #[.int .u8 2] 5)) 1 (.slice (some ⟨V.heap.size, 0, none⟩) 1 1) 1 (([2] : List UInt8).map u8c)) := Lib.hid (fun V => (lit_one V 5 (.int .u8 2) 0 (by omega) 2 rfl).sl.1)
    have BL := Lib.hid (BR.out.kp0 (kp_alloc w7 (.cells #[.int .u8 2] 5)))
    have HSZ : Hid (∀ X, Kp (· = g1) w7 X → W.heap.size ≤ X.heap.size ∧ g1 < X.heap.size ∧ w7.heap.size ≤ X.heap.size) := Lib.hid (fun X hX => by have := hX.size; have := HLO.out; have := K7.out.size; omega)
    clear K1 K2 K3 K4 J2 J3 J4 P6 R6
    go_wp2_with fail
    go_region_held3 (fun V => V.cell? ⟨AB, 0, none⟩ = some (.int .i64 (ka : Nat)) ∧ V.cell? ⟨AB, 1, none⟩ = some (.int .i64 (kb : Nat)) ∧ V.cell? ⟨AB, 2, none⟩ = some (.int .i64 (kc : Nat))) (go_keep) ((first
      | (go_simp; go_at_call 16; refine (sized_p nB _).mono ?_; rintro e V ⟨g10, rfl, hg10, t10, k10⟩; have kd := (Kp.refl (fun _ => False) _).trans k10; have KV : Hid (Kp (· = g1) w7 V) := Lib.hid (Kp.trans2 (by first | exact K59.out | exact K59.out.drew | exact KE.out.drew | exact KL.out.drew) k10 (fun _ _ q => q.elim)); have T10 := Lib.hid t10.sl.1; have G10 : Hid (g1 < g10) := Lib.hid (by first | (have := (HSZ.out _ (by first | exact K59.out | exact K59.out.drew)).2.1; omega) | (have := (HSZ.out _ (by first | exact KE.out.drew | exact KL.out.drew)).2.1; omega)); (try have BV := Lib.hid (BR.out.kp0 ((Kp.refl (fun _ => False) w7).drew.trans k10))); (try have BV := Lib.hid (BL.out.kp0 ((Kp.refl (fun _ => False) (w7.alloc (.cells #[.int .u8 2] 5))).drew.trans k10))); (try have LV := Lib.hid (L0.out.kp ((Kp.refl (fun _ => False) (w7.alloc (.cells #[.int .u8 2] 5))).drew.trans k10) (fun _ _ q => q))); (try have R59V := Lib.hid (R59.out.kp0 k10)); obtain ⟨hsa, _⟩ := HS.out V KV.out; obtain ⟨s0, s1, s2⟩ := hsa.cells; clear hg10 t10 k10 kd hsa)
      | (refine step_grow (B := W.heap.size) _ (by rfl) (.tmp 57) (.tmp 58) 22 (by rfl) j0 _ 1 Tryz.underlying22 hj0 hy0 hy1 hy2 (by decide) (by decide) u8c_1 (.slice (some ⟨g1, 0, none⟩) 2 2) (two n) (by rfl) (by first | exact BV.out | exact BV.out.kp0 (kp_alloc _ _) | exact BL.out) (by first | exact (HSZ.out _ KV.out).1 | exact (HSZ.out _ (KV.out.alloc _)).1 | exact (HSZ.out _ KL.out.drew).1) _ 1 [2] (by rfl) (by first | exact LV.out | exact LIT.out _) rfl 3 rfl (by omega) ?_; intro a9 c9 w9 g9; have K59 : Hid (Kp (· = g1) w7 w9) := Lib.hid (Kp.trans2 (by first | exact KV.out | exact KV.out.alloc _ | exact KL.out.drew) g9.2.2 (fun i hi q => own_b q)); have R59 := Lib.hid g9.1; have O59 : Hid (∀ k, (Value.slice a9 3 c9).ownBlock = some k → k = g1 ∨ w7.heap.size ≤ k) := Lib.hid (fun k hk => by rcases g9.2.1 k hk with q | q; exact .inl (own_b q); right; rw [q]; first | exact (HSZ.out _ KV.out).2.2 | exact (HSZ.out _ (KV.out.alloc _)).2.2 | exact (HSZ.out _ KL.out.drew).2.2); (try have T59 := Lib.hid (T10.out.kp g9.2.2 (fun b hb q => by have := own_b hb; have := own_b q; have := G10.out; omega))); (try have T59 := Lib.hid ((T10.out.kp (kp_alloc _ _) (fun _ _ q => q)).kp g9.2.2 (fun b hb q => by have := own_b hb; have := own_b q; have := G10.out; omega))); obtain ⟨hsa, _⟩ := HS.out w9 K59.out; obtain ⟨s0, s1, s2⟩ := hsa.cells; clear g9 hsa)
      | (refine step_grow (B := W.heap.size) _ (by rfl) (.tmp 59) (.tmp 62) 22 (by rfl) j0 _ 1 Tryz.underlying22 hj0 hy0 hy1 hy2 (by decide) (by decide) u8c_1 (.slice a9 3 c9) (two n ++ [2]) (by rfl) (by first | exact R59V.out | exact R59.out) (by first | exact (HSZ.out _ KV.out).1 | exact (HSZ.out _ K59.out).1) (.slice (some ⟨g10, 0, none⟩) 2 2) 2 (two nB) (by rfl) (by first | exact T59.out | exact T10.out) rfl 5 rfl (by omega) ?_; intro a11 c11 w11 g9; have K63 : Hid (Kp (· = g1) w7 w11) := Lib.hid (Kp.trans2 (by first | exact KV.out | exact K59.out) g9.2.2 (fun i hi q => by rcases O59.out i q with q | q; exact q; omega)); have R63 := Lib.hid g9.1; have O63 : Hid (∀ k, (Value.slice a11 5 c11).ownBlock = some k → k = g1 ∨ w7.heap.size ≤ k) := Lib.hid (fun k hk => by rcases g9.2.1 k hk with q | q; exact O59.out k q; right; rw [q]; first | exact (HSZ.out _ KV.out).2.2 | exact (HSZ.out _ K59.out).2.2); obtain ⟨hsa, _⟩ := HS.out w11 K63.out; obtain ⟨s0, s1, s2⟩ := hsa.cells; clear g9 hsa)
      | (refine step_grow (B := W.heap.size) _ (by rfl) (.tmp 63) (.tmp 64) 22 (by rfl) j0 _ 1 Tryz.underlying22 hj0 hy0 hy1 hy2 (by decide) (by decide) u8c_1 (.slice a11 5 c11) (two n ++ [2] ++ two nB) (by rfl) (by exact R63.out) (by exact (HSZ.out _ K63.out).1) (.slice a7 nB c7) nB (RL ++ PB) (by rfl) (by exact HP.out _ K63.out) HNB.out.1 (5 + nB) rfl (by omega) ?_; intro a12 c12 w12 g9; have KZ : Hid (Kp (· = g1) w7 w12) := Lib.hid (Kp.trans2 K63.out g9.2.2 (fun i hi q => by rcases O63.out i q with q | q; exact q; omega)); have RZ := Lib.hid g9.1; obtain ⟨hsa, hrb⟩ := HS.out w12 KZ.out; obtain ⟨s0, s1, s2⟩ := hsa.cells; obtain ⟨r0, r1, r2⟩ := hrb.cells; have f0 : w12.frozen? ⟨G + 1, 0, none⟩ = false := free_of hrb 0; have f1 : w12.frozen? ⟨G + 1, 1, none⟩ = false := free_of hrb 1; have f2 : w12.frozen? ⟨G + 1, 2, none⟩ = false := free_of hrb 2; have HRZ := Lib.hid hrb; clear g9 hsa hrb)))
    all_goals (go_wp2_with fail)
    all_goals
      obtain ⟨hst, hkst⟩ := HRZ.out.store ka kb kc
      obtain ⟨y0, y1, y2⟩ := hst.cells
      have hgw := HGW.out
      have hge := HGE.out
      have hlo := HLO.out
      have hk9 : Kp (fun _ => False) w _ := (KW7.out.trans2 KZ.out (fun i hi q => by omega)).trans2 hkst (fun i hi q => by omega)
      have hr9 := RowM.kp RZ.out hkst.drew (fun j q => by rw [q]; omega)
      have hl9 := (show (two n ++ [2] ++ two nB ++ (RL ++ PB)).length = 5 + nB by rw [List.length_append (bs := RL ++ PB), HNB.out.1]; rfl)
      refine bodyPost_ret (v := .tuple #[.slice a12 (5 + nB) c12, hv3 ⟨ka, kb, kc⟩]) ?_ rfl ⟨a12, c12, by rw [HRR.out]; simp only [hl9], by rw [HRR.out]; simp only [hl9]; exact hr9.low (by omega), (by first | exact hk9 | exact hk9.drew)⟩
      simp [results, Tryz.results8, go_sem, y0, y1, y2, hv3]
  · have hrr := HBB.out
    rw [if_neg hcmp] at hrr
    have HRR := Lib.hid hrr
    have hc1 : decide (2 + nB < n) = false := decide_eq_false hcmp
    have hc2 : decide ((2 : Int) + (nB : Int) < (n : Int)) = false := decide_eq_false (by omega)
    clear hcmp hrr HBB
    go_wp2_with (at_builtin; refine wpList_appM (w0 := W5) _ rfl _ _ 22 rfl 5 j0 _ 1 Tryz.underlying22 hj0 hy0 hy1 hy2 rfl (by decide) (by decide) u8c_1 (.slice a6 nL c6) RL rfl R6.out (.slice a4 nP c4) nP PB rfl P6.out HnP.out.symm K6.out nB HNB.out.2.1 (by have := HNB.out.2.2; omega) ?_; intro a7 c7 w7 g1' g2 g3; have K7 := Lib.hid g2; clear g1' g2 g3)
    have BR := Lib.hid ((T1.out.kp0 J5.out).kp0 K7.out)
    have KW7 := Lib.hid ((HKW.out.trans K5.out).trans K7.out)
    have HDX : Hid (∀ X, Kp (· = g1) w7 X → SlR X 1 (.slice ad n cd) n (d.map u8c)) := Lib.hid (fun X hX => by
      have hd0 := HD.out
      have hge := HGE.out
      have hgw := HGW.out
      have hlo := HLO.out
      exact SlR.old hd0 ((KW7.out.trans2 hX (fun i hi q => by omega))))
    have HS : Hid (∀ X, Kp (· = g1) w7 X → HAt X G ⟨ha, hb, hc⟩ ∧ HAt X (G + 1) ⟨0, 0, 0⟩) := Lib.hid (fun X hX => ⟨(HG.out w7 (K5.out.trans K7.out)).1.kp hX (by have := HLO.out; have := HGW.out; omega), (HG.out w7 (K5.out.trans K7.out)).2.kp hX (by have := HLO.out; have := HGW.out; omega)⟩)
    obtain ⟨t0, t1, t2⟩ := (HS.out w7 (Kp.refl _ _)).1.cells
    have KL : Hid (Kp (· = g1) w7 (w7.alloc (.cells #[.int .u8 0] 5))) := Lib.hid ((Kp.refl _ _).alloc _)
    have LIT : Hid (∀ V : World, SlR (V.alloc (.cells #[.int .u8 0] 5)) 1 (.slice (some ⟨V.heap.size, 0, none⟩) 1 1) 1 (([0] : List UInt8).map u8c)) := Lib.hid (fun V => (lit_one V 5 (.int .u8 0) 0 (by omega) 0 rfl).sl.1)
    have BL := Lib.hid (BR.out.kp0 (kp_alloc w7 (.cells #[.int .u8 0] 5)))
    have HSZ : Hid (∀ X, Kp (· = g1) w7 X → W.heap.size ≤ X.heap.size ∧ g1 < X.heap.size ∧ w7.heap.size ≤ X.heap.size) := Lib.hid (fun X hX => by have := hX.size; have := HLO.out; have := K7.out.size; omega)
    clear K1 K2 K3 K4 J2 J3 J4 P6 R6
    go_wp2_with fail
    go_region_held3 (fun V => V.cell? ⟨G, 0, none⟩ = some (.int .i64 (ha : Nat)) ∧ V.cell? ⟨G, 1, none⟩ = some (.int .i64 (hb : Nat)) ∧ V.cell? ⟨G, 2, none⟩ = some (.int .i64 (hc : Nat))) (go_keep) ((first
      | (refine step_grow (B := W.heap.size) _ (by rfl) (.tmp 67) (.tmp 68) 22 (by rfl) j0 _ 1 Tryz.underlying22 hj0 hy0 hy1 hy2 (by decide) (by decide) u8c_1 (.slice (some ⟨g1, 0, none⟩) 2 2) (two n) (by rfl) (by exact BL.out) (by exact (HSZ.out _ KL.out.drew).1) _ 1 [0] (by rfl) (by exact LIT.out _) rfl 3 rfl (by omega) ?_; intro a9 c9 w9 g9; have K59 : Hid (Kp (· = g1) w7 w9) := Lib.hid (Kp.trans2 (by exact KL.out.drew) g9.2.2 (fun i hi q => own_b q)); have R59 := Lib.hid g9.1; have O59 : Hid (∀ k, (Value.slice a9 3 c9).ownBlock = some k → k = g1 ∨ w7.heap.size ≤ k) := Lib.hid (fun k hk => by rcases g9.2.1 k hk with q | q; exact .inl (own_b q); right; rw [q]; exact (HSZ.out _ KL.out.drew).2.2); obtain ⟨hsa, _⟩ := HS.out w9 K59.out; obtain ⟨s0, s1, s2⟩ := hsa.cells; clear g9 hsa)
      | (refine step_grow (B := W.heap.size) _ (by rfl) (.tmp 69) (.tmp 70) 22 (by rfl) j0 _ 1 Tryz.underlying22 hj0 hy0 hy1 hy2 (by decide) (by decide) u8c_1 (.slice a9 3 c9) (two n ++ [0]) (by rfl) (by exact R59.out) (by exact (HSZ.out _ K59.out).1) (.slice ad n cd) n d (by rfl) (by exact HDX.out _ K59.out) HN.out.symm (3 + n) rfl (by omega) ?_; intro a12 c12 w12 g9; have KZ : Hid (Kp (· = g1) w7 w12) := Lib.hid (Kp.trans2 K59.out g9.2.2 (fun i hi q => by rcases O59.out i q with q | q; exact q; omega)); have RZ := Lib.hid g9.1; obtain ⟨hsa, hrb⟩ := HS.out w12 KZ.out; obtain ⟨s0, s1, s2⟩ := hsa.cells; obtain ⟨r0, r1, r2⟩ := hrb.cells; have f0 : w12.frozen? ⟨G + 1, 0, none⟩ = false := free_of hrb 0; have f1 : w12.frozen? ⟨G + 1, 1, none⟩ = false := free_of hrb 1; have f2 : w12.frozen? ⟨G + 1, 2, none⟩ = false := free_of hrb 2; have HRZ := Lib.hid hrb; clear g9 hsa hrb)))
    all_goals (go_wp2_with fail)
    all_goals
      obtain ⟨hst, hkst⟩ := HRZ.out.store ha hb hc
      obtain ⟨y0, y1, y2⟩ := hst.cells
      have hgw := HGW.out
      have hge := HGE.out
      have hlo := HLO.out
      have hk9 : Kp (fun _ => False) w _ := (KW7.out.trans2 KZ.out (fun i hi q => by omega)).trans2 hkst (fun i hi q => by omega)
      have hr9 := RowM.kp RZ.out hkst.drew (fun j q => by rw [q]; omega)
      have hl9 := (show (two n ++ [0] ++ d).length = 3 + n by rw [List.length_append (bs := d), ← HN.out]; rfl)
      refine bodyPost_ret (v := .tuple #[.slice a12 (3 + n) c12, hv3 ⟨ha, hb, hc⟩]) ?_ rfl ⟨a12, c12, by rw [HRR.out]; simp only [hl9], by rw [HRR.out]; simp only [hl9]; exact hr9.low (by omega), (by first | exact hk9 | exact hk9.drew)⟩
      simp [results, Tryz.results8, go_sem, y0, y1, y2, hv3]
theorem encP_p (w : World) (p d : List UInt8) (ap : Option Addr) (cp : Nat) (hp : SlR w 1 (.slice ap p.length cp) p.length (p.map u8c)) (ad : Option Addr) (cd : Nat) (hd : SlR w 1 (.slice ad d.length cd) d.length (d.map u8c)) (hl1 : p.length ≤ 2000) (hl2 : d.length ≤ 500) (depth : Nat) (hd1 : 1 ≤ depth) (hd2 : depth ≤ 32) (h : H3) :
    Calls Tryz.prog 8 #[.slice ap p.length cp, .slice ad d.length cd, .int .i64 (depth : Nat), hv3 h] w (EncPost7 w (Bk.encB p d depth h).1 (Bk.encB p d depth h).2) := by
  cases e : Bk.same d with
  | true => exact encP_same w p d ap cp ad cd hd hl2 depth h e
  | false => exact encP_not w p d ap cp hp ad cd hd hl1 hl2 depth hd1 hd2 h e
end Go.Proofs.YtphakpikalmghaaGreat.Ma
namespace Go.Proofs.YtphakpikalmghaaGreat.He
open Go Go.RowKit Go.ChangeMaps Go.MapKept Go.Mg Go.Hf Go.Sort Go.Proofs.YtphakpikalmghaaGreat.Hu Go.Proofs.YtphakpikalmghaaGreat.Bw

set_option maxRecDepth 100000 in
theorem strOf {w : World} {a : Option Addr} {n cap : Nat} {l : List UInt8} (h : SlR w 1 (.slice a n cap) l.length (l.map u8c)) : (convert 22 9 (.slice a n cap)).run Tryz.prog w = .ok (.string ⟨l.toArray⟩) w := by
  obtain ⟨h0, a', c', e, h1, h2, h3, h4⟩ := h
  simp only [Value.slice.injEq] at e
  obtain ⟨rfl, rfl, rfl⟩ := e
  by_cases hl : 0 < l.length
  · obtain ⟨g, off, rfl, hg, hc⟩ := h4 hl
    have := run_convert_bytes_arg (P := Tryz.prog) w 22 5 Tryz.underlying22 Tryz.underlying5 g off l.length cap (l.map fun b => (b.toNat : Int)) (by simp) (fun i hi => by
      rw [hc i (u8c l[i]) (by simp [hi])]
      simp [u8c, List.getD, hi]) 9 Tryz.underlying9
    rw [this]
    simp only [strOfNums, List.map_map]
    congr 3
    have : ((fun n : Int => UInt8.ofNat n.toNat) ∘ fun b : UInt8 => (b.toNat : Int)) = id := by funext b; simp
    rw [this, List.map_id]
  · have : l = [] := List.eq_nil_of_length_eq_zero (by omega)
    subst this
    cases a with
    | none => exact run_convert_bytes_nil (P := Tryz.prog) w 22 5 Tryz.underlying22 Tryz.underlying5 _ _ 9 Tryz.underlying9
    | some ad =>
      rw [run_convert_bytes_string w 22 9 5 (some ad) _ cap Tryz.underlying22 Tryz.underlying5 Tryz.underlying9]
      simp [Conv.bytesToString, loadCells, loadCellsFrom]
      rfl

end Go.Proofs.YtphakpikalmghaaGreat.He
namespace Go.Proofs.YtphakpikalmghaaGreat.Ma
open Go Go.RowKit Go.ChangeMaps Go.MapKept Go.Mg Go.Mt Go.Hf Go.Proofs.YtphakpikalmghaaGreat.Hu Go.Proofs.YtphakpikalmghaaGreat.Bw Go.Proofs.YtphakpikalmghaaGreat.He Go.Proofs.YtphakpikalmghaaGreat.Rd Go.Proofs.YtphakpikalmghaaGreat.Sq Go.Proofs.YtphakpikalmghaaGreat.Bk

set_option maxRecDepth 100000 in
set_option maxHeartbeats 1000000 in
theorem fine_c (x y z : Int) (w : World) (B : Bool) (hB : B = (decide (1 ≤ x) && decide (1 ≤ y) && decide (1 ≤ z) && decide (x ≤ 2500) && decide (y ≤ 2500) && decide (z ≤ 2500))) :
    Calls Tryz.prog 7 #[.agg #[.int .i64 x, .int .i64 y, .int .i64 z]] w fun e w' => e = .returned (.bool B) ∧ Kp (fun _ => False) w w' := by
  have HK := Lib.hid (kp_alloc w (.cells #[.int .i64 x, .int .i64 y, .int .i64 z] 23))
  by_cases hx1 : 1 ≤ x
  · by_cases hy1 : 1 ≤ y
    · by_cases hz1 : 1 ≤ z
      · by_cases hx2 : x ≤ 2500
        · by_cases hy2 : y ≤ 2500
          · by_cases hz2 : z ≤ 2500
            · have b0 : decide (1 ≤ x) = true := decide_eq_true hx1
              have b1 : decide (1 ≤ y) = true := decide_eq_true hy1
              have b2 : decide (1 ≤ z) = true := decide_eq_true hz1
              have b3 : decide (x ≤ 2500) = true := decide_eq_true hx2
              have b4 : decide (y ≤ 2500) = true := decide_eq_true hy2
              have b5 : decide (z ≤ 2500) = true := decide_eq_true hz2
              have HB : Hid (B = true) := Lib.hid (by rw [hB]; simp [b0, b1, b2, b3, b4, b5])
              clear hB hx1 hy1 hz1 hx2 hy2 hz2
              go_enter Tryz.func7, Tryz.ntmps7
              go_wp2_with fail
              go_ret
              exact ⟨by rw [HB.out]; rfl, HK.out⟩
            · have b0 : decide (1 ≤ x) = true := decide_eq_true hx1
              have b1 : decide (1 ≤ y) = true := decide_eq_true hy1
              have b2 : decide (1 ≤ z) = true := decide_eq_true hz1
              have b3 : decide (x ≤ 2500) = true := decide_eq_true hx2
              have b4 : decide (y ≤ 2500) = true := decide_eq_true hy2
              have b5 : decide (z ≤ 2500) = false := decide_eq_false hz2
              have HB : Hid (B = false) := Lib.hid (by rw [hB]; simp [b0, b1, b2, b3, b4, b5])
              clear hB hx1 hy1 hz1 hx2 hy2 hz2
              go_enter Tryz.func7, Tryz.ntmps7
              go_wp2_with fail
              go_ret
              exact ⟨by rw [HB.out]; rfl, HK.out⟩
          · have b0 : decide (1 ≤ x) = true := decide_eq_true hx1
            have b1 : decide (1 ≤ y) = true := decide_eq_true hy1
            have b2 : decide (1 ≤ z) = true := decide_eq_true hz1
            have b3 : decide (x ≤ 2500) = true := decide_eq_true hx2
            have b4 : decide (y ≤ 2500) = false := decide_eq_false hy2
            have HB : Hid (B = false) := Lib.hid (by rw [hB]; simp [b0, b1, b2, b3, b4])
            clear hB hx1 hy1 hz1 hx2 hy2
            go_enter Tryz.func7, Tryz.ntmps7
            go_wp2_with fail
            go_ret
            exact ⟨by rw [HB.out]; rfl, HK.out⟩
        · have b0 : decide (1 ≤ x) = true := decide_eq_true hx1
          have b1 : decide (1 ≤ y) = true := decide_eq_true hy1
          have b2 : decide (1 ≤ z) = true := decide_eq_true hz1
          have b3 : decide (x ≤ 2500) = false := decide_eq_false hx2
          have HB : Hid (B = false) := Lib.hid (by rw [hB]; simp [b0, b1, b2, b3])
          clear hB hx1 hy1 hz1 hx2
          go_enter Tryz.func7, Tryz.ntmps7
          go_wp2_with fail
          go_ret
          exact ⟨by rw [HB.out]; rfl, HK.out⟩
      · have b0 : decide (1 ≤ x) = true := decide_eq_true hx1
        have b1 : decide (1 ≤ y) = true := decide_eq_true hy1
        have b2 : decide (1 ≤ z) = false := decide_eq_false hz1
        have HB : Hid (B = false) := Lib.hid (by rw [hB]; simp [b0, b1, b2])
        clear hB hx1 hy1 hz1
        go_enter Tryz.func7, Tryz.ntmps7
        go_wp2_with fail
        go_ret
        exact ⟨by rw [HB.out]; rfl, HK.out⟩
    · have b0 : decide (1 ≤ x) = true := decide_eq_true hx1
      have b1 : decide (1 ≤ y) = false := decide_eq_false hy1
      have HB : Hid (B = false) := Lib.hid (by rw [hB]; simp [b0, b1])
      clear hB hx1 hy1
      go_enter Tryz.func7, Tryz.ntmps7
      go_wp2_with fail
      go_ret
      exact ⟨by rw [HB.out]; rfl, HK.out⟩
  · have b0 : decide (1 ≤ x) = false := decide_eq_false hx1
    have HB : Hid (B = false) := Lib.hid (by rw [hB]; simp [b0])
    clear hB hx1
    go_enter Tryz.func7, Tryz.ntmps7
    go_wp2_with fail
    go_ret
    exact ⟨by rw [HB.out]; rfl, HK.out⟩
theorem eq_h3 (a b c d e f : Int) (w : World) : (Op.equalIn 10000 23 (.agg #[.int .i64 a, .int .i64 b, .int .i64 c]) (.agg #[.int .i64 d, .int .i64 e, .int .i64 f])).run Tryz.prog w = .ok (a == d && (b == e && c == f)) w := by
  have u3 := Tryz.underlying3
  have a3 := Tryz.isAgg3
  have z3 := Tryz.sizeOf3
  rw [show (10000 : Nat) = 9999 + 1 from rfl, Op.equalIn]
  simp only [Sem.run_bind, run_underlying Tryz.underlying23, Result.andThen_ok]
  simp only [Std.Legacy.Range.forIn_eq_forIn_range', Std.Legacy.Range.size, Nat.sub_zero, Nat.add_sub_cancel, Nat.div_one, List.range'_succ, List.range'_zero, List.forIn_cons, List.forIn_nil]
  go_simp
  by_cases h1 : a = d <;> by_cases h2 : b = e <;> by_cases h3 : c = f <;> simp [h1, h2, h3]
theorem enc_known : Bk.encB [] [97, 97, 97, 97] 8 ⟨1, 4, 8⟩ = ([4, 0, 1, 97], ⟨1, 4, 8⟩) := by
  have h : Bk.same [97, 97, 97, 97] = true := by decide
  unfold Bk.encB
  rw [if_pos h]
  rfl
theorem row_known : Bk.rowB [] = [0, 0, 0] := by
  unfold Bk.rowB
  rw [if_neg (by decide), if_neg (by simp)]
  rfl
set_option maxRecDepth 100000 in
set_option maxHeartbeats 1000000 in
theorem known7_c (w : World) : Calls Tryz.prog 10 #[] w fun e w' => e = .returned (.bool true) ∧ Kp (fun _ => False) w w' := by
  have hcv := Lib.run_convert_bytes_const (P := Tryz.prog) w 22 5 #[.int .u8 97, .int .u8 97, .int .u8 97, .int .u8 97] 4 4 Tryz.underlying22 Tryz.underlying5
  have kA := kp_alloc w (.cells #[.int .u8 97, .int .u8 97, .int .u8 97, .int .u8 97] 5 (4, 5))
  have hb : (w.alloc (.cells #[.int .u8 97, .int .u8 97, .int .u8 97, .int .u8 97] 5 (4, 5))).heap[w.heap.size]? = _ := alloc_at w _
  have hcv2 : (convert 22 22 (.slice (some ⟨w.heap.size, 0, none⟩) 4 4)).run Tryz.prog (w.alloc (.cells #[.int .u8 97, .int .u8 97, .int .u8 97, .int .u8 97] 5)) = .ok (.slice (some ⟨w.heap.size, 0, none⟩) 4 4) (w.alloc (.cells #[.int .u8 97, .int .u8 97, .int .u8 97, .int .u8 97] 5 (4, 5))) := hcv
  clear hcv
  obtain ⟨A, hA⟩ : ∃ A, A = w.alloc (.cells #[.int .u8 97, .int .u8 97, .int .u8 97, .int .u8 97] 5 (4, 5)) := ⟨_, rfl⟩
  rw [← hA] at kA hb hcv2
  have ha : SlR A 1 (.slice (some ⟨w.heap.size, 0, none⟩) 4 4) 4 (([97, 97, 97, 97] : List UInt8).map u8c) := by
    refine ⟨rfl, _, _, rfl, Nat.le_refl _, by unfold maxLen; omega, (fun h => by cases h), fun _ => ⟨w.heap.size, 0, rfl, lt_of_at hb, fun i u hu => ?_⟩⟩
    rw [Nat.zero_add, cell_of hb]
    simpa [u8c] using hu
  have hnil : ∀ V, SlR V 1 (.slice none 0 0) 0 (([] : List UInt8).map u8c) := fun V => SlR.nil V 1
  have EN := encP_p A [] [97, 97, 97, 97] none 0 (hnil A) (some ⟨w.heap.size, 0, none⟩) 4 ha (by simp) (by simp) 8 (by omega) (by omega) ⟨1, 4, 8⟩
  rw [enc_known] at EN
  have EH := Lib.hid EN
  have RW : Hid (∀ V, Calls Tryz.prog 11 #[.slice none 0 0] V (RowPost7 V [0, 0, 0])) := Lib.hid (fun V => by
    have := rowP_p V [] none 0 (hnil V) (by simp)
    rw [row_known] at this
    exact this)
  unfold EncPost7 at EH
  have EQH := eq_h3 1 4 8 1 4 8
  have ehv : hv3 ⟨1, 4, 8⟩ = .agg #[.int .i64 1, .int .i64 4, .int .i64 8] := rfl
  rw [ehv] at EH
  clear ehv
  unfold RowPost7 at RW
  have KA := Lib.hid kA
  clear EN ha kA hnil hA hb
  go_enter Tryz.func10, Tryz.ntmps10
  go_wp2_with fail
  refine EH.out.mono ?_
  rintro e w1 ⟨a1, c1, rfl, r1, k1⟩
  have v1 : (convert 22 9 (.slice a1 4 c1)).run Tryz.prog (w1.alloc (.cells #[.int .i64 1, .int .i64 4, .int .i64 8] 23)) = .ok (.string ⟨#[4, 0, 1, 97]⟩) (w1.alloc (.cells #[.int .i64 1, .int .i64 4, .int .i64 8] 23)) := strOf ((r1.kp0 (kp_alloc w1 (.cells #[.int .i64 1, .int .i64 4, .int .i64 8] 23))).sl.1)
  have k2 := kp_alloc w1 (.cells #[.int .i64 1, .int .i64 4, .int .i64 8] 23)
  have hh : HAt (w1.alloc (.cells #[.int .i64 1, .int .i64 4, .int .i64 8] 23)) w1.heap.size ⟨1, 4, 8⟩ := alloc_at w1 _
  obtain ⟨w2, hw2⟩ : ∃ w2, w2 = w1.alloc (.cells #[.int .i64 1, .int .i64 4, .int .i64 8] 23) := ⟨_, rfl⟩
  rw [← hw2] at v1 k2 hh
  have hfold2 := hw2.symm
  obtain ⟨t0, t1, t2⟩ := hh.cells
  have K2 := Lib.hid ((KA.out.trans k1).trans k2)
  clear r1 k1 k2 hh hw2 EH hcv2
  go_wp2_with fail
  refine (RW.out _).mono ?_
  rintro e w3 ⟨a3, c3, rfl, r3, k3⟩
  have v3 : (convert 22 9 (.slice a3 3 c3)).run Tryz.prog w3 = .ok (.string ⟨#[0, 0, 0]⟩) w3 := strOf r3.sl.1
  have K3 := Lib.hid (K2.out.trans k3)
  clear r3 k3 v1
  go_wp2_with fail
  go_ret
  exact ⟨rfl, K3.out⟩
end Go.Proofs.YtphakpikalmghaaGreat.Ma
namespace Go.Proofs.YtphakpikalmghaaGreat.Rd
open Go Go.RowKit Go.Shelf Go.ChangeMaps Go.MapKept Go.Mg Go.Hf Go.Sort Go.Proofs.YtphakpikalmghaaGreat.Hu Go.Proofs.YtphakpikalmghaaGreat.Bw Go.Proofs.YtphakpikalmghaaGreat.He

/-- A Reader of the first r of the bits f. -/
structure RdAt (ty : TypeId) (F : Nat → Prop) (w : World) (p : Nat) (a : Option Addr) (c r : Nat) (f : Nat → Bool) : Prop where
  hp : w.heap[p]? = some (.cells #[.slice a r c] ty (0, 0))
  sl : SlR w 1 (.slice a r c) r ((List.range r).map fun i => Value.bool (f i))
  fp : F p
  ne : ∀ k, (Value.slice a r c).ownBlock = some k → F k ∧ k ≠ p
def RdIn (ty : TypeId) (F : Nat → Prop) (w : World) (p r : Nat) (f : Nat → Bool) : Prop := ∃ a c, RdAt ty F w p a c r f
theorem RdIn.kp {ty : TypeId} {F G : Nat → Prop} {w w' : World} {p r : Nat} {f : Nat → Bool} (h : RdIn ty F w p r f) (hk : Kp G w w') (hn : ∀ k, F k → ¬ G k) : RdIn ty F w' p r f := by
  obtain ⟨a, c, h1, h2, h3, h4⟩ := h
  exact ⟨a, c, hk.at_ h1 (hn _ h3), h2.kp hk (fun k q => hn k (h4 k q).1), h3, h4⟩
def NewRPost (ty : TypeId) (w : World) (l : List UInt8) (e : Ending) (w' : World) : Prop :=
  (Gb l ∧ ∃ p, e = .returned (.tuple #[.pointer (some ⟨p, 0, none⟩), .bool true]) ∧ RdIn ty (fun k => w.heap.size ≤ k ∧ k < w'.heap.size) w' p (top l) (bb l) ∧ Kp (fun _ => False) w w') ∨
  (¬ Gb l ∧ e = .returned (.tuple #[.pointer none, .bool false]) ∧ w' = w)
theorem len8_c (x : Nat) (hx : x < 256) (w : World) : Calls Tryz.prog 149 #[.int .u8 (x : Nat)] w fun e w' => e = .returned (.int .i64 (Lib.bitLen x : Nat)) ∧ w' = w := by
  have := Any.bits_Len8 Tryz.lays126 (x : Nat) w (by omega) (by omega)
  rwa [Int.toNat_natCast] at this
theorem map_snoc (f : Nat → Bool) (k : Nat) : (List.range (k + 1)).map f = (List.range k).map f ++ [f k] := by simp [List.range_succ]

set_option maxRecDepth 100000 in
set_option maxHeartbeats 2000000 in
theorem newr_p (w : World) (l : List UInt8) (ab : Option Addr) (cb' : Nat) (hb : SlR w 1 (.slice ab l.length cb') l.length (l.map u8c)) (hlb : l.length ≤ 100000) :
    Calls Tryz.prog 126 #[.slice ab l.length cb'] w (NewRPost 175 w l) := by
  have mixed : Tryz.prog.follows .mixedOrders = true := by kernel_rfl
  obtain ⟨i0, hi0, hz0, hz1, hz2⟩ := info_parts infoB
  by_cases h0 : l.length = 0
  · have HNO := Lib.hid (show ¬ Gb l from fun q => by have := q.1; omega)
    clear hb
    rw [h0]
    go_enter Tryz.func126, Tryz.ntmps126
    go_wp2_with fail
    go_ret2
    exact .inr ⟨HNO.out, rfl, rfl⟩
  · obtain ⟨g, o, rfl, hg, hcap, hc⟩ := bytes_at hb (by omega)
    obtain ⟨x, hx⟩ : ∃ x, x = sym l (l.length - 1) := ⟨_, rfl⟩
    have d0 := hc (l.length - 1) (by omega)
    rw [← hx] at d0
    have hx256 : x < 256 := by rw [hx]; exact sym_lt _ _
    have HX := Lib.hid hx
    have HC := Lib.hid hc
    have HSL := Lib.hid (sym_lt l)
    have HBB : Hid (∀ k, bb l k = decide (sym l (k / 8) / 2 ^ (k % 8) % 2 = 1)) := Lib.hid (fun _ => rfl)
    by_cases hx0 : x = 0
    · have HNO := Lib.hid (show ¬ Gb l from fun q => q.2 (by have := HX.out; rw [hx0] at this; exact this.symm))
      obtain ⟨n, hn⟩ : ∃ n, n = l.length - 1 := ⟨_, rfl⟩
      have hni : ((l.length : Nat) : Int) - 1 = (n : Nat) := by omega
      have hnn : ((l.length : Nat) : Int) = (n : Nat) + 1 := by omega
      rw [hx0, ← hn] at d0
      have hcap' : n + 1 ≤ cb' := by omega
      have hn5 : n ≤ 100000 := by omega
      rw [show l.length = n + 1 by omega]
      clear hb hc hx hx0 hni hnn h0 hcap hlb hn
      go_enter Tryz.func126, Tryz.ntmps126
      go_wp2_with fail
      go_ret2
      exact .inr ⟨HNO.out, rfl, rfl⟩
    · have hgb : Gb l := ⟨by omega, by have := HX.out; intro q; exact hx0 (this.trans q)⟩
      have HGB := Lib.hid hgb
      have htl := top_lt hgb
      have hs := hi_spec hx0 hx256
      have htop : top l = 8 * (l.length - 1) + hi x := by rw [HX.out]; rfl
      obtain ⟨n, hn⟩ : ∃ n, n = l.length - 1 := ⟨_, rfl⟩
      obtain ⟨T, hT⟩ : ∃ T, T = top l := ⟨_, rfl⟩
      obtain ⟨bl, hbl⟩ : ∃ bl, bl = Lib.bitLen x := ⟨_, rfl⟩
      have hbl1 : 1 ≤ bl ∧ bl ≤ 8 := by omega
      have hTi : T + 1 = 8 * n + bl := by omega
      have hT8 : T < 8 * (n + 1) := by omega
      have LEN := Lib.hid (len8_c x hx256 w)
      rw [← hbl] at LEN
      rw [← hn] at d0
      have hcap' : n + 1 ≤ cb' := by omega
      have hn5 : n ≤ 100000 := by omega
      have HLN := Lib.hid (show l.length = n + 1 by omega)
      have hx00 : ((x : Int) == 0) = false := by rw [beq_eq_false_iff_ne]; omega
      unfold NewRPost
      rw [← hT, HLN.out]
      have HCC : Hid (∀ V, Kp (fun _ => False) w V → ∀ k, k < T → V.cell? ⟨g, o + k / 8, none⟩ = some (.int .u8 (sym l (k / 8) : Nat))) := Lib.hid (fun V hk k hkt =>
        (hk.cell (p := ⟨g, o + k / 8, none⟩) hg (fun q => q)).trans (HC.out (k / 8) (by have := HLN.out; omega)))
      obtain ⟨f, hf⟩ : ∃ f, f = bb l := ⟨_, rfl⟩
      rw [← hf] at HBB ⊢
      clear hb hc hx hx0 h0 hcap hlb hn hT htl hs htop hbl hgb hf HC
      go_enter Tryz.func126, Tryz.ntmps126
      go_wp2_with fail
      refine LEN.out.mono ?_
      rintro e w' ⟨rfl, rfl⟩
      have hTT : (8 * (n : Int) + (bl : Nat) - 1) = (T : Nat) := by omega
      go_wp2_with fail
      have U0 : Hid (WrPost 175 (· = w'.heap.size) (w'.alloc (.cells #[.slice none 0 0] 175)) w'.heap.size ((List.range 0).map f) (w'.alloc (.cells #[.slice none 0 0] 175))) := Lib.hid ⟨_, _, _, wr_new 175 w', Kp.refl _ _, fun k q => .inl q⟩
      obtain ⟨W1, hW1⟩ : ∃ W1, W1 = w'.alloc (.cells #[.slice none 0 0] 175) := ⟨_, rfl⟩
      have HW1 := Lib.hid (show W1.heap.size = w'.heap.size + 1 ∧ Kp (fun _ => False) w' W1 by rw [hW1]; exact ⟨by simp, (Kp.refl _ _).alloc _⟩)
      rw [← hW1] at U0 ⊢
      clear hW1 d0 LEN
      go_loopw [35] (fun i wr => ∃ k : Nat, k ≤ T ∧ i = .int .i64 k ∧ WrPost 175 (· = w'.heap.size) W1 w'.heap.size ((List.range k).map f) wr) (fun i _ => T - (intOf i).toNat)
      case atStart => exact ⟨0, Nat.zero_le _, rfl, U0.out⟩
      case round =>
        clear U0
        obtain ⟨k, hk, rfl, F', a', c', h1, h2, h3⟩ := hrel
        have hkw : Kp (fun _ => False) w' wr := HW1.out.2.trans2 h2 (fun i hi q => by omega)
        by_cases hkT : k < T
        · obtain ⟨R, hR⟩ : ∃ R, R = (List.range k).map f := ⟨_, rfl⟩
          have hRl : R.length = k := by rw [hR]; simp
          obtain ⟨s, hs⟩ : ∃ s, s = sym l (k / 8) := ⟨_, rfl⟩
          have hs256 : s < 256 := by rw [hs]; exact HSL.out _
          have HR : Hid ((List.range (k + 1)).map f = R ++ [Go.bits .and .u8 ((s : Int) / 2 ^ (k % 8)) 1 == 1]) := Lib.hid (by
            rw [map_snoc, ← hR, low_bit s _ hs256, HBB.out k, ← hs]
            congr 2
            by_cases e : s / 2 ^ (k % 8) % 2 = 1
            · rw [e]; rfl
            · rw [show s / 2 ^ (k % 8) % 2 = 0 by omega]; rfl)
          rw [← hR] at h1
          have d1 := h1.cell
          rw [hRl] at d1
          have d2 := HCC.out wr hkw k hkT
          rw [← hs] at d2
          have H1 := Lib.hid h1
          have H2 := Lib.hid h2
          have H3 := Lib.hid h3
          have hk8 : k / 8 < n + 1 := by omega
          clear h1 h2 h3 hkw hR hs
          go_wp2_with fail
          have q1 : IntKind.i64.wrap ((k : Int) / 8) = (k : Int) / 8 := by rw [IntKind.wrap_i64]; omega
          have q2 : 0 ≤ (k : Int) / 8 := by omega
          have q3 : (k : Int) / 8 < (n : Int) + 1 := by omega
          have q4 : ((k : Int) / 8).toNat = k / 8 := by omega
          have q5 : (k : Int).tmod 8 = (k : Int) % 8 := Int.tmod_eq_emod_of_nonneg (by omega)
          have q6 : 0 ≤ (k : Int) % 8 := by omega
          have q7 : (k : Int) % 8 ≤ 8 := by omega
          have q8 : ((k : Int) % 8).toNat = k % 8 := by omega
          have T1 := Lib.hid (lit_b wr.drew)
          have kA : ∀ z, Kp (fun _ => False) wr (wr.drew.alloc (.cells #[.bool z] 4)) := fun z => ((Kp.refl _ _).drew).alloc _
          have KA := Lib.hid kA
          have d3 := (((Kp.refl (fun _ => False) wr).alloc (.cells #[.bool (Go.bits .and .u8 ((s : Int) / 2 ^ (k % 8)) 1 == 1)] 4)).cell (p := ⟨w'.heap.size, 0, none⟩) (lt_of_at H1.out.hp) (fun q => q)).trans d1
          have HO := Lib.hid (fun z => H1.out.own.kp (kA z) (fun _ _ q => q))
          have HRL := Lib.hid hRl
          clear kA hRl
          go_region_law (first
            | (refine step_app _ rfl (.tmp 42) (.tmp 53) 89 rfl 4 i0 _ 1 1 Tryz.underlying89 hi0 hz0 hz1 hz2 rfl (by decide) (by decide) (.slice a' R.length c') R.length _ (by simp [Act.eval, HRL.out]) (HO.out _) (.slice (some ⟨wr.heap.size, 0, none⟩) 1 1) 1 _ (by simp [Act.eval]) (T1.out _) (one_b _) (by have := HRL.out; omega) ?_; intro v1 w3 g1 g2 g3 g4 g5; obtain ⟨b1, e1, rfl⟩ := g1.form; obtain ⟨f1, f2, f3⟩ := H1.out.app (KA.out _) g1 g2 g3; have F3 := Lib.hid f3; clear g1 g2 g3 g4 g5 f3))
          all_goals (go_wp2_with fail; exact ⟨⟨k + 1, by omega, by go_num, by rw [HR.out]; exact WrPost.trans H2.out H3.out F3.out⟩, by simp [intOf]; omega⟩)
        · obtain rfl : k = T := by omega
          have hRl : ((List.range k).map f).length = k := by simp
          have HW : Hid (RdIn 175 (fun q => w'.heap.size ≤ q ∧ q < wr.heap.size) wr w'.heap.size k f) := Lib.hid ⟨a', c', by have := h1.hp; rwa [hRl] at this, by have := h1.own.sl; rw [hRl, List.map_map] at this; exact this, ⟨Nat.le_refl _, lt_of_at h1.hp⟩, fun q hq => by
            have h5 := h1.ne q (by rw [hRl]; exact hq)
            have h4 := h3 q h5.1
            have := HW1.out.1
            exact ⟨⟨by omega, h1.own.lt (by rw [hRl]; exact hq)⟩, h5.2⟩⟩
          have HK := Lib.hid hkw
          clear h1 h2 h3 hkw
          go_wp2_with fail
          go_ret2
          exact .inl ⟨HGB.out, _, rfl, HW.out, HK.out⟩
theorem left_p {F : Nat → Prop} {w : World} {p r : Nat} {f : Nat → Bool} (h : RdIn 175 F w p r f) :
    Calls Tryz.prog 127 #[.pointer (some ⟨p, 0, none⟩)] w fun e w' => e = .returned (.int .i64 (r : Nat)) ∧ w' = w := by
  obtain ⟨a, c, h1, h2, _, _⟩ := h
  have d0 : w.cell? ⟨p, 0, none⟩ = some (.slice a r c) := by rw [cell_of h1]; rfl
  clear h1 h2
  go_enter Tryz.func127, Tryz.ntmps127
  go_wp2_with fail
  go_ret
  exact ⟨rfl, rfl⟩
end Go.Proofs.YtphakpikalmghaaGreat.Rd

namespace Go.Proofs.YtphakpikalmghaaGreat.Rd
open Go Go.RowKit Go.Shelf Go.ChangeMaps Go.MapKept Go.Mg Go.Hf Go.Sort Go.Proofs.YtphakpikalmghaaGreat.Hu Go.Proofs.YtphakpikalmghaaGreat.Bw Go.Proofs.YtphakpikalmghaaGreat.He

def TakePost (ty : TypeId) (F : Nat → Prop) (w : World) (p r n : Nat) (f : Nat → Bool) (e : Ending) (w' : World) : Prop :=
  (n ≤ r ∧ e = .returned (.tuple #[.int .i64 (nv f (r - n) n : Nat), .bool true]) ∧ RdIn ty F w' p (r - n) f ∧ Kp (· = p) w w') ∨
  (r < n ∧ e = .returned (.tuple #[.int .i64 0, .bool false]) ∧ w' = w)
set_option maxRecDepth 100000 in
set_option maxHeartbeats 2000000 in
theorem take_p {F : Nat → Prop} {w : World} {p r : Nat} {f : Nat → Bool} (h : RdIn 175 F w p r f) (hr : r ≤ 1000000) (n : Nat) (hn : n ≤ 24) :
    Calls Tryz.prog 128 #[.pointer (some ⟨p, 0, none⟩), .int .i64 (n : Nat)] w (TakePost 175 F w p r n f) := by
  have HM := Lib.hid (many_c n hn)
  obtain ⟨a, c, h1, h2, h3, h4⟩ := h
  have d0 : w.cell? ⟨p, 0, none⟩ = some (.slice a r c) := by rw [cell_of h1]; rfl
  have f0 := free_of h1 0
  by_cases hlt : r < n
  · clear h1 h2 h3 h4 f0
    go_enter Tryz.func128, Tryz.ntmps128
    go_wp2_with fail
    refine (HM.out w).mono ?_
    rintro e w' ⟨rfl, rfl⟩
    go_wp2_with fail
    go_ret2
    exact .inr ⟨hlt, rfl, rfl⟩
  · obtain ⟨m, rfl⟩ : ∃ m, r = m + n := ⟨r - n, by omega⟩
    obtain ⟨a', c', e1, e2, e3⟩ := h2.from_ (P := Tryz.prog) Tryz.underlying89 (by kernel_rfl) (show m ≤ m + n by omega)
    rw [show m + n - m = n by omega] at e1 e2 e3
    obtain ⟨e4, e5⟩ := h2.upto (P := Tryz.prog) Tryz.underlying89 (by kernel_rfl) (show m ≤ m + n by omega)
    have HE5 : Hid (SlR w 1 (.slice a m c) m ((List.range m).map fun i => Value.bool (f i))) := Lib.hid (by
      have e : List.take (m * 1) ((List.range (m + n)).map fun i => Value.bool (f i)) = (List.range m).map fun i => Value.bool (f i) := by
        rw [← List.map_take, Nat.mul_one, List.take_range]; congr 2; omega
      rw [e] at e5; exact e5)
    have HC : Hid (0 < n → ∃ g o, a' = some ⟨g, o, none⟩ ∧ n ≤ c' ∧ ∀ i, i < n → w.cell? ⟨g, o + i, none⟩ = some (.bool (f (m + i)))) := Lib.hid (fun h0 => by
      obtain ⟨_, a0, c0, e0, q1, _, _, q4⟩ := e2
      simp only [Value.slice.injEq, true_and] at e0
      obtain ⟨rfl, rfl⟩ := e0
      obtain ⟨g, o, rfl, _, hc⟩ := q4 h0
      refine ⟨g, o, rfl, q1, fun i hi => hc i _ ?_⟩
      rw [List.getElem?_drop]
      simp [show m + i < m + n by omega])
    have HAT := Lib.hid h1
    have H3 := Lib.hid h3
    have H4 := Lib.hid h4
    have HV := Lib.hid (nv_lt f m)
    have HV0 : Hid (nv f m 0 = 0) := Lib.hid rfl
    have HVS : Hid (∀ k, nv f m (k + 1) = nv f m k + (if f (m + k) = true then 2 ^ k else 0)) := Lib.hid (fun _ => rfl)
    unfold TakePost
    rw [show m + n - n = m by omega]
    obtain ⟨v, hv⟩ : ∃ v, v = nv f m := ⟨_, rfl⟩
    rw [← hv] at HV HV0 HVS ⊢
    clear h1 h2 h3 h4 e2 e3 e5 hv
    have hlt2 : decide ((m : Int) + (n : Int) < (n : Int)) = false := decide_eq_false (by omega)
    go_enter Tryz.func128, Tryz.ntmps128
    go_wp2_with fail
    refine (HM.out w).mono ?_
    rintro e w' ⟨rfl, rfl⟩
    go_wp2_with fail
    go_loopw [7, 40] (fun u i wr => ∃ k : Nat, k ≤ n ∧ i = .int .i64 k ∧ u = .int .i64 (v k : Nat) ∧ wr = w') (fun _ i _ => n - (intOf i).toNat)
    case atStart => exact ⟨0, Nat.zero_le _, rfl, by rw [HV0.out]; rfl, rfl⟩
    case round =>
      obtain ⟨k, hk, rfl, rfl, rfl⟩ := hrel
      by_cases hkn : k < n
      · obtain ⟨g, o, rfl, hc1, hcc⟩ := HC.out (by omega)
        have d1 := hcc k hkn
        have hlt := HV.out k
        have HOR := Lib.hid (or_up (v k) k hlt (by omega))
        have h24 : 2 ^ k ≤ 2 ^ 24 := Nat.pow_le_pow_right (by omega) (by omega)
        have HS := HVS.out k
        obtain ⟨P, hP⟩ : ∃ P, P = 2 ^ k := ⟨_, rfl⟩
        have hPi : (2 : Int) ^ k = (P : Int) := by rw [hP]; simp
        rw [hPi] at HOR
        rw [← hP] at HOR HS h24 hlt
        have h24' : (2 : Nat) ^ 24 = 16777216 := rfl
        rw [h24'] at h24
        have hwP : IntKind.i64.wrap (P : Int) = (P : Int) := by rw [IntKind.wrap_i64]; omega
        obtain ⟨b, hb⟩ : ∃ b, b = f (m + k) := ⟨_, rfl⟩
        rw [← hb] at d1 HS
        obtain ⟨vk, hvk⟩ : ∃ vk, vk = v k := ⟨_, rfl⟩
        rw [← hvk] at HOR HS hlt ⊢
        have HSS := Lib.hid HS
        clear hcc hP hb h24' hvk HS
        have or1 := HOR.out
        cases b with
        | true =>
          go_wp2_with fail
          refine ⟨⟨k + 1, by omega, by go_num, ?_, by first | rfl | trivial⟩, by simp [intOf]; omega⟩
          rw [HSS.out, if_pos rfl, Int.natCast_add]
        | false =>
          go_wp2_with fail
          refine ⟨⟨k + 1, by omega, by go_num, ?_, by first | rfl | trivial⟩, by simp [intOf]; omega⟩
          rw [HSS.out]; simp
      · obtain rfl : k = n := by omega
        have hlt := HV.out k
        have HSET := Lib.hid (setCell_at (i := 0) HAT.out (.slice a m c))
        have HKS := Lib.hid ((Kp.refl (· = p) wr).setCell (p := ⟨p, 0, none⟩) (fun _ => rfl) (.slice a m c))
        go_wp2_with fail
        go_ret2
        refine .inl ⟨by omega, rfl, ⟨a, c, HSET.out, HE5.out.kp HKS.out (fun b hb => ?_), H3.out, fun b hb => ?_⟩, HKS.out⟩
        · have : (Value.slice a (m + k) c).ownBlock = some b := by rw [← hb]; cases a <;> rfl
          exact (H4.out b this).2
        · have : (Value.slice a (m + k) c).ownBlock = some b := by rw [← hb]; cases a <;> rfl
          exact H4.out b this
end Go.Proofs.YtphakpikalmghaaGreat.Rd

namespace Go.Proofs.YtphakpikalmghaaGreat.Rd
open Go Go.RowKit Go.Shelf Go.ChangeMaps Go.MapKept Go.Mg Go.Hf Go.Sort Go.Proofs.YtphakpikalmghaaGreat.Hu Go.Proofs.YtphakpikalmghaaGreat.Bw Go.Proofs.YtphakpikalmghaaGreat.He

/-- A Reader of the first r of the bits of the bytes l. -/
structure RdD (w : World) (p r : Nat) (ab : Option Addr) (cb' : Nat) (l : List UInt8) : Prop where
  hp : w.heap[p]? = some (.cells #[.slice ab l.length cb', .int .i64 (r : Nat)] 117 (0, 0))
  sl : SlR w 1 (.slice ab l.length cb') l.length (l.map u8c)
  ne : ∀ b, (Value.slice ab l.length cb').ownBlock = some b → b ≠ p
  le : r < 8 * l.length
theorem RdD.kp {G : Nat → Prop} {w w' : World} {p r : Nat} {ab : Option Addr} {cb' : Nat} {l : List UInt8} (h : RdD w p r ab cb' l) (hk : Kp G w w') (h1 : ¬ G p) (h2 : ∀ b, (Value.slice ab l.length cb').ownBlock = some b → ¬ G b) : RdD w' p r ab cb' l :=
  ⟨hk.at_ h.hp h1, h.sl.kp hk h2, h.ne, h.le⟩
def NewDPost (w : World) (ab : Option Addr) (cb' : Nat) (l : List UInt8) (e : Ending) (w' : World) : Prop :=
  (Gb l ∧ ∃ p, e = .returned (.tuple #[.pointer (some ⟨p, 0, none⟩), .bool true]) ∧ w.heap.size ≤ p ∧ RdD w' p (top l) ab cb' l ∧ Kp (fun _ => False) w w') ∨
  (¬ Gb l ∧ e = .returned (.tuple #[.pointer none, .bool false]) ∧ w' = w)
set_option maxRecDepth 100000 in
set_option maxHeartbeats 2000000 in
theorem newr_d (w : World) (l : List UInt8) (ab : Option Addr) (cb' : Nat) (hb : SlR w 1 (.slice ab l.length cb') l.length (l.map u8c)) (hlb : l.length ≤ 100000) :
    Calls Tryz.prog 94 #[.slice ab l.length cb'] w (NewDPost w ab cb' l) := by
  by_cases h0 : l.length = 0
  · have HNO := Lib.hid (show ¬ Gb l from fun q => by have := q.1; omega)
    clear hb
    unfold NewDPost
    rw [h0]
    go_enter Tryz.func94, Tryz.ntmps94
    go_wp2_with fail
    go_ret2
    exact .inr ⟨HNO.out, rfl, rfl⟩
  · have RB := Lib.hid hb
    obtain ⟨g, o, rfl, hg, hcap, hc⟩ := bytes_at hb (by omega)
    obtain ⟨x, hx⟩ : ∃ x, x = sym l (l.length - 1) := ⟨_, rfl⟩
    have d0 := hc (l.length - 1) (by omega)
    rw [← hx] at d0
    have hx256 : x < 256 := by rw [hx]; exact sym_lt _ _
    have HX := Lib.hid hx
    have HC := Lib.hid hc
    have HSL := Lib.hid (sym_lt l)
    have HBB : Hid (∀ k, bb l k = decide (sym l (k / 8) / 2 ^ (k % 8) % 2 = 1)) := Lib.hid (fun _ => rfl)
    obtain ⟨n, hn⟩ : ∃ n, n = l.length - 1 := ⟨_, rfl⟩
    have hcap' : n + 1 ≤ cb' := by omega
    have hn5 : n ≤ 100000 := by omega
    have HLN := Lib.hid (show l.length = n + 1 by omega)
    by_cases hx0 : x = 0
    · have HNO := Lib.hid (show ¬ Gb l from fun q => q.2 (by have := HX.out; rw [hx0] at this; exact this.symm))
      rw [hx0, ← hn] at d0
      unfold NewDPost
      rw [HLN.out]
      clear hb hc hx hx0 h0 hcap hlb hn
      go_enter Tryz.func94, Tryz.ntmps94
      go_wp2_with fail
      go_ret2
      exact .inr ⟨HNO.out, rfl, rfl⟩
    · have hgb : Gb l := ⟨by omega, by have := HX.out; intro q; exact hx0 (this.trans q)⟩
      have HGB := Lib.hid hgb
      have htl := top_lt hgb
      have HT1 := Lib.hid (bb_top hgb)
      have HT2 : Hid (∀ k, top l < k → k < 8 * l.length → bb l k = false) := Lib.hid (fun k => bb_above hgb)
      have HTL := Lib.hid htl.1
      obtain ⟨T, hT⟩ : ∃ T, T = top l := ⟨_, rfl⟩
      rw [← hn] at d0
      have hx00 : ((x : Int) == 0) = false := by rw [beq_eq_false_iff_ne]; omega
      rw [← hT, HLN.out] at HT2
      rw [← hT] at HT1
      have hT8 : T < 8 * (n + 1) := by omega
      have HTT := Lib.hid hT
      have HNE : Hid (∀ b, (Value.slice (some ⟨g, o, none⟩) l.length cb').ownBlock = some b → b < w.heap.size) := Lib.hid (fun b hb => by cases hb; exact hg)
      unfold NewDPost
      rw [HLN.out]
      obtain ⟨f, hf⟩ : ∃ f, f = bb l := ⟨_, rfl⟩
      rw [← hf] at HBB HT1 HT2
      clear hb hc hx hx0 h0 hcap hlb hn hT htl hgb hf
      go_enter Tryz.func94, Tryz.ntmps94
      go_wp2_with fail
      go_loopw [4] (fun i wr => ∃ j : Nat, T ≤ j ∧ j < 8 * (n + 1) ∧ i = .int .i64 j ∧ wr = w) (fun i _ => (intOf i).toNat)
      case atStart => exact ⟨8 * (n + 1) - 1, by omega, by omega, by congr 1; omega, rfl⟩
      case round =>
        obtain ⟨j, hTj, hj, rfl, rfl⟩ := hrel
        have d1 := HC.out (j / 8) (by have := HLN.out; omega)
        have hs256 := HSL.out (j / 8)
        have HBJ := Lib.hid (HBB.out j)
        have hlow := low_bit (sym l (j / 8)) (j % 8) hs256
        obtain ⟨s, hs⟩ : ∃ s, s = sym l (j / 8) := ⟨_, rfl⟩
        rw [← hs] at d1 hs256 hlow HBJ
        have hj8 : j / 8 < n + 1 := by omega
        have q5 : (j : Int).tmod 8 = (j : Int) % 8 := Int.tmod_eq_emod_of_nonneg (by omega)
        clear hs
        by_cases hb : s / 2 ^ (j % 8) % 2 = 1
        · have hjT : j = T := by
            rcases Nat.lt_or_ge T j with q | q
            · have h1 := HT2.out j q hj
              rw [HBJ.out, decide_eq_true hb] at h1
              cases h1
            · omega
          subst hjT
          rw [hb] at hlow
          clear hb
          go_wp2_with fail
          go_ret2
          refine .inl ⟨HGB.out, _, rfl, Nat.le_refl _, ?_, (Kp.refl _ _).alloc _⟩
          rw [← HTT.out]
          refine ⟨?_, RB.out.kp ((Kp.refl (fun _ => False) _).alloc _) (fun _ _ q => q), fun b hb => by have := HNE.out b hb; omega, ?_⟩
          · rw [alloc_at, HLN.out]
          · rw [HTT.out]; exact HTL.out
        · have hb0 : s / 2 ^ (j % 8) % 2 = 0 := by omega
          have hjT : j ≠ T := by
            intro q
            have h1 := HT1.out
            rw [← q, HBJ.out] at h1
            exact hb (of_decide_eq_true h1)
          rw [hb0] at hlow
          clear hb hb0
          obtain ⟨i, rfl⟩ : ∃ i, j = i + 1 := ⟨j - 1, by omega⟩
          go_wp2_with fail
          exact ⟨⟨i, by omega, by omega, by go_num, by first | rfl | trivial⟩, by simp [intOf]⟩
end Go.Proofs.YtphakpikalmghaaGreat.Rd

namespace Go.Proofs.YtphakpikalmghaaGreat.Rd
open Go Go.RowKit Go.Shelf Go.ChangeMaps Go.MapKept Go.Mg Go.Hf Go.Sort Go.Proofs.YtphakpikalmghaaGreat.Hu Go.Proofs.YtphakpikalmghaaGreat.Bw Go.Proofs.YtphakpikalmghaaGreat.He

def TakeDPost (w : World) (p r n : Nat) (ab : Option Addr) (cb' : Nat) (l : List UInt8) (e : Ending) (w' : World) : Prop :=
  (n ≤ r ∧ e = .returned (.tuple #[.int .i64 (nv (bb l) (r - n) n : Nat), .bool true]) ∧ RdD w' p (r - n) ab cb' l ∧ Kp (· = p) w w') ∨
  (r < n ∧ e = .returned (.tuple #[.int .i64 0, .bool false]) ∧ w' = w)
set_option maxRecDepth 100000 in
set_option maxHeartbeats 2000000 in
theorem take_d {w : World} {p r : Nat} {ab : Option Addr} {cb' : Nat} {l : List UInt8} (h : RdD w p r ab cb' l) (hlb : l.length ≤ 100000) (n : Nat) (hn : n ≤ 24) :
    Calls Tryz.prog 130 #[.pointer (some ⟨p, 0, none⟩), .int .i64 (n : Nat)] w (TakeDPost w p r n ab cb' l) := by
  have hr8 := h.le
  have d0 : w.cell? ⟨p, 0, none⟩ = some (.slice ab l.length cb') := by rw [cell_of h.hp]; rfl
  have d1 : w.cell? ⟨p, 1, none⟩ = some (.int .i64 (r : Nat)) := by rw [cell_of h.hp]; rfl
  have f1 := free_of h.hp 1
  have hn24 : (n : Int) ≤ 24 := by omega
  by_cases hlt : r < n
  · clear h f1
    go_enter Tryz.func130, Tryz.ntmps130
    go_wp2_with fail
    go_ret2
    exact .inr ⟨hlt, rfl, rfl⟩
  · obtain ⟨m, rfl⟩ : ∃ m, r = m + n := ⟨r - n, by omega⟩
    have hset := setCell_at (i := 1) h.hp (.int .i64 (m : Nat))
    have hks := (Kp.refl (· = p) w).setCell (p := ⟨p, 1, none⟩) (fun _ => rfl) (.int .i64 (m : Nat))
    obtain ⟨W, hW⟩ : ∃ W, W = w.setCell ⟨p, 1, none⟩ (.int .i64 (m : Nat)) := ⟨_, rfl⟩
    have HWE := Lib.hid hW
    rw [← hW] at hset hks
    have HAT : Hid (RdD W p m ab cb' l) := Lib.hid ⟨hset, h.sl.kp hks h.ne, h.ne, by omega⟩
    have e0 : W.cell? ⟨p, 0, none⟩ = some (.slice ab l.length cb') := by rw [cell_of hset]; rfl
    have e1 : W.cell? ⟨p, 1, none⟩ = some (.int .i64 (m : Nat)) := by rw [cell_of hset]; rfl
    have HKS := Lib.hid hks
    have HC : Hid (0 < l.length → ∃ g o, ab = some ⟨g, o, none⟩ ∧ l.length ≤ cb' ∧ ∀ i, i < l.length → W.cell? ⟨g, o + i, none⟩ = some (.int .u8 (sym l i : Nat))) := Lib.hid (fun h0 => by
      obtain ⟨g, o, e, _, h1, h2⟩ := bytes_at HAT.out.sl h0
      exact ⟨g, o, e, h1, h2⟩)
    have HSL := Lib.hid (sym_lt l)
    have HBB : Hid (∀ k, bb l k = decide (sym l (k / 8) / 2 ^ (k % 8) % 2 = 1)) := Lib.hid (fun _ => rfl)
    unfold TakeDPost
    rw [show m + n - n = m by omega]
    obtain ⟨L, hL⟩ : ∃ L, L = l.length := ⟨_, rfl⟩
    rw [← hL] at HC hr8 d0 e0 hlb
    have HV := Lib.hid (fun k => nv_lt (bb l) (m + k) (n - k))
    have HVS : Hid (∀ q, q < n → nv (bb l) (m + q) (n - q) = 2 * nv (bb l) (m + (q + 1)) (n - (q + 1)) + (if bb l (m + q) = true then 1 else 0)) := Lib.hid (fun q hq => by
      rw [show n - q = (n - (q + 1)) + 1 by omega, nv_low]; rfl)
    obtain ⟨v, hv⟩ : ∃ v, v = fun k => nv (bb l) (m + k) (n - k) := ⟨_, rfl⟩
    have HV1 : Hid (∀ q, q < n → v q = 2 * v (q + 1) + (if bb l (m + q) = true then 1 else 0)) := Lib.hid (by rw [hv]; exact HVS.out)
    have HV2 : Hid (∀ q, v q < 2 ^ 24) := Lib.hid (fun q => by
      rw [hv]; exact Nat.lt_of_lt_of_le (HV.out q) (Nat.pow_le_pow_right (by omega) (by omega)))
    have HV3 : Hid (v n = 0) := Lib.hid (by rw [hv]; simp [Hf.nv])
    have HV4 : Hid (nv (bb l) m n = v 0) := Lib.hid (by rw [hv]; rfl)
    rw [HV4.out]
    clear h hset hks hW hv HV HVS hL
    have hlt2 : decide ((m : Int) + (n : Int) < (n : Int)) = false := decide_eq_false (by omega)
    go_enter Tryz.func130, Tryz.ntmps130
    go_wp2_with fail
    rw [← HWE.out]
    clear d0 d1 f1
    go_loopw [6, 7, 8] (fun u i _ wr => ∃ j : Nat, j ≤ n ∧ i = .int .i64 ((j : Int) - 1) ∧ u = .int .i64 (v j : Nat) ∧ wr = W) (fun _ i _ _ => (intOf i + 1).toNat)
    case atStart => exact ⟨n, Nat.le_refl _, by simp, by rw [HV3.out]; rfl, rfl⟩
    case round =>
      obtain ⟨j, hj, rfl, rfl, rfl⟩ := hrel
      cases j with
      | zero =>
        rw [show ((0 : Nat) : Int) - 1 = -1 by rfl]
        go_wp2_with fail
        go_ret2
        exact .inl ⟨by omega, rfl, HAT.out, HKS.out⟩
      | succ q =>
        rw [show (((q + 1 : Nat) : Int) - 1) = (q : Nat) by omega]
        obtain ⟨g, o, rfl, hcap, hcc⟩ := HC.out (by omega)
        obtain ⟨K, hK⟩ : ∃ K, K = m + q := ⟨_, rfl⟩
        have hKi : (m : Int) + (q : Int) = (K : Nat) := by omega
        have hK8 : K / 8 < L := by omega
        have d1 := hcc (K / 8) hK8
        have hs256 := HSL.out (K / 8)
        have HBJ := Lib.hid (HBB.out K)
        have hlow := low_bit (sym l (K / 8)) (K % 8) hs256
        have H1 := Lib.hid (HV1.out q (by omega))
        have h24 := HV2.out (q + 1)
        have h24' : (2 : Nat) ^ 24 = 16777216 := rfl
        rw [h24'] at h24
        obtain ⟨s, hs⟩ : ∃ s, s = sym l (K / 8) := ⟨_, rfl⟩
        rw [← hs] at d1 hs256 hlow HBJ
        obtain ⟨vk, hvk⟩ : ∃ vk, vk = v (q + 1) := ⟨_, rfl⟩
        rw [← hvk, ← hK, HBJ.out] at H1
        rw [← hvk] at h24 ⊢
        have hw2 : ((vk : Int) * 2) = ((2 * vk : Nat) : Int) := by omega
        have q5 : (K : Int).tmod 8 = (K : Int) % 8 := Int.tmod_eq_emod_of_nonneg (by omega)
        have h40 : (2 : Nat) ^ 40 = 1099511627776 := rfl
        by_cases hb : s / 2 ^ (K % 8) % 2 = 1
        · have or1 := or_low vk 1 (by omega) (by omega)
          rw [hb] at hlow
          rw [decide_eq_true hb, if_pos rfl] at H1
          clear hw2 hcc hs hvk hb h24' h40 hK
          go_wp2_with fail
          refine ⟨⟨q, by omega, by first | rfl | trivial, ?_, by first | rfl | trivial⟩, by simp [intOf]; try omega⟩
          rw [H1.out]
          congr 1
          rw [Int.mul_comm]
          exact or1
        · have hb0 : s / 2 ^ (K % 8) % 2 = 0 := by omega
          have or1 := or_low vk 0 (by omega) (by omega)
          rw [hb0] at hlow
          rw [decide_eq_false hb, if_neg (by decide)] at H1
          clear hw2 hcc hs hvk hb hb0 h24' h40 hK
          go_wp2_with fail
          refine ⟨⟨q, by omega, by first | rfl | trivial, ?_, by first | rfl | trivial⟩, by simp [intOf]; try omega⟩
          rw [H1.out]
          congr 1
          rw [Int.mul_comm]
          exact or1
end Go.Proofs.YtphakpikalmghaaGreat.Rd

namespace Go.Proofs.YtphakpikalmghaaGreat.Rd
open Go Go.RowKit Go.Shelf Go.ChangeMaps Go.MapKept Go.Mg Go.Hf Go.Sort Go.Proofs.YtphakpikalmghaaGreat.Hu Go.Proofs.YtphakpikalmghaaGreat.Bw Go.Proofs.YtphakpikalmghaaGreat.He

def fdv : Option Nat → Int
  | some s => (s : Int)
  | none => -1
/-- The lengths and the codes, in two rows. -/
def Tab (w : World) (xs : List Int) (g o gc : Nat) : Prop := ∀ i, i < xs.length → w.cell? ⟨gc, i, none⟩ = some (.int .i64 (codes xs i)) ∧ w.cell? ⟨g, o + i, none⟩ = some (.int .i64 (lf xs i))
theorem Tab.kp {F : Nat → Prop} {w w' : World} {xs : List Int} {g o gc : Nat} (h : Tab w xs g o gc) (hk : Kp F w w') (h1 : g < w.heap.size ∧ ¬ F g) (h2 : gc < w.heap.size ∧ ¬ F gc) : Tab w' xs g o gc := fun i hi =>
  ⟨(hk.cell (p := ⟨gc, i, none⟩) h2.1 h2.2).trans (h i hi).1, (hk.cell (p := ⟨g, o + i, none⟩) h1.1 h1.2).trans (h i hi).2⟩
theorem fd_step_no {xs : List Int} {code n : Int} {k : Nat} (h : fd xs code n k = none) (hn : ¬ (lf xs k = n ∧ codes xs k = code)) : fd xs code n (k + 1) = none := by simp only [fd, h, if_neg hn]
theorem fd_step_yes {xs : List Int} {code n : Int} {k : Nat} (h : fd xs code n k = none) (hn : lf xs k = n ∧ codes xs k = code) : fd xs code n (k + 1) = some k := by simp only [fd, h, if_pos hn]
set_option maxRecDepth 100000 in
set_option maxHeartbeats 1000000 in
theorem found_p (w : World) (xs : List Int) (g o c gc : Nat) (hl : xs.length ≤ 300) (hcap : xs.length ≤ c) (h : Tab w xs g o gc) (code n : Int) :
    Calls Tryz.prog 129 #[.slice (some ⟨g, o, none⟩) xs.length c, .slice (some ⟨gc, 0, none⟩) xs.length xs.length, .int .i64 code, .int .i64 n] w fun e w' => e = .returned (.int .i64 (fdv (fd xs code n xs.length))) ∧ w' = w := by
  have H := Lib.hid h
  have HNO := Lib.hid (fun k => fd_step_no (xs := xs) (code := code) (n := n) (k := k))
  have HYES := Lib.hid (fun k => fd_step_yes (xs := xs) (code := code) (n := n) (k := k))
  have HSAME : Hid (∀ k s, k ≤ xs.length → fd xs code n k = some s → fd xs code n xs.length = some s) := Lib.hid (fun k s hk e => fd_same e _ hk)
  have HSTART : Hid (fd xs code n 0 = none) := Lib.hid rfl
  obtain ⟨N, hN⟩ : ∃ N, N = xs.length := ⟨_, rfl⟩
  unfold Tab at H
  obtain ⟨FD, hFD⟩ : ∃ FD, FD = fd xs code n := ⟨_, rfl⟩
  generalize lf xs = X at *
  generalize codes xs = C at *
  rw [← hN] at H HSAME hl hcap ⊢
  rw [← hFD] at HNO HYES HSAME HSTART ⊢
  clear h hN hFD
  go_enter Tryz.func129, Tryz.ntmps129
  go_wp2_with fail
  go_loopw [13] (fun i wr => ∃ k : Nat, k ≤ N ∧ i = .int .i64 k ∧ FD k = none ∧ wr = w) (fun i _ => N - (intOf i).toNat)
  case atStart => exact ⟨0, Nat.zero_le _, rfl, HSTART.out, rfl⟩
  case round =>
    obtain ⟨k, hk, rfl, hno, rfl⟩ := hrel
    have HN := Lib.hid hno
    clear hno
    by_cases hkn : k < N
    · obtain ⟨d2, d1⟩ := H.out k hkn
      by_cases e1 : X k = n
      · by_cases e2 : C k = code
        · have HY := Lib.hid (HSAME.out _ _ (by omega) (HYES.out k HN.out ⟨e1, e2⟩))
          rw [e1] at d1
          rw [e2] at d2
          have b1 : (n == n) = true := by simp
          have b2 : (code == code) = true := by simp
          clear e1 e2
          go_wp2_with fail
          go_ret
          exact ⟨by rw [HY.out]; rfl, rfl⟩
        · have HS := Lib.hid (HNO.out k HN.out (fun q => e2 q.2))
          rw [e1] at d1
          obtain ⟨y, hy⟩ : ∃ y, y = C k := ⟨_, rfl⟩
          rw [← hy] at d2 e2
          have b1 : (n == n) = true := by simp
          have b2 : (y == code) = false := by rw [beq_eq_false_iff_ne]; exact e2
          clear e1 e2 hy
          go_wp2_with fail
          exact ⟨⟨k + 1, by omega, by go_num, HS.out, by first | rfl | trivial⟩, by simp [intOf]; omega⟩
      · have HS := Lib.hid (HNO.out k HN.out (fun q => e1 q.1))
        obtain ⟨y, hy⟩ : ∃ y, y = X k := ⟨_, rfl⟩
        rw [← hy] at d1 e1
        have b1 : (y == n) = false := by rw [beq_eq_false_iff_ne]; exact e1
        clear e1 hy
        go_wp2_with fail
        exact ⟨⟨k + 1, by omega, by go_num, HS.out, by first | rfl | trivial⟩, by simp [intOf]; omega⟩
    · obtain rfl : k = N := by omega
      go_wp2_with fail
      go_ret
      exact ⟨by rw [HN.out]; rfl, rfl⟩
set_option maxRecDepth 100000 in
set_option maxHeartbeats 1000000 in
theorem symbol_d (w : World) (xs : List Int) (g o c gc : Nat) (hl : xs.length ≤ 300) (hcap : xs.length ≤ c) (h : Tab w xs g o gc) (code n : Int) :
    Calls Tryz.prog 131 #[.slice (some ⟨g, o, none⟩) xs.length c, .slice (some ⟨gc, 0, none⟩) xs.length xs.length, .int .i64 code, .int .i64 n] w fun e w' => e = .returned (.int .i64 (fdv (fd xs code n xs.length))) ∧ w' = w := by
  have H := Lib.hid h
  have HNO := Lib.hid (fun k => fd_step_no (xs := xs) (code := code) (n := n) (k := k))
  have HYES := Lib.hid (fun k => fd_step_yes (xs := xs) (code := code) (n := n) (k := k))
  have HSAME : Hid (∀ k s, k ≤ xs.length → fd xs code n k = some s → fd xs code n xs.length = some s) := Lib.hid (fun k s hk e => fd_same e _ hk)
  have HSTART : Hid (fd xs code n 0 = none) := Lib.hid rfl
  obtain ⟨N, hN⟩ : ∃ N, N = xs.length := ⟨_, rfl⟩
  unfold Tab at H
  obtain ⟨FD, hFD⟩ : ∃ FD, FD = fd xs code n := ⟨_, rfl⟩
  generalize lf xs = X at *
  generalize codes xs = C at *
  rw [← hN] at H HSAME hl hcap ⊢
  rw [← hFD] at HNO HYES HSAME HSTART ⊢
  clear h hN hFD
  go_enter Tryz.func131, Tryz.ntmps131
  go_wp2_with fail
  go_loopw [9] (fun i wr => ∃ k : Nat, k ≤ N ∧ i = .int .i64 k ∧ FD k = none ∧ wr = w) (fun i _ => N - (intOf i).toNat)
  case atStart => exact ⟨0, Nat.zero_le _, rfl, HSTART.out, rfl⟩
  case round =>
    obtain ⟨k, hk, rfl, hno, rfl⟩ := hrel
    have HN := Lib.hid hno
    clear hno
    by_cases hkn : k < N
    · obtain ⟨d2, d1⟩ := H.out k hkn
      by_cases e1 : X k = n
      · by_cases e2 : C k = code
        · have HY := Lib.hid (HSAME.out _ _ (by omega) (HYES.out k HN.out ⟨e1, e2⟩))
          rw [e1] at d1
          rw [e2] at d2
          have b1 : (n == n) = true := by simp
          have b2 : (code == code) = true := by simp
          clear e1 e2
          go_wp2_with fail
          go_ret
          exact ⟨by rw [HY.out]; rfl, rfl⟩
        · have HS := Lib.hid (HNO.out k HN.out (fun q => e2 q.2))
          rw [e1] at d1
          obtain ⟨y, hy⟩ : ∃ y, y = C k := ⟨_, rfl⟩
          rw [← hy] at d2 e2
          have b1 : (n == n) = true := by simp
          have b2 : (y == code) = false := by rw [beq_eq_false_iff_ne]; exact e2
          clear e1 e2 hy
          go_wp2_with fail
          exact ⟨⟨k + 1, by omega, by go_num, HS.out, by first | rfl | trivial⟩, by simp [intOf]; omega⟩
      · have HS := Lib.hid (HNO.out k HN.out (fun q => e1 q.1))
        obtain ⟨y, hy⟩ : ∃ y, y = X k := ⟨_, rfl⟩
        rw [← hy] at d1 e1
        have b1 : (y == n) = false := by rw [beq_eq_false_iff_ne]; exact e1
        clear e1 hy
        go_wp2_with fail
        exact ⟨⟨k + 1, by omega, by go_num, HS.out, by first | rfl | trivial⟩, by simp [intOf]; omega⟩
    · obtain rfl : k = N := by omega
      go_wp2_with fail
      go_ret
      exact ⟨by rw [HN.out]; rfl, rfl⟩
end Go.Proofs.YtphakpikalmghaaGreat.Rd

namespace Go.Proofs.YtphakpikalmghaaGreat.Rd
open Go Go.RowKit Go.Shelf Go.ChangeMaps Go.MapKept Go.Mg Go.Hf Go.Sort Go.Proofs.YtphakpikalmghaaGreat.Hu Go.Proofs.YtphakpikalmghaaGreat.Bw Go.Proofs.YtphakpikalmghaaGreat.He

/-- The bit at a place, as a number. -/
def bn (f : Nat → Bool) (k : Nat) : Nat := if f k = true then 1 else 0
theorem bn_lt (f : Nat → Bool) (k : Nat) : bn f k < 2 := by unfold bn; split <;> omega
theorem nv_one (f : Nat → Bool) (k : Nat) : Hf.nv f k 1 = bn f k := by simp [Hf.nv, bn]
theorem one_end {xs : List Int} {f : Nat → Bool} {n code r : Nat} : oneS xs f 0 n code r = none := rfl
theorem one_dry {xs : List Int} {f : Nat → Bool} {m n code : Nat} : oneS xs f (m + 1) n code 0 = none := by simp [oneS]
theorem one_hit {xs : List Int} {f : Nat → Bool} {m n code r s : Nat} (h : fd xs ((2 * code + bn f r : Nat) : Int) (n : Int) xs.length = some s) : oneS xs f (m + 1) n code (r + 1) = some (s, r) := by
  simp only [oneS, Nat.add_one_sub_one]
  rw [if_neg (by omega)]
  unfold bn at h
  rw [h]
theorem one_miss {xs : List Int} {f : Nat → Bool} {m n code r : Nat} (h : fd xs ((2 * code + bn f r : Nat) : Int) (n : Int) xs.length = none) : oneS xs f (m + 1) n code (r + 1) = oneS xs f m (n + 1) (2 * code + bn f r) r := by
  simp only [oneS, Nat.add_one_sub_one]
  rw [if_neg (by omega)]
  unfold bn at h ⊢
  rw [h]
def OneD (w : World) (xs : List Int) (p r : Nat) (ab : Option Addr) (cb' : Nat) (l : List UInt8) (e : Ending) (w' : World) : Prop :=
  (∃ s r', oneS xs (bb l) 11 1 0 r = some (s, r') ∧ e = .returned (.int .i64 (s : Nat)) ∧ RdD w' p r' ab cb' l ∧ Kp (· = p) w w') ∨
  (oneS xs (bb l) 11 1 0 r = none ∧ e = .returned (.int .i64 (-1)) ∧ Kp (· = p) w w')
set_option maxRecDepth 100000 in
set_option maxHeartbeats 2000000 in
theorem one_d (w : World) (xs : List Int) (g o c gc : Nat) (hl : xs.length ≤ 300) (hcap : xs.length ≤ c) (h : Tab w xs g o gc) (hg : g < w.heap.size) (hgc : gc < w.heap.size) {p r : Nat} (hgp : g ≠ p) (hgcp : gc ≠ p) {ab : Option Addr} {cb' : Nat} {l : List UInt8} (hr : RdD w p r ab cb' l) (hlb : l.length ≤ 100000) :
    Calls Tryz.prog 95 #[.slice (some ⟨g, o, none⟩) xs.length c, .slice (some ⟨gc, 0, none⟩) xs.length xs.length, .pointer (some ⟨p, 0, none⟩)] w (OneD w xs p r ab cb' l) := by
  have HTAB := Lib.hid (fun V (hk : Kp (· = p) w V) => h.kp hk ⟨hg, hgp⟩ ⟨hgc, hgcp⟩)
  have HR := Lib.hid hr
  have HBN := Lib.hid (fun k => bn_lt (bb l) k)
  unfold OneD
  obtain ⟨ONE, hONE⟩ : ∃ ONE, ONE = oneS xs (bb l) 11 1 0 r := ⟨_, rfl⟩
  have HONE := Lib.hid hONE
  rw [← hONE]
  clear h hr hONE
  go_enter Tryz.func95, Tryz.ntmps95
  go_wp2_with fail
  go_loopw [7, 8] (fun u i wr => ∃ n code r' : Nat, n ≤ 11 ∧ i = .int .i64 ((n : Nat) + 1) ∧ u = .int .i64 code ∧ code < 2 ^ n ∧ RdD wr p r' ab cb' l ∧ Kp (· = p) w wr ∧ ONE = oneS xs (bb l) (11 - n) (n + 1) code r') (fun _ i _ => 12 - (intOf i).toNat)
  case atStart => exact ⟨0, 0, r, by omega, rfl, rfl, by omega, HR.out, Kp.refl _ _, HONE.out⟩
  case round =>
    obtain ⟨n, code, r', hn, rfl, rfl, hcode, hrd, hk, hone⟩ := hrel
    have h11 : 2 ^ n ≤ 2 ^ 11 := Nat.pow_le_pow_right (by omega) hn
    have e11 : 2 ^ 11 = 2048 := rfl
    have hc2 : code ≤ 8388608 := by omega
    have hP : 2 ^ (n + 1) = 2 * 2 ^ n := by rw [Nat.pow_succ]; omega
    have HC1 := Lib.hid hcode
    have HP := Lib.hid hP
    have HK := Lib.hid hk
    have TK := Lib.hid (take_d hrd hlb 1 (by omega))
    have HE := Lib.hid hone
    clear hrd hk hone h11 e11 hcode hP
    by_cases hn11 : n = 11
    · subst hn11
      clear TK
      go_wp2_with fail
      go_ret
      exact .inr ⟨HE.out, rfl, HK.out⟩
    · have hn10 : n ≤ 10 := by omega
      obtain ⟨m, hm⟩ : ∃ m, 11 - n = m + 1 := ⟨10 - n, by omega⟩
      have HM := Lib.hid hm
      clear hm hn11
      go_wp2_with fail
      refine TK.out.mono ?_
      rintro e w1 (⟨hr1, rfl, hrd1, hk1⟩ | ⟨hr1, rfl, rfl⟩)
      · obtain ⟨q, rfl⟩ : ∃ q, r' = q + 1 := ⟨r' - 1, by omega⟩
        rw [Nat.add_one_sub_one] at hrd1
        rw [Nat.add_one_sub_one, nv_one]
        have hb2 := HBN.out q
        have or1 := or_low code (bn (bb l) q) hb2 (by have : (2 : Nat) ^ 40 = 1099511627776 := rfl; omega)
        have HSY := Lib.hid (fun V (hk : Kp (· = p) w V) => symbol_d V xs g o c gc hl hcap (HTAB.out V hk) ((2 * code + bn (bb l) q : Nat) : Int) ((n : Int) + 1))
        have HHIT : Hid (∀ s, fd xs ((2 * code + bn (bb l) q : Nat) : Int) ((n : Int) + 1) xs.length = some s → ONE = some (s, q)) := Lib.hid (fun s hs => by
          rw [HE.out, HM.out]; exact one_hit (n := n + 1) (by rw [Int.natCast_add n 1]; exact hs))
        have HMISS : Hid (fd xs ((2 * code + bn (bb l) q : Nat) : Int) ((n : Int) + 1) xs.length = none → ONE = oneS xs (bb l) (11 - (n + 1)) (n + 1 + 1) (2 * code + bn (bb l) q) q) := Lib.hid (fun hs => by
          rw [HE.out, HM.out, show 11 - (n + 1) = m by have := HM.out; omega]; exact one_miss (n := n + 1) (by rw [Int.natCast_add n 1]; exact hs))
        have HRD1 := Lib.hid hrd1
        have HK1 := Lib.hid (HK.out.trans hk1)
        obtain ⟨b, hb⟩ : ∃ b, b = bn (bb l) q := ⟨_, rfl⟩
        rw [← hb] at hb2 or1 HSY HHIT HMISS ⊢
        obtain ⟨C, hC⟩ : ∃ C, C = 2 * code + b := ⟨_, rfl⟩
        have h2c : ((2 * code : Nat) : Int) = (code : Int) * 2 := by omega
        rw [← hC] at or1 HSY HHIT HMISS
        rw [h2c] at or1
        have HCC := Lib.hid hC
        clear TK hrd1 hk1 HE HM hb HK hr1 h2c hC
        go_wp2_with fail
        refine (HSY.out _ HK1.out).mono ?_
        rintro e w2 ⟨rfl, hw2⟩
        obtain rfl := hw2
        cases hfd : fd xs (C : Int) ((n : Int) + 1) xs.length with
        | some s =>
          have HH := Lib.hid (HHIT.out s hfd)
          clear hfd HSY HHIT HMISS
          simp only [fdv]
          go_wp2_with fail
          go_ret
          exact .inl ⟨s, q, HH.out, rfl, HRD1.out, HK1.out⟩
        | none =>
          have HH := Lib.hid (HMISS.out hfd)
          clear hfd HSY HHIT HMISS
          simp only [fdv]
          go_wp2_with fail
          refine ⟨⟨n + 1, C, q, by omega, by go_num, rfl, ?_, HRD1.out, HK1.out, HH.out⟩, by simp [intOf]; omega⟩
          have := HC1.out
          have := HP.out
          have := HCC.out
          have : 0 < 2 ^ n := Nat.two_pow_pos n
          omega
      · obtain rfl : r' = 0 := by omega
        have HH := Lib.hid (show ONE = none by rw [HE.out, HM.out]; exact one_dry)
        clear TK HE HM
        go_wp2_with fail
        go_ret
        exact .inr ⟨HH.out, rfl, HK.out⟩
end Go.Proofs.YtphakpikalmghaaGreat.Rd
