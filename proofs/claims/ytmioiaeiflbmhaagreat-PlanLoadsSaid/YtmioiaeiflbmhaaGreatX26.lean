/- block: the program's Encode. stream, in plain words: what is kept, what comes out. A Stream in memory. hash: number, stir, RotateLeft64: what they are, and the program's walks. -/
import Derived.Test.YtmioiaeiflbmhaaGreatX25
import Derived.Test.YtmioiaeiflbmhaaGreatX10
import Derived.Test.YtmioiaeiflbmhaaGreatX11
import Derived.Test.YtmioiaeiflbmhaaGreatX08
namespace Go.Proofs.YtmioiaeiflbmhaaGreat.Ma
open Go Go.RowKit Go.ChangeMaps Go.MapKept Go.Mg Go.Mt Go.Hf Go.Proofs.YtmioiaeiflbmhaaGreat.Hu Go.Proofs.YtmioiaeiflbmhaaGreat.Bw Go.Proofs.YtmioiaeiflbmhaaGreat.He Go.Proofs.YtmioiaeiflbmhaaGreat.Rd Go.Proofs.YtmioiaeiflbmhaaGreat.Sq Go.Proofs.YtmioiaeiflbmhaaGreat.Bk
set_option maxRecDepth 100000 in
set_option maxHeartbeats 4000000 in
theorem encP_not (w : World) (p d : List UInt8) (ap : Option Addr) (cp : Nat) (hp : SlR w 1 (.slice ap p.length cp) p.length (p.map u8c)) (ad : Option Addr) (cd : Nat) (hd : SlR w 1 (.slice ad d.length cd) d.length (d.map u8c)) (hl1 : p.length ≤ 2000) (hl2 : d.length ≤ 500) (depth : Nat) (hd1 : 1 ≤ depth) (hd2 : depth ≤ 32) (h : H3) (hsame : Bk.same d = false) :
    Calls Tryz.prog 102 #[.slice ap p.length cp, .slice ad d.length cd, .int .i64 (depth : Nat), hv3 h] w (EncPost7 w (Bk.encB p d depth h).1 (Bk.encB p d depth h).2) := by
  have mixed : Tryz.prog.follows .mixedOrders = true := by kernel_rfl
  obtain ⟨j0, hj0, hy0, hy1, hy2⟩ := info_parts infoU8
  obtain ⟨hmay, htot⟩ := steps_may p d depth hl1 hl2
  have SM := Lib.hid (fun V hV => isRun_p V d ad cd (hd.kp hV (fun _ _ q => q)) (by omega))
  rw [hsame] at SM
  have PA := Lib.hid (fun V hV => parse_p V p d ap cp (hp.kp hV (fun _ _ q => q)) ad cd (hd.kp hV (fun _ _ q => q)) hl1 hl2 depth hd1 hd2)
  have HD := Lib.hid hd
  obtain ⟨l, hl⟩ : ∃ l, l = stepsB p d depth := ⟨_, rfl⟩
  have hl' : rest (byt (p ++ d)) (p ++ d).length depth p.length 0 = l := hl.symm
  unfold ParsePost at PA
  rw [hl'] at PA
  rw [← hl] at hmay htot
  have hl500 := hmay.1
  have LI := Lib.hid (fun V al cl hV hs => literals_p V d ad cd (hd.kp hV (fun _ _ q => q)) l al cl hs hl2 (by omega) htot)
  have PK := Lib.hid (fun V al cl hs => pack_p V l al cl hs hmay h)
  obtain ⟨LT, hLT⟩ : ∃ LT, LT = literals d l := ⟨_, rfl⟩
  have hlt5 : LT.length ≤ 500 := by rw [hLT]; exact Nat.le_trans (literals_len d l htot) hl2
  have RW := Lib.hid (fun V a c hs => rowP_p V LT a c hs (by omega))
  obtain ⟨RL, hRL⟩ : ∃ RL, RL = Bk.rowB LT := ⟨_, rfl⟩
  have hrl : RL.length ≤ 504 := by rw [hRL]; have := rowB7_len LT; omega
  obtain ⟨PB, hPB⟩ : ∃ PB, PB = packB l h := ⟨_, rfl⟩
  have hpb : PB.length ≤ 40000 := by rw [hPB]; exact packB_le hmay h
  obtain ⟨h2, hh2⟩ : ∃ h2, h2 = hs (ofs l) h l.length := ⟨_, rfl⟩
  have HB : Hid (Bk.encB p d depth h = if 2 + (RL ++ PB).length < d.length then (two d.length ++ [2] ++ two (RL ++ PB).length ++ (RL ++ PB), h2) else (two d.length ++ [0] ++ d, h)) := Lib.hid (by
    unfold Bk.encB Bk.bodyB
    rw [if_neg (by rw [hsame]; decide), ← hl, ← hLT, ← hRL, ← hPB, ← hh2])
  unfold LitPost at LI
  unfold RowPost7 at RW
  unfold PackPost at PK
  rw [← hLT] at LI
  rw [← hRL] at RW
  rw [← hPB, ← hh2] at PK
  obtain ⟨r, hr⟩ : ∃ r, r = Bk.encB p d depth h := ⟨_, rfl⟩
  rw [← hr] at HB ⊢
  obtain ⟨nL, hnL⟩ : ∃ nL, nL = RL.length := ⟨_, rfl⟩
  obtain ⟨nP, hnP⟩ : ∃ nP, nP = PB.length := ⟨_, rfl⟩
  obtain ⟨n, hn⟩ : ∃ n, n = d.length := ⟨_, rfl⟩
  obtain ⟨m, hm⟩ : ∃ m, m = p.length := ⟨_, rfl⟩
  have HnL := Lib.hid hnL
  have HnP := Lib.hid hnP
  have HN := Lib.hid hn
  rw [← hn] at SM PA LI HD HB hl2 ⊢
  rw [← hm] at PA ⊢
  rw [← hnL] at hrl
  rw [← hnP] at hpb PK
  have HBD : Hid (n ≤ 500 ∧ nL ≤ 504 ∧ nP ≤ 40000) := Lib.hid ⟨hl2, hrl, hpb⟩
  clear hsame hd hp hmay htot hl hl' hl500 hLT hlt5 hRL hrl hPB hpb hh2 hr hnL hnP hn hm hl1 hl2 hd1 hd2
  obtain ⟨ha, hb, hc⟩ := h
  obtain ⟨ka, kb, kc⟩ := h2
  have hhv : ∀ a b c, hv3 ⟨a, b, c⟩ = .agg #[.int .i64 (a : Nat), .int .i64 (b : Nat), .int .i64 (c : Nat)] := fun _ _ _ => rfl
  rw [hhv] at PK ⊢
  simp only [hhv] at PK
  clear hhv
  go_enter Tryz.func102, Tryz.ntmps102
  go_wp2_with fail
  obtain ⟨W, hW⟩ : ∃ W, W = (w.alloc (.cells #[.int .i64 (ha : Nat), .int .i64 (hb : Nat), .int .i64 (hc : Nat)] 82)).alloc (.cells #[.int .i64 0, .int .i64 0, .int .i64 0] 82) := ⟨_, rfl⟩
  have hws : W.heap.size = w.heap.size + 2 := by rw [hW]; simp
  have hkW : Kp (fun _ => False) w W := by rw [hW]; exact (kp_alloc _ _).trans (kp_alloc _ _)
  have hG0 : HAt W w.heap.size ⟨ha, hb, hc⟩ := by
    rw [hW]; exact (kp_alloc _ _).at_ (alloc_at w _) (fun q => q)
  have hR0 : HAt W (w.heap.size + 1) ⟨0, 0, 0⟩ := by
    rw [hW]; have := alloc_at (w.alloc (.cells #[.int .i64 (ha : Nat), .int .i64 (hb : Nat), .int .i64 (hc : Nat)] 82)) (.cells #[.int .i64 0, .int .i64 0, .int .i64 0] 82)
    rw [World.size_alloc] at this
    exact this
  rw [← hW]
  obtain ⟨G, hG⟩ : ∃ G, G = w.heap.size := ⟨_, rfl⟩
  rw [← hG] at hG0 hR0 ⊢
  have HW := Lib.hid hws
  have HKW := Lib.hid hkW
  have HGE := Lib.hid hG
  have HG := Lib.hid (fun V (hV : Kp (fun _ => False) W V) => And.intro (hG0.kp hV (fun q => q)) (hR0.kp hV (fun q => q)))
  have HGW := Lib.hid (show W.heap.size = G + 2 by omega)
  clear hW hws hkW hG0 hR0 hG
  refine (sized_p n W).mono ?_
  rintro e w1 ⟨g1, rfl, hg1, t1, k1⟩
  have SM1 := Lib.hid (SM.out w1 (HKW.out.trans k1))
  have PA1 := Lib.hid (PA.out w1 (HKW.out.trans k1))
  have K1 := Lib.hid k1
  have T1 := Lib.hid t1
  have HG1 : Hid (W.heap.size ≤ g1 ∧ g1 < w1.heap.size) := Lib.hid ⟨hg1, (t1.lt (k := g1) rfl).2⟩
  clear hg1 t1 k1 SM PA
  go_wp2_with fail
  refine SM1.out.mono ?_
  rintro e w' ⟨rfl, hw⟩
  obtain rfl := hw.symm
  clear SM1
  go_wp2_with fail
  refine PA1.out.mono ?_
  rintro e w2 ⟨v2, rfl, hv2, hk2⟩
  obtain ⟨a2, c2, rfl, hown2, hbey2⟩ := hv2
  have Q2 : Hid (RowQ w1.heap.size w2 (.slice a2 l.length c2) l) := Lib.hid ⟨a2, c2, rfl, hown2, hbey2⟩
  have K2 := Lib.hid (K1.out.trans hk2)
  have J2 := Lib.hid hk2
  have LI2 := Lib.hid (LI.out w2 a2 c2 (HKW.out.trans K2.out) Q2.out.sl.1)
  clear hown2 hbey2 hk2 LI PA1
  go_wp2_with fail
  refine LI2.out.mono ?_
  rintro e w3 ⟨v3, rfl, hv3, hk3⟩
  obtain ⟨a3, c3, rfl, hown3, hbey3⟩ := hv3
  have L3 : Hid (RowB w2.heap.size w3 (.slice a3 LT.length c3) LT) := Lib.hid ⟨a3, c3, rfl, hown3, hbey3⟩
  have K3 := Lib.hid (K2.out.trans hk3)
  have J3 := Lib.hid (J2.out.trans hk3)
  have PK3 := Lib.hid (PK.out w3 a2 c2 (Q2.out.kp0 hk3).sl.1)
  obtain ⟨t0, t1, t2⟩ := (HG.out w3 K3.out).1.cells
  clear hown3 hbey3 hk3 PK LI2
  go_wp2_with fail
  refine PK3.out.mono ?_
  rintro e w4 ⟨a4, c4, rfl, hv4, hk4⟩
  have P4 := Lib.hid hv4
  have K4 := Lib.hid (K3.out.trans hk4)
  have J4 := Lib.hid (J3.out.trans hk4)
  have L4 := Lib.hid (L3.out.kp0 hk4)
  clear hv4 hk4 t0 t1 t2 PK3
  go_wp2_with fail
  obtain ⟨W5, hW5⟩ : ∃ W5, W5 = w4.alloc (.cells #[.int .i64 (ka : Nat), .int .i64 (kb : Nat), .int .i64 (kc : Nat)] 82) := ⟨_, rfl⟩
  have hk5 : Kp (fun _ => False) w4 W5 := by rw [hW5]; exact kp_alloc _ _
  have hA5 : HAt W5 w4.heap.size ⟨ka, kb, kc⟩ := by rw [hW5]; exact alloc_at w4 _
  have hW5s : W5.heap.size = w4.heap.size + 1 := by rw [hW5]; simp
  rw [← hW5]
  obtain ⟨AB, hAB⟩ : ∃ AB, AB = w4.heap.size := ⟨_, rfl⟩
  rw [← hAB] at hA5 hW5s ⊢
  have HLO : Hid (W.heap.size ≤ g1 ∧ g1 < AB ∧ W5.heap.size = AB + 1) := Lib.hid (by have := HG1.out; have := J4.out.size; omega)
  have HA5 := Lib.hid hA5
  have K5 := Lib.hid (K4.out.trans hk5)
  have J5 := Lib.hid (J4.out.trans hk5)
  have P5 := Lib.hid (P4.out.kp0 hk5)
  have RW5 := Lib.hid (RW.out W5 a3 c3 (L4.out.kp0 hk5).sl.1)
  clear hW5 hk5 hA5 hAB hW5s RW P4 L4 L3
  refine RW5.out.mono ?_
  rintro e w6 ⟨a6, c6, rfl, p6, k6⟩
  rw [← HnL.out] at p6 ⊢
  have R6 := Lib.hid p6
  have K6 := Lib.hid k6
  have P6 := Lib.hid ((P5.out.kp0 k6).sl.1)
  rw [← HnP.out] at P6
  have hbd := HBD.out
  obtain ⟨nB, hnB⟩ : ∃ nB, nB = nL + nP := ⟨_, rfl⟩
  have HNB : Hid ((RL ++ PB).length = nB ∧ RL.length + nP = nB ∧ nB ≤ 50000) := Lib.hid ⟨by rw [List.length_append, ← HnL.out, ← HnP.out, hnB], by rw [← HnL.out, hnB], by omega⟩
  have HBB : Hid (r = if 2 + nB < n then (two n ++ [2] ++ two nB ++ (RL ++ PB), ⟨ka, kb, kc⟩) else (two n ++ [0] ++ d, ⟨ha, hb, hc⟩)) := Lib.hid (by
    rw [HB.out, HNB.out.1])
  have hB50 := HNB.out.2.2
  have hn500 := HBD.out.1
  clear p6 k6 P5 RW5 hbd hnB HB
  by_cases hcmp : 2 + nB < n
  · have hrr := HBB.out
    rw [if_pos hcmp] at hrr
    have HRR := Lib.hid hrr
    have hc1 : decide (2 + nB < n) = true := decide_eq_true hcmp
    have hc2 : decide ((2 : Int) + (nB : Int) < (n : Int)) = true := decide_eq_true (by omega)
    clear hcmp hrr HBB
    go_wp2_with (at_builtin; refine wpList_appM (w0 := W5) _ rfl _ _ 23 rfl 5 j0 _ 1 Tryz.underlying23 hj0 hy0 hy1 hy2 rfl (by decide) (by decide) u8c_1 (.slice a6 nL c6) RL rfl R6.out (.slice a4 nP c4) nP PB rfl P6.out HnP.out.symm K6.out nB HNB.out.2.1 (by have := HNB.out.2.2; omega) ?_; intro a7 c7 w7 g1' g2 g3; have B7 := Lib.hid g1'; have K7 := Lib.hid g2; clear g1' g2 g3)
    have BR := Lib.hid ((T1.out.kp0 J5.out).kp0 K7.out)
    have HP : Hid (∀ X, Kp (· = g1) w7 X → SlR X 1 (.slice a7 nB c7) nB ((RL ++ PB).map u8c)) := Lib.hid (fun X hX => by
      have := ((B7.out.kp hX (fun k q => by have := HLO.out; omega))).sl.1
      rw [HNB.out.1] at this
      exact this)
    have HS : Hid (∀ X, Kp (· = g1) w7 X → HAt X AB ⟨ka, kb, kc⟩ ∧ HAt X (G + 1) ⟨0, 0, 0⟩) := Lib.hid (fun X hX => ⟨(HA5.out.kp K7.out (fun q => q)).kp hX (by have := HLO.out; omega), (HG.out w7 (K5.out.trans K7.out)).2.kp hX (by have := HLO.out; have := HGW.out; omega)⟩)
    have KW7 := Lib.hid ((HKW.out.trans K5.out).trans K7.out)
    obtain ⟨t0, t1, t2⟩ := (HS.out w7 (Kp.refl _ _)).1.cells
    have hne : AB ≠ G + 1 := by have := HLO.out; have := HGW.out; omega
    have hne2 : G + 1 ≠ AB := fun q => hne q.symm
    have KE : Hid (Kp (· = g1) w7 w7) := Lib.hid (Kp.refl _ _)
    have KL : Hid (Kp (· = g1) w7 (w7.alloc (.cells #[.int .u8 2] 5))) := Lib.hid ((Kp.refl _ _).alloc _)
    have L0 : Hid (SlR (w7.alloc (.cells #[.int .u8 2] 5)) 1 (.slice (some ⟨w7.heap.size, 0, none⟩) 1 1) 1 (([2] : List UInt8).map u8c)) := Lib.hid (lit_one w7 5 (.int .u8 2) 0 (by omega) 2 rfl).sl.1
    have LIT : Hid (∀ V : World, SlR (V.alloc (.cells #[.int .u8 2] 5)) 1 (.slice (some ⟨V.heap.size, 0, none⟩) 1 1) 1 (([2] : List UInt8).map u8c)) := Lib.hid (fun V => (lit_one V 5 (.int .u8 2) 0 (by omega) 2 rfl).sl.1)
    have BL := Lib.hid (BR.out.kp0 (kp_alloc w7 (.cells #[.int .u8 2] 5)))
    have HSZ : Hid (∀ X, Kp (· = g1) w7 X → W.heap.size ≤ X.heap.size ∧ g1 < X.heap.size ∧ w7.heap.size ≤ X.heap.size) := Lib.hid (fun X hX => by have := hX.size; have := HLO.out; have := K7.out.size; omega)
    clear K1 K2 K3 K4 J2 J3 J4 P6 R6
    go_wp2_with fail
    go_region_held3 (fun V => V.cell? ⟨AB, 0, none⟩ = some (.int .i64 (ka : Nat)) ∧ V.cell? ⟨AB, 1, none⟩ = some (.int .i64 (kb : Nat)) ∧ V.cell? ⟨AB, 2, none⟩ = some (.int .i64 (kc : Nat))) (go_keep) ((first
      | (go_simp; go_at_call 116; refine (sized_p nB _).mono ?_; rintro e V ⟨g10, rfl, hg10, t10, k10⟩; have kd := (Kp.refl (fun _ => False) _).trans k10; have KV : Hid (Kp (· = g1) w7 V) := Lib.hid (Kp.trans2 (by first | exact K59.out | exact K59.out.drew | exact KE.out.drew | exact KL.out.drew) k10 (fun _ _ q => q.elim)); have T10 := Lib.hid t10.sl.1; have G10 : Hid (g1 < g10) := Lib.hid (by first | (have := (HSZ.out _ (by first | exact K59.out | exact K59.out.drew)).2.1; omega) | (have := (HSZ.out _ (by first | exact KE.out.drew | exact KL.out.drew)).2.1; omega)); (try have BV := Lib.hid (BR.out.kp0 ((Kp.refl (fun _ => False) w7).drew.trans k10))); (try have BV := Lib.hid (BL.out.kp0 ((Kp.refl (fun _ => False) (w7.alloc (.cells #[.int .u8 2] 5))).drew.trans k10))); (try have LV := Lib.hid (L0.out.kp ((Kp.refl (fun _ => False) (w7.alloc (.cells #[.int .u8 2] 5))).drew.trans k10) (fun _ _ q => q))); (try have R59V := Lib.hid (R59.out.kp0 k10)); obtain ⟨hsa, _⟩ := HS.out V KV.out; obtain ⟨s0, s1, s2⟩ := hsa.cells; clear hg10 t10 k10 kd hsa)
      | (refine step_grow (B := W.heap.size) _ (by rfl) (.tmp 57) (.tmp 58) 23 (by rfl) j0 _ 1 Tryz.underlying23 hj0 hy0 hy1 hy2 (by decide) (by decide) u8c_1 (.slice (some ⟨g1, 0, none⟩) 2 2) (two n) (by rfl) (by first | exact BV.out | exact BV.out.kp0 (kp_alloc _ _) | exact BL.out) (by first | exact (HSZ.out _ KV.out).1 | exact (HSZ.out _ (KV.out.alloc _)).1 | exact (HSZ.out _ KL.out.drew).1) _ 1 [2] (by rfl) (by first | exact LV.out | exact LIT.out _) rfl 3 rfl (by omega) ?_; intro a9 c9 w9 g9; have K59 : Hid (Kp (· = g1) w7 w9) := Lib.hid (Kp.trans2 (by first | exact KV.out | exact KV.out.alloc _ | exact KL.out.drew) g9.2.2 (fun i hi q => own_b q)); have R59 := Lib.hid g9.1; have O59 : Hid (∀ k, (Value.slice a9 3 c9).ownBlock = some k → k = g1 ∨ w7.heap.size ≤ k) := Lib.hid (fun k hk => by rcases g9.2.1 k hk with q | q; exact .inl (own_b q); right; rw [q]; first | exact (HSZ.out _ KV.out).2.2 | exact (HSZ.out _ (KV.out.alloc _)).2.2 | exact (HSZ.out _ KL.out.drew).2.2); (try have T59 := Lib.hid (T10.out.kp g9.2.2 (fun b hb q => by have := own_b hb; have := own_b q; have := G10.out; omega))); (try have T59 := Lib.hid ((T10.out.kp (kp_alloc _ _) (fun _ _ q => q)).kp g9.2.2 (fun b hb q => by have := own_b hb; have := own_b q; have := G10.out; omega))); obtain ⟨hsa, _⟩ := HS.out w9 K59.out; obtain ⟨s0, s1, s2⟩ := hsa.cells; clear g9 hsa)
      | (refine step_grow (B := W.heap.size) _ (by rfl) (.tmp 59) (.tmp 62) 23 (by rfl) j0 _ 1 Tryz.underlying23 hj0 hy0 hy1 hy2 (by decide) (by decide) u8c_1 (.slice a9 3 c9) (two n ++ [2]) (by rfl) (by first | exact R59V.out | exact R59.out) (by first | exact (HSZ.out _ KV.out).1 | exact (HSZ.out _ K59.out).1) (.slice (some ⟨g10, 0, none⟩) 2 2) 2 (two nB) (by rfl) (by first | exact T59.out | exact T10.out) rfl 5 rfl (by omega) ?_; intro a11 c11 w11 g9; have K63 : Hid (Kp (· = g1) w7 w11) := Lib.hid (Kp.trans2 (by first | exact KV.out | exact K59.out) g9.2.2 (fun i hi q => by rcases O59.out i q with q | q; exact q; omega)); have R63 := Lib.hid g9.1; have O63 : Hid (∀ k, (Value.slice a11 5 c11).ownBlock = some k → k = g1 ∨ w7.heap.size ≤ k) := Lib.hid (fun k hk => by rcases g9.2.1 k hk with q | q; exact O59.out k q; right; rw [q]; first | exact (HSZ.out _ KV.out).2.2 | exact (HSZ.out _ K59.out).2.2); obtain ⟨hsa, _⟩ := HS.out w11 K63.out; obtain ⟨s0, s1, s2⟩ := hsa.cells; clear g9 hsa)
      | (refine step_grow (B := W.heap.size) _ (by rfl) (.tmp 63) (.tmp 64) 23 (by rfl) j0 _ 1 Tryz.underlying23 hj0 hy0 hy1 hy2 (by decide) (by decide) u8c_1 (.slice a11 5 c11) (two n ++ [2] ++ two nB) (by rfl) (by exact R63.out) (by exact (HSZ.out _ K63.out).1) (.slice a7 nB c7) nB (RL ++ PB) (by rfl) (by exact HP.out _ K63.out) HNB.out.1 (5 + nB) rfl (by omega) ?_; intro a12 c12 w12 g9; have KZ : Hid (Kp (· = g1) w7 w12) := Lib.hid (Kp.trans2 K63.out g9.2.2 (fun i hi q => by rcases O63.out i q with q | q; exact q; omega)); have RZ := Lib.hid g9.1; obtain ⟨hsa, hrb⟩ := HS.out w12 KZ.out; obtain ⟨s0, s1, s2⟩ := hsa.cells; obtain ⟨r0, r1, r2⟩ := hrb.cells; have f0 : w12.frozen? ⟨G + 1, 0, none⟩ = false := free_of hrb 0; have f1 : w12.frozen? ⟨G + 1, 1, none⟩ = false := free_of hrb 1; have f2 : w12.frozen? ⟨G + 1, 2, none⟩ = false := free_of hrb 2; have HRZ := Lib.hid hrb; clear g9 hsa hrb)))
    all_goals (go_wp2_with fail)
    all_goals
      obtain ⟨hst, hkst⟩ := HRZ.out.store ka kb kc
      obtain ⟨y0, y1, y2⟩ := hst.cells
      have hgw := HGW.out
      have hge := HGE.out
      have hlo := HLO.out
      have hk9 : Kp (fun _ => False) w _ := (KW7.out.trans2 KZ.out (fun i hi q => by omega)).trans2 hkst (fun i hi q => by omega)
      have hr9 := RowM.kp RZ.out hkst.drew (fun j q => by rw [q]; omega)
      have hl9 := (show (two n ++ [2] ++ two nB ++ (RL ++ PB)).length = 5 + nB by rw [List.length_append (bs := RL ++ PB), HNB.out.1]; rfl)
      refine bodyPost_ret (v := .tuple #[.slice a12 (5 + nB) c12, hv3 ⟨ka, kb, kc⟩]) ?_ rfl ⟨a12, c12, by rw [HRR.out]; simp only [hl9], by rw [HRR.out]; simp only [hl9]; exact hr9.low (by omega), (by first | exact hk9 | exact hk9.drew)⟩
      simp [results, Tryz.results102, go_sem, y0, y1, y2, hv3]
  · have hrr := HBB.out
    rw [if_neg hcmp] at hrr
    have HRR := Lib.hid hrr
    have hc1 : decide (2 + nB < n) = false := decide_eq_false hcmp
    have hc2 : decide ((2 : Int) + (nB : Int) < (n : Int)) = false := decide_eq_false (by omega)
    clear hcmp hrr HBB
    go_wp2_with (at_builtin; refine wpList_appM (w0 := W5) _ rfl _ _ 23 rfl 5 j0 _ 1 Tryz.underlying23 hj0 hy0 hy1 hy2 rfl (by decide) (by decide) u8c_1 (.slice a6 nL c6) RL rfl R6.out (.slice a4 nP c4) nP PB rfl P6.out HnP.out.symm K6.out nB HNB.out.2.1 (by have := HNB.out.2.2; omega) ?_; intro a7 c7 w7 g1' g2 g3; have K7 := Lib.hid g2; clear g1' g2 g3)
    have BR := Lib.hid ((T1.out.kp0 J5.out).kp0 K7.out)
    have KW7 := Lib.hid ((HKW.out.trans K5.out).trans K7.out)
    have HDX : Hid (∀ X, Kp (· = g1) w7 X → SlR X 1 (.slice ad n cd) n (d.map u8c)) := Lib.hid (fun X hX => by
      have hd0 := HD.out
      have hge := HGE.out
      have hgw := HGW.out
      have hlo := HLO.out
      exact SlR.old hd0 ((KW7.out.trans2 hX (fun i hi q => by omega))))
    have HS : Hid (∀ X, Kp (· = g1) w7 X → HAt X G ⟨ha, hb, hc⟩ ∧ HAt X (G + 1) ⟨0, 0, 0⟩) := Lib.hid (fun X hX => ⟨(HG.out w7 (K5.out.trans K7.out)).1.kp hX (by have := HLO.out; have := HGW.out; omega), (HG.out w7 (K5.out.trans K7.out)).2.kp hX (by have := HLO.out; have := HGW.out; omega)⟩)
    obtain ⟨t0, t1, t2⟩ := (HS.out w7 (Kp.refl _ _)).1.cells
    have KL : Hid (Kp (· = g1) w7 (w7.alloc (.cells #[.int .u8 0] 5))) := Lib.hid ((Kp.refl _ _).alloc _)
    have LIT : Hid (∀ V : World, SlR (V.alloc (.cells #[.int .u8 0] 5)) 1 (.slice (some ⟨V.heap.size, 0, none⟩) 1 1) 1 (([0] : List UInt8).map u8c)) := Lib.hid (fun V => (lit_one V 5 (.int .u8 0) 0 (by omega) 0 rfl).sl.1)
    have BL := Lib.hid (BR.out.kp0 (kp_alloc w7 (.cells #[.int .u8 0] 5)))
    have HSZ : Hid (∀ X, Kp (· = g1) w7 X → W.heap.size ≤ X.heap.size ∧ g1 < X.heap.size ∧ w7.heap.size ≤ X.heap.size) := Lib.hid (fun X hX => by have := hX.size; have := HLO.out; have := K7.out.size; omega)
    clear K1 K2 K3 K4 J2 J3 J4 P6 R6
    go_wp2_with fail
    go_region_held3 (fun V => V.cell? ⟨G, 0, none⟩ = some (.int .i64 (ha : Nat)) ∧ V.cell? ⟨G, 1, none⟩ = some (.int .i64 (hb : Nat)) ∧ V.cell? ⟨G, 2, none⟩ = some (.int .i64 (hc : Nat))) (go_keep) ((first
      | (refine step_grow (B := W.heap.size) _ (by rfl) (.tmp 67) (.tmp 68) 23 (by rfl) j0 _ 1 Tryz.underlying23 hj0 hy0 hy1 hy2 (by decide) (by decide) u8c_1 (.slice (some ⟨g1, 0, none⟩) 2 2) (two n) (by rfl) (by exact BL.out) (by exact (HSZ.out _ KL.out.drew).1) _ 1 [0] (by rfl) (by exact LIT.out _) rfl 3 rfl (by omega) ?_; intro a9 c9 w9 g9; have K59 : Hid (Kp (· = g1) w7 w9) := Lib.hid (Kp.trans2 (by exact KL.out.drew) g9.2.2 (fun i hi q => own_b q)); have R59 := Lib.hid g9.1; have O59 : Hid (∀ k, (Value.slice a9 3 c9).ownBlock = some k → k = g1 ∨ w7.heap.size ≤ k) := Lib.hid (fun k hk => by rcases g9.2.1 k hk with q | q; exact .inl (own_b q); right; rw [q]; exact (HSZ.out _ KL.out.drew).2.2); obtain ⟨hsa, _⟩ := HS.out w9 K59.out; obtain ⟨s0, s1, s2⟩ := hsa.cells; clear g9 hsa)
      | (refine step_grow (B := W.heap.size) _ (by rfl) (.tmp 69) (.tmp 70) 23 (by rfl) j0 _ 1 Tryz.underlying23 hj0 hy0 hy1 hy2 (by decide) (by decide) u8c_1 (.slice a9 3 c9) (two n ++ [0]) (by rfl) (by exact R59.out) (by exact (HSZ.out _ K59.out).1) (.slice ad n cd) n d (by rfl) (by exact HDX.out _ K59.out) HN.out.symm (3 + n) rfl (by omega) ?_; intro a12 c12 w12 g9; have KZ : Hid (Kp (· = g1) w7 w12) := Lib.hid (Kp.trans2 K59.out g9.2.2 (fun i hi q => by rcases O59.out i q with q | q; exact q; omega)); have RZ := Lib.hid g9.1; obtain ⟨hsa, hrb⟩ := HS.out w12 KZ.out; obtain ⟨s0, s1, s2⟩ := hsa.cells; obtain ⟨r0, r1, r2⟩ := hrb.cells; have f0 : w12.frozen? ⟨G + 1, 0, none⟩ = false := free_of hrb 0; have f1 : w12.frozen? ⟨G + 1, 1, none⟩ = false := free_of hrb 1; have f2 : w12.frozen? ⟨G + 1, 2, none⟩ = false := free_of hrb 2; have HRZ := Lib.hid hrb; clear g9 hsa hrb)))
    all_goals (go_wp2_with fail)
    all_goals
      obtain ⟨hst, hkst⟩ := HRZ.out.store ha hb hc
      obtain ⟨y0, y1, y2⟩ := hst.cells
      have hgw := HGW.out
      have hge := HGE.out
      have hlo := HLO.out
      have hk9 : Kp (fun _ => False) w _ := (KW7.out.trans2 KZ.out (fun i hi q => by omega)).trans2 hkst (fun i hi q => by omega)
      have hr9 := RowM.kp RZ.out hkst.drew (fun j q => by rw [q]; omega)
      have hl9 := (show (two n ++ [0] ++ d).length = 3 + n by rw [List.length_append (bs := d), ← HN.out]; rfl)
      refine bodyPost_ret (v := .tuple #[.slice a12 (3 + n) c12, hv3 ⟨ha, hb, hc⟩]) ?_ rfl ⟨a12, c12, by rw [HRR.out]; simp only [hl9], by rw [HRR.out]; simp only [hl9]; exact hr9.low (by omega), (by first | exact hk9 | exact hk9.drew)⟩
      simp [results, Tryz.results102, go_sem, y0, y1, y2, hv3]
theorem encP_p (w : World) (p d : List UInt8) (ap : Option Addr) (cp : Nat) (hp : SlR w 1 (.slice ap p.length cp) p.length (p.map u8c)) (ad : Option Addr) (cd : Nat) (hd : SlR w 1 (.slice ad d.length cd) d.length (d.map u8c)) (hl1 : p.length ≤ 2000) (hl2 : d.length ≤ 500) (depth : Nat) (hd1 : 1 ≤ depth) (hd2 : depth ≤ 32) (h : H3) :
    Calls Tryz.prog 102 #[.slice ap p.length cp, .slice ad d.length cd, .int .i64 (depth : Nat), hv3 h] w (EncPost7 w (Bk.encB p d depth h).1 (Bk.encB p d depth h).2) := by
  cases e : Bk.same d with
  | true => exact encP_same w p d ap cp ad cd hd hl2 depth h e
  | false => exact encP_not w p d ap cp hp ad cd hd hl1 hl2 depth hd1 hd2 h e
end Go.Proofs.YtmioiaeiflbmhaaGreat.Ma
namespace Go.Proofs.YtmioiaeiflbmhaaGreat.Str
open Go Go.Mt Go.Proofs.YtmioiaeiflbmhaaGreat.Sq Go.Proofs.YtmioiaeiflbmhaaGreat.Bk
structure Str where
  id : Nat
  d : Nat
  seen : List UInt8
  all : List UInt8
  kept : List UInt8
  h : H3
  begun : Bool
  ended : Bool
def lowB (n : Nat) : List UInt8 := (List.range 4).map fun i => UInt8.ofNat (n / 2 ^ (8 * i))
theorem lowB_len (n : Nat) : (lowB n).length = 4 := by simp [lowB]
def headB (id : Nat) : List UInt8 := [77, 78, 71, 76] ++ lowB id
theorem headB_len (id : Nat) : (headB id).length = 8 := by simp [headB, lowB_len]
def win (p d : List UInt8) : List UInt8 := (p ++ d).drop ((p ++ d).length - 2000)
theorem win_len (p d : List UInt8) : (win p d).length ≤ 2000 := by simp [win]; omega
noncomputable def enc (S : Str) (n : Nat) : List UInt8 × H3 := encB (win [] S.seen) (S.kept.take n) S.d S.h
noncomputable def blkO (S : Str) (n : Nat) (last : UInt8) : List UInt8 := (if S.begun = true then [] else headB S.id) ++ [last] ++ (enc S n).1
noncomputable def blkS (S : Str) (n : Nat) : Str := { S with seen := win S.seen (S.kept.take n), kept := S.kept.drop n, h := (enc S n).2, begun := true }
noncomputable def runO : Nat → Str → List UInt8
  | 0, _ => []
  | f + 1, S => if 500 ≤ S.kept.length then blkO S 500 0 ++ runO f (blkS S 500) else []
noncomputable def runS : Nat → Str → Str
  | 0, S => S
  | f + 1, S => if 500 ≤ S.kept.length then runS f (blkS S 500) else S
def take (S : Str) (p : List UInt8) : Str := { S with all := S.all ++ p, kept := S.kept ++ p }
noncomputable def wrO (S : Str) (p : List UInt8) : List UInt8 := runO (S.kept.length + p.length) (take S p)
noncomputable def wrS (S : Str) (p : List UInt8) : Str := runS (S.kept.length + p.length) (take S p)
structure Str.Wf (S : Str) (n : Nat) : Prop where
  d1 : 1 ≤ S.d
  d2 : S.d ≤ 32
  id : S.id ≤ 2147483647
  seen : S.seen.length ≤ 2000
  all : S.all.length ≤ n
  kept : S.kept.length ≤ n
theorem blk_kept (S : Str) (k : Nat) : (blkS S k).kept.length = S.kept.length - k := by
  unfold blkS
  simp only [List.length_drop]
theorem blk_d (S : Str) (k : Nat) : (blkS S k).d = S.d := by simp only [blkS]
theorem blk_id (S : Str) (k : Nat) : (blkS S k).id = S.id := by simp only [blkS]
theorem blk_all (S : Str) (k : Nat) : (blkS S k).all = S.all := by simp only [blkS]
theorem blk_seen (S : Str) (k : Nat) : (blkS S k).seen = win S.seen (S.kept.take k) := by simp only [blkS]
theorem blk_wf {S : Str} {n k : Nat} (h : S.Wf n) : (blkS S k).Wf n := by
  constructor
  · rw [blk_d]; exact h.d1
  · rw [blk_d]; exact h.d2
  · rw [blk_id]; exact h.id
  · rw [blk_seen]; exact win_len _ _
  · rw [blk_all]; exact h.all
  · have := h.kept; rw [blk_kept]; omega
theorem Str.Wf.mono {S : Str} {n m : Nat} (h : S.Wf n) (hm : n ≤ m) : S.Wf m := ⟨h.d1, h.d2, h.id, h.seen, Nat.le_trans h.all hm, Nat.le_trans h.kept hm⟩
theorem take_wf {S : Str} {n : Nat} {p : List UInt8} (h : S.Wf n) : (take S p).Wf (n + p.length) :=
  ⟨h.d1, h.d2, h.id, h.seen, by simp [take]; exact h.all, by simp [take]; exact h.kept⟩
theorem run_stop {f : Nat} {S : Str} (h : ¬ 500 ≤ S.kept.length) : runO f S = [] ∧ runS f S = S := by
  cases f with
  | zero => exact ⟨rfl, rfl⟩
  | succ f => simp only [runO, runS, if_neg h]; exact ⟨trivial, trivial⟩
theorem runS_wf : ∀ f {S : Str} {n : Nat}, S.Wf n → (runS f S).Wf n
  | 0, _, _, h => h
  | f + 1, S, n, h => by
    simp only [runS]
    split
    · exact runS_wf f (blk_wf h)
    · exact h
theorem runS_kept : ∀ f {S : Str}, S.kept.length ≤ f → (runS f S).kept.length < 500
  | 0, S, h => by simp only [runS]; omega
  | f + 1, S, h => by
    simp only [runS]
    split
    · exact runS_kept f (by rw [blk_kept]; omega)
    · omega
end Go.Proofs.YtmioiaeiflbmhaaGreat.Str
namespace Go.Proofs.YtmioiaeiflbmhaaGreat.Str
open Go Go.RowKit Go.ChangeMaps Go.MapKept Go.Mg Go.Mt Go.Proofs.YtmioiaeiflbmhaaGreat.Hu Go.Proofs.YtmioiaeiflbmhaaGreat.Sq Go.Proofs.YtmioiaeiflbmhaaGreat.Bk Go.Proofs.YtmioiaeiflbmhaaGreat.Ma
def Buf (w : World) (v : Value) (g : Nat) : Prop := ∃ n c xs, v = .slice (some ⟨g, 0, none⟩) n c ∧ OwnR w 5 1 (.slice (some ⟨g, 0, none⟩) n c) n xs
theorem Buf.kp {w w' : World} {v : Value} {g : Nat} {F : Nat → Prop} (h : Buf w v g) (hk : Kp F w w') (hF : ¬ F g) : Buf w' v g := by
  obtain ⟨n, c, xs, rfl, h1⟩ := h
  exact ⟨n, c, xs, rfl, h1.kp hk (fun b hb q => by rw [own_b hb] at q; exact hF q)⟩
structure StAt (F : Nat → Prop) (w : World) (s : Nat) (S : Str) : Prop where
  at_ : ∃ (sa aa ka : Option Addr) (sc ac kc ch : Nat),
    w.heap[s]? = some (.cells #[.int .i64 (S.id : Nat), .int .i64 (S.d : Nat), .slice sa S.seen.length sc, .slice aa S.all.length ac, .slice ka S.kept.length kc, .int .i64 (S.h.a : Nat), .int .i64 (S.h.b : Nat), .int .i64 (S.h.c : Nat), .bool S.begun, .bool S.ended, .chan (some ch)] 134 (0, 0)) ∧
    SlR w 1 (.slice sa S.seen.length sc) S.seen.length (S.seen.map u8c) ∧ (∀ b, (Value.slice sa S.seen.length sc).ownBlock = some b → ¬ F b ∧ b < w.heap.size) ∧
    SlR w 1 (.slice ka S.kept.length kc) S.kept.length (S.kept.map u8c) ∧ (∀ b, (Value.slice ka S.kept.length kc).ownBlock = some b → ¬ F b ∧ b < w.heap.size) ∧
    OwnR w 5 1 (.slice aa S.all.length ac) S.all.length (S.all.map u8c) ∧ (∀ b, (Value.slice aa S.all.length ac).ownBlock = some b → F b) ∧
    (∃ (buf : Array Value) (m r : Nat), w.heap[ch]? = some (.chan 1 buf false m r false) ∧ (buf = #[] ∨ ∃ g n c xs, buf = #[.slice (some ⟨g, 0, none⟩) n c] ∧ OwnR w 5 1 (.slice (some ⟨g, 0, none⟩) n c) n xs ∧ F g ∧ ¬ (Value.slice aa S.all.length ac).ownBlock = some g)) ∧ F ch
  fs : F s
  fl : ∀ k, F k → k < w.heap.size
theorem StAt.lt {F : Nat → Prop} {w : World} {s : Nat} {S : Str} (h : StAt F w s S) : s < w.heap.size := by
  obtain ⟨_, _, _, _, _, _, _, h1, _⟩ := h.at_
  exact lt_of_at h1
theorem StAt.kp {F G : Nat → Prop} {w w' : World} {s : Nat} {S : Str} (h : StAt F w s S) (hk : Kp G w w') (hF : ∀ k, F k → ¬ G k) (hn : ∀ k, k < w.heap.size → ¬ F k → ¬ G k) : StAt F w' s S := by
  obtain ⟨sa, aa, ka, sc, ac, kc, ch, h1, h2, h3, h4, h5, h6, h7, ⟨buf, m, r, h8, h9⟩, h10⟩ := h.at_
  have hsl : ∀ {v : Value} {n : Nat} {xs : List Value}, SlR w 1 v n xs → (∀ b, v.ownBlock = some b → ¬ F b ∧ b < w.heap.size) → SlR w' 1 v n xs := fun hx hy => hx.kept hk.size (fun b hb hl => hk.block b hl (hn b hl (hy b hb).1))
  have hup : ∀ {v : Value}, (∀ b, v.ownBlock = some b → ¬ F b ∧ b < w.heap.size) → ∀ b, v.ownBlock = some b → ¬ F b ∧ b < w'.heap.size := fun hy b hb => ⟨(hy b hb).1, by have := (hy b hb).2; have := hk.size; omega⟩
  refine ⟨⟨sa, aa, ka, sc, ac, kc, ch, hk.at_ h1 (hF _ h.fs), hsl h2 h3, hup h3, hsl h4 h5, hup h5, h6.kp hk (fun b hb q => hF b (h7 b hb) q), h7, ⟨buf, m, r, hk.at_ h8 (hF _ h10), ?_⟩, h10⟩, h.fs, fun k q => by have := h.fl k q; have := hk.size; omega⟩
  rcases h9 with h9 | ⟨g, n, c, xs, e1, e2, e3, e4⟩
  · exact .inl h9
  · exact .inr ⟨g, n, c, xs, e1, e2.kp hk (fun b hb q => hF g e3 (by rw [← own_b hb]; exact q)), e3, e4⟩
theorem StAt.kp0 {F : Nat → Prop} {w w' : World} {s : Nat} {S : Str} (h : StAt F w s S) (hk : Kp (fun _ => False) w w') : StAt F w' s S := h.kp hk (fun _ _ q => q) (fun _ _ _ q => q)
def StPost (F : Nat → Prop) (w : World) (s : Nat) (S : Str) (w' : World) : Prop := ∃ F', StAt F' w' s S ∧ Kp F w w' ∧ ∀ k, F' k → F k ∨ w.heap.size ≤ k
theorem StPost.trans {F F' : Nat → Prop} {w w' w2 : World} {s : Nat} {S : Str} (hk : Kp F w w') (hF : ∀ k, F' k → F k ∨ w.heap.size ≤ k) (h : StPost F' w' s S w2) : StPost F w s S w2 := by
  obtain ⟨F2, h1, h2, h3⟩ := h
  refine ⟨F2, h1, hk.trans2 h2 (fun i hi q => by rcases hF i q with q | q; exact q; omega), fun k q => ?_⟩
  rcases h3 k q with q | q
  · exact hF k q
  · have := hk.size; right; omega
end Go.Proofs.YtmioiaeiflbmhaaGreat.Str
namespace Go.Proofs.YtmioiaeiflbmhaaGreat.Str
open Go Go.RowKit Go.ChangeMaps Go.MapKept Go.Mg Go.Mt Go.Proofs.YtmioiaeiflbmhaaGreat.Ma
def rl (x : Int) (k : Nat) : Int := bits .or .u64 (IntKind.u64.wrap (x * 2 ^ k)) (x / 2 ^ (64 - k))
def Turn (k : Nat) : Prop := k = 1 ∨ k = 7 ∨ k = 11 ∨ k = 12 ∨ k = 18 ∨ k = 23 ∨ k = 27 ∨ k = 31
set_option maxRecDepth 100000 in
theorem rot_p (w : World) (x : Int) (k : Nat) (hk : Turn k) :
    Calls Tryz.prog 123 #[.int .u64 x, .int .i64 (k : Nat)] w fun e w' => e = .returned (.int .u64 (rl x k)) ∧ w' = w := by
  have b1 : bits .and .u64 1 63 = 1 := by decide
  have b7 : bits .and .u64 7 63 = 7 := by decide
  have b11 : bits .and .u64 11 63 = 11 := by decide
  have b12 : bits .and .u64 12 63 = 12 := by decide
  have b18 : bits .and .u64 18 63 = 18 := by decide
  have b23 : bits .and .u64 23 63 = 23 := by decide
  have b27 : bits .and .u64 27 63 = 27 := by decide
  have b31 : bits .and .u64 31 63 = 31 := by decide
  rcases hk with rfl | rfl | rfl | rfl | rfl | rfl | rfl | rfl
  all_goals (
    go_enter Tryz.func123, Tryz.ntmps123
    go_wp2_with fail
    go_ret
    refine ⟨?_, rfl⟩
    rfl)
def stirI (x v : Int) : Int := IntKind.u64.wrap (rl (IntKind.u64.wrap (x + IntKind.u64.wrap (v * 14029467366897019727))) 31 * 11400714785074694791)
set_option maxRecDepth 100000 in
theorem stir_p (w : World) (x v : Int) :
    Calls Tryz.prog 124 #[.int .u64 x, .int .u64 v] w fun e w' => e = .returned (.int .u64 (stirI x v)) ∧ w' = w := by
  have R := Lib.hid (fun y => rot_p w y 31 (by unfold Turn; omega))
  go_enter Tryz.func124, Tryz.ntmps124
  go_wp2_with fail
  refine (R.out _).mono ?_
  rintro e w1 ⟨rfl, rfl⟩
  go_wp2_with fail
  go_ret
  exact ⟨rfl, rfl⟩
def numN (l : List UInt8) : Nat → Nat
  | 0 => 0
  | k + 1 => numN l k + byt l k * 256 ^ k
theorem byt_lt (l : List UInt8) (k : Nat) : byt l k < 256 := (l[k]?.getD 0).toNat_lt
theorem numN_lt (l : List UInt8) : ∀ k, numN l k < 256 ^ k
  | 0 => by simp [numN]
  | k + 1 => by
    have := numN_lt l k
    have h := byt_lt l k
    simp only [numN, Nat.pow_succ]
    have : byt l k * 256 ^ k ≤ 255 * 256 ^ k := Nat.mul_le_mul_right _ (by omega)
    omega
theorem numN_take (l : List UInt8) (n : Nat) : ∀ k, k ≤ n → numN (l.take n) k = numN l k
  | 0, _ => rfl
  | k + 1, h => by
    simp only [numN, numN_take l n k (by omega)]
    congr 2
    simp [byt, show k < n by omega]
theorem wraps_u64 (n : Int) (h₀ : 0 ≤ n) (h₁ : n < 2 ^ 64) : IntKind.u64.wrap n = n := by
  have : IntKind.u64.wrap n = n % 18446744073709551616 := by simp [IntKind.wrap, IntKind.bits, IntKind.signed]
  rw [this]; omega
theorem or_num (l : List UInt8) (k : Nat) (hk : k < 8) : bits .or .u64 (numN l k : Nat) (IntKind.u64.wrap (((byt l k : Nat) : Int) * 2 ^ (8 * k))) = (numN l (k + 1) : Nat) := by
  have h1 := numN_lt l k
  have h2 := byt_lt l k
  have h3 := numN_lt l (k + 1)
  have e : (256 : Nat) ^ k = 2 ^ (8 * k) := by rw [Nat.pow_mul]
  have hp : (256 : Nat) ^ (k + 1) ≤ 2 ^ 64 := by
    have : (256 : Nat) ^ (k + 1) ≤ 256 ^ 8 := Nat.pow_le_pow_right (by omega) (by omega)
    omega
  have hs : numN l (k + 1) = numN l k + byt l k * 256 ^ k := rfl
  have hb : byt l k * 2 ^ (8 * k) < 2 ^ 64 := by rw [← e]; omega
  have ew : IntKind.u64.wrap (((byt l k : Nat) : Int) * 2 ^ (8 * k)) = ((byt l k * 2 ^ (8 * k) : Nat) : Int) := by
    have ec : (((byt l k : Nat) : Int) * 2 ^ (8 * k)) = ((byt l k * 2 ^ (8 * k) : Nat) : Int) := by push_cast; rfl
    rw [ec]
    exact wraps_u64 _ (by omega) (by exact_mod_cast hb)
  rw [ew]
  have := (bits_nat .u64 64 (by decide) wraps_u64 (numN l k) (byt l k * 2 ^ (8 * k)) (by omega) hb).2
  rw [this, hs, Nat.or_comm, Nat.mul_comm, ← Nat.two_pow_add_eq_or_of_lt (i := 8 * k) (by rw [← e]; exact h1) (byt l k), e]
  congr 1
  rw [Nat.mul_comm (byt l k)]
  omega
set_option maxRecDepth 100000 in
set_option maxHeartbeats 1000000 in
theorem number_p (w : World) (l : List UInt8) (a : Option Addr) (c : Nat) (h : SlR w 1 (.slice a l.length c) l.length (l.map u8c)) (h0 : 0 < l.length) (hl : l.length ≤ 8) :
    Calls Tryz.prog 125 #[.slice a l.length c] w fun e w' => e = .returned (.int .u64 (numN l l.length : Nat)) ∧ w' = w := by
  obtain ⟨g, o, rfl, hg, hcap, hc⟩ := byts_at h h0
  have HC := Lib.hid hc
  have HO := Lib.hid (fun k hk => or_num l k hk)
  have HL := Lib.hid (byt_lt l)
  obtain ⟨N, hN⟩ : ∃ N, N = numN l := ⟨_, rfl⟩
  have HZ : Hid (N 0 = 0) := Lib.hid (by rw [hN]; rfl)
  obtain ⟨A, hA⟩ : ∃ A, A = byt l := ⟨_, rfl⟩
  obtain ⟨m, hm⟩ : ∃ m, m = l.length := ⟨_, rfl⟩
  rw [← hA, ← hm] at HC
  rw [← hA, ← hN] at HO
  rw [← hA] at HL
  rw [← hN, ← hm]
  rw [← hm] at hl hcap h0
  clear h hc hN hA hm
  go_enter Tryz.func125, Tryz.ntmps125
  go_wp2_with fail
  go_loopw [3, 8] (fun n i wr => ∃ k : Nat, k ≤ m ∧ i = .int .i64 k ∧ n = .int .u64 (N k : Nat) ∧ wr = w) (fun _ i _ => m - (intOf i).toNat)
  case atStart => exact ⟨0, Nat.zero_le _, rfl, by rw [HZ.out]; rfl, rfl⟩
  case round =>
    obtain ⟨k, hk, rfl, rfl, hwr⟩ := hrel
    obtain rfl := hwr
    by_cases hlt : k < m
    · have d0 := HC.out k hlt
      have ho := Lib.hid (HO.out k (by omega))
      have hx := HL.out k
      generalize A k = x at *
      have hsh : IntKind.i64.wrap (8 * (k : Int)) = 8 * (k : Int) := by rw [IntKind.wrap_i64]; omega
      have h8 : (0 : Int) ≤ 8 * (k : Int) := by omega
      have hux : IntKind.u64.wrap (x : Int) = (x : Int) := wraps_u64 _ (by omega) (by omega)
      go_wp2_with fail
      exact ⟨⟨k + 1, by omega, by go_num, by rw [ho.out], trivial⟩, by simp [intOf]; omega⟩
    · obtain rfl : k = m := by omega
      go_wp2_with fail
      go_ret
      exact ⟨rfl, rfl⟩
/-! ### lanes -/
def mixL (h x : Int) : Int := IntKind.u64.wrap (IntKind.u64.wrap (bits .xor .u64 h (stirI 0 x) * 11400714785074694791) + 9650029242287828579)
def lanes0 : Nat → Int
  | 0 => IntKind.u64.wrap 25430182151971714518
  | 1 => 14029467366897019727
  | 2 => 0
  | _ => IntKind.u64.wrap (-11400714785074694791)
def rnd (L : Nat → Int) (r : List UInt8) : Nat → Int := fun j => stirI (L j) (numN (r.drop (8 * j)) 8)
def eat : Nat → (Nat → Int) → List UInt8 → (Nat → Int) × List UInt8
  | 0, L, r => (L, r)
  | f + 1, L, r => if 32 ≤ r.length then eat f (rnd L r) (r.drop 32) else (L, r)
theorem eat_stop {f : Nat} {L : Nat → Int} {r : List UInt8} (h : ¬ 32 ≤ r.length) : eat f L r = (L, r) := by
  cases f with
  | zero => rfl
  | succ f => simp only [eat, if_neg h]
theorem eat_go {f : Nat} {L : Nat → Int} {r : List UInt8} (h : 32 ≤ r.length) : eat (f + 1) L r = eat f (rnd L r) (r.drop 32) := by simp only [eat, if_pos h]
def by_ : Nat → Nat
  | 0 => 1
  | 1 => 7
  | 2 => 12
  | _ => 18
def addL (L : Nat → Int) : Nat → Int
  | 0 => 0
  | i + 1 => IntKind.u64.wrap (addL L i + rl (L i) (by_ i))
def mixAll (L : Nat → Int) (h : Int) : Nat → Int
  | 0 => h
  | i + 1 => mixL (mixAll L h i) (L i)
def LaneAt (w : World) (g : Nat) (L : Nat → Int) : Prop := w.heap[g]? = some (.cells #[.int .u64 (L 0), .int .u64 (L 1), .int .u64 (L 2), .int .u64 (L 3)] 208 (0, 0))
end Go.Proofs.YtmioiaeiflbmhaaGreat.Str
