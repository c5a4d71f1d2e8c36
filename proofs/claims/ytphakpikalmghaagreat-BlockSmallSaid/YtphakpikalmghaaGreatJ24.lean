/- seqs: the program's Pack. block: the program's coded. block: the program's Row. block: the document's Encode of data whose bytes are not all the same. -/
import Derived.Test.YtphakpikalmghaaGreatJ23
namespace Go.Proofs.YtphakpikalmghaaGreat.Ma
open Go Go.RowKit Go.Shelf Go.ChangeMaps Go.MapKept Go.Mg Go.Mt Go.Proofs.YtphakpikalmghaaGreat.Hu Go.Proofs.YtphakpikalmghaaGreat.Bw Go.Proofs.YtphakpikalmghaaGreat.He Go.Proofs.YtphakpikalmghaaGreat.Sq Go.Proofs.YtphakpikalmghaaGreat.It

theorem idxA3 (a0 a1 a2 : Option Addr) (n d0 d1 d2 : Nat) (w : World) : (Instr.index 63 (.agg #[.slice a0 n d0, .slice a1 n d1, .slice a2 n d2]) (.int .i64 0)).run Tryz.prog w = .ok (.slice a0 n d0) w ∧ (Instr.index 63 (.agg #[.slice a0 n d0, .slice a1 n d1, .slice a2 n d2]) (.int .i64 1)).run Tryz.prog w = .ok (.slice a1 n d1) w ∧ (Instr.index 63 (.agg #[.slice a0 n d0, .slice a1 n d1, .slice a2 n d2]) (.int .i64 2)).run Tryz.prog w = .ok (.slice a2 n d2) w := ⟨by kernel_rfl, by kernel_rfl, by kernel_rfl⟩
attribute [local go_sem] Oper.semAt_some
set_option maxRecDepth 100000 in
set_option maxHeartbeats 4000000 in
theorem pack_p (w : World) (l : List Sq) (al : Option Addr) (cl : Nat) (hl : SlR w 3 (.slice al l.length cl) l.length (l.flatMap sqc)) (hm : May l) (h : H3) :
    Calls Tryz.prog 20 #[.slice al l.length cl, hv3 h] w (PackPost w l h) := by
  refine (callsIn_wide (n := 9)).1 ?_
  obtain ⟨j0, hj0, hy0, hy1, hy2⟩ := info_parts infoU8
  have hlen := hm.1
  have CT := Lib.hid (fun V (hV : Kp (fun _ => False) w V) => containsSq_p V l al cl (hl.kp hV (fun _ _ q => q)) hm)
  have NP := Lib.hid (fun V (hV : Kp (fun _ => False) w V) => numbers_p V l al cl (hl.kp hV (fun _ _ q => q)) hm h)
  unfold NumPost at NP
  have HLR := Lib.hid hl
  have HMAY := Lib.hid hm
  have HF3 := Lib.hid (F3_lt hm h)
  unfold PackPost
  have HP0 : Hid (l.length = 0 → packB l h = two 0 ∧ (packB l h).length = 2 ∧ hs (ofs l) h l.length = h) := Lib.hid (fun h0 => by
    unfold packB; rw [if_pos h0, h0]; exact ⟨rfl, rfl, rfl⟩)
  have HP1 : Hid (l.length ≠ 0 → packB l h = two l.length ++ rowB (lit l) l.length ++ rowB (off l h) l.length ++ rowB (mor l) l.length ++ Sq.sized (pack (exB l h l.length))) := Lib.hid (fun h0 => by
    unfold packB; rw [if_neg h0])
  have HXL : Hid ((exB l h l.length).length ≤ 33 * l.length) := Lib.hid (exB_len hm h _)
  obtain ⟨n, hn⟩ : ∃ n, n = l.length := ⟨_, rfl⟩
  rw [← hn] at CT NP HLR hlen HP0 HP1 HXL ⊢
  have HN := Lib.hid hn
  obtain ⟨HH, hHH⟩ : ∃ HH, HH = hs (ofs l) h n := ⟨_, rfl⟩
  rw [← hHH] at NP HP0 ⊢
  have HHE := Lib.hid hHH
  obtain ⟨W, hW⟩ : ∃ W, W = (w.alloc (.cells #[.int .i64 (h.a : Nat), .int .i64 (h.b : Nat), .int .i64 (h.c : Nat)] 23)).alloc (.cells #[.int .i64 0, .int .i64 0, .int .i64 0] 23) := ⟨_, rfl⟩
  have hws : W.heap.size = w.heap.size + 2 := by rw [hW]; simp
  have hkW : Kp (fun _ => False) w W := by rw [hW]; exact (kp_alloc _ _).trans (kp_alloc _ _)
  have hG0 : HAt W w.heap.size h := by
    rw [hW]; exact (kp_alloc _ _).at_ (alloc_at w _) (fun q => q)
  have hG1 : HAt W (w.heap.size + 1) ⟨0, 0, 0⟩ := by
    rw [hW]; have := alloc_at (w.alloc (.cells #[.int .i64 (h.a : Nat), .int .i64 (h.b : Nat), .int .i64 (h.c : Nat)] 23)) (.cells #[.int .i64 0, .int .i64 0, .int .i64 0] 23)
    rw [World.size_alloc] at this
    exact this
  have HW := Lib.hid hW
  have HWS := Lib.hid hws
  have HKW := Lib.hid hkW
  have HG0 := Lib.hid hG0
  have HG1 := Lib.hid hG1
  clear hl hm hn hHH hW hws hkW hG0 hG1
  unfold hv3 at NP ⊢
  refine callsIn_of_wp_marks Tryz.func20 rfl trivial ?_ rfl
  refine wpIn_wide.2 ?_
  simp only [Tryz.ntmps20, List.size_toArray, List.length_cons, List.length_nil, Nat.reduceAdd, Nat.reduceSub, Array.replicate_succ, Array.replicate_zero, List.push_toArray, List.append_toArray, List.nil_append, List.cons_append]
  by_cases h0 : n = 0
  · subst h0
    obtain ⟨p0, p1, p2⟩ := HP0.out rfl
    rw [p1]
    have HPK := Lib.hid p0
    have HHX := Lib.hid p2
    clear p0 p1 p2
    go_wp2_with fail
    rw [← HW.out]
    refine (CT.out W HKW.out).mono ?_
    rintro e V1 ⟨rfl, hk1⟩
    have T2 := two_row V1 0
    have ka := kp_alloc V1 (.cells #[.int .u8 (((0 : Nat) : Int) % 256), .int .u8 (((0 : Nat) : Int) / 256 % 256)] 5)
    have e1 : ((0 : Nat) : Int) % 256 = 0 := rfl
    have e2 : ((0 : Nat) : Int) / 256 % 256 = 0 := rfl
    rw [e1, e2] at T2 ka
    obtain ⟨A1, hA1⟩ : ∃ A1, A1 = V1.alloc (.cells #[.int .u8 0, .int .u8 0] 5) := ⟨_, rfl⟩
    rw [← hA1] at T2 ka
    have hfold := hA1.symm
    have hat := HG0.out.kp (hk1.trans ka) (fun q => q)
    have hre := HG1.out.kp (hk1.trans ka) (fun q => q)
    obtain ⟨c0, c1, c2⟩ := hat.cells
    obtain ⟨r0, r1, r2⟩ := hre.cells
    have f0 : A1.frozen? ⟨w.heap.size + 1, 0, none⟩ = false := free_of hre 0
    have f1 : A1.frozen? ⟨w.heap.size + 1, 1, none⟩ = false := free_of hre 1
    have f2 : A1.frozen? ⟨w.heap.size + 1, 2, none⟩ = false := free_of hre 2
    have HT := Lib.hid T2
    have HRE := Lib.hid hre
    have HKA := Lib.hid (HKW.out.trans (hk1.trans ka))
    have HSZ := Lib.hid (show w.heap.size + 2 ≤ V1.heap.size by have := hk1.size; have := HWS.out; omega)
    clear hk1 ka T2 hat hre hA1 CT NP HP0 HP1
    go_wp2_with fail
    go_region
    all_goals (go_wp2_with fail)
    obtain ⟨hst, hkst⟩ := HRE.out.store h.a h.b h.c
    obtain ⟨y0, y1, y2⟩ := (hst.kp (Kp.refl (fun _ => False) _).drew (fun q => q)).cells
    have hsz := HSZ.out
    rw [HHX.out, HPK.out]
    refine ⟨.tuple #[.slice (some ⟨V1.heap.size, 0, none⟩) 2 2, .agg #[.int .i64 (h.a : Nat), .int .i64 (h.b : Nat), .int .i64 (h.c : Nat)], .bool true], ?_, some ⟨V1.heap.size, 0, none⟩, 2, rfl, (RowM.kp HT.out hkst.drew (fun j q => by rw [q]; omega)).low (by omega), (HKA.out.trans2 hkst.drew (fun i hi q => by omega))⟩
    simp [results, Tryz.results20, go_sem, y0, y1, y2]
  · have h0' : (n : Int) ≠ 0 := by omega
    have b0 : ((n : Int) == 0) = false := by rw [beq_eq_false_iff_ne]; exact h0'
    have H0 : Hid (0 < n) := Lib.hid (by omega)
    clear h0 h0'
    have HLAL := Lib.hid (lits_len l n)
    have HVAL := Lib.hid (vals_len l h n)
    have HMAL := Lib.hid (mors_len l n)
    go_wp2_with fail
    rw [← HW.out]
    refine (CT.out W HKW.out).mono ?_
    rintro e V1 ⟨rfl, hk1⟩
    have T2 := two_row V1 n
    rw [show (n : Int) / 256 % 256 = (n : Int) / 256 by omega] at T2
    have ka := kp_alloc V1 (.cells #[.int .u8 ((n : Int) % 256), .int .u8 ((n : Int) / 256)] 5)
    obtain ⟨A1, hA1⟩ : ∃ A1, A1 = V1.alloc (.cells #[.int .u8 ((n : Int) % 256), .int .u8 ((n : Int) / 256)] 5) := ⟨_, rfl⟩
    rw [← hA1] at T2 ka
    have hA1s : A1.heap.size = V1.heap.size + 1 := by rw [hA1]; simp
    have hfold := hA1.symm
    have hat1 := HG0.out.kp (hk1.trans ka) (fun q => q)
    have hre1 := HG1.out.kp (hk1.trans ka) (fun q => q)
    obtain ⟨c0, c1, c2⟩ := hat1.cells
    have NPA := Lib.hid (NP.out A1 (HKW.out.trans (hk1.trans ka)))
    have HT2 := Lib.hid T2
    have HK1 := Lib.hid (HKW.out.trans (hk1.trans ka))
    have HAT1 := Lib.hid hat1
    have HRE1 := Lib.hid hre1
    have HBB : Hid (w.heap.size + 2 ≤ V1.heap.size ∧ A1.heap.size = V1.heap.size + 1) := Lib.hid (by have := hk1.size; have := HWS.out; omega)
    clear CT NP hk1 ka T2 hat1 hre1 hA1s hA1 HG0 HG1 HKW HW
    go_wp2_with fail
    refine NPA.out.mono ?_
    rintro e w2 ⟨x, y, z, rfl, hx, hy, hz, hk2⟩
    obtain ⟨a0, d0, rfl, hx1, hx2⟩ := hx
    obtain ⟨a1, d1, rfl, hy1, hy2⟩ := hy
    obtain ⟨a2, d2, rfl, hz1, hz2⟩ := hz
    rw [HLAL.out] at hx1 hx2 ⊢
    rw [HVAL.out] at hy1 hy2 ⊢
    rw [HMAL.out] at hz1 hz2 ⊢
    have R0 : Hid (IntsR w2 a0 d0 n (lit l)) := Lib.hid (IntsR.congr (rdM ⟨a0, d0, by rw [HLAL.out], by rw [HLAL.out]; exact hx1, hx2⟩) (fun i hi => by simp [lits, hi]))
    have R1 : Hid (IntsR w2 a1 d1 n (off l h)) := Lib.hid (IntsR.congr (rdM ⟨a1, d1, by rw [HVAL.out], by rw [HVAL.out]; exact hy1, hy2⟩) (fun i hi => by simp [vals, hi]))
    have R2 : Hid (IntsR w2 a2 d2 n (mor l)) := Lib.hid (IntsR.congr (rdM ⟨a2, d2, by rw [HMAL.out], by rw [HMAL.out]; exact hz1, hz2⟩) (fun i hi => by simp [mors, hi]))
    have kb := kp_alloc w2 (.cells #[.slice a0 n d0, .slice a1 n d1, .slice a2 n d2] 63)
    have hA2 : A3 (w2.alloc (.cells #[.slice a0 n d0, .slice a1 n d1, .slice a2 n d2] 63)) w2.heap.size (.slice a0 n d0) (.slice a1 n d1) (.slice a2 n d2) := alloc_at w2 _
    obtain ⟨A2, hA2e⟩ : ∃ A2, A2 = w2.alloc (.cells #[.slice a0 n d0, .slice a1 n d1, .slice a2 n d2] 63) := ⟨_, rfl⟩
    rw [← hA2e] at kb hA2
    have hA2s : A2.heap.size = w2.heap.size + 1 := by rw [hA2e]; simp
    have hfold2 := hA2e.symm
    have hat2 := HAT1.out.kp (hk2.trans kb) (fun q => q)
    obtain ⟨s0, s1, s2⟩ := hat2.cells
    have e0 : A2.frozen? ⟨w.heap.size, 0, none⟩ = false := free_of hat2 0
    have e1 : A2.frozen? ⟨w.heap.size, 1, none⟩ = false := free_of hat2 1
    have e2 : A2.frozen? ⟨w.heap.size, 2, none⟩ = false := free_of hat2 2
    obtain ⟨hst, hks⟩ := hat2.store HH.a HH.b HH.c
    obtain ⟨w3, hw3⟩ : ∃ w3, w3 = ((A2.setCell ⟨w.heap.size, 0, none⟩ (.int .i64 (HH.a : Nat))).setCell ⟨w.heap.size, 1, none⟩ (.int .i64 (HH.b : Nat))).setCell ⟨w.heap.size, 2, none⟩ (.int .i64 (HH.c : Nat)) := ⟨_, rfl⟩
    rw [← hw3] at hst hks
    have hfold3 := hw3.symm
    have hsz2 := hk2.size
    have hA3 := hA2.kp hks (by have := HBB.out; omega)
    obtain ⟨t0, t1, t2⟩ := hA3.cells
    have K3 : Hid (Kp (· = w.heap.size) A1 w3) := Lib.hid (((hk2.trans kb).mono (fun _ _ q => q.elim)).trans hks)
    have KW : Hid (Kp (fun _ => False) w w3) := Lib.hid ((HK1.out.trans2 K3.out (fun i hi q => by omega)))
    have Q0 := Lib.hid ((R0.out.kp kb))
    have HAT3 := Lib.hid hst
    have HA3 := Lib.hid hA3
    have HRE3 := Lib.hid (HRE1.out.kp K3.out (by omega))
    have HSZ3 : Hid (A1.heap.size ≤ w2.heap.size ∧ w2.heap.size + 1 = w3.heap.size) := Lib.hid (by have := hks.size; rw [hw3]; simp; omega)
    have KR : Hid (Kp (· = w.heap.size) w2 w3) := Lib.hid ((kb.mono (fun _ _ q => q.elim)).trans hks)
    have HX2 := Lib.hid hx2
    have HY2 := Lib.hid hy2
    have HZ2 := Lib.hid hz2
    have HB3 : Hid (RowB V1.heap.size w3 (.slice (some ⟨V1.heap.size, 0, none⟩) 2 2) (two n)) := Lib.hid (HT2.out.kp K3.out (fun k q => by have := HBB.out; omega))
    clear Q0 hx1 hx2 hy1 hy2 hz1 hz2 kb hA2 hA2e hA2s hat2 hst hks hw3 hA3 NPA HT2 HAT1 HRE1 hk2 hsz2
    go_wp2_with fail
    clear hfold hfold2 hfold3 c0 c1 c2 s0 s1 s2 e0 e1 e2 t0 t1 t2
    obtain ⟨AC, hAC⟩ : ∃ AC, AC = accB l h n := ⟨_, rfl⟩
    have HAC : Hid (∀ k, AC (k + 1) = AC k ++ rowB (F3 l h k) n) := Lib.hid (fun k => by rw [hAC]; rfl)
    have HAC0 : Hid (AC 0 = two n) := Lib.hid (by rw [hAC]; rfl)
    have HRL := Lib.hid (fun k => rowB_le (F3 l h k) n)
    have HACL : Hid (∀ k, k ≤ 3 → (AC k).length ≤ 2 + k * (6 * n + 28)) := Lib.hid (fun k hk => by
      have h2 : (two n).length = 2 := rfl
      have q0 : (AC 0).length = 2 := by rw [HAC0.out]; rfl
      have q1 : (AC 1).length = (AC 0).length + (rowB (F3 l h 0) n).length := by rw [HAC.out 0, List.length_append]
      have q2 : (AC 2).length = (AC 1).length + (rowB (F3 l h 1) n).length := by rw [HAC.out 1, List.length_append]
      have q3 : (AC 3).length = (AC 2).length + (rowB (F3 l h 2) n).length := by rw [HAC.out 2, List.length_append]
      have r0 := HRL.out 0
      have r1 := HRL.out 1
      have r2 := HRL.out 2
      rcases (show k = 0 ∨ k = 1 ∨ k = 2 ∨ k = 3 by omega) with e | e | e | e <;> subst e <;> omega)
    have HPK : Hid (packB l h = AC 3 ++ Sq.sized (pack (exB l h n))) := Lib.hid (by rw [HP1.out (by have := H0.out; omega), hAC, accB_all])
    have RD0 : Hid (∀ V, Kp (· = V1.heap.size) w3 V → IntsR V a0 d0 n (lit l)) := Lib.hid (fun V hV => (SlR.kp R0.out KR.out (fun b hb q => by have := HX2.out b hb; have := HBB.out; omega)).kp hV (fun b hb q => by have := HX2.out b hb; have := HBB.out; omega))
    have RD1 : Hid (∀ V, Kp (· = V1.heap.size) w3 V → IntsR V a1 d1 n (off l h)) := Lib.hid (fun V hV => (SlR.kp R1.out KR.out (fun b hb q => by have := HY2.out b hb; have := HBB.out; omega)).kp hV (fun b hb q => by have := HY2.out b hb; have := HBB.out; omega))
    have RD2 : Hid (∀ V, Kp (· = V1.heap.size) w3 V → IntsR V a2 d2 n (mor l)) := Lib.hid (fun V hV => (SlR.kp R2.out KR.out (fun b hb q => by have := HZ2.out b hb; have := HBB.out; omega)).kp hV (fun b hb q => by have := HZ2.out b hb; have := HBB.out; omega))
    clear hAC R0 R1 R2 HLAL HVAL HMAL HP0 HP1
    go_loopw [7, 10, 46] (fun b _ i wr => ∃ (k : Nat) (ab : Option Addr) (db : Nat), k ≤ 3 ∧ i = .int .i64 k ∧ b = .slice ab (AC k).length db ∧ RowB V1.heap.size wr (.slice ab (AC k).length db) (AC k) ∧ (∀ j, (Value.slice ab (AC k).length db).ownBlock = some j → j = V1.heap.size ∨ w3.heap.size ≤ j) ∧ Kp (· = V1.heap.size) w3 wr) (fun _ _ i _ => 3 - (intOf i).toNat)
    case atStart => exact ⟨0, some ⟨V1.heap.size, 0, none⟩, 2, by omega, rfl, by rw [HAC0.out]; rfl, by rw [HAC0.out]; exact HB3.out, fun j hj => .inl (own_b hj), Kp.refl _ _⟩
    case round =>
      clear HB3 HAC0
      obtain ⟨k, ab, db, hk, rfl, rfl, hrow, hap, hkr⟩ := hrel
      have HROW := Lib.hid hrow
      have HAP := Lib.hid hap
      have HKR := Lib.hid hkr
      clear hrow hap hkr
      rcases (show k = 0 ∨ k = 1 ∨ k = 2 ∨ k = 3 by omega) with e0 | e1 | e2 | e3
      · subst e0
        have IX := (idxA3 a0 a1 a2 n d0 d1 d2 wr).1
        have RW := Lib.hid (row6_p wr a0 d0 n (lit l) (RD0.out wr HKR.out) H0.out hlen (fun i _ => HF3.out 0 i))
        unfold RowPost6 at RW
        have hle := HRL.out 0
        obtain ⟨rb, hrb⟩ : ∃ rb, rb = rowB (lit l) n := ⟨_, rfl⟩
        have hac := HAC.out 0
        have hac0 := HACL.out 0 (by omega)
        have hrl : rb.length ≤ 6 * n + 28 := by rw [hrb]; exact rowB_le _ _
        rw [show rowB (F3 l h 0) n = rb from hrb.symm] at hac
        rw [← hrb] at RW
        have hacl : (AC (0 + 1)).length = (AC 0).length + rb.length := by rw [hac, List.length_append]
        have HACX := Lib.hid hac
        have HACM := Lib.hid hacl
        obtain ⟨m, hm⟩ : ∃ m, m = rb.length := ⟨_, rfl⟩
        obtain ⟨q, hq⟩ : ∃ q, q = (AC 0).length := ⟨_, rfl⟩
        rw [← hm] at RW HACM hrl
        rw [← hq] at HACM hac0 HROW HAP
        rw [← hq]
        have HMM := Lib.hid hm.symm
        have HQQ := Lib.hid hq.symm
        clear hle hrb hac hacl hm hq
        go_wp2_with (first
          | (go_at_call 40; refine RW.out.mono ?_; rintro e w5 ⟨ra, rc, rfl, hr5, hk5⟩; have R5 := Lib.hid (hr5.sl.1); have K5 := Lib.hid hk5; have B5 := Lib.hid (HROW.out.kp0 hk5); have S5 : Hid (V1.heap.size ≤ w5.heap.size) := Lib.hid (by have := HKR.out.size; have := hk5.size; have := HSZ3.out; have := HBB.out; omega); rw [HMM.out] at R5; clear hr5 hk5)
          | (at_builtin; refine wpList_grow (B := V1.heap.size) _ rfl _ _ 22 rfl j0 _ 1 Tryz.underlying22 hj0 hy0 hy1 hy2 rfl (by decide) u8c_1 (.slice ab q db) (AC 0) rfl B5.out S5.out (.slice ra m rc) m rb rfl R5.out HMM.out (q + m) (by rw [HQQ.out]) (by omega) ?_; intro a8 c8 w8 g1; have G1 := Lib.hid g1; clear g1))
        refine ⟨⟨0 + 1, a8, c8, by omega, rfl, by rw [HACM.out], ?_, ?_, ?_⟩, by simp [intOf]⟩
        · rw [HACM.out, HACX.out]; exact G1.out.1
        · intro j hj
          rw [HACM.out] at hj
          rcases G1.out.2.1 j hj with e | e
          · exact HAP.out j e
          · right; have := HKR.out.size; have := K5.out.size; omega
        · exact (HKR.out.trans2 K5.out (fun _ _ q => q.elim)).trans2 G1.out.2.2 (fun i hi e => by rcases HAP.out i e with e | e; exact e; omega)
      · subst e1
        have IX := (idxA3 a0 a1 a2 n d0 d1 d2 wr).2.1
        have RW := Lib.hid (row6_p wr a1 d1 n (off l h) (RD1.out wr HKR.out) H0.out hlen (fun i _ => HF3.out 1 i))
        unfold RowPost6 at RW
        have hle := HRL.out 1
        obtain ⟨rb, hrb⟩ : ∃ rb, rb = rowB (off l h) n := ⟨_, rfl⟩
        have hac := HAC.out 1
        have hac0 := HACL.out 1 (by omega)
        have hrl : rb.length ≤ 6 * n + 28 := by rw [hrb]; exact rowB_le _ _
        rw [show rowB (F3 l h 1) n = rb from hrb.symm] at hac
        rw [← hrb] at RW
        have hacl : (AC (1 + 1)).length = (AC 1).length + rb.length := by rw [hac, List.length_append]
        have HACX := Lib.hid hac
        have HACM := Lib.hid hacl
        obtain ⟨m, hm⟩ : ∃ m, m = rb.length := ⟨_, rfl⟩
        obtain ⟨q, hq⟩ : ∃ q, q = (AC 1).length := ⟨_, rfl⟩
        rw [← hm] at RW HACM hrl
        rw [← hq] at HACM hac0 HROW HAP
        rw [← hq]
        have HMM := Lib.hid hm.symm
        have HQQ := Lib.hid hq.symm
        clear hle hrb hac hacl hm hq
        go_wp2_with (first
          | (go_at_call 40; refine RW.out.mono ?_; rintro e w5 ⟨ra, rc, rfl, hr5, hk5⟩; have R5 := Lib.hid (hr5.sl.1); have K5 := Lib.hid hk5; have B5 := Lib.hid (HROW.out.kp0 hk5); have S5 : Hid (V1.heap.size ≤ w5.heap.size) := Lib.hid (by have := HKR.out.size; have := hk5.size; have := HSZ3.out; have := HBB.out; omega); rw [HMM.out] at R5; clear hr5 hk5)
          | (at_builtin; refine wpList_grow (B := V1.heap.size) _ rfl _ _ 22 rfl j0 _ 1 Tryz.underlying22 hj0 hy0 hy1 hy2 rfl (by decide) u8c_1 (.slice ab q db) (AC 1) rfl B5.out S5.out (.slice ra m rc) m rb rfl R5.out HMM.out (q + m) (by rw [HQQ.out]) (by omega) ?_; intro a8 c8 w8 g1; have G1 := Lib.hid g1; clear g1))
        refine ⟨⟨1 + 1, a8, c8, by omega, rfl, by rw [HACM.out], ?_, ?_, ?_⟩, by simp [intOf]⟩
        · rw [HACM.out, HACX.out]; exact G1.out.1
        · intro j hj
          rw [HACM.out] at hj
          rcases G1.out.2.1 j hj with e | e
          · exact HAP.out j e
          · right; have := HKR.out.size; have := K5.out.size; omega
        · exact (HKR.out.trans2 K5.out (fun _ _ q => q.elim)).trans2 G1.out.2.2 (fun i hi e => by rcases HAP.out i e with e | e; exact e; omega)
      · subst e2
        have IX := (idxA3 a0 a1 a2 n d0 d1 d2 wr).2.2
        have RW := Lib.hid (row6_p wr a2 d2 n (mor l) (RD2.out wr HKR.out) H0.out hlen (fun i _ => HF3.out 2 i))
        unfold RowPost6 at RW
        have hle := HRL.out 2
        obtain ⟨rb, hrb⟩ : ∃ rb, rb = rowB (mor l) n := ⟨_, rfl⟩
        have hac := HAC.out 2
        have hac0 := HACL.out 2 (by omega)
        have hrl : rb.length ≤ 6 * n + 28 := by rw [hrb]; exact rowB_le _ _
        rw [show rowB (F3 l h 2) n = rb from hrb.symm] at hac
        rw [← hrb] at RW
        have hacl : (AC (2 + 1)).length = (AC 2).length + rb.length := by rw [hac, List.length_append]
        have HACX := Lib.hid hac
        have HACM := Lib.hid hacl
        obtain ⟨m, hm⟩ : ∃ m, m = rb.length := ⟨_, rfl⟩
        obtain ⟨q, hq⟩ : ∃ q, q = (AC 2).length := ⟨_, rfl⟩
        rw [← hm] at RW HACM hrl
        rw [← hq] at HACM hac0 HROW HAP
        rw [← hq]
        have HMM := Lib.hid hm.symm
        have HQQ := Lib.hid hq.symm
        clear hle hrb hac hacl hm hq
        go_wp2_with (first
          | (go_at_call 40; refine RW.out.mono ?_; rintro e w5 ⟨ra, rc, rfl, hr5, hk5⟩; have R5 := Lib.hid (hr5.sl.1); have K5 := Lib.hid hk5; have B5 := Lib.hid (HROW.out.kp0 hk5); have S5 : Hid (V1.heap.size ≤ w5.heap.size) := Lib.hid (by have := HKR.out.size; have := hk5.size; have := HSZ3.out; have := HBB.out; omega); rw [HMM.out] at R5; clear hr5 hk5)
          | (at_builtin; refine wpList_grow (B := V1.heap.size) _ rfl _ _ 22 rfl j0 _ 1 Tryz.underlying22 hj0 hy0 hy1 hy2 rfl (by decide) u8c_1 (.slice ab q db) (AC 2) rfl B5.out S5.out (.slice ra m rc) m rb rfl R5.out HMM.out (q + m) (by rw [HQQ.out]) (by omega) ?_; intro a8 c8 w8 g1; have G1 := Lib.hid g1; clear g1))
        refine ⟨⟨2 + 1, a8, c8, by omega, rfl, by rw [HACM.out], ?_, ?_, ?_⟩, by simp [intOf]⟩
        · rw [HACM.out, HACX.out]; exact G1.out.1
        · intro j hj
          rw [HACM.out] at hj
          rcases G1.out.2.1 j hj with e | e
          · exact HAP.out j e
          · right; have := HKR.out.size; have := K5.out.size; omega
        · exact (HKR.out.trans2 K5.out (fun _ _ q => q.elim)).trans2 G1.out.2.2 (fun i hi e => by rcases HAP.out i e with e | e; exact e; omega)
      · subst e3
        have hacl := HACL.out 3 (by omega)
        obtain ⟨q, hq⟩ : ∃ q, q = (AC 3).length := ⟨_, rfl⟩
        rw [← hq] at hacl HROW HAP ⊢
        have HQQ := Lib.hid hq.symm
        clear hq hk
        go_wp2_with (go_at_call 41; refine (neww_c _).mono ?_; rintro e w' ⟨rfl, rfl⟩)
        refine (backS_c al n cl _).mono ?_
        rintro e w' ⟨rfl, rfl⟩
        obtain ⟨p, hp⟩ : ∃ p, p = wr.heap.size := ⟨_, rfl⟩
        obtain ⟨W0, hW0⟩ : ∃ W0, W0 = ((wr.alloc (.cells #[.slice none 0 0] 101)).alloc (.cells #[.pointer (some ⟨wr.heap.size, 0, none⟩)] 67)).alloc (.cells #[.slice al n cl] 36) := ⟨_, rfl⟩
        go_wp2_with fail
        rw [← hW0]
        have W0s : W0.heap.size = p + 3 := by rw [hW0, hp]; simp
        have kr : ∀ X, Kp (fun _ => False) X X := fun X => Kp.refl _ X
        have W0k : Kp (fun _ => False) wr W0 := by rw [hW0]; exact (((kr _).alloc _).alloc _).alloc _
        have x1 : WrAt 101 (· = p) W0 p none 0 [] := by
          have := wr_new 101 wr
          rw [hW0, hp]; exact this.kp (((kr _).alloc _).alloc _) (fun _ _ q => q)
        have x2 : W0.heap[p + 1]? = some (.cells #[.pointer (some ⟨p, 0, none⟩)] 67 (0, 0)) := by
          have := alloc_at (wr.alloc (.cells #[.slice none 0 0] 101)) (.cells #[.pointer (some ⟨wr.heap.size, 0, none⟩)] 67)
          rw [World.size_alloc] at this
          rw [hW0, hp]; exact ((kr _).alloc _).at_ this (fun q => q)
        have x3 : W0.heap[p + 1 + 1]? = some (.cells #[.slice al n cl] 36 (0, 0)) := by
          have := alloc_at ((wr.alloc (.cells #[.slice none 0 0] 101)).alloc (.cells #[.pointer (some ⟨wr.heap.size, 0, none⟩)] 67)) (.cells #[.slice al n cl] 36)
          rw [World.size_alloc, World.size_alloc] at this
          rw [hW0, hp]; exact this
        rw [← hp]
        have hbb := HBB.out
        have hz3 := HSZ3.out
        have hws := HKR.out.size
        have KWR : Hid (Kp (fun _ => False) w wr) := Lib.hid (KW.out.trans2 HKR.out (fun i hi q => by omega))
        have HK0 := Lib.hid (KWR.out.trans W0k)
        have HW0s := Lib.hid W0s
        obtain ⟨R, hR⟩ : ∃ R : Nat → Value, R = fun j => if j = 0 then .slice a0 n d0 else if j = 1 then .slice a1 n d1 else .slice a2 n d2 := ⟨_, rfl⟩
        have hA3 := HA3.out.kp HKR.out (by omega)
        have RC : Hid (∀ j, ∃ g o c, R j = .slice (some ⟨g, o, none⟩) n c ∧ n ≤ c ∧ ∀ V, Kp (· = p) W0 V → ∀ i, i < n → V.cell? ⟨g, o + i, none⟩ = some (.int .i64 (F3 l h j i : Nat))) := Lib.hid (fun j => by
          have key : ∀ (a : Option Addr) (d : Nat) (f : Nat → Nat), IntsR wr a d n f → ∃ g o c, Value.slice a n d = .slice (some ⟨g, o, none⟩) n c ∧ n ≤ c ∧ ∀ V, Kp (· = p) W0 V → ∀ i, i < n → V.cell? ⟨g, o + i, none⟩ = some (.int .i64 (f i : Nat)) := fun a d f hf => by
            obtain ⟨g, o, rfl, hg, hc, hcc⟩ := hf.at_ H0.out
            exact ⟨g, o, d, rfl, hc, fun V hV i hi => (hV.cell (p := ⟨g, o + i, none⟩) (by have := W0k.size; dsimp only; omega) (by dsimp only; omega)).trans (hcc _ W0k i hi)⟩
          rw [hR]
          unfold F3
          by_cases e0 : j = 0
          · simp only [e0, if_pos]; exact key _ _ _ (RD0.out wr HKR.out)
          · by_cases e1 : j = 1
            · subst e1; exact key _ _ _ (RD1.out wr HKR.out)
            · simp only [e0, e1, if_false]; exact key _ _ _ (RD2.out wr HKR.out))
        have HX : Hid (∀ V, Kp (· = p) W0 V → V.cell? ⟨p + 1, 0, none⟩ = some (.pointer (some ⟨p, 0, none⟩)) ∧ HAt V w.heap.size HH ∧ HAt V (w.heap.size + 1) ⟨0, 0, 0⟩ ∧ (∀ i, i < 3 → V.cell? ⟨w2.heap.size, 0 + i, none⟩ = some (R i)) ∧ RowB V1.heap.size V (.slice ab q db) (AC 3)) := Lib.hid (fun V hk => by
          have kA := (hA3.kp W0k (fun q => q)).kp hk (by omega)
          obtain ⟨t0, t1, t2⟩ := kA.cells
          refine ⟨by rw [cell_of (hk.at_ x2 (by omega))]; rfl, ((HAT3.out.kp HKR.out (by omega)).kp W0k (fun q => q)).kp hk (by omega), ((HRE3.out.kp HKR.out (by omega)).kp W0k (fun q => q)).kp hk (by omega), fun i hi => ?_, ?_⟩
          · rw [Nat.zero_add, hR]
            rcases (show i = 0 ∨ i = 1 ∨ i = 2 by omega) with e | e | e <;> subst e
            · exact t0
            · exact t1
            · exact t2
          · have h1 := HROW.out.kp0 W0k
            obtain ⟨av, cv, he, hown, hb⟩ := h1
            exact ⟨av, cv, he, hown.kp hk (fun b hb1 hb2 => by have := HROW.out.lt hb1; omega), hb⟩)
        have HRD : Hid (RdS w.heap.size (p + 1 + 1) W0 al cl n (lit l) (ofs l) (fun i => (sqAt l i).len)) := Lib.hid ⟨fun V hk => by
            rw [hk.cell (p := ⟨p + 1 + 1, 0, none⟩) (by dsimp only; omega) (.inr rfl), cell_of x3]; rfl, fun h0 => by
            have hl2 := HLR.out
            rw [HN.out] at hl2 h0
            obtain ⟨g, o, e, hg, hc, hs⟩ := sq_at hl2 h0
            refine ⟨g, o, e, by rw [HN.out]; exact hc, fun V hk i hi => ?_⟩
            rw [HN.out] at hi
            have hcell : ∀ j, V.cell? ⟨g, j, none⟩ = w.cell? ⟨g, j, none⟩ := fun j => (hk.cell (p := ⟨g, j, none⟩) (by have := HK0.out.size; dsimp only; omega) (.inl hg)).trans (HK0.out.cell (p := ⟨g, j, none⟩) hg (fun q => q))
            rw [hcell, hcell, hcell]
            exact hs i hi⟩
        have HI0 : Hid (PkI W0 p (exP l h []) W0) := Lib.hid ⟨Kp.refl _ _, (· = p), none, 0, x1, fun k q => .inl q⟩
        have HPE := Lib.hid hp
        have HPB : Hid (w.heap.size + 2 ≤ V1.heap.size ∧ V1.heap.size < w2.heap.size ∧ w2.heap.size < p) := Lib.hid (by omega)
        clear hR W0s x1 x2 x3 W0k kr hW0 hp hA3 hbb hz3 hws HA3 HRE3 HAT3 RD0 RD1 RD2 KR HX2 HY2 HZ2 K3 HK1 HLR
        refine (wpIn_wide (n := 9)).1 ?_
        obtain ⟨S, hS⟩ : ∃ S : Nat → Nat → Act, S = fun gi k => { tmps := #[.slice al n cl, .agg #[.int .i64 (h.a : Nat), .int .i64 (h.b : Nat), .int .i64 (h.c : Nat)], undef, .pointer (some ⟨w.heap.size, 0, none⟩), .slice none 0 0, .pointer (some ⟨w.heap.size + 1, 0, none⟩), .bool false, .slice ab q db, .pointer (some ⟨w2.heap.size, 0, none⟩), undef, u10, .pointer (some ⟨p + 1, 0, none⟩), .pointer (some ⟨gi, 0, none⟩), undef, undef, undef, undef, undef, .slice al n cl, .int .i64 (n : Nat), .bool (decide ((500 : Int) < (n : Int))), .bool (decide ((500 : Int) < (n : Int))), .slice al n cl, .bool false, .bool (decide ((500 : Int) < (n : Int))), undef, .slice al n cl, .int .i64 (n : Nat), .int .u8 ((n : Int) % 256), .slice al n cl, .int .i64 (n : Nat), .int .i64 ((n : Int) / 256), .int .u8 ((n : Int) / 256), .slice (some ⟨V1.heap.size, 0, none⟩) 2 2, .slice al n cl, .int .i64 (n : Nat), .bool false, undef, undef, .tuple #[.agg #[.slice a0 n d0, .slice a1 n d1, .slice a2 n d2], .agg #[.int .i64 (HH.a : Nat), .int .i64 (HH.b : Nat), .int .i64 (HH.c : Nat)]], .slice al n cl, .agg #[.int .i64 (h.a : Nat), .int .i64 (h.b : Nat), .int .i64 (h.c : Nat)], .tuple #[.agg #[.slice a0 n d0, .slice a1 n d1, .slice a2 n d2], .agg #[.int .i64 (HH.a : Nat), .int .i64 (HH.b : Nat), .int .i64 (HH.c : Nat)]], .agg #[.slice a0 n d0, .slice a1 n d1, .slice a2 n d2], .agg #[.int .i64 (HH.a : Nat), .int .i64 (HH.b : Nat), .int .i64 (HH.c : Nat)], .agg #[.slice a0 n d0, .slice a1 n d1, .slice a2 n d2], .int .i64 3, .bool false, u48, u49, u50, u51, u52, u53, .pointer (some ⟨p, 0, none⟩), .slice al n cl, .func (.func 76) #[] #[.pointer (some ⟨p + 1 + 1, 0, none⟩)], .int .i64 ((n - 1 - k : Nat) : Int), .agg #[.int .i64 (lit l (n - 1 - k) : Nat), .int .i64 (ofs l (n - 1 - k) : Nat), .int .i64 ((sqAt l (n - 1 - k)).len : Nat)], undef, undef, undef, undef, undef, undef, undef, undef, undef, undef, undef, undef, undef, undef, undef, undef, undef, undef, undef, undef, undef, undef, undef], defers := [] } := ⟨_, rfl⟩
        have HSE := Lib.hid hS
        refine wpIn_rangeFunc_ownH rfl (by omega) (gf := 76) (lb := #[.pointer (some ⟨p + 1 + 1, 0, none⟩)]) rfl trivial (enters_of Tryz.func76 (by kernel_rfl) rfl)
          (backS_stops Fence.wide 8 trivial rfl (by omega) (p + 1 + 1) w.heap.size cl al n (lit l) (ofs l) (fun i => (sqAt l i).len) (by omega) W0 HRD.out) (fun h k => h.trans k) (fun V lp o1 o2 h1 _ _ _ => KB.putObj V lp o2 (by have := HW0s.out; have := HPB.out; omega) (by have := HW0s.out; omega)) (Below.refl _ _) (fun _ => rfl)
          (fun pre V => PkI W0 p (exP l h pre) V) (fun _ _ _ => False) (PkI.own W0 p _) (fun _ _ _ _ _ hs _ _ => hs) HI0.out (fun k a' V => ∃ gi, a' = S gi k ∧ W0.heap.size ≤ gi ∧ V.heap[gi]? = some (.cells #[.int .i64 ((n - 1 - k : Nat) : Int)] 3 (0, 0))) (fun k a' => fun s A B row hh hg hr => by
            obtain ⟨gi, g1, g2, g3⟩ := hh
            exact ⟨gi, g1, g2, (grownBy_keeps_cells hg (fun r e => (hr r e).2) g3 rfl).trans g3⟩) ?assign ?body ?done ?stop
        case assign =>
          intro lp pre k V K hI hK
          have HK2 := Lib.hid hK
          have HI := Lib.hid hI
          clear hI hK
          gi_wp2
          exact HK2.out _ _ (Kp.keeps (kp_alloc V _) (fun k q => q.elim) _) (Kp.kb (kp_alloc V _) (fun k q => q.elim)) ((PkI.own W0 p (exP l h)).alloc _ HI.out) ⟨V.heap.size, by rw [hS], HI.out.kp.size, alloc_at V _⟩
        case body =>
          rintro lp pre k a' V hlp ⟨rec, hrec⟩ hI ⟨gi, rfl, hgs, hgc⟩ hlt
          obtain ⟨F, aw, cw, hw, hF⟩ := hI.wr
          have HI := Lib.hid hI
          obtain ⟨i, hi⟩ : ∃ i, i = n - 1 - k := ⟨_, rfl⟩
          have hin : i < n := by have := H0.out; omega
          have HII := Lib.hid hi
          obtain ⟨bi, hbi⟩ : ∃ bi, bi = V.heap.size := ⟨_, rfl⟩
          have ka := kp_alloc V (.cells #[.slice (some ⟨w2.heap.size, 0, none⟩) 3 3] 75)
          have hbc : (V.alloc (.cells #[.slice (some ⟨w2.heap.size, 0, none⟩) 3 3] 75)).heap[V.heap.size]? = _ := alloc_at V _
          obtain ⟨U0, hU0⟩ : ∃ U0, U0 = V.alloc (.cells #[.slice (some ⟨w2.heap.size, 0, none⟩) 3 3] 75) := ⟨_, rfl⟩
          have hU0s : U0.heap.size = V.heap.size + 1 := by rw [hU0]; simp
          rw [← hU0] at ka hbc
          rw [← hbi] at hbc hU0s
          have hgi : gi < bi := by rw [hbi]; exact lt_of_at hgc
          have hbW : W0.heap.size ≤ bi := by rw [hbi]; exact HI.out.kp.size
          have hkU := HI.out.kp.trans2 ka (fun _ _ q => q.elim)
          have hlen0 : (exP l h pre).length ≤ 33 * pre.length := exP_len HMAY.out h pre
          have HL0 := Lib.hid hlen0
          have HLT := Lib.hid hlt
          have HJ0 : Hid (PkJ W0 U0 p w.heap.size (p + 1 + 1) gi bi i (inP l h (exP l h pre) i []) U0) := Lib.hid ⟨hkU, KeepsFrom.refl _ _, KB.refl _ _ _, by rw [hi]; exact ka.at_ hgc (fun q => q), by
            refine ⟨_, aw, cw, (show inP l h (exP l h pre) i [] = exP l h pre by simp [inP]) ▸ (WrAt.min hw).kp ka (fun _ _ q => q), fun j hj => ?_⟩
            rcases hj with rfl | q
            · exact ⟨.inl rfl, by have := HW0s.out; omega, by have := HW0s.out; omega⟩
            · have q' : (Value.slice aw (exP l h pre).length cw).ownBlock = some j := by simpa [inP] using q
              have h1 := hF j (hw.ne j q').1
              have h2 := hw.own.lt q'
              refine ⟨h1, fun e => ?_, by rw [hbi]; omega⟩
              rcases hw.own.2 with ⟨e2, _⟩ | ⟨g', cap, cur, fr, e2, hg, _⟩
              · rw [e2] at q'; cases q'
              · rw [e2] at q'
                have := own_b q'
                rw [← this, e, hgc] at hg
                cases hg⟩
          have HRV : Hid (RdV p bi U0 (some ⟨w2.heap.size, 0, none⟩) 3 3 R) := Lib.hid ⟨fun V' hk => by
              rw [hk.cell (p := ⟨bi, 0, none⟩) (by dsimp only; omega) (.inr rfl), cell_of hbc]; rfl, fun _ =>
              ⟨w2.heap.size, 0, rfl, by omega, fun V' hk i hi => by
                refine (hk.cell (p := ⟨w2.heap.size, 0 + i, none⟩) (by have := HPB.out; have := HW0s.out; dsimp only; omega) (.inl (by have := HPB.out; dsimp only; omega))).trans ?_
                exact (HX.out U0 hkU).2.2.2.1 i hi⟩⟩
          have HREC := Lib.hid (ka.at_ hrec (fun q => q))
          have HKA := Lib.hid ka
          have HBI := Lib.hid hbi
          have HGI : Hid (gi < bi ∧ W0.heap.size ≤ bi ∧ U0.heap.size = bi + 1 ∧ W0.heap.size ≤ gi) := Lib.hid ⟨hgi, hbW, hU0s, hgs⟩
          have hfold := hU0.symm
          have hfoldb := hbi.symm
          rw [HSE.out]
          dsimp only
          rw [← hi]
          clear hI hw hF hS hrec hgc ka hbc hU0 hi hbi hgi hbW hkU hlen0 hlt hU0s
          gi_wp2
          refine ⟨trivial, (CallsIn.inRound lp (callsIn_wide.2 (backV_c (some ⟨w2.heap.size, 0, none⟩) 3 3 V))).mono ?_⟩
          rintro e w' ⟨rfl, rfl⟩
          rw [hfold]
          gi_wp2
          obtain ⟨S2, hS2⟩ : ∃ S2 : Nat → Act, S2 = fun j => { tmps := #[.slice al n cl, .agg #[.int .i64 (h.a : Nat), .int .i64 (h.b : Nat), .int .i64 (h.c : Nat)], undef, .pointer (some ⟨w.heap.size, 0, none⟩), .slice none 0 0, .pointer (some ⟨w.heap.size + 1, 0, none⟩), .bool false, .slice ab q db, .pointer (some ⟨w2.heap.size, 0, none⟩), undef, u10, .pointer (some ⟨p + 1, 0, none⟩), .pointer (some ⟨gi, 0, none⟩), undef, R (3 - 1 - j), undef, undef, undef, .slice al n cl, .int .i64 (n : Nat), .bool (decide ((500 : Int) < (n : Int))), .bool (decide ((500 : Int) < (n : Int))), .slice al n cl, .bool false, .bool (decide ((500 : Int) < (n : Int))), undef, .slice al n cl, .int .i64 (n : Nat), .int .u8 ((n : Int) % 256), .slice al n cl, .int .i64 (n : Nat), .int .i64 ((n : Int) / 256), .int .u8 ((n : Int) / 256), .slice (some ⟨V1.heap.size, 0, none⟩) 2 2, .slice al n cl, .int .i64 (n : Nat), .bool false, undef, undef, .tuple #[.agg #[.slice a0 n d0, .slice a1 n d1, .slice a2 n d2], .agg #[.int .i64 (HH.a : Nat), .int .i64 (HH.b : Nat), .int .i64 (HH.c : Nat)]], .slice al n cl, .agg #[.int .i64 (h.a : Nat), .int .i64 (h.b : Nat), .int .i64 (h.c : Nat)], .tuple #[.agg #[.slice a0 n d0, .slice a1 n d1, .slice a2 n d2], .agg #[.int .i64 (HH.a : Nat), .int .i64 (HH.b : Nat), .int .i64 (HH.c : Nat)]], .agg #[.slice a0 n d0, .slice a1 n d1, .slice a2 n d2], .agg #[.int .i64 (HH.a : Nat), .int .i64 (HH.b : Nat), .int .i64 (HH.c : Nat)], .agg #[.slice a0 n d0, .slice a1 n d1, .slice a2 n d2], .int .i64 3, .bool false, u48, u49, u50, u51, u52, u53, .pointer (some ⟨p, 0, none⟩), .slice al n cl, .func (.func 76) #[] #[.pointer (some ⟨p + 1 + 1, 0, none⟩)], .int .i64 ((i : Nat) : Int), .agg #[.int .i64 (lit l i : Nat), .int .i64 (ofs l i : Nat), .int .i64 ((sqAt l i).len : Nat)], .slice (some ⟨w2.heap.size, 0, none⟩) 3 3, .func (.func 77) #[] #[.pointer (some ⟨bi, 0, none⟩)], .int .i64 ((3 - 1 - j : Nat) : Int), R (3 - 1 - j), undef, undef, undef, undef, undef, undef, undef, undef, undef, undef, undef, undef, undef, undef, undef, undef, undef, undef, undef], defers := [] } := ⟨_, rfl⟩
          have HSE2 := Lib.hid hS2
          refine wpIn_rangeFunc_ownN rfl HREC.out (by omega) (gf := 77) (lb := #[.pointer (some ⟨bi, 0, none⟩)]) rfl trivial (enters_of Tryz.func77 (by kernel_rfl) rfl)
            (SeqStopsK.inRound lp (backV_stops Fence.wide (9 - 1 - 1 - 1) trivial rfl (by omega) bi p 3 (some ⟨w2.heap.size, 0, none⟩) 3 R (by omega) U0 HRV.out)) (fun h k => h.trans k) (fun V' l' o1 o2 h1 _ _ _ => KB.putObj V' l' o2 (by have := HGI.out; have := HW0s.out; omega) (by have := HGI.out; omega)) (Below.refl _ _) (fun _ => rfl)
            (fun pre' V' => PkJ W0 U0 p w.heap.size (p + 1 + 1) gi bi i (inP l h (exP l h pre) i pre') V') (fun _ _ _ => False) (PkJ.own W0 U0 p _ _ gi bi i (by have := HGI.out; omega) _) (fun _ _ _ _ _ hs _ _ => hs) HJ0.out (fun j a' _ => a' = S2 j) (fun _ _ _ _ _ _ hs _ _ => hs) ?assign2 ?body2 ?done2 ?stop2
          case assign2 =>
            intro lp2 pre2 j V2 K hJ hK
            have HK2 := Lib.hid hK
            have HJ := Lib.hid hJ
            clear hJ hK
            gi_wp2
            exact HK2.out _ _ (KeepsFrom.refl _ _) (KB.refl _ _ _) HJ.out (by rw [hS2])
          case body2 =>
            rintro lp2 pre2 j a' V2 hlp2 _ hJ rfl hlt2
            obtain ⟨g, o, cR, hR, hcR, hcc⟩ := RC.out (3 - 1 - j)
            obtain ⟨F, a3, c3, hw, hF⟩ := hJ.wr
            have d0 : V2.cell? ⟨gi, 0, none⟩ = some (.int .i64 (i : Nat)) := by rw [cell_of hJ.ci]; rfl
            have d1 := hcc V2 hJ.kp i hin
            have hv := HF3.out (3 - 1 - j) i
            have HFV : Hid (inP l h (exP l h pre) i (pre2 ++ [j]) = inP l h (exP l h pre) i pre2 ++ xb (F3 l h (3 - 1 - j) i)) := Lib.hid (inP_snoc _ _ _ _ _ _)
            obtain ⟨v, hve⟩ : ∃ v, v = F3 l h (3 - 1 - j) i := ⟨_, rfl⟩
            rw [← hve] at d1 hv HFV
            have CD := Lib.hid (code_p v hv V2)
            have HJJ := Lib.hid hJ
            have HW := Lib.hid hw
            have HFF := Lib.hid hF
            have HBL : Hid ((inP l h (exP l h pre) i pre2).length ≤ 100000) := Lib.hid (by
              have h1 := inP_len HMAY.out h (exP l h pre) i pre2
              have h2 := HL0.out
              have h3 := HLT.out
              omega)
            have HNB := Lib.hid (nb_le hv)
            have HEX := Lib.hid (Sq.ex_lt hv)
            have PUT := Lib.hid (fun V3 (hk3 : Kp (fun _ => False) V2 V3) => put_p ((WrAt.min HW.out).kp hk3 (fun _ _ q => q)) (ex v) (nb v) (by have := HNB.out; omega) HEX.out (by have := HBL.out; omega))
            have STEP := Lib.hid (fun V3 V4 (hk3 : Kp (fun _ => False) V2 V3) hV => HJJ.out.step (V2 := V3) (V3 := V4) (B' := inP l h (exP l h pre) i pre2 ++ xb v) HW.out HFF.out (by have := HPB.out; omega) (by omega) (by have := HW0s.out; omega) (by have := HW0s.out; omega) (by have := HGI.out; omega) (by have := HGI.out; omega) hk3 hV (by have := HGI.out; have := HW0s.out; omega))
            rw [xb_eq] at STEP HFV
            obtain ⟨nv, hnv⟩ : ∃ nv, nv = nb v := ⟨_, rfl⟩
            obtain ⟨xv, hxv⟩ : ∃ xv, xv = ex v := ⟨_, rfl⟩
            rw [← hnv, ← hxv] at CD PUT STEP HFV
            rw [HSE2.out]
            dsimp only
            rw [hR]
            clear hJ hw hF hcc hR hS2 hve hnv hxv hlt2
            gi_wp2
            refine ⟨trivial, (CallsIn.inRound lp2 (CallsIn.inRound lp (callsIn_wide.2 CD.out))).mono ?_⟩
            rintro e V3 ⟨rfl, hk3⟩
            have d2 := (HX.out V3 (HJJ.out.kp.trans2 hk3 (fun _ _ q => q.elim))).1
            have HK3 := Lib.hid hk3
            clear hk3
            gi_wp2
            refine ⟨trivial, (CallsIn.inRound lp2 (CallsIn.inRound lp (callsIn_wide.2 (PUT.out V3 HK3.out)))).mono ?_⟩
            rintro e V4 ⟨rfl, hV⟩
            obtain ⟨q1, q2, q3⟩ := STEP.out V3 V4 HK3.out hV
            have Q1 := Lib.hid q1
            have Q2 := Lib.hid q2
            have Q3 := Lib.hid q3
            clear q1 q2 q3 hV
            gi_wp2
            have q3 := Q3.out
            rw [← HFV.out] at q3
            exact ⟨Q1.out, Q2.out, q3⟩
          case done2 =>
            rintro xs V3 rfl hJ
            have HJJ := Lib.hid hJ
            clear hJ
            try gi_wp2
            have hJ := HJJ.out
            refine ⟨(Kp.keeps HKA.out (fun k q => q.elim) _).trans hJ.kf, (Kp.kb HKA.out (fun k q => q.elim)).trans hJ.kb, hJ.kp, ?_⟩
            obtain ⟨F, a3, c3, hw, hF⟩ := hJ.wr
            rw [inP_all, HII.out, HN.out, ← exP_snoc] at hw
            exact ⟨F, a3, c3, hw, fun k q => (hF k q).1⟩
          case stop2 =>
            intro c pre' V3 _ hf
            exact hf.elim
        case done =>
          rintro D ys V hD rfl hI hK
          rw [HN.out, exP_all, ← HN.out] at hI
          obtain ⟨F, aw, cw, hw, hF⟩ := hI.wr
          obtain ⟨e0, e1, e2, e3, e4⟩ := HX.out V hI.kp
          obtain ⟨g0, g1, g2⟩ := e1.cells
          obtain ⟨r0, r1, r2⟩ := e2.cells
          have f0 := free_of e2 0
          have f1 := free_of e2 1
          have f2 := free_of e2 2
          obtain ⟨BB, hBB⟩ : ∃ BB, BB = exB l h n := ⟨_, rfl⟩
          rw [← hBB] at hw HXL HPK
          have BY := Lib.hid (bytes_p (hw.kp (Kp.refl (fun _ => False) V).drew (fun _ _ q => q)) (by have := HXL.out; omega))
          have PL := pack_len BB
          obtain ⟨PB, hPB⟩ : ∃ PB, PB = pack BB := ⟨_, rfl⟩
          rw [← hPB] at PL HPK
          obtain ⟨m, hm⟩ : ∃ m, m = BB.length / 8 + 1 := ⟨_, rfl⟩
          rw [← hm] at PL
          have hmle : m ≤ 20000 := by have := HXL.out; omega
          have HPL := Lib.hid PL
          have HMM := Lib.hid hm
          have HPBE := Lib.hid hPB
          have HPS : Hid ((Sq.sized PB).length = 2 + m) := Lib.hid (by rw [← PL]; simp [Sq.sized, two]; omega)
          have HE4 := Lib.hid e4
          have HE2 := Lib.hid e2
          have HE1 := Lib.hid e1
          have HKD := Lib.hid hK
          have HD := Lib.hid hD
          have HI := Lib.hid hI
          have HBBL := Lib.hid (show BB.length ≤ 100000 by have := HXL.out; omega)
          clear hI hK hD hw hF hBB PL hPB hm e4 e1 e2
          have hpb := HPB.out
          have hne1 : w.heap.size ≠ w.heap.size + 1 := by omega
          have hne2 : ¬ p = w.heap.size := by omega
          have hne3 : ¬ w.heap.size = p := by omega
          have HRST : Hid (∀ X, Kp (fun _ => False) V X → X.cell? ⟨p + 1, 0, none⟩ = some (.pointer (some ⟨p, 0, none⟩)) ∧ HAt X w.heap.size HH ∧ HAt X (w.heap.size + 1) ⟨0, 0, 0⟩ ∧ RowB V1.heap.size X (.slice ab q db) (AC 3) ∧ X.heap[D]? = some (.deferred (some []))) := Lib.hid (fun X hX => by
            obtain ⟨c0, _, _, _, _⟩ := HX.out X (HI.out.kp.trans2 hX (fun _ _ q => q.elim))
            exact ⟨c0, HE1.out.kp hX (fun q => q), HE2.out.kp hX (fun q => q), HE4.out.kp0 hX, hX.at_ HKD.out (fun q => q)⟩)
          have HBO : Hid (∀ k, (Value.slice ab q db).ownBlock = some k → V1.heap.size ≤ k ∧ k < p) := Lib.hid (fun k hk => by
            have := HROW.out.lt hk
            have := HPE.out
            omega)
          clear hpb g0 g1 g2 r0 r1 r2 f0 f1 f2 e0
          obtain ⟨e0, e1, e2, _, _⟩ := HRST.out _ (Kp.refl (fun _ => False) V).drew
          obtain ⟨g0, g1, g2⟩ := e1.cells
          clear e1 e2
          go_wp2_with fail
          go_region_held3 (fun V' => V'.cell? ⟨p + 1, 0, none⟩ = some (.pointer (some ⟨p, 0, none⟩)) ∧ V'.cell? ⟨w.heap.size, 0, none⟩ = some (.int .i64 (HH.a : Nat)) ∧ V'.cell? ⟨w.heap.size, 1, none⟩ = some (.int .i64 (HH.b : Nat)) ∧ V'.cell? ⟨w.heap.size, 2, none⟩ = some (.int .i64 (HH.c : Nat))) (go_keep) ((first
            | (go_simp; go_at_call 47; refine BY.out.mono ?_; rintro e w5 ⟨g5, rfl, b1, b2, b3⟩; have k5 : Kp (fun _ => False) V w5 := ((Kp.refl (fun _ => False) V).drew.trans b3); obtain ⟨s3, t1, _, _, _⟩ := HRST.out _ k5; obtain ⟨s0, s1, s2⟩ := t1.cells; have K5 := Lib.hid k5; have hsl := (pack_row b2 HBBL.out).sl.1; rw [← HPBE.out, HPL.out] at hsl; rw [← HMM.out] at ⊢; have SZ := sized6_p w5 PB (some ⟨g5, 0, none⟩) m (by rw [HPL.out]; exact hsl) (by rw [HPL.out]; omega); unfold SizedPost at SZ; rw [HPL.out] at SZ; have SZH := Lib.hid SZ; clear b1 b2 b3 k5 t1 hsl SZ)
            | (go_simp; go_at_call 46; refine SZH.out.mono ?_; rintro e w6 ⟨sa, sc, rfl, t6, k6⟩; have K6 := Lib.hid (K5.out.trans k6); have T6 := t6.sl.1; rw [HPS.out] at T6; have HT6 := Lib.hid T6; obtain ⟨s3, t1, _, tb, _⟩ := HRST.out _ K6.out; obtain ⟨s0, s1, s2⟩ := t1.cells; have B6 := Lib.hid tb; have S6 : Hid (V1.heap.size ≤ w6.heap.size) := Lib.hid (by have := K6.out.size; have := HI.out.kp.size; have := HW0s.out; have := HPB.out; omega); clear t6 k6 T6 t1 tb)
            | (refine step_grow (B := V1.heap.size) _ (by rfl) (.tmp 76) (.tmp 79) 22 (by rfl) j0 _ 1 Tryz.underlying22 hj0 hy0 hy1 hy2 rfl (by decide) u8c_1 (.slice ab q db) (AC 3) (by rfl) (by exact B6.out) (by exact S6.out) (.slice sa (2 + m) sc) (2 + m) (Sq.sized PB) (by rfl) (by exact HT6.out) HPS.out (q + (2 + m)) (by rw [HQQ.out]) (by omega) ?_; intro a7 c7 w7 g7; have K7 := Lib.hid g7.2.2; have R7 := Lib.hid g7.1; obtain ⟨u3, u1, u2, _, uD⟩ := HRST.out _ K6.out; have v3 : w7.cell? ⟨p + 1, 0, none⟩ = some (.pointer (some ⟨p, 0, none⟩)) := (g7.2.2.cell (p := ⟨p + 1, 0, none⟩) (by have := K6.out.size; have := HI.out.kp.size; have := HW0s.out; dsimp only; omega) (fun z => by have h9 := (HBO.out _ z).2; dsimp only at h9; omega)).trans u3; have hv1 := u1.kp g7.2.2 (fun z => by have := HBO.out _ z; have := HPB.out; omega); have hv2 := u2.kp g7.2.2 (fun z => by have := HBO.out _ z; have := HPB.out; omega); have UD := Lib.hid (g7.2.2.at_ uD (fun z => by have := HBO.out _ z; have := HD.out; have := HW0s.out; omega)); obtain ⟨s0, s1, s2⟩ := hv1.cells; obtain ⟨r0, r1, r2⟩ := hv2.cells; have f0 : w7.frozen? ⟨w.heap.size + 1, 0, none⟩ = false := free_of hv2 0; have f1 : w7.frozen? ⟨w.heap.size + 1, 1, none⟩ = false := free_of hv2 1; have f2 : w7.frozen? ⟨w.heap.size + 1, 2, none⟩ = false := free_of hv2 2; have HR7 := Lib.hid hv2; clear g7 u3 u1 u2 uD hv1 hv2)))
          all_goals (go_wp2_with fail)
          obtain ⟨hst, hkst⟩ := HR7.out.store HH.a HH.b HH.c
          obtain ⟨X, hX⟩ : ∃ X, X = ((w7.setCell ⟨w.heap.size + 1, 0, none⟩ (.int .i64 (HH.a : Nat))).setCell ⟨w.heap.size + 1, 1, none⟩ (.int .i64 (HH.b : Nat))).setCell ⟨w.heap.size + 1, 2, none⟩ (.int .i64 (HH.c : Nat)) := ⟨_, rfl⟩
          rw [← hX] at hst hkst ⊢
          clear hX
          have hpb := HPB.out
          have hsz0 := HW0s.out
          have hsD := HD.out
          have hXD := hkst.at_ UD.out (by omega)
          have kY := Kp.put X D (.deferred none)
          have hst2 := hst.kp kY (by omega)
          obtain ⟨y0, y1, y2⟩ := hst2.cells
          have kZ : Kp (fun k => k = w.heap.size + 1 ∨ k = D) w7 (X.putObj D (.deferred none)) := (hkst.mono (fun _ _ q => .inl q)).trans2 kY (fun i _ q => .inr q)
          have hpk : packB l h = AC 3 ++ Sq.sized PB := HPK.out
          have hpl : (packB l h).length = q + (2 + m) := by rw [hpk, List.length_append, HQQ.out, HPS.out]
          have kW7 : Kp (fun _ => False) w w7 := (((HK0.out.trans2 HI.out.kp (fun i hi z => by omega)).trans K6.out).trans2 K7.out (fun i hi z => by have := HBO.out _ z; omega))
          have r9 : RowB w.heap.size (X.putObj D (.deferred none)) (.slice a7 (q + (2 + m)) c7) (AC 3 ++ Sq.sized PB) := by
            obtain ⟨av, cv, he, hown, hb⟩ := R7.out
            refine ⟨av, cv, he, hown.kp kZ (fun b hb1 hb2 => ?_), fun k hk => by have := hb k hk; omega⟩
            have h1 := hb b hb1
            have h2 := hown.lt hb1
            rcases hb2 with e | e
            · omega
            · subst e
              rcases hown.2 with ⟨e2, _⟩ | ⟨g', cap, cur, fr, e2, hg, _⟩
              · rw [e2] at hb1; cases hb1
              · rw [e2] at hb1
                have := own_b hb1
                rw [← this, UD.out] at hg
                cases hg
          rw [← hpk] at r9
          refine ⟨by simp, .inl ⟨_, _, rfl, run_takeDeferred hXD, ?_⟩⟩
          refine ⟨.tuple #[.slice a7 (q + (2 + m)) c7, .agg #[.int .i64 (HH.a : Nat), .int .i64 (HH.b : Nat), .int .i64 (HH.c : Nat)], .bool true], ?_, a7, c7, by rw [hpl], by rw [hpl]; exact r9, kW7.trans2 kZ (fun i hi z => by omega)⟩
          simp [results, Tryz.results20, go_sem, y0, y1, y2]
        case stop =>
          intro D c0 pre V _ _ hf _
          exact hf.elim
end Go.Proofs.YtphakpikalmghaaGreat.Ma
namespace Go.Proofs.YtphakpikalmghaaGreat.Ma
open Go Go.RowKit Go.ChangeMaps Go.MapKept Go.Mg Go.Mt Go.Hf Go.Proofs.YtphakpikalmghaaGreat.Hu Go.Proofs.YtphakpikalmghaaGreat.Bw Go.Proofs.YtphakpikalmghaaGreat.He Go.Proofs.YtphakpikalmghaaGreat.Rd Go.Proofs.YtphakpikalmghaaGreat.Sq Go.Proofs.YtphakpikalmghaaGreat.Bk

/-- The lengths of the first s symbols, two in a byte. -/
def nf (L : Nat → Nat) (s : Nat) : Nat → Nat := fun i => (if 2 * i < s then L (2 * i) else 0) + (if 2 * i + 1 < s then 16 * L (2 * i + 1) else 0)
theorem nf_zero (L : Nat → Nat) (i : Nat) : nf L 0 i = 0 := by simp [nf]
theorem nf_even (L : Nat → Nat) (i : Nat) : nf L (2 * i) i = 0 ∧ (fun j => if j = i then L (2 * i) else nf L (2 * i) j) = nf L (2 * i + 1) := by
  refine ⟨by unfold nf; rw [if_neg (by omega), if_neg (by omega)], ?_⟩
  funext j
  unfold nf
  by_cases e : j = i
  · subst e; rw [if_pos rfl, if_pos (by omega), if_neg (by omega), Nat.add_zero]
  · rw [if_neg e]
    by_cases h1 : 2 * j < 2 * i
    · rw [if_pos h1, if_pos (by omega), if_pos (by omega), if_pos (by omega)]
    · rw [if_neg h1, if_neg (by omega), if_neg (by omega), if_neg (by omega)]
theorem nf_odd (L : Nat → Nat) (i : Nat) : nf L (2 * i + 1) i = L (2 * i) ∧ (fun j => if j = i then L (2 * i) + 16 * L (2 * i + 1) else nf L (2 * i + 1) j) = nf L (2 * i + 1 + 1) := by
  refine ⟨by unfold nf; rw [if_pos (by omega), if_neg (by omega), Nat.add_zero], ?_⟩
  funext j
  unfold nf
  by_cases e : j = i
  · subst e; rw [if_pos rfl, if_pos (by omega), if_pos (by omega)]
  · rw [if_neg e]
    by_cases h1 : 2 * j < 2 * i + 1
    · rw [if_pos h1, if_pos (by omega), if_pos (by omega), if_pos (by omega)]
    · rw [if_neg h1, if_neg (by omega), if_neg (by omega), if_neg (by omega)]
theorem or_nib8 {x y : Nat} (hx : x < 16) (hy : y < 16) : Go.bits .or .u8 (x : Int) ((y : Int) * 16) = ((x + 16 * y : Nat) : Int) := by
  have := (bits_nat .u8 8 (by decide) wraps_u8 x (16 * y) (by omega) (by omega)).2
  have e : ((16 * y : Nat) : Int) = (y : Int) * 16 := by push_cast; omega
  rw [e] at this
  rw [this, Nat.or_comm]
  have h4 : 16 * y = 2 ^ 4 * y := rfl
  rw [h4, ← Nat.two_pow_add_eq_or_of_lt (i := 4) (by omega) y]
  simp [Nat.add_comm]
theorem or_zero8 {y : Nat} (hy : y < 256) : Go.bits .or .u8 (0 : Int) (y : Int) = (y : Int) := by
  have := (bits_nat .u8 8 (by decide) wraps_u8 0 y (by omega) (by omega)).2
  simpa using this
theorem nib_row {w : World} {g : Nat} {L : Nat → Nat} (h : UAt w g 128 (nf L 256)) (hL : ∀ i, i < 256 → L i ≤ 11) : RowM 5 u8c g w (.slice (some ⟨g, 0, none⟩) 128 128) (nib L) := by
  have hl := nib_len L
  have e : (nib L).map u8c = (List.range 128).map fun i => Value.int .u8 (nf L 256 i : Nat) := by
    unfold nib
    rw [List.map_map]
    apply List.map_congr_left
    intro i hi
    have hi := List.mem_range.1 hi
    have h1 := hL (2 * i) (by omega)
    have h2 := hL (2 * i + 1) (by omega)
    have e2 : nf L 256 i = L (2 * i) + 16 * L (2 * i + 1) := by
      unfold nf; rw [if_pos (by omega), if_pos (by omega)]
    simp only [Function.comp, u8c]
    congr 1
    rw [UInt8.toNat_ofNat', e2]
    omega
  refine ⟨_, _, by rw [hl], ⟨by simp, .inr ⟨g, 128, _, (0, 0), rfl, h, .inl rfl, by rw [hl]; omega, by unfold maxLen; omega, ?_, ?_⟩⟩, fun k hk => Nat.le_of_eq (own_b hk).symm⟩
  · simp
  · rw [e]
    simp only [Nat.mul_one]
    rw [hl, List.take_of_length_le (by simp)]
theorem enc_o {w : World} {b : List UInt8} {L : Nat → Nat} (hL : IsLens (cts b) L) (hl : b.length ≤ 1000) {e : Ending} {w' : World} (h : EncPost w (lensOf 256 L) b e w') :
    ∃ (PO : List UInt8) (pa : Option Addr) (pc : Nat) (z : Bool), e = .returned (.tuple #[.slice pa PO.length pc, .bool z]) ∧ RowB w.heap.size w' (.slice pa PO.length pc) PO ∧ Kp (fun _ => False) w w' ∧ PO.length ≤ 2000 ∧ (0 < b.length → PO = codesB b) := by
  rcases h with ⟨hok, g, rfl, h1, h2, h3⟩ | ⟨hno, rfl, h3⟩
  · have hbl := bt_len hok.1.2.1 b b.length
    have hp := pack_row h2 (by omega)
    have hpl := pack_len (bt (lensOf 256 L) b b.length)
    refine ⟨pack (bt (lensOf 256 L) b b.length), some ⟨g, 0, none⟩, _, true, by rw [hpl], ?_, h3, by rw [hpl]; omega, fun h0 => (codes_le h0 hL).1.symm⟩
    rw [hpl] at hp ⊢
    exact hp.low h1
  · exact ⟨[], none, 0, false, rfl, RowM.nil _ _ _, h3, by simp, fun h0 => absurd (enc_ok h0 hL) hno⟩
def CodedPost (w : World) (b : List UInt8) (e : Ending) (w' : World) : Prop := ∃ (q : List UInt8) (a : Option Addr) (c : Nat), e = .returned (.slice a q.length c) ∧ RowB w.heap.size w' (.slice a q.length c) q ∧ Kp (fun _ => False) w w' ∧ q.length ≤ 20000 ∧ (0 < b.length → q = codedB b)
set_option maxRecDepth 100000 in
set_option maxHeartbeats 4000000 in
theorem coded_p (W : World) (b : List UInt8) (a : Option Addr) (c : Nat) (h : SlR W 1 (.slice a b.length c) b.length (b.map u8c)) (hl : b.length ≤ 1000) :
    Calls Tryz.prog 26 #[.slice a b.length c] W (CodedPost W b) := by
  obtain ⟨j0, hj0, hy0, hy1, hy2⟩ := info_parts infoU8
  have H := Lib.hid h
  have HCE : Hid (codedB b = nib (lensB b) ++ (two (codesB b).length ++ codesB b)) := Lib.hid rfl
  have HLE := Lib.hid (fun L hh => lensB_eq (b := b) (L := L) hh)
  have HCTL := Lib.hid (cts_len b)
  have HCTS := Lib.hid (cts_sum b)
  have HCTR := Lib.hid (cts_row b)
  have HUP := Lib.hid (cnt_up b)
  have HC0 : Hid (∀ i, cnt b 0 i = 0) := Lib.hid (fun _ => rfl)
  have HCNL := Lib.hid (cnt_le b)
  have HAT := Lib.hid (fun h0 => byts_at h h0)
  have HENC := Lib.hid (fun w xs a' c' hx hy hz => encode_p w xs a' c' hx hy b a c hz hl)
  have HEO := Lib.hid (fun w L hL e w' hh => enc_o (w := w) (b := b) (L := L) hL hl (e := e) (w' := w') hh)
  have hbyt : byt b = sym b := rfl
  rw [hbyt] at HAT
  have HSY := Lib.hid (sym_lt b)
  unfold CodedPost
  obtain ⟨n, hn⟩ : ∃ n, n = b.length := ⟨_, rfl⟩
  have HN := Lib.hid hn
  rw [← hn] at HCTS HCTR H HAT HENC HEO hl ⊢
  obtain ⟨W2, hmk, hia, hkw, hws⟩ := made_i W 256 (by omega)
  have hmk2 : (Instr.makeSlice 51 (.int .i64 256) (.int .i64 256)).run Tryz.prog W = .ok (.slice (some ⟨W.heap.size, 0, none⟩) 256 256) W2 := hmk
  have HI0 : Hid (IAt 3 W2 W.heap.size 256 (cnt b 0)) := Lib.hid (hia.congr (fun i _ => (HC0.out i).symm))
  have HKW := Lib.hid hkw
  clear h hn hbyt hmk hia hkw
  go_enter Tryz.func26, Tryz.ntmps26
  go_wp2_with fail
  obtain ⟨G, hG⟩ : ∃ G, G = W.heap.size := ⟨_, rfl⟩
  rw [← hG] at HI0 hws ⊢
  have HGE := Lib.hid hG
  clear hG hmk2
  go_loopw [5, 15] (fun _ i wr => ∃ k : Nat, k ≤ n ∧ i = .int .i64 k ∧ IAt 3 wr G 256 (cnt b k) ∧ Kp (fun _ => False) W wr ∧ G < wr.heap.size) (fun _ i _ => n - (intOf i).toNat)
  case atStart => exact ⟨0, Nat.zero_le _, rfl, HI0.out, HKW.out, hws⟩
  case round =>
    clear HI0 hws
    obtain ⟨k, hk, rfl, hat, hkw, hsz⟩ := hrel
    have HA := Lib.hid hat
    have HKR := Lib.hid hkw
    have HSZ := Lib.hid hsz
    clear hat hkw hsz
    by_cases hlt : k < n
    · obtain ⟨g, o, rfl, hg, hcap, hcc⟩ := HAT.out (by omega)
      have d0 := (HKR.out.cell (p := ⟨g, o + k, none⟩) hg (fun q => q)).trans (hcc k hlt)
      have h256 := HSY.out k
      have hup := HUP.out k
      have hcn := HCNL.out k (sym b k)
      obtain ⟨x, hx⟩ : ∃ x, x = sym b k := ⟨_, rfl⟩
      rw [← hx] at d0 h256 hup hcn
      have c1 := IAt.cell HA.out (i := x) (by omega)
      have f1 := IAt.free HA.out x
      have hset := IAt.set HA.out (i := x) (by omega) (cnt b k x + 1)
      rw [hup] at hset
      obtain ⟨y, hy⟩ : ∃ y, y = cnt b k x := ⟨_, rfl⟩
      rw [← hy] at c1 hset hcn
      have hks : Kp (· = G) wr (wr.setCell ⟨G, x, none⟩ (.int .i64 (y + 1 : Nat))) := (Kp.refl (· = G) wr).setCell (p := ⟨G, x, none⟩) (fun _ => rfl) _
      have hkw2 : Kp (fun _ => False) W (wr.setCell ⟨G, x, none⟩ (.int .i64 (y + 1 : Nat))) := HKR.out.trans2 hks (fun i hi q => by have := HGE.out; omega)
      obtain ⟨V, hV⟩ : ∃ V, V = wr.setCell ⟨G, x, none⟩ (.int .i64 (y + 1 : Nat)) := ⟨_, rfl⟩
      have hVi : wr.setCell ⟨G, x, none⟩ (.int .i64 ((y : Int) + 1)) = V := by rw [hV]; rfl
      have hVs : V.heap.size = wr.heap.size := by rw [hV]; simp
      rw [← hV] at hset hkw2
      have HSET := Lib.hid hset
      have HKW2 := Lib.hid hkw2
      have HVS := Lib.hid hVs
      clear hset hks hkw2 hV hVs hx hy hup hcc hg
      go_wp2_with fail
      exact ⟨⟨k + 1, by omega, by go_num, HSET.out, HKW2.out, by rw [HVS.out]; exact HSZ.out⟩, by simp [intOf]; try omega⟩
    · obtain rfl : k = n := by omega
      clear hlt hk HSY HUP HCNL HC0 HAT
      obtain ⟨wo, rfl⟩ : ∃ wo : World, wo = wr := ⟨_, rfl⟩
      have LD : Hid (Calls Tryz.prog 54 #[.slice (some ⟨G, 0, none⟩) 256 256] wo (LensPost wo (cts b))) := Lib.hid (by
        have := lens_p wo (cts b) (some ⟨G, 0, none⟩) 256 (by
          have h1 := IAt.rd HA.out (by omega)
          unfold IntsR at h1
          rw [HCTR.out] at h1
          rw [HCTL.out]
          exact h1) (by rw [HCTL.out]; omega) (by have := HCTS.out; omega)
        rw [HCTL.out] at this
        exact this)
      go_wp2_with fail
      refine LD.out.mono ?_
      rintro e w8 ⟨L, la, lc, rfl, hL, hlo, hk8⟩
      rw [HCTL.out] at hlo ⊢
      have HNM := Lib.hid (lens_nm hlo)
      have HLI : Hid (IntsR w8 la lc 256 L) := Lib.hid hlo.row.sl
      have HL := Lib.hid hL
      have HL11 : Hid (∀ i, i < 256 → L i ≤ 11) := Lib.hid (fun i hi => hL.le i (by rw [HCTL.out]; exact hi))
      have KW8 := Lib.hid (HKR.out.trans hk8)
      obtain ⟨lg, lo, rfl, -, hlcap, hlcc⟩ := HLI.out.at_ (by omega)
      have LC := Lib.hid hlcc
      obtain ⟨cur, hcur, hmk⟩ := make_u8 w8 128 (by omega)
      have hmk2 : (Instr.makeSlice 22 (.int .i64 128) (.int .i64 128)).run Tryz.prog w8 = .ok (.slice (some ⟨w8.heap.size, 0, none⟩) 128 128) (w8.alloc (.cells cur 5)) := hmk
      have U0 : Hid (UAt (w8.alloc (.cells cur 5)) w8.heap.size 128 (nf L 0)) := Lib.hid (by
        have := UAt.made (w := w8) hcur
        have e : (fun _ => 0) = nf L 0 := by funext i; exact (nf_zero L i).symm
        rw [e] at this
        exact this)
      have K0 := Lib.hid (kp_alloc w8 (.cells cur 5))
      have HEV := Lib.hid (nf_even L)
      have HOD := Lib.hid (nf_odd L)
      have HNR := Lib.hid (fun w g hh hl => nib_row (w := w) (g := g) (L := L) hh hl)
      clear hL hlo hk8 LD hlcc hcur hmk
      go_wp2_with fail
      generalize hW : w8.alloc (.cells cur 5) = W8 at U0 K0 ⊢
      clear hmk2 hW
      go_loopw [8, 9, 31] (fun _ _ i wn => ∃ s : Nat, s ≤ 256 ∧ i = .int .i64 s ∧ UAt wn w8.heap.size 128 (nf L s) ∧ Kp (fun _ => False) w8 wn) (fun _ _ i _ => 256 - (intOf i).toNat)
      case atStart => exact ⟨0, Nat.zero_le _, rfl, U0.out, K0.out⟩
      case round =>
        clear U0 K0
        obtain ⟨s, hs, rfl, hu, hkp⟩ := hrel
        have HK := Lib.hid hkp
        have HU := Lib.hid hu
        have HS := Lib.hid hs
        clear hs
        by_cases hsn : s < 256
        · have d0 : ∀ j, (wr.drewN j).cell? ⟨lg, lo + s, none⟩ = some (.int .i64 (L s : Nat)) := fun j => LC.out _ (hkp.drewN j) s hsn
          have d1 := LC.out _ hkp s hsn
          have hy11 := HL11.out s hsn
          have HSN := Lib.hid hsn
          rcases (show s % 2 = 0 ∨ s % 2 = 1 by omega) with hp | hp
          · obtain ⟨i, hi⟩ : ∃ i, s = 2 * i := ⟨s / 2, by omega⟩
            have hi128 : i < 128 := by omega
            rw [hi] at hu
            have f1 := hu.cell hi128
            have f2 : wr.frozen? ⟨w8.heap.size, i, none⟩ = false := free_of hu i
            have HSET := Lib.hid (UAt.set (w := wr.drew) hu hi128 (L (2 * i)))
            obtain ⟨e1, e2⟩ := HEV.out i
            rw [e1] at f1
            rw [e2] at HSET
            rw [← hi] at HSET
            have hx11 := HL11.out (2 * i) (by omega)
            have HII := Lib.hid hi
            have HI128 := Lib.hid hi128
            have HDEC : decide ((s : Int) < 256) = true := decide_eq_true (by omega)
            have q0 : (s : Int) / 2 = (i : Nat) := by omega
            have q1 : IntKind.i64.wrap (i : Int) = (i : Int) := by rw [IntKind.wrap_i64]; omega
            have q2 : (0 : Int) ≤ (i : Int) := by omega
            have q3 : (i : Int) < 128 := by omega
            have q5 : (s : Int).tmod 2 = 0 := by rw [Int.tmod_eq_emod_of_nonneg (by omega)]; omega
            have q6 : (s : Int) % 2 = 0 := by omega
            have q7 : IntKind.i64.wrap 0 = 0 := by rw [IntKind.wrap_i64]; omega
            obtain ⟨y, hy⟩ : ∃ y, y = L s := ⟨_, rfl⟩
            rw [← hy] at d1 hy11 HSET
            have hor := or_zero8 (y := y) (by omega)
            have hwy : (y : Int) % 256 = (y : Int) := by omega
            have hw1 : IntKind.u8.wrap (y : Int) = (y : Int) := by rw [IntKind.wrap_u8]; omega
            have hw2 : IntKind.i64.wrap (y : Int) = (y : Int) := by rw [IntKind.wrap_i64]; omega
            clear hy d0 hp
            clear e1 e2 hu hi hkp hsn hi128
            go_wp2_with fail
            go_region_law (fail)
            all_goals
              have hs6 := HSN.out
              go_wp2_with fail
              refine ⟨⟨s + 1, by omega, by go_num, ?_, ?_⟩, by simp [intOf]; omega⟩
              · exact HSET.out
              · exact HK.out.drew.setCell (p := ⟨w8.heap.size, i, none⟩) (fun q => by simp only at q; omega) _
          · obtain ⟨i, hi⟩ : ∃ i, s = 2 * i + 1 := ⟨s / 2, by omega⟩
            have hi128 : i < 128 := by omega
            rw [hi] at hu
            have f1 := hu.cell hi128
            have f2 : wr.frozen? ⟨w8.heap.size, i, none⟩ = false := free_of hu i
            have HSET := Lib.hid (UAt.set (w := wr.drew) hu hi128 (L (2 * i) + 16 * L (2 * i + 1)))
            obtain ⟨e1, e2⟩ := HOD.out i
            rw [e1] at f1
            rw [e2] at HSET
            rw [← hi] at HSET
            have hx11 := HL11.out (2 * i) (by omega)
            have HII := Lib.hid hi
            have HI128 := Lib.hid hi128
            have HDEC : decide ((s : Int) < 256) = true := decide_eq_true (by omega)
            have q0 : (s : Int) / 2 = (i : Nat) := by omega
            have q1 : IntKind.i64.wrap (i : Int) = (i : Int) := by rw [IntKind.wrap_i64]; omega
            have q2 : (0 : Int) ≤ (i : Int) := by omega
            have q3 : (i : Int) < 128 := by omega
            have q5 : (s : Int).tmod 2 = 1 := by rw [Int.tmod_eq_emod_of_nonneg (by omega)]; omega
            have q6 : (s : Int) % 2 = 1 := by omega
            have q7 : IntKind.i64.wrap 4 = 4 := by rw [IntKind.wrap_i64]; omega
            obtain ⟨x, hx⟩ : ∃ x, x = L (2 * i) := ⟨_, rfl⟩
            obtain ⟨y, hy⟩ : ∃ y, y = L s := ⟨_, rfl⟩
            rw [← hy] at d1 hy11 HSET
            rw [← hx] at f1 hx11 HSET
            have hor := or_nib8 (x := x) (y := y) (by omega) (by omega)
            have hwy : (y : Int) * 16 % 256 = (y : Int) * 16 := by omega
            have hw1 : IntKind.u8.wrap ((y : Int) * 16) = (y : Int) * 16 := by rw [IntKind.wrap_u8]; omega
            have hw2 : IntKind.i64.wrap ((y : Int) * 16) = (y : Int) * 16 := by rw [IntKind.wrap_i64]; omega
            clear hx hy d0 hp
            clear e1 e2 hu hi hkp hsn hi128
            go_wp2_with fail
            go_region_law (fail)
            all_goals
              have hs6 := HSN.out
              go_wp2_with fail
              refine ⟨⟨s + 1, by omega, by go_num, ?_, ?_⟩, by simp [intOf]; omega⟩
              · exact HSET.out
              · exact HK.out.drew.setCell (p := ⟨w8.heap.size, i, none⟩) (fun q => by simp only at q; omega) _
        · have hs256 : s = 256 := by have := HS.out; omega
          subst hs256
          have EN : Hid (Calls Tryz.prog 55 #[.slice (some ⟨lg, lo, none⟩) 256 lc, .slice a k c] wr (fun e w' => ∃ (PO : List UInt8) (pa : Option Addr) (pc : Nat) (z : Bool), e = .returned (.tuple #[.slice pa PO.length pc, .bool z]) ∧ RowB wr.heap.size w' (.slice pa PO.length pc) PO ∧ Kp (fun _ => False) wr w' ∧ PO.length ≤ 2000 ∧ (0 < k → PO = codesB b))) := Lib.hid (by
            have := HENC.out wr (lensOf 256 L) (some ⟨lg, lo, none⟩) lc (HNM.out.kp hkp) (by rw [lens_len]; omega) (H.out.kp (KW8.out.trans hkp) (fun _ _ q => q))
            rw [lens_len] at this
            exact this.mono (fun e w' hh => HEO.out wr L HL.out e w' hh))
          have NR := Lib.hid (HNR.out wr w8.heap.size hu HL11.out)
          have KN := Lib.hid (KW8.out.trans hkp)
          obtain ⟨nl, hnl⟩ : ∃ nl, nl = nib L := ⟨_, rfl⟩
          rw [← hnl] at NR
          have HNL := Lib.hid hnl
          have hnll : nl.length = 128 := by rw [hnl]; exact nib_len L
          have HNLL := Lib.hid hnll
          clear HEV HOD hu hkp HNR HENC HEO hnl hsn hnll
          go_wp2_with fail
          refine EN.out.mono ?_
          rintro e w12 ⟨PO, pa, pc, z, rfl, r12, k12, hm2, hcod⟩
          obtain ⟨m, hm⟩ : ∃ m, m = PO.length := ⟨_, rfl⟩
          rw [← hm] at r12 hm2 ⊢
          have HM := Lib.hid hm
          have HCOD := Lib.hid hcod
          have PR := Lib.hid r12
          have KP := Lib.hid (HK.out.trans k12)
          have RB := Lib.hid (NR.out.kp0 k12)
          have HNE : Hid (∀ x, (Value.slice pa m pc).ownBlock = some x → ¬ (Value.slice (some ⟨w8.heap.size, 0, none⟩) 128 128).ownBlock = some x) := Lib.hid (fun x q1 q2 => by
            have h1 := r12.lt q1
            have h2 := own_b q2
            have h3 := NR.out.lt q2
            omega)
          clear r12 k12 hm hcod EN
          go_wp2_with fail
          refine (sized_p m w12).mono ?_
          rintro e w13 ⟨g13, rfl, -, t13, k13⟩
          have T13 := Lib.hid t13.sl.1
          have KT := Lib.hid (KP.out.trans k13)
          have RB13 := Lib.hid (RB.out.kp0 k13)
          have P13 := Lib.hid ((PR.out.kp0 k13).sl.1)
          rw [← HM.out] at P13
          clear t13 k13
          go_wp2_with (first
            | (at_builtin; refine wpList_appM (w0 := w8) _ rfl _ _ 22 rfl 5 j0 _ 1 Tryz.underlying22 hj0 hy0 hy1 hy2 rfl (by decide) (by decide) u8c_1 (.slice (some ⟨w8.heap.size, 0, none⟩) 128 128) nl rfl RB13.out (.slice (some ⟨g13, 0, none⟩) 2 2) 2 (two m) rfl T13.out rfl KT.out 130 (by rw [HNLL.out]) (by omega) ?_; intro a15 c15 w15 g1 g2 g3; have G15 := Lib.hid g1; have K15 := Lib.hid g2; have P15 := Lib.hid (P13.out.kp g3 (fun x hb hb2 => HNE.out x hb hb2)); clear g1 g2 g3)
            | (at_builtin; refine wpList_appM (w0 := w8) _ rfl _ _ 22 rfl 5 j0 _ 1 Tryz.underlying22 hj0 hy0 hy1 hy2 rfl (by decide) (by decide) u8c_1 (.slice a15 130 c15) (nl ++ two m) rfl G15.out (.slice pa m pc) m PO rfl P15.out HM.out.symm K15.out (130 + m) (by rw [List.length_append, HNLL.out]; rfl) (by omega) ?_; intro a16 c16 w16 g1 g2 g3; have G16 := Lib.hid g1; have K16 := Lib.hid g2; clear g1 g2 g3))
          go_ret
          have hql : (nl ++ two m ++ PO).length = 130 + m := by rw [List.length_append, List.length_append, HNLL.out, ← HM.out]; rfl
          refine ⟨nl ++ two m ++ PO, a16, c16, by rw [hql]; rfl, ?_, KW8.out.trans K16.out, by rw [hql]; omega, fun h0 => ?_⟩
          · rw [hql]; exact G16.out.low KW8.out.size
          · rw [HCE.out, HLE.out L HL.out, ← HCOD.out h0, ← HM.out, ← HNL.out, List.append_assoc]
end Go.Proofs.YtphakpikalmghaaGreat.Ma
namespace Go.Proofs.YtphakpikalmghaaGreat.Ma
open Go Go.RowKit Go.ChangeMaps Go.MapKept Go.Mg Go.Mt Go.Hf Go.Proofs.YtphakpikalmghaaGreat.Hu Go.Proofs.YtphakpikalmghaaGreat.Bw Go.Proofs.YtphakpikalmghaaGreat.He Go.Proofs.YtphakpikalmghaaGreat.Sq Go.Proofs.YtphakpikalmghaaGreat.Bk

set_option maxRecDepth 100000 in
set_option maxHeartbeats 4000000 in
theorem rowP_same (W : World) (b : List UInt8) (a : Option Addr) (c : Nat) (h : SlR W 1 (.slice a b.length c) b.length (b.map u8c)) (hl : b.length ≤ 100000) (hsame : Bk.same b = true) :
    Calls Tryz.prog 11 #[.slice a b.length c] W (RowPost7 W (Bk.rowB b)) := by
  obtain ⟨j0, hj0, hy0, hy1, hy2⟩ := info_parts infoU8
  have h0 : 0 < b.length := by
    unfold Bk.same at hsame
    simp only [Bool.and_eq_true, decide_eq_true_eq] at hsame
    exact hsame.1
  have SM := Lib.hid (isRun_p W b a c h hl)
  rw [hsame] at SM
  obtain ⟨g, o, rfl, hg, hcap, hc⟩ := byts_at h h0
  have HB : Hid (Bk.rowB b = [1] ++ two b.length ++ [UInt8.ofNat (byt b 0)] ∧ (Bk.rowB b).length = 4) := Lib.hid (by
    unfold Bk.rowB
    rw [if_pos hsame]
    exact ⟨by simp [byt], by simp [two]⟩)
  have hc0 := hc 0 h0
  rw [Nat.add_zero] at hc0
  have hy256 := byt_lt b 0
  obtain ⟨y, hy⟩ : ∃ y, y = byt b 0 := ⟨_, rfl⟩
  rw [← hy] at HB hc0 hy256
  obtain ⟨n, hn⟩ : ∃ n, n = b.length := ⟨_, rfl⟩
  rw [← hn] at HB SM hl ⊢
  have TW := Lib.hid (sized_p n)
  have HCC := Lib.hid (fun V (hk : Kp (fun _ => False) W V) => (hk.cell (p := ⟨g, o, none⟩) hg (fun q => q)).trans hc0)
  have hn0 : 0 < n := by omega
  clear h hc hn hy hc0 hsame h0
  go_enter Tryz.func11, Tryz.ntmps11
  go_wp2_with fail
  refine SM.out.mono ?_
  rintro e w ⟨rfl, hw0⟩
  have K00 : Hid (Kp (fun _ => False) W w) := Lib.hid (by rw [hw0]; exact Kp.refl _ _)
  clear hw0 SM
  have HCELL : Hid (∀ V, Kp (fun _ => False) w V → V.cell? ⟨g, o, none⟩ = some (.int .u8 (y : Nat))) := Lib.hid (fun V hv => HCC.out V (K00.out.trans hv))
  have t0 := HCELL.out w (Kp.refl _ _)
  have e1 : u8c 1 = .int .u8 1 := rfl
  have ey := u8c_lt hy256
  have KE : Hid (Kp (fun _ => False) w w.drew) := Lib.hid (Kp.refl _ _).drew
  have K13 : Hid (Kp (fun _ => False) w (w.alloc (.cells #[.int .u8 1] 5)).drew) := Lib.hid (kp_alloc _ _).drew
  have K21 : Hid (Kp (fun _ => False) w (w.alloc (.cells #[.int .u8 (y : Nat)] 5)).drew) := Lib.hid (kp_alloc _ _).drew
  have K1321 : Hid (Kp (fun _ => False) w ((w.alloc (.cells #[.int .u8 1] 5)).alloc (.cells #[.int .u8 (y : Nat)] 5)).drew) := Lib.hid ((kp_alloc _ _).trans (kp_alloc _ _)).drew
  have K2113 : Hid (Kp (fun _ => False) w ((w.alloc (.cells #[.int .u8 (y : Nat)] 5)).alloc (.cells #[.int .u8 1] 5)).drew) := Lib.hid ((kp_alloc _ _).trans (kp_alloc _ _)).drew
  have ROW1 : Hid (∀ V : World, w.heap.size ≤ V.heap.size → RowB w.heap.size (V.alloc (.cells #[.int .u8 1] 5)) (.slice (some ⟨V.heap.size, 0, none⟩) 1 1) [1]) := Lib.hid (fun V hv => lit_one V _ _ _ hv 1 e1)
  have ROW1b : Hid (∀ V : World, w.heap.size ≤ V.heap.size → RowB w.heap.size ((V.alloc (.cells #[.int .u8 (y : Nat)] 5)).alloc (.cells #[.int .u8 1] 5)) (.slice (some ⟨V.heap.size + 1, 0, none⟩) 1 1) [1]) := Lib.hid (fun V hv => lit_two V _ _ _ _ hv 1 e1)
  have LIT21 : Hid (∀ V : World, SlR (V.alloc (.cells #[.int .u8 (y : Nat)] 5)) 1 (.slice (some ⟨V.heap.size, 0, none⟩) 1 1) 1 ([UInt8.ofNat y].map u8c)) := Lib.hid (fun V => (lit_one V 5 _ 0 (by omega) _ ey).sl.1)
  have LIT21b : Hid (∀ V : World, SlR ((V.alloc (.cells #[.int .u8 1] 5)).alloc (.cells #[.int .u8 (y : Nat)] 5)) 1 (.slice (some ⟨V.heap.size + 1, 0, none⟩) 1 1) 1 ([UInt8.ofNat y].map u8c)) := Lib.hid (fun V => (lit_two V 5 _ _ 0 (by omega) _ ey).sl.1)
  have R13a := Lib.hid (ROW1.out w (Nat.le_refl _))
  have R13c := Lib.hid (R13a.out.kp0 (kp_alloc _ (.cells #[.int .u8 (y : Nat)] 5)))
  have R13b := Lib.hid (ROW1b.out w (Nat.le_refl _))
  have S21a := Lib.hid (LIT21.out w)
  have S21c := Lib.hid (S21a.out.kp (kp_alloc _ (.cells #[.int .u8 1] 5)) (fun _ _ q => q))
  have S21b := Lib.hid (LIT21b.out w)
  have KGR : Hid (∀ X V : World, Kp (fun _ => False) w X → Kp (fun k => w.heap.size ≤ k) X V → Kp (fun _ => False) w V) := Lib.hid (fun X V h1 h2 => h1.trans2 h2 (fun i hi q => by omega))
  have LIT : Hid (∀ (X V : World) (v : Value) (g' n' c' : Nat), Kp (fun k => v.ownBlock = some k) X V → SlR X 1 (.slice (some ⟨g', 0, none⟩) n' c') n' ([UInt8.ofNat y].map u8c) → ¬ v.ownBlock = some g' → SlR V 1 (.slice (some ⟨g', 0, none⟩) n' c') n' ([UInt8.ofNat y].map u8c)) := Lib.hid (fun X V v g' n' c' h1 h2 h3 => h2.kp h1 (fun b hb q => by have := own_b hb; rw [this] at q; exact h3 q))
  clear ey e1
  go_wp2_with fail
  go_region_held3 (fun V => V.cell? ⟨g, o, none⟩ = some (.int .u8 (y : Nat))) (go_keep) ((first
    | (go_simp; go_at_call 16; refine (TW.out _).mono ?_; rintro e V ⟨g9, rfl, _, t9, k9⟩; have KV : Hid (Kp (fun _ => False) w V) := Lib.hid (Kp.trans (by first | exact KE.out | exact K13.out | exact K21.out | exact K1321.out | exact K2113.out) k9); have s0 : V.cell? ⟨g, o, none⟩ = some (.int .u8 (y : Nat)) := HCELL.out _ KV.out; have T9 := Lib.hid t9.sl.1; have kd9 := (Kp.refl (fun _ => False) _).drew.trans k9; have SZV := Lib.hid KV.out.size;
          (try have P13 : Hid (RowB w.heap.size V (.slice (some ⟨w.heap.size, 0, none⟩) 1 1) [1]) := Lib.hid (by first | exact R13a.out.kp0 kd9 | exact R13c.out.kp0 kd9));
          (try have P13 : Hid (RowB w.heap.size V (.slice (some ⟨w.heap.size + 1, 0, none⟩) 1 1) [1]) := Lib.hid (by exact R13b.out.kp0 kd9));
          (try have Q21 : Hid (SlR V 1 (.slice (some ⟨w.heap.size, 0, none⟩) 1 1) 1 ([UInt8.ofNat y].map u8c)) := Lib.hid (by first | exact S21a.out.kp kd9 (fun _ _ q => q) | exact S21c.out.kp kd9 (fun _ _ q => q)));
          (try have Q21 : Hid (SlR V 1 (.slice (some ⟨w.heap.size + 1, 0, none⟩) 1 1) 1 ([UInt8.ofNat y].map u8c)) := Lib.hid (by exact S21b.out.kp kd9 (fun _ _ q => q)));
          clear t9 k9 kd9)
    | (refine step_growB (B := w.heap.size) _ (by rfl) (.tmp 6) (.tmp 9) 22 (by rfl) j0 _ 1 Tryz.underlying22 hj0 hy0 hy1 hy2 (by decide) (by decide) u8c_1 _ [1] (by rfl) (by first | exact P13.out | exact P13.out.kp0 (kp_alloc _ _) | exact ROW1.out _ SZV.out | exact (ROW1.out _ SZV.out).kp0 (kp_alloc _ _) | exact ROW1b.out _ SZV.out) (by first | exact SZV.out | exact Nat.le_trans SZV.out (kp_alloc _ _).size | exact Nat.le_trans SZV.out (Nat.le_trans (kp_alloc _ _).size (kp_alloc _ _).size)) (.slice (some ⟨g9, 0, none⟩) 2 2) 2 (two n) (by rfl) (by first | exact T9.out | exact T9.out.kp (kp_alloc _ _) (fun _ _ q => q) | exact (T9.out.kp (kp_alloc _ _) (fun _ _ q => q)).kp (kp_alloc _ _) (fun _ _ q => q)) rfl 3 rfl (by omega) ?_; intro a6 d6 w6 hg hb6; have hk6 := hg.2.2.mono (G := fun k => w.heap.size ≤ k) (fun _ _ q => hb6 _ q); have s6 : w6.cell? ⟨g, o, none⟩ = some (.int .u8 (y : Nat)) := HCELL.out _ (KGR.out _ _ (by first | exact KV.out | exact KV.out.alloc _ | exact (KV.out.alloc _).alloc _) hk6); have G6 := Lib.hid hg.1; have K6 := Lib.hid (KGR.out _ _ (by first | exact KV.out | exact KV.out.alloc _ | exact (KV.out.alloc _).alloc _) hk6);
          (try have Z21 := Lib.hid (LIT.out _ _ _ _ _ _ hg.2.2 (by first | exact Q21.out | exact Q21.out.kp (kp_alloc _ _) (fun _ _ q => q)) (by intro q; have q2 := own_b q; first | omega | (have := slr_lt Q21.out; omega) | (have := slr_lt (c := 1) (xs := [u8c 1]) (by exact P13.out.sl.1); omega))));
          (try have Z21 := Lib.hid (LIT.out _ _ _ _ _ _ hg.2.2 (by first | exact LIT21b.out _ | exact LIT21.out _ | exact (LIT21.out _).kp (kp_alloc _ _) (fun _ _ q => q)) (by intro q; have q2 := own_b q; first | omega | (have := slr_lt (c := 1) (xs := [u8c 1]) (by exact P13.out.sl.1); omega))));
          clear hg hb6 hk6)
    | (refine step_growB (B := w.heap.size) _ (by rfl) (.tmp 10) (.tmp 14) 22 (by rfl) j0 _ 1 Tryz.underlying22 hj0 hy0 hy1 hy2 (by decide) (by decide) u8c_1 (.slice a6 3 d6) ([1] ++ two n) (by rfl) (by first | exact G6.out | exact G6.out.kp0 (kp_alloc _ _)) (by first | exact K6.out.size | exact (K6.out.alloc _).size) _ 1 [UInt8.ofNat y] (by rfl) (by first | exact Z21.out | exact LIT21.out _) rfl 4 rfl (by omega) ?_; intro a7 d7 w7 hg hb7; have hk7 := hg.2.2.mono (G := fun k => w.heap.size ≤ k) (fun _ _ q => hb7 _ q); have s7 : w7.cell? ⟨g, o, none⟩ = some (.int .u8 (y : Nat)) := HCELL.out _ (KGR.out _ _ (by first | exact K6.out | exact K6.out.alloc _) hk7); have G7 := Lib.hid hg.1; have K7 := Lib.hid (KGR.out _ _ (by first | exact K6.out | exact K6.out.alloc _) hk7); clear hg hb7 hk7)))
  all_goals (go_wp2_with fail)
  all_goals
    go_ret
    rw [HB.out.1]
    have hl4 : ([1] ++ two n ++ [UInt8.ofNat y] : List UInt8).length = 4 := rfl
    exact ⟨a7, d7, rfl, G7.out.low K00.out.size, K00.out.trans K7.out⟩
set_option maxRecDepth 100000 in
set_option maxHeartbeats 4000000 in
theorem rowP_not (W : World) (b : List UInt8) (a : Option Addr) (c : Nat) (h : SlR W 1 (.slice a b.length c) b.length (b.map u8c)) (hl : b.length ≤ 1000) (hsame : Bk.same b = false) :
    Calls Tryz.prog 11 #[.slice a b.length c] W (RowPost7 W (Bk.rowB b)) := by
  obtain ⟨j0, hj0, hy0, hy1, hy2⟩ := info_parts infoU8
  have SM := Lib.hid (isRun_p W b a c h (by omega))
  rw [hsame] at SM
  have H := Lib.hid h
  have HR := Lib.hid (row_not hsame)
  have HCL := Lib.hid (coded_len b)
  have CP := Lib.hid (coded_p W b a c h hl)
  unfold CodedPost at CP
  obtain ⟨n, hn⟩ : ∃ n, n = b.length := ⟨_, rfl⟩
  have HN := Lib.hid hn
  rw [← hn] at SM HR H hl CP ⊢
  have TW := Lib.hid (sized_p n)
  clear h hn hsame
  go_enter Tryz.func11, Tryz.ntmps11
  go_wp2_with fail
  refine SM.out.mono ?_
  rintro e w ⟨rfl, hw⟩
  obtain rfl := hw
  go_wp2_with fail
  refine CP.out.mono ?_
  rintro e w1 ⟨q, qa, qc, rfl, hq1, hk1, hq2, hq3⟩
  obtain ⟨m, hm⟩ : ∃ m, m = q.length := ⟨_, rfl⟩
  rw [← hm] at hq1 hq2 ⊢
  have HM := Lib.hid hm
  have HQ1 := Lib.hid hq1
  have HK1 := Lib.hid hk1
  have HQ3 := Lib.hid hq3
  clear hq1 hk1 hq3 hm CP
  by_cases hlt : m < n
  · have e : Bk.rowB b = [2] ++ two n ++ q := by
      have h1 := HQ3.out (by omega)
      rw [HR.out, ← h1, if_pos (by rw [← HM.out]; exact hlt)]
    have HE := Lib.hid e
    have hd1 : decide (m < n) = true := decide_eq_true hlt
    have hd2 : decide ((m : Int) < (n : Int)) = true := decide_eq_true (by omega)
    have R2 := Lib.hid (lit_one w1 5 (.int .u8 2) w1.heap.size (Nat.le_refl _) 2 rfl)
    have KA := Lib.hid (kp_alloc w1 (.cells #[.int .u8 2] 5))
    clear e hlt
    go_wp2_with fail
    refine (TW.out _).mono ?_
    rintro e V ⟨g9, rfl, -, t9, k9⟩
    have T9 := Lib.hid t9.sl.1
    have KV := Lib.hid (KA.out.trans k9)
    have R3 := Lib.hid (R2.out.kp0 k9)
    have Q3 := Lib.hid ((HQ1.out.kp0 KV.out).sl.1)
    rw [← HM.out] at Q3
    clear t9 k9
    go_wp2_with (first
      | (at_builtin; refine wpList_appM (w0 := w1) _ rfl _ _ 22 rfl 5 j0 _ 1 Tryz.underlying22 hj0 hy0 hy1 hy2 rfl (by decide) (by decide) u8c_1 (.slice (some ⟨w1.heap.size, 0, none⟩) 1 1) [2] rfl R3.out (.slice (some ⟨g9, 0, none⟩) 2 2) 2 (two n) rfl T9.out rfl KV.out 3 rfl (by omega) ?_; intro a5 c5 w9 g1 g2 g3; have G1 := Lib.hid g1; have K9 := Lib.hid g2; have Q9 := Lib.hid ((HQ1.out.kp0 g2).sl.1); rw [← HM.out] at Q9; clear g1 g2 g3)
      | (at_builtin; refine wpList_appM (w0 := w1) _ rfl _ _ 22 rfl 5 j0 _ 1 Tryz.underlying22 hj0 hy0 hy1 hy2 rfl (by decide) (by decide) u8c_1 (.slice a5 3 c5) ([2] ++ two n) rfl G1.out (.slice qa m qc) m q rfl Q9.out HM.out.symm K9.out (3 + m) rfl (by omega) ?_; intro a6 c6 w10 g1 g2 g3; have G2 := Lib.hid g1; have K10 := Lib.hid g2; clear g1 g2 g3))
    go_ret
    have hql : ([2] ++ two n ++ q : List UInt8).length = 3 + m := by rw [List.length_append, ← HM.out]; rfl
    exact ⟨a6, c6, by rw [HE.out, hql]; rfl, by rw [HE.out, hql]; exact G2.out.low HK1.out.size, HK1.out.trans K10.out⟩
  · have e : Bk.rowB b = [0] ++ two n ++ b := by
      rw [HR.out, if_neg]
      intro hh
      have h1 := HQ3.out (by have := HCL.out; omega)
      rw [← h1, ← HM.out] at hh
      exact hlt hh
    have HE := Lib.hid e
    have hd1 : decide (m < n) = false := decide_eq_false hlt
    have hd2 : decide ((m : Int) < (n : Int)) = false := decide_eq_false (by omega)
    have R2 := Lib.hid (lit_one w1 5 (.int .u8 0) w1.heap.size (Nat.le_refl _) 0 rfl)
    have KA := Lib.hid (kp_alloc w1 (.cells #[.int .u8 0] 5))
    clear e hlt
    go_wp2_with fail
    refine (TW.out _).mono ?_
    rintro e V ⟨g9, rfl, -, t9, k9⟩
    have T9 := Lib.hid t9.sl.1
    have KV := Lib.hid (KA.out.trans k9)
    have R3 := Lib.hid (R2.out.kp0 k9)
    clear t9 k9
    go_wp2_with (first
      | (at_builtin; refine wpList_appM (w0 := w1) _ rfl _ _ 22 rfl 5 j0 _ 1 Tryz.underlying22 hj0 hy0 hy1 hy2 rfl (by decide) (by decide) u8c_1 (.slice (some ⟨w1.heap.size, 0, none⟩) 1 1) [0] rfl R3.out (.slice (some ⟨g9, 0, none⟩) 2 2) 2 (two n) rfl T9.out rfl KV.out 3 rfl (by omega) ?_; intro a5 c5 w9 g1 g2 g3; have G1 := Lib.hid g1; have K9 := Lib.hid g2; have Q9 := Lib.hid (H.out.kp (HK1.out.trans g2) (fun _ _ q => q)); clear g1 g2 g3)
      | (at_builtin; refine wpList_appM (w0 := w1) _ rfl _ _ 22 rfl 5 j0 _ 1 Tryz.underlying22 hj0 hy0 hy1 hy2 rfl (by decide) (by decide) u8c_1 (.slice a5 3 c5) ([0] ++ two n) rfl G1.out (.slice a n c) n b rfl Q9.out HN.out.symm K9.out (3 + n) rfl (by omega) ?_; intro a6 c6 w10 g1 g2 g3; have G2 := Lib.hid g1; have K10 := Lib.hid g2; clear g1 g2 g3))
    go_ret
    have hql : ([0] ++ two n ++ b : List UInt8).length = 3 + n := by rw [List.length_append, ← HN.out]; rfl
    exact ⟨a6, c6, by rw [HE.out, hql]; rfl, by rw [HE.out, hql]; exact G2.out.low HK1.out.size, HK1.out.trans K10.out⟩
theorem rowP_p (W : World) (b : List UInt8) (a : Option Addr) (c : Nat) (h : SlR W 1 (.slice a b.length c) b.length (b.map u8c)) (hl : b.length ≤ 1000) :
    Calls Tryz.prog 11 #[.slice a b.length c] W (RowPost7 W (Bk.rowB b)) := by
  cases e : Bk.same b with
  | true => exact rowP_same W b a c h (by omega) e
  | false => exact rowP_not W b a c h hl e
end Go.Proofs.YtphakpikalmghaaGreat.Ma
namespace Go.Proofs.YtphakpikalmghaaGreat.Ma
open Go Go.RowKit Go.ChangeMaps Go.MapKept Go.Mg Go.Mt Go.Hf Go.Proofs.YtphakpikalmghaaGreat.Hu Go.Proofs.YtphakpikalmghaaGreat.Bw Go.Proofs.YtphakpikalmghaaGreat.He Go.Proofs.YtphakpikalmghaaGreat.Rd Go.Proofs.YtphakpikalmghaaGreat.Sq Go.Proofs.YtphakpikalmghaaGreat.Bk

theorem row7_d (W : World) (b : List UInt8) (a : Option Addr) (c : Nat) (h : SlR W 1 (.slice a b.length c) b.length (b.map u8c)) (hl : b.length ≤ 1000) :
    Calls Tryz.prog 15 #[.slice a b.length c] W (RowPost7 W (Bk.rowB b)) := by
  cases e : Bk.same b with
  | true => exact row7_same W b a c h (by omega) e
  | false => exact row7_not W b a c h hl e
theorem rowB7_len (b : List UInt8) : (Bk.rowB b).length ≤ 4 + b.length := by
  unfold Bk.rowB
  split
  · simp [two]
  · split
    · simp [two]; omega
    · simp [two]; omega
theorem packB_le {l : List Sq} (hm : May l) (h : H3) : (packB l h).length ≤ 40000 := by
  have hn := hm.1
  unfold packB
  split
  · simp [two]
  · have h1 := exB_len hm h l.length
    have h2 := pack_len (exB l h l.length)
    have p1 := packO_le (v := lit l) (n := l.length)
    have p2 := packO_le (v := off l h) (n := l.length)
    have p3 := packO_le (v := mor l) (n := l.length)
    simp only [List.length_append, rowB_len, sized, two, List.length_cons, List.length_nil]
    omega
def EncPost7 (w : World) (r : List UInt8) (h : H3) (e : Ending) (w' : World) : Prop := ∃ a c, e = .returned (.tuple #[.slice a r.length c, hv3 h]) ∧ RowB w.heap.size w' (.slice a r.length c) r ∧ Kp (fun _ => False) w w'
set_option maxRecDepth 100000 in
set_option maxHeartbeats 4000000 in
theorem encode7_not (w : World) (p d : List UInt8) (ap : Option Addr) (cp : Nat) (hp : SlR w 1 (.slice ap p.length cp) p.length (p.map u8c)) (ad : Option Addr) (cd : Nat) (hd : SlR w 1 (.slice ad d.length cd) d.length (d.map u8c)) (hl1 : p.length ≤ 2000) (hl2 : d.length ≤ 500) (depth : Nat) (hd1 : 1 ≤ depth) (hd2 : depth ≤ 32) (h : H3) (hsame : Bk.same d = false) :
    Calls Tryz.prog 9 #[.slice ap p.length cp, .slice ad d.length cd, .int .i64 (depth : Nat), hv3 h] w (EncPost7 w (Bk.encB p d depth h).1 (Bk.encB p d depth h).2) := by
  have mixed : Tryz.prog.follows .mixedOrders = true := by kernel_rfl
  obtain ⟨j0, hj0, hy0, hy1, hy2⟩ := info_parts infoU8
  obtain ⟨hmay, htot⟩ := steps_may p d depth hl1 hl2
  have SM := Lib.hid (fun V hV => same7_d V d ad cd (hd.kp hV (fun _ _ q => q)) (by omega))
  rw [hsame] at SM
  have PA := Lib.hid (fun V hV => parse_d V p d ap cp (hp.kp hV (fun _ _ q => q)) ad cd (hd.kp hV (fun _ _ q => q)) hl1 hl2 depth hd1 hd2)
  have HD := Lib.hid hd
  obtain ⟨l, hl⟩ : ∃ l, l = stepsB p d depth := ⟨_, rfl⟩
  have hl' : rest (byt (p ++ d)) (p ++ d).length depth p.length 0 = l := hl.symm
  unfold ParsePost at PA
  rw [hl'] at PA
  rw [← hl] at hmay htot
  have hl500 := hmay.1
  have LI := Lib.hid (fun V al cl hV hs => literals_d V d ad cd (hd.kp hV (fun _ _ q => q)) l al cl hs hl2 (by omega) htot)
  have PK := Lib.hid (fun V al cl hs => pack_loop V l al cl hs hmay h)
  obtain ⟨LT, hLT⟩ : ∃ LT, LT = literals d l := ⟨_, rfl⟩
  have hlt5 : LT.length ≤ 500 := by rw [hLT]; exact Nat.le_trans (literals_len d l htot) hl2
  have RW := Lib.hid (fun V a c hs => row7_d V LT a c hs (by omega))
  obtain ⟨RL, hRL⟩ : ∃ RL, RL = Bk.rowB LT := ⟨_, rfl⟩
  have hrl : RL.length ≤ 504 := by rw [hRL]; have := rowB7_len LT; omega
  obtain ⟨PB, hPB⟩ : ∃ PB, PB = packB l h := ⟨_, rfl⟩
  have hpb : PB.length ≤ 40000 := by rw [hPB]; exact packB_le hmay h
  obtain ⟨h2, hh2⟩ : ∃ h2, h2 = hs (ofs l) h l.length := ⟨_, rfl⟩
  have HB : Hid (Bk.encB p d depth h = if 2 + (RL ++ PB).length < d.length then (two d.length ++ [2] ++ two (RL ++ PB).length ++ (RL ++ PB), h2) else (two d.length ++ [0] ++ d, h)) := Lib.hid (by
    unfold Bk.encB Bk.bodyB
    rw [if_neg (by rw [hsame]; decide), ← hl, ← hLT, ← hRL, ← hPB, ← hh2])
  unfold LitPost at LI
  unfold PackPost at PK
  rw [← hLT] at LI
  rw [← hRL] at RW
  rw [← hPB, ← hh2] at PK
  obtain ⟨r, hr⟩ : ∃ r, r = Bk.encB p d depth h := ⟨_, rfl⟩
  rw [← hr] at HB ⊢
  obtain ⟨nL, hnL⟩ : ∃ nL, nL = RL.length := ⟨_, rfl⟩
  obtain ⟨nP, hnP⟩ : ∃ nP, nP = PB.length := ⟨_, rfl⟩
  obtain ⟨n, hn⟩ : ∃ n, n = d.length := ⟨_, rfl⟩
  obtain ⟨m, hm⟩ : ∃ m, m = p.length := ⟨_, rfl⟩
  have HnL := Lib.hid hnL
  have HnP := Lib.hid hnP
  have HN := Lib.hid hn
  rw [← hn] at SM PA LI HD HB hl2 ⊢
  rw [← hm] at PA ⊢
  rw [← hnL] at hrl
  rw [← hnP] at hpb PK
  have HBD : Hid (n ≤ 500 ∧ nL ≤ 504 ∧ nP ≤ 40000) := Lib.hid ⟨hl2, hrl, hpb⟩
  clear hsame hd hp hmay htot hl hl' hl500 hLT hlt5 hRL hrl hPB hpb hh2 hr hnL hnP hn hm hl1 hl2 hd1 hd2
  obtain ⟨ha, hb, hc⟩ := h
  obtain ⟨ka, kb, kc⟩ := h2
  have hhv : ∀ a b c, hv3 ⟨a, b, c⟩ = .agg #[.int .i64 (a : Nat), .int .i64 (b : Nat), .int .i64 (c : Nat)] := fun _ _ _ => rfl
  rw [hhv] at PK ⊢
  simp only [hhv] at PK
  clear hhv
  go_enter Tryz.func9, Tryz.ntmps9
  go_wp2_with fail
  obtain ⟨W, hW⟩ : ∃ W, W = (w.alloc (.cells #[.int .i64 (ha : Nat), .int .i64 (hb : Nat), .int .i64 (hc : Nat)] 23)).alloc (.cells #[.int .i64 0, .int .i64 0, .int .i64 0] 23) := ⟨_, rfl⟩
  have hws : W.heap.size = w.heap.size + 2 := by rw [hW]; simp
  have hkW : Kp (fun _ => False) w W := by rw [hW]; exact (kp_alloc _ _).trans (kp_alloc _ _)
  have hG0 : HAt W w.heap.size ⟨ha, hb, hc⟩ := by
    rw [hW]; exact (kp_alloc _ _).at_ (alloc_at w _) (fun q => q)
  have hR0 : HAt W (w.heap.size + 1) ⟨0, 0, 0⟩ := by
    rw [hW]; have := alloc_at (w.alloc (.cells #[.int .i64 (ha : Nat), .int .i64 (hb : Nat), .int .i64 (hc : Nat)] 23)) (.cells #[.int .i64 0, .int .i64 0, .int .i64 0] 23)
    rw [World.size_alloc] at this
    exact this
  rw [← hW]
  obtain ⟨G, hG⟩ : ∃ G, G = w.heap.size := ⟨_, rfl⟩
  rw [← hG] at hG0 hR0 ⊢
  have HW := Lib.hid hws
  have HKW := Lib.hid hkW
  have HGE := Lib.hid hG
  have HG := Lib.hid (fun V (hV : Kp (fun _ => False) W V) => And.intro (hG0.kp hV (fun q => q)) (hR0.kp hV (fun q => q)))
  have SMW := Lib.hid (SM.out W hkW)
  clear hW hws hkW hG0 hR0 hG
  refine SMW.out.mono ?_
  rintro e w1 ⟨rfl, q0, hw1⟩
  have K1 : Hid (Kp (fun _ => False) W w1) := Lib.hid (by rw [hw1]; exact (Kp.refl _ _).drewN q0)
  have PA1 := Lib.hid (PA.out w1 (HKW.out.trans K1.out))
  clear hw1 SMW SM PA
  go_wp2_with fail
  refine PA1.out.mono ?_
  rintro e w2 ⟨v2, rfl, hv2, hk2⟩
  obtain ⟨a2, c2, rfl, hown2, hbey2⟩ := hv2
  have Q2 : Hid (RowQ w1.heap.size w2 (.slice a2 l.length c2) l) := Lib.hid ⟨a2, c2, rfl, hown2, hbey2⟩
  have K2 := Lib.hid (K1.out.trans hk2)
  have LI2 := Lib.hid (LI.out w2 a2 c2 (HKW.out.trans K2.out) Q2.out.sl.1)
  clear hown2 hbey2 hk2 LI PA1
  go_wp2_with fail
  refine LI2.out.mono ?_
  rintro e w3 ⟨v3, rfl, hv3, hk3⟩
  obtain ⟨a3, c3, rfl, hown3, hbey3⟩ := hv3
  have L3 : Hid (RowB w2.heap.size w3 (.slice a3 LT.length c3) LT) := Lib.hid ⟨a3, c3, rfl, hown3, hbey3⟩
  have K3 := Lib.hid (K2.out.trans hk3)
  have PK3 := Lib.hid (PK.out w3 a2 c2 (Q2.out.kp0 hk3).sl.1)
  obtain ⟨t0, t1, t2⟩ := (HG.out w3 K3.out).1.cells
  clear hown3 hbey3 hk3 PK LI2
  go_wp2_with fail
  refine PK3.out.mono ?_
  rintro e w4 ⟨a4, c4, rfl, hv4, hk4⟩
  have P4 := Lib.hid hv4
  have K4 := Lib.hid (K3.out.trans hk4)
  have L4 := Lib.hid (L3.out.kp0 hk4)
  clear hv4 hk4 t0 t1 t2 PK3
  go_wp2_with fail
  obtain ⟨W5, hW5⟩ : ∃ W5, W5 = w4.alloc (.cells #[.int .i64 (ka : Nat), .int .i64 (kb : Nat), .int .i64 (kc : Nat)] 23) := ⟨_, rfl⟩
  have hk5 : Kp (fun _ => False) w4 W5 := by rw [hW5]; exact kp_alloc _ _
  have hA5 : HAt W5 w4.heap.size ⟨ka, kb, kc⟩ := by rw [hW5]; exact alloc_at w4 _
  rw [← hW5]
  obtain ⟨AB, hAB⟩ : ∃ AB, AB = w4.heap.size := ⟨_, rfl⟩
  rw [← hAB] at hA5 ⊢
  have hne : AB ≠ G + 1 := by have := K4.out.size; have := HW.out; have := HGE.out; omega
  have HNE := Lib.hid hne
  have HA := Lib.hid (fun V (hV : Kp (fun _ => False) W5 V) => hA5.kp hV (fun q => q))
  have K5 := Lib.hid (K4.out.trans hk5)
  have P5 := Lib.hid (P4.out.kp0 hk5)
  have RW5 := Lib.hid (RW.out W5 a3 c3 (L4.out.kp0 hk5).sl.1)
  have HSZ5 : Hid (w.heap.size + 2 ≤ W5.heap.size) := Lib.hid (by have := K5.out.size; have := HW.out; omega)
  clear hW5 hk5 hA5 hAB hne RW P4 L4 L3
  refine RW5.out.mono ?_
  rintro e w6 ⟨a6, c6, rfl, p6, k6⟩
  rw [← HnL.out] at p6 ⊢
  have R6 := Lib.hid p6
  have K6 := Lib.hid k6
  have P6 := Lib.hid ((P5.out.kp0 k6).sl.1)
  rw [← HnP.out] at P6
  have hbd := HBD.out
  obtain ⟨nB, hnB⟩ : ∃ nB, nB = nL + nP := ⟨_, rfl⟩
  obtain ⟨nF, hnF⟩ : ∃ nF, nF = nB + 5 := ⟨_, rfl⟩
  obtain ⟨nR, hnR⟩ : ∃ nR, nR = n + 3 := ⟨_, rfl⟩
  have HNB : Hid ((RL ++ PB).length = nB ∧ RL.length + nP = nB ∧ nB ≤ 50000) := Lib.hid ⟨by rw [List.length_append, ← HnL.out, ← HnP.out, hnB], by rw [← HnL.out, hnB], by omega⟩
  have HNF : Hid ((two n ++ [2] ++ two nB).length + nB = nF ∧ nF ≤ 60000 ∧ (two n ++ [2] ++ two nB ++ (RL ++ PB)).length = nF) := Lib.hid ⟨by simp [two]; omega, by omega, by rw [List.length_append (bs := RL ++ PB), HNB.out.1]; simp [two]; omega⟩
  have HNR : Hid ((two n ++ [0]).length + n = nR ∧ nR ≤ 600 ∧ (two n ++ [0] ++ d).length = nR) := Lib.hid ⟨by simp [two]; omega, by omega, by rw [List.length_append (bs := d), ← HN.out]; simp [two]; omega⟩
  have HBB : Hid (r = if nF < nR then (two n ++ [2] ++ two nB ++ (RL ++ PB), ⟨ka, kb, kc⟩) else (two n ++ [0] ++ d, ⟨ha, hb, hc⟩)) := Lib.hid (by
    rw [HB.out, HNB.out.1]
    by_cases hh : nF < nR
    · rw [if_pos hh, if_pos (by omega)]
    · rw [if_neg hh, if_neg (by omega)])
  clear p6 k6 P5 RW5 hbd hnB hnF hnR HB
  go_wp2_with (at_builtin; refine wpList_appM (w0 := W5) _ rfl _ _ 22 rfl 5 j0 _ 1 Tryz.underlying22 hj0 hy0 hy1 hy2 rfl (by decide) (by decide) u8c_1 (.slice a6 nL c6) RL rfl R6.out (.slice a4 nP c4) nP PB rfl P6.out HnP.out.symm K6.out nB HNB.out.2.1 (by have := HNB.out.2.2; omega) ?_; intro a7 c7 w7 g1 g2 g3; have B7 := Lib.hid g1; have K7 := Lib.hid g2; clear g1 g2 g3)
  refine (two7_d n w7).mono ?_
  rintro e w8 ⟨g8, rfl, -, t8, k8⟩
  have T8 := Lib.hid t8
  have K8 := Lib.hid k8
  have L8 := Lib.hid (lit_one w8 5 (.int .u8 2) 0 (by omega) 2 rfl)
  have KA8 := Lib.hid (kp_alloc w8 (.cells #[.int .u8 2] 5))
  have T8A := Lib.hid (T8.out.kp0 KA8.out)
  have K8A := Lib.hid (K8.out.trans KA8.out)
  clear t8 k8
  go_wp2_with (at_builtin; refine wpList_appM (w0 := w7) _ rfl _ _ 22 rfl 5 j0 _ 1 Tryz.underlying22 hj0 hy0 hy1 hy2 rfl (by decide) (by decide) u8c_1 (.slice (some ⟨g8, 0, none⟩) 2 2) (two n) rfl T8A.out (.slice (some ⟨w8.heap.size, 0, none⟩) 1 1) 1 [2] rfl L8.out.sl.1 rfl K8A.out 3 rfl (by omega) ?_; intro a9 c9 w9 g1 g2 g3; have B9 := Lib.hid g1; have K9 := Lib.hid g2; clear g1 g2 g3)
  refine (two7_d nB w9).mono ?_
  rintro e w10 ⟨g10, rfl, -, t10, k10⟩
  have T10 := Lib.hid t10.sl.1
  have K10 := Lib.hid (K9.out.trans k10)
  have B10 := Lib.hid (B9.out.kp0 k10)
  clear t10 k10 L8 KA8 T8A K8A T8 K8 B9
  go_wp2_with (first
    | (at_builtin; refine wpList_appM (w0 := w7) _ rfl _ _ 22 rfl 5 j0 _ 1 Tryz.underlying22 hj0 hy0 hy1 hy2 rfl (by decide) (by decide) u8c_1 (.slice a9 3 c9) (two n ++ [2]) rfl B10.out (.slice (some ⟨g10, 0, none⟩) 2 2) 2 (two nB) rfl T10.out rfl K10.out 5 rfl (by omega) ?_; intro a11 c11 w11 g1 g2 g3; have B11 := Lib.hid g1; have K11 := Lib.hid g2; have P11 := Lib.hid (B7.out.kp0 g2).sl.1; rw [HNB.out.1] at P11; clear g1 g2 g3)
    | (at_builtin; refine wpList_appM (w0 := w7) _ rfl _ _ 22 rfl 5 j0 _ 1 Tryz.underlying22 hj0 hy0 hy1 hy2 rfl (by decide) (by decide) u8c_1 (.slice a11 5 c11) (two n ++ [2] ++ two nB) rfl B11.out (.slice a7 nB c7) nB (RL ++ PB) rfl P11.out HNB.out.1 K11.out nF HNF.out.1 (by have := HNF.out.2.1; omega) ?_; intro a12 c12 w12 g1 g2 g3; have FU := Lib.hid g1; have K12 := Lib.hid g2; clear g1 g2 g3))
  refine (two7_d n w12).mono ?_
  rintro e w13 ⟨g13, rfl, -, t13, k13⟩
  have T13 := Lib.hid t13
  have K13 := Lib.hid k13
  have L13 := Lib.hid (lit_one w13 5 (.int .u8 0) 0 (by omega) 0 rfl)
  have KA13 := Lib.hid (kp_alloc w13 (.cells #[.int .u8 0] 5))
  have T13A := Lib.hid (T13.out.kp0 KA13.out)
  have K13A := Lib.hid (K13.out.trans KA13.out)
  have KD := Lib.hid (((HKW.out.trans K5.out).trans K7.out).trans K12.out)
  clear t13 k13 T10 K10 B10 B11 P11 K11
  by_cases hcmp : nF < nR
  all_goals
    try have hc1 : decide (nF < nR) = true := decide_eq_true hcmp
    try have hc2 : decide ((nF : Int) < (nR : Int)) = true := decide_eq_true (by omega)
    try have hc1 : decide (nF < nR) = false := decide_eq_false hcmp
    try have hc2 : decide ((nF : Int) < (nR : Int)) = false := decide_eq_false (by omega)
    have HCMP := Lib.hid hcmp
    clear hcmp
    go_wp2_with (first
      | (at_builtin; refine wpList_appM (w0 := w12) _ rfl _ _ 22 rfl 5 j0 _ 1 Tryz.underlying22 hj0 hy0 hy1 hy2 rfl (by decide) (by decide) u8c_1 (.slice (some ⟨g13, 0, none⟩) 2 2) (two n) rfl T13A.out (.slice (some ⟨w13.heap.size, 0, none⟩) 1 1) 1 [0] rfl L13.out.sl.1 rfl K13A.out 3 rfl (by omega) ?_; intro a14 c14 w14 g1 g2 g3; have B14 := Lib.hid g1; have K14 := Lib.hid g2; have D14 := Lib.hid (HD.out.kp (KD.out.trans g2) (fun _ _ q => q)); clear g1 g2 g3)
      | (at_builtin; refine wpList_appM (w0 := w12) _ rfl _ _ 22 rfl 5 j0 _ 1 Tryz.underlying22 hj0 hy0 hy1 hy2 rfl (by decide) (by decide) u8c_1 (.slice a14 3 c14) (two n ++ [0]) rfl B14.out (.slice ad n cd) n d rfl D14.out HN.out.symm K14.out nR HNR.out.1 (by have := HNR.out.2.1; omega) ?_; intro a15 c15 w15 g1 g2 g3; have RA := Lib.hid g1; have K15 := Lib.hid g2; clear g1 g2 g3))
    have KW15 := Lib.hid (((K5.out.trans K7.out).trans K12.out).trans K15.out)
    obtain ⟨s0, s1, s2⟩ := (HA.out w15 ((K7.out.trans K12.out).trans K15.out)).cells
    obtain ⟨u0, u1, u2⟩ := (HG.out w15 KW15.out).1.cells
    have hr15 := (HG.out w15 KW15.out).2
    obtain ⟨r0, r1, r2⟩ := hr15.cells
    have f0 : w15.frozen? ⟨G + 1, 0, none⟩ = false := free_of hr15 0
    have f1 : w15.frozen? ⟨G + 1, 1, none⟩ = false := free_of hr15 1
    have f2 : w15.frozen? ⟨G + 1, 2, none⟩ = false := free_of hr15 2
    have hne := HNE.out
    have hne2 : G + 1 ≠ AB := fun q => hne q.symm
    have HR15 := Lib.hid hr15
    clear hr15
  · have hrr := HBB.out
    rw [if_pos HCMP.out] at hrr
    have HRR := Lib.hid hrr
    clear hrr
    go_region_held3 (fun V => V.cell? ⟨AB, 0, none⟩ = some (.int .i64 (ka : Nat)) ∧ V.cell? ⟨AB, 1, none⟩ = some (.int .i64 (kb : Nat)) ∧ V.cell? ⟨AB, 2, none⟩ = some (.int .i64 (kc : Nat))) (go_keep) ((fail))
    all_goals (go_wp2_with fail)
    all_goals
      obtain ⟨hst, hkst⟩ := HR15.out.store ka kb kc
      obtain ⟨y0, y1, y2⟩ := hst.cells
      have hk9 : Kp (fun _ => False) w _ := (HKW.out.trans KW15.out).trans2 hkst (fun i hi q => by have := HGE.out; omega)
      have hr9 := RowM.kp (FU.out.kp0 K15.out) hkst.drew (fun j q => by rw [q]; have := HGE.out; have := HSZ5.out; have := K7.out.size; have := K12.out.size; omega)
      have hl9 := HNF.out.2.2
      refine bodyPost_ret (v := .tuple #[.slice a12 nF c12, hv3 ⟨ka, kb, kc⟩]) ?_ rfl ⟨a12, c12, by rw [HRR.out]; simp only [hl9], by rw [HRR.out]; simp only [hl9]; exact hr9.low (by have := HSZ5.out; have := K7.out.size; have := K12.out.size; omega), (by first | exact hk9 | exact hk9.drew)⟩
      simp [results, Tryz.results9, go_sem, y0, y1, y2, hv3]
  · have hrr := HBB.out
    rw [if_neg HCMP.out] at hrr
    have HRR := Lib.hid hrr
    clear hrr
    go_region_held3 (fun V => V.cell? ⟨G, 0, none⟩ = some (.int .i64 (ha : Nat)) ∧ V.cell? ⟨G, 1, none⟩ = some (.int .i64 (hb : Nat)) ∧ V.cell? ⟨G, 2, none⟩ = some (.int .i64 (hc : Nat))) (go_keep) ((fail))
    all_goals (go_wp2_with fail)
    all_goals
      obtain ⟨hst, hkst⟩ := HR15.out.store ha hb hc
      obtain ⟨y0, y1, y2⟩ := hst.cells
      have hk9 : Kp (fun _ => False) w _ := (HKW.out.trans KW15.out).trans2 hkst (fun i hi q => by have := HGE.out; omega)
      have hr9 := RowM.kp (RA.out) hkst.drew (fun j q => by rw [q]; have := HGE.out; have := HSZ5.out; have := K7.out.size; have := K12.out.size; omega)
      have hl9 := HNR.out.2.2
      refine bodyPost_ret (v := .tuple #[.slice a15 nR c15, hv3 ⟨ha, hb, hc⟩]) ?_ rfl ⟨a15, c15, by rw [HRR.out]; simp only [hl9], by rw [HRR.out]; simp only [hl9]; exact hr9.low (by have := HSZ5.out; have := K7.out.size; have := K12.out.size; omega), (by first | exact hk9 | exact hk9.drew)⟩
      simp [results, Tryz.results9, go_sem, y0, y1, y2, hv3]
end Go.Proofs.YtphakpikalmghaaGreat.Ma
