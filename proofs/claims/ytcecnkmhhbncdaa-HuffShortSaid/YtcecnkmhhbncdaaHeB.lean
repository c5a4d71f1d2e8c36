/- The document's Encode. -/
import Derived.Test.YtcecnkmhhbncdaaHeA
namespace Go.Proofs.Ytcecnkmhhbncdaa.He
open Go Go.RowKit Go.ChangeMaps Go.MapKept Go.Mg Go.Hf Go.Sort Go.Proofs.Ytcecnkmhhbncdaa.Hu Go.Proofs.Ytcecnkmhhbncdaa.Bw

def RelD (B0 : Nat) (w wr : World) (ty : TypeId) (p : Nat) (bits : List Bool) : Prop := ∃ F a c, WrAt ty F wr p a c bits ∧ Kp (fun _ => False) w wr ∧ ∀ k, F k → B0 ≤ k
theorem RelD.step {B0 : Nat} {w wr : World} {ty : TypeId} {p : Nat} {B : List Bool} {F : Nat → Prop} (hk : Kp (fun _ => False) w wr) (hF : ∀ k, F k → B0 ≤ k) (hB : w.heap.size ≤ B0) (hB2 : B0 ≤ wr.heap.size) {V : World} (h : WrPost ty F wr p B V) : RelD B0 w V ty p B := by
  obtain ⟨F', a', c', h1, h2, h3⟩ := h
  exact ⟨F', a', c', h1, hk.trans2 h2 (fun i hi q => by have := hF i q; omega), fun k q => by rcases h3 k q with q | q; exact hF k q; omega⟩
set_option maxRecDepth 100000 in
set_option maxHeartbeats 4000000 in
theorem encode_d (w : World) (xs : List Int) (a : Option Addr) (c : Nat) (h : Nm w a c xs) (hl : xs.length ≤ 300) (l : List UInt8) (ab : Option Addr) (cb' : Nat) (hb : SlR w 1 (.slice ab l.length cb') l.length (l.map u8c)) (hlb : l.length ≤ 1000) :
    Calls Try.prog 26 #[.slice a xs.length c, .slice ab l.length cb'] w (EncPost w xs l) := by
  have D1 := Lib.hid (is_d w xs a c h (by omega))
  have R0 := Lib.hid h
  have RB := Lib.hid hb
  clear h hb
  go_enter Try.func26, Try.ntmps26
  go_wp2_with fail
  refine D1.out.mono ?_
  rintro e w' ⟨z, hz, rfl, hw'⟩
  obtain rfl := hw'
  cases z with
  | false =>
    have HZ := Lib.hid (show ¬ EncOk xs l from fun q => by have := hz.2 q.1; cases this)
    clear hz D1
    go_wp2_with fail
    go_ret2
    exact .inr ⟨HZ.out, rfl, Kp.refl _ _⟩
  | true =>
    have hok : IsOk xs := hz.1 rfl
    have hpos : 0 < xs.length := by
      apply Nat.pos_of_ne_zero
      intro e
      have : xs = [] := List.eq_nil_of_length_eq_zero e
      subst this
      obtain ⟨_, _, h | h⟩ := hok <;> simp [isSt] at h
    have HOK := Lib.hid hok
    clear hz D1 hok
    go_wp2_with fail
    refine (codes_d _ xs a c R0.out hpos hl).mono ?_
    rintro e w3 ⟨gc, rfl, p1, p2, p3⟩
    obtain ⟨g, o, rfl, hg, hcap, hc⟩ := R0.out.lf_ hpos
    have hgc : gc < w3.heap.size := lt_of_at p2
    have W0 := Lib.hid (wr_new 53 w3)
    have P3 := Lib.hid p3
    have hs3 := p3.size
    have HC : Hid (∀ V, Kp (fun _ => False) w3 V → ∀ i, i < xs.length → V.cell? ⟨gc, i, none⟩ = some (.int .i64 (codes xs i)) ∧ V.cell? ⟨g, o + i, none⟩ = some (.int .i64 (lf xs i))) := Lib.hid (fun V hk i hi =>
      ⟨(hk.cell (p := ⟨gc, i, none⟩) hgc (fun q => q)).trans (p2.cell hi), ((p3.trans hk).cell (p := ⟨g, o + i, none⟩) hg (fun q => q)).trans (hc i hi)⟩)
    have HB : Hid (0 < l.length → ∃ gb ob, ab = some ⟨gb, ob, none⟩ ∧ l.length ≤ cb' ∧ ∀ V, Kp (fun _ => False) w3 V → ∀ i, i < l.length → V.cell? ⟨gb, ob + i, none⟩ = some (.int .u8 (sym l i : Nat))) := Lib.hid (fun h0 => by
      obtain ⟨gb, ob, rfl, hgb, hcb, hcc⟩ := bytes_at RB.out h0
      exact ⟨gb, ob, rfl, hcb, fun V hk i hi => ((p3.trans hk).cell (p := ⟨gb, ob + i, none⟩) hgb (fun q => q)).trans (hcc i hi)⟩)
    have HCN := Lib.hid (fun s (hs : gd xs s) => code_nat HOK.out hs)
    have HBL := Lib.hid (bt_len HOK.out.2.1 l)
    have HSL := Lib.hid (sym_lt l)
    have HEOK : Hid (EncOk xs l ↔ ∀ j, j < l.length → gd xs (sym l j)) := Lib.hid ⟨fun q => q.2, fun q => ⟨HOK.out, q⟩⟩
    have HBT0 : Hid (bt xs l 0 = []) := Lib.hid rfl
    have HBTS : Hid (∀ j, bt xs l (j + 1) = bt xs l j ++ cb xs (sym l (l.length - 1 - j))) := Lib.hid (fun _ => rfl)
    have HGD : Hid (∀ s, gd xs s ↔ s < xs.length ∧ lf xs s ≠ 0) := Lib.hid (fun _ => Iff.rfl)
    have HCB : Hid (∀ s q n : Nat, codes xs s = (q : Nat) → lf xs s = (n : Nat) → cb xs s = bitsOf q n) := Lib.hid (fun s q n h1 h2 => by unfold cb; rw [h1, h2]; simp)
    unfold EncPost
    obtain ⟨n, hn⟩ : ∃ n, n = l.length := ⟨_, rfl⟩
    rw [← hn] at HB HBTS HEOK hlb ⊢
    have HNL := Lib.hid hn
    obtain ⟨EO, hEO⟩ : ∃ EO : Prop, EO = EncOk xs l := ⟨_, rfl⟩
    obtain ⟨BT, hBT⟩ : ∃ BT, BT = bt xs l := ⟨_, rfl⟩
    rw [← hEO] at HEOK
    rw [← hBT] at HBL HBT0 HBTS
    have HEOE := Lib.hid hEO
    have HBTE := Lib.hid hBT
    clear hEO hBT
    generalize lf xs = X at *
    generalize codes xs = C at *
    generalize gd xs = GD at *
    generalize cb xs = CB at *
    obtain ⟨N, hN⟩ : ∃ N, N = xs.length := ⟨_, rfl⟩
    rw [← hN] at HC HGD hl hpos hcap ⊢
    generalize sym l = SY at *
    clear p1 p2 p3 hc R0 RB hn hN
    go_wp2_with fail
    go_loopw [8] (fun i wr => ∃ j : Nat, j ≤ n ∧ i = .int .i64 ((n : Int) - 1 - (j : Nat)) ∧ (∀ k, k < j → GD (SY (n - 1 - k))) ∧ RelD w3.heap.size w3 wr 53 w3.heap.size (BT j)) (fun i _ => (intOf i + 1).toNat)
    case atStart =>
      refine ⟨0, Nat.zero_le _, by simp, fun k hk => by omega, (· = w3.heap.size), none, 0, ?_, (Kp.refl _ _).alloc _, fun k q => by omega⟩
      rw [HBT0.out]
      exact W0.out
    case round =>
      obtain ⟨j, hj, rfl, hgs, hrd⟩ := hrel
      have HGS := Lib.hid hgs
      have HRD := Lib.hid hrd
      obtain ⟨F, aw, cw, hw1, hkw, hFw⟩ := hrd
      have HW1 := Lib.hid hw1
      have HKW := Lib.hid hkw
      have HFW := Lib.hid hFw
      clear hgs hw1 hkw hFw W0
      by_cases hjn : j < n
      · obtain ⟨q, hq⟩ : ∃ q, q = n - 1 - j := ⟨_, rfl⟩
        have hqn : q < n := by omega
        have hqi : ((n : Int) - 1 - (j : Nat)) = (q : Nat) := by omega
        rw [hqi]
        obtain ⟨gb, ob, rfl, hcb, hcells⟩ := HB.out (by omega)
        have d0 := hcells _ HKW.out q hqn
        obtain ⟨s, hs⟩ : ∃ s, s = SY q := ⟨_, rfl⟩
        have hs256 := HSL.out q
        rw [← hs] at d0 hs256
        have HS := Lib.hid hs
        have HQ := Lib.hid hq
        have HQI := Lib.hid hqi
        clear hcells hs hq hqi
        by_cases g1 : s < N
        · obtain ⟨d2, d1⟩ := HC.out _ HKW.out s g1
          by_cases g2 : X s = 0
          · have HNO : Hid (¬ EO) := Lib.hid (fun e => by
              have := (HGD.out (SY q)).1 (HEOK.out.1 e q hqn)
              rw [← HS.out] at this
              exact this.2 g2)
            rw [g2] at d1
            clear d2 g2
            go_wp2_with fail
            go_ret2
            exact .inr ⟨by rw [← HEOE.out]; exact HNO.out, rfl, P3.out.trans HKW.out⟩
          · obtain ⟨cq, m, hm1, hm2, hm0, hm11, hcq⟩ := HCN.out s ((HGD.out s).2 ⟨g1, g2⟩)
            have HCBE := Lib.hid (HCB.out s cq m hm1 hm2)
            rw [hm1] at d2
            rw [hm2] at d1
            have hm00 : ((m : Int) == 0) = false := by rw [beq_eq_false_iff_ne]; omega
            have PUT := Lib.hid (fun V (hv : Kp (fun _ => False) wr V) => put_d (HW1.out.kp hv (fun _ _ q => q)) cq m (by omega) hcq (by have := HBL.out j; omega))
            have HGDQ : Hid (GD (SY q)) := Lib.hid (by rw [← HS.out]; exact (HGD.out s).2 ⟨g1, g2⟩)
            clear hm1 hm2 g2 hcq
            go_wp2_with fail
            go_region_held3 (fun V => V.cell? ⟨gc, s, none⟩ = some (.int .i64 (cq : Nat)) ∧ V.cell? ⟨g, o + s, none⟩ = some (.int .i64 (m : Nat))) (go_keep) ((go_simp; go_at_call 38; refine (PUT.out _ (Kp.refl _ _).drew).mono ?_; rintro e V ⟨rfl, hV⟩; have RV := Lib.hid (RelD.step (B0 := w3.heap.size) HKW.out.drew HFW.out (Nat.le_refl _) HKW.out.size hV); have r0 : V.cell? ⟨gc, s, none⟩ = some (.int .i64 (cq : Nat)) := (by obtain ⟨_, _, _, _, hk2, _⟩ := RV.out; rw [(HC.out _ hk2 s g1).1, (HC.out _ HKW.out s g1).1.symm.trans d2 |> Option.some.inj]); have r1 : V.cell? ⟨g, o + s, none⟩ = some (.int .i64 (m : Nat)) := (by obtain ⟨_, _, _, _, hk2, _⟩ := RV.out; rw [(HC.out _ hk2 s g1).2, (HC.out _ HKW.out s g1).2.symm.trans d1 |> Option.some.inj]); clear hV))
            go_wp2_with fail
            refine ⟨⟨j + 1, by omega, ?_, fun k hk => ?_, ?_⟩, by simp [intOf]; try omega⟩
            · have := HQI.out
              congr 1
              omega
            · by_cases e : k = j
              · subst e
                rw [← HQ.out]
                exact HGDQ.out
              · exact HGS.out k (by omega)
            · rw [HBTS.out j, ← HQ.out, ← HS.out, HCBE.out]
              exact RV.out
        · have HNO : Hid (¬ EO) := Lib.hid (fun e => by
            have := (HGD.out (SY q)).1 (HEOK.out.1 e q hqn)
            rw [← HS.out] at this
            exact g1 this.1)
          have g1' : (N : Int) ≤ (s : Int) := by omega
          go_wp2_with fail
          go_ret2
          exact .inr ⟨by rw [← HEOE.out]; exact HNO.out, rfl, P3.out.trans HKW.out⟩
      · obtain rfl : j = n := by omega
        have hi1 : ((j : Int) - 1 - (j : Nat)) = -1 := by omega
        rw [hi1]
        have HYES : Hid EO := Lib.hid (HEOK.out.2 (fun k hk => by
          have := HGS.out (j - 1 - k) (by omega)
          rwa [show j - 1 - (j - 1 - k) = k by omega] at this))
        have BY := Lib.hid (bytes_d HW1.out (by have := HBL.out j; omega))
        go_wp2_with fail
        refine BY.out.mono ?_
        rintro e w5 ⟨g5, rfl, b1, b2, b3⟩
        have B1 := Lib.hid b1
        have B2 := Lib.hid b2
        have B3 := Lib.hid b3
        clear b1 b2 b3
        go_wp2_with fail
        go_ret2
        refine .inl ⟨by rw [← HEOE.out]; exact HYES.out, ?_⟩
        unfold EncGood
        rw [← HNL.out, ← HBTE.out]
        exact ⟨g5, rfl, by have := B1.out; have := (P3.out.trans HKW.out).size; omega, B2.out, (P3.out.trans HKW.out).trans B3.out⟩
end Go.Proofs.Ytcecnkmhhbncdaa.He
