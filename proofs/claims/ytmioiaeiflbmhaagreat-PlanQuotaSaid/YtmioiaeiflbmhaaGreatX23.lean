/- fse: the program's Table. The library's iterator Backward over numbers; IndexFunc of a table's entries that a symbol hits. fse: the program's Encode. seqs: the program's row. -/
import Derived.RangeFuncNested
import Derived.Test.YtmioiaeiflbmhaaGreatX22
import Derived.Test.YtmioiaeiflbmhaaGreatX08
import Derived.Test.YtmioiaeiflbmhaaGreatX20
import Derived.Test.YtmioiaeiflbmhaaGreatX16
import Derived.Test.YtmioiaeiflbmhaaGreatX21
namespace Go.Proofs.YtmioiaeiflbmhaaGreat.Ma
open Go Go.RowKit Go.ChangeMaps Go.MapKept Go.Mg Go.Fse Go.Proofs.YtmioiaeiflbmhaaGreat.Hu
theorem cloneF_p (w : World) (a : Option Addr) (c N : Nat) (f : Nat → Nat) (h : IntsR w a c N f) (hN : N ≤ 1000) :
    Calls Tryz.prog 211 #[.slice a N c] w fun e w' => ∃ a' c', e = .returned (.slice a' N c') ∧ OwnF w.heap.size w' a' c' N f ∧ Kp (fun _ => False) w w' := by
  have hl : ((List.range N).map f).length = N := by simp
  have hm : ((List.range N).map f).map nv = (List.range N).map fun i => Value.int .i64 (f i : Nat) := by
    rw [List.map_map]; rfl
  have h2 : SlR w 1 (.slice a ((List.range N).map f).length c) ((List.range N).map f).length (((List.range N).map f).map nv) := by
    rw [hl, hm]; exact h
  have := clone_c w _ a c h2 (by rw [hl]; exact hN)
  rw [hl, hm] at this
  refine this.mono ?_
  rintro e w' ⟨a', c', rfl, h3, h4, h5⟩
  exact ⟨a', c', rfl, ⟨h3, h4⟩, h5⟩
set_option maxRecDepth 100000 in
set_option maxHeartbeats 4000000 in
theorem table_p (w : World) (a : Option Addr) (c N : Nat) (f : Nat → Nat) (h : IntsR w a c N f) (hN : 0 < N) (hN2 : N ≤ 32) (hs : Shares f N) :
    Calls Tryz.prog 205 #[.slice a N c, .int .i64 6] w (TabPost w f N) := by
  obtain ⟨g, o, rfl, hg, hcap, hc⟩ := h.at_ hN
  have HC := Lib.hid hc
  have HH := Lib.hid h
  have HI := Lib.hid (is4_p w _ c N f h hN hN2 hs)
  have HS := Lib.hid hs
  clear h hc
  go_enter Tryz.func205, Tryz.ntmps205
  go_wp2_with fail
  refine HI.out.mono ?_
  rintro e w' ⟨rfl, hkI⟩
  obtain ⟨W, hmk, hia, hkw, hws⟩ := made_t w'
  have HL0 : Hid (Laid W w'.heap.size f N 0) := Lib.hid (IAt.congr hia (fun i _ => by simp [tcell, syj_zero]))
  have HKW := Lib.hid hkw
  have HKI := Lib.hid hkI
  clear hia hkw hkI HI
  go_wp2_with fail
  clear hmk
  go_loopw [8, 9, 10, 24] (fun at' _ _ s' wr => ∃ s p : Nat, s ≤ N ∧ p = 43 * sm f s % 64 ∧ s' = .int .i64 s ∧ at' = .int .i64 p ∧ Laid wr w'.heap.size f N (sm f s) ∧ Kp (fun _ => False) w' wr) (fun _ _ _ s' _ => N - (intOf s').toNat)
  case atStart => exact ⟨0, 0, Nat.zero_le _, rfl, rfl, rfl, HL0.out, HKW.out⟩
  case round =>
    clear HL0 HKW hws
    obtain ⟨s, p, hs, hp, rfl, rfl, hl, hk⟩ := hrel
    have HP := Lib.hid hp
    have HLL := Lib.hid hl
    have HK := Lib.hid hk
    clear hp hl hk
    obtain ⟨w1, rfl⟩ : ∃ w1 : World, w1 = wr := ⟨_, rfl⟩
    by_cases hlt : s < N
    · have hfs := shares_le HS.out hlt
      have hsm : sm f s + f s ≤ 64 := by have := sm_mono f (show s + 1 ≤ N by omega); have := HS.out; unfold Shares at this; simp only [sm] at *; omega
      have d0 := HC.out _ (HKI.out.trans HK.out) s hlt
      obtain ⟨x, hx⟩ : ∃ x, x = f s := ⟨_, rfl⟩
      rw [← hx] at d0 hfs hsm
      have HX := Lib.hid hx
      have HSM := Lib.hid hsm
      clear hx hsm
      go_wp2_with fail
      clear d0
      go_loopw [8, 30] (fun at' k' wr => ∃ k p j : Nat, k ≤ x ∧ j = sm f s + k ∧ p = 43 * j % 64 ∧ k' = .int .i64 k ∧ at' = .int .i64 p ∧ Laid wr w'.heap.size f N j ∧ Kp (fun _ => False) w' wr) (fun _ k' _ => x - (intOf k').toNat)
      case atStart => exact ⟨0, p, sm f s, Nat.zero_le _, rfl, HP.out, rfl, rfl, HLL.out, HK.out⟩
      case round =>
        clear HP HLL HK
        obtain ⟨k, p, j, hkf, hj, hp, rfl, rfl, hl, hk⟩ := hrel
        have HP := Lib.hid hp
        have HJ := Lib.hid hj
        have HK := Lib.hid hk
        have hp64 : p < 64 := by omega
        have hjk : j ≤ 64 := by have := HSM.out; omega
        by_cases hkl : k < x
        · have HNX := Lib.hid (hl.next hlt (k := k) (by rw [← HX.out]; exact hkl) hj (by have := HSM.out; omega))
          have hks : Kp (fun _ => False) w' (wr.setCell ⟨w'.heap.size, p * 3, none⟩ (.int .i64 (s : Nat))) := hk.setCell (p := ⟨w'.heap.size, p * 3, none⟩) (fun q => by simp only at q; omega) _
          have c1 := IAt.cell hl (i := p * 3) (by omega)
          have f1 := IAt.free hl (p * 3)
          have hp2 : ((p : Int) + 32 + 8 + 3) % 64 = ((43 * (j + 1) % 64 : Nat) : Int) := by omega
          rw [← hp] at HNX
          have HKS := Lib.hid hks
          obtain ⟨p2, hpp⟩ : ∃ p2, p2 = 43 * (j + 1) % 64 := ⟨_, rfl⟩
          rw [← hpp] at hp2
          have HP2 := Lib.hid hp2
          have HPP := Lib.hid hpp
          generalize tcell (syj f N j) (fun _ => 0) (fun _ => 0) (p * 3) = y at c1
          clear hl hk hks hj hp hpp hkf hp2
          go_wp2_with fail
          exact ⟨⟨k + 1, p2, j + 1, by omega, by rw [HJ.out]; omega, HPP.out, by go_num, by rw [HP2.out], HNX.out, HKS.out⟩, by simp [intOf]; omega⟩
        · obtain rfl : k = x := by omega
          have HL2 : Hid (Laid wr w'.heap.size f N (sm f (s + 1))) := Lib.hid (by rw [sm, ← HX.out, ← HJ.out]; exact hl)
          have HP2 : Hid (p = 43 * sm f (s + 1) % 64) := Lib.hid (by rw [HP.out, HJ.out, sm, ← HX.out])
          clear hl hk hj hp hkl hkf HJ HP
          go_wp2_with fail
          exact ⟨⟨s + 1, p, by omega, HP2.out, by go_num, rfl, HL2.out, HK.out⟩, by simp [intOf]; try omega⟩
    · obtain rfl : s = N := by omega
      have hS : sm f s = 64 := HS.out
      have HT0 : Hid (IAt 243 w1 w'.heap.size 192 (tcell (sy f s) (till 0 (eb f s)) (till 0 (ez f s)))) := Lib.hid (by
        have := HLL.out
        unfold Laid at this
        rw [hS] at this
        refine IAt.congr this (fun i hi => ?_)
        unfold tcell till
        split
        · exact syj_all _ _ _
        · simp)
      have CL := Lib.hid (cloneF_p w1 (some ⟨g, o, none⟩) c s f ((HH.out.kp HKI.out).kp HK.out) (by omega))
      clear hS HLL
      go_wp2_with fail
      refine CL.out.mono ?_
      rintro e w2 ⟨b1, d1, rfl, hof, hk2⟩
      have R0 : Hid (OwnF w1.heap.size w2 b1 d1 s (nxt f s 0)) := Lib.hid hof
      have K2 := Lib.hid hk2
      have HT1 := Lib.hid (IAt.kp HT0.out K2.out (fun q => q))
      have hT : w'.heap.size < w1.heap.size := lt_of_at HT0.out
      have KT := Lib.hid (HK.out.trans K2.out)
      clear HT0 K2 hof hk2 CL
      obtain ⟨T, hTe⟩ : ∃ T, T = w'.heap.size := ⟨_, rfl⟩
      rw [← hTe] at HT1 hT ⊢
      have HTE := Lib.hid hTe
      clear hTe
      go_wp2_with fail
      go_loopw [12, 13, 53] (fun _ _ u' wr => ∃ u : Nat, u ≤ 64 ∧ u' = .int .i64 u ∧ IAt 243 wr T 192 (tcell (sy f s) (till u (eb f s)) (till u (ez f s))) ∧ OwnF w1.heap.size wr b1 d1 s (nxt f s u) ∧ Kp (fun _ => False) w' wr) (fun _ _ u' _ => 64 - (intOf u').toNat)
      case atStart => exact ⟨0, Nat.zero_le _, rfl, HT1.out, R0.out, KT.out⟩
      case round =>
        clear HT1 R0 KT HP HK
        obtain ⟨u, hu, rfl, hi, ho, hk⟩ := hrel
        have HI5 := Lib.hid hi
        have HO5 := Lib.hid ho
        have HK5 := Lib.hid hk
        clear hi ho hk
        by_cases hlt : u < 64
        · obtain ⟨n1, n2, n3, n4, n5, n6, n7⟩ := ent_rng HS.out hlt
          have hn8 := xx_rng HS.out hlt
          have hv : sy f s u < s := n1
          obtain ⟨gx, rfl, hcx, hgx, _, hat⟩ := HO5.out.at_ hN
          obtain ⟨r1, r2, r3⟩ := hat _ hv
          have t0 := IAt.cell HI5.out (i := u * 3) (by omega)
          rw [tcell_sym] at t0
          have ex : nxt f s u (sy f s u) = xx f s u := rfl
          have eb1 : eb f s u = 7 - Lib.bitLen (xx f s u) := rfl
          have ez1 : ez f s u = xx f s u * 2 ^ (7 - Lib.bitLen (xx f s u)) - 64 := rfl
          rw [ex] at r1
          have hn := r3 (xx f s u + 1)
          rw [show xx f s u + 1 = nxt f s u (sy f s u) + 1 from rfl, nxt_up] at hn
          have hk0 : Kp (· = gx) wr (wr.setCell ⟨gx, sy f s u, none⟩ (.int .i64 ((nxt f s u (sy f s u) + 1 : Nat)))) := (Kp.refl (· = gx) wr).setCell (p := ⟨gx, sy f s u, none⟩) (fun _ => rfl) _
          have hi0 := IAt.kp HI5.out hk0 (fun q => by omega)
          rw [ex] at hn hk0 hi0
          obtain ⟨v, hve⟩ : ∃ v, v = sy f s u := ⟨_, rfl⟩
          rw [← hve] at t0 r1 r2 hv hn hk0 hi0
          obtain ⟨W1, hW1⟩ : ∃ W1, W1 = wr.setCell ⟨gx, v, none⟩ (.int .i64 ((xx f s u + 1 : Nat))) := ⟨_, rfl⟩
          rw [← hW1] at hn hk0 hi0
          have t1 := IAt.cell hi0 (i := u * 3 + 1) (by omega)
          have g1 := IAt.free hi0 (u * 3 + 1)
          rw [tcell_bits] at t1
          have hset1 := IAt.set hi0 (i := u * 3 + 1) (by omega) (eb f s u)
          rw [up_bits, till_up, eb1] at hset1
          obtain ⟨x, hx⟩ : ∃ x, x = xx f s u := ⟨_, rfl⟩
          clear n4 n6
          rw [← hx] at r1 n2 n3 n5 n7 hn8 hset1 eb1 ez1 hW1
          have DG := Lib.hid (bitsLen_p x (by omega))
          obtain ⟨B, hB⟩ : ∃ B, B = Lib.bitLen x := ⟨_, rfl⟩
          rw [← hB] at n2 n3 n5 n7 hset1 DG eb1 ez1
          have e1 : (6 : Int) - (B : Nat) + 1 = ((7 - B : Nat) : Int) := by omega
          obtain ⟨b, hb⟩ : ∃ b, b = 7 - B := ⟨_, rfl⟩
          rw [← hb] at n5 n7 hset1 e1 eb1 ez1
          have hb6 : b ≤ 6 := by omega
          generalize till u (eb f s) u = y1 at t1
          have HS1 := Lib.hid hset1
          have HEZ := Lib.hid ez1
          have HEB := Lib.hid eb1
          have HN1 := Lib.hid hn
          have HI0 := Lib.hid hi0
          have HK0 := Lib.hid hk0
          have HW1 := Lib.hid hW1
          have hx127 := hn8.2
          clear hset1 hve hx ez1 eb1 ex r3 hat hn8 hb hB n1 hn hi0 hk0 hW1
          go_wp2_with fail
          rw [show (x : Int) + 1 = ((x + 1 : Nat) : Int) from rfl, ← HW1.out]
          refine (DG.out _).mono ?_
          rintro e w5 ⟨rfl, hw5⟩
          obtain rfl := hw5.symm
          have hi1 := HS1.out
          have hk1 : Kp (· = T) W1 (W1.setCell ⟨T, u * 3 + 1, none⟩ (.int .i64 (b : Nat))) := (Kp.refl (· = T) W1).setCell (p := ⟨T, u * 3 + 1, none⟩) (fun _ => rfl) _
          have q1 := IAt.cell hi1 (i := u * 3 + 1) (by omega)
          have q2 := IAt.cell hi1 (i := u * 3 + 2) (by omega)
          have q3 := IAt.free hi1 (u * 3 + 2)
          rw [tcell_bits] at q1
          rw [tcell_base] at q2
          have eb2 : till (u + 1) (eb f s) u = b := by unfold till; rw [if_pos (by omega)]; exact HEB.out
          rw [eb2] at q1
          have hset2 := IAt.set hi1 (i := u * 3 + 2) (by omega) (ez f s u)
          rw [up_base, till_up] at hset2
          obtain ⟨z, hz⟩ : ∃ z, z = ez f s u := ⟨_, rfl⟩
          rw [← hz] at hset2
          have hzv : z = x * 2 ^ b - 64 := by rw [hz]; exact HEZ.out
          have hzi : (x : Int) * 2 ^ b - 64 = (z : Nat) := by
            have : ((x * 2 ^ b : Nat) : Int) = (x : Int) * 2 ^ b := by simp
            omega
          have hlow : (x : Int) * 2 ^ b ≤ 127 := by
            have : ((x * 2 ^ b : Nat) : Int) = (x : Int) * 2 ^ b := by simp
            omega
          have hup : 64 ≤ (x : Int) * 2 ^ b := by
            have : ((x * 2 ^ b : Nat) : Int) = (x : Int) * 2 ^ b := by simp
            omega
          have hxb : (2 : Int) ^ b ≤ 64 := by
            have : (2 : Nat) ^ b ≤ 2 ^ 6 := Nat.pow_le_pow_right (by omega) hb6
            have h6 : (2 : Nat) ^ 6 = 64 := rfl
            have : ((2 ^ b : Nat) : Int) = (2 : Int) ^ b := by simp
            omega
          have hk2 : Kp (· = T) W1 ((W1.setCell ⟨T, u * 3 + 1, none⟩ (.int .i64 (b : Nat))).setCell ⟨T, u * 3 + 2, none⟩ (.int .i64 (z : Nat))) := hk1.setCell (p := ⟨T, u * 3 + 2, none⟩) (fun _ => rfl) _
          have HFIN : Hid (∀ V, V = (W1.setCell ⟨T, u * 3 + 1, none⟩ (.int .i64 (b : Nat))).setCell ⟨T, u * 3 + 2, none⟩ (.int .i64 (z : Nat)) → IAt 243 V T 192 (tcell (sy f s) (till (u + 1) (eb f s)) (till (u + 1) (ez f s))) ∧ OwnF w1.heap.size V (some ⟨gx, 0, none⟩) d1 s (nxt f s (u + 1)) ∧ Kp (fun _ => False) w' V) := Lib.hid (by
            rintro V rfl
            refine ⟨hset2, OwnF.kp HN1.out hk2 (fun k q r => by have := own_b r; omega), ?_⟩
            exact (HK5.out.trans2 HK0.out (fun i hi q => by have := HTE.out; omega)).trans2 hk2 (fun i hi q => by have := HTE.out; omega))
          generalize till u (ez f s) u = y3 at q2
          clear hi1 hk1 hset2 hz hzv hk2 t0 r1 r2 eb2 n7 n5 hup
          go_wp2_with fail
          obtain ⟨z1, z2, z3⟩ := HFIN.out _ rfl
          exact ⟨⟨u + 1, by omega, by go_num, z1, z2, z3⟩, by simp [intOf]; try omega⟩
        · obtain rfl : u = 64 := by omega
          have HFIN : Hid (TAt wr T f s) := Lib.hid (IAt.congr HI5.out (fun i hi => by
            unfold tcell till
            split
            · rfl
            · split
              · rw [if_pos (by omega)]
              · rw [if_pos (by omega)]))
          go_wp2_with fail
          go_ret2
          exact ⟨T, rfl, by have := HTE.out; have := HKI.out.size; omega, HFIN.out, HKI.out.trans HK5.out⟩
end Go.Proofs.YtmioiaeiflbmhaaGreat.Ma
namespace Go.Proofs.YtmioiaeiflbmhaaGreat.Ma
open Go Go.RowKit Go.Shelf Go.ChangeMaps Go.MapKept Go.Mg Go.Fse Go.Proofs.YtmioiaeiflbmhaaGreat.Hu Go.Proofs.YtmioiaeiflbmhaaGreat.Bw Go.Proofs.YtmioiaeiflbmhaaGreat.He Go.Proofs.YtmioiaeiflbmhaaGreat.It
def RdN (n₀ Bs : Nat) (W : World) (a : Option Addr) (cap m : Nat) (f : Nat → Nat) : Prop :=
  (∀ V, KB n₀ Bs W V → V.cell? ⟨Bs, 0, none⟩ = some (.slice a m cap)) ∧
  (0 < m → ∃ g o, a = some ⟨g, o, none⟩ ∧ m ≤ cap ∧ ∀ V, KB n₀ Bs W V → ∀ i, i < m → V.cell? ⟨g, o + i, none⟩ = some (.int .i64 (f i : Nat)))
def bkN (m : Nat) (f : Nat → Nat) (j : Nat) : Int × Nat := (((m - 1 - j : Nat) : Int), f (m - 1 - j))
abbrev encN (x : Int × Nat) : Array Value := #[.int .i64 x.1, .int .i64 (x.2 : Nat)]
set_option maxRecDepth 100000 in
set_option maxHeartbeats 2000000 in
theorem backN1_in (F : Fence) (n : Nat) (h7 : F.fn 225) (hro : F.round = none) (hn : 1 ≤ n) (lp Bs n₀ cap : Nat) (a : Option Addr) (m : Nat) (f : Nat → Nat) (hreach : m ≤ 100000) (J Jx : List (Int × Nat) → World → Prop)
    (hY : ∀ pre x W, J pre W → pre.length < m → YieldAt F (n - 1) Tryz.prog lp (encN x) W fun e W' =>
      (e = .returned (.bool true) ∧ J (pre ++ [x]) W' ∧ KB n₀ Bs W W') ∨ (e = .returned (.bool false) ∧ Jx (pre ++ [x]) W'))
    (W : World) (hR : RdN n₀ Bs W a cap m f) (h0 : J [] W) :
    CallsIn F n Tryz.prog 225 #[.func (.yield lp) #[] #[], .pointer (some ⟨Bs, 0, none⟩)] W fun e W' => (∃ v, e = .returned v) ∧
      ((∃ ys, ys = upto (bkN m f) m ∧ J ys W') ∨ (∃ pre, (∃ k, k ≤ m ∧ pre = upto (bkN m f) k) ∧ Jx pre W')) := by
  have HRB := Lib.hid hR.1
  have HRC := Lib.hid hR.2
  have HBK : Hid (∀ k q, q = m - 1 - k → bkN m f k = (((q : Nat) : Int), f q)) := Lib.hid (fun k q e => by subst e; rfl)
  obtain ⟨b, hb⟩ : ∃ b, b = bkN m f := ⟨_, rfl⟩
  rw [← hb] at HBK ⊢
  have d0 := hR.1 _ (KB.refl _ _ _)
  clear hR hb
  refine callsIn_of_wp Tryz.func225 rfl h7 ?_ hro
  simp only [Tryz.ntmps225, List.size_toArray, List.length_cons, List.length_nil, Nat.reduceAdd, Nat.reduceSub, Array.replicate_succ, Array.replicate_zero, List.push_toArray, List.append_toArray, List.nil_append, List.cons_append]
  gi_wp2
  gi_loopw [3] (fun i wr => ∃ k : Nat, k ≤ m ∧ i = .int .i64 ((m : Int) - 1 - (k : Nat)) ∧ J (upto b k) wr ∧ KB n₀ Bs W wr)
    (fun i _ => (intOf i + 1).toNat)
  case atStart => exact ⟨0, Nat.zero_le _, by simp, h0, KB.refl _ _ _⟩
  case round =>
    obtain ⟨k, hk, rfl, hJs, hnx⟩ := hrel
    have hcx := HRB.out _ hnx
    by_cases hlt : k < m
    · obtain ⟨q, hq⟩ : ∃ q, q = m - 1 - k := ⟨_, rfl⟩
      have hqn : q < m := by omega
      have hqi : ((m : Int) - 1 - (k : Nat)) = (q : Nat) := by omega
      rw [hqi]
      have HQI := Lib.hid hqi
      have HFK := HBK.out k q hq
      clear hqi hq
      obtain ⟨g, o, rfl, hcap, hcells⟩ := HRC.out (by omega)
      have hcq := hcells _ hnx q hqn
      obtain ⟨u, hu⟩ : ∃ u, u = f q := ⟨_, rfl⟩
      rw [← hu] at hcq HFK
      obtain ⟨fn, tmps, assign, body, hy, hR⟩ := hY _ (((q : Nat) : Int), u) wr hJs (by rw [upto_length]; exact hlt)
      dsimp only [encN] at hy
      clear hcells hu
      gi_wp2
      refine hR.mono ?_
      rintro e W3 (⟨rfl, hJ3, hk3⟩ | ⟨rfl, hJx3⟩)
      · gi_wp2
        go_roundw
        case rel => exact ⟨k + 1, by omega, by have := HQI.out; congr 1; omega, by rw [upto_succ, HFK]; exact hJ3, hnx.trans hk3⟩
        case measure => simp [intOf]; try omega
      · gi_wp2
        refine bodyPost_ret (results_none rfl _ _ _) rfl ?_
        exact ⟨⟨_, rfl⟩, .inr ⟨_, ⟨k + 1, by omega, by rw [upto_succ, HFK]⟩, hJx3⟩⟩
    · obtain rfl : k = m := by omega
      have hi1 : ((k : Int) - 1 - (k : Nat)) = -1 := by omega
      rw [hi1]
      gi_wp2
      go_end0
      exact ⟨⟨_, rfl⟩, .inl ⟨_, rfl, hJs⟩⟩
theorem backN_stops (F : Fence) (n : Nat) (h7 : F.fn 225) (hro : F.round = none) (hn : 1 ≤ n) (Bs n₀ cap : Nat) (a : Option Addr) (m : Nat) (f : Nat → Nat) (hreach : m ≤ 100000) (w : World) (hR : RdN n₀ Bs w a cap m f) :
    SeqStopsK F n Tryz.prog 225 #[.pointer (some ⟨Bs, 0, none⟩)] encN (KB n₀ Bs) (fun ys => ys = upto (bkN m f) m) (fun pre => ∃ k, k ≤ m ∧ pre = upto (bkN m f) k) m w := fun lp J Jx W hW _ _ hY h0 =>
  backN1_in F n h7 hro hn lp Bs n₀ cap a m f hreach J Jx hY W ⟨fun V hV => hR.1 V ((KB.of_below hW).trans hV), fun h => by
    obtain ⟨g, o, e, h1, h2⟩ := hR.2 h
    exact ⟨g, o, e, h1, fun V hV => h2 V ((KB.of_below hW).trans hV)⟩⟩ h0
set_option maxHeartbeats 1000000 in
theorem backN_in (F : Fence) (n : Nat) (h5 : F.fn 206) (hro : F.round = none) (a : Option Addr) (len cap : Nat) (w : World) :
    CallsIn F n Tryz.prog 206 #[.slice a len cap] w fun e w' => e = .returned (.func (.func 225) #[] #[.pointer (some ⟨w.heap.size, 0, none⟩)]) ∧ w' = w.alloc (.cells #[.slice a len cap] 179) := by
  refine callsIn_of_wp Tryz.func206 rfl h5 ?_ hro
  simp only [Tryz.ntmps206, List.size_toArray, List.length_cons, List.length_nil, Nat.reduceAdd, Nat.reduceSub, Array.replicate_succ, Array.replicate_zero, List.push_toArray, List.append_toArray, List.nil_append, List.cons_append]
  gi_wp2
  go_ret
  exact ⟨rfl, rfl⟩
theorem backN_c (a : Option Addr) (len cap : Nat) (w : World) :
    Calls Tryz.prog 206 #[.slice a len cap] w fun e w' => e = .returned (.func (.func 225) #[] #[.pointer (some ⟨w.heap.size, 0, none⟩)]) ∧ w' = w.alloc (.cells #[.slice a len cap] 179) :=
  callsIn_wide.1 (backN_in Fence.wide 3 trivial rfl a len cap w)
set_option maxRecDepth 100000 in
set_option maxHeartbeats 1000000 in
theorem hit_p (w : World) (y b z : Nat) (hb : b ≤ 6) (hz : z < 64) (gs gt s n : Nat) (hs : ∀ V, Kp (fun _ => False) w V → V.cell? ⟨gs, 0, none⟩ = some (.int .i64 (s : Nat))) (ht : ∀ V, Kp (fun _ => False) w V → V.cell? ⟨gt, 0, none⟩ = some (.int .i64 (n : Nat))) :
    Calls Tryz.prog 208 #[.agg #[.int .i64 (y : Nat), .int .i64 (b : Nat), .int .i64 (z : Nat)], .pointer (some ⟨gs, 0, none⟩), .pointer (some ⟨gt, 0, none⟩)] w fun e w' => e = .returned (.bool (decide (y = s) && (decide (z ≤ n) && decide (n < z + 2 ^ b)))) ∧ Kp (fun _ => False) w w' := by
  obtain ⟨P, hP, hP2, hP3, hP4⟩ := pow6 hb
  rw [← hP2]
  clear hP2
  have hk : Kp (fun _ => False) w (w.alloc (.cells #[.int .i64 (y : Nat), .int .i64 (b : Nat), .int .i64 (z : Nat)] 243)) := kp_alloc _ _
  have h0 : (w.alloc (.cells #[.int .i64 (y : Nat), .int .i64 (b : Nat), .int .i64 (z : Nat)] 243)).heap[w.heap.size]? = _ := alloc_at w _
  obtain ⟨W, hW⟩ : ∃ W, W = w.alloc (.cells #[.int .i64 (y : Nat), .int .i64 (b : Nat), .int .i64 (z : Nat)] 243) := ⟨_, rfl⟩
  rw [← hW] at hk h0
  obtain ⟨G, hG⟩ : ∃ G, G = w.heap.size := ⟨_, rfl⟩
  rw [← hG] at h0
  have HK := Lib.hid hk
  have HW := Lib.hid hW
  have HG := Lib.hid hG
  have c0 : ∀ j, (W.drewN j).cell? ⟨G, 0, none⟩ = some (.int .i64 (y : Nat)) := fun j => by rw [cell_of (((Kp.refl (fun _ => False) W).drewN j).at_ h0 (fun q => q))]; rfl
  have c1 : ∀ j, (W.drewN j).cell? ⟨G, 1, none⟩ = some (.int .i64 (b : Nat)) := fun j => by rw [cell_of (((Kp.refl (fun _ => False) W).drewN j).at_ h0 (fun q => q))]; rfl
  have c2 : ∀ j, (W.drewN j).cell? ⟨G, 2, none⟩ = some (.int .i64 (z : Nat)) := fun j => by rw [cell_of (((Kp.refl (fun _ => False) W).drewN j).at_ h0 (fun q => q))]; rfl
  have c3 : ∀ j, (W.drewN j).cell? ⟨gs, 0, none⟩ = some (.int .i64 (s : Nat)) := fun j => hs _ (hk.drewN j)
  have c4 : ∀ j, (W.drewN j).cell? ⟨gt, 0, none⟩ = some (.int .i64 (n : Nat)) := fun j => ht _ (hk.drewN j)
  have hwP : IntKind.i64.wrap (P : Int) = (P : Int) := by rw [IntKind.wrap_i64]; omega
  have hwZ : IntKind.i64.wrap ((z : Int) + (P : Nat)) = (z : Int) + (P : Nat) := by rw [IntKind.wrap_i64]; omega
  obtain ⟨R, hR⟩ : ∃ R, R = (decide (y = s) && (decide (z ≤ n) && decide (n < z + P))) := ⟨_, rfl⟩
  rw [← hR]
  clear hk h0 hW hG hs ht
  by_cases e1 : y = s
  · have b1 : ((y : Int) == (s : Int)) = true := by rw [beq_iff_eq]; omega
    by_cases e2 : z ≤ n
    · have b2 : decide (z ≤ n) = true := by simpa using e2
      by_cases e3 : n < z + P
      · have b3 : decide ((n : Int) < (z : Int) + (P : Nat)) = true := by simp; omega
        have HR := Lib.hid (show R = true by rw [hR]; simp [e1, e2, e3])
        clear hR e1 e2 e3 hwP
        go_enter Tryz.func208, Tryz.ntmps208
        go_wp2_with fail
        rw [← HW.out, ← HG.out]
        go_quiet (fail)
        go_wp2_with fail
        go_ret
        exact ⟨by rw [HR.out]; rfl, HK.out.drewN _⟩
      · have b3 : decide ((n : Int) < (z : Int) + (P : Nat)) = false := by simp; omega
        have HR := Lib.hid (show R = false by rw [hR]; simp [e1, e2, e3])
        clear hR e1 e2 e3
        go_enter Tryz.func208, Tryz.ntmps208
        go_wp2_with fail
        rw [← HW.out, ← HG.out]
        go_quiet (fail)
        go_wp2_with fail
        go_ret
        exact ⟨by rw [HR.out]; rfl, HK.out.drewN _⟩
    · have b2 : decide (z ≤ n) = false := by simpa using e2
      have HR := Lib.hid (show R = false by rw [hR]; simp [e2])
      clear hR e1 e2
      go_enter Tryz.func208, Tryz.ntmps208
      go_wp2_with fail
      rw [← HW.out, ← HG.out]
      go_quiet (fail)
      go_wp2_with fail
      go_ret
      exact ⟨by rw [HR.out]; rfl, HK.out.drewN _⟩
  · have b1 : ((y : Int) == (s : Int)) = false := by rw [beq_eq_false_iff_ne]; omega
    have HR := Lib.hid (show R = false by rw [hR]; simp [e1])
    clear hR e1
    go_enter Tryz.func208, Tryz.ntmps208
    go_wp2_with fail
    rw [← HW.out, ← HG.out]
    go_quiet (fail)
    go_wp2_with fail
    go_ret
    exact ⟨by rw [HR.out]; rfl, HK.out.drewN _⟩
set_option maxRecDepth 100000 in
set_option maxHeartbeats 1000000 in
theorem indexE_p (w : World) (g N : Nat) (f : Nat → Nat) (h : TAt w g f N) (hs : Shares f N) (gs gt s n : Nat) (hgs : ∀ V, Kp (fun _ => False) w V → V.cell? ⟨gs, 0, none⟩ = some (.int .i64 (s : Nat))) (hgt : ∀ V, Kp (fun _ => False) w V → V.cell? ⟨gt, 0, none⟩ = some (.int .i64 (n : Nat))) :
    Calls Tryz.prog 207 #[.slice (some ⟨g, 0, none⟩) 64 64, .func (.func 208) #[] #[.pointer (some ⟨gs, 0, none⟩), .pointer (some ⟨gt, 0, none⟩)]] w fun e w' => e = .returned (.int .i64 (found (fst (hits (ent f N) s n) 64))) ∧ Kp (fun _ => False) w w' := by
  have HR := Lib.hid (fun u (hu : u < 64) => ent_rng hs hu)
  have HGS := Lib.hid hgs
  have HGT := Lib.hid hgt
  obtain ⟨t, ht⟩ : ∃ t, t = ent f N := ⟨_, rfl⟩
  rw [← ht] at HR ⊢
  have HTT : Hid (∀ V, Kp (fun _ => False) w V → ∀ u, u < 64 → V.cell? ⟨g, u * 3, none⟩ = some (.int .i64 ((t u).sym : Nat)) ∧ V.cell? ⟨g, u * 3 + 1, none⟩ = some (.int .i64 ((t u).bits : Nat)) ∧ V.cell? ⟨g, u * 3 + 2, none⟩ = some (.int .i64 ((t u).base : Nat))) := Lib.hid (fun V hk u hu => by
    have := TAt.at_ (IAt.kp h hk (fun q => q)) hu
    rw [← ht] at this
    exact this)
  clear h ht hgs hgt hs
  go_enter Tryz.func207, Tryz.ntmps207
  go_wp2_with fail
  go_loopw [5, 8] (fun _ i wr => ∃ u : Nat, u ≤ 64 ∧ i = .int .i64 u ∧ (∀ v, v < u → hits t s n v = false) ∧ Kp (fun _ => False) w wr) (fun _ i _ => 64 - (intOf i).toNat)
  case atStart => exact ⟨0, Nat.zero_le _, rfl, fun v hv => by omega, Kp.refl _ _⟩
  case round =>
    obtain ⟨u, hu, rfl, hno, hk⟩ := hrel
    have HNO := Lib.hid hno
    have HK := Lib.hid hk
    clear hno hk
    by_cases hlt : u < 64
    · obtain ⟨d0, d1, d2⟩ := HTT.out _ HK.out u hlt
      obtain ⟨_, _, _, r4, _, r6, _⟩ := HR.out u hlt
      have HI := Lib.hid (hit_p wr (t u).sym (t u).bits (t u).base r4 r6 gs gt s n (fun V hV => HGS.out V (HK.out.trans hV)) (fun V hV => HGT.out V (HK.out.trans hV)))
      have HH : Hid (hits t s n u = (decide ((t u).sym = s) && (decide ((t u).base ≤ n) && decide (n < (t u).base + 2 ^ (t u).bits)))) := Lib.hid rfl
      obtain ⟨y, hy⟩ : ∃ y, y = (t u).sym := ⟨_, rfl⟩
      obtain ⟨b, hb⟩ : ∃ b, b = (t u).bits := ⟨_, rfl⟩
      obtain ⟨z, hz⟩ : ∃ z, z = (t u).base := ⟨_, rfl⟩
      rw [← hy] at d0 HH HI
      rw [← hb] at d1 HH HI
      rw [← hz] at d2 HH HI
      obtain ⟨R, hR⟩ : ∃ R, R = (decide (y = s) && (decide (z ≤ n) && decide (n < z + 2 ^ b))) := ⟨_, rfl⟩
      rw [← hR] at HH HI
      clear hy hb hz r4 r6 hR
      go_wp2_with fail
      refine HI.out.mono ?_
      rintro e w5 ⟨rfl, hk5⟩
      have HK5 := Lib.hid (HK.out.trans hk5)
      clear hk5
      cases R with
      | true =>
        have HF : Hid (fst (hits t s n) 64 = some u) := Lib.hid (fst_some HNO.out HH.out 64 hlt)
        go_wp2_with fail
        go_ret
        exact ⟨by rw [HF.out]; rfl, HK5.out⟩
      | false =>
        have HF : Hid (∀ v, v < u + 1 → hits t s n v = false) := Lib.hid (fun v hv => by
          by_cases e : v = u
          · subst e; exact HH.out
          · exact HNO.out v (by omega))
        go_wp2_with fail
        exact ⟨⟨u + 1, by omega, by go_num, HF.out, HK5.out⟩, by simp [intOf]; try omega⟩
    · obtain rfl : u = 64 := by omega
      have HF := Lib.hid (fst_none HNO.out)
      go_wp2_with fail
      go_ret
      exact ⟨by rw [HF.out]; rfl, HK.out⟩
end Go.Proofs.YtmioiaeiflbmhaaGreat.Ma
namespace Go.Proofs.YtmioiaeiflbmhaaGreat.Ma
open Go Go.RowKit Go.Shelf Go.ChangeMaps Go.MapKept Go.Mg Go.Fse Go.Proofs.YtmioiaeiflbmhaaGreat.Hu Go.Proofs.YtmioiaeiflbmhaaGreat.Bw Go.Proofs.YtmioiaeiflbmhaaGreat.He Go.Proofs.YtmioiaeiflbmhaaGreat.It
def encL (t : Nat → Ent) (pre : List (Int × Nat)) : Option (List Bool × Nat) := pre.foldl (fun o x => match o with
  | none => none
  | some (B, n) => match fst (hits t x.2 n) 64 with
    | none => none
    | some u => some (B ++ bitsOf (n - (t u).base) (t u).bits, u)) (some ([], 0))
theorem encL_snoc (t : Nat → Ent) (pre : List (Int × Nat)) (x : Int × Nat) : encL t (pre ++ [x]) = match encL t pre with
  | none => none
  | some (B, n) => match fst (hits t x.2 n) 64 with
    | none => none
    | some u => some (B ++ bitsOf (n - (t u).base) (t u).bits, u) := by
  simp only [encL, List.foldl_append, List.foldl_cons, List.foldl_nil]
theorem encL_upto (t : Nat → Ent) (l : Nat → Nat) (m : Nat) : ∀ k, encL t (upto (bkN m l) k) = enc t l m k
  | 0 => rfl
  | k + 1 => by
    rw [upto_succ, encL_snoc, encL_upto t l m k]
    simp only [enc]
    rfl
structure EnI (t : Nat → Ent) (W0 : World) (p gt : Nat) (pre : List (Int × Nat)) (W : World) : Prop where
  kp : Kp (fun k => k = p ∨ k = gt) W0 W
  wr : ∃ B n F a c, encL t pre = some (B, n) ∧ n < 64 ∧ B.length ≤ 6 * pre.length ∧ W.heap[gt]? = some (.cells #[.int .i64 (n : Nat)] 3 (0, 0)) ∧ WrAt 227 F W p a c B ∧ ∀ k, F k → k = p ∨ W0.heap.size ≤ k
structure EnX (t : Nat → Ent) (W0 : World) (p gt r1 r2 : Nat) (c : Code) (pre : List (Int × Nat)) (W : World) : Prop where
  ret : c = .ret
  bad : encL t pre = none
  c1 : W.cell? ⟨r1, 0, none⟩ = some (.slice none 0 0)
  c2 : W.cell? ⟨r2, 0, none⟩ = some (.bool false)
  kp : Kp (fun k => k = p ∨ k = gt ∨ k = r1 ∨ k = r2) W0 W
theorem EnI.own (t : Nat → Ent) (W0 : World) (p gt : Nat) : OwnFrom W0.heap.size (EnI t W0 p gt) := fun s A B row h hg2 hr =>
  ⟨h.kp.grown hg2 (fun k hk e => by have := (hr k e).1; omega), by
    obtain ⟨B', n, F, a, c, h1, h2, h3, h4, h5, h6⟩ := h.wr
    exact ⟨B', n, F, a, c, h1, h2, h3, (grownBy_keeps_cells hg2 (fun r e => (hr r e).2) h4 rfl).trans h4, WrAt.grown h5 hg2 (fun r e => (hr r e).2), h6⟩⟩
theorem EnX.own (t : Nat → Ent) (W0 : World) (p gt r1 r2 : Nat) (c : Code) : OwnFrom W0.heap.size (EnX t W0 p gt r1 r2 c) := fun s A B row h hg hr =>
  ⟨h.ret, h.bad, cell_kept h.c1 hg (fun r e => (hr r e).2), cell_kept h.c2 hg (fun r e => (hr r e).2), h.kp.grown hg (fun k hk e => by have := (hr k e).1; omega)⟩
def EnAx (S : Nat → Int × Nat → Act) (W0 : World) (x : Int × Nat) (a : Act) (W : World) : Prop := ∃ gs, a = S gs x ∧ W0.heap.size ≤ gs ∧ W.heap[gs]? = some (.cells #[.int .i64 (x.2 : Nat)] 3 (0, 0))
theorem EnAx.own (S : Nat → Int × Nat → Act) (W0 : World) (x : Int × Nat) (a : Act) (n : Nat) : OwnFrom n (fun (_ : Unit) W => EnAx S W0 x a W) := fun s A B row h hg hr => by
  obtain ⟨gs, h1, h2, h3⟩ := h
  exact ⟨gs, h1, h2, (grownBy_keeps_cells hg (fun r e => (hr r e).2) h3 rfl).trans h3⟩
theorem EnI.step {t : Nat → Ent} {W0 W V2 V3 : World} {p gt n₀ Bs : Nat} {pre : List (Int × Nat)} {x : Int × Nat} {u : Nat} {B : List Bool} {n : Nat} {F : Nat → Prop} {a : Option Addr} {c : Nat} (h : EnI t W0 p gt pre W)
    (hen : encL t pre = some (B, n)) (hbl : B.length ≤ 6 * pre.length) (hgt : W.heap[gt]? = some (.cells #[.int .i64 (n : Nat)] 3 (0, 0))) (hw : WrAt 227 F W p a c B) (hF : ∀ k, F k → k = p ∨ W0.heap.size ≤ k)
    (hgz : gt < W0.heap.size) (hne : gt ≠ p) (hn0 : n₀ ≤ p) (hn1 : n₀ ≤ gt) (hB : Bs ≠ p) (hB2 : Bs ≠ gt) (hBs : Bs < W0.heap.size)
    (hk2 : Kp (fun _ => False) W V2) (hf : fst (hits t x.2 n) 64 = some u) (hu : u < 64) (hb6 : (t u).bits ≤ 6)
    (hV : WrPost 227 (fun k => k = p ∨ (Value.slice a B.length c).ownBlock = some k) V2 p (B ++ bitsOf (n - (t u).base) (t u).bits) V3) :
    KeepsFrom W0.heap.size W (V3.setCell ⟨gt, 0, none⟩ (.int .i64 (u : Nat))) ∧ KB n₀ Bs W (V3.setCell ⟨gt, 0, none⟩ (.int .i64 (u : Nat))) ∧ EnI t W0 p gt (pre ++ [x]) (V3.setCell ⟨gt, 0, none⟩ (.int .i64 (u : Nat))) ∧
    Kp (fun k => k = p ∨ k = gt) W0 V3 ∧ V3.heap[gt]? = some (.cells #[.int .i64 (n : Nat)] 3 (0, 0)) := by
  obtain ⟨F', a', c', h1, h2, h3⟩ := hV
  have hmin : ∀ k, (k = p ∨ (Value.slice a B.length c).ownBlock = some k) → k = p ∨ W0.heap.size ≤ k := by
    rintro k (rfl | q)
    · exact .inl rfl
    · exact hF k (hw.ne k q).1
  have hg3 : V3.heap[gt]? = some (.cells #[.int .i64 (n : Nat)] 3 (0, 0)) := h2.at_ (hk2.at_ hgt (fun q => q)) (fun q => by rcases hmin gt q with q | q <;> omega)
  have k3 : Kp (fun k => (k = p ∨ (Value.slice a B.length c).ownBlock = some k) ∨ k = gt) W V3 := (hk2.mono (fun _ _ q => q.elim)).trans2 h2 (fun i _ q => .inl q)
  have k4 := k3.setCell (p := ⟨gt, 0, none⟩) (fun _ => .inr rfl) (.int .i64 (u : Nat))
  have hk4 : ∀ i, i < W0.heap.size → ((i = p ∨ (Value.slice a B.length c).ownBlock = some i) ∨ i = gt) → i = p ∨ i = gt := fun i hi q => by
    rcases q with q | q
    · rcases hmin i q with q | q
      · exact .inl q
      · omega
    · exact .inr q
  refine ⟨Kp.keeps k4 ?_ _, Kp.kb k4 ?_, ⟨h.kp.trans2 k4 hk4, B ++ bitsOf (n - (t u).base) (t u).bits, u, F', a', c', ?_, hu, ?_, ?_, ?_, fun k q => ?_⟩, h.kp.trans2 k3 hk4, hg3⟩
  · rintro k ((rfl | q) | rfl)
    · exact ⟨_, hw.hp, rfl⟩
    · exact OwnR.cells hw.own q
    · exact ⟨_, hgt, rfl⟩
  · rintro k (q | rfl)
    · rcases hmin k q with rfl | q
      · exact ⟨hn0, fun e => hB e.symm⟩
      · exact ⟨by omega, by omega⟩
    · exact ⟨hn1, fun e => hB2 e.symm⟩
  · rw [encL_snoc, hen]; simp only [hf]
  · rw [List.length_append, bitsOf_len, List.length_append, List.length_singleton]; omega
  · have := setCell_at (i := 0) hg3 (.int .i64 (u : Nat)); exact this
  · refine h1.kp ((Kp.refl (· = gt) _).setCell (p := ⟨gt, 0, none⟩) (fun _ => rfl) _) (fun k q e => ?_)
    subst e
    rcases h3 k q with q | q
    · rcases hmin k q with q | q <;> omega
    · have := h.kp.size; have := hk2.size; omega
  · rcases h3 k q with q | q
    · exact hmin k q
    · have := h.kp.size; have := hk2.size; omega
attribute [local go_sem] Oper.semAt_some
set_option maxRecDepth 100000 in
set_option maxHeartbeats 4000000 in
theorem fenc_p (w : World) (a : Option Addr) (c N : Nat) (f : Nat → Nat) (h : IntsR w a c N f) (hN : 0 < N) (hN2 : N ≤ 32) (hs : Shares f N) (as' : Option Addr) (cs m : Nat) (l : Nat → Nat) (hl : IntsR w as' cs m l) (hm : m ≤ 1000) :
    Calls Tryz.prog 174 #[.slice a N c, .int .i64 6, .slice as' m cs] w (FencPost w (encAll (ent f N) l m)) := by
  refine (callsIn_wide (n := 5)).1 ?_
  obtain ⟨W, hW⟩ : ∃ W, W = (w.alloc (.cells #[.slice none 0 0] 23)).alloc (.cells #[.bool false] 4) := ⟨_, rfl⟩
  have HWE := Lib.hid hW
  have hWs : W.heap.size = w.heap.size + 2 := by rw [hW]; simp
  have hWk : Kp (fun _ => False) w W := by rw [hW]; exact ((Kp.refl _ _).alloc _).alloc _
  have b1 : W.heap[w.heap.size]? = some (.cells #[.slice none 0 0] 23 (0, 0)) := by
    rw [hW]; exact ((Kp.refl (fun _ => False) _).alloc _).at_ (alloc_at w _) (fun q => q)
  have b2 : W.heap[w.heap.size + 1]? = some (.cells #[.bool false] 4 (0, 0)) := by
    rw [hW]; have := alloc_at (w.alloc (.cells #[.slice none 0 0] 23)) (.cells #[.bool false] 4); rw [World.size_alloc] at this
    exact this
  have TB := Lib.hid (table_p W a c N f (h.kp hWk) hN hN2 hs)
  have HWK := Lib.hid hWk
  have HB1 := Lib.hid b1
  have HB2 := Lib.hid b2
  have HL := Lib.hid hl
  have HS := Lib.hid hs
  have HR := Lib.hid (fun u (hu : u < 64) => ent_rng hs hu)
  clear h hl hW hWk b1 b2
  refine callsIn_of_wp_marks Tryz.func174 rfl trivial ?_ rfl
  refine wpIn_wide.2 ?_
  simp only [Tryz.ntmps174, List.size_toArray, List.length_cons, List.length_nil, Nat.reduceAdd, Nat.reduceSub, Array.replicate_succ, Array.replicate_zero, List.push_toArray, List.append_toArray, List.nil_append, List.cons_append]
  go_wp2_with fail
  rw [← HWE.out]
  refine TB.out.mono ?_
  rintro e w1 ⟨g, rfl, hg, ht, hk1⟩
  have HT1 := Lib.hid ht
  have HK1 := Lib.hid hk1
  have hg1 : g < w1.heap.size := lt_of_at ht
  clear ht hk1 TB
  go_wp2_with (go_at_call 147; refine (neww_c _).mono ?_; rintro e w' ⟨rfl, rfl⟩)
  refine (backN_c as' m cs _).mono ?_
  rintro e w' ⟨rfl, rfl⟩
  obtain ⟨W0, hW0⟩ : ∃ W0, W0 = ((((w1.alloc (.cells #[.slice (some ⟨g, 0, none⟩) 64 64] 239)).alloc (.cells #[.slice none 0 0] 227)).alloc (.cells #[.pointer (some ⟨w1.heap.size + 1, 0, none⟩)] 198)).alloc (.cells #[.int .i64 0] 3)).alloc (.cells #[.slice as' m cs] 179) := ⟨_, rfl⟩
  go_wp2_with fail
  rw [← hW0]
  have hw1 : w.heap.size + 2 ≤ w1.heap.size := by have := HK1.out.size; omega
  obtain ⟨L0, hL0⟩ : ∃ L0, L0 = w1.heap.size := ⟨_, rfl⟩
  have W0s : W0.heap.size = L0 + 5 := by rw [hW0, hL0]; simp
  have kr : ∀ X, Kp (fun _ => False) X X := fun X => Kp.refl _ X
  have W0k : Kp (fun _ => False) w1 W0 := by rw [hW0]; exact (((((kr _).alloc _).alloc _).alloc _).alloc _).alloc _
  have x0 : W0.heap[L0]? = some (.cells #[.slice (some ⟨g, 0, none⟩) 64 64] 239 (0, 0)) := by
    rw [hW0, hL0]; exact (((((kr _).alloc _).alloc _).alloc _).alloc _).at_ (alloc_at w1 _) (fun q => q)
  have x1 : WrAt 227 (· = L0 + 1) W0 (L0 + 1) none 0 [] := by
    have := wr_new 227 (w1.alloc (.cells #[.slice (some ⟨g, 0, none⟩) 64 64] 239))
    rw [World.size_alloc] at this
    rw [hW0, hL0]; exact this.kp ((((kr _).alloc _).alloc _).alloc _) (fun _ _ q => q)
  have x2 : W0.heap[L0 + 1 + 1]? = some (.cells #[.pointer (some ⟨L0 + 1, 0, none⟩)] 198 (0, 0)) := by
    have := alloc_at ((w1.alloc (.cells #[.slice (some ⟨g, 0, none⟩) 64 64] 239)).alloc (.cells #[.slice none 0 0] 227)) (.cells #[.pointer (some ⟨w1.heap.size + 1, 0, none⟩)] 198)
    rw [World.size_alloc, World.size_alloc] at this
    rw [hW0, hL0]; exact (((kr _).alloc _).alloc _).at_ this (fun q => q)
  have x3 : W0.heap[L0 + 1 + 1 + 1]? = some (.cells #[.int .i64 0] 3 (0, 0)) := by
    have := alloc_at (((w1.alloc (.cells #[.slice (some ⟨g, 0, none⟩) 64 64] 239)).alloc (.cells #[.slice none 0 0] 227)).alloc (.cells #[.pointer (some ⟨w1.heap.size + 1, 0, none⟩)] 198)) (.cells #[.int .i64 0] 3)
    rw [World.size_alloc, World.size_alloc, World.size_alloc] at this
    rw [hW0, hL0]; exact ((kr _).alloc _).at_ this (fun q => q)
  have x4 : W0.heap[L0 + 1 + 1 + 1 + 1]? = some (.cells #[.slice as' m cs] 179 (0, 0)) := by
    have := alloc_at ((((w1.alloc (.cells #[.slice (some ⟨g, 0, none⟩) 64 64] 239)).alloc (.cells #[.slice none 0 0] 227)).alloc (.cells #[.pointer (some ⟨w1.heap.size + 1, 0, none⟩)] 198)).alloc (.cells #[.int .i64 0] 3)) (.cells #[.slice as' m cs] 179)
    rw [World.size_alloc, World.size_alloc, World.size_alloc, World.size_alloc] at this
    rw [hW0, hL0]; exact this
  have z1 := W0k.at_ (HK1.out.at_ HB1.out (fun q => q)) (fun q => q)
  have z2 := W0k.at_ (HK1.out.at_ HB2.out (fun q => q)) (fun q => q)
  have HK0 := Lib.hid ((HWK.out.trans HK1.out).trans W0k)
  have HW0s := Lib.hid W0s
  have HTA : Hid (TAt W0 g f N) := Lib.hid (IAt.kp HT1.out W0k (fun q => q))
  have HG1 : Hid (g < L0) := Lib.hid (by omega)
  have HG0 : Hid (w.heap.size + 2 ≤ g) := Lib.hid (by omega)
  have HL1 : Hid (w.heap.size + 2 ≤ L0) := Lib.hid (by omega)
  rw [← hL0]
  obtain ⟨t, htt⟩ : ∃ t, t = ent f N := ⟨_, rfl⟩
  have HTT := Lib.hid htt
  have HX : Hid (∀ V, Kp (fun k => k = L0 + 1 ∨ k = L0 + 1 + 1 + 1) W0 V → V.cell? ⟨L0, 0, none⟩ = some (.slice (some ⟨g, 0, none⟩) 64 64) ∧ V.cell? ⟨L0 + 1 + 1, 0, none⟩ = some (.pointer (some ⟨L0 + 1, 0, none⟩)) ∧
      V.heap[w.heap.size]? = some (.cells #[.slice none 0 0] 23 (0, 0)) ∧ V.heap[w.heap.size + 1]? = some (.cells #[.bool false] 4 (0, 0)) ∧ TAt V g f N) := Lib.hid (fun V hk =>
      ⟨by rw [cell_of (hk.at_ x0 (by omega))]; rfl, by rw [cell_of (hk.at_ x2 (by omega))]; rfl, hk.at_ z1 (by have := HL1.out; omega), hk.at_ z2 (by have := HL1.out; omega), IAt.kp HTA.out hk (by have := HG1.out; omega)⟩)
  have HRD : Hid (RdN w.heap.size (L0 + 1 + 1 + 1 + 1) W0 as' cs m l) := Lib.hid ⟨fun V hk => by
      rw [hk.cell (p := ⟨L0 + 1 + 1 + 1 + 1, 0, none⟩) (by dsimp only; omega) (.inr rfl), cell_of x4]; rfl, fun h0 => by
      obtain ⟨gb, ob, rfl, hgb, hcb, hcc⟩ := HL.out.at_ h0
      exact ⟨gb, ob, rfl, hcb, fun V hk i hi => (hk.cell (p := ⟨gb, ob + i, none⟩) (by have := HK0.out.size; dsimp only; omega) (.inl hgb)).trans (hcc _ HK0.out i hi)⟩⟩
  have HI0 : Hid (EnI t W0 (L0 + 1) (L0 + 1 + 1 + 1) [] W0) := Lib.hid ⟨Kp.refl _ _, [], 0, (· = L0 + 1), none, 0, rfl, by omega, Nat.zero_le _, x3, x1, fun k q => .inl q⟩
  clear W0s x0 x1 x2 x3 x4 z1 z2 W0k kr hW0 HB1 HB2 HWE HL HT1 HK1 HWK hL0 hg1 hg hw1 HTA
  refine (wpIn_wide (n := 5)).1 ?_
  obtain ⟨S, hS⟩ : ∃ S : Nat → Int × Nat → Act, S = fun gs x => { tmps := #[.slice a N c, .int .i64 6, .slice as' m cs, undef, undef, undef, .pointer (some ⟨w.heap.size, 0, none⟩), .pointer (some ⟨w.heap.size + 1, 0, none⟩), .pointer (some ⟨L0, 0, none⟩), .bool true, .pointer (some ⟨L0 + 1 + 1, 0, none⟩), .pointer (some ⟨L0 + 1 + 1 + 1, 0, none⟩), undef, .pointer (some ⟨gs, 0, none⟩), undef, .tuple #[.slice (some ⟨g, 0, none⟩) 64 64, .bool true], .slice a N c, .int .i64 6, .tuple #[.slice (some ⟨g, 0, none⟩) 64 64, .bool true], .slice (some ⟨g, 0, none⟩) 64 64, .bool true, .bool true, .bool false, .pointer (some ⟨L0 + 1, 0, none⟩), .slice as' m cs, .func (.func 225) #[] #[.pointer (some ⟨L0 + 1 + 1 + 1 + 1, 0, none⟩)], .int .i64 x.1, .int .i64 (x.2 : Nat), undef, undef, undef, undef, undef, undef, undef, undef, undef, undef, undef, undef, undef, undef, undef, undef, undef, undef, undef, undef, undef, undef, undef, undef, undef, undef], defers := [] } := ⟨_, rfl⟩
  have HSE := Lib.hid hS
  refine wpIn_rangeFunc_ownH rfl (by omega) (gf := 225) (lb := #[.pointer (some ⟨L0 + 1 + 1 + 1 + 1, 0, none⟩)]) rfl trivial (enters_of Tryz.func225 (by kernel_rfl) rfl)
    (backN_stops Fence.wide 4 trivial rfl (by omega) (L0 + 1 + 1 + 1 + 1) w.heap.size cs as' m l (by omega) W0 HRD.out) (fun h k => h.trans k) (fun V lp o1 o2 h1 _ _ _ => KB.putObj V lp o2 (by have := HW0s.out; have := HL1.out; omega) (by have := HW0s.out; omega)) (Below.refl _ _) (fun _ => rfl)
    (EnI t W0 (L0 + 1) (L0 + 1 + 1 + 1)) (EnX t W0 (L0 + 1) (L0 + 1 + 1 + 1) w.heap.size (w.heap.size + 1)) (EnI.own t W0 _ _) (EnX.own t W0 _ _ _ _) HI0.out (EnAx S W0) (fun x a' => EnAx.own S W0 x a' _) ?assign ?body ?done ?stop
  case assign =>
    intro lp pre x V K hI hK
    have HK2 := Lib.hid hK
    have HI := Lib.hid hI
    clear hI hK
    gi_wp2
    exact HK2.out _ _ (Kp.keeps (kp_alloc V _) (fun k q => q.elim) _) (Kp.kb (kp_alloc V _) (fun k q => q.elim)) ((EnI.own t W0 _ _).alloc _ HI.out) ⟨V.heap.size, by rw [hS], HI.out.kp.size, alloc_at V _⟩
  case body =>
    rintro lp pre x a' V hlp hrec hI ⟨gs, rfl, hgs, hgc⟩ hlt
    obtain ⟨B, n, F, aw, cw, hen, hn64, hbl, hgt, hw, hF⟩ := hI.wr
    have HI := Lib.hid hI
    obtain ⟨e0, e2, e3, e4, eT⟩ := HX.out V hI.kp
    have IX := Lib.hid (indexE_p V g N f eT HS.out gs (L0 + 1 + 1 + 1) x.2 n (fun V' hk => by rw [cell_of (hk.at_ hgc (fun q => q))]; rfl) (fun V' hk => by rw [cell_of (hk.at_ hgt (fun q => q))]; rfl))
    rw [← HTT.out] at IX
    have HEN := Lib.hid hen
    have HGT := Lib.hid hgt
    have HW := Lib.hid hw
    have HF := Lib.hid hF
    have HBL := Lib.hid hbl
    have HLT := Lib.hid hlt
    rw [HSE.out]
    clear hrec hI hgc hen hgt hw hF eT e3 e4 hS hbl hlt
    gi_wp2
    refine ⟨trivial, (CallsIn.inRound lp (callsIn_wide.2 IX.out)).mono ?_⟩
    rintro e V2 ⟨rfl, hk2⟩
    have HK2 := Lib.hid hk2
    have KV2 := Lib.hid (HI.out.kp.trans2 hk2 (fun _ _ q => q.elim))
    clear hk2 IX
    cases hf : fst (hits t x.2 n) 64 with
    | none =>
      have hfo : found none = -1 := rfl
      obtain ⟨_, _, e3, e4, _⟩ := HX.out V2 KV2.out
      have f1 := free_of e3 0
      have f2 := free_of e4 0
      have r1 : V2.cell? ⟨w.heap.size, 0, none⟩ = some (.slice none 0 0) := by rw [cell_of e3]; rfl
      have r2 : V2.cell? ⟨w.heap.size + 1, 0, none⟩ = some (.bool false) := by rw [cell_of e4]; rfl
      have HBAD : Hid (KeepsFrom W0.heap.size V ((V2.setCell ⟨w.heap.size, 0, none⟩ (.slice none 0 0)).setCell ⟨w.heap.size + 1, 0, none⟩ (.bool false)) ∧
          EnX t W0 (L0 + 1) (L0 + 1 + 1 + 1) w.heap.size (w.heap.size + 1) .ret (pre ++ [x]) ((V2.setCell ⟨w.heap.size, 0, none⟩ (.slice none 0 0)).setCell ⟨w.heap.size + 1, 0, none⟩ (.bool false))) := Lib.hid (by
        refine ⟨(Kp.keeps HK2.out (fun k q => q.elim) _).trans (((KeepsOthers.setCell _ _ _).trans (KeepsOthers.setCell _ _ _)).from _), rfl, by rw [encL_snoc, HEN.out]; simp only [hf], ?_, ?_, ((KV2.out.mono (fun k _ q => q.elim .inl (fun q => .inr (.inl q)))).setCell (p := ⟨w.heap.size, 0, none⟩) (fun _ => .inr (.inr (.inl rfl))) _).setCell (p := ⟨w.heap.size + 1, 0, none⟩) (fun _ => .inr (.inr (.inr rfl))) _⟩
        · rw [cell_of (Kp.at_ ((Kp.refl (· = w.heap.size + 1) _).setCell (p := ⟨w.heap.size + 1, 0, none⟩) (fun _ => rfl) _) (setCell_at (i := 0) e3 _) (by omega))]
          rfl
        · rw [cell_of (setCell_at (i := 0) (Kp.at_ ((Kp.refl (· = w.heap.size) _).setCell (p := ⟨w.heap.size, 0, none⟩) (fun _ => rfl) _) e4 (by omega)) _)]
          rfl)
      rw [hfo]
      clear hf e3 e4 hfo
      gi_wp2
      exact HBAD.out
    | some u =>
      have hfo : found (some u) = (u : Nat) := rfl
      obtain ⟨hu, hh⟩ := fst_spec hf
      simp only [hits, Bool.and_eq_true, decide_eq_true_eq] at hh
      obtain ⟨hz1, hz2⟩ := hh.2
      have hb6 : (t u).bits ≤ 6 := by rw [HTT.out]; exact (HR.out u hu).2.2.2.1
      have STEP := Lib.hid (fun V3 (hV : WrPost 227 _ V2.drew _ _ V3) => HI.out.step (n₀ := w.heap.size) (Bs := L0 + 1 + 1 + 1 + 1) HEN.out HBL.out HGT.out HW.out HF.out (by have := HW0s.out; omega) (by omega) (by have := HL1.out; omega) (by have := HL1.out; omega) (by omega) (by omega) (by have := HW0s.out; omega) HK2.out.drew hf hu hb6 hV)
      have PUT := Lib.hid (put_p ((WrAt.min HW.out).kp HK2.out.drew (fun _ _ q => q)) (n - (t u).base) (t u).bits (by omega) (by omega) (by have := HBL.out; have := HLT.out; omega))
      have CE : Hid (∀ V', Kp (fun k => k = L0 + 1 ∨ k = L0 + 1 + 1 + 1) W0 V' → V'.cell? ⟨g, u * 3 + 1, none⟩ = some (.int .i64 ((t u).bits : Nat)) ∧ V'.cell? ⟨g, u * 3 + 2, none⟩ = some (.int .i64 ((t u).base : Nat))) := Lib.hid (fun V' hk => by
        have := TAt.at_ (HX.out V' hk).2.2.2.2 hu
        rw [← HTT.out] at this
        exact this.2)
      obtain ⟨q1, q2⟩ := CE.out _ KV2.out.drew
      obtain ⟨c0, c2, _, _, _⟩ := HX.out _ KV2.out.drew
      have c3 : V2.drew.cell? ⟨L0 + 1 + 1 + 1, 0, none⟩ = some (.int .i64 (n : Nat)) := by rw [cell_of (HK2.out.drew.at_ HGT.out (fun q => q))]; rfl
      have hui : (u : Int) < 64 := by omega
      have hu0 : (0 : Int) ≤ (u : Int) := by omega
      obtain ⟨b, hb⟩ : ∃ b, b = (t u).bits := ⟨_, rfl⟩
      obtain ⟨z, hz⟩ : ∃ z, z = (t u).base := ⟨_, rfl⟩
      obtain ⟨d, hd⟩ : ∃ d, d = n - z := ⟨_, rfl⟩
      rw [← hb] at PUT STEP q1 hb6
      rw [← hz] at PUT STEP q2 hz1
      rw [← hd] at PUT STEP
      have hsb : (n : Int) - (z : Nat) = (d : Nat) := by omega
      have hsw : IntKind.i64.wrap (d : Int) = (d : Nat) := by rw [IntKind.wrap_i64]; omega
      have HHB := Lib.hid hb
      have HHZ := Lib.hid hz
      rw [hfo]
      clear hf hh hz2 hb hz hd hfo
      gi_wp2
      have hS0 : V2.drew.cell? ⟨L0, 0, none⟩ = some (.slice (some ⟨g, 0, none⟩) 64 64) ∧ V2.drew.cell? ⟨L0 + 1 + 1, 0, none⟩ = some (.pointer (some ⟨L0 + 1, 0, none⟩)) ∧ V2.drew.cell? ⟨L0 + 1 + 1 + 1, 0, none⟩ = some (.int .i64 (n : Nat)) ∧ V2.drew.cell? ⟨g, u * 3 + 1, none⟩ = some (.int .i64 (b : Nat)) ∧ V2.drew.cell? ⟨g, u * 3 + 2, none⟩ = some (.int .i64 (z : Nat)) := ⟨c0, c2, c3, q1, q2⟩
      clear c0 c2 c3 q1 q2
      refine wpIn_round_of_held (S := fun V' => V'.cell? ⟨L0, 0, none⟩ = some (.slice (some ⟨g, 0, none⟩) 64 64) ∧ V'.cell? ⟨L0 + 1 + 1, 0, none⟩ = some (.pointer (some ⟨L0 + 1, 0, none⟩)) ∧ V'.cell? ⟨L0 + 1 + 1 + 1, 0, none⟩ = some (.int .i64 (n : Nat)) ∧ V'.cell? ⟨g, u * 3 + 1, none⟩ = some (.int .i64 (b : Nat)) ∧ V'.cell? ⟨g, u * 3 + 2, none⟩ = some (.int .i64 (z : Nat))) (by kernel_rfl) (by kernel_rfl) (by rintro ⟨_, _, q⟩; exact q) ?_
      refine wpAnyH_take (i := 0) (v := ?_) rfl (by kernel_rfl) (by kernel_rfl) (by kernel_rfl) (fun _ _ _ h => h) (Or.inl ⟨by rfl, ?_⟩) hS0 ?_
      rotate_left 1
      · rintro w' ⟨s0, s1, s2, s3, s4⟩
        go_simp
        first | done | with_reducible rfl
      simp only [Act.put, List.setIfInBounds_toArray]
      refine wpAnyH_take (i := 1) (v := ?_) rfl (by kernel_rfl) (by kernel_rfl) (by kernel_rfl) (fun _ _ _ h => h) (Or.inl ⟨by rfl, ?_⟩) hS0 ?_
      rotate_left 1
      · rintro w' ⟨s0, s1, s2, s3, s4⟩
        go_simp
        first | done | with_reducible rfl
      simp only [Act.put]
      refine wpAnyH_take (i := 2) (v := ?_) rfl (by kernel_rfl) (by kernel_rfl) (by kernel_rfl) (fun _ _ _ h => h) (Or.inl ⟨by rfl, ?_⟩) hS0 ?_
      rotate_left 1
      · rintro w' ⟨s0, s1, s2, s3, s4⟩
        go_simp
        first | done | with_reducible rfl
      simp only [Act.put]
      refine wpAnyH_take (i := 3) (v := ?_) rfl (by kernel_rfl) (by kernel_rfl) (by kernel_rfl) (fun _ _ _ h => h) (Or.inl ⟨by rfl, ?_⟩) hS0 ?_
      rotate_left 1
      · rintro w' ⟨s0, s1, s2, s3, s4⟩
        go_simp
        first | done | with_reducible rfl
      simp only [Act.put]
      refine wpAnyH_take (i := 4) (v := ?_) rfl (by kernel_rfl) (by kernel_rfl) (by kernel_rfl) (fun _ _ _ h => h) (Or.inl ⟨by rfl, ?_⟩) hS0 ?_
      rotate_left 1
      · rintro w' ⟨s0, s1, s2, s3, s4⟩
        go_simp
        first | done | with_reducible rfl
      simp only [Act.put]
      refine wpAnyH_take (i := 5) (v := ?_) rfl (by kernel_rfl) (by kernel_rfl) (by kernel_rfl) (fun _ _ _ h => h) (Or.inl ⟨by rfl, ?_⟩) hS0 ?_
      rotate_left 1
      · rintro w' ⟨s0, s1, s2, s3, s4⟩
        go_simp
        first | done | with_reducible rfl
      simp only [Act.put]
      refine wpAnyH_take (i := 6) (v := ?_) rfl (by kernel_rfl) (by kernel_rfl) (by kernel_rfl) (fun _ _ _ h => h) (Or.inl ⟨by rfl, ?_⟩) hS0 ?_
      rotate_left 1
      · rintro w' ⟨s0, s1, s2, s3, s4⟩
        go_simp
        first | done | with_reducible rfl
      simp only [Act.put]
      refine wpAnyH_take (i := 7) (v := ?_) rfl (by kernel_rfl) (by kernel_rfl) (by kernel_rfl) (fun _ _ _ h => h) (Or.inl ⟨by rfl, ?_⟩) hS0 ?_
      rotate_left 1
      · rintro w' ⟨s0, s1, s2, s3, s4⟩
        go_simp
        first | done | with_reducible rfl
      simp only [Act.put]
      refine wpAnyH_take (i := 8) (v := ?_) rfl (by kernel_rfl) (by kernel_rfl) (by kernel_rfl) (fun _ _ _ h => h) (Or.inl ⟨by rfl, ?_⟩) hS0 ?_
      rotate_left 1
      · rintro w' ⟨s0, s1, s2, s3, s4⟩
        go_simp
        first | done | with_reducible rfl
      simp only [Act.put]
      refine wpAnyH_take (i := 9) (v := ?_) rfl (by kernel_rfl) (by kernel_rfl) (by kernel_rfl) (fun _ _ _ h => h) (Or.inl ⟨by rfl, ?_⟩) hS0 ?_
      rotate_left 1
      · rintro w' ⟨s0, s1, s2, s3, s4⟩
        go_simp
        first | done | with_reducible rfl
      simp only [Act.put]
      refine wpAnyH_take (i := 10) (v := ?_) rfl (by kernel_rfl) (by kernel_rfl) (by kernel_rfl) (fun _ _ _ h => h) (Or.inl ⟨by rfl, ?_⟩) hS0 ?_
      rotate_left 1
      · rintro w' ⟨s0, s1, s2, s3, s4⟩
        go_simp
        first | done | with_reducible rfl
      simp only [Act.put]
      refine wpAnyH_take (i := 11) (v := ?_) rfl (by kernel_rfl) (by kernel_rfl) (by kernel_rfl) (fun _ _ _ h => h) (Or.inl ⟨by rfl, ?_⟩) hS0 ?_
      rotate_left 1
      · rintro w' ⟨s0, s1, s2, s3, s4⟩
        go_simp
        first | done | with_reducible rfl
      simp only [Act.put]
      refine wpAnyH_take (i := 12) (v := ?_) rfl (by kernel_rfl) (by kernel_rfl) (by kernel_rfl) (fun _ _ _ h => h) (Or.inl ⟨by rfl, ?_⟩) hS0 ?_
      rotate_left 1
      · rintro w' ⟨s0, s1, s2, s3, s4⟩
        go_simp
        first | done | with_reducible rfl
      simp only [Act.put]
      refine wpAnyH_ready (rs := [13]) (by kernel_rfl) (by simp) ?_
      refine AllReadyH.cons rfl (fun K hK => ?_) AllReadyH.nil
      go_simp
      refine PUT.out.mono ?_
      rintro e V3 ⟨rfl, hV⟩
      obtain ⟨q1, q2, q3, q4, q5⟩ := STEP.out V3 hV
      obtain ⟨c0, c2, _, _, _⟩ := HX.out V3 q4
      obtain ⟨d1, d2⟩ := CE.out V3 q4
      rw [← HHB.out] at d1
      rw [← HHZ.out] at d2
      have c3 : V3.cell? ⟨L0 + 1 + 1 + 1, 0, none⟩ = some (.int .i64 (n : Nat)) := by rw [cell_of q5]; rfl
      have f3 := free_of q5 0
      have Q1 := Lib.hid q1
      have Q2 := Lib.hid q2
      have Q3 := Lib.hid q3
      clear q1 q2 q3 q4 q5 hV PUT STEP
      go_simp
      refine hK.out _ _ ⟨c0, c2, c3, d1, d2⟩ (fun _ => ?_)
      refine wpAnyH_done (by kernel_rfl) ?_ _
      gi_wp2
      exact ⟨Q1.out, Q2.out, Q3.out⟩
  case done =>
    rintro D ys V hD rfl hI hK
    have HI := Lib.hid hI
    obtain ⟨B, n, F, aw, cw, hen, hn64, hbl, hgt, hw, hF⟩ := hI.wr
    rw [encL_upto] at hen
    have HA2 : Hid (encAll (ent f N) l m = some (B ++ bitsOf n 6)) := Lib.hid (by rw [← HTT.out]; unfold encAll; rw [hen]; rfl)
    rw [upto_length] at hbl
    obtain ⟨e0, e2, e3, e4, _⟩ := HX.out V hI.kp
    have c3 : V.cell? ⟨L0 + 1 + 1 + 1, 0, none⟩ = some (.int .i64 (n : Nat)) := by rw [cell_of hgt]; rfl
    have hF2 : ∀ k, (k = L0 + 1 ∨ (Value.slice aw B.length cw).ownBlock = some k) → k = L0 + 1 ∨ W0.heap.size ≤ k := by
      rintro k (rfl | q)
      · exact .inl rfl
      · exact hF k (hw.ne k q).1
    have HDN : Hid (¬ (D = L0 + 1 ∨ (Value.slice aw B.length cw).ownBlock = some D)) := Lib.hid (by
      rintro (q | q)
      · have := HW0s.out; omega
      · obtain ⟨o, ho, hc⟩ := OwnR.cells hw.own q; rw [hK] at ho; cases ho; cases hc)
    have PUT := Lib.hid (put_p (WrAt.min hw) n 6 (by omega) (by omega) (by omega))
    have HF2 := Lib.hid hF2
    have HKD := Lib.hid hK
    have HD := Lib.hid hD
    have HE3 := Lib.hid e3
    have HE4 := Lib.hid e4
    have HE2 := Lib.hid e2
    have HBL := Lib.hid hbl
    clear hI hw hF e0 e3 e4 hK hD hen hbl hF2 hgt
    go_wp2_with fail
    refine PUT.out.mono ?_
    rintro e V2 ⟨rfl, F', a', c', h1, h2, h3⟩
    obtain ⟨BB, hBB⟩ : ∃ BB, BB = B ++ bitsOf n 6 := ⟨_, rfl⟩
    have hbb : BB.length ≤ 7000 := by rw [hBB, List.length_append, bitsOf_len]; have := HBL.out; omega
    rw [← hBB] at h1 HA2
    have hs0 := HW0s.out
    have hsL := HL1.out
    have hnF : ∀ k, k < W0.heap.size → k ≠ L0 + 1 → ¬ (k = L0 + 1 ∨ (Value.slice aw B.length cw).ownBlock = some k) := fun k hk hn q => by
      rcases HF2.out k q with q | q <;> omega
    have e2 : V2.cell? ⟨L0 + 1 + 1, 0, none⟩ = some (.pointer (some ⟨L0 + 1, 0, none⟩)) := (h2.cell (p := ⟨L0 + 1 + 1, 0, none⟩) (by have := HI.out.kp.size; dsimp only; omega) (hnF _ (by dsimp only; omega) (by dsimp only; omega))).trans HE2.out
    have e3 := h2.at_ HE3.out (hnF _ (by omega) (by omega))
    have e4 := h2.at_ HE4.out (hnF _ (by omega) (by omega))
    have eD := h2.at_ HKD.out HDN.out
    have BY := Lib.hid (bytes_p h1 (by omega))
    have HE3' := Lib.hid e3
    have HE4' := Lib.hid e4
    have HED := Lib.hid eD
    have KV : Hid (Kp (fun _ => False) w V2) := Lib.hid ((HK0.out.trans2 HI.out.kp (fun i hi q => by omega)).trans2 h2 (fun i hi q => by rcases HF2.out i q with q | q <;> omega))
    clear h1 h2 h3 e3 e4 eD hBB hnF PUT
    go_wp2_with fail
    refine BY.out.mono ?_
    rintro e w5 ⟨g5, rfl, b1, b2, b3⟩
    have B1 := Lib.hid b1
    have B2 := Lib.hid (pack_row b2 (by omega))
    have B3 := Lib.hid b3
    have PL := Lib.hid (pack_len BB)
    have v3 := b3.at_ HE3'.out (fun q => q)
    have v4 := b3.at_ HE4'.out (fun q => q)
    have HV3 := Lib.hid v3
    have HV4 := Lib.hid v4
    have f1 := free_of v3 0
    have f2 := free_of v4 0
    have r1 : w5.cell? ⟨w.heap.size, 0, none⟩ = some (.slice none 0 0) := by rw [cell_of v3]; rfl
    have r2 : w5.cell? ⟨w.heap.size + 1, 0, none⟩ = some (.bool false) := by rw [cell_of v4]; rfl
    clear b1 b2 b3 v3 v4
    go_wp2_with fail
    obtain ⟨q, hq⟩ : ∃ q, q = BB.length / 8 + 1 := ⟨_, rfl⟩
    have HQ := Lib.hid hq
    rw [← hq]
    have kX := ((Kp.refl (fun k => k = w.heap.size ∨ k = w.heap.size + 1) w5).setCell (p := ⟨w.heap.size, 0, none⟩) (fun _ => .inl rfl) (.slice (some ⟨g5, 0, none⟩) q q)).setCell (p := ⟨w.heap.size + 1, 0, none⟩) (fun _ => .inr rfl) (.bool true)
    have z1 := Kp.at_ ((Kp.refl (· = w.heap.size + 1) _).setCell (p := ⟨w.heap.size + 1, 0, none⟩) (fun _ => rfl) (.bool true)) (setCell_at (i := 0) HV3.out (.slice (some ⟨g5, 0, none⟩) q q)) (by omega)
    have z2 := setCell_at (i := 0) (Kp.at_ ((Kp.refl (· = w.heap.size) _).setCell (p := ⟨w.heap.size, 0, none⟩) (fun _ => rfl) (.slice (some ⟨g5, 0, none⟩) q q)) HV4.out (by omega)) (.bool true)
    obtain ⟨X, hX⟩ : ∃ X, X = (w5.setCell ⟨w.heap.size, 0, none⟩ (.slice (some ⟨g5, 0, none⟩) q q)).setCell ⟨w.heap.size + 1, 0, none⟩ (.bool true) := ⟨_, rfl⟩
    rw [← hX] at kX z1 z2 ⊢
    clear hX
    have hsD := HD.out
    have hKX := kX.at_ (B3.out.at_ HED.out (fun q => q)) (by omega)
    have kY := Kp.put X D (.deferred none)
    have y1 : (X.putObj D (.deferred none)).cell? ⟨w.heap.size, 0, none⟩ = some (.slice (some ⟨g5, 0, none⟩) q q) := by rw [cell_of (kY.at_ z1 (by omega))]; rfl
    have y2 : (X.putObj D (.deferred none)).cell? ⟨w.heap.size + 1, 0, none⟩ = some (.bool true) := by rw [cell_of (kY.at_ z2 (by omega))]; rfl
    have hB1 := B1.out
    have hVs := KV.out.size
    have hV2s : D < V2.heap.size := lt_of_at HED.out
    have hKK : Kp (fun _ => False) w (X.putObj D (.deferred none)) := ((KV.out.trans B3.out).trans2 kX (fun i hi q => by omega)).trans2 kY (fun i hi q => by omega)
    refine ⟨by simp, .inl ⟨_, _, rfl, run_takeDeferred hKX, ?_⟩⟩
    refine ⟨.tuple #[.slice (some ⟨g5, 0, none⟩) q q, .bool true], ?_, ?_⟩
    · rw [results_cc rfl]
      simp [go_sem, y1, y2]
    · rw [HA2.out]
      refine ⟨_, rfl, ?_, hKK⟩
      have hr := B2.out
      rw [PL.out, ← HQ.out] at hr
      exact ((hr.kp kX (fun k q => by omega)).kp kY (fun k q => by omega)).low (by omega)
  case stop =>
    rintro D c0 pre V hD ⟨k, hk, rfl⟩ hX hK
    obtain rfl := hX.ret
    have hbad := hX.bad
    rw [encL_upto] at hbad
    have HNO : Hid (encAll (ent f N) l m = none) := Lib.hid (by rw [← HTT.out]; unfold encAll; rw [enc_stop hbad m hk]; rfl)
    refine wpIn_wide.2 ?_
    have HX2 := Lib.hid hX
    have HKD := Lib.hid hK
    have HD := Lib.hid hD
    clear hX hK hD hbad
    go_wp2_with fail
    have hs0 := HW0s.out
    have hsL := HL1.out
    have hsD := HD.out
    have kY := Kp.put V D (.deferred none)
    have y1 := cell_kept HX2.out.c1 (grownBy_putObj' _ D (.deferred none)) (fun r e => by cases e; exact ⟨_, HKD.out, rfl⟩)
    have y2 := cell_kept HX2.out.c2 (grownBy_putObj' _ D (.deferred none)) (fun r e => by cases e; exact ⟨_, HKD.out, rfl⟩)
    have hKK : Kp (fun _ => False) w (V.putObj D (.deferred none)) := (HK0.out.trans2 HX2.out.kp (fun i hi q => by omega)).trans2 kY (fun i hi q => by omega)
    refine ⟨by simp, .inl ⟨_, _, rfl, run_takeDeferred HKD.out, ?_⟩⟩
    refine ⟨.tuple #[.slice none 0 0, .bool false], ?_, ?_⟩
    · rw [results_cc rfl]
      simp [go_sem, y1, y2]
    · rw [HNO.out]
      exact ⟨rfl, hKK⟩
end Go.Proofs.YtmioiaeiflbmhaaGreat.Ma
namespace Go.Proofs.YtmioiaeiflbmhaaGreat.Ma
open Go Go.RowKit Go.ChangeMaps Go.MapKept Go.Mg Go.Mt Go.Proofs.YtmioiaeiflbmhaaGreat.Hu Go.Proofs.YtmioiaeiflbmhaaGreat.Bw Go.Proofs.YtmioiaeiflbmhaaGreat.He Go.Proofs.YtmioiaeiflbmhaaGreat.Sq
set_option maxRecDepth 100000 in
set_option maxHeartbeats 4000000 in
theorem row6_p (w : World) (a : Option Addr) (c n : Nat) (v : Nat → Nat) (h : IntsR w a c n v) (hn0 : 0 < n) (hn : n ≤ 500) (hv : ∀ i, i < n → v i < 4096) :
    Calls Tryz.prog 146 #[.slice a n c] w (RowPost6 w v n) := by
  obtain ⟨i0, hi0, hz0, hz1, hz2⟩ := info_parts infoI_
  obtain ⟨j0, hj0, hy0, hy1, hy2⟩ := info_parts infoU8
  obtain ⟨g, o, rfl, hg, hcap, hc⟩ := h.at_ hn0
  have HC := Lib.hid hc
  have HV := Lib.hid hv
  have HCS := Lib.hid (cods_succ v)
  have HCL := Lib.hid (cods_len v)
  have HCU := Lib.hid (cn_up v)
  have HCN := Lib.hid (cn_le v)
  obtain ⟨W, hmk, hia, hkw, hws⟩ := made_i w 16 (by omega)
  have hmk2 : (Instr.makeSlice 179 (.int .i64 16) (.int .i64 16)).run Tryz.prog w = .ok (.slice (some ⟨w.heap.size, 0, none⟩) 16 16) W := hmk
  have HI0 : Hid (IAt 3 W w.heap.size 16 (cn v 0)) := Lib.hid (hia.congr (fun i _ => rfl))
  have HKW := Lib.hid hkw
  have HC0 : Hid (cods v 0 = []) := Lib.hid rfl
  clear h hc hv hmk hia hkw
  go_enter Tryz.func146, Tryz.ntmps146
  go_wp2_with fail
  obtain ⟨G, hG⟩ : ∃ G, G = w.heap.size := ⟨_, rfl⟩
  rw [← hG] at HI0 hws ⊢
  have HGE := Lib.hid hG
  clear hG hmk2
  go_loopw [4, 6, 7, 8, 9, 20] (fun s _ _ _ _ i wr => ∃ k : Nat, k ≤ n ∧ i = .int .i64 k ∧ IAt 3 wr G 16 (cn v k) ∧ RowI W.heap.size wr s (cods v k) ∧ Kp (fun _ => False) w wr ∧ W.heap.size ≤ wr.heap.size) (fun _ _ _ _ _ i _ => n - (intOf i).toNat)
  case atStart => exact ⟨0, Nat.zero_le _, rfl, HI0.out, by rw [HC0.out]; exact RowM.nil _ _ _, HKW.out, Nat.le_refl _⟩
  case round =>
    clear HI0 HC0
    obtain ⟨k, hk, rfl, hat, hrow, hkw, hsz⟩ := hrel
    obtain ⟨av, cv, rfl, hown, hbeyond⟩ := hrow
    have HROW : Hid (RowI W.heap.size wr (.slice av (cods v k).length cv) (cods v k)) := Lib.hid ⟨av, cv, rfl, hown, hbeyond⟩
    have hcl := HCL.out k
    rw [hcl] at HROW ⊢
    have HCLK := Lib.hid hcl
    have HAT := Lib.hid hat
    have HKR := Lib.hid hkw
    have HSZ := Lib.hid hsz
    clear hown hbeyond hcl hat hkw hsz
    by_cases hlt : k < n
    · have d0 := HC.out _ HKR.out k hlt
      have hx4 := HV.out k hlt
      have hcs := HCS.out k
      have hcu := HCU.out k
      have hcn := HCN.out k (Lib.bitLen (v k))
      obtain ⟨x, hx⟩ : ∃ x, x = v k := ⟨_, rfl⟩
      rw [← hx] at d0 hx4 hcs hcu hcn
      have hb12 := cd_le hx4
      have CD := Lib.hid (code_p x hx4 wr)
      have HX4 := Lib.hid hx4
      have HCUX := Lib.hid hcu
      have HCSX := Lib.hid hcs
      obtain ⟨b, hb⟩ : ∃ b, b = Lib.bitLen x := ⟨_, rfl⟩
      rw [← hb] at CD hcn hb12 HCUX HCSX
      generalize nb x = nbx at CD
      generalize ex x = exx at CD
      clear hcs hcu hb hx hx4
      go_wp2_with fail
      refine CD.out.mono ?_
      rintro e w5 ⟨rfl, hk5⟩
      have HAT5 := Lib.hid (HAT.out.kp hk5 (fun q => q))
      have c1 := IAt.cell HAT5.out (i := b) (by omega)
      have f1 := IAt.free HAT5.out b
      have hset := IAt.set HAT5.out (i := b) (by omega) (cn v k b + 1)
      rw [HCUX.out] at hset
      obtain ⟨y, hy⟩ : ∃ y, y = cn v k b := ⟨_, rfl⟩
      rw [← hy] at c1 hset hcn
      have hks : Kp (· = G) w5 (w5.setCell ⟨G, b, none⟩ (.int .i64 (y + 1 : Nat))) := (Kp.refl (· = G) w5).setCell (p := ⟨G, b, none⟩) (fun _ => rfl) _
      have hkw2 : Kp (fun _ => False) w (w5.setCell ⟨G, b, none⟩ (.int .i64 (y + 1 : Nat))) := (HKR.out.trans hk5).trans2 hks (fun i hi q => by have := HGE.out; omega)
      have hr2 := (HROW.out.kp0 hk5).kp hks (fun k q => by rw [q]; exact hws)
      have hs2 := Nat.le_trans (Nat.le_trans HSZ.out hk5.size) hks.size
      obtain ⟨V, hV⟩ : ∃ V, V = w5.setCell ⟨G, b, none⟩ (.int .i64 (y + 1 : Nat)) := ⟨_, rfl⟩
      have hVi : w5.setCell ⟨G, b, none⟩ (.int .i64 ((y : Int) + 1)) = V := by rw [hV]; rfl
      have hVs : V.heap.size = w5.heap.size := by rw [hV]; simp
      rw [← hV] at hset hkw2 hr2 hs2
      have t5 := lit_m V 3 [iv b] (n := 1) rfl (by omega)
      have T := Lib.hid t5
      have HVS := Lib.hid hVs
      have KA : Hid (Kp (fun _ => False) V (V.alloc (.cells #[.int .i64 (b : Nat)] 3))) := Lib.hid (kp_alloc _ _)
      have HR3 := Lib.hid (hr2.kp0 KA.out)
      have HB3 := Lib.hid (Nat.le_trans hs2 KA.out.size)
      have HSET := Lib.hid hset
      have HKW2 := Lib.hid (hkw2.trans KA.out)
      have HVI := Lib.hid hVi
      have HCS2 := Lib.hid HCSX.out
      clear hset hks hkw2 hr2 hs2 hV hVs t5 hy hk5
      go_wp2_with (at_builtin; refine wpList_appBM (B := W.heap.size) _ rfl _ _ 179 rfl 3 i0 _ 8 Tryz.underlying179 hi0 hz0 hz1 hz2 rfl (by decide) (by decide) iv1 (.slice av k cv) (cods v k) rfl HR3.out HB3.out (.slice (some ⟨V.heap.size, 0, none⟩) 1 1) 1 [b] rfl T.out rfl (k + 1) (by rw [HCLK.out]) (by omega) ?_; intro a5 c5 w6 g1 g2; have G1 := Lib.hid g1; have G2 := Lib.hid g2; clear g1 g2)
      refine ⟨⟨k + 1, by omega, by go_num, ?_, ?_, ?_, ?_⟩, by simp [intOf]; try omega⟩
      · have hk3 := (KA.out.mono (G := fun k => W.heap.size ≤ k) (fun _ _ q => q.elim)).trans G2.out
        exact IAt.kp HSET.out hk3 (fun q => by omega)
      · rw [HCS2.out]; exact G1.out
      · exact HKW2.out.trans2 G2.out (fun i hi q => by have := HGE.out; omega)
      · exact Nat.le_trans HB3.out G2.out.size
    · obtain rfl : k = n := by omega
      have HSUM : Hid (Fse.sm (cn v k) 16 = k) := Lib.hid (cn_sum v 16 k (fun i hi => by have := cd_le (HV.out i hi); omega))
      have NM : Hid (Calls Tryz.prog 173 #[.slice (some ⟨G, 0, none⟩) 16 16, .int .i64 6] wr (NormPost wr 16 (nrm v k))) := Lib.hid (norm_p wr _ 16 16 (cn v k) (IAt.rd HAT.out (by omega)) (by omega) (by omega) (by rw [HSUM.out]; omega) (by rw [HSUM.out]; omega))
      have HSL : Hid (IntsR wr av cv k (fun i => Lib.bitLen (v i))) := Lib.hid (IntsR.congr (rdM HROW.out) (fun i hi => cods_at v hi))
      have HB12 : Hid (∀ i, i < k → Lib.bitLen (v i) ≤ 1000) := Lib.hid (fun i hi => by have := cd_le (HV.out i hi); omega)
      clear HCS HCU HCN HC
      go_wp2_with fail
      refine NM.out.mono ?_
      rintro e w3 ⟨g2, rfl, hg2, hi2, hk2⟩
      have HI2 := Lib.hid hi2
      have HK2 := Lib.hid hk2
      have HK3 := Lib.hid (HKR.out.trans hk2)
      have HSH := Lib.hid (shb_succ v k)
      have HSHL := Lib.hid (shb_len v k)
      have HS0 : Hid (shb v k 0 = []) := Lib.hid rfl
      have HN64 : Hid (∀ i, i < 16 → nrm v k i ≤ 64) := Lib.hid (fun i hi => Fse.shn_le (by omega) _ hi)
      have HFIN : Hid (shb v k 16 = shares v k) := Lib.hid rfl
      have HOK := Lib.hid (shares_ok v k)
      have HEB : Hid (encB v k = Fse.encAll (Fse.ent (nrm v k) 16) (fun i => Lib.bitLen (v i)) k) := Lib.hid rfl
      have HRB : Hid (Sq.rowB v k = shares v k ++ sized (packO (encB v k)) ∧ (Sq.rowB v k).length = 18 + (packO (encB v k)).length ∧ (packO (encB v k)).length ≤ 6 * k + 10) := Lib.hid ⟨rfl, rowB_len v k, packO_le⟩
      clear hi2 hk2 NM
      go_wp2_with fail
      go_loopw [12, 14, 48] (fun b _ i wr => ∃ j : Nat, j ≤ 16 ∧ i = .int .i64 j ∧ RowB w3.heap.size wr b (shb v k j) ∧ Kp (fun _ => False) w3 wr) (fun _ _ i _ => 16 - (intOf i).toNat)
      case atStart => exact ⟨0, Nat.zero_le _, rfl, by rw [HS0.out]; exact RowM.nil _ _ _, Kp.refl _ _⟩
      case round =>
        obtain ⟨j, hj, rfl, hrow, hkw⟩ := hrel
        obtain ⟨bv, dv, rfl, hown, hbeyond⟩ := hrow
        have HROW2 : Hid (RowB w3.heap.size wr (.slice bv (shb v k j).length dv) (shb v k j)) := Lib.hid ⟨bv, dv, rfl, hown, hbeyond⟩
        have hcl := HSHL.out j
        rw [hcl] at HROW2 ⊢
        have HJL := Lib.hid hcl
        have HKW3 := Lib.hid hkw
        clear hown hbeyond hcl hkw
        by_cases hlt : j < 16
        · have d0 : wr.cell? ⟨g2, j, none⟩ = some (.int .i64 (nrm v k j : Nat)) := IAt.cell (IAt.kp HI2.out HKW3.out (fun q => q)) hlt
          have h64 := HN64.out j hlt
          have hsh := HSH.out j
          obtain ⟨x, hx⟩ : ∃ x, x = nrm v k j := ⟨_, rfl⟩
          rw [← hx] at d0 h64 hsh
          have HSHJ := Lib.hid hsh
          have hw8 : IntKind.u8.wrap (x : Int) = (x : Int) := by rw [IntKind.wrap_u8]; omega
          have T : Hid (SlR (wr.alloc (.cells #[.int .u8 (x : Nat)] 5)) 1 (.slice (some ⟨wr.heap.size, 0, none⟩) 1 1) 1 ([UInt8.ofNat x].map u8c)) := Lib.hid (by
            have := lit_m wr 5 [u8c (UInt8.ofNat x)] (n := 1) rfl (by omega)
            have e : u8c (UInt8.ofNat x) = .int .u8 (x : Nat) := by unfold u8c; rw [UInt8.toNat_ofNat']; congr 2; omega
            rw [e] at this
            simp only [List.map_cons, List.map_nil, e]
            exact this)
          have KA := Lib.hid (kp_alloc wr (.cells #[.int .u8 (x : Nat)] 5))
          have HR3 := Lib.hid (HROW2.out.kp0 KA.out)
          have HK4 := Lib.hid (HKW3.out.trans KA.out)
          clear hsh hx
          go_wp2_with (at_builtin; refine wpList_appM (w0 := w3) _ rfl _ _ 23 rfl 5 j0 _ 1 Tryz.underlying23 hj0 hy0 hy1 hy2 rfl (by decide) (by decide) u8c_1 (.slice bv j dv) (shb v k j) rfl HR3.out (.slice (some ⟨wr.heap.size, 0, none⟩) 1 1) 1 [UInt8.ofNat x] rfl T.out rfl HK4.out (j + 1) (by rw [HJL.out]) (by omega) ?_; intro a5 c5 w6 g1 g2 _; have G1 := Lib.hid g1; have G2 := Lib.hid g2; clear g1 g2)
          exact ⟨⟨j + 1, by omega, by go_num, by rw [HSHJ.out]; exact G1.out, G2.out⟩, by simp [intOf]; try omega⟩
        · obtain rfl : j = 16 := by omega
          have FE : Hid (Calls Tryz.prog 174 #[.slice (some ⟨g2, 0, none⟩) 16 16, .int .i64 6, .slice av k cv] wr (FencPost wr (encB v k))) := Lib.hid (by
            rw [HEB.out]
            exact fenc_p wr _ 16 16 (nrm v k) (IAt.rd (IAt.kp HI2.out HKW3.out (fun q => q)) (by omega)) (by omega) (by omega) HOK.out av cv k _ (HSL.out.kp (HK2.out.trans HKW3.out)) (by omega))
          obtain ⟨PO, hPO⟩ : ∃ PO, PO = packO (encB v k) := ⟨_, rfl⟩
          rw [← hPO] at HRB
          have HPO := Lib.hid hPO
          obtain ⟨m, hm⟩ : ∃ m, m = PO.length := ⟨_, rfl⟩
          have HM := Lib.hid hm
          have hmle : m ≤ 6 * k + 10 := by rw [hm]; exact HRB.out.2.2
          clear hPO hm
          go_wp2_with fail
          refine FE.out.mono ?_
          intro e w5 hfe
          obtain ⟨pa, pc, z, rfl, p1, p2⟩ := fenc_o hfe
          rw [← HPO.out, ← HM.out] at p1 ⊢
          have HNE : Hid (∀ b, (Value.slice pa m pc).ownBlock = some b → ¬ (Value.slice bv 16 dv).ownBlock = some b) := Lib.hid (fun b q1 q2 => by have h1 := p1.lt q1; have h2 := HROW2.out.lt q2; omega)
          have P1 := Lib.hid p1
          have KP := Lib.hid (HKW3.out.trans p2)
          have RB := Lib.hid (HROW2.out.kp0 p2)
          clear hfe p1 p2
          go_wp2_with fail
          have hsl : SlR w5 1 (.slice pa PO.length pc) PO.length (PO.map u8c) := P1.out.sl.1
          have SP := sized6_p w5 PO pa pc hsl (by rw [← HM.out]; omega)
          unfold SizedPost at SP
          rw [← HM.out] at SP
          refine SP.mono ?_
          rintro e w6 ⟨sa, sc, rfl, t6, k6⟩
          have T6 := Lib.hid (t6.sl.1)
          have HSL6 : Hid ((Sq.sized PO).length = 2 + m) := Lib.hid (by rw [HM.out]; simp [Sq.sized, two]; omega)
          rw [HSL6.out] at T6
          have KT := Lib.hid (KP.out.trans k6)
          have RB6 := Lib.hid (RB.out.kp0 k6)
          have HRL : Hid ((Sq.rowB v k).length = 18 + m) := Lib.hid (by rw [HRB.out.2.1, HM.out])
          have HRE : Hid (shb v k 16 ++ Sq.sized PO = Sq.rowB v k) := Lib.hid (by rw [HRB.out.1, HFIN.out])
          clear t6 k6 RB P1 hsl SP
          go_wp2_with (at_builtin; refine wpList_appM (w0 := w3) _ rfl _ _ 23 rfl 5 j0 _ 1 Tryz.underlying23 hj0 hy0 hy1 hy2 rfl (by decide) (by decide) u8c_1 (.slice bv 16 dv) (shb v k 16) rfl RB6.out (.slice sa (2 + m) sc) (2 + m) (Sq.sized PO) rfl T6.out HSL6.out KT.out (18 + m) (by rw [HJL.out]; omega) (by omega) ?_; intro a8 c8 w8 g1 g2 _; have G3 := Lib.hid g1; have G4 := Lib.hid g2; clear g1 g2)
          go_ret
          rw [HRE.out] at G3
          refine ⟨a8, c8, by rw [HRL.out]; rfl, ?_, HK3.out.trans G4.out⟩
          rw [HRL.out]
          exact G3.out.low (HK3.out.size)
end Go.Proofs.YtmioiaeiflbmhaaGreat.Ma
