/- fse: the document's find, Encode. fse: the document's Encode. match: the document's long, best, Parse, Literals. match: the document's Parse. -/
import Derived.Deep.RegionHeld3
import Derived.Test.YtphakpikalmghaaGreatU06
import Derived.Test.YtphakpikalmghaaGreatU04
import Derived.Test.YtphakpikalmghaaGreatU05
namespace Go.Proofs.YtphakpikalmghaaGreat.Ma
open Go Go.RowKit Go.ChangeMaps Go.MapKept Go.Mg Go.Fse Go.Proofs.YtphakpikalmghaaGreat.Hu

theorem pow6 {b : Nat} (h : b ≤ 6) : ∃ P : Nat, (2 : Int) ^ b = (P : Nat) ∧ P = 2 ^ b ∧ 1 ≤ P ∧ P ≤ 64 := by
  refine ⟨2 ^ b, by simp, rfl, Nat.one_le_two_pow, ?_⟩
  have : (2 : Nat) ^ b ≤ 2 ^ 6 := Nat.pow_le_pow_right (by omega) h
  have h6 : (2 : Nat) ^ 6 = 64 := rfl
  omega
def found (o : Option Nat) : Int := match o with
  | some u => (u : Nat)
  | none => -1
set_option maxRecDepth 100000 in
set_option maxHeartbeats 2000000 in
theorem find_d (w : World) (g N : Nat) (f : Nat → Nat) (h : TAt w g f N) (hs : Shares f N) (s n : Nat) :
    Calls Tryz.prog 116 #[.slice (some ⟨g, 0, none⟩) 64 64, .int .i64 (s : Nat), .int .i64 (n : Nat)] w fun e w' => e = .returned (.int .i64 (found (fst (hits (ent f N) s n) 64))) ∧ ∃ q, w' = w.drewN q := by
  have HT := Lib.hid h
  have HR := Lib.hid (fun u (hu : u < 64) => ent_rng hs hu)
  obtain ⟨t, ht⟩ : ∃ t, t = ent f N := ⟨_, rfl⟩
  rw [← ht] at HR ⊢
  have HTT : Hid (∀ q u, u < 64 → (w.drewN q).cell? ⟨g, u * 3, none⟩ = some (.int .i64 ((t u).sym : Nat)) ∧ (w.drewN q).cell? ⟨g, u * 3 + 1, none⟩ = some (.int .i64 ((t u).bits : Nat)) ∧ (w.drewN q).cell? ⟨g, u * 3 + 2, none⟩ = some (.int .i64 ((t u).base : Nat))) := Lib.hid (fun q u hu => by
    have := h.at_ hu
    rw [← ht] at this
    exact this)
  clear h ht HT
  go_enter Tryz.func116, Tryz.ntmps116
  go_wp2_with fail
  go_loopw [7] (fun i wr => ∃ u q : Nat, u ≤ 64 ∧ i = .int .i64 u ∧ (∀ v, v < u → hits t s n v = false) ∧ wr = w.drewN q) (fun i _ => 64 - (intOf i).toNat)
  case atStart => exact ⟨0, 0, by omega, rfl, fun v hv => by omega, rfl⟩
  case round =>
    obtain ⟨u, q, hu, rfl, hno, rfl⟩ := hrel
    have HNO := Lib.hid hno
    clear hno
    by_cases hlt : u < 64
    · have d0 : ∀ q, (w.drewN q).cell? ⟨g, u * 3, none⟩ = some (.int .i64 ((t u).sym : Nat)) := fun q => (HTT.out q u hlt).1
      have d1 : ∀ q, (w.drewN q).cell? ⟨g, u * 3 + 1, none⟩ = some (.int .i64 ((t u).bits : Nat)) := fun q => (HTT.out q u hlt).2.1
      have d2 : ∀ q, (w.drewN q).cell? ⟨g, u * 3 + 2, none⟩ = some (.int .i64 ((t u).base : Nat)) := fun q => (HTT.out q u hlt).2.2
      obtain ⟨_, _, _, r4, _, r6, _⟩ := HR.out u hlt
      have HH : Hid (hits t s n u = (decide ((t u).sym = s) && (decide ((t u).base ≤ n) && decide (n < (t u).base + 2 ^ (t u).bits)))) := Lib.hid rfl
      obtain ⟨y, hy⟩ : ∃ y, y = (t u).sym := ⟨_, rfl⟩
      obtain ⟨b, hb⟩ : ∃ b, b = (t u).bits := ⟨_, rfl⟩
      obtain ⟨z, hz⟩ : ∃ z, z = (t u).base := ⟨_, rfl⟩
      rw [← hy] at d0 HH
      rw [← hb] at d1 HH r4
      rw [← hz] at d2 HH r6
      clear hy hb hz
      obtain ⟨P, hP, hP2, hP3, hP4⟩ := pow6 r4
      rw [← hP2] at HH
      have hwP : IntKind.i64.wrap (P : Int) = (P : Int) := by rw [IntKind.wrap_i64]; omega
      have hwZ : IntKind.i64.wrap ((z : Int) + (P : Nat)) = (z : Int) + (P : Nat) := by rw [IntKind.wrap_i64]; omega
      clear hP2
      have HN1 : Hid (∀ h0 : hits t s n u = false, ∀ v, v < u + 1 → hits t s n v = false) := Lib.hid (fun h0 v hv => by
        by_cases e : v = u
        · subst e; exact h0
        · exact HNO.out v (by omega))
      by_cases c1 : y = s
      · have b1 : ((y : Int) == (s : Int)) = true := by rw [beq_iff_eq]; omega
        by_cases c2 : z ≤ n
        · have b2 : decide (z ≤ n) = true := by simpa using c2
          by_cases c3 : n < z + P
          · have b3 : decide ((n : Int) < (z : Int) + (P : Nat)) = true := by simp; omega
            have HF : Hid (fst (hits t s n) 64 = some u) := Lib.hid (fst_some HNO.out (by rw [HH.out]; simp [c1, c2, c3]) 64 hlt)
            clear c1 c2 c3 hwP
            go_wp2_with fail
            go_quiet (fail)
            go_wp2_with fail
            go_ret
            exact ⟨by rw [HF.out]; rfl, q + nq, by first | trivial | rfl | rw [World.drewN_drewN]⟩
          · have b3 : decide ((n : Int) < (z : Int) + (P : Nat)) = false := by simp; omega
            have HF := Lib.hid (HN1.out (by rw [HH.out]; simp [c3]))
            clear c1 c2 c3
            go_wp2_with fail
            go_quiet (fail)
            go_wp2_with fail
            exact ⟨⟨u + 1, q + nq, by omega, by go_num, HF.out, by first | trivial | rfl | rw [World.drewN_drewN]⟩, by simp [intOf]; try omega⟩
        · have b2 : decide (z ≤ n) = false := by simpa using c2
          have HF := Lib.hid (HN1.out (by rw [HH.out]; simp [c2]))
          clear c1 c2
          go_wp2_with fail
          go_quiet (fail)
          go_wp2_with fail
          exact ⟨⟨u + 1, q + nq, by omega, by go_num, HF.out, by first | trivial | rfl | rw [World.drewN_drewN]⟩, by simp [intOf]; try omega⟩
      · have b1 : ((y : Int) == (s : Int)) = false := by rw [beq_eq_false_iff_ne]; omega
        have HF := Lib.hid (HN1.out (by rw [HH.out]; simp [c1]))
        clear c1
        go_wp2_with fail
        go_quiet (fail)
        go_wp2_with fail
        exact ⟨⟨u + 1, q + nq, by omega, by go_num, HF.out, by first | trivial | rfl | rw [World.drewN_drewN]⟩, by simp [intOf]; try omega⟩
    · obtain rfl : u = 64 := by omega
      have HF := Lib.hid (fst_none HNO.out)
      go_wp2_with fail
      go_ret
      exact ⟨by rw [HF.out]; rfl, q, rfl⟩
end Go.Proofs.YtphakpikalmghaaGreat.Ma
namespace Go.Proofs.YtphakpikalmghaaGreat.Ma
open Go Go.RowKit Go.ChangeMaps Go.MapKept Go.Mg Go.Fse Go.Proofs.YtphakpikalmghaaGreat.Hu Go.Proofs.YtphakpikalmghaaGreat.Bw Go.Proofs.YtphakpikalmghaaGreat.He

/-- Bits as bytes, or nothing. -/
def FencPost (w : World) (o : Option (List Bool)) (e : Ending) (w' : World) : Prop := match o with
  | some B => ∃ v, e = .returned (.tuple #[v, .bool true]) ∧ RowM 5 u8c w.heap.size w' v (pack B) ∧ Kp (fun _ => False) w w'
  | none => e = .returned (.tuple #[.slice none 0 0, .bool false]) ∧ Kp (fun _ => False) w w'
/-- A Writer made since w2, at its first place. -/
def RelW (ty : TypeId) (w2 wr : World) (B : List Bool) : Prop := ∃ F a c, WrAt ty F wr w2.heap.size a c B ∧ Kp (fun _ => False) w2 wr ∧ ∀ k, F k → w2.heap.size ≤ k
theorem RelW.start (ty : TypeId) (w2 : World) : RelW ty w2 (w2.alloc (.cells #[.slice none 0 0] ty)) [] :=
  ⟨(· = w2.heap.size), none, 0, ⟨alloc_at w2 _, OwnR.nil _ _ _, rfl, fun k hk => by cases hk⟩, kp_alloc _ _, fun k q => Nat.le_of_eq q.symm⟩
theorem RelW.step {w2 wr : World} {ty : TypeId} {B : List Bool} {F : Nat → Prop} (hk : Kp (fun _ => False) w2 wr) (hF : ∀ k, F k → w2.heap.size ≤ k) {V : World} (h : WrPost ty F wr w2.heap.size B V) : RelW ty w2 V B := by
  obtain ⟨F', a', c', h1, h2, h3⟩ := h
  have := hk.size
  exact ⟨F', a', c', h1, hk.trans2 h2 (fun i hi q => by have := hF i q; omega), fun k q => by rcases h3 k q with q | q; exact hF k q; omega⟩
theorem dgs_eq (q n : Nat) : Fse.dgs q n = bitsOf q n := rfl
set_option maxRecDepth 100000 in
set_option maxHeartbeats 4000000 in
theorem fenc_d (w : World) (a : Option Addr) (c N : Nat) (f : Nat → Nat) (h : IntsR w a c N f) (hN : 0 < N) (hN2 : N ≤ 32) (hs : Shares f N) (as' : Option Addr) (cs m : Nat) (l : Nat → Nat) (hl : IntsR w as' cs m l) (hm : m ≤ 1000) (hlb : ∀ i, i < m → l i ≤ 1000) :
    Calls Tryz.prog 84 #[.slice a N c, .int .i64 6, .slice as' m cs] w (FencPost w (encAll (ent f N) l m)) := by
  have mixed : Tryz.prog.follows .mixedOrders = true := by kernel_rfl
  have TB := Lib.hid (table_d w a c N f h hN hN2 hs)
  have HL := Lib.hid (fun (h0 : 0 < m) => hl.at_ h0)
  have HLB := Lib.hid hlb
  have HS := Lib.hid hs
  have HR := Lib.hid (fun u (hu : u < 64) => ent_rng hs hu)
  clear h hl hlb
  go_enter Tryz.func84, Tryz.ntmps84
  go_wp2_with fail
  refine TB.out.mono ?_
  rintro e w1 ⟨g, rfl, hg, ht, hk1⟩
  have HT1 := Lib.hid ht
  have HK1 := Lib.hid hk1
  clear ht hk1
  go_wp2_with fail
  obtain ⟨t, htt⟩ : ∃ t, t = ent f N := ⟨_, rfl⟩
  have HTC : Hid (∀ V, Kp (fun _ => False) w1 V → ∀ u, u < 64 → V.cell? ⟨g, u * 3 + 1, none⟩ = some (.int .i64 ((t u).bits : Nat)) ∧ V.cell? ⟨g, u * 3 + 2, none⟩ = some (.int .i64 ((t u).base : Nat))) := Lib.hid (fun V hk u hu => by
    have := TAt.at_ (IAt.kp HT1.out hk (fun q => q)) hu
    rw [← htt] at this
    exact this.2)
  have FD : Hid (∀ V, Kp (fun _ => False) w1 V → ∀ s n, Calls Tryz.prog 116 #[.slice (some ⟨g, 0, none⟩) 64 64, .int .i64 (s : Nat), .int .i64 (n : Nat)] V fun e w' => e = .returned (.int .i64 (found (fst (hits t s n) 64))) ∧ ∃ q, w' = V.drewN q) := Lib.hid (fun V hk s n => by
    rw [htt]
    exact find_d V g N f (IAt.kp HT1.out hk (fun q => q)) HS.out s n)
  have HLC : Hid (0 < m → ∃ g' o', as' = some ⟨g', o', none⟩ ∧ m ≤ cs ∧ ∀ V, Kp (fun _ => False) w1 V → ∀ i, i < m → V.cell? ⟨g', o' + i, none⟩ = some (.int .i64 (l i : Nat))) := Lib.hid (fun h0 => by
    obtain ⟨g', o', e, _, h1, h2⟩ := HL.out h0
    exact ⟨g', o', e, h1, fun V hk i hi => h2 V (HK1.out.trans hk) i hi⟩)
  rw [← htt] at HR
  have HEN : Hid (∀ j B n, enc t l m j = some (B, n) → n < 64 ∧ B.length ≤ 6 * j) := Lib.hid (fun j B n h => ⟨enc_lt h, enc_len (fun u hu => (HR.out u hu).2.2.2.1) h⟩)
  have HNX : Hid (∀ j B n, enc t l m j = some (B, n) → enc t l m (j + 1) = match fst (hits t (l (m - 1 - j)) n) 64 with
      | none => none
      | some u => some (B ++ bitsOf (n - (t u).base) (t u).bits, u)) := Lib.hid (fun j B n h => by simp only [enc, h]; rfl)
  have HFS : Hid (∀ s n u, fst (hits t s n) 64 = some u → u < 64 ∧ (t u).bits ≤ 6 ∧ (t u).base ≤ n ∧ n < (t u).base + 2 ^ (t u).bits) := Lib.hid (fun s n u h => by
    obtain ⟨h1, h2⟩ := fst_spec h
    simp only [hits, Bool.and_eq_true, decide_eq_true_eq] at h2
    exact ⟨h1, (HR.out u h1).2.2.2.1, h2.2.1, h2.2.2⟩)
  have HST : Hid (∀ j, j ≤ m → enc t l m j = none → encAll (ent f N) l m = none) := Lib.hid (fun j hj h => by
    rw [← htt]; unfold encAll; rw [enc_stop h m hj]; rfl)
  have HAL : Hid (∀ B n, enc t l m m = some (B, n) → encAll (ent f N) l m = some (B ++ bitsOf n 6)) := Lib.hid (fun B n h => by
    rw [← htt]; unfold encAll; rw [h]; rfl)
  have HE0 : Hid (enc t l m 0 = some ([], 0)) := Lib.hid rfl
  have W0 := Lib.hid (RelW.start 91 w1)
  obtain ⟨EN, hEN⟩ : ∃ EN, EN = enc t l m := ⟨_, rfl⟩
  obtain ⟨HT, hHT⟩ : ∃ HT, HT = hits t := ⟨_, rfl⟩
  rw [← hEN] at HEN HNX HST HAL HE0
  rw [← hHT] at FD HNX HFS
  obtain ⟨TB2, hTB⟩ : ∃ TB2 : Nat → Nat, TB2 = fun u => (t u).bits := ⟨_, rfl⟩
  obtain ⟨TZ, hTZ⟩ : ∃ TZ : Nat → Nat, TZ = fun u => (t u).base := ⟨_, rfl⟩
  have eTB : ∀ u, (t u).bits = TB2 u := fun u => by rw [hTB]
  have eTZ : ∀ u, (t u).base = TZ u := fun u => by rw [hTZ]
  simp only [eTB, eTZ] at HTC HNX HFS
  clear hEN hHT htt hTB hTZ eTB eTZ HT1 HL TB HS HR
  go_loopw [11, 12] (fun at' i wr => ∃ j n B, j ≤ m ∧ EN j = some (B, n) ∧ at' = .int .i64 (n : Nat) ∧ i = .int .i64 ((m : Int) - 1 - (j : Nat)) ∧ RelW 91 w1 wr B) (fun _ i _ => (intOf i + 1).toNat)
  case atStart => exact ⟨0, 0, [], Nat.zero_le _, HE0.out, rfl, by simp, W0.out⟩
  case round =>
    obtain ⟨j, n, B, hj, hen, rfl, rfl, F, aw, cw, hw1, hkw, hFw⟩ := hrel
    obtain ⟨hn64, hbl⟩ := HEN.out j B n hen
    have HE := Lib.hid hen
    have HW1 := Lib.hid hw1
    have HKW := Lib.hid hkw
    have HFW := Lib.hid hFw
    clear hen hw1 hkw hFw W0 HE0
    by_cases hjm : j < m
    · obtain ⟨q, hq⟩ : ∃ q, q = m - 1 - j := ⟨_, rfl⟩
      have hqi : ((m : Int) - 1 - (j : Nat)) = (q : Nat) := by omega
      have hqn : q < m := by omega
      rw [hqi]
      obtain ⟨g', o', rfl, hcs, hcells⟩ := HLC.out (by omega)
      have d0 := hcells _ HKW.out q hqn
      have hs1 := HLB.out q hqn
      have hnx := HNX.out j B n HE.out
      rw [← hq] at hnx
      have HNX2 := Lib.hid hnx
      have HQI := Lib.hid hqi
      obtain ⟨s, hs⟩ : ∃ s, s = l q := ⟨_, rfl⟩
      rw [← hs] at d0 hs1 HNX2
      clear hcells hq hqi hs hnx
      go_wp2_with fail
      refine (FD.out _ HKW.out s n).mono ?_
      rintro e w5 ⟨rfl, nd, hw5⟩
      have KD : Hid (Kp (fun _ => False) w1 w5) := Lib.hid (by rw [hw5]; exact HKW.out.drewN nd)
      have KR : Hid (Kp (fun _ => False) wr w5) := Lib.hid (by rw [hw5]; exact (Kp.refl _ _).drewN nd)
      clear hw5
      cases hf : fst (HT s n) 64 with
      | none =>
        rw [hf] at HNX2
        have HZ := Lib.hid (HST.out (j + 1) (by omega) HNX2.out)
        have e0 : found none = -1 := rfl
        rw [e0]
        clear hf
        go_wp2_with fail
        go_ret2
        rw [HZ.out]
        exact ⟨rfl, HK1.out.trans KD.out⟩
      | some u =>
        rw [hf] at HNX2
        obtain ⟨hu, hb6, hz1, hz2⟩ := HFS.out s n u hf
        have e0 : found (some u) = (u : Nat) := rfl
        have hui : (u : Int) < 64 := by omega
        have hu0 : (0 : Int) ≤ (u : Int) := by omega
        rw [e0]
        obtain ⟨d1, d2⟩ := HTC.out _ KD.out u hu
        have HNX3 : Hid (EN (j + 1) = some (B ++ bitsOf (n - TZ u) (TB2 u), u)) := Lib.hid HNX2.out
        have PUT := Lib.hid (fun V (hv : Kp (fun _ => False) wr V) => put_d (HW1.out.kp hv (fun _ _ q => q)) (n - TZ u) (TB2 u) (by omega) (by omega) (by omega))
        obtain ⟨b, hb⟩ : ∃ b, b = TB2 u := ⟨_, rfl⟩
        obtain ⟨z, hz⟩ : ∃ z, z = TZ u := ⟨_, rfl⟩
        rw [← hb] at d1 hb6 HNX3 PUT
        rw [← hz] at d2 hz1 HNX3 PUT
        have HBE := Lib.hid hb
        have HZE := Lib.hid hz
        obtain ⟨d, hd⟩ : ∃ d, d = n - z := ⟨_, rfl⟩
        rw [← hd] at HNX3 PUT
        have hsb : (n : Int) - (z : Nat) = (d : Nat) := by omega
        have hsw : IntKind.i64.wrap (d : Int) = (d : Nat) := by rw [IntKind.wrap_i64]; omega
        clear hf hz2 hb hz hd HNX2 e0
        go_wp2_with fail
        go_region_held3 (fun V => V.cell? ⟨g, u * 3 + 1, none⟩ = some (.int .i64 (b : Nat)) ∧ V.cell? ⟨g, u * 3 + 2, none⟩ = some (.int .i64 (z : Nat))) (go_keep) ((go_simp; go_at_call 66; refine (PUT.out _ KR.out.drew).mono ?_; rintro e V ⟨rfl, hV⟩; have RV := Lib.hid (RelW.step KD.out.drew HFW.out hV); have KV : Kp (fun _ => False) w1 V := (by obtain ⟨_, _, _, _, hk2, _⟩ := RV.out; exact hk2); have r0 : V.cell? ⟨g, u * 3 + 1, none⟩ = some (.int .i64 (b : Nat)) := (by rw [(HTC.out _ KV u hu).1, HBE.out]); have r1 : V.cell? ⟨g, u * 3 + 2, none⟩ = some (.int .i64 (z : Nat)) := (by rw [(HTC.out _ KV u hu).2, HZE.out]); clear hV KV))
        go_wp2_with fail
        refine ⟨⟨j + 1, u, _, by omega, HNX3.out, rfl, ?_, RV.out⟩, by simp [intOf]; try omega⟩
        have := HQI.out
        congr 1
        omega
    · obtain rfl : j = m := by omega
      have hi1 : ((j : Int) - 1 - (j : Nat)) = -1 := by omega
      rw [hi1]
      have HA2 := Lib.hid (HAL.out B n HE.out)
      have PUT := Lib.hid (put_d HW1.out n 6 (by omega) (by omega) (by omega))
      go_wp2_with fail
      refine PUT.out.mono ?_
      rintro e V ⟨rfl, hV⟩
      obtain ⟨BB, hBB⟩ : ∃ BB, BB = B ++ bitsOf n 6 := ⟨_, rfl⟩
      have hbb : BB.length ≤ 7000 := by rw [hBB, List.length_append, bitsOf_len]; omega
      rw [← hBB] at hV HA2
      obtain ⟨F', a', c', h1, h2, h3⟩ := RelW.step HKW.out HFW.out hV
      have BY := Lib.hid (bytes_d h1 (by omega))
      have KV := Lib.hid (HK1.out.trans h2)
      clear h1 h2 h3 hV hBB
      go_wp2_with fail
      refine BY.out.mono ?_
      rintro e w5 ⟨g5, rfl, b1, b2, b3⟩
      have B1 := Lib.hid b1
      have B2 := Lib.hid (pack_row b2 (by omega))
      have B3 := Lib.hid b3
      have PL := Lib.hid (pack_len BB)
      clear b1 b2 b3
      go_wp2_with fail
      go_ret2
      rw [HA2.out]
      refine ⟨_, rfl, ?_, KV.out.trans B3.out⟩
      rw [← PL.out]
      exact B2.out.low (by have := B1.out; have := KV.out.size; omega)
end Go.Proofs.YtphakpikalmghaaGreat.Ma
namespace Go.Proofs.YtphakpikalmghaaGreat.Ma
open Go Go.RowKit Go.ChangeMaps Go.MapKept Go.Mg Go.Mt

def byt (l : List UInt8) (i : Nat) : Nat := (l[i]?.getD 0).toNat
theorem byt_lt (l : List UInt8) (i : Nat) : byt l i < 256 := by
  unfold byt
  exact (l[i]?.getD 0).toNat_lt
theorem byts_at {w : World} {a : Option Addr} {c : Nat} {l : List UInt8} (h : SlR w 1 (.slice a l.length c) l.length (l.map u8c)) (h0 : 0 < l.length) :
    ∃ g o, a = some ⟨g, o, none⟩ ∧ g < w.heap.size ∧ l.length ≤ c ∧ ∀ i, i < l.length → w.cell? ⟨g, o + i, none⟩ = some (.int .u8 (byt l i : Nat)) := by
  obtain ⟨_, a', c', e, h1, _, _, hc⟩ := h
  simp only [Value.slice.injEq, true_and] at e
  obtain ⟨rfl, rfl⟩ := e
  obtain ⟨g, o, rfl, hg, hcc⟩ := hc h0
  refine ⟨g, o, rfl, hg, h1, fun i hi => hcc i _ ?_⟩
  simp [byt, hi, u8c]

set_option maxRecDepth 100000 in
set_option maxHeartbeats 2000000 in
theorem long_d (w : World) (l : List UInt8) (a : Option Addr) (c : Nat) (h : SlR w 1 (.slice a l.length c) l.length (l.map u8c)) (hl : l.length ≤ 5000) (j i : Nat) (hj : j < i) (hi : i ≤ l.length) :
    Calls Tryz.prog 80 #[.slice a l.length c, .int .i64 (j : Nat), .int .i64 (i : Nat)] w fun e w' => e = .returned (.int .i64 (long (byt l) l.length j i : Nat)) ∧ ∃ q, w' = w.drewN q := by
  obtain ⟨g, o, rfl, hg, hcap, hc⟩ := byts_at h (by omega)
  have HC := Lib.hid hc
  obtain ⟨A, hA⟩ : ∃ A, A = byt l := ⟨_, rfl⟩
  obtain ⟨m, hm⟩ : ∃ m, m = l.length := ⟨_, rfl⟩
  rw [← hA, ← hm] at HC ⊢
  rw [← hm] at hl hi hcap
  have HL : Hid (∀ k, k = 0 → lng A m j i (m - i - k) k = long A m j i) := Lib.hid (fun k e => by subst e; rfl)
  clear hA hm hc h
  go_enter Tryz.func80, Tryz.ntmps80
  go_wp2_with fail
  go_loopw [7] (fun i' wr => ∃ k q : Nat, i + k ≤ m ∧ i' = .int .i64 k ∧ lng A m j i (m - i - k) k = long A m j i ∧ wr = w.drewN q) (fun i' _ => m - (intOf i').toNat)
  case atStart => exact ⟨0, 0, by omega, rfl, HL.out 0 rfl, rfl⟩
  case round =>
    obtain ⟨k, q, hk, rfl, hlng, rfl⟩ := hrel
    have HLN := Lib.hid hlng
    clear hlng
    by_cases hlt : i + k < m
    · have d0 : ∀ q, (w.drewN q).cell? ⟨g, o + (j + k), none⟩ = some (.int .u8 (A (j + k) : Nat)) := fun q => HC.out (j + k) (by omega)
      have d1 : ∀ q, (w.drewN q).cell? ⟨g, o + (i + k), none⟩ = some (.int .u8 (A (i + k) : Nat)) := fun q => HC.out (i + k) hlt
      obtain ⟨x, hx⟩ : ∃ x, x = A (j + k) := ⟨_, rfl⟩
      obtain ⟨y, hy⟩ : ∃ y, y = A (i + k) := ⟨_, rfl⟩
      rw [← hx] at d0
      rw [← hy] at d1
      have HX := Lib.hid hx
      have HY := Lib.hid hy
      clear hx hy
      have s1 : IntKind.i64.wrap ((j : Int) + (k : Nat)) = (j : Int) + (k : Nat) := by rw [IntKind.wrap_i64]; omega
      have s2 : IntKind.i64.wrap ((i : Int) + (k : Nat)) = (i : Int) + (k : Nat) := by rw [IntKind.wrap_i64]; omega
      have s3 : ((j : Int) + (k : Nat)).toNat = j + k := by omega
      have s4 : ((i : Int) + (k : Nat)).toNat = i + k := by omega
      have b1 : decide ((i : Int) + (k : Nat) < (m : Nat)) = true := by simp; omega
      by_cases he : x = y
      · have HE := Lib.hid (lng_step (a := A) (m := m) (j := j) (i := i) (n := k) hlt (by rw [← HX.out, ← HY.out]; exact he))
        have he' : ((x : Int) == (y : Int)) = true := by rw [beq_iff_eq]; omega
        clear he
        go_wp2_with fail
        go_quiet (fail)
        go_wp2_with fail
        refine ⟨⟨k + 1, q + nq, by omega, by go_num, by rw [← HE.out]; exact HLN.out, by first | trivial | rfl⟩, by simp [intOf]; omega⟩
      · have HE := Lib.hid (lng_stop (a := A) (m := m) (j := j) (i := i) (n := k) (by rw [← HX.out, ← HY.out]; exact he))
        have he' : ((x : Int) == (y : Int)) = false := by rw [beq_eq_false_iff_ne]; omega
        clear he
        go_wp2_with fail
        go_quiet (fail)
        go_wp2_with fail
        go_ret
        have e : long A m j i = k := by rw [← HLN.out, HE.out]
        exact ⟨by rw [e]; rfl, q + nq, by first | trivial | rfl | rw [World.drewN_drewN]⟩
    · have HE := Lib.hid (lng_end (a := A) (m := m) (j := j) (i := i) (n := k) (by omega))
      have b1 : decide ((i : Int) + (k : Nat) < (m : Nat)) = false := by simp; omega
      go_wp2_with fail
      go_quiet (fail)
      go_wp2_with fail
      go_ret
      have e : long A m j i = k := by rw [← HLN.out, HE.out]
      exact ⟨by rw [e]; rfl, q + nq, by first | trivial | rfl | rw [World.drewN_drewN]⟩
/-- What the trials have found, or will. -/
def Trial (a : Nat → Nat) (m i depth jj tried off size : Nat) : Prop :=
  ((tried < depth ∧ bst a m i depth jj tried off size = best a m i depth) ∨ (tried = depth ∧ (off, size) = best a m i depth)) ∧ Ok m i (off, size)
def atOf (i off size : Nat) : Nat := if size = 0 then 0 else i - off
theorem Trial.start {a : Nat → Nat} {m i depth : Nat} (h : 1 ≤ depth) : Trial a m i depth i 0 0 0 := ⟨.inl ⟨by omega, rfl⟩, .inl rfl⟩
theorem Trial.stop {a : Nat → Nat} {m i depth tried off size : Nat} (h : Trial a m i depth 0 tried off size) : (off, size) = best a m i depth := by
  rcases h.1 with ⟨_, h⟩ | ⟨_, h⟩
  · rw [← h, bst]
  · exact h
theorem Trial.full {a : Nat → Nat} {m i depth jj tried off size : Nat} (h : Trial a m i depth jj tried off size) (q : ¬ tried < depth) : (off, size) = best a m i depth := by
  rcases h.1 with ⟨h, _⟩ | ⟨_, h⟩
  · exact absurd h q
  · exact h
theorem Trial.short {a : Nat → Nat} {m i depth j tried off size : Nat} (h : Trial a m i depth (j + 1) tried off size) (q : tried < depth) (h4 : long a m j i < 4) : Trial a m i depth j tried off size := by
  rcases h.1 with ⟨_, e⟩ | ⟨e, _⟩
  · rw [bst, if_pos h4] at e; exact ⟨.inl ⟨q, e⟩, h.2⟩
  · omega
theorem Trial.keep {a : Nat → Nat} {m i depth j tried off size : Nat} (h : Trial a m i depth (j + 1) tried off size) (q : tried < depth) (h4 : ¬ long a m j i < 4) (hs : ¬ size < long a m j i) : Trial a m i depth j (tried + 1) off size := by
  rcases h.1 with ⟨_, e⟩ | ⟨e, _⟩
  · rw [bst, if_neg h4, if_neg hs] at e
    by_cases d : tried + 1 = depth
    · rw [if_pos d] at e; exact ⟨.inr ⟨d, e⟩, h.2⟩
    · rw [if_neg d] at e; exact ⟨.inl ⟨by omega, e⟩, h.2⟩
  · omega
theorem Trial.take {a : Nat → Nat} {m i depth j tried off size : Nat} (h : Trial a m i depth (j + 1) tried off size) (q : tried < depth) (h4 : ¬ long a m j i < 4) (hs : size < long a m j i) (hj : j < i) (hi : i ≤ m) : Trial a m i depth j (tried + 1) (i - j) (long a m j i) := by
  have hok : Ok m i (i - j, long a m j i) := .inr ⟨by simp only; omega, long_le hi, by simp only; omega, by simp only; omega⟩
  rcases h.1 with ⟨_, e⟩ | ⟨e, _⟩
  · rw [bst, if_neg h4, if_pos hs] at e
    by_cases d : tried + 1 = depth
    · rw [if_pos d] at e; exact ⟨.inr ⟨d, e⟩, hok⟩
    · rw [if_neg d] at e; exact ⟨.inl ⟨by omega, e⟩, hok⟩
  · omega
def BestD (w : World) (a : Nat → Nat) (m i depth : Nat) (e : Ending) (w' : World) : Prop := ∃ off size, (off, size) = best a m i depth ∧ e = .returned (.tuple #[.int .i64 (atOf i off size : Nat), .int .i64 (size : Nat)]) ∧ ∃ q, w' = w.drewN q
set_option maxRecDepth 100000 in
set_option maxHeartbeats 2000000 in
theorem best_d (w : World) (l : List UInt8) (a : Option Addr) (c : Nat) (h : SlR w 1 (.slice a l.length c) l.length (l.map u8c)) (hl : l.length ≤ 5000) (i depth : Nat) (hi : i ≤ l.length) (hd : 1 ≤ depth) (hd2 : depth ≤ 32) :
    Calls Tryz.prog 48 #[.slice a l.length c, .int .i64 (i : Nat), .int .i64 (depth : Nat)] w (BestD w (byt l) l.length i depth) := by
  have HLN := Lib.hid (fun q j (hj : j < i) => long_d (w.drewN q) l a c (h.drewN q) hl j i hj hi)
  obtain ⟨A, hA⟩ : ∃ A, A = byt l := ⟨_, rfl⟩
  obtain ⟨m, hm⟩ : ∃ m, m = l.length := ⟨_, rfl⟩
  rw [← hA, ← hm] at HLN ⊢
  rw [← hm] at hl hi
  have T0 := Lib.hid (Trial.start (a := A) (m := m) (i := i) hd)
  clear hA hm h
  go_enter Tryz.func48, Tryz.ntmps48
  go_wp2_with fail
  go_loopw [8, 9, 10, 11] (fun at' most seen j wr => ∃ jj tried off size q : Nat, jj ≤ i ∧ tried ≤ depth ∧ size ≤ m ∧ j = .int .i64 ((jj : Int) - 1) ∧ seen = .int .i64 tried ∧ most = .int .i64 size ∧ at' = .int .i64 (atOf i off size : Nat) ∧ Trial A m i depth jj tried off size ∧ wr = w.drewN q) (fun _ _ _ j _ => (intOf j + 1).toNat)
  case atStart => exact ⟨i, 0, 0, 0, 0, Nat.le_refl _, Nat.zero_le _, Nat.zero_le _, by simp, rfl, rfl, rfl, T0.out, rfl⟩
  case round =>
    obtain ⟨jj, tried, off, size, q, hjj, htr, hsz, rfl, rfl, rfl, rfl, htrial, rfl⟩ := hrel
    have HT := Lib.hid htrial
    clear htrial
    obtain ⟨at', hat⟩ : ∃ at', at' = atOf i off size := ⟨_, rfl⟩
    rw [← hat]
    have HAT := Lib.hid hat
    clear hat
    by_cases hj0 : jj = 0
    · subst hj0
      have hfin := HT.out.stop
      have HF := Lib.hid hfin
      clear hfin
      have e0 : ((0 : Nat) : Int) - 1 = -1 := by omega
      rw [e0]
      go_wp2_with fail
      go_ret2
      exact ⟨off, size, HF.out, by rw [← HAT.out]; rfl, q, rfl⟩
    · obtain ⟨j, rfl⟩ : ∃ j, jj = j + 1 := ⟨jj - 1, by omega⟩
      have e0 : ((j + 1 : Nat) : Int) - 1 = (j : Nat) := by omega
      rw [e0]
      clear e0
      by_cases hfull : tried < depth
      · go_wp2_with fail
        refine (HLN.out q j (by omega)).mono ?_
        rintro e w' ⟨rfl, q2, rfl⟩
        have hll := long_le (a := A) (m := m) (j := j) (i := i) hi
        have HS := Lib.hid (HT.out.short hfull)
        have HK := Lib.hid (HT.out.keep hfull)
        have HTK := Lib.hid (fun h1 h2 => HT.out.take hfull h1 h2 (by omega) hi)
        obtain ⟨n, hn⟩ : ∃ n, n = long A m j i := ⟨_, rfl⟩
        rw [← hn] at hll HS HK HTK ⊢
        clear hn
        by_cases h4 : n < 4
        · go_wp2_with fail
          refine ⟨⟨j, tried, off, size, q + q2, by omega, by omega, hsz, by go_num, rfl, rfl, by rw [HAT.out], HS.out h4, by first | trivial | rfl | rw [World.drewN_drewN]⟩, by simp [intOf]; try omega⟩
        · by_cases hs : size < n
          · go_wp2_with fail
            refine ⟨⟨j, tried + 1, i - j, n, q + q2, by omega, by omega, by omega, by go_num, by go_num, rfl, ?_, HTK.out h4 hs, by first | trivial | rfl | rw [World.drewN_drewN]⟩, by simp [intOf]; try omega⟩
            unfold atOf
            rw [if_neg (by omega), show i - (i - j) = j by omega]
          · go_wp2_with fail
            refine ⟨⟨j, tried + 1, off, size, q + q2, by omega, by omega, hsz, by go_num, by go_num, rfl, by rw [HAT.out], HK.out h4 hs, by first | trivial | rfl | rw [World.drewN_drewN]⟩, by simp [intOf]; try omega⟩
      · have hfin := HT.out.full hfull
        have HF := Lib.hid hfin
        clear hfin
        go_wp2_with fail
        go_ret2
        exact ⟨off, size, HF.out, by rw [← HAT.out]; rfl, q, rfl⟩
end Go.Proofs.YtphakpikalmghaaGreat.Ma
namespace Go.Proofs.YtphakpikalmghaaGreat.Ma
open Go Go.RowKit Go.ChangeMaps Go.MapKept Go.Mg Go.Mt Go.Proofs.YtphakpikalmghaaGreat.Hu

def sqc (s : Sq) : List Value := [nv s.lit, nv s.off, nv s.len]
abbrev RowQ (B : Nat) (w : World) (v : Value) (l : List Sq) : Prop := RowG 60 3 sqc B w v l
abbrev RowB (B : Nat) (w : World) (v : Value) (l : List UInt8) : Prop := RowM 5 u8c B w v l
theorem infoQ : (Tryz.prog.info? 60).map (fun i => (i.zero, i.size, i.bytes)) = some (some (.agg #[.int .i64 0, .int .i64 0, .int .i64 0]), 3, 24) := by kernel_rfl
theorem infoU8 : (Tryz.prog.info? 5).map (fun i => (i.zero, i.size, i.bytes)) = some (some (.int .u8 0), 1, 1) := by kernel_rfl
theorem sqc_one (l : List Sq) : ∀ u ∈ l.flatMap sqc, u.oneCell' = true := by
  intro u hu
  obtain ⟨s, _, hs⟩ := List.mem_flatMap.1 hu
  simp only [sqc, List.mem_cons, List.not_mem_nil, or_false] at hs
  rcases hs with rfl | rfl | rfl <;> rfl
theorem u8c_1 : ∀ y, (u8c y).oneCell' = true := fun _ => rfl
theorem sqc_1 : ∀ y, ∀ u ∈ sqc y, u.oneCell' = true := by
  intro y u hs
  simp only [sqc, List.mem_cons, List.not_mem_nil, or_false] at hs
  rcases hs with rfl | rfl | rfl <;> rfl
def ParsePost (w : World) (a : Nat → Nat) (m depth start : Nat) (e : Ending) (w' : World) : Prop := ∃ v, e = .returned v ∧ RowQ w.heap.size w' v (rest a m depth start 0) ∧ Kp (fun _ => False) w w'
/-- Steps that are there already, and those to come. -/
def Going (a : Nat → Nat) (m depth start : Nat) (l : List Sq) (i lit : Nat) : Prop := l ++ rest a m depth i lit = rest a m depth start 0 ∧ 4 * l.length ≤ i ∧ lit ≤ i
theorem Going.lit {a : Nat → Nat} {m depth start : Nat} {l : List Sq} {i lit : Nat} (h : Going a m depth start l i lit) (h4 : i + 4 ≤ m) (e : (best a m i depth).2 = 0) : Going a m depth start l (i + 1) (lit + 1) := by
  obtain ⟨h1, h2, h3⟩ := h
  rw [rest_lit h4 e] at h1
  exact ⟨h1, by omega, by omega⟩
theorem Going.hit {a : Nat → Nat} {m depth start : Nat} {l : List Sq} {i lit off size : Nat} (h : Going a m depth start l i lit) (h4 : i + 4 ≤ m) (hb : (off, size) = best a m i depth) (e : size ≠ 0) : Going a m depth start (l ++ [⟨lit, off, size⟩]) (i + size) 0 := by
  obtain ⟨h1, h2, h3⟩ := h
  have e2 : (best a m i depth).2 ≠ 0 := by rw [← hb]; exact e
  rw [rest_hit h4 e2, ← hb] at h1
  have hok := best_ok (a := a) (depth := depth) (show i ≤ m by omega)
  rw [← hb] at hok
  rcases hok with q | q
  · exact absurd q e
  · simp only at q
    exact ⟨by rw [← h1]; simp, by simp; omega, by omega⟩
theorem Going.done {a : Nat → Nat} {m depth start : Nat} {l : List Sq} {i lit : Nat} (h : Going a m depth start l i lit) (h4 : m < i + 4) : l = rest a m depth start 0 := by
  have h1 := h.1
  rw [rest_end h4, List.append_nil] at h1
  exact h1
set_option maxRecDepth 100000 in
set_option maxHeartbeats 4000000 in
theorem parse_d (w : World) (p d : List UInt8) (ap : Option Addr) (cp : Nat) (hp : SlR w 1 (.slice ap p.length cp) p.length (p.map u8c)) (ad : Option Addr) (cd : Nat) (hd : SlR w 1 (.slice ad d.length cd) d.length (d.map u8c)) (hl1 : p.length ≤ 2000) (hl2 : d.length ≤ 500) (depth : Nat) (hd1 : 1 ≤ depth) (hd2 : depth ≤ 32) :
    Calls Tryz.prog 23 #[.slice ap p.length cp, .slice ad d.length cd, .int .i64 (depth : Nat)] w (ParsePost w (byt (p ++ d)) (p ++ d).length depth p.length) := by
  obtain ⟨i0, hi0, hz0, hz1, hz2⟩ := info_parts infoU8
  obtain ⟨i3, hi3, hy0, hy1, hy2⟩ := info_parts infoQ
  have HD := Lib.hid hd
  have K1 := Lib.hid (kp_alloc w (.cells #[] 5))
  have O1 : Hid (RowB w.heap.size (w.alloc (.cells #[] 5)) (.slice (some ⟨w.heap.size, 0, none⟩) 0 0) []) := Lib.hid ⟨_, _, rfl, own_none w 5 1, fun k hk => by have := own_b hk; omega⟩
  have HPA := Lib.hid (hp.kp (kp_alloc w (.cells #[] 5)) (fun _ _ q => q))
  obtain ⟨np, hnp⟩ : ∃ np, np = p.length := ⟨_, rfl⟩
  obtain ⟨nd, hnd⟩ : ∃ nd, nd = d.length := ⟨_, rfl⟩
  obtain ⟨m, hm⟩ : ∃ m, m = np + nd := ⟨_, rfl⟩
  have HNP := Lib.hid hnp
  have HND := Lib.hid hnd
  have HME := Lib.hid hm
  have hm2 : np ≤ m := by omega
  have hm3 : m ≤ 2500 := by omega
  have HM : Hid ((p ++ d).length = m) := Lib.hid (by rw [List.length_append, hm, hnp, hnd])
  have hhm := HM.out
  obtain ⟨A, hA⟩ : ∃ A, A = byt (p ++ d) := ⟨_, rfl⟩
  rw [← hnp] at hl1 HPA ⊢
  rw [← hnd] at hl2 ⊢
  rw [hhm, ← hA]
  have HA := Lib.hid hA
  clear hp hd hnp hnd hm hhm hA
  go_enter Tryz.func23, Tryz.ntmps23
  go_wp2_with (first
    | (at_builtin; refine wpList_appM (w0 := w) _ rfl _ _ 22 rfl 5 i0 _ 1 Tryz.underlying22 hi0 hz0 hz1 hz2 rfl (by decide) (by decide) u8c_1 (.slice (some ⟨w.heap.size, 0, none⟩) 0 0) [] rfl O1.out (.slice ap np cp) np p rfl HPA.out HNP.out.symm K1.out np (Nat.zero_add _) (by omega) ?_; intro a1 c1 w2 g1 g2 _; have G1 := Lib.hid g1; have HD2 := Lib.hid (HD.out.kp g2 (fun _ _ q => q)); have K2 := Lib.hid g2; clear g1 g2 O1 HPA K1)
    | (at_builtin; refine wpList_appM (w0 := w) _ rfl _ _ 22 rfl 5 i0 _ 1 Tryz.underlying22 hi0 hz0 hz1 hz2 rfl (by decide) (by decide) u8c_1 (.slice a1 np c1) p rfl G1.out (.slice ad nd cd) nd d rfl (by rw [HND.out]; exact HD2.out) HND.out.symm K2.out m (by rw [← HNP.out, HME.out]) (by omega) ?_; intro a2 c2 w3 g1 g2 _; have G2 := Lib.hid g1; have K3 := Lib.hid g2; clear g1 g2 G1 HD2 K2))
  have HSL : Hid (SlR w3 1 (.slice a2 m c2) m ((p ++ d).map u8c)) := Lib.hid (by have := G2.out.sl.1; rwa [HM.out] at this)
  have BD := Lib.hid (fun V (hk : Kp (fun _ => False) w3 V) i (hi : i ≤ (p ++ d).length) => best_d V (p ++ d) a2 c2 (by have := HSL.out.kp hk (fun _ _ q => q); rwa [← HM.out] at this) (by have := HM.out; omega) i depth hi hd1 hd2)
  have T0 : Hid (Going (byt (p ++ d)) (p ++ d).length depth np [] np 0) := Lib.hid ⟨by simp, by simp, by omega⟩
  rw [HM.out, ← HA.out] at BD T0
  clear HA HD HSL G2 HND HME HM HNP
  have hnn : m - np ≤ 2500 := by omega
  go_loopw [8, 9, 10] (fun v li i' wr => ∃ (l : List Sq) (i lit : Nat), i ≤ m ∧ i' = .int .i64 i ∧ li = .int .i64 lit ∧ RowQ w3.heap.size wr v l ∧ Going A m depth np l i lit ∧ Kp (fun _ => False) w3 wr) (fun _ _ i' _ => m - (intOf i').toNat)
  case atStart => exact ⟨[], np, 0, hm2, rfl, rfl, RowG.nil _ _ _ _, T0.out, Kp.refl _ _⟩
  case round =>
    obtain ⟨l, i, lit, hi, rfl, rfl, hrow, hgo, hkw⟩ := hrel
    have hb1 := hgo.2.1
    have hb2 := hgo.2.2
    obtain ⟨av, cv, rfl, hown, hbeyond⟩ := hrow
    have HROW : Hid (RowQ w3.heap.size wr (.slice av l.length cv) l) := Lib.hid ⟨av, cv, rfl, hown, hbeyond⟩
    obtain ⟨n, hn⟩ : ∃ n, n = l.length := ⟨_, rfl⟩
    rw [← hn] at HROW hb1 ⊢
    have HN := Lib.hid hn
    have HGO := Lib.hid hgo
    have HKW := Lib.hid hkw
    clear hown hbeyond hn hgo hkw
    by_cases h4 : i + 4 ≤ m
    · go_wp2_with fail
      refine (BD.out _ HKW.out i hi).mono ?_
      rintro e w' ⟨off, size, hb, rfl, q, rfl⟩
      have hok := best_ok (a := A) (m := m) (i := i) (depth := depth) hi
      rw [← hb] at hok
      have HB := Lib.hid hb
      obtain ⟨j, hj⟩ : ∃ j, j = atOf i off size := ⟨_, rfl⟩
      rw [← hj]
      clear hb
      by_cases hz : size = 0
      · subst hz
        have HG2 := Lib.hid (HGO.out.lit h4 (by rw [← HB.out]))
        have HJ := Lib.hid hj
        clear hj hok
        go_wp2_with fail
        refine ⟨⟨l, i + 1, lit + 1, by omega, by go_num, by go_num, ?_, HG2.out, HKW.out.drewN _⟩, by simp [intOf]; try omega⟩
        have := HROW.out.kp0 (w' := wr.drewN q) ((Kp.refl _ _).drewN _)
        exact this
      · have HG2 := Lib.hid (HGO.out.hit h4 HB.out hz)
        rcases hok with hok | hok
        · exact absurd hok hz
        · simp only at hok
          have hij : (i : Int) - (j : Nat) = (off : Nat) := by
            rw [hj]; unfold atOf; rw [if_neg hz]; omega
          have hz2 : ((size : Int) == 0) = false := by rw [beq_eq_false_iff_ne]; omega
          have TL : Hid (SlR ((wr.drewN q).alloc (.cells #[.int .i64 (lit : Nat), .int .i64 (off : Nat), .int .i64 (size : Nat)] 60)) 3 (.slice (some ⟨wr.heap.size, 0, none⟩) 1 1) 1 ([(⟨lit, off, size⟩ : Sq)].flatMap sqc)) := Lib.hid (lit_g (wr.drewN q) 60 (sqc ⟨lit, off, size⟩) rfl)
          have KA : Hid (Kp (fun _ => False) wr ((wr.drewN q).alloc (.cells #[.int .i64 (lit : Nat), .int .i64 (off : Nat), .int .i64 (size : Nat)] 60))) := Lib.hid (((Kp.refl _ _).drewN _).alloc _)
          have HR2 := Lib.hid (HROW.out.kp0 KA.out)
          have HK2 := Lib.hid (HKW.out.trans KA.out)
          clear hj hz
          go_wp2_with (at_builtin; refine wpList_appG (w0 := w3) _ rfl _ _ 36 rfl 60 i3 _ 3 24 Tryz.underlying36 hi3 hy0 hy1 hy2 rfl (by decide) (by decide) sqc_1 (.slice av n cv) l rfl HR2.out (.slice (some ⟨wr.heap.size, 0, none⟩) 1 1) 1 [⟨lit, off, size⟩] rfl TL.out rfl HK2.out (n + 1) (by rw [HN.out]) (by omega) ?_; intro a5 c5 w5 g1 g2 g3; have G1 := Lib.hid g1; have G2 := Lib.hid g2; clear g1 g2 g3)
          refine ⟨⟨l ++ [⟨lit, off, size⟩], i + size, 0, by omega, by go_num, by first | rfl | go_num, G1.out, HG2.out, G2.out⟩, by simp [intOf]; try omega⟩
    · go_wp2_with fail
      go_ret
      have e := HGO.out.done (by omega)
      rw [e] at HROW
      exact ⟨_, rfl, HROW.out.low K3.out.size, K3.out.trans HKW.out⟩
end Go.Proofs.YtphakpikalmghaaGreat.Ma
