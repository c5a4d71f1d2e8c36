/- fse: slices.ContainsFunc of shares that may be. fse: the program's Is. fse: slices.Max and slices.Index of its shares. fse: the program's Norm. -/
import Derived.Test.YtmioiaeiflbmhaaGreatX21
import Derived.Test.YtmioiaeiflbmhaaGreatX07
import Derived.Test.YtmioiaeiflbmhaaGreatX12
namespace Go.Proofs.YtmioiaeiflbmhaaGreat.Ma
open Go Go.RowKit Go.ChangeMaps Go.MapKept Go.Mg Go.Proofs.YtmioiaeiflbmhaaGreat.Hu
set_option maxRecDepth 100000 in
set_option maxHeartbeats 400000 in
theorem notShare_p (x : Nat) (hx : x ≤ 64) (w : World) (B : Nat) (hB : w.cell? ⟨B, 0, none⟩ = some (.int .i64 6)) : Calls Tryz.prog 234 #[.int .i64 (x : Nat), .pointer (some ⟨B, 0, none⟩)] w fun e w' => e = .returned (.bool false) ∧ w' = w := by
  have b1 : decide ((x : Int) < 0) = false := decide_eq_false (by omega)
  have b2 : decide ((64 : Int) < (x : Int)) = false := decide_eq_false (by omega)
  have b3 : decide (64 < x) = false := decide_eq_false (by omega)
  clear hx
  go_enter Tryz.func234, Tryz.ntmps234
  go_wp2_with fail
  go_ret
  exact ⟨rfl, rfl⟩
set_option maxRecDepth 100000 in
set_option maxHeartbeats 400000 in
theorem indexS_p (w : World) (a : Option Addr) (c n : Nat) (f : Nat → Nat) (h : IntsR w a c n f) (hn : n ≤ 100000) (hf : ∀ i, i < n → f i ≤ 64) (B : Nat) (hB : w.cell? ⟨B, 0, none⟩ = some (.int .i64 6)) :
    Calls Tryz.prog 223 #[.slice a n c, .func (.func 234) #[] #[.pointer (some ⟨B, 0, none⟩)]] w fun e w' => e = .returned (.int .i64 (-1)) ∧ w' = w := by
  have HL : Hid (0 < n → ∃ g o, a = some ⟨g, o, none⟩ ∧ n ≤ c ∧ ∀ i, i < n → w.cell? ⟨g, o + i, none⟩ = some (.int .i64 (f i : Nat))) := Lib.hid (fun h0 => by
    obtain ⟨g, o, e, _, hc, hcc⟩ := h.at_ h0
    exact ⟨g, o, e, hc, fun i hi => hcc w (Kp.refl _ _) i hi⟩)
  have HF := Lib.hid hf
  have HBC := Lib.hid hB
  clear h hf hB
  go_enter Tryz.func223, Tryz.ntmps223
  go_wp2_with fail
  go_loop [5, 8] (fun _ i => ∃ k : Nat, k ≤ n ∧ i = .int .i64 k) (fun _ i => n - (intOf i).toNat)
  case atStart => exact ⟨0, Nat.zero_le _, rfl⟩
  case round =>
    obtain ⟨k, hk, rfl⟩ := hrel
    by_cases hlt : k < n
    · obtain ⟨g, o, rfl, hcl, hcc⟩ := HL.out (by omega)
      have d0 := hcc k hlt
      have CT := Lib.hid (notShare_p (f k) (HF.out k hlt) w B HBC.out)
      obtain ⟨x, hx⟩ : ∃ x, x = f k := ⟨_, rfl⟩
      rw [← hx] at d0 CT
      clear hcc hx
      go_wp2_with (go_at_call 234; refine CT.out.mono ?_; rintro e w' ⟨rfl, hw⟩; obtain rfl := hw)
      exact ⟨⟨k + 1, by omega, by go_num⟩, by simp [intOf]; try omega⟩
    · obtain rfl : k = n := by omega
      go_wp2_with fail
      go_ret
      exact ⟨rfl, rfl⟩
set_option maxRecDepth 100000 in
set_option maxHeartbeats 400000 in
theorem containsS_p (w : World) (a : Option Addr) (c n : Nat) (f : Nat → Nat) (h : IntsR w a c n f) (hn : n ≤ 100000) (hf : ∀ i, i < n → f i ≤ 64) (B : Nat) (hB : w.cell? ⟨B, 0, none⟩ = some (.int .i64 6)) :
    Calls Tryz.prog 202 #[.slice a n c, .func (.func 234) #[] #[.pointer (some ⟨B, 0, none⟩)]] w fun e w' => e = .returned (.bool false) ∧ w' = w := by
  have IX := Lib.hid (indexS_p w a c n f h hn hf B hB)
  clear h hf hB
  go_enter Tryz.func202, Tryz.ntmps202
  go_wp2_with (go_at_call 223; refine IX.out.mono ?_; rintro e w' ⟨rfl, hw⟩; obtain rfl := hw)
  go_ret
  exact ⟨rfl, rfl⟩
end Go.Proofs.YtmioiaeiflbmhaaGreat.Ma
namespace Go.Proofs.YtmioiaeiflbmhaaGreat.Ma
open Go Go.RowKit Go.ChangeMaps Go.MapKept Go.Mg Go.Fse Go.Proofs.YtmioiaeiflbmhaaGreat.Hu
set_option maxRecDepth 100000 in
set_option maxHeartbeats 400000 in
theorem is4_p (w : World) (a : Option Addr) (c N : Nat) (f : Nat → Nat) (h : IntsR w a c N f) (hN : 0 < N) (hN2 : N ≤ 32) (hs : Shares f N) :
    Calls Tryz.prog 224 #[.slice a N c, .int .i64 6] w fun e w' => e = .returned (.bool true) ∧ Kp (fun _ => False) w w' := by
  have IL := Lib.hid isLog_p
  have hk : Kp (fun _ => False) w (w.alloc (.cells #[.int .i64 6] 3)) := kp_alloc _ _
  have hcell : (w.alloc (.cells #[.int .i64 6] 3)).cell? ⟨w.heap.size, 0, none⟩ = some (.int .i64 6) := by rw [cell_of (alloc_at w _)]; rfl
  obtain ⟨W, hW⟩ : ∃ W, W = w.alloc (.cells #[.int .i64 6] 3) := ⟨_, rfl⟩
  rw [← hW] at hk hcell
  have hsum : sm f N = 64 := hs
  have CS := Lib.hid (fun j => containsS_p (W.drewN j) a c N f (h.kp (hk.drewN j)) (by omega) (fun i hi => shares_le hs hi) w.heap.size hcell)
  have SU := Lib.hid (fun j => sum_p (W.drewN j) a c N f (h.kp (hk.drewN j)) (by omega) (by rw [hsum]; omega))
  rw [hsum] at SU
  have c1 : ∀ j, (W.drewN j).cell? ⟨w.heap.size, 0, none⟩ = some (.int .i64 6) := fun _ => hcell
  have C1 := Lib.hid c1
  have HK := Lib.hid hk
  have HW := Lib.hid hW
  have hn32 : decide (32 < N) = false := decide_eq_false (by omega)
  have hn33 : decide ((32 : Int) < (N : Int)) = false := decide_eq_false (by omega)
  clear h hs hsum hk hcell hW hN hN2 c1
  go_enter Tryz.func224, Tryz.ntmps224
  go_wp2_with (go_at_call 201; refine (IL.out _).mono ?_; rintro e w' ⟨rfl, hw⟩; obtain rfl := hw)
  rw [← HW.out]
  obtain ⟨B, hB⟩ : ∃ B, B = w.heap.size := ⟨_, rfl⟩
  have c1 := C1.out
  rw [← hB] at CS c1 ⊢
  clear hB C1
  go_quiet (first | (go_at_call 202; refine Calls.quiet_of_same (CS.out _)) | (go_at_call 203; refine Calls.quiet_of_same (SU.out _)))
  go_wp2_with fail
  go_ret
  exact ⟨rfl, HK.out.drewN _⟩
end Go.Proofs.YtmioiaeiflbmhaaGreat.Ma
namespace Go.Proofs.YtmioiaeiflbmhaaGreat.Ma
open Go Go.RowKit Go.ChangeMaps Go.MapKept Go.Mg Go.Proofs.YtmioiaeiflbmhaaGreat.Hu
def nums (f : Nat → Nat) (n : Nat) : List Int := (List.range n).map fun i => (f i : Int)
theorem nums_len (f : Nat → Nat) (n : Nat) : (nums f n).length = n := by simp [nums]
theorem nums_at (f : Nat → Nat) {n i : Nat} (h : i < n) : (nums f n).getD i 0 = (f i : Int) := by simp [nums, List.getD, h]
theorem foldl_max_le (M : Int) : ∀ (l : List Int) (a : Int), a ≤ M → (∀ x ∈ l, x ≤ M) → l.foldl max a ≤ M
  | [], a, h, _ => h
  | x :: l, a, h, hl => by
    simp only [List.foldl_cons]
    exact foldl_max_le M l _ (by have := hl x (by simp); omega) (fun y hy => hl y (by simp [hy]))
theorem le_foldl_max : ∀ (l : List Int) (a : Int), a ≤ l.foldl max a ∧ ∀ x ∈ l, x ≤ l.foldl max a
  | [], a => ⟨Int.le_refl _, fun x hx => by cases hx⟩
  | y :: l, a => by
    simp only [List.foldl_cons]
    have h := le_foldl_max l (max a y)
    refine ⟨by omega, fun x hx => ?_⟩
    rcases List.mem_cons.1 hx with rfl | hx
    · omega
    · exact h.2 x hx
theorem max_nums (f : Nat → Nat) {n : Nat} (h0 : 0 < n) : Lib.maxOf (nums f n) = (f (Fse.am f n) : Int) := by
  unfold Lib.maxOf
  have hm : (f (Fse.am f n) : Int) ∈ nums f n := List.mem_map.2 ⟨_, List.mem_range.2 (Fse.am_lt f n h0), rfl⟩
  apply Int.le_antisymm
  · refine foldl_max_le _ _ _ ?_ (fun x hx => ?_)
    · have : (nums f n).headD 0 = (f 0 : Int) := by
        obtain ⟨m, rfl⟩ : ∃ m, n = m + 1 := ⟨n - 1, by omega⟩
        simp [nums, List.range_succ_eq_map]
      rw [this]
      have := Fse.am_max f n 0 h0
      omega
    · obtain ⟨i, hi, rfl⟩ := List.mem_map.1 hx
      have := Fse.am_max f n i (List.mem_range.1 hi)
      omega
  · exact (le_foldl_max _ _).2 _ hm
theorem max_p (w : World) (g o c n : Nat) (f : Nat → Nat) (h0 : 0 < n) (hn : n ≤ 100000) (hc : ∀ i, i < n → w.cell? ⟨g, o + i, none⟩ = some (.int .i64 (f i : Nat))) :
    Calls Tryz.prog 204 #[.slice (some ⟨g, o, none⟩) n c] w fun e w' => e = .returned (.int .i64 (f (Fse.am f n) : Nat)) ∧ w' = w := by
  have h := Any.slices_Max_int Tryz.lays113 g o n c (nums f n) w h0 (by rw [nums_len]; omega) (by omega) (fun j hj => by
    rw [nums_len] at hj
    rw [hc j hj, nums_at f hj])
  rw [List.take_of_length_le (by rw [nums_len]; omega), max_nums f h0] at h
  exact h
theorem index_p (w : World) (g o c n : Nat) (f : Nat → Nat) (h0 : 0 < n) (hn : n ≤ 100000) (hc : ∀ i, i < n → w.cell? ⟨g, o + i, none⟩ = some (.int .i64 (f i : Nat))) :
    Calls Tryz.prog 198 #[.slice (some ⟨g, o, none⟩) n c, .int .i64 (f (Fse.am f n) : Nat)] w fun e w' => e = .returned (.int .i64 (Fse.am f n : Nat)) ∧ w' = w := by
  have h := Any.slices_Index_int Tryz.lays108 g o n c (nums f n) (f (Fse.am f n) : Nat) w (by rw [nums_len]; omega) (by omega) (fun j hj => by
    rw [nums_len] at hj
    rw [hc j hj, nums_at f hj])
  have hlt := Fse.am_lt f n h0
  rw [Lib.idxOf_hit _ n (Fse.am f n) _ hlt (by rw [nums_len]; omega) (nums_at f hlt) (fun j hj => by
    rw [nums_at f (by omega)]
    have := Fse.am_first f n j hj
    omega)] at h
  exact h
end Go.Proofs.YtmioiaeiflbmhaaGreat.Ma
namespace Go.Proofs.YtmioiaeiflbmhaaGreat.Ma
open Go Go.RowKit Go.ChangeMaps Go.MapKept Go.Mg Go.Fse Go.Proofs.YtmioiaeiflbmhaaGreat.Hu
set_option maxRecDepth 100000 in
set_option maxHeartbeats 400000 in
theorem norm_p (w : World) (a : Option Addr) (c N : Nat) (f : Nat → Nat) (h : IntsR w a c N f) (hN : 0 < N) (hN2 : N ≤ 32) (hs : 0 < sm f N) (hs2 : sm f N ≤ 100000) :
    Calls Tryz.prog 173 #[.slice a N c, .int .i64 6] w (NormPost w N (shn f N)) := by
  have IL := Lib.hid isLog_p
  have CI := Lib.hid (containsI_p w a c N f h (by omega) (fun i hi => by have := sm_le f hi; omega))
  have SU := Lib.hid (sum_p w a c N f h (by omega) (by omega))
  obtain ⟨g, o, rfl, hg, hcap, hc⟩ := h.at_ hN
  have HC := Lib.hid hc
  have HB := Lib.hid (fun i (hi : i < N) => sm_le f hi)
  have HW0 := Lib.hid (Way.start (c := f) hN2)
  obtain ⟨all, hall⟩ : ∃ all, all = sm f N := ⟨_, rfl⟩
  have HA := Lib.hid hall
  rw [← hall] at HB hs hs2 HW0 SU
  obtain ⟨W, hmk, hia, hkw, hws⟩ := made_i w N (by omega)
  have HP0 : Hid (IAt 3 W w.heap.size N (part0 f all 0)) := Lib.hid (hia.congr (fun i _ => by simp [part0]))
  have HKW := Lib.hid hkw
  have b0 : ((all : Int) == 0) = false := by rw [beq_eq_false_iff_ne]; omega
  have b32 : decide (32 < N) = false := decide_eq_false (by omega)
  have b33 : decide ((32 : Int) < (N : Int)) = false := decide_eq_false (by omega)
  have HN2 := Lib.hid hN2
  clear h hc hall hia hkw hN2
  go_enter Tryz.func173, Tryz.ntmps173
  go_wp2_with (first
    | (go_at_call 201; refine (IL.out _).mono ?_; rintro e w' ⟨rfl, hw⟩; obtain rfl := hw.symm)
    | (go_at_call 202; refine CI.out.mono ?_; rintro e w' ⟨rfl, hw⟩; obtain rfl := hw.symm)
    | (go_at_call 203; refine SU.out.mono ?_; rintro e w' ⟨rfl, hw⟩; obtain rfl := hw.symm))
  obtain ⟨G, hG⟩ : ∃ G, G = w.heap.size := ⟨_, rfl⟩
  rw [← hG] at HP0 ⊢
  have HGE := Lib.hid hG
  clear hG hmk
  go_loopw [9, 10, 38] (fun _ _ i wr => ∃ j : Nat, j ≤ N ∧ i = .int .i64 j ∧ IAt 3 wr G N (part0 f all j) ∧ Kp (fun _ => False) w wr) (fun _ _ i _ => N - (intOf i).toNat)
  case atStart => exact ⟨0, Nat.zero_le _, rfl, HP0.out, HKW.out⟩
  case round =>
    have hN2 := HN2.out
    obtain ⟨j, hj, rfl, hia, hkw⟩ := hrel
    by_cases hlt : j < N
    · have d0 := HC.out _ hkw j hlt
      have hn0 : n0 f all j ≤ 64 := by rw [HA.out]; exact n0_le f j hlt
      have hb := HB.out j hlt
      by_cases hx0 : 0 < f j
      · have hup := part0_up (all := all) hx0
        obtain ⟨y', hy'⟩ : ∃ y', y' = max 1 (f j * 64 / all) := ⟨_, rfl⟩
        have hmx : max 1 (f j * 64 / all) ≤ 64 := by rw [← if_pos hx0 (t := max 1 (f j * 64 / all)) (e := 0)]; exact hn0
        have c1 := hia.cell hlt
        have f1 := hia.free j
        have hset := hia.set hlt (max 1 (f j * 64 / all))
        rw [hup] at hset
        have hks : Kp (fun _ => False) w (wr.setCell ⟨G, j, none⟩ (.int .i64 ((max 1 (f j * 64 / all) : Nat)))) := hkw.setCell (p := ⟨G, j, none⟩) (fun q => by have := HGE.out; simp only at q; omega) _
        have hdv : (f j : Int) * 64 / (all : Nat) = ((f j * 64 / all : Nat) : Int) := by simp
        obtain ⟨x, hx⟩ : ∃ x, x = f j := ⟨_, rfl⟩
        have hmax2 : max (1 : Int) ((f j * 64 / all : Nat) : Int) = (y' : Nat) := by rw [hy']; omega
        have hmax : (if (1 : Int) < ((f j * 64 / all : Nat) : Int) then ((f j * 64 / all : Nat) : Int) else 1) = (y' : Nat) := by rw [hy']; split <;> omega
        rw [← hy'] at hmx hset hks
        rw [← hx] at d0 hb hx0 hdv hmax hmax2
        obtain ⟨y, hy⟩ : ∃ y, y = x * 64 / all := ⟨_, rfl⟩
        rw [← hy] at hdv hmax hmax2
        have HS := Lib.hid hset
        have HK := Lib.hid hks
        clear hset hks hy hx hup hia hkw hn0 hy'
        go_wp2_with fail
        exact ⟨⟨j + 1, by omega, by go_num, HS.out, HK.out⟩, by simp [intOf]; try omega⟩
      · have hup := part0_no (all := all) hx0
        rw [hup] at hia
        have hx1 : f j = 0 := by omega
        rw [hx1] at d0
        have HS := Lib.hid hia
        have HK := Lib.hid hkw
        clear hia hkw hup hx1 hx0 hb hn0
        go_wp2_with fail
        exact ⟨⟨j + 1, by omega, by go_num, HS.out, HK.out⟩, by simp [intOf]; try omega⟩
    · obtain rfl : j = N := by omega
      have HS : Hid (IAt 3 wr G j (n0 f all)) := Lib.hid (hia.congr (fun i hi => by simp [part0, hi]))
      have HK := Lib.hid hkw
      have hb : sm (n0 f all) j ≤ 4096 := by
        have := sm_bound (f := n0 f all) (b := 64) j (fun i hi => by rw [HA.out]; exact n0_le f i hi)
        omega
      have SM := Lib.hid (fun n => sum_p (wr.drewN n) _ _ j (n0 f all) ((HS.out.kp ((Kp.refl (fun _ => False) _).drewN n) (fun q => q)).rd (by omega)) (by omega) (by omega))
      obtain ⟨q, hq⟩ : ∃ q, q = sm (n0 f all) j := ⟨_, rfl⟩
      rw [← hq] at SM hb
      have HQ := Lib.hid hq
      clear hia hkw hq hlt hj CI SU IL
      go_wp2_with fail
      go_quiet ((go_at_call 203; refine Calls.quiet_of_same (SM.out _)))
      go_wp2_with fail
      obtain ⟨V, hV⟩ : ∃ V, V = wr.drewN nq := ⟨_, rfl⟩
      have HSV : Hid (IAt 3 V G j (n0 f all)) := Lib.hid (by rw [hV]; exact HS.out.kp ((Kp.refl (fun _ => False) _).drewN nq) (fun q => q))
      have HKV : Hid (Kp (fun _ => False) w V) := Lib.hid (by rw [hV]; exact HK.out.drewN nq)
      rw [← hV]
      have T0 := Lib.hid HW0.out
      have HQB := Lib.hid hb
      clear hV HS HK SM HW0 HP0 HKW hb
      obtain ⟨wo, rfl⟩ : ∃ wo : World, wo = wr := ⟨_, rfl⟩
      go_loopw [11] (fun s wv => ∃ (h : Nat → Nat) (q : Nat), q = sm h j ∧ s = .int .i64 ((64 : Int) - (q : Nat)) ∧ Way f j h ∧ IAt 3 wv G j h ∧ Kp (fun _ => False) w wv) (fun s _ => dist ((64 - intOf s).toNat))
      case atStart => exact ⟨n0 f all, q, HQ.out, rfl, T0.out, HSV.out, HKV.out⟩
      case round =>
        clear HQ HSV HKV T0 HQB
        obtain ⟨h, q, hq, rfl, hway, hia, hkw⟩ := hrel
        have hway3 := hway.2.2
        rw [← hq] at hway3
        have HQ := Lib.hid hq
        have HWY := Lib.hid hway
        have HIA := Lib.hid hia
        have HKW := Lib.hid hkw
        clear hq hway hia hkw
        by_cases h64 : q = 64
        · subst h64
          have HD := Lib.hid (HWY.out.done HQ.out.symm)
          go_wp2_with fail
          go_ret2
          exact ⟨G, rfl, by have := HGE.out; omega, by rw [← HD.out]; exact HIA.out, HKW.out⟩
        · have b1 : ((64 : Int) - (q : Nat) != 0) = true := by rw [bne_iff_ne]; omega
          have MX := max_p wr G 0 j j h hN (by omega) (fun i hi => by rw [Nat.zero_add]; exact HIA.out.cell hi)
          have IX := index_p wr G 0 j j h hN (by omega) (fun i hi => by rw [Nat.zero_add]; exact HIA.out.cell hi)
          have hpj := am_lt h j hN
          have hpos := am_pos (f := h) (N := j)
          obtain ⟨hnx1, hnx2⟩ := HWY.out.next hN hN2 (by rw [← HQ.out]; exact h64)
          have hstp : stp j h = up h (am h j) (if q < 64 then h (am h j) + 1 else h (am h j) - 1) := by
            unfold stp; rw [← HQ.out]
          rw [hstp] at hnx1 hnx2
          rw [← HQ.out] at hnx2 hpos
          have hst : sm (up h (am h j) (if q < 64 then h (am h j) + 1 else h (am h j) - 1)) j + h (am h j) = q + (if q < 64 then h (am h j) + 1 else h (am h j) - 1) := by
            have := sm_up h (am h j) (if q < 64 then h (am h j) + 1 else h (am h j) - 1) j hpj
            rw [← HQ.out] at this; exact this
          have hx64 := HWY.out.2.1 _ hpj
          obtain ⟨p, hp⟩ : ∃ p, p = am h j := ⟨_, rfl⟩
          rw [← hp] at MX IX hpj hpos hnx1 hnx2 hst hx64
          have d0 : wr.cell? ⟨G, p, none⟩ = some (.int .i64 (h p : Nat)) := HIA.out.cell hpj
          have f0 : wr.frozen? ⟨G, p, none⟩ = false := HIA.out.free p
          obtain ⟨x, hx⟩ : ∃ x, x = h p := ⟨_, rfl⟩
          rw [← hx] at MX IX d0 hpos hst hnx1 hnx2 hx64
          replace MX := Lib.hid MX
          replace IX := Lib.hid IX
          clear hp hx hstp
          by_cases hlow : q < 64
          · rw [if_pos hlow] at hst hnx1 hnx2
            have b2 : decide ((0 : Int) < 64 - (q : Nat)) = true := decide_eq_true (by omega)
            have b3 : decide ((q : Int) < 64) = true := decide_eq_true (by omega)
            have b4 : decide (q < 64) = true := decide_eq_true (by omega)
            have hset := HIA.out.set hpj (x + 1)
            have hks : Kp (fun _ => False) w (wr.setCell ⟨G, p, none⟩ (.int .i64 ((x + 1 : Nat)))) := HKW.out.setCell (p := ⟨G, p, none⟩) (fun q => by have := HGE.out; simp only at q; omega) _
            have hq1 : q + 1 = sm (up h p (x + 1)) j := by omega
            have hds : dist (q + 1) < dist q := by rw [hnx2, hq1]; omega
            obtain ⟨V2, hV2⟩ : ∃ V2, V2 = wr.setCell ⟨G, p, none⟩ (.int .i64 ((x + 1 : Nat))) := ⟨_, rfl⟩
            rw [← hV2] at hset hks
            have SM := Lib.hid (fun n => sum_p (V2.drewN n) _ _ j (up h p (x + 1)) ((hset.kp ((Kp.refl (fun _ => False) _).drewN n) (fun q => q)).rd (by omega)) (by omega) (by rw [← hq1]; omega))
            rw [← hq1] at SM
            have HSET := Lib.hid hset
            have HKS := Lib.hid hks
            have HN1 := Lib.hid hnx1
            have HQ1 := Lib.hid hq1
            have HDS := Lib.hid hds
            have HV2 := Lib.hid hV2
            clear hlow h64
            clear hset hks hnx1 hnx2 hst hpos hq1 hds hV2
            go_wp2_with (first
              | (go_at_call 204; refine MX.out.mono ?_; rintro e w' ⟨rfl, hw⟩; obtain rfl := hw.symm)
              | (go_at_call 198; refine IX.out.mono ?_; rintro e w' ⟨rfl, hw⟩; obtain rfl := hw.symm))
            first | rw [← HV2.out] | (rw [show (x : Int) + 1 = ((x + 1 : Nat) : Int) from rfl, ← HV2.out])
            go_quiet ((go_at_call 203; refine Calls.quiet_of_same (SM.out _)))
            go_wp2_with fail
            exact ⟨⟨up h p (x + 1), q + 1, HQ1.out, rfl, HN1.out, HSET.out.kp ((Kp.refl (fun _ => False) _).drewN _) (fun q => q), HKS.out.drewN _⟩, by have h5 := HDS.out; show dist ((64 - (64 - ((_ : Nat) : Int))).toNat) < dist ((64 - (64 - (q : Int))).toNat); rw [show ((64 : Int) - (64 - (q : Int))).toNat = q by omega, show ∀ z : Nat, ((64 : Int) - (64 - (z : Int))).toNat = z from fun z => by omega]; exact h5⟩
          · rw [if_neg hlow] at hst hnx1 hnx2
            have hx0 := hpos (by omega)
            have b2 : decide ((0 : Int) < 64 - (q : Nat)) = false := decide_eq_false (by omega)
            have b3 : decide ((q : Int) < 64) = false := decide_eq_false (by omega)
            have b4 : decide (q < 64) = false := decide_eq_false (by omega)
            have e1 : (x : Int) - 1 = ((x - 1 : Nat) : Int) := by omega
            have e2 : (x : Int) + -1 = ((x - 1 : Nat) : Int) := by omega
            have hset := HIA.out.set hpj (x - 1)
            have hks : Kp (fun _ => False) w (wr.setCell ⟨G, p, none⟩ (.int .i64 ((x - 1 : Nat)))) := HKW.out.setCell (p := ⟨G, p, none⟩) (fun q => by have := HGE.out; simp only at q; omega) _
            have hq1 : q - 1 = sm (up h p (x - 1)) j := by omega
            have hds : dist (q - 1) < dist q := by rw [hnx2, hq1]; omega
            obtain ⟨V2, hV2⟩ : ∃ V2, V2 = wr.setCell ⟨G, p, none⟩ (.int .i64 ((x - 1 : Nat))) := ⟨_, rfl⟩
            rw [← hV2] at hset hks
            have SM := Lib.hid (fun n => sum_p (V2.drewN n) _ _ j (up h p (x - 1)) ((hset.kp ((Kp.refl (fun _ => False) _).drewN n) (fun q => q)).rd (by omega)) (by omega) (by rw [← hq1]; omega))
            rw [← hq1] at SM
            have HSET := Lib.hid hset
            have HKS := Lib.hid hks
            have HN1 := Lib.hid hnx1
            have HQ1 := Lib.hid hq1
            have HDS := Lib.hid hds
            have HV2 := Lib.hid hV2
            clear hlow h64
            clear hset hks hnx1 hnx2 hst hpos hq1 hds hV2
            go_wp2_with (first
              | (go_at_call 204; refine MX.out.mono ?_; rintro e w' ⟨rfl, hw⟩; obtain rfl := hw.symm)
              | (go_at_call 198; refine IX.out.mono ?_; rintro e w' ⟨rfl, hw⟩; obtain rfl := hw.symm))
            first | rw [← HV2.out] | (rw [show (x : Int) + 1 = ((x + 1 : Nat) : Int) from rfl, ← HV2.out])
            go_quiet ((go_at_call 203; refine Calls.quiet_of_same (SM.out _)))
            go_wp2_with fail
            exact ⟨⟨up h p (x - 1), q - 1, HQ1.out, rfl, HN1.out, HSET.out.kp ((Kp.refl (fun _ => False) _).drewN _) (fun q => q), HKS.out.drewN _⟩, by have h5 := HDS.out; show dist ((64 - (64 - ((_ : Nat) : Int))).toNat) < dist ((64 - (64 - (q : Int))).toNat); rw [show ((64 : Int) - (64 - (q : Int))).toNat = q by omega, show ∀ z : Nat, ((64 : Int) - (64 - (z : Int))).toNat = z from fun z => by omega]; exact h5⟩
end Go.Proofs.YtmioiaeiflbmhaaGreat.Ma
