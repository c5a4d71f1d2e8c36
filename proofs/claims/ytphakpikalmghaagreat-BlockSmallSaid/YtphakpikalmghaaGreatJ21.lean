/- fse: slices.ContainsFunc of counts that may be. fse: slices.ContainsFunc of shares that may be. fse: the program's Is. fse: slices.Max and slices.Index of its shares. -/
import Derived.Test.YtphakpikalmghaaGreatJ20
namespace Go.Proofs.YtphakpikalmghaaGreat.Ma
open Go Go.RowKit Go.ChangeMaps Go.MapKept Go.Mg Go.Proofs.YtphakpikalmghaaGreat.Hu

set_option maxRecDepth 100000 in
set_option maxHeartbeats 400000 in
theorem notCount_p (x : Nat) (hx : x ≤ 1000000) (w : World) : Calls Tryz.prog 105 #[.int .i64 (x : Nat)] w fun e w' => e = .returned (.bool false) ∧ w' = w := by
  have b1 : decide ((x : Int) < 0) = false := decide_eq_false (by omega)
  have b2 : decide ((1073741824 : Int) < (x : Int)) = false := decide_eq_false (by omega)
  have b3 : decide (1073741824 < x) = false := decide_eq_false (by omega)
  clear hx
  go_enter Tryz.func105, Tryz.ntmps105
  go_wp2_with fail
  go_ret
  exact ⟨rfl, rfl⟩
set_option maxRecDepth 100000 in
set_option maxHeartbeats 400000 in
theorem indexI_p (w : World) (a : Option Addr) (c n : Nat) (f : Nat → Nat) (h : IntsR w a c n f) (hn : n ≤ 100000) (hf : ∀ i, i < n → f i ≤ 1000000) :
    Calls Tryz.prog 135 #[.slice a n c, .func (.func 105) #[] #[]] w fun e w' => e = .returned (.int .i64 (-1)) ∧ w' = w := by
  have HL : Hid (0 < n → ∃ g o, a = some ⟨g, o, none⟩ ∧ n ≤ c ∧ ∀ i, i < n → w.cell? ⟨g, o + i, none⟩ = some (.int .i64 (f i : Nat))) := Lib.hid (fun h0 => by
    obtain ⟨g, o, e, _, hc, hcc⟩ := h.at_ h0
    exact ⟨g, o, e, hc, fun i hi => hcc w (Kp.refl _ _) i hi⟩)
  have HF := Lib.hid hf
  clear h hf
  go_enter Tryz.func135, Tryz.ntmps135
  go_wp2_with fail
  go_loop [5, 8] (fun _ i => ∃ k : Nat, k ≤ n ∧ i = .int .i64 k) (fun _ i => n - (intOf i).toNat)
  case atStart => exact ⟨0, Nat.zero_le _, rfl⟩
  case round =>
    obtain ⟨k, hk, rfl⟩ := hrel
    by_cases hlt : k < n
    · obtain ⟨g, o, rfl, hcl, hcc⟩ := HL.out (by omega)
      have d0 := hcc k hlt
      have CT := Lib.hid (notCount_p (f k) (HF.out k hlt))
      obtain ⟨x, hx⟩ : ∃ x, x = f k := ⟨_, rfl⟩
      rw [← hx] at d0 CT
      clear hcc hx
      go_wp2_with (go_at_call 105; refine (CT.out _).mono ?_; rintro e w' ⟨rfl, hw⟩; obtain rfl := hw)
      exact ⟨⟨k + 1, by omega, by go_num⟩, by simp [intOf]; try omega⟩
    · obtain rfl : k = n := by omega
      go_wp2_with fail
      go_ret
      exact ⟨rfl, rfl⟩
set_option maxRecDepth 100000 in
set_option maxHeartbeats 400000 in
theorem containsI_p (w : World) (a : Option Addr) (c n : Nat) (f : Nat → Nat) (h : IntsR w a c n f) (hn : n ≤ 100000) (hf : ∀ i, i < n → f i ≤ 1000000) :
    Calls Tryz.prog 107 #[.slice a n c, .func (.func 105) #[] #[]] w fun e w' => e = .returned (.bool false) ∧ w' = w := by
  have IX := Lib.hid (indexI_p w a c n f h hn hf)
  clear h hf
  go_enter Tryz.func107, Tryz.ntmps107
  go_wp2_with (go_at_call 135; refine IX.out.mono ?_; rintro e w' ⟨rfl, hw⟩; obtain rfl := hw)
  go_ret
  exact ⟨rfl, rfl⟩
end Go.Proofs.YtphakpikalmghaaGreat.Ma
namespace Go.Proofs.YtphakpikalmghaaGreat.Ma
open Go Go.RowKit Go.ChangeMaps Go.MapKept Go.Mg Go.Proofs.YtphakpikalmghaaGreat.Hu

set_option maxRecDepth 100000 in
set_option maxHeartbeats 400000 in
theorem notShare_p (x : Nat) (hx : x ≤ 64) (w : World) (B : Nat) (hB : w.cell? ⟨B, 0, none⟩ = some (.int .i64 6)) : Calls Tryz.prog 151 #[.int .i64 (x : Nat), .pointer (some ⟨B, 0, none⟩)] w fun e w' => e = .returned (.bool false) ∧ w' = w := by
  have b1 : decide ((x : Int) < 0) = false := decide_eq_false (by omega)
  have b2 : decide ((64 : Int) < (x : Int)) = false := decide_eq_false (by omega)
  have b3 : decide (64 < x) = false := decide_eq_false (by omega)
  clear hx
  go_enter Tryz.func151, Tryz.ntmps151
  go_wp2_with fail
  go_ret
  exact ⟨rfl, rfl⟩
set_option maxRecDepth 100000 in
set_option maxHeartbeats 400000 in
theorem indexS_p (w : World) (a : Option Addr) (c n : Nat) (f : Nat → Nat) (h : IntsR w a c n f) (hn : n ≤ 100000) (hf : ∀ i, i < n → f i ≤ 64) (B : Nat) (hB : w.cell? ⟨B, 0, none⟩ = some (.int .i64 6)) :
    Calls Tryz.prog 135 #[.slice a n c, .func (.func 151) #[] #[.pointer (some ⟨B, 0, none⟩)]] w fun e w' => e = .returned (.int .i64 (-1)) ∧ w' = w := by
  have HL : Hid (0 < n → ∃ g o, a = some ⟨g, o, none⟩ ∧ n ≤ c ∧ ∀ i, i < n → w.cell? ⟨g, o + i, none⟩ = some (.int .i64 (f i : Nat))) := Lib.hid (fun h0 => by
    obtain ⟨g, o, e, _, hc, hcc⟩ := h.at_ h0
    exact ⟨g, o, e, hc, fun i hi => hcc w (Kp.refl _ _) i hi⟩)
  have HF := Lib.hid hf
  have HBC := Lib.hid hB
  clear h hf hB
  go_enter Tryz.func135, Tryz.ntmps135
  go_wp2_with fail
  go_loop [5, 8] (fun _ i => ∃ k : Nat, k ≤ n ∧ i = .int .i64 k) (fun _ i => n - (intOf i).toNat)
  case atStart => exact ⟨0, Nat.zero_le _, rfl⟩
  case round =>
    obtain ⟨k, hk, rfl⟩ := hrel
    by_cases hlt : k < n
    · obtain ⟨g, o, rfl, hcl, hcc⟩ := HL.out (by omega)
      have d0 := hcc k hlt
      have CT := Lib.hid (notShare_p (f k) (HF.out k hlt) w B HBC.out)
      obtain ⟨x, hx⟩ : ∃ x, x = f k := ⟨_, rfl⟩
      rw [← hx] at d0 CT
      clear hcc hx
      go_wp2_with (go_at_call 151; refine CT.out.mono ?_; rintro e w' ⟨rfl, hw⟩; obtain rfl := hw)
      exact ⟨⟨k + 1, by omega, by go_num⟩, by simp [intOf]; try omega⟩
    · obtain rfl : k = n := by omega
      go_wp2_with fail
      go_ret
      exact ⟨rfl, rfl⟩
set_option maxRecDepth 100000 in
set_option maxHeartbeats 400000 in
theorem containsS_p (w : World) (a : Option Addr) (c n : Nat) (f : Nat → Nat) (h : IntsR w a c n f) (hn : n ≤ 100000) (hf : ∀ i, i < n → f i ≤ 64) (B : Nat) (hB : w.cell? ⟨B, 0, none⟩ = some (.int .i64 6)) :
    Calls Tryz.prog 107 #[.slice a n c, .func (.func 151) #[] #[.pointer (some ⟨B, 0, none⟩)]] w fun e w' => e = .returned (.bool false) ∧ w' = w := by
  have IX := Lib.hid (indexS_p w a c n f h hn hf B hB)
  clear h hf hB
  go_enter Tryz.func107, Tryz.ntmps107
  go_wp2_with (go_at_call 135; refine IX.out.mono ?_; rintro e w' ⟨rfl, hw⟩; obtain rfl := hw)
  go_ret
  exact ⟨rfl, rfl⟩
end Go.Proofs.YtphakpikalmghaaGreat.Ma
namespace Go.Proofs.YtphakpikalmghaaGreat.Ma
open Go Go.RowKit Go.ChangeMaps Go.MapKept Go.Mg Go.Fse Go.Proofs.YtphakpikalmghaaGreat.Hu

set_option maxRecDepth 100000 in
set_option maxHeartbeats 400000 in
theorem is4_p (w : World) (a : Option Addr) (c N : Nat) (f : Nat → Nat) (h : IntsR w a c N f) (hN : 0 < N) (hN2 : N ≤ 32) (hs : Shares f N) :
    Calls Tryz.prog 136 #[.slice a N c, .int .i64 6] w fun e w' => e = .returned (.bool true) ∧ Kp (fun _ => False) w w' := by
  have IL := Lib.hid isLog_p
  have hk : Kp (fun _ => False) w (w.alloc (.cells #[.int .i64 6] 3)) := kp_alloc _ _
  have hcell : (w.alloc (.cells #[.int .i64 6] 3)).cell? ⟨w.heap.size, 0, none⟩ = some (.int .i64 6) := by rw [cell_of (alloc_at w _)]; rfl
  obtain ⟨W, hW⟩ : ∃ W, W = w.alloc (.cells #[.int .i64 6] 3) := ⟨_, rfl⟩
  rw [← hW] at hk hcell
  have hsum : sm f N = 64 := hs
  have CS := Lib.hid (fun j => containsS_p (W.drewN j) a c N f (h.kp (hk.drewN j)) (by omega) (fun i hi => shares_le hs hi) w.heap.size hcell)
  have SU := Lib.hid (fun j => sum_p (W.drewN j) a c N f (h.kp (hk.drewN j)) (by omega) (by rw [hsum]; omega))
  rw [hsum] at SU
  have c1 : ∀ j, (W.drewN j).cell? ⟨w.heap.size, 0, none⟩ = some (.int .i64 6) := fun _ => hcell
  have C1 := Lib.hid c1
  have HK := Lib.hid hk
  have HW := Lib.hid hW
  have hn32 : decide (32 < N) = false := decide_eq_false (by omega)
  have hn33 : decide ((32 : Int) < (N : Int)) = false := decide_eq_false (by omega)
  clear h hs hsum hk hcell hW hN hN2 c1
  go_enter Tryz.func136, Tryz.ntmps136
  go_wp2_with (go_at_call 106; refine (IL.out _).mono ?_; rintro e w' ⟨rfl, hw⟩; obtain rfl := hw)
  rw [← HW.out]
  obtain ⟨B, hB⟩ : ∃ B, B = w.heap.size := ⟨_, rfl⟩
  have c1 := C1.out
  rw [← hB] at CS c1 ⊢
  clear hB C1
  go_quiet (first | (go_at_call 107; refine Calls.quiet_of_same (CS.out _)) | (go_at_call 108; refine Calls.quiet_of_same (SU.out _)))
  go_wp2_with fail
  go_ret
  exact ⟨rfl, HK.out.drewN _⟩
end Go.Proofs.YtphakpikalmghaaGreat.Ma
namespace Go.Proofs.YtphakpikalmghaaGreat.Ma
open Go Go.RowKit Go.ChangeMaps Go.MapKept Go.Mg Go.Proofs.YtphakpikalmghaaGreat.Hu

def nums (f : Nat → Nat) (n : Nat) : List Int := (List.range n).map fun i => (f i : Int)
theorem nums_len (f : Nat → Nat) (n : Nat) : (nums f n).length = n := by simp [nums]
theorem nums_at (f : Nat → Nat) {n i : Nat} (h : i < n) : (nums f n).getD i 0 = (f i : Int) := by simp [nums, List.getD, h]
theorem foldl_max_le (M : Int) : ∀ (l : List Int) (a : Int), a ≤ M → (∀ x ∈ l, x ≤ M) → l.foldl max a ≤ M
  | [], a, h, _ => h
  | x :: l, a, h, hl => by
    simp only [List.foldl_cons]
    exact foldl_max_le M l _ (by have := hl x (by simp); omega) (fun y hy => hl y (by simp [hy]))
theorem le_foldl_max : ∀ (l : List Int) (a : Int), a ≤ l.foldl max a ∧ ∀ x ∈ l, x ≤ l.foldl max a
  | [], a => ⟨Int.le_refl _, fun x hx => by cases hx⟩
  | y :: l, a => by
    simp only [List.foldl_cons]
    have h := le_foldl_max l (max a y)
    refine ⟨by omega, fun x hx => ?_⟩
    rcases List.mem_cons.1 hx with rfl | hx
    · omega
    · exact h.2 x hx
theorem max_nums (f : Nat → Nat) {n : Nat} (h0 : 0 < n) : Lib.maxOf (nums f n) = (f (Fse.am f n) : Int) := by
  unfold Lib.maxOf
  have hm : (f (Fse.am f n) : Int) ∈ nums f n := List.mem_map.2 ⟨_, List.mem_range.2 (Fse.am_lt f n h0), rfl⟩
  apply Int.le_antisymm
  · refine foldl_max_le _ _ _ ?_ (fun x hx => ?_)
    · have : (nums f n).headD 0 = (f 0 : Int) := by
        obtain ⟨m, rfl⟩ : ∃ m, n = m + 1 := ⟨n - 1, by omega⟩
        simp [nums, List.range_succ_eq_map]
      rw [this]
      have := Fse.am_max f n 0 h0
      omega
    · obtain ⟨i, hi, rfl⟩ := List.mem_map.1 hx
      have := Fse.am_max f n i (List.mem_range.1 hi)
      omega
  · exact (le_foldl_max _ _).2 _ hm
theorem max_p (w : World) (g o c n : Nat) (f : Nat → Nat) (h0 : 0 < n) (hn : n ≤ 100000) (hc : ∀ i, i < n → w.cell? ⟨g, o + i, none⟩ = some (.int .i64 (f i : Nat))) :
    Calls Tryz.prog 87 #[.slice (some ⟨g, o, none⟩) n c] w fun e w' => e = .returned (.int .i64 (f (Fse.am f n) : Nat)) ∧ w' = w := by
  have h := Any.slices_Max_int Tryz.lays113 g o n c (nums f n) w h0 (by rw [nums_len]; omega) (by omega) (fun j hj => by
    rw [nums_len] at hj
    rw [hc j hj, nums_at f hj])
  rw [List.take_of_length_le (by rw [nums_len]; omega), max_nums f h0] at h
  exact h
theorem index_p (w : World) (g o c n : Nat) (f : Nat → Nat) (h0 : 0 < n) (hn : n ≤ 100000) (hc : ∀ i, i < n → w.cell? ⟨g, o + i, none⟩ = some (.int .i64 (f i : Nat))) :
    Calls Tryz.prog 103 #[.slice (some ⟨g, o, none⟩) n c, .int .i64 (f (Fse.am f n) : Nat)] w fun e w' => e = .returned (.int .i64 (Fse.am f n : Nat)) ∧ w' = w := by
  have h := Any.slices_Index_int Tryz.lays108 g o n c (nums f n) (f (Fse.am f n) : Nat) w (by rw [nums_len]; omega) (by omega) (fun j hj => by
    rw [nums_len] at hj
    rw [hc j hj, nums_at f hj])
  have hlt := Fse.am_lt f n h0
  rw [Lib.idxOf_hit _ n (Fse.am f n) _ hlt (by rw [nums_len]; omega) (nums_at f hlt) (fun j hj => by
    rw [nums_at f (by omega)]
    have := Fse.am_first f n j hj
    omega)] at h
  exact h
end Go.Proofs.YtphakpikalmghaaGreat.Ma
