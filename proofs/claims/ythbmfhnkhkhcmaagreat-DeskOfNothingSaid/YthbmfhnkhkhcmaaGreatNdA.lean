/- A nil Desk; copies of calls that hold nothing. -/
import Derived.Test.YthbmfhnkhkhcmaaGreatNpD
namespace Go.Proofs.YthbmfhnkhkhcmaaGreat.No
open Go Go.RowKit Go.ChangeMaps Go.MapKept Go.Mg Go.Sort

theorem bclone_nil (w : World) : Calls Tryz.prog 71 #[.slice none 0 0] w fun e w' => e = .returned (.slice none 0 0) ∧ w' = w := by
  have hnil := @Lib.run_eql_slice_nil Tryz.prog
  go_enter Tryz.func71, Tryz.ntmps71
  go_wp2_with fail
  go_ret
  exact ⟨rfl, rfl⟩
def CopPost (v : Value) (w : World) (e : Ending) (w' : World) : Prop := e = .returned v ∧ Kp (fun _ => False) w w'
/-- What a stored call leaves. -/
theorem call_set {V : World} {r : Nat} {t : TypeId} {v0 v1 v2 v3 v4 : Value} (h : V.heap[r]? = some (.cells #[v0, v1, v2, v3, v4] t (0, 0))) (x0 x1 x2 x3 x4 : Value) :
    (((((V.setCell ⟨r, 0, none⟩ x0).setCell ⟨r, 1, none⟩ x1).setCell ⟨r, 2, none⟩ x2).setCell ⟨r, 3, none⟩ x3).setCell ⟨r, 4, none⟩ x4).heap[r]? = some (.cells #[x0, x1, x2, x3, x4] t (0, 0)) := by
  have := setCell_at (i := 4) (setCell_at (i := 3) (setCell_at (i := 2) (setCell_at (i := 1) (setCell_at (i := 0) h x0) x1) x2) x3) x4
  simpa using this
theorem call_kp {w V : World} {r : Nat} (hk : Kp (fun _ => False) w V) (hr : w.heap.size ≤ r) (x0 x1 x2 x3 x4 : Value) : Kp (fun _ => False) w (((((V.setCell ⟨r, 0, none⟩ x0).setCell ⟨r, 1, none⟩ x1).setCell ⟨r, 2, none⟩ x2).setCell ⟨r, 3, none⟩ x3).setCell ⟨r, 4, none⟩ x4) :=
  ((((hk.setCell (p := ⟨r, 0, none⟩) (fun q => by simp only at q; omega) x0).setCell (p := ⟨r, 1, none⟩) (fun q => by simp only at q; omega) x1).setCell (p := ⟨r, 2, none⟩) (fun q => by simp only at q; omega) x2).setCell (p := ⟨r, 3, none⟩) (fun q => by simp only at q; omega) x3).setCell (p := ⟨r, 4, none⟩) (fun q => by simp only at q; omega) x4
set_option maxRecDepth 100000 in
set_option maxHeartbeats 2000000 in
theorem dcopied_c (w : World) (k : Int) (nm : ByteArray) (lv hd : Int) :
    Calls Tryz.prog 68 #[callAgg k nm lv hd (.slice none 0 0)] w (CopPost (callAgg k nm lv hd (.slice none 0 0)) w) := by
  obtain ⟨W, hW⟩ : ∃ W, W = (w.alloc (.cells #[.int .i64 k, .string nm, .int .i64 lv, .int .i64 hd, .slice none 0 0] 24)).alloc (.cells #[.int .i64 0, .string ⟨#[]⟩, .int .i64 0, .int .i64 0, .slice none 0 0] 24) := ⟨_, rfl⟩
  have hkW : Kp (fun _ => False) w W := by rw [hW]; exact kp_new.trans kp_new
  have hb : W.heap[w.heap.size]? = some (.cells #[.int .i64 k, .string nm, .int .i64 lv, .int .i64 hd, .slice none 0 0] 24 (0, 0)) := by rw [hW]; exact kp_new.at_ (alloc_at w _) (fun q => q)
  have hr : W.heap[w.heap.size + 1]? = some (.cells #[.int .i64 0, .string ⟨#[]⟩, .int .i64 0, .int .i64 0, .slice none 0 0] 24 (0, 0)) := by
    rw [hW]
    have := alloc_at (w.alloc (.cells #[.int .i64 k, .string nm, .int .i64 lv, .int .i64 hd, .slice none 0 0] 24)) (.cells #[.int .i64 0, .string ⟨#[]⟩, .int .i64 0, .int .i64 0, .slice none 0 0] 24)
    rwa [World.size_alloc] at this
  have C := Lib.hid (bclone_nil W)
  have a4 : W.cell? ⟨w.heap.size, 4, none⟩ = some (.slice none 0 0) := by rw [cell_of hb]; rfl
  have af : W.frozen? ⟨w.heap.size, 4, none⟩ = false := free_of hb 4
  have a4w := a4
  rw [hW] at a4w
  have hX : (W.setCell ⟨w.heap.size, 4, none⟩ (.slice none 0 0)).heap[w.heap.size]? = some (.cells #[.int .i64 k, .string nm, .int .i64 lv, .int .i64 hd, .slice none 0 0] 24 (0, 0)) := by
    rw [setCell_at hb]; rfl
  have hXr : (W.setCell ⟨w.heap.size, 4, none⟩ (.slice none 0 0)).heap[w.heap.size + 1]? = some (.cells #[.int .i64 0, .string ⟨#[]⟩, .int .i64 0, .int .i64 0, .slice none 0 0] 24 (0, 0)) :=
    ((Kp.refl (· = w.heap.size) W).setCell (p := ⟨w.heap.size, 4, none⟩) (fun _ => rfl) _).at_ hr (fun q => by omega)
  have kX : Kp (fun _ => False) w (W.setCell ⟨w.heap.size, 4, none⟩ (.slice none 0 0)) := hkW.setCell (p := ⟨w.heap.size, 4, none⟩) (fun q => by simp only at q; omega) _
  have HX := Lib.hid hX
  have HXR := Lib.hid hXr
  have KX := Lib.hid kX
  clear hX hXr kX hb hr hkW
  unfold callAgg
  go_enter Tryz.func68, Tryz.ntmps68
  go_wp2_with fail
  rw [← hW]
  clear hW a4w
  refine C.out.mono ?_
  rintro e w1 ⟨rfl, rfl⟩
  have hb := HX.out
  have hr := HXR.out
  have hk := KX.out
  have g0 : (w1.setCell ⟨w.heap.size, 4, none⟩ (.slice none 0 0)).cell? ⟨w.heap.size, 0, none⟩ = some (.int .i64 k) := by rw [cell_of hb]; rfl
  have g1 : (w1.setCell ⟨w.heap.size, 4, none⟩ (.slice none 0 0)).cell? ⟨w.heap.size, 1, none⟩ = some (.string nm) := by rw [cell_of hb]; rfl
  have g2 : (w1.setCell ⟨w.heap.size, 4, none⟩ (.slice none 0 0)).cell? ⟨w.heap.size, 2, none⟩ = some (.int .i64 lv) := by rw [cell_of hb]; rfl
  have g3 : (w1.setCell ⟨w.heap.size, 4, none⟩ (.slice none 0 0)).cell? ⟨w.heap.size, 3, none⟩ = some (.int .i64 hd) := by rw [cell_of hb]; rfl
  have g4 : (w1.setCell ⟨w.heap.size, 4, none⟩ (.slice none 0 0)).cell? ⟨w.heap.size, 4, none⟩ = some (.slice none 0 0) := by rw [cell_of hb]; rfl
  have f0 : ∀ i, (w1.setCell ⟨w.heap.size, 4, none⟩ (.slice none 0 0)).frozen? ⟨w.heap.size + 1, i, none⟩ = false := free_of hr
  have c0 : (w1.setCell ⟨w.heap.size, 4, none⟩ (.slice none 0 0)).cell? ⟨w.heap.size + 1, 0, none⟩ = some (.int .i64 0) := by rw [cell_of hr]; rfl
  have c1 : (w1.setCell ⟨w.heap.size, 4, none⟩ (.slice none 0 0)).cell? ⟨w.heap.size + 1, 1, none⟩ = some (.string ⟨#[]⟩) := by rw [cell_of hr]; rfl
  have c2 : (w1.setCell ⟨w.heap.size, 4, none⟩ (.slice none 0 0)).cell? ⟨w.heap.size + 1, 2, none⟩ = some (.int .i64 0) := by rw [cell_of hr]; rfl
  have c3 : (w1.setCell ⟨w.heap.size, 4, none⟩ (.slice none 0 0)).cell? ⟨w.heap.size + 1, 3, none⟩ = some (.int .i64 0) := by rw [cell_of hr]; rfl
  have c4 : (w1.setCell ⟨w.heap.size, 4, none⟩ (.slice none 0 0)).cell? ⟨w.heap.size + 1, 4, none⟩ = some (.slice none 0 0) := by rw [cell_of hr]; rfl
  have H6 := Lib.hid (call_set hr (.int .i64 k) (.string nm) (.int .i64 lv) (.int .i64 hd) (.slice none 0 0))
  have K6 := Lib.hid (call_kp hk (Nat.le_succ _) (.int .i64 k) (.string nm) (.int .i64 lv) (.int .i64 hd) (.slice none 0 0))
  clear hb hr hk HX HXR KX C
  go_wp2_with fail
  have y0 := cell_of H6.out 0
  have y1 := cell_of H6.out 1
  have y2 := cell_of H6.out 2
  have y3 := cell_of H6.out 3
  have y4 := cell_of H6.out 4
  refine bodyPost_ret (v := .agg #[.int .i64 k, .string nm, .int .i64 lv, .int .i64 hd, .slice none 0 0]) ?_ rfl ⟨rfl, K6.out⟩
  rw [results_cell1 rfl]
  simp [go_sem, y0, y1, y2, y3, y4]
theorem client_nil (c : Int) (w : World) : Calls Tryz.prog 64 #[.pointer none, .int .i64 c] w fun e w' => e = .returned (.bool false) ∧ w' = w := by
  go_enter Tryz.func64, Tryz.ntmps64
  go_wp2_with fail
  go_ret
  exact ⟨rfl, rfl⟩
theorem waits_nil (c : Int) (w : World) : Calls Tryz.prog 33 #[.pointer none, .int .i64 c] w fun e w' => e = .returned (.bool false) ∧ w' = w := by
  go_enter Tryz.func33, Tryz.ntmps33
  go_wp2_with fail
  refine (client_nil c w).mono ?_
  rintro e w1 ⟨rfl, rfl⟩
  go_wp2_with fail
  go_ret
  exact ⟨rfl, rfl⟩
theorem effects_nil (w : World) : Calls Tryz.prog 34 #[.pointer none] w fun e w' => e = .returned (.slice none 0 0) ∧ w' = w := by
  go_enter Tryz.func34, Tryz.ntmps34
  go_wp2_with fail
  go_ret
  exact ⟨rfl, rfl⟩
theorem plan_nil (w : World) : Calls Tryz.prog 69 #[.pointer none] w fun e w' => e = .returned (.pointer none) ∧ w' = w := by
  go_enter Tryz.func69, Tryz.ntmps69
  go_wp2_with fail
  go_ret
  exact ⟨rfl, rfl⟩
theorem dused_nil (w : World) : Calls Tryz.prog 35 #[.pointer none] w fun e w' => e = .returned (.int .i64 0) ∧ w' = w := by
  go_enter Tryz.func35, Tryz.ntmps35
  go_wp2_with fail
  refine (plan_nil w).mono ?_
  rintro e w1 ⟨rfl, rfl⟩
  go_wp2_with fail
  refine (pused_nil w1).mono ?_
  rintro e w1 ⟨rfl, rfl⟩
  go_wp2_with fail
  go_ret
  exact ⟨rfl, rfl⟩
theorem dsess_nil (w : World) : Calls Tryz.prog 36 #[.pointer none] w fun e w' => e = .returned (.int .i64 0) ∧ w' = w := by
  go_enter Tryz.func36, Tryz.ntmps36
  go_wp2_with fail
  refine (plan_nil w).mono ?_
  rintro e w1 ⟨rfl, rfl⟩
  go_wp2_with fail
  refine (psess_nil w1).mono ?_
  rintro e w1 ⟨rfl, rfl⟩
  go_wp2_with fail
  go_ret
  exact ⟨rfl, rfl⟩
theorem drefs_nil (w : World) (k : Int) : Calls Tryz.prog 37 #[.pointer none, .int .i64 k] w fun e w' => e = .returned (.int .i64 0) ∧ w' = w := by
  go_enter Tryz.func37, Tryz.ntmps37
  go_wp2_with fail
  refine (plan_nil w).mono ?_
  rintro e w1 ⟨rfl, rfl⟩
  go_wp2_with fail
  refine (prefs_nil w1 k).mono ?_
  rintro e w1 ⟨rfl, rfl⟩
  go_wp2_with fail
  go_ret
  exact ⟨rfl, rfl⟩
set_option maxRecDepth 100000 in
theorem invoke_nil (w : World) (c k : Int) (nm : ByteArray) (lv hd : Int) (d : Value) : Calls Tryz.prog 32 #[.pointer none, .int .i64 c, callAgg k nm lv hd d] w (IntPost 1 w) := by
  have C := Lib.hid (fun V => client_nil c V)
  unfold callAgg
  go_enter Tryz.func32, Tryz.ntmps32
  go_wp2_with fail
  refine (C.out _).mono ?_
  rintro e w1 ⟨rfl, rfl⟩
  go_wp2_with fail
  go_ret
  exact ⟨rfl, kp_new⟩
set_option maxRecDepth 100000 in
set_option maxHeartbeats 1000000 in
theorem dstep_nil (w : World) (c : Int) : Calls Tryz.prog 31 #[.pointer none, .int .i64 c] w (StepPost 1 w) := by
  obtain ⟨W, hW⟩ : ∃ W, W = w.alloc (.cells #[.int .i64 0, .int .i64 0, .slice none 0 0] 52) := ⟨_, rfl⟩
  have hk : Kp (fun _ => False) w W := by rw [hW]; exact kp_new
  have hWh : W.heap[w.heap.size]? = some (.cells #[.int .i64 0, .int .i64 0, .slice none 0 0] 52 (0, 0)) := by rw [hW]; exact alloc_at _ _
  have C1 := Lib.hid (client_nil c W)
  go_enter Tryz.func31, Tryz.ntmps31
  go_wp2_with fail
  rw [← hW]
  have f0 : ∀ i, W.frozen? ⟨w.heap.size, i, none⟩ = false := free_of hWh
  have e0 : W.cell? ⟨w.heap.size, 0, none⟩ = some (.int .i64 0) := by rw [cell_of hWh]; rfl
  have e1 : W.cell? ⟨w.heap.size, 1, none⟩ = some (.int .i64 0) := by rw [cell_of hWh]; rfl
  have e2 : W.cell? ⟨w.heap.size, 2, none⟩ = some (.slice none 0 0) := by rw [cell_of hWh]; rfl
  have H6 := Lib.hid (ans_set hWh 0 0 (.slice none 0 0))
  have K6 := Lib.hid (ans_kp hk (Nat.le_refl _) (.int .i64 0) (.int .i64 0) (.slice none 0 0))
  clear hW hk hWh
  refine C1.out.mono ?_
  rintro e w1 ⟨rfl, rfl⟩
  go_wp2_with fail
  have y0 := cell_of H6.out 0
  have y1 := cell_of H6.out 1
  have y2 := cell_of H6.out 2
  refine bodyPost_ret (v := .tuple #[.agg #[.int .i64 0, .int .i64 0, .slice none 0 0], .bool false, .int .i64 1]) ?_ rfl ⟨rfl, K6.out⟩
  rw [results_cell_tt rfl]
  simp [go_sem, y0, y1, y2]
set_option maxRecDepth 100000 in
set_option maxHeartbeats 1000000 in
theorem dstep_n {w : World} {d : Nat} (c : Nat) (hc : c < 4) (d0 : w.cell? ⟨d, 1 + c, none⟩ = some (.pointer none)) : Calls Tryz.prog 31 #[.pointer (some ⟨d, 0, none⟩), .int .i64 (c : Nat)] w (StepPost 8 w) := by
  obtain ⟨W, hW⟩ : ∃ W, W = w.alloc (.cells #[.int .i64 0, .int .i64 0, .slice none 0 0] 52) := ⟨_, rfl⟩
  have hk : Kp (fun _ => False) w W := by rw [hW]; exact kp_new
  have hWh : W.heap[w.heap.size]? = some (.cells #[.int .i64 0, .int .i64 0, .slice none 0 0] 52 (0, 0)) := by rw [hW]; exact alloc_at _ _
  have C1 := Lib.hid (client_c d c hc W)
  have d1 := (hk.cell (p := ⟨d, 1 + c, none⟩) (World.block_lt_of_cell? w _ d0) (fun q => q)).trans d0
  clear d0
  go_enter Tryz.func31, Tryz.ntmps31
  go_wp2_with fail
  rw [← hW]
  have f0 : ∀ i, W.frozen? ⟨w.heap.size, i, none⟩ = false := free_of hWh
  have e0 : W.cell? ⟨w.heap.size, 0, none⟩ = some (.int .i64 0) := by rw [cell_of hWh]; rfl
  have e1 : W.cell? ⟨w.heap.size, 1, none⟩ = some (.int .i64 0) := by rw [cell_of hWh]; rfl
  have e2 : W.cell? ⟨w.heap.size, 2, none⟩ = some (.slice none 0 0) := by rw [cell_of hWh]; rfl
  have H6 := Lib.hid (ans_set hWh 0 0 (.slice none 0 0))
  have K6 := Lib.hid (ans_kp hk (Nat.le_refl _) (.int .i64 0) (.int .i64 0) (.slice none 0 0))
  clear hW hk hWh
  refine C1.out.mono ?_
  rintro e w1 ⟨rfl, rfl⟩
  go_wp2_with fail
  have y0 := cell_of H6.out 0
  have y1 := cell_of H6.out 1
  have y2 := cell_of H6.out 2
  refine bodyPost_ret (v := .tuple #[.agg #[.int .i64 0, .int .i64 0, .slice none 0 0], .bool false, .int .i64 8]) ?_ rfl ⟨rfl, K6.out⟩
  rw [results_cell_tt rfl]
  simp [go_sem, y0, y1, y2]
set_option maxRecDepth 100000 in
set_option maxHeartbeats 1000000 in
theorem long13_c (w : World) (g : Nat) (nm : ByteArray) (da : Option Addr) (ld dc : Nat) (h1 : w.cell? ⟨g, 3, none⟩ = some (.string nm)) (h2 : w.cell? ⟨g, 6, none⟩ = some (.slice da ld dc)) (hn : nm.size ≤ maxLen) (hd : ld ≤ maxLen) :
    Calls Tryz.prog 30 #[.slice (some ⟨g, 0, none⟩) 1 1] w (BoolPost w) := by
  unfold maxLen at hn hd
  go_enter Tryz.func30, Tryz.ntmps30
  go_wp2_with fail
  go_loopw [3, 4] (fun n i wr => wr = w ∧ ((i = .int .i64 0 ∧ n = .int .i64 0) ∨ (i = .int .i64 1 ∧ n = .int .i64 (ld : Nat) ∧ ld ≤ 3200))) (fun _ i _ => 1 - (intOf i).toNat)
  case atStart => exact ⟨rfl, .inl ⟨rfl, rfl⟩⟩
  case round =>
    obtain ⟨rfl, ⟨rfl, rfl⟩ | ⟨rfl, rfl, hl⟩⟩ := hrel
    · by_cases c1 : 50 < nm.size
      · have c1' : (50 : Int) < (nm.size : Int) := by omega
        go_wp2_with fail
        go_ret
        exact ⟨_, rfl, rfl⟩
      · have c1' : ¬ (50 : Int) < (nm.size : Int) := by omega
        by_cases c2 : 3200 < ld
        · have c2' : (3200 : Int) < (ld : Int) := by omega
          go_wp2_with fail
          go_ret
          exact ⟨_, rfl, rfl⟩
        · have c2' : ¬ (3200 : Int) < (ld : Int) := by omega
          go_wp2_with fail
          exact ⟨⟨by first | trivial | rfl, .inr ⟨by go_num, by go_num, by omega⟩⟩, by simp [intOf]⟩
    · have hl' : ¬ (12000 : Int) < (ld : Int) := by omega
      go_wp2_with fail
      go_ret
      exact ⟨_, rfl, rfl⟩
end Go.Proofs.YthbmfhnkhkhcmaaGreat.No
