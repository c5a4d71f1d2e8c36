/- A Desk and a Shop on which nothing is. -/
import Derived.Test.YthbmfhnkhkhcmaaGreatNoA
namespace Go.Proofs.YthbmfhnkhkhcmaaGreat.No
open Go Go.RowKit Go.ChangeMaps Go.MapKept Go.Mg

def deskCells (pl : Nat) : Array Value := #[.pointer (some ⟨pl, 0, none⟩), .pointer none, .pointer none, .pointer none, .pointer none, .slice none 0 0]
structure DeskE (w : World) (d : Nat) (n : Nat) : Prop where
  ex : ∃ pl, w.heap[d]? = some (.cells (deskCells pl) 100 (0, 0)) ∧ PlanE w pl n
theorem DeskE.kp {w w' : World} {d n : Nat} (h : DeskE w d n) (hk : Kp (fun _ => False) w w') : DeskE w' d n := by
  obtain ⟨pl, h1, h2⟩ := h.ex
  exact ⟨pl, hk.at_ h1 (fun q => q), h2.kp hk⟩
set_option maxHeartbeats 1000000 in
theorem desk_new (n : Nat) (hn : n ≤ 1000000) (w : World) : Calls Tryz.prog 70 #[.int .i64 (n : Nat), .int .i64 (n : Nat)] w (NewPost (fun w' p => DeskE w' p n) w) := by
  have C1 := Lib.hid (plan_new n hn w)
  go_enter Tryz.func70, Tryz.ntmps70
  go_wp2_with fail
  refine C1.out.mono ?_
  rintro e w1 ⟨pl, rfl, h0, h1, k1⟩
  have H1 := Lib.hid h1
  have K1 := Lib.hid k1
  clear h1 k1 C1
  go_wp2_with fail
  go_ret
  exact ⟨_, rfl, by have := K1.out.size; omega, ⟨pl, alloc_at _ _, H1.out.kp kp_new⟩, K1.out.trans kp_new⟩
def zCall : List Value := [.int .i64 0, .string .empty, .int .i64 0, .int .i64 0, .slice none 0 0]
def shopCells (n d : Nat) : Array Value := #[.int .i64 (n : Nat), .int .i64 (n : Nat), .pointer (some ⟨d, 0, none⟩), .slice none 0 0, .slice none 0 0, .int .i64 0, .int .i64 0, .int .i64 0, .int .i64 0,
  .int .i64 0, .string .empty, .int .i64 0, .int .i64 0, .slice none 0 0, .int .i64 0, .string .empty, .int .i64 0, .int .i64 0, .slice none 0 0, .int .i64 0, .string .empty, .int .i64 0, .int .i64 0, .slice none 0 0, .int .i64 0, .string .empty, .int .i64 0, .int .i64 0, .slice none 0 0]
structure ShopE (w : World) (s : Nat) (n : Nat) : Prop where
  ex : ∃ d, w.heap[s]? = some (.cells (shopCells n d) 66 (0, 0)) ∧ DeskE w d n
theorem ShopE.kp {w w' : World} {d n : Nat} (h : ShopE w d n) (hk : Kp (fun _ => False) w w') : ShopE w' d n := by
  obtain ⟨pl, h1, h2⟩ := h.ex
  exact ⟨pl, hk.at_ h1 (fun q => q), h2.kp hk⟩
set_option maxRecDepth 100000 in
set_option maxHeartbeats 1000000 in
theorem shop_new (n : Nat) (hn : n ≤ 1000000) (w : World) : Calls Tryz.prog 51 #[.int .i64 (n : Nat), .int .i64 (n : Nat)] w (NewPost (fun w' p => ShopE w' p n) w) := by
  have C1 := Lib.hid (desk_new n hn w)
  go_enter Tryz.func51, Tryz.ntmps51
  go_wp2_with fail
  refine C1.out.mono ?_
  rintro e w1 ⟨pl, rfl, h0, h1, k1⟩
  have H1 := Lib.hid h1
  have K1 := Lib.hid k1
  clear h1 k1 C1
  go_wp2_with fail
  go_ret
  exact ⟨_, rfl, by have := K1.out.size; omega, ⟨pl, alloc_at _ _, H1.out.kp kp_new⟩, K1.out.trans kp_new⟩
/-! ### a Desk on which nothing is -/
theorem client_c (d : Nat) (c : Nat) (hc : c < 4) (w : World) : Calls Tryz.prog 64 #[.pointer (some ⟨d, 0, none⟩), .int .i64 (c : Nat)] w fun e w' => e = .returned (.bool true) ∧ w' = w := by
  have hc1 : (c : Int) < 4 := by omega
  go_enter Tryz.func64, Tryz.ntmps64
  go_wp2_with fail
  go_ret
  exact ⟨by simp; try omega, rfl⟩
theorem DeskE.call {w : World} {d n : Nat} (h : DeskE w d n) (c : Nat) (hc : c < 4) : w.cell? ⟨d, 1 + c, none⟩ = some (.pointer none) := by
  obtain ⟨pl, h1, _⟩ := h.ex
  rw [cell_of h1]
  have : c = 0 ∨ c = 1 ∨ c = 2 ∨ c = 3 := by omega
  rcases this with rfl | rfl | rfl | rfl <;> rfl
theorem waits_c {w : World} {d n : Nat} (h : DeskE w d n) (c : Nat) (hc : c < 4) : Calls Tryz.prog 33 #[.pointer (some ⟨d, 0, none⟩), .int .i64 (c : Nat)] w fun e w' => e = .returned (.bool false) ∧ w' = w := by
  have C1 := Lib.hid (client_c d c hc w)
  have d0 := h.call c hc
  clear h
  go_enter Tryz.func33, Tryz.ntmps33
  go_wp2_with fail
  refine C1.out.mono ?_
  rintro e w1 ⟨rfl, rfl⟩
  go_wp2_with fail
  go_ret
  exact ⟨rfl, rfl⟩
theorem effects_c {w : World} {d n : Nat} (h : DeskE w d n) : Calls Tryz.prog 34 #[.pointer (some ⟨d, 0, none⟩)] w fun e w' => e = .returned (.slice none 0 0) ∧ w' = w := by
  have d0 : w.cell? ⟨d, 5, none⟩ = some (.slice none 0 0) := by
    obtain ⟨pl, h1, _⟩ := h.ex
    rw [cell_of h1]; rfl
  clear h
  go_enter Tryz.func34, Tryz.ntmps34
  go_wp2_with fail
  go_loopw [3, 13] (fun l i wr => l = .slice none 0 0 ∧ i = .int .i64 0 ∧ wr = w) (fun _ _ _ => 0)
  case atStart => exact ⟨rfl, rfl, rfl⟩
  case round =>
    obtain ⟨rfl, rfl, rfl⟩ := hrel
    go_wp2_with fail
    go_ret
    exact ⟨rfl, rfl⟩
theorem plan_c {w : World} {d pl : Nat} (h : w.cell? ⟨d, 0, none⟩ = some (.pointer (some ⟨pl, 0, none⟩))) : Calls Tryz.prog 69 #[.pointer (some ⟨d, 0, none⟩)] w fun e w' => e = .returned (.pointer (some ⟨pl, 0, none⟩)) ∧ w' = w := by
  go_enter Tryz.func69, Tryz.ntmps69
  go_wp2_with fail
  go_ret
  exact ⟨rfl, rfl⟩
theorem pused_c {w : World} {pl n : Nat} (h : PlanE w pl n) : Calls Tryz.prog 25 #[.pointer (some ⟨pl, 0, none⟩)] w fun e w' => e = .returned (.int .i64 0) ∧ w' = w := by
  obtain ⟨pu, sh, ms, ml, h1, h2, h3⟩ := h.ex
  have d0 : w.cell? ⟨pl, 0, none⟩ = some (.pointer (some ⟨pu, 0, none⟩)) := by rw [cell_of h1.hp]; rfl
  have C1 := Lib.hid (used_c h2 (fun c _ => by omega))
  clear h h1 h2 h3
  go_enter Tryz.func25, Tryz.ntmps25
  go_wp2_with fail
  refine C1.out.mono ?_
  rintro e w1 ⟨rfl, rfl⟩
  go_wp2_with fail
  go_ret
  exact ⟨rfl, rfl⟩
theorem dused_c {w : World} {d n : Nat} (h : DeskE w d n) : Calls Tryz.prog 35 #[.pointer (some ⟨d, 0, none⟩)] w fun e w' => e = .returned (.int .i64 0) ∧ w' = w := by
  obtain ⟨pl, h1, h2⟩ := h.ex
  have C1 := Lib.hid (plan_c (w := w) (d := d) (pl := pl) (by rw [cell_of h1]; rfl))
  have C2 := Lib.hid (pused_c h2)
  clear h h1 h2
  go_enter Tryz.func35, Tryz.ntmps35
  go_wp2_with fail
  refine C1.out.mono ?_
  rintro e w1 ⟨rfl, rfl⟩
  go_wp2_with fail
  refine C2.out.mono ?_
  rintro e w1 ⟨rfl, rfl⟩
  go_wp2_with fail
  go_ret
  exact ⟨rfl, rfl⟩
theorem results_cell_tt {fn : Func} {p u s : Tmp} {ty : TypeId} (h : fn.results = #[.cell p ty, .tmp u, .tmp s]) (tmps : Array Value) (P : Program) (w : World) :
    (results fn tmps).run P w = ((asAddr (tmps.getD p undef)).run P w).andThen fun a w₁ => ((loadVar ty a).run P w₁).andThen fun v w₂ => .ok (.tuple #[v, tmps.getD u undef, tmps.getD s undef]) w₂ := by
  simp only [results, h]
  simp [Sem.run_bind, Result.andThen]
/-- What a step of nobody's call gives. -/
def StepPost (k : Int) (w : World) (e : Ending) (w' : World) : Prop := e = .returned (.tuple #[.agg #[.int .i64 0, .int .i64 0, .slice none 0 0], .bool false, .int .i64 k]) ∧ Kp (fun _ => False) w w'
set_option maxRecDepth 100000 in
set_option maxHeartbeats 1000000 in
theorem dstep_c {w : World} {d n : Nat} (h : DeskE w d n) (c : Nat) (hc : c < 4) : Calls Tryz.prog 31 #[.pointer (some ⟨d, 0, none⟩), .int .i64 (c : Nat)] w (StepPost 8 w) := by
  obtain ⟨W, hW⟩ : ∃ W, W = w.alloc (.cells #[.int .i64 0, .int .i64 0, .slice none 0 0] 52) := ⟨_, rfl⟩
  have hk : Kp (fun _ => False) w W := by rw [hW]; exact kp_new
  have hWh : W.heap[w.heap.size]? = some (.cells #[.int .i64 0, .int .i64 0, .slice none 0 0] 52 (0, 0)) := by rw [hW]; exact alloc_at _ _
  have C1 := Lib.hid (client_c d c hc W)
  have d0 := (h.kp hk).call c hc
  clear h
  go_enter Tryz.func31, Tryz.ntmps31
  go_wp2_with fail
  rw [← hW]
  have HW := Lib.hid hW
  have HK := Lib.hid hk
  have f0 : ∀ i, W.frozen? ⟨w.heap.size, i, none⟩ = false := free_of hWh
  have e0 : W.cell? ⟨w.heap.size, 0, none⟩ = some (.int .i64 0) := by rw [cell_of hWh]; rfl
  have e1 : W.cell? ⟨w.heap.size, 1, none⟩ = some (.int .i64 0) := by rw [cell_of hWh]; rfl
  have e2 : W.cell? ⟨w.heap.size, 2, none⟩ = some (.slice none 0 0) := by rw [cell_of hWh]; rfl
  clear hW hk
  refine C1.out.mono ?_
  rintro e w1 ⟨rfl, rfl⟩
  go_wp2_with fail
  have h6 := setCell_at (i := 2) (setCell_at (i := 1) (setCell_at (i := 0) hWh (.int .i64 0)) (.int .i64 0)) (.slice none 0 0)
  have k6 : Kp (fun _ => False) w (((w1.setCell ⟨w.heap.size, 0, none⟩ (.int .i64 0)).setCell ⟨w.heap.size, 1, none⟩ (.int .i64 0)).setCell ⟨w.heap.size, 2, none⟩ (.slice none 0 0)) :=
    ((HK.out.setCell (p := ⟨w.heap.size, 0, none⟩) (fun q => by simp only at q; omega) _).setCell (p := ⟨w.heap.size, 1, none⟩) (fun q => by simp only at q; omega) _).setCell (p := ⟨w.heap.size, 2, none⟩) (fun q => by simp only at q; omega) _
  generalize ((w1.setCell ⟨w.heap.size, 0, none⟩ (.int .i64 0)).setCell ⟨w.heap.size, 1, none⟩ (.int .i64 0)).setCell ⟨w.heap.size, 2, none⟩ (.slice none 0 0) = w6 at h6 k6 ⊢
  have y0 : w6.cell? ⟨w.heap.size, 0, none⟩ = some (.int .i64 0) := by rw [cell_of h6]; rfl
  have y1 : w6.cell? ⟨w.heap.size, 1, none⟩ = some (.int .i64 0) := by rw [cell_of h6]; rfl
  have y2 : w6.cell? ⟨w.heap.size, 2, none⟩ = some (.slice none 0 0) := by rw [cell_of h6]; rfl
  have K6 := Lib.hid k6
  clear e0 e1 e2 f0 hWh h6 k6
  refine bodyPost_ret (v := .tuple #[.agg #[.int .i64 0, .int .i64 0, .slice none 0 0], .bool false, .int .i64 8]) ?_ rfl ⟨rfl, K6.out⟩
  rw [results_cell_tt rfl]
  simp [go_sem, y0, y1, y2]
end Go.Proofs.YthbmfhnkhkhcmaaGreat.No
