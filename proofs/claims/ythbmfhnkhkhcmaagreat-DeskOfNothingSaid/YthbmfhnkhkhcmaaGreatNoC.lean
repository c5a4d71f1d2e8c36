/- A Shop on which nothing is; a nil Shop. -/
import Derived.Test.YthbmfhnkhkhcmaaGreatNoB
import Derived.Test.YthbmfhnkhkhcmaaGreatNoD
import Derived.Deep.RegionHeld3
namespace Go.Proofs.YthbmfhnkhkhcmaaGreat.No
open Go Go.RowKit Go.ChangeMaps Go.MapKept Go.Mg

theorem ShopE.cell {w : World} {s n : Nat} (h : ShopE w s n) (i : Nat) (v : Value) (hv : i ≠ 2 → (shopCells n 0)[i]? = some v) (h2 : i ≠ 2) : w.cell? ⟨s, i, none⟩ = some v := by
  obtain ⟨d, h1, _⟩ := h.ex
  rw [cell_of h1, ← hv h2]
  unfold shopCells
  rcases i with _ | _ | _ | i
  · rfl
  · rfl
  · exact (h2 rfl).elim
  · simp
theorem ShopE.desk {w : World} {s n : Nat} (h : ShopE w s n) : ∃ d, w.cell? ⟨s, 2, none⟩ = some (.pointer (some ⟨d, 0, none⟩)) ∧ DeskE w d n := by
  obtain ⟨d, h1, h2⟩ := h.ex
  exact ⟨d, by rw [cell_of h1]; rfl, h2⟩
def IntPost (k : Int) (w : World) (e : Ending) (w' : World) : Prop := e = .returned (.int .i64 k) ∧ Kp (fun _ => False) w w'
set_option maxRecDepth 100000 in
set_option maxHeartbeats 1000000 in
theorem sstep_c {w : World} {s n : Nat} (h : ShopE w s n) (c : Nat) (hc : c < 4) : Calls Tryz.prog 39 #[.pointer (some ⟨s, 0, none⟩), .int .i64 (c : Nat)] w (IntPost 8 w) := by
  obtain ⟨d, d0, hd⟩ := h.desk
  have C1 := Lib.hid (dstep_c hd c hc)
  clear h hd
  go_enter Tryz.func39, Tryz.ntmps39
  go_wp2_with fail
  refine C1.out.mono ?_
  rintro e w1 ⟨rfl, k1⟩
  have K1 := Lib.hid k1
  clear k1 C1
  go_wp2_with fail
  go_ret
  exact ⟨rfl, K1.out.trans kp_new⟩
def actAgg (p : Bool) (c k : Int) (nm : ByteArray) (lv hd : Int) (d : Value) : Value := .agg #[.bool p, .int .i64 c, .int .i64 k, .string nm, .int .i64 lv, .int .i64 hd, d]
set_option maxRecDepth 100000 in
set_option maxHeartbeats 1000000 in
theorem do_pick {w : World} {s n : Nat} (h : ShopE w s n) : Calls Tryz.prog 9 #[.pointer (some ⟨s, 0, none⟩), actAgg true 0 0 .empty 0 0 (.slice none 0 0)] w (IntPost 8 w) := by
  obtain ⟨W, hW⟩ : ∃ W, W = w.alloc (.cells #[.bool true, .int .i64 0, .int .i64 0, .string .empty, .int .i64 0, .int .i64 0, .slice none 0 0] 26) := ⟨_, rfl⟩
  have hk : Kp (fun _ => False) w W := by rw [hW]; exact kp_new
  have hWh : W.heap[w.heap.size]? = some (.cells #[.bool true, .int .i64 0, .int .i64 0, .string .empty, .int .i64 0, .int .i64 0, .slice none 0 0] 26 (0, 0)) := by rw [hW]; exact alloc_at _ _
  have e0 : W.cell? ⟨w.heap.size, 0, none⟩ = some (.bool true) := by rw [cell_of hWh]; rfl
  have e1 : W.cell? ⟨w.heap.size, 1, none⟩ = some (.int .i64 0) := by rw [cell_of hWh]; rfl
  have C1 := Lib.hid (sstep_c (h.kp hk) 0 (by omega))
  have HK := Lib.hid hk
  clear h hk hWh
  unfold actAgg
  go_enter Tryz.func9, Tryz.ntmps9
  go_wp2_with fail
  rw [← hW]
  clear hW
  go_wp2_with fail
  refine C1.out.mono ?_
  rintro e w1 ⟨rfl, k1⟩
  have K1 := Lib.hid (HK.out.trans k1)
  clear k1 C1
  go_wp2_with fail
  go_ret
  exact ⟨rfl, K1.out⟩
set_option maxRecDepth 100000 in
theorem do_nil (w : World) (p : Bool) (c k : Int) (nm : ByteArray) (lv hd : Int) (d : Value) : Calls Tryz.prog 9 #[.pointer none, actAgg p c k nm lv hd d] w (IntPost 1 w) := by
  unfold actAgg
  go_enter Tryz.func9, Tryz.ntmps9
  go_wp2_with fail
  go_ret
  exact ⟨rfl, kp_new⟩
theorem ret_nil (w : World) : Calls Tryz.prog 10 #[.pointer none] w fun e w' => e = .returned (.slice none 0 0) ∧ w' = w := by
  go_enter Tryz.func10, Tryz.ntmps10
  go_wp2_with fail
  go_ret
  exact ⟨rfl, rfl⟩
theorem ret_c {w : World} {s n : Nat} (h : ShopE w s n) : Calls Tryz.prog 10 #[.pointer (some ⟨s, 0, none⟩)] w fun e w' => e = .returned (.slice none 0 0) ∧ w' = w := by
  have d0 := h.cell 3 (.slice none 0 0) (fun _ => rfl) (by decide)
  clear h
  go_enter Tryz.func10, Tryz.ntmps10
  go_wp2_with fail
  go_loopw [3, 13] (fun l i wr => l = .slice none 0 0 ∧ i = .int .i64 0 ∧ wr = w) (fun _ _ _ => 0)
  case atStart => exact ⟨rfl, rfl, rfl⟩
  case round =>
    obtain ⟨rfl, rfl, rfl⟩ := hrel
    go_wp2_with fail
    go_ret
    exact ⟨rfl, rfl⟩
theorem out_nil (w : World) (k : Int) : Calls Tryz.prog 11 #[.pointer none, .int .i64 k] w fun e w' => e = .returned (.slice none 0 0) ∧ w' = w := by
  have C1 := Lib.hid (ret_nil w)
  go_enter Tryz.func11, Tryz.ntmps11
  go_wp2_with fail
  refine C1.out.mono ?_
  rintro e w1 ⟨rfl, rfl⟩
  go_wp2_with fail
  go_loopw [5, 12] (fun l i wr => l = .slice none 0 0 ∧ i = .int .i64 0 ∧ wr = w1) (fun _ _ _ => 0)
  case atStart => exact ⟨rfl, rfl, rfl⟩
  case round =>
    obtain ⟨rfl, rfl, rfl⟩ := hrel
    go_wp2_with fail
    go_ret
    exact ⟨rfl, rfl⟩
theorem legal_nil (w : World) : Calls Tryz.prog 13 #[.pointer none] w fun e w' => e = .returned (.bool true) ∧ w' = w := by
  go_enter Tryz.func13, Tryz.ntmps13
  go_wp2_with fail
  go_ret
  exact ⟨rfl, rfl⟩
theorem desk_nil (w : World) : Calls Tryz.prog 14 #[.pointer none] w fun e w' => e = .returned (.pointer none) ∧ w' = w := by
  go_enter Tryz.func14, Tryz.ntmps14
  go_wp2_with fail
  go_ret
  exact ⟨rfl, rfl⟩
theorem rest_nil (w : World) : Calls Tryz.prog 12 #[.pointer none] w fun e w' => e = .returned (.int .i64 0) ∧ w' = w := by
  go_enter Tryz.func12, Tryz.ntmps12
  go_wp2_with fail
  go_ret
  exact ⟨rfl, rfl⟩
theorem desk_c {w : World} {s n : Nat} (h : ShopE w s n) : Calls Tryz.prog 14 #[.pointer (some ⟨s, 0, none⟩)] w fun e w' => (∃ d, e = .returned (.pointer (some ⟨d, 0, none⟩))) ∧ w' = w := by
  obtain ⟨d, d0, hd⟩ := h.desk
  clear h hd
  go_enter Tryz.func14, Tryz.ntmps14
  go_wp2_with fail
  go_ret
  exact ⟨⟨d, rfl⟩, rfl⟩
set_option maxRecDepth 100000 in
set_option maxHeartbeats 1000000 in
theorem legal_c {w : World} {s n : Nat} (h : ShopE w s n) (hn : n ≤ 1000000) : Calls Tryz.prog 13 #[.pointer (some ⟨s, 0, none⟩)] w fun e w' => e = .returned (.bool true) ∧ Kp (fun _ => False) w w' := by
  have d0 := h.cell 0 (.int .i64 (n : Nat)) (fun _ => rfl) (by decide)
  have d1 := h.cell 1 (.int .i64 (n : Nat)) (fun _ => rfl) (by decide)
  have H := Lib.hid h
  clear h
  go_enter Tryz.func13, Tryz.ntmps13
  go_wp2_with fail
  go_region_held3 (fun w' => w'.cell? ⟨s, 0, none⟩ = some (.int .i64 (n : Nat)) ∧ w'.cell? ⟨s, 1, none⟩ = some (.int .i64 (n : Nat))) (go_keep) ((go_simp; go_at_call 48; refine (plan_new n hn _).mono ?_; rintro e w1 ⟨pl, rfl, h0, h1, k1⟩; have K1 := Lib.hid k1; have s0 := (k1.cell (p := ⟨s, 0, none⟩) (lt_of_at H.out.ex.choose_spec.1) (fun q => q)).trans d0; have s1 := (k1.cell (p := ⟨s, 1, none⟩) (lt_of_at H.out.ex.choose_spec.1) (fun q => q)).trans d1; clear h0 h1 k1))
  have KW : Hid (Kp (fun _ => False) w w1) := Lib.hid (((Kp.refl _ w).drew).trans K1.out)
  obtain ⟨d, e0, hd⟩ := (H.out.kp KW.out).desk
  have C2 := Lib.hid (effects_c hd)
  clear hd d0 d1 s0 s1
  go_wp2_with fail
  refine C2.out.mono ?_
  rintro e w2 ⟨rfl, rfl⟩
  go_wp2_with fail
  go_loopw [25] (fun i wr => i = .int .i64 0 ∧ wr = w2) (fun _ _ => 0)
  case atStart => exact ⟨rfl, rfl⟩
  case round =>
    obtain ⟨rfl, rfl⟩ := hrel
    go_wp2_with fail
    go_ret
    exact ⟨rfl, KW.out⟩
/-! ### Rest -/
theorem ends_c {w : World} {s n : Nat} (h : ShopE w s n) (c : Nat) (hc : c < 4) : Calls Tryz.prog 42 #[.pointer (some ⟨s, 0, none⟩), .int .i64 (c : Nat)] w fun e w' => e = .returned (.tuple #[]) ∧ w' = w := by
  obtain ⟨d, d0, hd⟩ := h.desk
  have C1 := Lib.hid (waits_c hd c hc)
  clear h hd
  go_enter Tryz.func42, Tryz.ntmps42
  go_wp2_with fail
  go_loopw [] (fun wr => wr = w) (fun _ => 0)
  case atStart => rfl
  case round =>
    obtain rfl := hrel
    go_wp2_with fail
    refine C1.out.mono ?_
    rintro e w1 ⟨rfl, rfl⟩
    go_wp2_with fail
    go_end0
    exact ⟨rfl, rfl⟩
theorem open_c {w : World} {s n : Nat} (h : ShopE w s n) : Calls Tryz.prog 43 #[.pointer (some ⟨s, 0, none⟩)] w fun e w' => e = .returned (.map (some w.heap.size)) ∧ w' = w.alloc (.map #[] 0) := by
  have hmm := @run_makeMap Tryz.prog
  obtain ⟨d, d0, hd⟩ := (h.kp (kp_new (o := .map #[] 0))).desk
  have C1 := Lib.hid (effects_c hd)
  clear h hd
  go_enter Tryz.func43, Tryz.ntmps43
  go_wp2_with fail
  refine C1.out.mono ?_
  rintro e w1 ⟨rfl, rfl⟩
  go_wp2_with fail
  go_loopw [13] (fun i wr => i = .int .i64 0 ∧ wr = w.alloc (.map #[] 0)) (fun _ _ => 0)
  case atStart => exact ⟨rfl, rfl⟩
  case round =>
    obtain ⟨rfl, rfl⟩ := hrel
    go_wp2_with fail
    go_ret
    exact ⟨rfl, rfl⟩
theorem names_c {w : World} {s n : Nat} (h : ShopE w s n) : Calls Tryz.prog 47 #[.pointer (some ⟨s, 0, none⟩)] w fun e w' => e = .returned (.slice none 0 0) ∧ w' = w := by
  obtain ⟨d, d0, hd⟩ := h.desk
  have C1 := Lib.hid (effects_c hd)
  clear h hd
  go_enter Tryz.func47, Tryz.ntmps47
  go_wp2_with fail
  refine C1.out.mono ?_
  rintro e w1 ⟨rfl, rfl⟩
  go_wp2_with fail
  go_loopw [3, 12] (fun l i wr => l = .slice none 0 0 ∧ i = .int .i64 0 ∧ wr = w1) (fun _ _ _ => 0)
  case atStart => exact ⟨rfl, rfl, rfl⟩
  case round =>
    obtain ⟨rfl, rfl, rfl⟩ := hrel
    go_wp2_with fail
    go_ret
    exact ⟨rfl, rfl⟩
set_option maxRecDepth 100000 in
set_option maxHeartbeats 1000000 in
theorem rest_c {w : World} {s n : Nat} (h : ShopE w s n) : Calls Tryz.prog 12 #[.pointer (some ⟨s, 0, none⟩)] w (IntPost 0 w) := by
  have C1 := Lib.hid (fun c hc => ends_c h c hc)
  have C2 := Lib.hid (open_c h)
  have h3 := h.kp (kp_new (o := .map #[] 0))
  have HH := Lib.hid h
  clear h
  go_enter Tryz.func12, Tryz.ntmps12
  go_wp2_with fail
  go_loopw [11] (fun i wr => ∃ k : Nat, k ≤ 4 ∧ i = .int .i64 k ∧ wr = w) (fun i _ => 4 - (intOf i).toNat)
  case atStart => exact ⟨0, by omega, rfl, rfl⟩
  case round =>
    obtain ⟨k, hk, rfl, rfl⟩ := hrel
    by_cases hlt : k < 4
    · have hlt4 : (k : Int) < 4 := by omega
      have C4 := Lib.hid (C1.out k hlt)
      go_wp2_with fail
      refine C4.out.mono ?_
      rintro e w1 ⟨rfl, rfl⟩
      go_wp2_with fail
      exact ⟨⟨k + 1, by omega, by go_num, by first | trivial | rfl⟩, by simp [intOf]; omega⟩
    · obtain rfl : k = 4 := by omega
      clear C1
      go_wp2_with fail
      refine C2.out.mono ?_
      rintro e w1 ⟨rfl, rfl⟩
      clear h3 C2
      obtain ⟨w1, hw1⟩ : ∃ w1, w1 = wr.alloc (.map #[] 0) := ⟨_, rfl⟩
      have k1 : Kp (fun _ => False) wr w1 := by rw [hw1]; exact kp_new
      have hb1 : w1.heap[wr.heap.size]? = some (.map #[] 0) := by rw [hw1]; exact alloc_at_map wr
      rw [← hw1]
      clear hw1
      have K1 := Lib.hid k1
      generalize hb : wr.heap.size = b at hb1 ⊢
      clear hb
      go_wp2_with fail
      refine (keys_c b w1).mono ?_
      rintro e w2 ⟨rfl, hw2⟩
      have k2 : Kp (fun _ => False) w1 w2 := by rw [hw2]; exact kp_new
      have hs2 : w1.heap.size < w2.heap.size := by rw [hw2]; simp
      have hm2 : w2.cell? ⟨w1.heap.size, 0, none⟩ = some (.map (some b)) := by rw [hw2, cell_of (alloc_at w1 _)]; rfl
      have C5 := Lib.hid (sortedkeys_c w1.heap.size b w2 hs2 hm2 (k2.at_ hb1 (fun q => q)))
      have K2 := Lib.hid (K1.out.trans k2)
      clear hw2 k2 hs2 hm2 k1 hb1
      go_wp2_with fail
      refine C5.out.mono ?_
      rintro e w3 ⟨rfl, hb3⟩
      have K3 := Lib.hid (K2.out.trans (Kp.of_below hb3))
      have H3 := Lib.hid (HH.out.kp K3.out)
      clear hb3 C5
      go_wp2_with fail
      go_loopw [24] (fun i wx => i = .int .i64 0 ∧ wx = w3) (fun _ _ => 0)
      case atStart => exact ⟨rfl, rfl⟩
      case round =>
        obtain ⟨rfl, rfl⟩ := hrel
        rename_i wx
        have C6 := Lib.hid (names_c H3.out)
        go_wp2_with fail
        refine C6.out.mono ?_
        rintro e w4 ⟨rfl, rfl⟩
        go_wp2_with fail
        go_loopw [39] (fun i wy => i = .int .i64 0 ∧ wy = w4) (fun _ _ => 0)
        case atStart => exact ⟨rfl, rfl⟩
        case round =>
          obtain ⟨rfl, rfl⟩ := hrel
          obtain ⟨d, d0, hd⟩ := H3.out.desk
          have C7 := Lib.hid (dused_c hd)
          clear hd
          go_wp2_with fail
          refine C7.out.mono ?_
          rintro e w5 ⟨rfl, rfl⟩
          go_wp2_with fail
          go_ret
          exact ⟨rfl, K3.out⟩
end Go.Proofs.YthbmfhnkhkhcmaaGreat.No
