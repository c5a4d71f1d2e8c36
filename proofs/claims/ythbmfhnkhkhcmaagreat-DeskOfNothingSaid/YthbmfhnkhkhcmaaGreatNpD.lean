/- What the plan's laws know; moves that are too long; a nil Plan. -/
import Derived.Test.YthbmfhnkhkhcmaaGreatNpC
import Derived.Test.YthbmfhnkhkhcmaaGreatNoE
namespace Go.Proofs.YthbmfhnkhkhcmaaGreat.No
open Go Go.RowKit Go.ChangeMaps Go.MapKept Go.Mg Go.Sort

set_option maxRecDepth 100000 in
set_option maxHeartbeats 2000000 in
theorem do_open {w : World} {pl pu sh ms ml n : Nat} (p1 : PlanAt w pl pu sh ms ml 0) (p2 : PurseAt w pu n n (fun _ => 0)) (p3 : w.heap[ms]? = some (.map #[] 0)) (h0 : 2500 ≤ n) (h1 : n ≤ 1000000) :
    Calls Tryz.prog 24 #[.pointer (some ⟨pl, 0, none⟩), .int .i64 0, callAgg 1 .empty 1 0 (.slice none 0 0)] w (OpenPost pu ms pl n w) := by
  obtain ⟨W, hW⟩ : ∃ W, W = (w.alloc (.cells #[.int .i64 1, .string .empty, .int .i64 1, .int .i64 0, .slice none 0 0] 24)).alloc (.cells #[.int .i64 0, .int .i64 0, .slice none 0 0] 52) := ⟨_, rfl⟩
  have hkW : Kp (fun _ => False) w W := by rw [hW]; exact kp_new.trans kp_new
  have hb : W.heap[w.heap.size]? = some (.cells #[.int .i64 1, .string .empty, .int .i64 1, .int .i64 0, .slice none 0 0] 24 (0, 0)) := by rw [hW]; exact kp_new.at_ (alloc_at w _) (fun q => q)
  have hr : W.heap[w.heap.size + 1]? = some (.cells #[.int .i64 0, .int .i64 0, .slice none 0 0] 52 (0, 0)) := by
    rw [hW]
    have := alloc_at (w.alloc (.cells #[.int .i64 1, .string .empty, .int .i64 1, .int .i64 0, .slice none 0 0] 24)) (.cells #[.int .i64 0, .int .i64 0, .slice none 0 0] 52)
    rwa [World.size_alloc] at this
  have d0 : W.cell? ⟨w.heap.size, 0, none⟩ = some (.int .i64 1) := by rw [cell_of hb]; rfl
  have d1 : W.cell? ⟨w.heap.size, 1, none⟩ = some (.string .empty) := by rw [cell_of hb]; rfl
  have d2 : W.cell? ⟨w.heap.size, 2, none⟩ = some (.int .i64 1) := by rw [cell_of hb]; rfl
  have d3 : W.cell? ⟨w.heap.size, 3, none⟩ = some (.int .i64 0) := by rw [cell_of hb]; rfl
  have d4 : W.cell? ⟨w.heap.size, 4, none⟩ = some (.slice none 0 0) := by rw [cell_of hb]; rfl
  have C1 := Lib.hid (open_c12 (p1.kp hkW (fun q => q)) (p2.kp hkW (fun q => q)) (hkW.at_ p3 (fun q => q)) h0 h1)
  have lpl := lt_of_at p1.hp
  have lpu := lt_of_at p2
  have lms := lt_of_at p3
  have HR := Lib.hid hr
  have HK := Lib.hid hkW
  clear hb hr hkW p1 p2 p3
  unfold callAgg at *
  go_enter Tryz.func24, Tryz.ntmps24
  go_wp2_with fail
  rw [← hW]
  clear hW
  go_wp2_with fail
  refine C1.out.mono ?_
  rintro e V ⟨rfl, hone, kV⟩
  have hVa := kV.at_ HR.out (fun q => by omega)
  have f0 : ∀ i, V.frozen? ⟨w.heap.size + 1, i, none⟩ = false := free_of hVa
  have c0 : V.cell? ⟨w.heap.size + 1, 0, none⟩ = some (.int .i64 0) := by rw [cell_of hVa]; rfl
  have c1 : V.cell? ⟨w.heap.size + 1, 1, none⟩ = some (.int .i64 0) := by rw [cell_of hVa]; rfl
  have c2 : V.cell? ⟨w.heap.size + 1, 2, none⟩ = some (.slice none 0 0) := by rw [cell_of hVa]; rfl
  have H6 := Lib.hid (ans_set hVa 0 1 (.slice none 0 0))
  have K6 := Lib.hid (((((HK.out.mono (fun _ _ q => q.elim)).trans kV).setCell (p := ⟨w.heap.size + 1, 0, none⟩) (fun q => by simp only at q; omega) (.int .i64 0)).setCell (p := ⟨w.heap.size + 1, 1, none⟩) (fun q => by simp only at q; omega) (.int .i64 1)).setCell (p := ⟨w.heap.size + 1, 2, none⟩) (fun q => by simp only at q; omega) (.slice none 0 0))
  have kr : Kp (· = w.heap.size + 1) V (((V.setCell ⟨w.heap.size + 1, 0, none⟩ (.int .i64 0)).setCell ⟨w.heap.size + 1, 1, none⟩ (.int .i64 1)).setCell ⟨w.heap.size + 1, 2, none⟩ (.slice none 0 0)) := (((Kp.refl (· = w.heap.size + 1) V).setCell (p := ⟨w.heap.size + 1, 0, none⟩) (fun _ => rfl) _).setCell (p := ⟨w.heap.size + 1, 1, none⟩) (fun _ => rfl) _).setCell (p := ⟨w.heap.size + 1, 2, none⟩) (fun _ => rfl) _
  have ONE := Lib.hid hone
  have KR := Lib.hid kr
  have HVA := Lib.hid hVa
  clear kV hVa C1 d0 d1 d2 d3 d4 hone kr
  go_wp2_with fail
  have y0 := cell_of H6.out 0
  have y1 := cell_of H6.out 1
  have y2 := cell_of H6.out 2
  refine bodyPost_ret (v := .agg #[.int .i64 0, .int .i64 1, .slice none 0 0]) ?_ rfl ⟨rfl, ?_, K6.out⟩
  · rw [results_cell1 rfl]
    simp [go_sem, y0, y1, y2]
  · obtain ⟨pu', sh', ms', ml', v, q1, q2, q3⟩ := ONE.out.ex
    have n1 : pl ≠ w.heap.size + 1 := by omega
    have n2 : pu' ≠ w.heap.size + 1 := by
      intro e
      have := q2
      unfold PurseAt at this
      rw [e, HVA.out] at this
      simp at this
    have n3 : ms' ≠ w.heap.size + 1 := by
      intro e
      obtain ⟨es, clk, h, _⟩ := q3
      rw [e, HVA.out] at h
      cases h
    exact ⟨pu', sh', ms', ml', v, q1.kp KR.out n1, q2.kp KR.out n2, q3.kp KR.out n3⟩
theorem sumTo_one : sumTo (fun i => if i = 0 then 2500 else 0) 4 = 2500 := by decide
theorem pused_one {w : World} {pl n : Nat} (h : PlanOne w pl n) : Calls Tryz.prog 25 #[.pointer (some ⟨pl, 0, none⟩)] w fun e w' => e = .returned (.int .i64 2500) ∧ w' = w := by
  obtain ⟨pu, sh, ms, ml, v, h1, h2, h3⟩ := h.ex
  have d0 : w.cell? ⟨pl, 0, none⟩ = some (.pointer (some ⟨pu, 0, none⟩)) := by rw [cell_of h1.hp]; rfl
  have C1 : Hid (Calls Tryz.prog 61 #[.pointer (some ⟨pu, 0, none⟩)] w fun e w' => e = .returned (.int .i64 2500) ∧ w' = w) := Lib.hid (by
    have := used_c h2 (fun c _ => by split <;> omega)
    rw [sumTo_one] at this
    exact this)
  clear h h1 h2 h3
  go_enter Tryz.func25, Tryz.ntmps25
  go_wp2_with fail
  refine C1.out.mono ?_
  rintro e w1 ⟨rfl, rfl⟩
  go_wp2_with fail
  go_ret
  exact ⟨rfl, rfl⟩
theorem sessions_one {w : World} {pl n : Nat} (h : PlanOne w pl n) : Calls Tryz.prog 27 #[.pointer (some ⟨pl, 0, none⟩)] w fun e w' => e = .returned (.int .i64 1) ∧ w' = w := by
  obtain ⟨pu, sh, ms, ml, v, h1, h2, h3⟩ := h.ex
  have d0 : w.cell? ⟨pl, 2, none⟩ = some (.map (some ms)) := by rw [cell_of h1.hp]; rfl
  have hlen := fun ty => h3.len (P := Tryz.prog) Tryz.underlying93 ty
  simp only [List.length_cons, List.length_nil] at hlen
  clear h h1 h2 h3
  go_enter Tryz.func27, Tryz.ntmps27
  go_wp2_with fail
  go_ret
  exact ⟨rfl, rfl⟩
theorem pused_nil (w : World) : Calls Tryz.prog 25 #[.pointer none] w fun e w' => e = .returned (.int .i64 0) ∧ w' = w := by
  go_enter Tryz.func25, Tryz.ntmps25
  go_wp2_with fail
  go_ret
  exact ⟨rfl, rfl⟩
theorem pof_nil (w : World) (k : Int) : Calls Tryz.prog 26 #[.pointer none, .int .i64 k] w fun e w' => e = .returned (.int .i64 0) ∧ w' = w := by
  go_enter Tryz.func26, Tryz.ntmps26
  go_wp2_with fail
  go_ret
  exact ⟨rfl, rfl⟩
theorem psess_nil (w : World) : Calls Tryz.prog 27 #[.pointer none] w fun e w' => e = .returned (.int .i64 0) ∧ w' = w := by
  go_enter Tryz.func27, Tryz.ntmps27
  go_wp2_with fail
  go_ret
  exact ⟨rfl, rfl⟩
theorem prefs_nil (w : World) (k : Int) : Calls Tryz.prog 28 #[.pointer none, .int .i64 k] w fun e w' => e = .returned (.int .i64 0) ∧ w' = w := by
  go_enter Tryz.func28, Tryz.ntmps28
  go_wp2_with fail
  go_ret
  exact ⟨rfl, rfl⟩
theorem fld0 (x y : Int) (w : World) : (Instr.field 52 (.agg #[.int .i64 x, .int .i64 y, .slice none 0 0]) 0).run Tryz.prog w = .ok (.int .i64 x) w := by kernel_rfl
theorem fld1 (x y : Int) (w : World) : (Instr.field 52 (.agg #[.int .i64 x, .int .i64 y, .slice none 0 0]) 1).run Tryz.prog w = .ok (.int .i64 y) w := by kernel_rfl
set_option maxRecDepth 100000 in
set_option maxHeartbeats 2000000 in
theorem known12_c (w : World) : Calls Tryz.prog 29 #[] w fun e w' => e = .returned (.bool true) ∧ Kp (fun _ => False) w w' := by
  have C1 : Hid (Calls Tryz.prog 48 #[.int .i64 10000, .int .i64 10000] w (NewPost (fun w' p => PlanEB w.heap.size w' p 10000) w)) := Lib.hid (plan_newB 10000 (by omega) w)
  have F0 := fld0
  have F1 := fld1
  go_enter Tryz.func29, Tryz.ntmps29
  go_wp2_with fail
  refine C1.out.mono ?_
  rintro e w1 ⟨pl, rfl, _, h1, k1⟩
  have C2 : Hid (Calls Tryz.prog 24 #[.pointer (some ⟨pl, 0, none⟩), .int .i64 0, callAgg 2 .empty 0 0 (.slice none 0 0)] w1 (AnsPost 7 0 w1)) := Lib.hid (do_none h1.e 0 (by omega) 2 (.inl rfl) .empty 0 0 (.slice none 0 0))
  have H1 := Lib.hid h1
  have K1 := Lib.hid k1
  clear h1 k1 C1
  go_wp2_with fail
  refine C2.out.mono ?_
  rintro e w2 ⟨rfl, k2⟩
  obtain ⟨pu, sh, ms, ml, b1, b2, b3, p1, p2, p3⟩ := (H1.out.kp k2).ex
  have C3 := Lib.hid (do_open p1 p2 p3 (by omega) (by omega))
  have K2 := Lib.hid (K1.out.trans k2)
  clear k2 C2 p1 p2 p3
  go_wp2_with fail
  refine C3.out.mono ?_
  rintro e w3 ⟨rfl, h3, k3⟩
  have C4 := Lib.hid (pused_one h3)
  have C5 := Lib.hid (sessions_one h3)
  have K3 : Hid (Kp (fun _ => False) w w3) := Lib.hid (K2.out.trans2 k3 (fun i hi q => by omega))
  clear k3 h3 C3
  go_wp2_with fail
  refine C4.out.mono ?_
  rintro e w4 ⟨rfl, rfl⟩
  go_wp2_with fail
  refine C5.out.mono ?_
  rintro e w5 ⟨rfl, rfl⟩
  go_wp2_with fail
  go_ret
  exact ⟨rfl, K3.out⟩
set_option maxRecDepth 100000 in
set_option maxHeartbeats 1000000 in
theorem long12_c (w : World) (g : Nat) (nm : ByteArray) (da : Option Addr) (ld dc : Nat) (h1 : w.cell? ⟨g, 2, none⟩ = some (.string nm)) (h2 : w.cell? ⟨g, 5, none⟩ = some (.slice da ld dc)) (hn : nm.size ≤ maxLen) (hd : ld ≤ maxLen) :
    Calls Tryz.prog 23 #[.slice (some ⟨g, 0, none⟩) 1 1] w (BoolPost w) := by
  unfold maxLen at hn hd
  go_enter Tryz.func23, Tryz.ntmps23
  go_wp2_with fail
  go_loopw [3, 4] (fun n i wr => wr = w ∧ ((i = .int .i64 0 ∧ n = .int .i64 0) ∨ (i = .int .i64 1 ∧ n = .int .i64 (ld : Nat) ∧ ld ≤ 3200))) (fun _ i _ => 1 - (intOf i).toNat)
  case atStart => exact ⟨rfl, .inl ⟨rfl, rfl⟩⟩
  case round =>
    obtain ⟨rfl, ⟨rfl, rfl⟩ | ⟨rfl, rfl, hl⟩⟩ := hrel
    · by_cases c1 : 50 < nm.size
      · have c1' : (50 : Int) < (nm.size : Int) := by omega
        go_wp2_with fail
        go_ret
        exact ⟨_, rfl, rfl⟩
      · have c1' : ¬ (50 : Int) < (nm.size : Int) := by omega
        by_cases c2 : 3200 < ld
        · have c2' : (3200 : Int) < (ld : Int) := by omega
          go_wp2_with fail
          go_ret
          exact ⟨_, rfl, rfl⟩
        · have c2' : ¬ (3200 : Int) < (ld : Int) := by omega
          go_wp2_with fail
          exact ⟨⟨by first | trivial | rfl, .inr ⟨by go_num, by go_num, by omega⟩⟩, by simp [intOf]⟩
    · have hl' : ¬ (12000 : Int) < (ld : Int) := by omega
      go_wp2_with fail
      go_ret
      exact ⟨_, rfl, rfl⟩
end Go.Proofs.YthbmfhnkhkhcmaaGreat.No
