/- A Desk whose client 1 has a call that goes on. -/
import Derived.Test.YthbmfhnkhkhcmaaGreatNdB
import Derived.Deep.DeepCutAuto
namespace Go.Proofs.YthbmfhnkhkhcmaaGreat.No
open Go Go.RowKit Go.ChangeMaps Go.MapKept Go.Mg Go.Sort

theorem PlanE.kpT {F : Nat → Prop} {w w' : World} {pl n : Nat} (h : PlanE w pl n) (hk : Kp F w w') (hF : ∀ k, F k → ∃ cs t fr, w.heap[k]? = some (.cells cs t fr) ∧ t ≠ 96 ∧ t ≠ 133) : PlanE w' pl n := by
  obtain ⟨pu, sh, ms, ml, h1, h2, h3⟩ := h.ex
  refine ⟨pu, sh, ms, ml, h1.kp hk (fun q => ?_), h2.kp hk (fun q => ?_), hk.at_ h3 (fun q => ?_)⟩
  · obtain ⟨cs, t, fr, e, t1, t2⟩ := hF _ q
    rw [h1.hp] at e
    simp only [Option.some.injEq, Obj.cells.injEq] at e
    exact t1 e.2.1.symm
  · obtain ⟨cs, t, fr, e, t1, t2⟩ := hF _ q
    unfold PurseAt at h2
    rw [h2] at e
    simp only [Option.some.injEq, Obj.cells.injEq] at e
    exact t2 e.2.1.symm
  · obtain ⟨cs, t, fr, e, t1, t2⟩ := hF _ q
    rw [h3] at e
    cases e
def goingCells (at_ : Int) : Array Value := #[.int .i64 3, .string ⟨#[]⟩, .int .i64 0, .int .i64 5, .slice none 0 0, .int .i64 at_, .slice none 0 0]
def deskG (pl g : Nat) (eff : Value) : Array Value := #[.pointer (some ⟨pl, 0, none⟩), .pointer none, .pointer (some ⟨g, 0, none⟩), .pointer none, .pointer none, eff]
structure DeskG (w : World) (d g n : Nat) (at_ : Int) (eff : Value) : Prop where
  ex : ∃ pl, w.heap[d]? = some (.cells (deskG pl g eff) 100 (0, 0)) ∧ w.heap[g]? = some (.cells (goingCells at_) 102 (0, 0)) ∧ PlanE w pl n
theorem DeskG.kp {w w' : World} {d g n : Nat} {at_ : Int} {eff : Value} (h : DeskG w d g n at_ eff) (hk : Kp (fun _ => False) w w') : DeskG w' d g n at_ eff := by
  obtain ⟨pl, h1, h2, h3⟩ := h.ex
  exact ⟨pl, hk.at_ h1 (fun q => q), hk.at_ h2 (fun q => q), h3.kp hk⟩
theorem DeskG.ne {w : World} {d g n : Nat} {at_ : Int} {eff : Value} (h : DeskG w d g n at_ eff) : d ≠ g := by
  obtain ⟨pl, h1, h2, h3⟩ := h.ex
  intro e
  subst e
  rw [h1] at h2
  simp [deskG, goingCells] at h2
def Inv1Post (d n : Nat) (w : World) (e : Ending) (w' : World) : Prop := ∃ g, e = .returned (.int .i64 0) ∧ w.heap.size ≤ g ∧ DeskG w' d g n (-1) (.slice none 0 0) ∧ Kp (· = d) w w'
set_option maxRecDepth 100000 in
set_option maxHeartbeats 4000000 in
theorem invoke1 {w : World} {d n : Nat} (h : DeskE w d n) : Calls Tryz.prog 32 #[.pointer (some ⟨d, 0, none⟩), .int .i64 1, callAgg 3 ⟨#[]⟩ 0 5 (.slice none 0 0)] w (Inv1Post d n w) := by
  obtain ⟨W, hW⟩ : ∃ W, W = w.alloc (.cells #[.int .i64 3, .string ⟨#[]⟩, .int .i64 0, .int .i64 5, .slice none 0 0] 24) := ⟨_, rfl⟩
  have hk : Kp (fun _ => False) w W := by rw [hW]; exact kp_new
  have hb : W.heap[w.heap.size]? = some (.cells #[.int .i64 3, .string ⟨#[]⟩, .int .i64 0, .int .i64 5, .slice none 0 0] 24 (0, 0)) := by rw [hW]; exact alloc_at _ _
  have C1 : Hid (Calls Tryz.prog 64 #[.pointer (some ⟨d, 0, none⟩), .int .i64 1] W fun e w' => e = .returned (.bool true) ∧ w' = W) := Lib.hid (client_c d 1 (by omega) W)
  have d0 : W.cell? ⟨d, 2, none⟩ = some (.pointer none) := (h.kp hk).call 1 (by omega)
  have C2 := Lib.hid (fun V => dcopied_c V 3 ⟨#[]⟩ 0 5)
  obtain ⟨pl, q1, q2⟩ := h.ex
  have lt := lt_of_at q1
  have Q1 := Lib.hid (hk.at_ q1 (fun q => q))
  have Q2 := Lib.hid (q2.kp hk)
  have HK := Lib.hid hk
  have c0 : W.cell? ⟨w.heap.size, 0, none⟩ = some (.int .i64 3) := by rw [cell_of hb]; rfl
  have c1 : W.cell? ⟨w.heap.size, 1, none⟩ = some (.string ⟨#[]⟩) := by rw [cell_of hb]; rfl
  have c2 : W.cell? ⟨w.heap.size, 2, none⟩ = some (.int .i64 0) := by rw [cell_of hb]; rfl
  have c3 : W.cell? ⟨w.heap.size, 3, none⟩ = some (.int .i64 5) := by rw [cell_of hb]; rfl
  have c4 : W.cell? ⟨w.heap.size, 4, none⟩ = some (.slice none 0 0) := by rw [cell_of hb]; rfl
  clear h hk hb q1 q2
  unfold callAgg at *
  go_enter Tryz.func32, Tryz.ntmps32
  go_wp2_with fail
  rw [← hW]
  clear hW
  refine C1.out.mono ?_
  rintro e w1 ⟨rfl, rfl⟩
  go_wp2_with fail
  go_region_law ((go_simp; go_at_call 68; refine (C2.out _).mono ?_; rintro e Y ⟨rfl, kY⟩; have KY : Hid (Kp (fun _ => False) w1 Y) := Lib.hid ((Kp.refl _ w1).drew.trans kY); have kN := KY.out.alloc (.cells (goingCells (-1)) 102); have hN := kN.at_ Q1.out (fun q => q); have hG := alloc_at Y (.cells (goingCells (-1)) 102); have HN := Lib.hid hN; have HG := Lib.hid hG; have KN := Lib.hid kN; unfold goingCells at hN; have b2 := (cell_of hN 2); have bf := free_of hN 2; simp only [deskCells, List.getElem?_toArray, List.getElem?_cons_succ, List.getElem?_cons_zero] at b2; clear kY kN hN hG))
  all_goals
    go_wp2_with fail
    go_ret
    have kd : Kp (· = d) (Y.alloc (.cells (goingCells (-1)) 102)) ((Y.alloc (.cells (goingCells (-1)) 102)).setCell ⟨d, 2, none⟩ (.pointer (some ⟨Y.heap.size, 0, none⟩))) := (Kp.refl (· = d) _).setCell (p := ⟨d, 2, none⟩) (fun _ => rfl) _
    have hYs := KY.out.size
    have hks := HK.out.size
    refine ⟨Y.heap.size, rfl, by omega, ⟨pl, ?_, kd.at_ HG.out (fun q => by omega), (Q2.out.kp KN.out).kpT kd (fun k hk => by subst hk; exact ⟨_, _, _, HN.out, by decide, by decide⟩)⟩, ((HK.out.trans KN.out).mono (fun _ _ q => q.elim)).trans kd⟩
    have := setCell_at (i := 2) HN.out (.pointer (some ⟨Y.heap.size, 0, none⟩))
    exact this
theorem infoD : (Tryz.prog.info? 68).map (fun i => (i.zero, i.size, i.bytes)) = some (some (.agg #[.int .i64 0, .int .i64 0, .string ⟨#[]⟩, .int .i64 0, .int .i64 0, .slice none 0 0, .int .i64 0, .int .i64 0, .slice none 0 0]), 9, 112) := by kernel_rfl
def doneL : List Value := [.int .i64 1, .int .i64 3, .string ⟨#[]⟩, .int .i64 0, .int .i64 5, .slice none 0 0, .int .i64 7, .int .i64 0, .slice none 0 0]
theorem done_one : ∀ u ∈ doneL, u.oneCell' = true := by
  intro u hu
  simp only [doneL, List.mem_cons, List.not_mem_nil, or_false] at hu
  rcases hu with rfl | rfl | rfl | rfl | rfl | rfl | rfl | rfl | rfl <;> rfl
theorem lit_done (w : World) : SlR (w.alloc (.cells doneL.toArray 68)) 9 (.slice (some ⟨w.heap.size, 0, none⟩) 1 1) 1 doneL := by
  refine ⟨rfl, _, _, rfl, Nat.le_refl _, by unfold maxLen; omega, (fun h => by cases h), fun _ => ⟨w.heap.size, 0, rfl, by simp, fun i u hu => ?_⟩⟩
  rw [Nat.zero_add, cell_of (alloc_at w _)]
  simpa using hu
/-- Its one effect. -/
structure EffOne (B : Nat) (w : World) (eff : Value) : Prop where
  ex : ∃ a c, eff = .slice a 1 c ∧ SlR w 9 eff 1 doneL ∧ ∀ b, eff.ownBlock = some b → B ≤ b
theorem EffOne.kp {B : Nat} {F : Nat → Prop} {w w' : World} {eff : Value} (h : EffOne B w eff) (hk : Kp F w w') (hF : ∀ k, F k → k < B) : EffOne B w' eff := by
  obtain ⟨a, c, rfl, h1, h2⟩ := h.ex
  exact ⟨a, c, rfl, h1.kp hk (fun b hb q => by have := h2 b hb; have := hF b q; omega), h2⟩
theorem EffOne.cells {B : Nat} {w : World} {eff : Value} (h : EffOne B w eff) : ∃ g off c, eff = .slice (some ⟨g, off, none⟩) 1 c ∧ B ≤ g ∧ 1 ≤ c ∧ g < w.heap.size ∧ ∀ i u, doneL[i]? = some u → w.cell? ⟨g, off + i, none⟩ = some u := by
  obtain ⟨a, c, rfl, ⟨_, a', c', e, h1, _, _, hc⟩, h2⟩ := h.ex
  simp only [Value.slice.injEq, true_and] at e
  obtain ⟨rfl, rfl⟩ := e
  obtain ⟨g, off, rfl, hg, hcc⟩ := hc (by omega)
  exact ⟨g, off, c, rfl, h2 g rfl, h1, hg, hcc⟩
/-- An answer that no session was found, in a block made since W. -/
def AnsAt (W : World) (s : Value) (wx : World) : Prop := ∃ r, s = .pointer (some ⟨r, 0, none⟩) ∧ wx.heap[r]? = some (.cells #[.int .i64 7, .int .i64 0, .slice none 0 0] 52 (0, 0)) ∧ W.heap.size ≤ r ∧ Kp (fun _ => False) W wx
theorem AnsAt.after {W Y : World} (h : Kp (fun _ => False) W Y) : AnsAt W (.pointer (some ⟨Y.heap.size, 0, none⟩)) (Y.alloc (.cells #[.int .i64 7, .int .i64 0, .slice none 0 0] 52)) := ⟨_, rfl, alloc_at _ _, h.size, h.alloc _⟩
theorem AnsAt.before {W Y : World} (h : Kp (fun _ => False) W Y) (hz : Y.heap[W.heap.size]? = some (.cells #[.int .i64 0, .int .i64 0, .slice none 0 0] 52 (0, 0))) :
    AnsAt W (.pointer (some ⟨W.heap.size, 0, none⟩)) (((Y.setCell ⟨W.heap.size, 0, none⟩ (.int .i64 7)).setCell ⟨W.heap.size, 1, none⟩ (.int .i64 0)).setCell ⟨W.heap.size, 2, none⟩ (.slice none 0 0)) := ⟨_, rfl, ans_set hz 7 0 (.slice none 0 0), Nat.le_refl _, ans_kp h (Nat.le_refl _) _ _ _⟩
def BegPost (d g n : Nat) (w : World) (e : Ending) (w' : World) : Prop := ∃ eff, e = .returned (.tuple #[]) ∧ DeskG w' d g n 0 eff ∧ EffOne w.heap.size w' eff ∧ Kp (fun k => k = d ∨ k = g) w w'
set_option maxRecDepth 100000 in
set_option maxHeartbeats 4000000 in
theorem begins_c {w : World} {d g n : Nat} (h : DeskG w d g n (-1) (.slice none 0 0)) : Calls Tryz.prog 65 #[.pointer (some ⟨d, 0, none⟩), .int .i64 1, .pointer (some ⟨g, 0, none⟩)] w (BegPost d g n w) := by
  obtain ⟨pl, h1, h2, h3⟩ := h.ex
  have hdg := h.ne
  obtain ⟨W, hW⟩ : ∃ W, W = w.alloc (.cells #[.int .i64 3, .string ⟨#[]⟩, .int .i64 0, .int .i64 5, .slice none 0 0] 24) := ⟨_, rfl⟩
  have hk : Kp (fun _ => False) w W := by rw [hW]; exact kp_new
  have hb : W.heap[w.heap.size]? = some (.cells #[.int .i64 3, .string ⟨#[]⟩, .int .i64 0, .int .i64 5, .slice none 0 0] 24 (0, 0)) := by rw [hW]; exact alloc_at _ _
  have a0 : w.cell? ⟨g, 0, none⟩ = some (.int .i64 3) := by rw [cell_of h2]; rfl
  have a1 : w.cell? ⟨g, 1, none⟩ = some (.string ⟨#[]⟩) := by rw [cell_of h2]; rfl
  have a2 : w.cell? ⟨g, 2, none⟩ = some (.int .i64 0) := by rw [cell_of h2]; rfl
  have a3 : w.cell? ⟨g, 3, none⟩ = some (.int .i64 5) := by rw [cell_of h2]; rfl
  have a4 : w.cell? ⟨g, 4, none⟩ = some (.slice none 0 0) := by rw [cell_of h2]; rfl
  have lg := lt_of_at h2
  have ld := lt_of_at h1
  have H1 := Lib.hid (hk.at_ h1 (fun q => q))
  have H2 := Lib.hid (hk.at_ h2 (fun q => q))
  have H3 := Lib.hid (h3.kp hk)
  have HK := Lib.hid hk
  have HB := Lib.hid hb
  clear h h1 h2 h3 hk hb
  go_enter Tryz.func65, Tryz.ntmps65
  go_wp2_with fail
  rw [← hW]
  clear hW
  have d0 : W.cell? ⟨d, 0, none⟩ = some (.pointer (some ⟨pl, 0, none⟩)) := by rw [cell_of H1.out]; rfl
  have b0 : W.cell? ⟨w.heap.size, 0, none⟩ = some (.int .i64 3) := by rw [cell_of HB.out]; rfl
  have b1 : W.cell? ⟨w.heap.size, 1, none⟩ = some (.string ⟨#[]⟩) := by rw [cell_of HB.out]; rfl
  have b2 : W.cell? ⟨w.heap.size, 2, none⟩ = some (.int .i64 0) := by rw [cell_of HB.out]; rfl
  have b3 : W.cell? ⟨w.heap.size, 3, none⟩ = some (.int .i64 5) := by rw [cell_of HB.out]; rfl
  have b4 : W.cell? ⟨w.heap.size, 4, none⟩ = some (.slice none 0 0) := by rw [cell_of HB.out]; rfl
  have DN : Hid (∀ V, Kp (fun _ => False) W V → Calls Tryz.prog 24 #[.pointer (some ⟨pl, 0, none⟩), .int .i64 1, .agg #[.int .i64 3, .string ⟨#[]⟩, .int .i64 0, .int .i64 5, .slice none 0 0]] V (AnsPost 7 0 V)) := Lib.hid (fun V hv => do_none (H3.out.kp hv) 1 (by omega) 3 (.inr rfl) ⟨#[]⟩ 0 5 (.slice none 0 0))
  have LD := lt_of_at H1.out
  have LB := lt_of_at HB.out
  clear a0 a1 a2 a3 a4
  go_cut [7] (fun s7 wx => AnsAt W s7 wx)
  case first =>
    go_region_held3 (fun w' => w'.cell? ⟨d, 0, none⟩ = some (.pointer (some ⟨pl, 0, none⟩)) ∧ w'.cell? ⟨w.heap.size, 0, none⟩ = some (.int .i64 3) ∧ w'.cell? ⟨w.heap.size, 1, none⟩ = some (.string ⟨#[]⟩) ∧ w'.cell? ⟨w.heap.size, 2, none⟩ = some (.int .i64 0) ∧ w'.cell? ⟨w.heap.size, 3, none⟩ = some (.int .i64 5) ∧ w'.cell? ⟨w.heap.size, 4, none⟩ = some (.slice none 0 0)) (go_keep) ((first
      | (go_simp; go_at_call 24; apply Calls.mono; (with_reducible exact DN.out _ ((Kp.refl _ W).drew)); rintro e Y ⟨rfl, kY⟩; have KY : Hid (Kp (fun _ => False) W Y) := Lib.hid ((Kp.refl _ W).drew.trans kY); have s0 := (KY.out.cell (p := ⟨d, 0, none⟩) LD (fun q => q)).trans d0; have s1 := (KY.out.cell (p := ⟨w.heap.size, 0, none⟩) LB (fun q => q)).trans b0; have s2 := (KY.out.cell (p := ⟨w.heap.size, 1, none⟩) LB (fun q => q)).trans b1; have s3 := (KY.out.cell (p := ⟨w.heap.size, 2, none⟩) LB (fun q => q)).trans b2; have s4 := (KY.out.cell (p := ⟨w.heap.size, 3, none⟩) LB (fun q => q)).trans b3; have s5 := (KY.out.cell (p := ⟨w.heap.size, 4, none⟩) LB (fun q => q)).trans b4; clear kY)
      | (go_simp; go_at_call 24; apply Calls.mono; (with_reducible exact DN.out _ (((Kp.refl _ W).alloc _).drew)); rintro e Y ⟨rfl, kY⟩; have hz := kY.at_ (b := W.heap.size) (alloc_at W (.cells #[.int .i64 0, .int .i64 0, .slice none 0 0] 52)) (fun q => q); have KY : Hid (Kp (fun _ => False) W Y) := Lib.hid (((Kp.refl _ W).alloc _).drew.trans kY); have s0 := (KY.out.cell (p := ⟨d, 0, none⟩) LD (fun q => q)).trans d0; have s1 := (KY.out.cell (p := ⟨w.heap.size, 0, none⟩) LB (fun q => q)).trans b0; have s2 := (KY.out.cell (p := ⟨w.heap.size, 1, none⟩) LB (fun q => q)).trans b1; have s3 := (KY.out.cell (p := ⟨w.heap.size, 2, none⟩) LB (fun q => q)).trans b2; have s4 := (KY.out.cell (p := ⟨w.heap.size, 3, none⟩) LB (fun q => q)).trans b3; have s5 := (KY.out.cell (p := ⟨w.heap.size, 4, none⟩) LB (fun q => q)).trans b4; have z0 := cell_of hz 0; have z1 := cell_of hz 1; have z2 := cell_of hz 2; have zf := free_of hz; simp only [List.getElem?_toArray, List.getElem?_cons_succ, List.getElem?_cons_zero] at z0 z1 z2; have k3 := ans_kp KY.out (Nat.le_refl _) (.int .i64 7) (.int .i64 0) (.slice none 0 0); have t0 := (k3.cell (p := ⟨d, 0, none⟩) LD (fun q => q)).trans d0; have t1 := (k3.cell (p := ⟨w.heap.size, 0, none⟩) LB (fun q => q)).trans b0; have t2 := (k3.cell (p := ⟨w.heap.size, 1, none⟩) LB (fun q => q)).trans b1; have t3 := (k3.cell (p := ⟨w.heap.size, 2, none⟩) LB (fun q => q)).trans b2; have t4 := (k3.cell (p := ⟨w.heap.size, 3, none⟩) LB (fun q => q)).trans b3; have t5 := (k3.cell (p := ⟨w.heap.size, 4, none⟩) LB (fun q => q)).trans b4; have HZ := Lib.hid hz; clear kY hz k3)))
    all_goals (go_wp2_with fail; go_meet; first | exact AnsAt.after KY.out | exact AnsAt.before KY.out HZ.out)
  case rest =>
    obtain ⟨r, rfl, hr, hrW, hkc⟩ := hcut
    have hc6 := hkc.at_ HB.out (fun q => q)
    have hg6 := hkc.at_ H2.out (fun q => q)
    have hd6 := hkc.at_ H1.out (fun q => q)
    have c60 : wc.cell? ⟨w.heap.size, 0, none⟩ = some (.int .i64 3) := by rw [cell_of hc6]; rfl
    have d5 : wc.cell? ⟨d, 5, none⟩ = some (.slice none 0 0) := by rw [cell_of hd6]; rfl
    have g5 : wc.cell? ⟨g, 5, none⟩ = some (.int .i64 (-1)) := by rw [cell_of hg6]; rfl
    have gf : wc.frozen? ⟨g, 5, none⟩ = false := free_of hg6 5
    have kg : Kp (· = g) wc (wc.setCell ⟨g, 5, none⟩ (.int .i64 0)) := (Kp.refl (· = g) wc).setCell (p := ⟨g, 5, none⟩) (fun _ => rfl) _
    have HG7 : Hid ((wc.setCell ⟨g, 5, none⟩ (.int .i64 0)).heap[g]? = some (.cells (goingCells 0) 102 (0, 0))) := Lib.hid (by
      have := setCell_at (i := 5) hg6 (.int .i64 0)
      exact this)
    have HD7 := Lib.hid (kg.at_ hd6 hdg)
    have HR7 := Lib.hid (kg.at_ hr (fun q => by omega))
    have KC := Lib.hid hkc
    have KG := Lib.hid kg
    have HP7 : Hid (PlanE (wc.setCell ⟨g, 5, none⟩ (.int .i64 0)) pl n) := Lib.hid ((H3.out.kp hkc).kpT kg (fun k hk => by subst hk; exact ⟨_, _, _, hg6, by decide, by decide⟩))
    clear hr hkc hc6 hg6 hd6 kg DN d0 b0 b1 b2 b3 b4
    go_wp2_with fail
    generalize wc.setCell ⟨g, 5, none⟩ (.int .i64 0) = X at HG7 HD7 HR7 KG HP7 ⊢
    clear c60 d5 g5 gf
    obtain ⟨i0, hi0, hz0, hz1, hz2⟩ := info_parts infoD
    have x5 : X.cell? ⟨d, 5, none⟩ = some (.slice none 0 0) := by rw [cell_of HD7.out]; rfl
    have xg0 : X.cell? ⟨g, 0, none⟩ = some (.int .i64 3) := by rw [cell_of HG7.out]; rfl
    have xg1 : X.cell? ⟨g, 1, none⟩ = some (.string ⟨#[]⟩) := by rw [cell_of HG7.out]; rfl
    have xg2 : X.cell? ⟨g, 2, none⟩ = some (.int .i64 0) := by rw [cell_of HG7.out]; rfl
    have xg3 : X.cell? ⟨g, 3, none⟩ = some (.int .i64 5) := by rw [cell_of HG7.out]; rfl
    have xg4 : X.cell? ⟨g, 4, none⟩ = some (.slice none 0 0) := by rw [cell_of HG7.out]; rfl
    have xr0 : X.cell? ⟨r, 0, none⟩ = some (.int .i64 7) := by rw [cell_of HR7.out]; rfl
    have xr1 : X.cell? ⟨r, 1, none⟩ = some (.int .i64 0) := by rw [cell_of HR7.out]; rfl
    have xr2 : X.cell? ⟨r, 2, none⟩ = some (.slice none 0 0) := by rw [cell_of HR7.out]; rfl
    have hXA : Kp (fun _ => False) X (X.alloc (.cells doneL.toArray 68)) := kp_new
    have xa5 : (X.alloc (.cells #[.int .i64 1, .int .i64 3, .string ⟨#[]⟩, .int .i64 0, .int .i64 5, .slice none 0 0, .int .i64 7, .int .i64 0, .slice none 0 0] 68)).cell? ⟨d, 5, none⟩ = some (.slice none 0 0) := (hXA.cell (p := ⟨d, 5, none⟩) (lt_of_at HD7.out) (fun q => q)).trans x5
    have T := Lib.hid (lit_done X.drew)
    have HXA := Lib.hid hXA
    clear hXA
    go_region_law (first
      | (refine step_app _ rfl (.tmp 59) (.tmp 67) 32 rfl 68 i0 _ 9 112 Tryz.underlying32 hi0 hz0 hz1 hz2 rfl (by decide) (by decide) (.slice none 0 0) 0 [] (by simp [Act.eval]) (OwnR.nil _ _ _) (.slice (some ⟨X.heap.size, 0, none⟩) 1 1) 1 _ (by simp [Act.eval]) T.out done_one (by omega) ?_; intro v' w3 g1 g2 g3 g4 g5; rw [Nat.zero_add, List.nil_append] at g1; obtain ⟨b1, c1, rfl⟩ := g1.form; have K3 : Hid (Kp (fun _ => False) X w3) := Lib.hid ((HXA.out.drew).trans (g2.mono (fun _ _ q => by cases q))); have G1 := Lib.hid g1; have G3 : Hid (∀ b, (Value.slice b1 1 c1).ownBlock = some b → w.heap.size ≤ b) := Lib.hid (fun b hb => by
          rcases g3 with q | q
          · rw [q] at hb; cases hb
          · rw [hb] at q; simp at q; have := KC.out.size; have := KG.out.size; have := HK.out.size; omega); have hd3 := K3.out.at_ HD7.out (fun q => q); have HD3 := Lib.hid hd3; unfold deskG at hd3; have e5 := cell_of hd3 5; have f5 := free_of hd3 5; simp only [List.getElem?_toArray, List.getElem?_cons_succ, List.getElem?_cons_zero] at e5; clear g1 g2 g3 g4 g5 hd3))
    all_goals
      go_end0
      have kf : Kp (· = d) w3 (w3.setCell ⟨d, 5, none⟩ (.slice b1 1 c1)) := (Kp.refl (· = d) w3).setCell (p := ⟨d, 5, none⟩) (fun _ => rfl) _
      have hKC := KC.out.size
      have hKG := KG.out.size
      have hHK := HK.out.size
      have h3s := K3.out.size
      refine ⟨.slice b1 1 c1, rfl, ⟨pl, ?_, kf.at_ (K3.out.at_ HG7.out (fun q => q)) (fun q => hdg q.symm), (HP7.out.kp K3.out).kpT kf (fun k hk => by subst hk; exact ⟨_, _, _, HD3.out, by decide, by decide⟩)⟩, ⟨b1, c1, rfl, G1.out.sl.kp kf (fun b hb q => by have := G3.out b hb; omega), G3.out⟩, ?_⟩
      · have := setCell_at (i := 5) HD3.out (.slice b1 1 c1)
        exact this
      · refine ((((HK.out.trans KC.out).mono (fun _ _ q => q.elim)).trans2 KG.out (fun i _ q => .inr q)).trans (K3.out.mono (fun _ _ q => q.elim))).trans2 kf (fun i _ q => .inl q)
end Go.Proofs.YthbmfhnkhkhcmaaGreat.No
