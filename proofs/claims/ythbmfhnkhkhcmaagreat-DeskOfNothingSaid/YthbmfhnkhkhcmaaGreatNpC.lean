/- A Plan: a session that is opened. -/
import Derived.Test.YthbmfhnkhkhcmaaGreatNpB
namespace Go.Proofs.YthbmfhnkhkhcmaaGreat.No
open Go Go.RowKit Go.ChangeMaps Go.MapKept Go.Mg Go.Sort

/-- A Plan with one session. -/
structure PlanOne (w : World) (pl : Nat) (n : Nat) : Prop where
  ex : ∃ pu sh ms ml v, PlanAt w pl pu sh ms ml 1 ∧ PurseAt w pu n n (fun i => if i = 0 then 2500 else 0) ∧ MapAt (κ := Int) (ε := Value) w (.int .i64) (Value.int .i64) id ms [(1, v)]
/-- A new Plan, made since B. -/
structure PlanEB (B : Nat) (w : World) (pl : Nat) (n : Nat) : Prop where
  ex : ∃ pu sh ms ml, B ≤ pu ∧ B ≤ ms ∧ B ≤ pl ∧ PlanAt w pl pu sh ms ml 0 ∧ PurseAt w pu n n (fun _ => 0) ∧ w.heap[ms]? = some (.map #[] 0)
theorem PlanEB.e {B : Nat} {w : World} {pl n : Nat} (h : PlanEB B w pl n) : PlanE w pl n := by
  obtain ⟨pu, sh, ms, ml, _, _, _, h⟩ := h.ex
  exact ⟨pu, sh, ms, ml, h⟩
theorem PlanEB.kp {B : Nat} {w w' : World} {pl n : Nat} (h : PlanEB B w pl n) (hk : Kp (fun _ => False) w w') : PlanEB B w' pl n := by
  obtain ⟨pu, sh, ms, ml, b1, b2, b3, h1, h2, h3⟩ := h.ex
  exact ⟨pu, sh, ms, ml, b1, b2, b3, h1.kp hk (fun q => q), h2.kp hk (fun q => q), hk.at_ h3 (fun q => q)⟩
set_option maxHeartbeats 1000000 in
theorem plan_newB (n : Nat) (hn : n ≤ 1000000) (w : World) : Calls Tryz.prog 48 #[.int .i64 (n : Nat), .int .i64 (n : Nat)] w (NewPost (fun w' p => PlanEB w.heap.size w' p n) w) := by
  have C1 := Lib.hid (purse_new n n hn hn w)
  have hmm := @run_makeMap Tryz.prog
  go_enter Tryz.func48, Tryz.ntmps48
  go_wp2_with fail
  refine C1.out.mono ?_
  rintro e w1 ⟨rfl, h1, k1⟩
  have H1 := Lib.hid h1
  have K1 := Lib.hid k1
  clear h1 k1 C1
  go_wp2_with fail
  refine (shelf_new w1).mono ?_
  rintro e w2 ⟨⟨sh, rfl⟩, k2⟩
  have K2 := Lib.hid k2
  clear k2
  go_wp2_with fail
  go_ret
  have s1 := K1.out.size
  have s2 := K2.out.size
  refine ⟨_, rfl, ?_, ⟨w.heap.size, sh, w2.heap.size, w2.heap.size + 1, Nat.le_refl _, by omega, ?_, ⟨?_⟩, ((H1.out.kp K2.out (fun q => q)).kp ((kp_new.trans kp_new).trans kp_new) (fun q => q)), ?_⟩, ((K1.out.trans K2.out).trans ((kp_new.trans kp_new).trans kp_new))⟩
  · first | omega | (simp; omega)
  · first | omega | (simp; omega)
  · have := alloc_at ((w2.alloc (.map #[] 0)).alloc (.map #[] 0)) (.cells #[.pointer (some ⟨w.heap.size, 0, none⟩), .pointer (some ⟨sh, 0, none⟩), .map (some w2.heap.size), .map (some (w2.heap.size + 1)), .int .i64 0] 96)
    simpa using this
  · exact ((kp_new.trans kp_new) : Kp (fun _ => False) (w2.alloc (.map #[] 0)) _).at_ (alloc_at_map w2) (fun q => q)
def OpenPost (pu ms pl n : Nat) (w : World) (e : Ending) (w' : World) : Prop := e = .returned (.agg #[.int .i64 0, .int .i64 1, .slice none 0 0]) ∧ PlanOne w' pl n ∧ Kp (fun k => k = pu ∨ k = pl ∨ k = ms) w w'
set_option maxRecDepth 100000 in
set_option maxHeartbeats 4000000 in
theorem open_c12 {w : World} {pl pu sh ms ml n : Nat} (p1 : PlanAt w pl pu sh ms ml 0) (p2 : PurseAt w pu n n (fun _ => 0)) (p3 : w.heap[ms]? = some (.map #[] 0)) (h0 : 2500 ≤ n) (h1 : n ≤ 1000000) :
    Calls Tryz.prog 57 #[.pointer (some ⟨pl, 0, none⟩), .int .i64 0, callAgg 1 .empty 1 0 (.slice none 0 0)] w (OpenPost pu ms pl n w) := by
  obtain ⟨W, hW⟩ : ∃ W, W = (w.alloc (.cells #[.int .i64 1, .string .empty, .int .i64 1, .int .i64 0, .slice none 0 0] 24)).alloc (.cells #[.int .i64 0, .int .i64 0, .slice none 0 0] 52) := ⟨_, rfl⟩
  have hkW : Kp (fun _ => False) w W := by rw [hW]; exact kp_new.trans kp_new
  have hb : W.heap[w.heap.size]? = some (.cells #[.int .i64 1, .string .empty, .int .i64 1, .int .i64 0, .slice none 0 0] 24 (0, 0)) := by rw [hW]; exact kp_new.at_ (alloc_at w _) (fun q => q)
  have hr : W.heap[w.heap.size + 1]? = some (.cells #[.int .i64 0, .int .i64 0, .slice none 0 0] 52 (0, 0)) := by
    rw [hW]
    have := alloc_at (w.alloc (.cells #[.int .i64 1, .string .empty, .int .i64 1, .int .i64 0, .slice none 0 0] 24)) (.cells #[.int .i64 0, .int .i64 0, .slice none 0 0] 52)
    rwa [World.size_alloc] at this
  have lpl := lt_of_at p1.hp
  have lpu := lt_of_at p2
  have lms := lt_of_at p3
  have npu : pl ≠ pu := by
    intro e
    subst e
    have := p1.hp.symm.trans p2
    simp at this
  have nms : pl ≠ ms := by
    intro e
    subst e
    have := p1.hp.symm.trans p3
    simp at this
  have nmp : pu ≠ ms := by
    intro e
    subst e
    have := p2.symm.trans p3
    simp at this
  have q1 := p1.kp hkW (fun q => q)
  have q2 := p2.kp hkW (fun q => q)
  have q3 := hkW.at_ p3 (fun q => q)
  have d1 : W.cell? ⟨w.heap.size, 1, none⟩ = some (.string .empty) := by rw [cell_of hb]; rfl
  have d2 : W.cell? ⟨w.heap.size, 2, none⟩ = some (.int .i64 1) := by rw [cell_of hb]; rfl
  have e0 : W.cell? ⟨pl, 0, none⟩ = some (.pointer (some ⟨pu, 0, none⟩)) := by rw [cell_of q1.hp]; rfl
  have C1 := Lib.hid (take_c q2 h0 h1)
  have HR := Lib.hid hr
  have HB := Lib.hid hb
  have HK := Lib.hid hkW
  have Q1 := Lib.hid q1
  have Q3 := Lib.hid q3
  have P1 := Lib.hid p1
  clear hb hr hkW p1 p2 p3 q1 q2 q3
  have e0w := e0
  rw [hW] at e0w
  unfold callAgg
  go_enter Tryz.func57, Tryz.ntmps57
  go_wp2_with fail
  rw [← hW]
  clear hW e0w
  refine C1.out.mono ?_
  rintro e V ⟨rfl, t1, t2⟩
  have T1 := Lib.hid t1
  have T2 := Lib.hid t2
  have hQ1 := Q1.out.kp t2 npu
  have u4 : V.cell? ⟨pl, 4, none⟩ = some (.int .i64 0) := by rw [cell_of hQ1.hp]; rfl
  have uf : V.frozen? ⟨pl, 4, none⟩ = false := free_of hQ1.hp 4
  have hV2 : Hid (PlanAt (V.setCell ⟨pl, 4, none⟩ (.int .i64 1)) pl pu sh ms ml 1) := Lib.hid ⟨by
    have := setCell_at (i := 4) hQ1.hp (.int .i64 1)
    rw [this]
    rfl⟩
  have kV2 : Hid (Kp (· = pl) V (V.setCell ⟨pl, 4, none⟩ (.int .i64 1))) := Lib.hid ((Kp.refl (· = pl) V).setCell (p := ⟨pl, 4, none⟩) (fun _ => rfl) _)
  clear t1 t2 hQ1 C1 d1 d2 e0
  go_wp2_with fail
  generalize V.setCell ⟨pl, 4, none⟩ (.int .i64 1) = X at hV2 kV2 ⊢
  have kX : Kp (fun k => k = pu ∨ k = pl) W X := (T2.out.mono (fun _ _ q => .inl q)).trans (kV2.out.mono (fun _ _ q => .inr q))
  have KX := Lib.hid kX
  have x2 : X.cell? ⟨pl, 2, none⟩ = some (.map (some ms)) := by rw [cell_of hV2.out.hp]; rfl
  have x4 : X.cell? ⟨pl, 4, none⟩ = some (.int .i64 1) := by rw [cell_of hV2.out.hp]; rfl
  have xb : X.cell? ⟨w.heap.size, 2, none⟩ = some (.int .i64 1) := by rw [cell_of (kX.at_ HB.out (fun q => by rcases q with q | q <;> omega))]; rfl
  have lb : w.heap.size < X.heap.size := World.block_lt_of_cell? X _ xb
  have lp : pl < X.heap.size := World.block_lt_of_cell? X _ x2
  have HM : Hid (X.heap[ms]? = some (.map #[] 0)) := Lib.hid (kX.at_ Q3.out (fun q => by rcases q with q | q <;> omega))
  have SN := Lib.hid (fun V => stream_new V 0 none 0 0 1 ⟨by simp, none, 0, rfl, Nat.le_refl _, by unfold maxLen; omega, fun _ => rfl, fun h => absurd h (by omega)⟩ (by decide) (by decide) (by decide) (by decide))
  clear kX
  go_region_law ((go_simp; go_at_call 16; refine (SN.out _).mono ?_; rintro e Y ⟨st, rfl, _, _, kY⟩; have KY : Hid (Kp (fun _ => False) X Y) := Lib.hid ((Kp.refl _ X).drew.trans kY); obtain ⟨Z, hrun, z1, z2, z3⟩ := MapAt.store (P := Tryz.prog) (mapAt_nil (KY.out.at_ HM.out (fun q => q))) key_int Tryz.underlying93 Tryz.underlying3 (1 : Int) (.agg #[.int .i64 0, .pointer (some ⟨st, 0, none⟩), .int .i64 0]); simp only [id] at hrun; have Z1 := Lib.hid z1; have Z2 := Lib.hid z2; have y2 := (KY.out.cell (p := ⟨pl, 2, none⟩) lp (fun q => q)).trans x2; have y4 := (KY.out.cell (p := ⟨pl, 4, none⟩) lp (fun q => q)).trans x4; have yb := (KY.out.cell (p := ⟨w.heap.size, 2, none⟩) lb (fun q => q)).trans xb; clear kY z1 z2 z3))
  all_goals
    have hZ1 : PlanAt Z pl pu sh ms ml 1 := (hV2.out.kp KY.out (fun q => q)).kp Z2.out nms
    have hZ2 : PurseAt Z pu n n (fun i => if i = 0 then 2500 else 0) := ((T1.out.kp kV2.out (fun q => npu q.symm)).kp KY.out (fun q => q)).kp Z2.out nmp
    have v4 : Z.cell? ⟨pl, 4, none⟩ = some (.int .i64 1) := by rw [cell_of hZ1.hp]; rfl
    have hra := Z2.out.at_ (KY.out.at_ (KX.out.at_ HR.out (fun q => by rcases q with q | q <;> omega)) (fun q => q)) (fun q => by omega)
    have f0 : ∀ i, Z.frozen? ⟨w.heap.size + 1, i, none⟩ = false := free_of hra
    have c0 : Z.cell? ⟨w.heap.size + 1, 0, none⟩ = some (.int .i64 0) := by rw [cell_of hra]; rfl
    have c1 : Z.cell? ⟨w.heap.size + 1, 1, none⟩ = some (.int .i64 0) := by rw [cell_of hra]; rfl
    have c2 : Z.cell? ⟨w.heap.size + 1, 2, none⟩ = some (.slice none 0 0) := by rw [cell_of hra]; rfl
    have H6 := Lib.hid (ans_set hra 0 1 (.slice none 0 0))
    have kz : Kp (fun k => k = pu ∨ k = pl ∨ k = ms) w Z := (((HK.out.mono (fun _ _ q => q.elim)).trans (KX.out.mono (fun k _ q => by omega))).trans (KY.out.mono (fun _ _ q => q.elim))).trans (Z2.out.mono (fun k _ q => by omega))
    have K6 := Lib.hid (((kz.setCell (p := ⟨w.heap.size + 1, 0, none⟩) (fun q => by simp only at q; omega) (.int .i64 0)).setCell (p := ⟨w.heap.size + 1, 1, none⟩) (fun q => by simp only at q; omega) (.int .i64 1)).setCell (p := ⟨w.heap.size + 1, 2, none⟩) (fun q => by simp only at q; omega) (.slice none 0 0))
    have kr : Kp (· = w.heap.size + 1) Z (((Z.setCell ⟨w.heap.size + 1, 0, none⟩ (.int .i64 0)).setCell ⟨w.heap.size + 1, 1, none⟩ (.int .i64 1)).setCell ⟨w.heap.size + 1, 2, none⟩ (.slice none 0 0)) := (((Kp.refl (· = w.heap.size + 1) Z).setCell (p := ⟨w.heap.size + 1, 0, none⟩) (fun _ => rfl) _).setCell (p := ⟨w.heap.size + 1, 1, none⟩) (fun _ => rfl) _).setCell (p := ⟨w.heap.size + 1, 2, none⟩) (fun _ => rfl) _
    have one : Hid (PlanOne (((Z.setCell ⟨w.heap.size + 1, 0, none⟩ (.int .i64 0)).setCell ⟨w.heap.size + 1, 1, none⟩ (.int .i64 1)).setCell ⟨w.heap.size + 1, 2, none⟩ (.slice none 0 0)) pl n) := Lib.hid ⟨pu, sh, ms, ml, _, hZ1.kp kr (fun q => by omega), hZ2.kp kr (fun q => by omega), Z1.out.kp kr (fun q => by omega)⟩
    clear hZ1 hZ2 hra kz kr hrun y2 y4 yb x2 x4 xb SN
    go_wp2_with fail
    have y0 := cell_of H6.out 0
    have y1 := cell_of H6.out 1
    have y2 := cell_of H6.out 2
    refine bodyPost_ret (v := .agg #[.int .i64 0, .int .i64 1, .slice none 0 0]) ?_ rfl ⟨rfl, one.out, K6.out⟩
    rw [results_cell1 rfl]
    simp [go_sem, y0, y1, y2]
end Go.Proofs.YthbmfhnkhkhcmaaGreat.No
