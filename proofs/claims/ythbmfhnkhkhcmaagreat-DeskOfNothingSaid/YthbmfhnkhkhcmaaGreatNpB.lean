/- A Plan: Do where there is no session; Take. -/
import Derived.Test.YthbmfhnkhkhcmaaGreatNpA
namespace Go.Proofs.YthbmfhnkhkhcmaaGreat.No
open Go Go.RowKit Go.ChangeMaps Go.MapKept Go.Mg Go.Sort

/-- What a stored answer leaves. -/
theorem ans_set {V : World} {r : Nat} {t : TypeId} (h : V.heap[r]? = some (.cells #[.int .i64 0, .int .i64 0, .slice none 0 0] t (0, 0))) (x y : Int) (z : Value) :
    (((V.setCell ⟨r, 0, none⟩ (.int .i64 x)).setCell ⟨r, 1, none⟩ (.int .i64 y)).setCell ⟨r, 2, none⟩ z).heap[r]? = some (.cells #[.int .i64 x, .int .i64 y, z] t (0, 0)) := by
  have := setCell_at (i := 2) (setCell_at (i := 1) (setCell_at (i := 0) h (.int .i64 x)) (.int .i64 y)) z
  simpa using this
theorem ans_kp {w V : World} {r : Nat} (hk : Kp (fun _ => False) w V) (hr : w.heap.size ≤ r) (x y z : Value) : Kp (fun _ => False) w (((V.setCell ⟨r, 0, none⟩ x).setCell ⟨r, 1, none⟩ y).setCell ⟨r, 2, none⟩ z) :=
  ((hk.setCell (p := ⟨r, 0, none⟩) (fun q => by simp only at q; omega) x).setCell (p := ⟨r, 1, none⟩) (fun q => by simp only at q; omega) y).setCell (p := ⟨r, 2, none⟩) (fun q => by simp only at q; omega) z
set_option maxRecDepth 100000 in
set_option maxHeartbeats 2000000 in
theorem do_nil12 (w : World) (c k : Int) (nm : ByteArray) (lv hd : Int) (d : Value) :
    Calls Tryz.prog 24 #[.pointer none, .int .i64 c, callAgg k nm lv hd d] w (AnsPost 1 0 w) := by
  unfold callAgg
  go_enter Tryz.func24, Tryz.ntmps24
  go_wp2_with fail
  have hr := alloc_at (w.alloc (.cells #[.int .i64 k, .string nm, .int .i64 lv, .int .i64 hd, d] 24)) (.cells #[.int .i64 1, .int .i64 0, .slice none 0 0] 52)
  rw [World.size_alloc] at hr
  have y0 := cell_of hr 0
  have y1 := cell_of hr 1
  have y2 := cell_of hr 2
  refine bodyPost_ret (v := .agg #[.int .i64 1, .int .i64 0, .slice none 0 0]) ?_ rfl ⟨rfl, kp_new.trans kp_new⟩
  rw [results_cell1 rfl]
  simp [go_sem, y0, y1, y2]
set_option maxRecDepth 100000 in
set_option maxHeartbeats 2000000 in
theorem do_none {w : World} {pl n : Nat} (h : PlanE w pl n) (c : Nat) (hc : c < 4) (k : Int) (hk : k = 2 ∨ k = 3) (nm : ByteArray) (lv hd : Int) (d : Value) :
    Calls Tryz.prog 24 #[.pointer (some ⟨pl, 0, none⟩), .int .i64 (c : Nat), callAgg k nm lv hd d] w (AnsPost 7 0 w) := by
  obtain ⟨W, hW⟩ : ∃ W, W = (w.alloc (.cells #[.int .i64 k, .string nm, .int .i64 lv, .int .i64 hd, d] 24)).alloc (.cells #[.int .i64 0, .int .i64 0, .slice none 0 0] 52) := ⟨_, rfl⟩
  have hkW : Kp (fun _ => False) w W := by rw [hW]; exact kp_new.trans kp_new
  have hb : W.heap[w.heap.size]? = some (.cells #[.int .i64 k, .string nm, .int .i64 lv, .int .i64 hd, d] 24 (0, 0)) := by rw [hW]; exact kp_new.at_ (alloc_at w _) (fun q => q)
  have hr : W.heap[w.heap.size + 1]? = some (.cells #[.int .i64 0, .int .i64 0, .slice none 0 0] 52 (0, 0)) := by
    rw [hW]
    have := alloc_at (w.alloc (.cells #[.int .i64 k, .string nm, .int .i64 lv, .int .i64 hd, d] 24)) (.cells #[.int .i64 0, .int .i64 0, .slice none 0 0] 52)
    rwa [World.size_alloc] at this
  have d0 : W.cell? ⟨w.heap.size, 0, none⟩ = some (.int .i64 k) := by rw [cell_of hb]; rfl
  have d1 : W.cell? ⟨w.heap.size, 1, none⟩ = some (.string nm) := by rw [cell_of hb]; rfl
  have d2 : W.cell? ⟨w.heap.size, 2, none⟩ = some (.int .i64 lv) := by rw [cell_of hb]; rfl
  have d3 : W.cell? ⟨w.heap.size, 3, none⟩ = some (.int .i64 hd) := by rw [cell_of hb]; rfl
  have d4 : W.cell? ⟨w.heap.size, 4, none⟩ = some d := by rw [cell_of hb]; rfl
  have C1 := Lib.hid (session_none (h.kp hkW) (c : Int) k nm lv hd d)
  have HR := Lib.hid hr
  have HK := Lib.hid hkW
  have hc4 : (c : Int) < 4 := by omega
  have hc0 : ¬ (c : Int) < 0 := by omega
  clear h hb hr hkW
  unfold callAgg at *
  rcases hk with rfl | rfl
  all_goals
    go_enter Tryz.func24, Tryz.ntmps24
    go_wp2_with fail
    rw [← hW]
    clear hW
    go_wp2_with fail
    refine C1.out.mono ?_
    rintro e V ⟨rfl, kV⟩
    have hVa := kV.at_ HR.out (fun q => q)
    have f0 : ∀ i, V.frozen? ⟨w.heap.size + 1, i, none⟩ = false := free_of hVa
    have c0 : V.cell? ⟨w.heap.size + 1, 0, none⟩ = some (.int .i64 0) := by rw [cell_of hVa]; rfl
    have c1 : V.cell? ⟨w.heap.size + 1, 1, none⟩ = some (.int .i64 0) := by rw [cell_of hVa]; rfl
    have c2 : V.cell? ⟨w.heap.size + 1, 2, none⟩ = some (.slice none 0 0) := by rw [cell_of hVa]; rfl
    have H6 := Lib.hid (ans_set hVa 7 0 (.slice none 0 0))
    have K6 := Lib.hid (ans_kp (HK.out.trans kV) (Nat.le_succ _) (.int .i64 7) (.int .i64 0) (.slice none 0 0))
    clear kV hVa C1 d0 d1 d2 d3 d4
    go_wp2_with fail
    have y0 := cell_of H6.out 0
    have y1 := cell_of H6.out 1
    have y2 := cell_of H6.out 2
    refine bodyPost_ret (v := .agg #[.int .i64 7, .int .i64 0, .slice none 0 0]) ?_ rfl ⟨rfl, K6.out⟩
    rw [results_cell1 rfl]
    simp [go_sem, y0, y1, y2]
theorem is2_c (p : Nat) (c k : Nat) (hc : c < 4) (_ : k ≤ 1000000) (w : World) : Calls Tryz.prog 94 #[.pointer (some ⟨p, 0, none⟩), .int .i64 (c : Nat), .int .i64 (k : Nat)] w fun e w' => e = .returned (.bool true) ∧ w' = w := by
  have hc1 : (c : Int) < 4 := by omega
  go_enter Tryz.func94, Tryz.ntmps94
  go_wp2_with fail
  go_ret
  exact ⟨by simp; try omega, rfl⟩
def TakePost (p n m : Nat) (w : World) (e : Ending) (w' : World) : Prop := e = .returned (.bool true) ∧ PurseAt w' p n m (fun i => if i = 0 then 2500 else 0) ∧ Kp (· = p) w w'
set_option maxRecDepth 100000 in
set_option maxHeartbeats 2000000 in
theorem take_c {w : World} {p n : Nat} (h : PurseAt w p n n (fun _ => 0)) (h0 : 2500 ≤ n) (h1 : n ≤ 1000000) : Calls Tryz.prog 87 #[.pointer (some ⟨p, 0, none⟩), .int .i64 0, .int .i64 2500] w (TakePost p n n w) := by
  have mixed : Tryz.prog.follows .mixedOrders = true := by kernel_rfl
  have hg : ∀ m os, PurseAt (grow (w.drewN m) os) p n n (fun _ => 0) := fun m os => h.kp (kp_grow w m os) (fun q => q)
  have C1 : Hid (∀ m os, Calls Tryz.prog 94 #[.pointer (some ⟨p, 0, none⟩), .int .i64 0, .int .i64 2500] (grow (w.drewN m) os) fun e w' => e = .returned (.bool true) ∧ ∃ q os', w' = grow ((grow (w.drewN m) os).drewN q) os') := Lib.hid (fun m os => grown_same (is2_c p 0 2500 (by omega) (by omega) _))
  have C2 : Hid (∀ m os, Calls Tryz.prog 61 #[.pointer (some ⟨p, 0, none⟩)] (grow (w.drewN m) os) fun e w' => e = .returned (.int .i64 0) ∧ ∃ q os', w' = grow ((grow (w.drewN m) os).drewN q) os') := Lib.hid (fun m os => grown_same (used_c (hg m os) (fun c _ => by omega)))
  have d0 : ∀ m os, (grow (w.drewN m) os).cell? ⟨p, 0, none⟩ = some (.int .i64 (n : Nat)) := fun m os => by rw [cell_of (hg m os)]; rfl
  have d1 : ∀ m os, (grow (w.drewN m) os).cell? ⟨p, 1, none⟩ = some (.int .i64 (n : Nat)) := fun m os => by rw [cell_of (hg m os)]; rfl
  have d2 : ∀ m os, (grow (w.drewN m) os).cell? ⟨p, 2, none⟩ = some (.int .i64 0) := fun m os => by rw [cell_of (hg m os)]; rfl
  have HG := Lib.hid hg
  have hn1 : decide ((n : Int) < 2500) = false := decide_eq_false (by omega)
  have hn2 : ¬ (n : Int) < 2500 := by omega
  have hwn : IntKind.i64.wrap (n : Int) = (n : Int) := by rw [IntKind.wrap_i64]; omega
  clear h hg
  go_enter Tryz.func87, Tryz.ntmps87
  go_wp2_with fail
  refine WQ.region mixed (by kernel_rfl) ?_
  repeat (refine WQ.step (fun K hK => ?_); go_simp; first | (refine hK _ ?_; clear hK K) | (apply Exists.intro; refine ⟨fun _ => ?_, hK _ ?_⟩; (first | (go_at_call 94; apply Calls.grown_of; with_reducible exact C1.out _ _) | (go_at_call 61; apply Calls.grown_of; with_reducible exact C2.out _ _)); clear hK K))
  refine WQ.nil ?_
  intro _ hw'
  obtain ⟨⟨nq, osq⟩, hw''⟩ := hw'
  subst hw''
  have hP := HG.out nq osq
  have HK := Lib.hid (kp_grow w nq osq)
  generalize grow (w.drewN nq) osq = V at hP HK
  have e2 : V.cell? ⟨p, 2, none⟩ = some (.int .i64 0) := by rw [cell_of hP]; rfl
  have f2 : V.frozen? ⟨p, 2, none⟩ = false := free_of hP 2
  have HS : Hid (PurseAt (V.setCell ⟨p, 2, none⟩ (.int .i64 2500)) p n n (fun i => if i = 0 then 2500 else 0)) := Lib.hid (by
    have := setCell_at (i := 2) hP (.int .i64 2500)
    unfold PurseAt
    rw [this]
    rfl)
  clear hP d0 d1 d2 C1 C2
  go_wp2_with fail
  go_region_law (fail)
  all_goals
    go_wp2_with fail
    go_ret
    exact ⟨rfl, HS.out, ((HK.out.mono (fun _ _ q => q.elim) : Kp (· = p) w V).setCell (p := ⟨p, 2, none⟩) (fun _ => rfl) _).drew⟩
end Go.Proofs.YthbmfhnkhkhcmaaGreat.No
