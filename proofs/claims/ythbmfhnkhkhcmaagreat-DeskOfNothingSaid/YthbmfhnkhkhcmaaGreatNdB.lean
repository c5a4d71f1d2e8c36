/- What a Desk tells of an effect. -/
import Derived.Test.YthbmfhnkhkhcmaaGreatNdA
namespace Go.Proofs.YthbmfhnkhkhcmaaGreat.No
open Go Go.RowKit Go.ChangeMaps Go.MapKept Go.Mg Go.Sort

theorem done_set {V : World} {r : Nat} {t : TypeId} {v0 v1 v2 v3 v4 v5 v6 v7 v8 : Value} (h : V.heap[r]? = some (.cells #[v0, v1, v2, v3, v4, v5, v6, v7, v8] t (0, 0))) (x0 x1 x2 x3 x4 x5 x6 x7 x8 : Value) :
    (((((((((V.setCell ⟨r, 0, none⟩ (x0)).setCell ⟨r, 1, none⟩ (x1)).setCell ⟨r, 2, none⟩ (x2)).setCell ⟨r, 3, none⟩ (x3)).setCell ⟨r, 4, none⟩ (x4)).setCell ⟨r, 5, none⟩ (x5)).setCell ⟨r, 6, none⟩ (x6)).setCell ⟨r, 7, none⟩ (x7)).setCell ⟨r, 8, none⟩ (x8)).heap[r]? = some (.cells #[x0, x1, x2, x3, x4, x5, x6, x7, x8] t (0, 0)) := by
  have := setCell_at (i := 8) (setCell_at (i := 7) (setCell_at (i := 6) (setCell_at (i := 5) (setCell_at (i := 4) (setCell_at (i := 3) (setCell_at (i := 2) (setCell_at (i := 1) (setCell_at (i := 0) (h) x0) x1) x2) x3) x4) x5) x6) x7) x8
  simpa using this
theorem done_kp {w V : World} {r : Nat} (hk : Kp (fun _ => False) w V) (hr : w.heap.size ≤ r) (x0 x1 x2 x3 x4 x5 x6 x7 x8 : Value) : Kp (fun _ => False) w (((((((((V.setCell ⟨r, 0, none⟩ (x0)).setCell ⟨r, 1, none⟩ (x1)).setCell ⟨r, 2, none⟩ (x2)).setCell ⟨r, 3, none⟩ (x3)).setCell ⟨r, 4, none⟩ (x4)).setCell ⟨r, 5, none⟩ (x5)).setCell ⟨r, 6, none⟩ (x6)).setCell ⟨r, 7, none⟩ (x7)).setCell ⟨r, 8, none⟩ (x8)) :=
  (((((((((hk).setCell (p := ⟨r, 0, none⟩) (fun q => by simp only at q; omega) x0).setCell (p := ⟨r, 1, none⟩) (fun q => by simp only at q; omega) x1).setCell (p := ⟨r, 2, none⟩) (fun q => by simp only at q; omega) x2).setCell (p := ⟨r, 3, none⟩) (fun q => by simp only at q; omega) x3).setCell (p := ⟨r, 4, none⟩) (fun q => by simp only at q; omega) x4).setCell (p := ⟨r, 5, none⟩) (fun q => by simp only at q; omega) x5).setCell (p := ⟨r, 6, none⟩) (fun q => by simp only at q; omega) x6).setCell (p := ⟨r, 7, none⟩) (fun q => by simp only at q; omega) x7).setCell (p := ⟨r, 8, none⟩) (fun q => by simp only at q; omega) x8
def doneAgg (c k : Int) (nm : ByteArray) (lv hd er n : Int) : Value := .agg #[.int .i64 c, .int .i64 k, .string nm, .int .i64 lv, .int .i64 hd, .slice none 0 0, .int .i64 er, .int .i64 n, .slice none 0 0]
set_option maxRecDepth 100000 in
set_option maxHeartbeats 4000000 in
theorem told_c (w : World) (c k : Int) (nm : ByteArray) (lv hd er n : Int) :
    Calls Tryz.prog 67 #[doneAgg c k nm lv hd er n] w (CopPost (doneAgg c k nm lv hd er n) w) := by
  obtain ⟨W, hW⟩ : ∃ W, W = (w.alloc (.cells #[.int .i64 c, .int .i64 k, .string nm, .int .i64 lv, .int .i64 hd, .slice none 0 0, .int .i64 er, .int .i64 n, .slice none 0 0] 68)).alloc (.cells #[.int .i64 0, .int .i64 0, .string ⟨#[]⟩, .int .i64 0, .int .i64 0, .slice none 0 0, .int .i64 0, .int .i64 0, .slice none 0 0] 68) := ⟨_, rfl⟩
  have hkW : Kp (fun _ => False) w W := by rw [hW]; exact kp_new.trans kp_new
  have hb : W.heap[w.heap.size]? = some (.cells #[.int .i64 c, .int .i64 k, .string nm, .int .i64 lv, .int .i64 hd, .slice none 0 0, .int .i64 er, .int .i64 n, .slice none 0 0] 68 (0, 0)) := by rw [hW]; exact kp_new.at_ (alloc_at w _) (fun q => q)
  have hr : W.heap[w.heap.size + 1]? = some (.cells #[.int .i64 0, .int .i64 0, .string ⟨#[]⟩, .int .i64 0, .int .i64 0, .slice none 0 0, .int .i64 0, .int .i64 0, .slice none 0 0] 68 (0, 0)) := by
    rw [hW]
    have := alloc_at (w.alloc (.cells #[.int .i64 c, .int .i64 k, .string nm, .int .i64 lv, .int .i64 hd, .slice none 0 0, .int .i64 er, .int .i64 n, .slice none 0 0] 68)) (.cells #[.int .i64 0, .int .i64 0, .string ⟨#[]⟩, .int .i64 0, .int .i64 0, .slice none 0 0, .int .i64 0, .int .i64 0, .slice none 0 0] 68)
    rwa [World.size_alloc] at this
  have C := Lib.hid (dcopied_c W k nm lv hd)
  have HB := Lib.hid hb
  have HR := Lib.hid hr
  have HK := Lib.hid hkW
  clear hb hr hkW
  unfold doneAgg
  unfold callAgg at C
  go_enter Tryz.func67, Tryz.ntmps67
  go_wp2_with fail
  rw [← hW]
  clear hW
  refine C.out.mono ?_
  rintro e w1 ⟨rfl, k1⟩
  have hb1 := k1.at_ HB.out (fun q => q)
  have hr1 := k1.at_ HR.out (fun q => q)
  have p1 : w1.cell? ⟨w.heap.size, 1, none⟩ = some (.int .i64 k) := by rw [cell_of hb1]; rfl
  have p2 : w1.cell? ⟨w.heap.size, 2, none⟩ = some (.string nm) := by rw [cell_of hb1]; rfl
  have p3 : w1.cell? ⟨w.heap.size, 3, none⟩ = some (.int .i64 lv) := by rw [cell_of hb1]; rfl
  have p4 : w1.cell? ⟨w.heap.size, 4, none⟩ = some (.int .i64 hd) := by rw [cell_of hb1]; rfl
  have p5 : w1.cell? ⟨w.heap.size, 5, none⟩ = some (.slice none 0 0) := by rw [cell_of hb1]; rfl
  have pf : ∀ i, w1.frozen? ⟨w.heap.size, i, none⟩ = false := free_of hb1
  have hA : (((((w1.setCell ⟨w.heap.size, 1, none⟩ (.int .i64 k)).setCell ⟨w.heap.size, 2, none⟩ (.string nm)).setCell ⟨w.heap.size, 3, none⟩ (.int .i64 lv)).setCell ⟨w.heap.size, 4, none⟩ (.int .i64 hd)).setCell ⟨w.heap.size, 5, none⟩ (.slice none 0 0)).heap[w.heap.size]? = some (.cells #[.int .i64 c, .int .i64 k, .string nm, .int .i64 lv, .int .i64 hd, .slice none 0 0, .int .i64 er, .int .i64 n, .slice none 0 0] 68 (0, 0)) := by
    have := setCell_at (i := 5) (setCell_at (i := 4) (setCell_at (i := 3) (setCell_at (i := 2) (setCell_at (i := 1) hb1 (.int .i64 k)) (.string nm)) (.int .i64 lv)) (.int .i64 hd)) (.slice none 0 0)
    simpa using this
  have kA : Kp (· = w.heap.size) w1 (((((w1.setCell ⟨w.heap.size, 1, none⟩ (.int .i64 k)).setCell ⟨w.heap.size, 2, none⟩ (.string nm)).setCell ⟨w.heap.size, 3, none⟩ (.int .i64 lv)).setCell ⟨w.heap.size, 4, none⟩ (.int .i64 hd)).setCell ⟨w.heap.size, 5, none⟩ (.slice none 0 0)) := (((((Kp.refl (· = w.heap.size) w1).setCell (p := ⟨w.heap.size, 1, none⟩) (fun _ => rfl) _).setCell (p := ⟨w.heap.size, 2, none⟩) (fun _ => rfl) _).setCell (p := ⟨w.heap.size, 3, none⟩) (fun _ => rfl) _).setCell (p := ⟨w.heap.size, 4, none⟩) (fun _ => rfl) _).setCell (p := ⟨w.heap.size, 5, none⟩) (fun _ => rfl) _
  have a8 : (((((w1.setCell ⟨w.heap.size, 1, none⟩ (.int .i64 k)).setCell ⟨w.heap.size, 2, none⟩ (.string nm)).setCell ⟨w.heap.size, 3, none⟩ (.int .i64 lv)).setCell ⟨w.heap.size, 4, none⟩ (.int .i64 hd)).setCell ⟨w.heap.size, 5, none⟩ (.slice none 0 0)).cell? ⟨w.heap.size, 8, none⟩ = some (.slice none 0 0) := by rw [cell_of hA]; rfl
  have HA := Lib.hid hA
  have HAR := Lib.hid (kA.at_ hr1 (fun q => by omega))
  have KA := Lib.hid kA
  have K1 := Lib.hid (HK.out.trans k1)
  clear hA kA hb1 hr1 k1 C
  go_wp2_with fail
  refine (bclone_nil _).mono ?_
  rintro e w2 ⟨rfl, hw2⟩
  have hb2 := HA.out
  have hr2 := HAR.out
  have kk2 := (K1.out.mono (G := (· = w.heap.size)) (fun _ _ q => q.elim)).trans KA.out
  rw [← hw2] at hb2 hr2 kk2
  have b8 : w2.cell? ⟨w.heap.size, 8, none⟩ = some (.slice none 0 0) := by rw [cell_of hb2]; rfl
  have b8f : w2.frozen? ⟨w.heap.size, 8, none⟩ = false := free_of hb2 8
  have hb3 : (w2.setCell ⟨w.heap.size, 8, none⟩ (.slice none 0 0)).heap[w.heap.size]? = some (.cells #[.int .i64 c, .int .i64 k, .string nm, .int .i64 lv, .int .i64 hd, .slice none 0 0, .int .i64 er, .int .i64 n, .slice none 0 0] 68 (0, 0)) := by
    have := setCell_at (i := 8) hb2 (.slice none 0 0)
    simpa using this
  have k3 : Kp (· = w.heap.size) w2 (w2.setCell ⟨w.heap.size, 8, none⟩ (.slice none 0 0)) := (Kp.refl (· = w.heap.size) w2).setCell (p := ⟨w.heap.size, 8, none⟩) (fun _ => rfl) _
  have hr3 := k3.at_ hr2 (fun q => by omega)
  have kk3 : Kp (fun _ => False) w (w2.setCell ⟨w.heap.size, 8, none⟩ (.slice none 0 0)) := (kk2.trans k3).mono (fun i hi q => by omega)
  have g0 : (w2.setCell ⟨w.heap.size, 8, none⟩ (.slice none 0 0)).cell? ⟨w.heap.size, 0, none⟩ = some (.int .i64 c) := by rw [cell_of hb3]; rfl
  have g1 : (w2.setCell ⟨w.heap.size, 8, none⟩ (.slice none 0 0)).cell? ⟨w.heap.size, 1, none⟩ = some (.int .i64 k) := by rw [cell_of hb3]; rfl
  have g2 : (w2.setCell ⟨w.heap.size, 8, none⟩ (.slice none 0 0)).cell? ⟨w.heap.size, 2, none⟩ = some (.string nm) := by rw [cell_of hb3]; rfl
  have g3 : (w2.setCell ⟨w.heap.size, 8, none⟩ (.slice none 0 0)).cell? ⟨w.heap.size, 3, none⟩ = some (.int .i64 lv) := by rw [cell_of hb3]; rfl
  have g4 : (w2.setCell ⟨w.heap.size, 8, none⟩ (.slice none 0 0)).cell? ⟨w.heap.size, 4, none⟩ = some (.int .i64 hd) := by rw [cell_of hb3]; rfl
  have g5 : (w2.setCell ⟨w.heap.size, 8, none⟩ (.slice none 0 0)).cell? ⟨w.heap.size, 5, none⟩ = some (.slice none 0 0) := by rw [cell_of hb3]; rfl
  have g6 : (w2.setCell ⟨w.heap.size, 8, none⟩ (.slice none 0 0)).cell? ⟨w.heap.size, 6, none⟩ = some (.int .i64 er) := by rw [cell_of hb3]; rfl
  have g7 : (w2.setCell ⟨w.heap.size, 8, none⟩ (.slice none 0 0)).cell? ⟨w.heap.size, 7, none⟩ = some (.int .i64 n) := by rw [cell_of hb3]; rfl
  have g8 : (w2.setCell ⟨w.heap.size, 8, none⟩ (.slice none 0 0)).cell? ⟨w.heap.size, 8, none⟩ = some (.slice none 0 0) := by rw [cell_of hb3]; rfl
  have c0 : (w2.setCell ⟨w.heap.size, 8, none⟩ (.slice none 0 0)).cell? ⟨w.heap.size + 1, 0, none⟩ = some (.int .i64 0) := by rw [cell_of hr3]; rfl
  have c1 : (w2.setCell ⟨w.heap.size, 8, none⟩ (.slice none 0 0)).cell? ⟨w.heap.size + 1, 1, none⟩ = some (.int .i64 0) := by rw [cell_of hr3]; rfl
  have c2 : (w2.setCell ⟨w.heap.size, 8, none⟩ (.slice none 0 0)).cell? ⟨w.heap.size + 1, 2, none⟩ = some (.string ⟨#[]⟩) := by rw [cell_of hr3]; rfl
  have c3 : (w2.setCell ⟨w.heap.size, 8, none⟩ (.slice none 0 0)).cell? ⟨w.heap.size + 1, 3, none⟩ = some (.int .i64 0) := by rw [cell_of hr3]; rfl
  have c4 : (w2.setCell ⟨w.heap.size, 8, none⟩ (.slice none 0 0)).cell? ⟨w.heap.size + 1, 4, none⟩ = some (.int .i64 0) := by rw [cell_of hr3]; rfl
  have c5 : (w2.setCell ⟨w.heap.size, 8, none⟩ (.slice none 0 0)).cell? ⟨w.heap.size + 1, 5, none⟩ = some (.slice none 0 0) := by rw [cell_of hr3]; rfl
  have c6 : (w2.setCell ⟨w.heap.size, 8, none⟩ (.slice none 0 0)).cell? ⟨w.heap.size + 1, 6, none⟩ = some (.int .i64 0) := by rw [cell_of hr3]; rfl
  have c7 : (w2.setCell ⟨w.heap.size, 8, none⟩ (.slice none 0 0)).cell? ⟨w.heap.size + 1, 7, none⟩ = some (.int .i64 0) := by rw [cell_of hr3]; rfl
  have c8 : (w2.setCell ⟨w.heap.size, 8, none⟩ (.slice none 0 0)).cell? ⟨w.heap.size + 1, 8, none⟩ = some (.slice none 0 0) := by rw [cell_of hr3]; rfl
  have f0 : ∀ i, (w2.setCell ⟨w.heap.size, 8, none⟩ (.slice none 0 0)).frozen? ⟨w.heap.size + 1, i, none⟩ = false := free_of hr3
  have H6 := Lib.hid (done_set hr3 (.int .i64 c) (.int .i64 k) (.string nm) (.int .i64 lv) (.int .i64 hd) (.slice none 0 0) (.int .i64 er) (.int .i64 n) (.slice none 0 0))
  have K6 := Lib.hid (done_kp kk3 (Nat.le_succ _) (.int .i64 c) (.int .i64 k) (.string nm) (.int .i64 lv) (.int .i64 hd) (.slice none 0 0) (.int .i64 er) (.int .i64 n) (.slice none 0 0))
  clear p1 p2 p3 p4 p5 pf a8 HA HAR KA K1 hb2 hr2 kk2 hb3 k3 hr3 kk3 hw2 HB HR HK
  go_wp2_with fail
  have y0 := cell_of H6.out 0
  have y1 := cell_of H6.out 1
  have y2 := cell_of H6.out 2
  have y3 := cell_of H6.out 3
  have y4 := cell_of H6.out 4
  have y5 := cell_of H6.out 5
  have y6 := cell_of H6.out 6
  have y7 := cell_of H6.out 7
  have y8 := cell_of H6.out 8
  refine bodyPost_ret (v := .agg #[.int .i64 c, .int .i64 k, .string nm, .int .i64 lv, .int .i64 hd, .slice none 0 0, .int .i64 er, .int .i64 n, .slice none 0 0]) ?_ rfl ⟨rfl, K6.out⟩
  rw [results_cell1 rfl]
  simp [go_sem, y0, y1, y2, y3, y4, y5, y6, y7, y8]
end Go.Proofs.YthbmfhnkhkhcmaaGreat.No
