/- A Plan: what is no session; opening one. -/
import Derived.Test.YthbmfhnkhkhcmaaGreatNsB
import Derived.Test.YthbmfhnkhkhcmaaGreatNoB
namespace Go.Proofs.YthbmfhnkhkhcmaaGreat.No
open Go Go.RowKit Go.ChangeMaps Go.MapKept Go.Mg

def zSess : Value := .agg #[.int .i64 0, .pointer none, .int .i64 0]
theorem zero_sess (w : World) : (zeroValue 123).run Tryz.prog w = .ok zSess w := by
  have h : (Tryz.prog.info? 123).map (·.zero) = some (some zSess) := by kernel_rfl
  cases hi : Tryz.prog.info? 123 with
  | none => rw [hi] at h; cases h
  | some i =>
    rw [hi] at h
    simp only [Option.map_some, Option.some.injEq] at h
    simp [zeroValue, typeInfo, hi, h]
theorem mapAt_nil {w : World} {ms : Nat} (h : w.heap[ms]? = some (.map #[] 0)) : MapAt (κ := Int) (ε := Value) w (.int .i64) (Value.int .i64) id ms [] :=
  ⟨#[], 0, h, stamped_empty 0, by simp, rfl⟩
theorem look_nil {w : World} {ms : Nat} (h : w.heap[ms]? = some (.map #[] 0)) (k : Int) : (Instr.lookup 93 (.map (some ms)) (.int .i64 k) true).run Tryz.prog w = .ok (.tuple #[zSess, .bool false]) w := by
  have := (mapAt_nil h).look (P := Tryz.prog) key_int Tryz.underlying93 Tryz.underlying3 (zero_sess w) k true
  simpa [AL.get] using this
def callAgg (k : Int) (nm : ByteArray) (lv hd : Int) (d : Value) : Value := .agg #[.int .i64 k, .string nm, .int .i64 lv, .int .i64 hd, d]
def AnsPost (er n : Int) (w : World) (e : Ending) (w' : World) : Prop := e = .returned (.agg #[.int .i64 er, .int .i64 n, .slice none 0 0]) ∧ Kp (fun _ => False) w w'
set_option maxRecDepth 100000 in
set_option maxHeartbeats 2000000 in
theorem session_none {w : World} {pl n : Nat} (h : PlanE w pl n) (c k : Int) (nm : ByteArray) (lv hd : Int) (d : Value) :
    Calls Tryz.prog 58 #[.pointer (some ⟨pl, 0, none⟩), .int .i64 c, callAgg k nm lv hd d] w (AnsPost 7 0 w) := by
  obtain ⟨pu, sh, ms, ml, h1, h2, h3⟩ := h.ex
  obtain ⟨W, hW⟩ : ∃ W, W = (w.alloc (.cells #[.int .i64 k, .string nm, .int .i64 lv, .int .i64 hd, d] 24)).alloc (.cells #[.int .i64 0, .int .i64 0, .slice none 0 0] 52) := ⟨_, rfl⟩
  have hk : Kp (fun _ => False) w W := by rw [hW]; exact kp_new.trans kp_new
  have d0 : W.cell? ⟨pl, 2, none⟩ = some (.map (some ms)) := by rw [cell_of (hk.at_ h1.hp (fun q => q))]; rfl
  have d1 : W.cell? ⟨w.heap.size, 3, none⟩ = some (.int .i64 hd) := by
    rw [hW, cell_of (kp_new.at_ (alloc_at w _) (fun q => q))]; rfl
  have hl := look_nil (hk.at_ h3 (fun q => q)) hd
  have hm3 := hk.at_ h3 (fun q => q)
  have HM := Lib.hid hm3
  have HK := Lib.hid hk
  have HWA : Hid (W.heap[w.heap.size + 1]? = some (.cells #[.int .i64 0, .int .i64 0, .slice none 0 0] 52 (0, 0))) := Lib.hid (by
    rw [hW]
    have := alloc_at (w.alloc (.cells #[.int .i64 k, .string nm, .int .i64 lv, .int .i64 hd, d] 24)) (.cells #[.int .i64 0, .int .i64 0, .slice none 0 0] 52)
    rwa [World.size_alloc] at this)
  clear h h1 h2 h3 hk hm3
  unfold callAgg
  go_enter Tryz.func58, Tryz.ntmps58
  go_wp2_with fail
  rw [← hW]
  clear hW
  have hl1 : (Instr.lookup 93 (.map (some ms)) (.int .i64 hd) true).run Tryz.prog W.drew = .ok (.tuple #[zSess, .bool false]) W.drew := look_nil (w := W.drew) HM.out hd
  have hl2 : (Instr.lookup 93 (.map (some ms)) (.int .i64 hd) true).run Tryz.prog (W.alloc (.cells #[.int .i64 0, .pointer none, .int .i64 0] 123)).drew = .ok (.tuple #[zSess, .bool false]) (W.alloc (.cells #[.int .i64 0, .pointer none, .int .i64 0] 123)).drew := look_nil (w := (W.alloc (.cells #[.int .i64 0, .pointer none, .int .i64 0] 123)).drew) (kp_new.at_ HM.out (fun q => q)) hd
  unfold zSess at hl1 hl2
  have lt1 : pl < W.heap.size := World.block_lt_of_cell? W _ d0
  have lt2 : w.heap.size < W.heap.size := World.block_lt_of_cell? W _ d1
  have e0 := ((kp_new (w := W) (o := .cells #[.int .i64 0, .pointer none, .int .i64 0] 123)).cell (p := ⟨pl, 2, none⟩) lt1 (fun q => q)).trans d0
  have e1 := ((kp_new (w := W) (o := .cells #[.int .i64 0, .pointer none, .int .i64 0] 123)).cell (p := ⟨w.heap.size, 3, none⟩) lt2 (fun q => q)).trans d1
  go_region_law (fail)
  all_goals
    generalize hV : (W.alloc (.cells #[.int .i64 0, .pointer none, .int .i64 0] 123)).drew = V
    have kV : Kp (fun _ => False) W V := by rw [← hV]; exact kp_new.drew
    have hVa := kV.at_ HWA.out (fun q => q)
    have f0 : ∀ i, V.frozen? ⟨w.heap.size + 1, i, none⟩ = false := free_of hVa
    have h6 := setCell_at (i := 2) (setCell_at (i := 1) (setCell_at (i := 0) hVa (.int .i64 7)) (.int .i64 0)) (.slice none 0 0)
    have k6 := ((((HK.out.trans kV).setCell (p := ⟨w.heap.size + 1, 0, none⟩) (fun q => by simp only at q; omega) (.int .i64 7)).setCell (p := ⟨w.heap.size + 1, 1, none⟩) (fun q => by simp only at q; omega) (.int .i64 0)).setCell (p := ⟨w.heap.size + 1, 2, none⟩) (fun q => by simp only at q; omega) (.slice none 0 0))
    have c0 : V.cell? ⟨w.heap.size + 1, 0, none⟩ = some (.int .i64 0) := by rw [cell_of hVa]; rfl
    have c1 : V.cell? ⟨w.heap.size + 1, 1, none⟩ = some (.int .i64 0) := by rw [cell_of hVa]; rfl
    have c2 : V.cell? ⟨w.heap.size + 1, 2, none⟩ = some (.slice none 0 0) := by rw [cell_of hVa]; rfl
    have H6 := Lib.hid h6
    have K6 := Lib.hid k6
    clear hV h6 k6 kV hVa e0 e1 hl1 hl2 hl d0 d1
    go_wp2_with fail
    have y0 := cell_of H6.out 0
    have y1 := cell_of H6.out 1
    have y2 := cell_of H6.out 2
    refine bodyPost_ret (v := .agg #[.int .i64 7, .int .i64 0, .slice none 0 0]) ?_ rfl ⟨rfl, K6.out⟩
    rw [results_cell1 rfl]
    simp [go_sem, y0, y1, y2]
end Go.Proofs.YthbmfhnkhkhcmaaGreat.No
