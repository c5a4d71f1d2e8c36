/- A Desk's two steps of a call that finds no session. -/
import Derived.Test.YthbmfhnkhkhcmaaGreatNdC
namespace Go.Proofs.YthbmfhnkhkhcmaaGreat.No
open Go Go.RowKit Go.ChangeMaps Go.MapKept Go.Mg Go.Sort

def SaPost (d g n : Nat) (w : World) (e : Ending) (w' : World) : Prop := ∃ eff, e = .returned (.tuple #[.agg #[.int .i64 0, .int .i64 0, .slice none 0 0], .bool false, .int .i64 0]) ∧ DeskG w' d g n 0 eff ∧ EffOne w.heap.size w' eff ∧ Kp (fun k => k = d ∨ k = g) w w'
set_option maxRecDepth 100000 in
set_option maxHeartbeats 2000000 in
theorem step_a {w : World} {d g n : Nat} (h : DeskG w d g n (-1) (.slice none 0 0)) : Calls Tryz.prog 31 #[.pointer (some ⟨d, 0, none⟩), .int .i64 1] w (SaPost d g n w) := by
  obtain ⟨W, hW⟩ : ∃ W, W = w.alloc (.cells #[.int .i64 0, .int .i64 0, .slice none 0 0] 52) := ⟨_, rfl⟩
  have hk : Kp (fun _ => False) w W := by rw [hW]; exact kp_new
  have hr : W.heap[w.heap.size]? = some (.cells #[.int .i64 0, .int .i64 0, .slice none 0 0] 52 (0, 0)) := by rw [hW]; exact alloc_at _ _
  have C1 : Hid (Calls Tryz.prog 64 #[.pointer (some ⟨d, 0, none⟩), .int .i64 1] W fun e w' => e = .returned (.bool true) ∧ w' = W) := Lib.hid (client_c d 1 (by omega) W)
  have h' := h.kp hk
  have C2 := Lib.hid (begins_c h')
  obtain ⟨pl, h1, h2, h3⟩ := h'.ex
  have d0 : W.cell? ⟨d, 2, none⟩ = some (.pointer (some ⟨g, 0, none⟩)) := by rw [cell_of h1]; rfl
  have d1 : W.cell? ⟨g, 5, none⟩ = some (.int .i64 (-1)) := by rw [cell_of h2]; rfl
  obtain ⟨_, q1, q2, _⟩ := h.ex
  have ld := lt_of_at q1
  have lg := lt_of_at q2
  have HR := Lib.hid hr
  have HK := Lib.hid hk
  clear h h' h1 h2 h3 q1 q2 hr hk
  go_enter Tryz.func31, Tryz.ntmps31
  go_wp2_with fail
  rw [← hW]
  clear hW
  refine C1.out.mono ?_
  rintro e w1 ⟨rfl, rfl⟩
  go_wp2_with fail
  refine C2.out.mono ?_
  rintro e V ⟨eff, rfl, hd, he, kV⟩
  have hVa := kV.at_ HR.out (fun q => by omega)
  have f0 : ∀ i, V.frozen? ⟨w.heap.size, i, none⟩ = false := free_of hVa
  have c0 : V.cell? ⟨w.heap.size, 0, none⟩ = some (.int .i64 0) := by rw [cell_of hVa]; rfl
  have c1 : V.cell? ⟨w.heap.size, 1, none⟩ = some (.int .i64 0) := by rw [cell_of hVa]; rfl
  have c2 : V.cell? ⟨w.heap.size, 2, none⟩ = some (.slice none 0 0) := by rw [cell_of hVa]; rfl
  have H6 := Lib.hid (ans_set hVa 0 0 (.slice none 0 0))
  have kr : Kp (· = w.heap.size) V (((V.setCell ⟨w.heap.size, 0, none⟩ (.int .i64 0)).setCell ⟨w.heap.size, 1, none⟩ (.int .i64 0)).setCell ⟨w.heap.size, 2, none⟩ (.slice none 0 0)) := (((Kp.refl (· = w.heap.size) V).setCell (p := ⟨w.heap.size, 0, none⟩) (fun _ => rfl) _).setCell (p := ⟨w.heap.size, 1, none⟩) (fun _ => rfl) _).setCell (p := ⟨w.heap.size, 2, none⟩) (fun _ => rfl) _
  have KR := Lib.hid kr
  have KV := Lib.hid kV
  have HD := Lib.hid hd
  have HE := Lib.hid he
  have HVA := Lib.hid hVa
  have hws := HK.out.size
  have hlt : w.heap.size < w1.heap.size := lt_of_at HR.out
  clear kr kV hd he hVa C1 C2 d0 d1
  go_wp2_with fail
  have y0 := cell_of H6.out 0
  have y1 := cell_of H6.out 1
  have y2 := cell_of H6.out 2
  refine bodyPost_ret (v := .tuple #[.agg #[.int .i64 0, .int .i64 0, .slice none 0 0], .bool false, .int .i64 0]) ?_ rfl ⟨eff, rfl, ?_, ?_, ?_⟩
  · rw [results_cell_tt rfl]
    simp [go_sem, y0, y1, y2]
  · obtain ⟨pl', p1, p2, p3⟩ := HD.out.ex
    exact ⟨pl', KR.out.at_ p1 (fun q => by omega), KR.out.at_ p2 (fun q => by omega), p3.kpT KR.out (fun k hk => by subst hk; exact ⟨_, _, _, HVA.out, by decide, by decide⟩)⟩
  · obtain ⟨a, c, rfl, s1, s2⟩ := HE.out.ex
    exact ⟨a, c, rfl, s1.kp KR.out (fun b hb q => by have := s2 b hb; omega), fun b hb => by have := s2 b hb; omega⟩
  · exact ((HK.out.mono (fun _ _ q => q.elim)).trans KV.out).trans2 KR.out (fun i hi q => by omega)
/-- A Desk whose client 1 has no call, with one effect. -/
structure DeskN (B : Nat) (w : World) (d : Nat) : Prop where
  c1 : w.cell? ⟨d, 2, none⟩ = some (.pointer none)
  ex : ∃ eff, w.cell? ⟨d, 5, none⟩ = some eff ∧ EffOne B w eff
theorem DeskN.kp {B : Nat} {w w' : World} {d : Nat} (h : DeskN B w d) (hk : Kp (fun _ => False) w w') : DeskN B w' d := by
  obtain ⟨eff, h1, h2⟩ := h.ex
  exact ⟨(hk.cell (p := ⟨d, 2, none⟩) (World.block_lt_of_cell? w _ h.c1) (fun q => q)).trans h.c1, eff, (hk.cell (p := ⟨d, 5, none⟩) (World.block_lt_of_cell? w _ h1) (fun q => q)).trans h1, h2.kp hk (fun _ q => q.elim)⟩
def SbPost (B d : Nat) (w : World) (e : Ending) (w' : World) : Prop := e = .returned (.tuple #[.agg #[.int .i64 7, .int .i64 0, .slice none 0 0], .bool true, .int .i64 0]) ∧ DeskN B w' d ∧ Kp (· = d) w w'
theorem fldA (x0 x1 x3 x4 x6 x7 : Int) (nm : ByteArray) (w : World) : (Instr.field 68 (.agg #[.int .i64 x0, .int .i64 x1, .string nm, .int .i64 x3, .int .i64 x4, .slice none 0 0, .int .i64 x6, .int .i64 x7, .slice none 0 0]) 2).run Tryz.prog w = .ok (.agg #[.int .i64 x6, .int .i64 x7, .slice none 0 0]) w := by kernel_rfl
set_option maxRecDepth 100000 in
set_option maxHeartbeats 4000000 in
theorem step_b {B : Nat} {w : World} {d g n : Nat} {eff : Value} (h : DeskG w d g n 0 eff) (he : EffOne B w eff) (hB : d < B) : Calls Tryz.prog 31 #[.pointer (some ⟨d, 0, none⟩), .int .i64 1] w (SbPost B d w) := by
  obtain ⟨W, hW⟩ : ∃ W, W = w.alloc (.cells #[.int .i64 0, .int .i64 0, .slice none 0 0] 52) := ⟨_, rfl⟩
  have hk : Kp (fun _ => False) w W := by rw [hW]; exact kp_new
  have hr : W.heap[w.heap.size]? = some (.cells #[.int .i64 0, .int .i64 0, .slice none 0 0] 52 (0, 0)) := by rw [hW]; exact alloc_at _ _
  have C1 : Hid (Calls Tryz.prog 64 #[.pointer (some ⟨d, 0, none⟩), .int .i64 1] W fun e w' => e = .returned (.bool true) ∧ w' = W) := Lib.hid (client_c d 1 (by omega) W)
  have hdg := h.ne
  obtain ⟨pl, h1, h2, h3⟩ := (h.kp hk).ex
  obtain ⟨_, q1, q2, _⟩ := h.ex
  have ld := lt_of_at q1
  have lg := lt_of_at q2
  have d0 : W.cell? ⟨d, 2, none⟩ = some (.pointer (some ⟨g, 0, none⟩)) := by rw [cell_of h1]; rfl
  have df : W.frozen? ⟨d, 2, none⟩ = false := free_of h1 2
  have d1 : W.cell? ⟨g, 5, none⟩ = some (.int .i64 0) := by rw [cell_of h2]; rfl
  have d2 : W.cell? ⟨g, 6, none⟩ = some (.slice none 0 0) := by rw [cell_of h2]; rfl
  have kd : Kp (· = d) W (W.setCell ⟨d, 2, none⟩ (.pointer none)) := (Kp.refl (· = d) W).setCell (p := ⟨d, 2, none⟩) (fun _ => rfl) _
  have hX1 : Hid ((W.setCell ⟨d, 2, none⟩ (.pointer none)).cell? ⟨d, 2, none⟩ = some (.pointer none)) := Lib.hid (by rw [cell_of (setCell_at (i := 2) h1 (.pointer none))]; rfl)
  have hX5 : Hid ((W.setCell ⟨d, 2, none⟩ (.pointer none)).cell? ⟨d, 5, none⟩ = some eff) := Lib.hid (by rw [cell_of (setCell_at (i := 2) h1 (.pointer none))]; rfl)
  have hXg := Lib.hid (kd.at_ h2 (fun q => hdg q.symm))
  have hXr := Lib.hid (kd.at_ hr (fun q => by omega))
  have hlw : ∀ a off c, eff = .slice (some ⟨a, off, none⟩) 1 c → a < w.heap.size := fun a off c e => by
    obtain ⟨a', off', c', e', _, _, h, _⟩ := he.cells
    rw [e] at e'
    simp only [Value.slice.injEq, Option.some.injEq, Addr.mk.injEq] at e'
    omega
  have heX := he.kp ((hk.mono (fun _ _ q => q.elim)).trans kd) (fun k q => by omega)
  obtain ⟨a, off, c, rfl, ha, hc, hla, hcells⟩ := heX.cells
  have hlw' := hlw a off c rfl
  clear hlw
  have HEX := Lib.hid heX
  have HCE := Lib.hid hcells
  have KD := Lib.hid kd
  have HK := Lib.hid hk
  clear h he h1 h2 h3 q1 q2 hr hk kd heX hcells
  go_enter Tryz.func31, Tryz.ntmps31
  go_wp2_with fail
  rw [← hW]
  clear hW
  refine C1.out.mono ?_
  rintro e w1 ⟨rfl, rfl⟩
  go_wp2_with fail
  generalize w1.setCell ⟨d, 2, none⟩ (.pointer none) = X at hX1 hX5 hXg hXr HEX HCE KD hla ⊢
  have x5 := hX5.out
  have xg : X.cell? ⟨g, 5, none⟩ = some (.int .i64 0) := by rw [cell_of hXg.out]; rfl
  have v0 : X.cell? ⟨a, off, none⟩ = some (.int .i64 1) := HCE.out 0 _ rfl
  have v1 : X.cell? ⟨a, off + 1, none⟩ = some (.int .i64 3) := HCE.out 1 _ rfl
  have v2 : X.cell? ⟨a, off + 2, none⟩ = some (.string ⟨#[]⟩) := HCE.out 2 _ rfl
  have v3 : X.cell? ⟨a, off + 3, none⟩ = some (.int .i64 0) := HCE.out 3 _ rfl
  have v4 : X.cell? ⟨a, off + 4, none⟩ = some (.int .i64 5) := HCE.out 4 _ rfl
  have v5 : X.cell? ⟨a, off + 5, none⟩ = some (.slice none 0 0) := HCE.out 5 _ rfl
  have v6 : X.cell? ⟨a, off + 6, none⟩ = some (.int .i64 7) := HCE.out 6 _ rfl
  have v7 : X.cell? ⟨a, off + 7, none⟩ = some (.int .i64 0) := HCE.out 7 _ rfl
  have v8 : X.cell? ⟨a, off + 8, none⟩ = some (.slice none 0 0) := HCE.out 8 _ rfl
  have TOLD : Hid (∀ V, Calls Tryz.prog 67 #[.agg #[.int .i64 1, .int .i64 3, .string ⟨#[]⟩, .int .i64 0, .int .i64 5, .slice none 0 0, .int .i64 7, .int .i64 0, .slice none 0 0]] V (CopPost (.agg #[.int .i64 1, .int .i64 3, .string ⟨#[]⟩, .int .i64 0, .int .i64 5, .slice none 0 0, .int .i64 7, .int .i64 0, .slice none 0 0]) V)) := Lib.hid (fun V => told_c V 1 3 ⟨#[]⟩ 0 5 7 0)
  have FA := fldA
  have hrx := lt_of_at hXr.out
  have hdx := World.block_lt_of_cell? X _ hX1.out
  clear C1 d0 df d1 d2
  go_region_law ((go_simp; go_at_call 67; refine (TOLD.out _).mono ?_; rintro e Y ⟨rfl, kY⟩; have KY : Hid (Kp (fun _ => False) X Y) := Lib.hid ((Kp.refl _ X).drew.trans kY); have hrY := KY.out.at_ hXr.out (fun q => q); have f0 := free_of hrY; have c0 := cell_of hrY 0; have c1 := cell_of hrY 1; have c2 := cell_of hrY 2; simp only [List.getElem?_toArray, List.getElem?_cons_succ, List.getElem?_cons_zero] at c0 c1 c2; have H6 := Lib.hid (ans_set hrY 7 0 (.slice none 0 0)); have kr : Kp (· = w.heap.size) Y (((Y.setCell ⟨w.heap.size, 0, none⟩ (.int .i64 7)).setCell ⟨w.heap.size, 1, none⟩ (.int .i64 0)).setCell ⟨w.heap.size, 2, none⟩ (.slice none 0 0)) := (((Kp.refl (· = w.heap.size) Y).setCell (p := ⟨w.heap.size, 0, none⟩) (fun _ => rfl) _).setCell (p := ⟨w.heap.size, 1, none⟩) (fun _ => rfl) _).setCell (p := ⟨w.heap.size, 2, none⟩) (fun _ => rfl) _; have KR := Lib.hid kr; clear kY hrY kr))
  all_goals
    go_wp2_with fail
    have y0 := cell_of H6.out 0
    have y1 := cell_of H6.out 1
    have y2 := cell_of H6.out 2
    refine bodyPost_ret (v := .tuple #[.agg #[.int .i64 7, .int .i64 0, .slice none 0 0], .bool true, .int .i64 0]) ?_ rfl ⟨rfl, ⟨?_, .slice (some ⟨a, off, none⟩) 1 c, ?_, ?_⟩, ?_⟩
    · rw [results_cell_tt rfl]
      simp [go_sem, y0, y1, y2]
    · exact (KR.out.cell (p := ⟨d, 2, none⟩) (by have := KY.out.size; simp only; omega) (fun q => by simp only at q; omega)).trans ((KY.out.cell (p := ⟨d, 2, none⟩) hdx (fun q => q)).trans hX1.out)
    · exact (KR.out.cell (p := ⟨d, 5, none⟩) (by have := KY.out.size; simp only; omega) (fun q => by simp only at q; omega)).trans ((KY.out.cell (p := ⟨d, 5, none⟩) hdx (fun q => q)).trans hX5.out)
    · obtain ⟨a', c', ee, s1, s2⟩ := (HEX.out.kp KY.out (fun _ q => q.elim)).ex
      refine ⟨a', c', ee, s1.kp KR.out (fun b hb q => ?_), s2⟩
      have := own_b hb
      omega
    · exact (((HK.out.mono (fun _ _ q => q.elim)).trans KD.out).trans (KY.out.mono (fun _ _ q => q.elim))).trans2 KR.out (fun i hi q => by omega)
end Go.Proofs.YthbmfhnkhkhcmaaGreat.No
