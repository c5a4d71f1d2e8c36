/- What the desk's laws know. -/
import Derived.Test.YthbmfhnkhkhcmaaGreatNdD
namespace Go.Proofs.YthbmfhnkhkhcmaaGreat.No
open Go Go.RowKit Go.ChangeMaps Go.MapKept Go.Mg Go.Sort

def EffsPost (w : World) (e : Ending) (w' : World) : Prop := ∃ a c, e = .returned (.slice a 1 c) ∧ Kp (fun _ => False) w w'
set_option maxRecDepth 100000 in
set_option maxHeartbeats 2000000 in
theorem effects_one {B : Nat} {w : World} {d : Nat} (h : DeskN B w d) : Calls Tryz.prog 34 #[.pointer (some ⟨d, 0, none⟩)] w (EffsPost w) := by
  obtain ⟨i0, hi0, hz0, hz1, hz2⟩ := info_parts infoD
  obtain ⟨eff, d5, he⟩ := h.ex
  obtain ⟨a, off, c, rfl, _, hc, _, hcells⟩ := he.cells
  have v0 : w.cell? ⟨a, off, none⟩ = some (.int .i64 1) := hcells 0 _ rfl
  have v1 : w.cell? ⟨a, off + 1, none⟩ = some (.int .i64 3) := hcells 1 _ rfl
  have v2 : w.cell? ⟨a, off + 2, none⟩ = some (.string ⟨#[]⟩) := hcells 2 _ rfl
  have v3 : w.cell? ⟨a, off + 3, none⟩ = some (.int .i64 0) := hcells 3 _ rfl
  have v4 : w.cell? ⟨a, off + 4, none⟩ = some (.int .i64 5) := hcells 4 _ rfl
  have v5 : w.cell? ⟨a, off + 5, none⟩ = some (.slice none 0 0) := hcells 5 _ rfl
  have v6 : w.cell? ⟨a, off + 6, none⟩ = some (.int .i64 7) := hcells 6 _ rfl
  have v7 : w.cell? ⟨a, off + 7, none⟩ = some (.int .i64 0) := hcells 7 _ rfl
  have v8 : w.cell? ⟨a, off + 8, none⟩ = some (.slice none 0 0) := hcells 8 _ rfl
  have TOLD : Hid (∀ V, Calls Tryz.prog 67 #[.agg #[.int .i64 1, .int .i64 3, .string ⟨#[]⟩, .int .i64 0, .int .i64 5, .slice none 0 0, .int .i64 7, .int .i64 0, .slice none 0 0]] V (CopPost (.agg #[.int .i64 1, .int .i64 3, .string ⟨#[]⟩, .int .i64 0, .int .i64 5, .slice none 0 0, .int .i64 7, .int .i64 0, .slice none 0 0]) V)) := Lib.hid (fun V => told_c V 1 3 ⟨#[]⟩ 0 5 7 0)
  clear h he hcells
  go_enter Tryz.func34, Tryz.ntmps34
  go_wp2_with fail
  go_loopw [3, 13] (fun l i wr => (i = .int .i64 0 ∧ l = .slice none 0 0 ∧ wr = w) ∨ (i = .int .i64 1 ∧ ∃ a c, l = .slice a 1 c ∧ Kp (fun _ => False) w wr)) (fun _ i _ => 1 - (intOf i).toNat)
  case atStart => exact .inl ⟨rfl, rfl, rfl⟩
  case round =>
    rcases hrel with ⟨rfl, rfl, rfl⟩ | ⟨rfl, a2, c2, rfl, hk⟩
    · go_wp2_with fail
      refine (TOLD.out _).mono ?_
      rintro e Y ⟨rfl, kY⟩
      have KY : Hid (Kp (fun _ => False) wr Y) := Lib.hid (kp_new.trans kY)
      have T := Lib.hid (lit_done Y)
      clear kY TOLD
      go_wp2_with (at_builtin; refine wpList_app _ rfl _ _ 32 rfl 68 i0 _ 9 112 Tryz.underlying32 hi0 hz0 hz1 hz2 rfl (by decide) (by decide) (.slice none 0 0) 0 [] rfl (OwnR.nil _ _ _) (.slice (some ⟨Y.heap.size, 0, none⟩) 1 1) 1 _ rfl T.out done_one (by omega) ?_; intro v' w3 g1 g2 g3 g4 g5; rw [Nat.zero_add] at g1; obtain ⟨b1, c1, rfl⟩ := g1.form; have K3 : Hid (Kp (fun _ => False) wr w3) := Lib.hid ((KY.out.alloc _).trans (g2.mono (fun _ _ q => by cases q))); clear g1 g2 g3 g4 g5)
      exact ⟨.inr ⟨by go_num, b1, c1, rfl, K3.out⟩, by simp [intOf]⟩
    · have HK := Lib.hid hk
      clear hk
      go_wp2_with fail
      go_ret
      exact ⟨a2, c2, rfl, HK.out⟩
set_option maxRecDepth 100000 in
set_option maxHeartbeats 2000000 in
theorem invoke2 {w : World} {d g n : Nat} {at_ : Int} {eff : Value} (h : DeskG w d g n at_ eff) (k : Int) (nm : ByteArray) (lv hd : Int) (v : Value) : Calls Tryz.prog 32 #[.pointer (some ⟨d, 0, none⟩), .int .i64 1, callAgg k nm lv hd v] w (IntPost 8 w) := by
  have C1 : Hid (∀ W, Calls Tryz.prog 64 #[.pointer (some ⟨d, 0, none⟩), .int .i64 1] W fun e w' => e = .returned (.bool true) ∧ w' = W) := Lib.hid (fun W => client_c d 1 (by omega) W)
  obtain ⟨pl, h1, _, _⟩ := (h.kp (kp_new (o := .cells #[.int .i64 k, .string nm, .int .i64 lv, .int .i64 hd, v] 24))).ex
  have d0 : (w.alloc (.cells #[.int .i64 k, .string nm, .int .i64 lv, .int .i64 hd, v] 24)).cell? ⟨d, 2, none⟩ = some (.pointer (some ⟨g, 0, none⟩)) := by rw [cell_of h1]; rfl
  clear h h1
  unfold callAgg
  go_enter Tryz.func32, Tryz.ntmps32
  go_wp2_with fail
  refine (C1.out _).mono ?_
  rintro e w1 ⟨rfl, rfl⟩
  go_wp2_with fail
  go_ret
  exact ⟨rfl, kp_new⟩
set_option maxRecDepth 100000 in
set_option maxHeartbeats 4000000 in
theorem known13_c (w : World) : Calls Tryz.prog 38 #[] w fun e w' => e = .returned (.bool true) ∧ Kp (fun _ => False) w w' := by
  have C1 : Hid (Calls Tryz.prog 70 #[.int .i64 10000, .int .i64 10000] w (NewPost (fun w' p => DeskE w' p 10000) w)) := Lib.hid (desk_new 10000 (by omega) w)
  go_enter Tryz.func38, Tryz.ntmps38
  go_wp2_with fail
  refine C1.out.mono ?_
  rintro e w1 ⟨d, rfl, hd, h1, k1⟩
  have C2 := Lib.hid (invoke1 h1)
  unfold callAgg at C2
  have ld : d < w1.heap.size := by obtain ⟨_, q, _⟩ := h1.ex; exact lt_of_at q
  have K1 := Lib.hid k1
  clear h1 k1 C1
  go_wp2_with fail
  refine C2.out.mono ?_
  rintro e w2 ⟨g, rfl, hg, h2, k2⟩
  have C3 := Lib.hid (invoke2 h2 0 ⟨#[]⟩ 0 0 (.slice none 0 0))
  unfold callAgg at C3
  have H2 := Lib.hid h2
  have K2 : Hid (Kp (fun _ => False) w w2) := Lib.hid (K1.out.trans2 k2 (fun i hi q => by omega))
  clear h2 k2 C2
  go_wp2_with fail
  refine C3.out.mono ?_
  rintro e w3 ⟨rfl, k3⟩
  have C4 := Lib.hid (step_a (H2.out.kp k3))
  have K3 := Lib.hid (K2.out.trans k3)
  have hg3 : w.heap.size ≤ g := by have := K1.out.size; omega
  have hs3 := k3.size
  have hs2 : d < w3.heap.size := by obtain ⟨_, q, _⟩ := H2.out.ex; have := lt_of_at q; omega
  clear k3 C3
  go_wp2_with fail
  refine C4.out.mono ?_
  rintro e w4 ⟨eff, rfl, h4, he4, k4⟩
  have K4 : Hid (Kp (fun _ => False) w w4) := Lib.hid (K3.out.trans2 k4 (fun i hi q => by omega))
  have C5 := Lib.hid (step_b (h4.kp (kp_new (o := .cells #[.int .i64 0, .int .i64 0, .slice none 0 0] 52))) (he4.kp (kp_new (o := .cells #[.int .i64 0, .int .i64 0, .slice none 0 0] 52)) (fun _ q => q.elim)) hs2)
  clear h4 he4 k4 C4
  go_wp2_with fail
  refine C5.out.mono ?_
  rintro e w6 ⟨rfl, h6, k6⟩
  have K6 : Hid (Kp (fun _ => False) w w6) := Lib.hid ((K4.out.alloc _).trans2 k6 (fun i hi q => by omega))
  have H7 := Lib.hid (h6.kp (kp_new (o := .cells #[.int .i64 7, .int .i64 0, .slice none 0 0] 52)))
  have C7 : Hid (Calls Tryz.prog 31 #[.pointer (some ⟨d, 0, none⟩), .int .i64 1] (w6.alloc (.cells #[.int .i64 7, .int .i64 0, .slice none 0 0] 52)) (StepPost 8 (w6.alloc (.cells #[.int .i64 7, .int .i64 0, .slice none 0 0] 52)))) := Lib.hid (dstep_n 1 (by omega) H7.out.c1)
  clear h6 k6 C5
  go_wp2_with fail
  refine C7.out.mono ?_
  rintro e w8 ⟨rfl, k8⟩
  have a8 : w8.cell? ⟨w6.heap.size, 0, none⟩ = some (.int .i64 7) := by rw [cell_of (k8.at_ (alloc_at w6 _) (fun q => q))]; rfl
  have l8 := World.block_lt_of_cell? w8 _ a8
  have a9 : (w8.alloc (.cells #[.int .i64 0, .int .i64 0, .slice none 0 0] 52)).cell? ⟨w6.heap.size, 0, none⟩ = some (.int .i64 7) := (kp_new.cell (p := ⟨w6.heap.size, 0, none⟩) l8 (fun q => q)).trans a8
  have C9 := Lib.hid (effects_one ((H7.out.kp k8).kp (kp_new (o := .cells #[.int .i64 0, .int .i64 0, .slice none 0 0] 52))))
  have K8 := Lib.hid ((K6.out.alloc _).trans k8)
  clear k8 C7
  go_wp2_with fail
  refine C9.out.mono ?_
  rintro e w10 ⟨a, c, rfl, k10⟩
  have K10 := Lib.hid ((K8.out.alloc _).trans k10)
  clear k10 C9
  go_wp2_with fail
  go_ret
  exact ⟨rfl, K10.out⟩
end Go.Proofs.YthbmfhnkhkhcmaaGreat.No
