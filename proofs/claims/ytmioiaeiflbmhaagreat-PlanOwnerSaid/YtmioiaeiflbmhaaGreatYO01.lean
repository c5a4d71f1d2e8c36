/- A Plan's answers, other blocks being kept. The walk of PlanOwner. -/
import Derived.Test.YtmioiaeiflbmhaaGreatX33
import Derived.Test.YtmioiaeiflbmhaaGreatX09
set_option linter.unusedVariables false
namespace Go.Proofs.YtmioiaeiflbmhaaGreat.Pl
open Go Go.RowKit Go.ChangeMaps Go.MapKept Go.Mg
def GPost (G : Nat → Prop) (w0 w : World) (p : Nat) (X' : Pls) (er n : Int) (on : Nat) (e : Ending) (w' : World) : Prop := ∃ (a : Option Addr) (c : Nat), e = .returned (.agg #[.int .i64 er, .int .i64 n, .slice a on c]) ∧ PlL G w0 w' p X' ∧ Kp (fun k => w0.heap.size ≤ k ∧ ¬ G k) w w'
theorem do_g {G : Nat → Prop} {w0 w : World} {p : Nat} {X : Pls} (h : PlL G w0 w p X) {N : Nat} (hw : X.Wf N) (hN : N ≤ 30000) (cl k : Int) (nm : ByteArray) (lv hd : Int) (hnm : nm.size ≤ 9223372036854775807) {X' : Pls} {er n : Int} {O : List UInt8} (ha : X.act cl ⟨k, nm, lv, hd, []⟩ = (X', ⟨er, n, O⟩)) :
    Calls Tryz.prog 15 #[.pointer (some ⟨p, 0, none⟩), .int .i64 cl, .agg #[.int .i64 k, .string nm, .int .i64 lv, .int .i64 hd, .slice none 0 0]] w (GPost G w0 w p X' er n O.length) := by
  have C := do_l h hw hN cl k nm lv hd none 0 [] (SlR.nil _ _) (fun b hb => by cases hb) hnm (by simp)
  rw [ha] at C
  refine C.mono ?_
  rintro e w' ⟨a, c, rfl, _, h1, h2⟩
  exact ⟨a, c, rfl, h1.less (fun k q => .inl q), h2⟩
end Go.Proofs.YtmioiaeiflbmhaaGreat.Pl
set_option linter.unusedVariables false
namespace Go.Proofs.YtmioiaeiflbmhaaGreat.planOwner
open Go Go.RowKit Go.ChangeMaps Go.MapKept Go.Mg Go.Proofs.YtmioiaeiflbmhaaGreat.Pl Go.Proofs.YtmioiaeiflbmhaaGreat.Op
set_option maxRecDepth 100000 in
set_option maxHeartbeats 2000000 in
theorem full (w : World) (a0 a1 a2 : Int) (h0 : 0 ≤ a0 ∧ a0 < 4) (h1 : 0 ≤ a1 ∧ a1 < 4) (h2 : 2 ≤ a2 ∧ a2 ≤ 5) :
    Calls Tryz.prog 5 #[.int .i64 a0, .int .i64 a1, .int .i64 a2] w (LawPost w) := by
  have C1 := Lib.hid (new_l (w0 := w) (Kp.refl _ w) 20000 9000)
  have FB := fldB
  have ha := open1 (all := 20000) (each := 9000) (lv := 2) (hd := 0) h0 (by decide) (by decide) (by decide)
  obtain ⟨X2, er, O, er3, O3, e2, hcase, e3, e4⟩ := one_then (all := 20000) (each := 9000) (lv := 2) h0 h1 h2
  have hu := gone1_used (all := 20000) (each := 9000) h0 (by decide) (by decide)
  have w0 := pl0_wf 20000 9000
  have w1 := act_wf' w0 (by omega) ha
  have w2 := act_wf' w1 (by simp) e2
  have w3 := act_wf' w2 (by simp) e3
  have D1 := Lib.hid (fun (V : World) (p : Nat) (h : PlL F0 w V p (pl0 20000 9000)) => do_e h w0 (by omega) a0 1 .empty 2 0 (by decide) ha)
  have D2 := Lib.hid (fun (V : World) (p : Nat) (h : PlL F0 w V p (Pl.one 20000 9000 a0 2)) => do_e h w1 (by simp) a1 a2 .empty 0 1 (by decide) e2)
  have D3 := Lib.hid (fun (G : Nat → Prop) (V : World) (p : Nat) (h : PlL G w V p X2) => do_g h w2 (by simp) a0 5 .empty 0 1 (by decide) e3)
  have D4 := Lib.hid (fun (G : Nat → Prop) (V : World) (p : Nat) (h : PlL G w V p (gone1 20000 9000 a0)) => do_g h w3 (by simp) a0 a2 .empty 0 1 (by decide) e4)
  have D5 := Lib.hid (fun (G : Nat → Prop) (V : World) (p : Nat) (h : PlL G w V p (gone1 20000 9000 a0)) => used_l h w3.P)
  rw [hu] at D5
  have q0 : ¬ a0 < 0 := by omega
  have q1 : ¬ 3 < a0 := by omega
  have q2 : ¬ a1 < 0 := by omega
  have q3 : ¬ 3 < a1 := by omega
  have q4 : ¬ a2 < 2 := by omega
  have q5 : ¬ 5 < a2 := by omega
  have hE : (er = 0 ∧ (a0 == a1) = true) ∨ (er = 7 ∧ (a0 == a1) = false) := by
    rcases hcase with ⟨q, r⟩ | ⟨q, r⟩
    · exact .inl ⟨r, by simpa using q⟩
    · exact .inr ⟨r, by simpa using q⟩
  obtain ⟨on, hon⟩ : ∃ on, on = O.length := ⟨_, rfl⟩
  rw [← hon] at D2
  clear ha e2 e3 e4 w0 w1 w2 w3 hu hcase h0 h1 h2 hon
  go_enter Tryz.func5, Tryz.ntmps5
  go_wp2_with fail
  refine C1.out.mono ?_
  rintro e W0 ⟨p, rfl, z0⟩
  have E1 := Lib.hid (D1.out W0 p z0)
  clear z0 C1 D1
  go_wp2_with fail
  refine E1.out.mono ?_
  rintro e W1 ⟨r1, s1, rfl, z1⟩
  have E2 := Lib.hid (D2.out W1 p z1)
  clear z1 E1 D2
  go_wp2_with fail
  refine E2.out.mono ?_
  rintro e W2 ⟨r2, s2, rfl, z2⟩
  obtain ⟨V2, hV2⟩ : ∃ V, V = W2.alloc (.cells #[.int .i64 er, .int .i64 0, .slice r2 on s2] 35) := ⟨_, rfl⟩
  have kV2 : Kp (fun _ => False) W2 V2 := by rw [hV2]; exact (Kp.refl _ _).alloc _
  have b2 : V2.heap[W2.heap.size]? = some (.cells #[.int .i64 er, .int .i64 0, .slice r2 on s2] 35 (0, 0)) := by rw [hV2]; exact alloc_at _ _
  have l2 := lt_of_at b2
  have B2 := Lib.hid b2
  have E3 := Lib.hid (D3.out _ V2 p (z2.since kV2))
  have HG : Hid (¬ ((w.heap.size ≤ W2.heap.size) ∧ ¬ (F0 W2.heap.size ∨ (W2.heap.size ≤ W2.heap.size ∧ W2.heap.size < V2.heap.size)))) := Lib.hid (fun q => q.2 (.inr ⟨Nat.le_refl _, l2⟩))
  clear z2 kV2 b2 E2 D3 l2
  go_wp2_with fail
  rw [← hV2]
  clear hV2
  refine E3.out.mono ?_
  rintro e W3 ⟨r3, s3, rfl, z3, k3⟩
  have b3 := k3.at_ B2.out HG.out
  have B3 := Lib.hid b3
  have E4 := Lib.hid (D4.out _ W3 p z3)
  clear z3 k3 b3 E3 D4
  go_wp2_with fail
  refine E4.out.mono ?_
  rintro e W4 ⟨r4, s4, rfl, z4, k4⟩
  have b4 := k4.at_ B3.out HG.out
  obtain ⟨V4, hV4⟩ : ∃ V, V = W4.alloc (.cells #[.int .i64 7, .int .i64 0, .slice r4 0 s4] 35) := ⟨_, rfl⟩
  have kV4 : Kp (fun _ => False) W4 V4 := by rw [hV4]; exact (Kp.refl _ _).alloc _
  have b5 : V4.heap[W4.heap.size]? = some (.cells #[.int .i64 7, .int .i64 0, .slice r4 0 s4] 35 (0, 0)) := by rw [hV4]; exact alloc_at _ _
  have x0 : V4.cell? ⟨W2.heap.size, 0, none⟩ = some (.int .i64 er) := by rw [cell_of (kV4.at_ b4 (fun q => q))]; rfl
  have x1 : V4.cell? ⟨W4.heap.size, 0, none⟩ = some (.int .i64 7) := by rw [cell_of b5]; rfl
  have E5 := Lib.hid (D5.out _ V4 p (z4.kp0 kV4))
  have K4 := Lib.hid (z4.kp.trans kV4)
  have KN := Lib.hid (known12_l V4)
  rw [hV4] at x0 x1
  clear z4 kV4 b4 b5 E4 D5 B2 B3
  rcases hE with ⟨rfl, hE⟩ | ⟨rfl, hE⟩
  all_goals
    go_wp2_with fail
    rw [← hV4]
    clear hV4 x0 x1
    refine E5.out.mono ?_
    rintro e W5 ⟨rfl, rfl⟩
    go_wp2_with fail
    refine KN.out.mono ?_
    rintro e W6 ⟨rfl, k6⟩
    have K6 := Lib.hid (K4.out.trans k6)
    clear k6
    go_wp2_with fail
    go_ret
    exact ⟨rfl, K6.out.below⟩
set_option maxRecDepth 100000 in
set_option maxHeartbeats 2000000 in
theorem walk (a0 : Int) (_ : (Lit.int .i64 a0).wf = true) (a1 : Int) (_ : (Lit.int .i64 a1).wf = true) (a2 : Int) (_ : (Lit.int .i64 a2).wf = true) (w : World) :
    Calls Tryz.prog 5 #[.int .i64 a0, .int .i64 a1, .int .i64 a2] w (LawPost w) := by
  by_cases h : (0 ≤ a0 ∧ a0 < 4) ∧ (0 ≤ a1 ∧ a1 < 4) ∧ 2 ≤ a2 ∧ a2 ≤ 5
  · exact full w a0 a1 a2 h.1 h.2.1 h.2.2
  · have hc : (a0 < 0) ∨ (¬ a0 < 0 ∧ 3 < a0) ∨ (¬ a0 < 0 ∧ ¬ 3 < a0 ∧ a1 < 0) ∨ (¬ a0 < 0 ∧ ¬ 3 < a0 ∧ ¬ a1 < 0 ∧ 3 < a1) ∨ (¬ a0 < 0 ∧ ¬ 3 < a0 ∧ ¬ a1 < 0 ∧ ¬ 3 < a1 ∧ a2 < 2) ∨ (¬ a0 < 0 ∧ ¬ 3 < a0 ∧ ¬ a1 < 0 ∧ ¬ 3 < a1 ∧ ¬ a2 < 2 ∧ 5 < a2) := by omega
    clear h
    rcases hc with q | ⟨q0, q⟩ | ⟨q0, q1, q⟩ | ⟨q0, q1, q2, q⟩ | ⟨q0, q1, q2, q3, q⟩ | ⟨q0, q1, q2, q3, q4, q⟩
    all_goals
      go_enter Tryz.func5, Tryz.ntmps5
      go_wp2_with fail
      go_ret
      exact ⟨rfl, (Kp.refl (fun _ => False) w).below⟩
end Go.Proofs.YtmioiaeiflbmhaaGreat.planOwner
