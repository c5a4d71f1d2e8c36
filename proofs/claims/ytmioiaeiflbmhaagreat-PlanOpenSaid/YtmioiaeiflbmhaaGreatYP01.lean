/- A Plan's answers, other blocks being kept. The walk of PlanOpen. -/
import Derived.Test.YtmioiaeiflbmhaaGreatX33
import Derived.Test.YtmioiaeiflbmhaaGreatX09
set_option linter.unusedVariables false
namespace Go.Proofs.YtmioiaeiflbmhaaGreat.Pl
open Go Go.RowKit Go.ChangeMaps Go.MapKept Go.Mg
def GPost (G : Nat → Prop) (w0 w : World) (p : Nat) (X' : Pls) (er n : Int) (on : Nat) (e : Ending) (w' : World) : Prop := ∃ (a : Option Addr) (c : Nat), e = .returned (.agg #[.int .i64 er, .int .i64 n, .slice a on c]) ∧ PlL G w0 w' p X' ∧ Kp (fun k => w0.heap.size ≤ k ∧ ¬ G k) w w'
theorem do_g {G : Nat → Prop} {w0 w : World} {p : Nat} {X : Pls} (h : PlL G w0 w p X) {N : Nat} (hw : X.Wf N) (hN : N ≤ 30000) (cl k : Int) (nm : ByteArray) (lv hd : Int) (hnm : nm.size ≤ 9223372036854775807) {X' : Pls} {er n : Int} {O : List UInt8} (ha : X.act cl ⟨k, nm, lv, hd, []⟩ = (X', ⟨er, n, O⟩)) :
    Calls Tryz.prog 15 #[.pointer (some ⟨p, 0, none⟩), .int .i64 cl, .agg #[.int .i64 k, .string nm, .int .i64 lv, .int .i64 hd, .slice none 0 0]] w (GPost G w0 w p X' er n O.length) := by
  have C := do_l h hw hN cl k nm lv hd none 0 [] (SlR.nil _ _) (fun b hb => by cases hb) hnm (by simp)
  rw [ha] at C
  refine C.mono ?_
  rintro e w' ⟨a, c, rfl, _, h1, h2⟩
  exact ⟨a, c, rfl, h1.less (fun k q => .inl q), h2⟩
end Go.Proofs.YtmioiaeiflbmhaaGreat.Pl
set_option linter.unusedVariables false
namespace Go.Proofs.YtmioiaeiflbmhaaGreat.planOpen
open Go Go.RowKit Go.ChangeMaps Go.MapKept Go.Mg Go.Proofs.YtmioiaeiflbmhaaGreat.Pl Go.Proofs.YtmioiaeiflbmhaaGreat.Op
def nmD : ByteArray := ⟨#[100]⟩
def nmL : ByteArray := ⟨#[97, 98, 99, 100, 101, 102, 103, 104, 105, 106, 107, 108, 109]⟩
theorem e1 : (pl0 2600 9000).act 1 ⟨1, nmD, 4, 0, []⟩ = (pl0 2600 9000, ⟨1, 0, []⟩) := by
  unfold Pls.act
  rw [if_neg (by omega), if_pos rfl]
  unfold Pls.opn
  rw [if_pos (.inr (.inl (by decide)))]
theorem e2 : (pl0 2600 9000).act 1 ⟨1, nmL, 1, 0, []⟩ = (pl0 2600 9000, ⟨1, 0, []⟩) := by
  unfold Pls.act
  rw [if_neg (by omega), if_pos rfl]
  unfold Pls.opn
  rw [if_pos (.inr (.inr (by decide)))]
theorem e3 : (pl0 2600 9000).act 1 ⟨1, nmD, 1, 0, []⟩ = (pl0 2600 9000, ⟨5, 0, []⟩) := by
  unfold Pls.act
  rw [if_neg (by omega), if_pos rfl]
  unfold Pls.opn
  rw [if_neg (by simp only; rintro (q | q | q); omega; omega; exact absurd q (by decide))]
  simp only
  rw [if_neg (show ¬ nmD.size = 0 by decide)]
  have : (pl0 2600 9000).S.pin nmD = (⟨0, [], []⟩, 0, [], 5) := rfl
  rw [this]
  rw [if_neg (by decide)]
  rfl
theorem e4 : (Pl.one 2600 9000 0 1).act 1 ⟨1, .empty, 1, 0, []⟩ = (Pl.one 2600 9000 0 1, ⟨6, 0, []⟩) := by
  unfold Pls.act
  rw [if_neg (by omega), if_pos rfl]
  unfold Pls.opn
  rw [if_neg (by simp only; rintro (q | q | q); omega; omega; exact absurd q (by decide))]
  simp only
  rw [if_pos (show ByteArray.empty.size = 0 from rfl)]
  unfold Pls.opens
  have hu := one_used (all := 2600) (each := 9000) (cl := 0) (lv := 1) (by decide) (by decide) (by decide)
  have ha : (Pl.one 2600 9000 0 1).P.all = 2600 := by
    show ((pu0 2600 9000).take 0 2500).all = 2600
    unfold Pu.take
    rw [if_pos (has_pu0 (by decide) (by decide) (by decide))]
    rfl
  rw [if_neg (fun q : (Pl.one 2600 9000 0 1).P.has 1 2500 => by
    have := q.2.2.2.2
    rw [hu, ha] at this
    omega)]
  rfl
theorem e5 : (pl0 2600 9000).act 4 ⟨1, .empty, 1, 0, []⟩ = (pl0 2600 9000, ⟨1, 0, []⟩) := by
  unfold Pls.act
  rw [if_pos (.inr (by decide))]
set_option maxRecDepth 100000 in
set_option maxHeartbeats 2000000 in
theorem way0 (w : World) : Calls Tryz.prog 6 #[.int .i64 0] w (LawPost w) := by
  have C1 := Lib.hid (new_l (w0 := w) (Kp.refl _ w) 2600 9000)
  have D := Lib.hid (fun (V : World) (p : Nat) (h : PlL F0 w V p (pl0 2600 9000)) => do_e h (pl0_wf _ _) (by omega) 1 1 .empty 1 0 (by decide) (open1 (all := 2600) (each := 9000) (lv := 1) (hd := 0) (by decide) (by decide) (by decide) (by decide)))
  go_enter Tryz.func6, Tryz.ntmps6
  go_wp2_with fail
  refine C1.out.mono ?_
  rintro e W0 ⟨p, rfl, z0⟩
  have E1 := Lib.hid (D.out _ p (z0.kp0 ((Kp.refl (fun _ => False) W0).alloc (.cells #[.int .i64 1, .string .empty, .int .i64 1, .int .i64 0, .slice none 0 0] 25))))
  clear z0 C1 D
  go_wp2_with fail
  refine E1.out.mono ?_
  rintro e W1 ⟨ra, rc, rfl, z1⟩
  have K := Lib.hid (z1.kp.trans ((Kp.refl (fun _ => False) W1).alloc (.cells #[.int .i64 0, .int .i64 1, .slice ra 0 rc] 35)))
  have KN := Lib.hid (known12_l (W1.alloc (.cells #[.int .i64 0, .int .i64 1, .slice ra 0 rc] 35)))
  clear z1
  go_wp2_with fail
  refine KN.out.mono ?_
  rintro e W6 ⟨rfl, k6⟩
  have K6 := Lib.hid (K.out.trans k6)
  clear k6
  go_wp2_with fail
  go_ret
  exact ⟨rfl, K6.out.below⟩
set_option maxRecDepth 100000 in
set_option maxHeartbeats 2000000 in
theorem way1 (w : World) : Calls Tryz.prog 6 #[.int .i64 1] w (LawPost w) := by
  have C1 := Lib.hid (new_l (w0 := w) (Kp.refl _ w) 2600 9000)
  have D := Lib.hid (fun (V : World) (p : Nat) (h : PlL F0 w V p (pl0 2600 9000)) => do_e h (pl0_wf _ _) (by omega) 1 1 ⟨#[100]⟩ 4 0 (by decide) (e1))
  go_enter Tryz.func6, Tryz.ntmps6
  go_wp2_with fail
  refine C1.out.mono ?_
  rintro e W0 ⟨p, rfl, z0⟩
  have E1 := Lib.hid (D.out _ p (z0.kp0 ((Kp.refl (fun _ => False) W0).alloc (.cells #[.int .i64 1, .string ⟨#[100]⟩, .int .i64 4, .int .i64 0, .slice none 0 0] 25))))
  clear z0 C1 D
  go_wp2_with fail
  refine E1.out.mono ?_
  rintro e W1 ⟨ra, rc, rfl, z1⟩
  have K := Lib.hid (z1.kp.trans ((Kp.refl (fun _ => False) W1).alloc (.cells #[.int .i64 1, .int .i64 0, .slice ra 0 rc] 35)))
  have KN := Lib.hid (known12_l (W1.alloc (.cells #[.int .i64 1, .int .i64 0, .slice ra 0 rc] 35)))
  clear z1
  go_wp2_with fail
  refine KN.out.mono ?_
  rintro e W6 ⟨rfl, k6⟩
  have K6 := Lib.hid (K.out.trans k6)
  clear k6
  go_wp2_with fail
  go_ret
  exact ⟨rfl, K6.out.below⟩
set_option maxRecDepth 100000 in
set_option maxHeartbeats 2000000 in
theorem way2 (w : World) : Calls Tryz.prog 6 #[.int .i64 2] w (LawPost w) := by
  have C1 := Lib.hid (new_l (w0 := w) (Kp.refl _ w) 2600 9000)
  have D := Lib.hid (fun (V : World) (p : Nat) (h : PlL F0 w V p (pl0 2600 9000)) => do_e h (pl0_wf _ _) (by omega) 1 1 nmL 1 0 (by decide) (e2))
  unfold nmL at D
  go_enter Tryz.func6, Tryz.ntmps6
  go_wp2_with fail
  refine C1.out.mono ?_
  rintro e W0 ⟨p, rfl, z0⟩
  have E1 := Lib.hid (D.out _ p (z0.kp0 ((Kp.refl (fun _ => False) W0).alloc (.cells #[.int .i64 1, .string ⟨#[97, 98, 99, 100, 101, 102, 103, 104, 105, 106, 107, 108, 109]⟩, .int .i64 1, .int .i64 0, .slice none 0 0] 25))))
  clear z0 C1 D
  go_wp2_with fail
  refine E1.out.mono ?_
  rintro e W1 ⟨ra, rc, rfl, z1⟩
  have K := Lib.hid (z1.kp.trans ((Kp.refl (fun _ => False) W1).alloc (.cells #[.int .i64 1, .int .i64 0, .slice ra 0 rc] 35)))
  have KN := Lib.hid (known12_l (W1.alloc (.cells #[.int .i64 1, .int .i64 0, .slice ra 0 rc] 35)))
  clear z1
  go_wp2_with fail
  refine KN.out.mono ?_
  rintro e W6 ⟨rfl, k6⟩
  have K6 := Lib.hid (K.out.trans k6)
  clear k6
  go_wp2_with fail
  go_ret
  exact ⟨rfl, K6.out.below⟩
set_option maxRecDepth 100000 in
set_option maxHeartbeats 2000000 in
theorem way3 (w : World) : Calls Tryz.prog 6 #[.int .i64 3] w (LawPost w) := by
  have C1 := Lib.hid (new_l (w0 := w) (Kp.refl _ w) 2600 9000)
  have D := Lib.hid (fun (V : World) (p : Nat) (h : PlL F0 w V p (pl0 2600 9000)) => do_e h (pl0_wf _ _) (by omega) 1 1 ⟨#[100]⟩ 1 0 (by decide) (e3))
  go_enter Tryz.func6, Tryz.ntmps6
  go_wp2_with fail
  refine C1.out.mono ?_
  rintro e W0 ⟨p, rfl, z0⟩
  have E1 := Lib.hid (D.out _ p (z0.kp0 ((Kp.refl (fun _ => False) W0).alloc (.cells #[.int .i64 1, .string ⟨#[100]⟩, .int .i64 1, .int .i64 0, .slice none 0 0] 25))))
  clear z0 C1 D
  go_wp2_with fail
  refine E1.out.mono ?_
  rintro e W1 ⟨ra, rc, rfl, z1⟩
  have K := Lib.hid (z1.kp.trans ((Kp.refl (fun _ => False) W1).alloc (.cells #[.int .i64 5, .int .i64 0, .slice ra 0 rc] 35)))
  have KN := Lib.hid (known12_l (W1.alloc (.cells #[.int .i64 5, .int .i64 0, .slice ra 0 rc] 35)))
  clear z1
  go_wp2_with fail
  refine KN.out.mono ?_
  rintro e W6 ⟨rfl, k6⟩
  have K6 := Lib.hid (K.out.trans k6)
  clear k6
  go_wp2_with fail
  go_ret
  exact ⟨rfl, K6.out.below⟩
set_option maxRecDepth 100000 in
set_option maxHeartbeats 2000000 in
theorem way5 (w : World) : Calls Tryz.prog 6 #[.int .i64 5] w (LawPost w) := by
  have C1 := Lib.hid (new_l (w0 := w) (Kp.refl _ w) 2600 9000)
  have D := Lib.hid (fun (V : World) (p : Nat) (h : PlL F0 w V p (pl0 2600 9000)) => do_e h (pl0_wf _ _) (by omega) 4 1 .empty 1 0 (by decide) (e5))
  go_enter Tryz.func6, Tryz.ntmps6
  go_wp2_with fail
  refine C1.out.mono ?_
  rintro e W0 ⟨p, rfl, z0⟩
  have E1 := Lib.hid (D.out _ p (z0.kp0 ((Kp.refl (fun _ => False) W0).alloc (.cells #[.int .i64 1, .string .empty, .int .i64 1, .int .i64 0, .slice none 0 0] 25))))
  clear z0 C1 D
  go_wp2_with fail
  refine E1.out.mono ?_
  rintro e W1 ⟨ra, rc, rfl, z1⟩
  have K := Lib.hid (z1.kp.trans ((Kp.refl (fun _ => False) W1).alloc (.cells #[.int .i64 1, .int .i64 0, .slice ra 0 rc] 35)))
  have KN := Lib.hid (known12_l (W1.alloc (.cells #[.int .i64 1, .int .i64 0, .slice ra 0 rc] 35)))
  clear z1
  go_wp2_with fail
  refine KN.out.mono ?_
  rintro e W6 ⟨rfl, k6⟩
  have K6 := Lib.hid (K.out.trans k6)
  clear k6
  go_wp2_with fail
  go_ret
  exact ⟨rfl, K6.out.below⟩
set_option maxRecDepth 100000 in
set_option maxHeartbeats 2000000 in
theorem way4 (w : World) : Calls Tryz.prog 6 #[.int .i64 4] w (LawPost w) := by
  have C1 := Lib.hid (new_l (w0 := w) (Kp.refl _ w) 2600 9000)
  have ha := open1 (all := 2600) (each := 9000) (cl := 0) (lv := 1) (hd := 0) (by decide) (by decide) (by decide) (by decide)
  have wf1 := act_wf' (pl0_wf 2600 9000) (by omega) ha
  have D1 := Lib.hid (fun (G : Nat → Prop) (V : World) (p : Nat) (h : PlL G w V p (pl0 2600 9000)) => do_g h (pl0_wf _ _) (by omega) 0 1 .empty 1 0 (by decide) ha)
  have D2 := Lib.hid (fun (V : World) (p : Nat) (h : PlL F0 w V p (Pl.one 2600 9000 0 1)) => do_e h wf1 (by simp) 1 1 .empty 1 0 (by decide) e4)
  clear ha wf1
  go_enter Tryz.func6, Tryz.ntmps6
  go_wp2_with fail
  refine C1.out.mono ?_
  rintro e W0 ⟨p, rfl, z0⟩
  obtain ⟨V, hV⟩ : ∃ V, V = W0.alloc (.cells #[.int .i64 1, .string ⟨#[]⟩, .int .i64 1, .int .i64 0, .slice none 0 0] 25) := ⟨_, rfl⟩
  have kV : Kp (fun _ => False) W0 V := by rw [hV]; exact (Kp.refl _ _).alloc _
  have b := alloc_at W0 (.cells #[.int .i64 1, .string ⟨#[]⟩, .int .i64 1, .int .i64 0, .slice none 0 0] 25)
  rw [← hV] at b
  have lb := lt_of_at b
  have B := Lib.hid b
  have E1 := Lib.hid (D1.out _ V p (z0.since kV))
  have HG : Hid (¬ ((w.heap.size ≤ W0.heap.size) ∧ ¬ (F0 W0.heap.size ∨ (W0.heap.size ≤ W0.heap.size ∧ W0.heap.size < V.heap.size)))) := Lib.hid (fun q => q.2 (.inr ⟨Nat.le_refl _, lb⟩))
  clear z0 C1 D1 kV b lb
  go_wp2_with fail
  rw [← hV]
  clear hV
  refine E1.out.mono ?_
  rintro e W2 ⟨ra0, rc0, rfl, z1, k1⟩
  have b1 := k1.at_ B.out HG.out
  have x0 : W2.cell? ⟨W0.heap.size, 0, none⟩ = some (.int .i64 1) := by rw [cell_of b1]; rfl
  have x1 : W2.cell? ⟨W0.heap.size, 1, none⟩ = some (.string ⟨#[]⟩) := by rw [cell_of b1]; rfl
  have x2 : W2.cell? ⟨W0.heap.size, 2, none⟩ = some (.int .i64 1) := by rw [cell_of b1]; rfl
  have x3 : W2.cell? ⟨W0.heap.size, 3, none⟩ = some (.int .i64 0) := by rw [cell_of b1]; rfl
  have x4 : W2.cell? ⟨W0.heap.size, 4, none⟩ = some (.slice none 0 0) := by rw [cell_of b1]; rfl
  have E2 := Lib.hid (D2.out W2 p (z1.less (fun k q => .inl q)))
  clear z1 k1 b1 D2 E1
  go_wp2_with fail
  refine E2.out.mono ?_
  rintro e W1 ⟨ra, rc, rfl, z1⟩
  clear x0 x1 x2 x3 x4
  have K := Lib.hid (z1.kp.trans ((Kp.refl (fun _ => False) W1).alloc (.cells #[.int .i64 6, .int .i64 0, .slice ra 0 rc] 35)))
  have KN := Lib.hid (known12_l (W1.alloc (.cells #[.int .i64 6, .int .i64 0, .slice ra 0 rc] 35)))
  clear z1
  go_wp2_with fail
  refine KN.out.mono ?_
  rintro e W6 ⟨rfl, k6⟩
  have K6 := Lib.hid (K.out.trans k6)
  clear k6
  go_wp2_with fail
  go_ret
  exact ⟨rfl, K6.out.below⟩
set_option maxRecDepth 100000 in
set_option maxHeartbeats 2000000 in
theorem walk (a0 : Int) (_ : (Lit.int .i64 a0).wf = true) (w : World) : Calls Tryz.prog 6 #[.int .i64 a0] w (LawPost w) := by
  by_cases h : 0 ≤ a0 ∧ a0 ≤ 5
  · have : a0 = 0 ∨ a0 = 1 ∨ a0 = 2 ∨ a0 = 3 ∨ a0 = 4 ∨ a0 = 5 := by omega
    rcases this with rfl | rfl | rfl | rfl | rfl | rfl
    · exact way0 w
    · exact way1 w
    · exact way2 w
    · exact way3 w
    · exact way4 w
    · exact way5 w
  · have hc : a0 < 0 ∨ (¬ a0 < 0 ∧ 5 < a0) := by omega
    clear h
    rcases hc with q | ⟨q0, q⟩
    all_goals
      go_enter Tryz.func6, Tryz.ntmps6
      go_wp2_with fail
      go_ret
      exact ⟨rfl, (Kp.refl (fun _ => False) w).below⟩
end Go.Proofs.YtmioiaeiflbmhaaGreat.planOpen
