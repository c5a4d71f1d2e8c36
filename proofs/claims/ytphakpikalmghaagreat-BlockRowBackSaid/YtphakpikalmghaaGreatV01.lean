/- The walk of BlockRowBack. -/
import Derived.Deep.RegionHeld3
import Derived.Test.YtphakpikalmghaaGreatU25
import Derived.Test.YtphakpikalmghaaGreatU29
import Derived.Test.YtphakpikalmghaaGreatU08
namespace Go.Proofs.YtphakpikalmghaaGreat.blockRowBack
open Go Go.RowKit Go.ChangeMaps Go.MapKept Go.Mg Go.Mt Go.Hf Go.Proofs.YtphakpikalmghaaGreat.Hu Go.Proofs.YtphakpikalmghaaGreat.Bw Go.Proofs.YtphakpikalmghaaGreat.He Go.Proofs.YtphakpikalmghaaGreat.Rd Go.Proofs.YtphakpikalmghaaGreat.Sq Go.Proofs.YtphakpikalmghaaGreat.Bk Go.Proofs.YtphakpikalmghaaGreat.Ma Go.Proofs.YtphakpikalmghaaGreat.Un Go.Proofs.YtphakpikalmghaaGreat.Op

/-- Bytes have lengths. -/
theorem lens_ex (w : World) (p : List UInt8) (hp : p.length ≤ 500) : ∃ L, IsLens (cts p) L := by
  have h1 := (own_m w 3 ((cts p).map nv) (n := (cts p).length) (by simp) (by rw [cts_len]; omega)).sl
  have h2 := lens_p _ (cts p) _ _ h1 (by rw [cts_len]; omega) (by have := cts_sum p; omega)
  obtain ⟨e, w', fr, ⟨L, a, c, _, hL, _⟩, _⟩ := h2 []
  exact ⟨L, hL⟩
set_option maxRecDepth 100000 in
set_option maxHeartbeats 1000000 in
theorem full (w : World) (a0 : Option Addr) (c0 : Nat) (l0 : List UInt8) (r0 : SlR w 1 (.slice a0 l0.length c0) l0.length (l0.map u8c)) (a1 : Option Addr) (c1 : Nat) (l1 : List UInt8) (r1 : SlR w 1 (.slice a1 l1.length c1) l1.length (l1.map u8c))
    (h0 : l0.length ≤ 500) (h1 : l1.length ≤ 50) :
    Calls Tryz.prog 6 #[.slice a0 l0.length c0, .slice a1 l1.length c1] w (LawPost w) := by
  obtain ⟨j0, hj0, hy0, hy1, hy2⟩ := info_parts infoU8c
  have hle := row_le l0
  obtain ⟨R, hR⟩ : ∃ R, R = Bk.rowB l0 := ⟨_, rfl⟩
  obtain ⟨o, m, ok, UP, _, UY⟩ := unrow_both (R ++ l1) (by rw [List.length_append, hR]; omega)
  have hyes : Bk.UnYes (R ++ l1) l0 R.length := by rw [hR]; exact un_row h0 (fun _ => lens_ex w l0 h0)
  obtain ⟨ho, hm, hk⟩ := UY _ _ hyes
  rw [ho, hm, hk] at UP
  clear UY hyes ho hm hk
  unfold UnQ at UP
  have UP := Lib.hid UP
  have RP := Lib.hid (rowP_p w l0 a0 c0 r0 (by omega))
  unfold RowPost7 at RP
  rw [← hR] at RP hle
  have R0 := Lib.hid r0
  have R1 := Lib.hid r1
  obtain ⟨n0, hn0⟩ : ∃ n0, n0 = l0.length := ⟨_, rfl⟩
  obtain ⟨n1, hn1⟩ : ∃ n1, n1 = l1.length := ⟨_, rfl⟩
  obtain ⟨nr, hnr⟩ : ∃ nr, nr = R.length := ⟨_, rfl⟩
  obtain ⟨U, hU⟩ : ∃ U, U = R ++ l1 := ⟨_, rfl⟩
  have HU := Lib.hid hU
  have HUL : Hid (U.length = nr + n1) := Lib.hid (by rw [hU, List.length_append, hnr, hn1])
  rw [← hU] at UP
  rw [HUL.out] at UP
  have HN0 := Lib.hid hn0
  have HN1 := Lib.hid hn1
  have HNR := Lib.hid hnr
  rw [← hn0] at RP UP h0 hle ⊢
  rw [← hn1] at h1 ⊢
  rw [← hnr] at RP UP hle
  have b0 : decide (500 < n0) = false := decide_eq_false (by omega)
  have b0' : decide ((500 : Int) < (n0 : Int)) = false := decide_eq_false (by omega)
  have b1 : decide (50 < n1) = false := decide_eq_false (by omega)
  have b1' : decide ((50 : Int) < (n1 : Int)) = false := decide_eq_false (by omega)
  have VS : Hid (∀ (V V' : World) a c, SlR V 1 (.slice a n0 c) n0 (l0.map u8c) → Kp (fun _ => False) V V' → (convert 22 9 (.slice a n0 c)).run Tryz.prog V' = .ok (.string ⟨l0.toArray⟩) V') := Lib.hid (fun V V' a c h hV => by
    have e : SlR V' 1 (.slice a n0 c) l0.length (l0.map u8c) := by rw [← HN0.out]; exact h.kp hV (fun _ _ q => q)
    exact strOf e)
  have VP : Hid (∀ (V' : World), Kp (fun _ => False) w V' → (convert 22 9 (.slice a0 n0 c0)).run Tryz.prog V' = .ok (.string ⟨l0.toArray⟩) V') := Lib.hid (fun V' hV => by
    refine VS.out w V' a0 c0 ?_ hV
    rw [HN0.out]; exact R0.out)
  have hw1 : IntKind.i64.wrap (3 + max (n0 : Int) 1) = 3 + max (n0 : Int) 1 := by rw [IntKind.wrap_i64]; omega
  have hd1 : decide ((nr : Int) ≤ 3 + max (n0 : Int) 1) = true := decide_eq_true (by omega)
  have hd2 : decide (3 + max (n0 : Int) 1 < (nr : Int)) = false := decide_eq_false (by omega)
  have hd3 : (nr : Int) ≤ 3 + max (n0 : Int) 1 := by omega
  have HM := Lib.hid hle
  clear r0 r1 hR hn0 hn1 hnr hU hle
  go_enter Tryz.func6, Tryz.ntmps6
  go_wp2_with fail
  refine RP.out.mono ?_
  rintro e W ⟨a2, c2, rfl, r2, k2⟩
  have K2 := Lib.hid k2
  have R2 := Lib.hid (RowM.sl r2).1
  have NR := Lib.hid (nil_row W)
  have KA := Lib.hid (kp_alloc W (.cells #[] 5))
  rw [← HNR.out] at R2
  have HP := Lib.hid (R2.out.kp KA.out (fun _ _ q => q))
  have HD := Lib.hid (R1.out.kp k2 (fun _ _ q => q))
  rw [← HN1.out] at HD
  clear r2 k2 RP
  go_wp2_with (at_builtin; first
    | (refine wpList_appM (w0 := W) _ rfl (.tmp 20) (.tmp 21) 22 rfl 5 j0 _ 1 Tryz.underlying22 hj0 hy0 hy1 hy2 rfl (by decide) (by decide) u8c_1c (.slice (some ⟨W.heap.size, 0, none⟩) 0 0) [] rfl NR.out (.slice a2 nr c2) nr R rfl HP.out HNR.out.symm KA.out nr (by simp) (by omega) ?_; intro a5 c5 w5 g1 g2 g3; rw [List.nil_append] at g1; have G1 := Lib.hid g1; have HD1 := Lib.hid (HD.out.kp g2 (fun _ _ q => q)); have G2 := Lib.hid g2; clear g1 g2 g3)
    | (refine wpList_appM (w0 := W) _ rfl (.tmp 22) (.tmp 23) 22 rfl 5 j0 _ 1 Tryz.underlying22 hj0 hy0 hy1 hy2 rfl (by decide) (by decide) u8c_1c (.slice a5 nr c5) R rfl G1.out (.slice a1 n1 c1) n1 l1 rfl HD1.out HN1.out.symm G2.out (nr + n1) (by rw [HNR.out]) (by omega) ?_; intro a6 c6 w6 g1 g2 g3; rw [← HU.out] at g1; have G6 := Lib.hid g1; have K6 := Lib.hid g2; clear g1 g2 g3))
  have S6 := Lib.hid (RowM.sl G6.out).1
  rw [HUL.out] at S6
  refine (UP.out w6 a6 c6 S6.out).mono ?_
  rintro e w2 ⟨a7, c7, rfl, s7, k7⟩
  have K7 := Lib.hid ((K2.out.trans K6.out).trans k7)
  have z7 := VS.out w2 w2 a7 c7 s7 (Kp.refl _ _)
  have z0 := VP.out w2 K7.out
  have KN := Lib.hid (known7_c w2)
  clear s7 k7 UP
  go_wp2_with fail
  all_goals
    refine KN.out.mono ?_
    rintro e w3 ⟨rfl, k9⟩
    have K9 := Lib.hid (K7.out.trans k9)
    clear k9
    go_wp2_with fail
    go_ret
    exact ⟨rfl, K9.out.below⟩
set_option maxRecDepth 100000 in
set_option maxHeartbeats 1000000 in
theorem walk (w : World) (a0 : Option Addr) (c0 : Nat) (l0 : List UInt8) (w0 : SlR w 1 (.slice a0 l0.length c0) l0.length (l0.map u8c)) (a1 : Option Addr) (c1 : Nat) (l1 : List UInt8) (w1 : SlR w 1 (.slice a1 l1.length c1) l1.length (l1.map u8c)) :
    Calls Tryz.prog 6 #[.slice a0 l0.length c0, .slice a1 l1.length c1] w (LawPost w) := by
  by_cases h0 : l0.length ≤ 500
  · by_cases h1 : l1.length ≤ 50
    · exact full w a0 c0 l0 w0 a1 c1 l1 w1 h0 h1
    · have b0 : decide (500 < l0.length) = false := decide_eq_false (by omega)
      have b0' : decide ((500 : Int) < (l0.length : Int)) = false := decide_eq_false (by omega)
      have b1 : decide (50 < l1.length) = true := decide_eq_true (by omega)
      have b1' : decide ((50 : Int) < (l1.length : Int)) = true := decide_eq_true (by omega)
      clear w0 w1 h0 h1
      go_enter Tryz.func6, Tryz.ntmps6
      go_wp2_with fail
      go_ret
      exact ⟨rfl, (Kp.refl (fun _ => False) w).below⟩
  · have b0 : decide (500 < l0.length) = true := decide_eq_true (by omega)
    have b0' : decide ((500 : Int) < (l0.length : Int)) = true := decide_eq_true (by omega)
    clear w0 w1 h0
    go_enter Tryz.func6, Tryz.ntmps6
    go_wp2_with fail
    go_ret
    exact ⟨rfl, (Kp.refl (fun _ => False) w).below⟩
end Go.Proofs.YtphakpikalmghaaGreat.blockRowBack
