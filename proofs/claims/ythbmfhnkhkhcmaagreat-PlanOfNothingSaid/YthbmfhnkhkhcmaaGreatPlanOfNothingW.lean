/- The walk of PlanOfNothing. -/
import Derived.Test.YthbmfhnkhkhcmaaGreatNpD
import Derived.Test.YthbmfhnkhkhcmaaGreatOpen
namespace Go.Proofs.YthbmfhnkhkhcmaaGreat.planOfNothing
open Go Go.RowKit Go.ChangeMaps Go.MapKept Go.Mg Go.Proofs.YthbmfhnkhkhcmaaGreat.No Go.Proofs.YthbmfhnkhkhcmaaGreat.Op

set_option maxRecDepth 100000 in
set_option maxHeartbeats 2000000 in
theorem walk (w : World) (c k : Int) (nm : ByteArray) (lv hd : Int) (da : Option Addr) (ld dc : Nat) (hn : nm.size ≤ maxLen) (hl : ld ≤ maxLen) :
    Calls Tryz.prog 6 #[.agg #[.int .i64 c, .int .i64 k, .string nm, .int .i64 lv, .int .i64 hd, .slice da ld dc]] w (LawPost w) := by
  obtain ⟨W, hW⟩ : ∃ W, W = w.alloc (.cells #[.int .i64 c, .int .i64 k, .string nm, .int .i64 lv, .int .i64 hd, .slice da ld dc] 47) := ⟨_, rfl⟩
  have hk : Kp (fun _ => False) w W := by rw [hW]; exact kp_new
  have hWh : W.heap[w.heap.size]? = some (.cells #[.int .i64 c, .int .i64 k, .string nm, .int .i64 lv, .int .i64 hd, .slice da ld dc] 47 (0, 0)) := by rw [hW]; exact alloc_at _ _
  have hc : ∀ V, Kp (fun _ => False) W V → ∀ i v, (#[Value.int .i64 c, .int .i64 k, .string nm, .int .i64 lv, .int .i64 hd, .slice da ld dc])[i]? = some v → V.cell? ⟨w.heap.size, i, none⟩ = some v := fun V hv i v h => by
    rw [cell_of (hv.at_ hWh (fun q => q))]; exact h
  have HC := Lib.hid hc
  have HK := Lib.hid hk
  have W2h : (W.alloc (.cells #[.int .i64 c, .int .i64 k, .string nm, .int .i64 lv, .int .i64 hd, .slice da ld dc] 47)).heap[W.heap.size]? = _ := alloc_at W _
  have hsz : W.heap.size = w.heap.size + 1 := by rw [hW]; simp
  rw [hsz] at W2h
  have C1 := Lib.hid (long12_c (W.alloc (.cells #[.int .i64 c, .int .i64 k, .string nm, .int .i64 lv, .int .i64 hd, .slice da ld dc] 47)) (w.heap.size + 1) nm da ld dc (by rw [cell_of W2h]; rfl) (by rw [cell_of W2h]; rfl) hn hl)
  have d0 := hc W (Kp.refl _ _) 0 _ rfl
  have d1 := hc W (Kp.refl _ _) 1 _ rfl
  have d2 := hc W (Kp.refl _ _) 2 _ rfl
  have d3 := hc W (Kp.refl _ _) 3 _ rfl
  have d4 := hc W (Kp.refl _ _) 4 _ rfl
  have d5 := hc W (Kp.refl _ _) 5 _ rfl
  have F0 := fld0
  clear hk hWh hc W2h hn hl hsz
  go_enter Tryz.func6, Tryz.ntmps6
  go_wp2_with fail
  rw [← hW]
  clear hW
  go_wp2_with fail
  refine C1.out.mono ?_
  rintro e w2 ⟨z, rfl, hw2⟩
  have K2 : Hid (Kp (fun _ => False) W w2) := Lib.hid (by rw [hw2]; exact kp_new)
  have e0 := HC.out w2 K2.out 0 _ rfl
  have e1 := HC.out w2 K2.out 1 _ rfl
  have e2 := HC.out w2 K2.out 2 _ rfl
  have e3 := HC.out w2 K2.out 3 _ rfl
  have e4 := HC.out w2 K2.out 4 _ rfl
  have e5 := HC.out w2 K2.out 5 _ rfl
  clear d0 d1 d2 d3 d4 d5 hw2 C1
  cases z with
  | true =>
    go_wp2_with fail
    go_ret
    exact ⟨rfl, (HK.out.trans K2.out).below⟩
  | false =>
    have C2 := Lib.hid (do_nil12 w2 c k nm lv hd (.slice da ld dc))
    go_wp2_with fail
    refine C2.out.mono ?_
    rintro e w3 ⟨rfl, k3⟩
    have K3 := Lib.hid ((HK.out.trans K2.out).trans k3)
    clear k3 C2 e0 e1 e2 e3 e4 e5
    go_wp2_with fail
    refine (pused_nil w3).mono ?_
    rintro e w4 ⟨rfl, rfl⟩
    go_wp2_with fail
    refine (pof_nil w4 0).mono ?_
    rintro e w5 ⟨rfl, rfl⟩
    go_wp2_with fail
    refine (psess_nil w5).mono ?_
    rintro e w6 ⟨rfl, rfl⟩
    go_wp2_with fail
    refine (prefs_nil w6 1).mono ?_
    rintro e w7 ⟨rfl, rfl⟩
    go_wp2_with fail
    refine (known12_c w7).mono ?_
    rintro e w9 ⟨rfl, k9⟩
    have K9 := Lib.hid (K3.out.trans k9)
    clear k9
    go_wp2_with fail
    go_ret
    exact ⟨rfl, K9.out.below⟩
end Go.Proofs.YthbmfhnkhkhcmaaGreat.planOfNothing
