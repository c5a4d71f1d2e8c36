/- The walk of DeskOfNothing. -/
import Derived.Test.YthbmfhnkhkhcmaaGreatNdE
import Derived.Test.YthbmfhnkhkhcmaaGreatOpen
namespace Go.Proofs.YthbmfhnkhkhcmaaGreat.deskOfNothing
open Go Go.RowKit Go.ChangeMaps Go.MapKept Go.Mg Go.Proofs.YthbmfhnkhkhcmaaGreat.No Go.Proofs.YthbmfhnkhkhcmaaGreat.Op

set_option maxRecDepth 100000 in
set_option maxHeartbeats 2000000 in
theorem walk (w : World) (p : Bool) (c k : Int) (nm : ByteArray) (lv hd : Int) (da : Option Addr) (ld dc : Nat) (hn : nm.size ≤ maxLen) (hl : ld ≤ maxLen) :
    Calls Tryz.prog 7 #[actAgg p c k nm lv hd (.slice da ld dc)] w (LawPost w) := by
  obtain ⟨W, hW⟩ : ∃ W, W = w.alloc (.cells #[.bool p, .int .i64 c, .int .i64 k, .string nm, .int .i64 lv, .int .i64 hd, .slice da ld dc] 26) := ⟨_, rfl⟩
  have hk : Kp (fun _ => False) w W := by rw [hW]; exact kp_new
  have hWh : W.heap[w.heap.size]? = some (.cells #[.bool p, .int .i64 c, .int .i64 k, .string nm, .int .i64 lv, .int .i64 hd, .slice da ld dc] 26 (0, 0)) := by rw [hW]; exact alloc_at _ _
  have hc : ∀ V, Kp (fun _ => False) W V → ∀ i v, (#[Value.bool p, .int .i64 c, .int .i64 k, .string nm, .int .i64 lv, .int .i64 hd, .slice da ld dc])[i]? = some v → V.cell? ⟨w.heap.size, i, none⟩ = some v := fun V hv i v h => by
    rw [cell_of (hv.at_ hWh (fun q => q))]; exact h
  have HC := Lib.hid hc
  have HK := Lib.hid hk
  have W2h : (W.alloc (.cells #[.bool p, .int .i64 c, .int .i64 k, .string nm, .int .i64 lv, .int .i64 hd, .slice da ld dc] 26)).heap[W.heap.size]? = _ := alloc_at W _
  have hsz : W.heap.size = w.heap.size + 1 := by rw [hW]; simp
  rw [hsz] at W2h
  have C1 := Lib.hid (long13_c (W.alloc (.cells #[.bool p, .int .i64 c, .int .i64 k, .string nm, .int .i64 lv, .int .i64 hd, .slice da ld dc] 26)) (w.heap.size + 1) nm da ld dc (by rw [cell_of W2h]; rfl) (by rw [cell_of W2h]; rfl) hn hl)
  have d0 := hc W (Kp.refl _ _) 0 _ rfl
  have d1 := hc W (Kp.refl _ _) 1 _ rfl
  have d2 := hc W (Kp.refl _ _) 2 _ rfl
  have d3 := hc W (Kp.refl _ _) 3 _ rfl
  have d4 := hc W (Kp.refl _ _) 4 _ rfl
  have d5 := hc W (Kp.refl _ _) 5 _ rfl
  have d6 := hc W (Kp.refl _ _) 6 _ rfl
  clear hk hWh hc W2h hn hl hsz
  unfold actAgg
  go_enter Tryz.func7, Tryz.ntmps7
  go_wp2_with fail
  rw [← hW]
  clear hW
  go_wp2_with fail
  refine C1.out.mono ?_
  rintro e w2 ⟨z, rfl, hw2⟩
  have K2 : Hid (Kp (fun _ => False) W w2) := Lib.hid (by rw [hw2]; exact kp_new)
  have e1 := HC.out w2 K2.out 1 _ rfl
  clear d0 d1 d2 d3 d4 d5 d6 hw2 C1
  cases z with
  | true =>
    go_wp2_with fail
    go_ret
    exact ⟨rfl, (HK.out.trans K2.out).below⟩
  | false =>
    have C2 := Lib.hid (dstep_nil w2 c)
    go_wp2_with fail
    refine C2.out.mono ?_
    rintro e w3 ⟨rfl, k3⟩
    have K3 := Lib.hid (K2.out.trans k3)
    have K4 := Lib.hid (K3.out.alloc (.cells #[.int .i64 0, .int .i64 0, .slice none 0 0] 52))
    have f1 := HC.out _ K4.out 1 _ rfl
    have f2 := HC.out _ K4.out 2 _ rfl
    have f3 := HC.out _ K4.out 3 _ rfl
    have f4 := HC.out _ K4.out 4 _ rfl
    have f5 := HC.out _ K4.out 5 _ rfl
    have f6 := HC.out _ K4.out 6 _ rfl
    have C3 := Lib.hid (invoke_nil (w3.alloc (.cells #[.int .i64 0, .int .i64 0, .slice none 0 0] 52)) c k nm lv hd (.slice da ld dc))
    unfold callAgg at C3
    clear k3 C2 e1
    go_wp2_with fail
    refine C3.out.mono ?_
    rintro e w5 ⟨rfl, k5⟩
    have K5 := Lib.hid ((HK.out.trans K4.out).trans k5)
    clear k5 C3 f1 f2 f3 f4 f5 f6
    go_wp2_with fail
    refine (waits_nil 0 w5).mono ?_
    rintro e w6 ⟨rfl, rfl⟩
    go_wp2_with fail
    refine (effects_nil w6).mono ?_
    rintro e w7 ⟨rfl, rfl⟩
    go_wp2_with fail
    refine (dused_nil w7).mono ?_
    rintro e w8 ⟨rfl, rfl⟩
    go_wp2_with fail
    refine (dsess_nil w8).mono ?_
    rintro e w9 ⟨rfl, rfl⟩
    go_wp2_with fail
    refine (drefs_nil w9 1).mono ?_
    rintro e w10 ⟨rfl, rfl⟩
    go_wp2_with fail
    refine (known13_c w10).mono ?_
    rintro e w11 ⟨rfl, k11⟩
    have K11 := Lib.hid (K5.out.trans k11)
    clear k11
    go_wp2_with fail
    go_ret
    exact ⟨rfl, K11.out.below⟩
end Go.Proofs.YthbmfhnkhkhcmaaGreat.deskOfNothing
