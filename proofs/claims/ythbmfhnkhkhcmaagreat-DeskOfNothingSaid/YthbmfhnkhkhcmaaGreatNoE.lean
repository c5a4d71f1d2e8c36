/- What the shop's laws know; acts that are too long. -/
import Derived.Test.YthbmfhnkhkhcmaaGreatNoC
namespace Go.Proofs.YthbmfhnkhkhcmaaGreat.No
open Go Go.RowKit Go.ChangeMaps Go.MapKept Go.Mg

set_option maxRecDepth 100000 in
set_option maxHeartbeats 2000000 in
theorem known14_c (w : World) : Calls Tryz.prog 15 #[] w fun e w' => e = .returned (.bool true) ∧ Kp (fun _ => False) w w' := by
  have C1 : Hid (Calls Tryz.prog 51 #[.int .i64 9000, .int .i64 9000] w (NewPost (fun w' p => ShopE w' p 9000) w)) := Lib.hid (shop_new 9000 (by omega) w)
  go_enter Tryz.func15, Tryz.ntmps15
  go_wp2_with fail
  refine C1.out.mono ?_
  rintro e w1 ⟨s, rfl, _, h1, k1⟩
  have C2 := Lib.hid (legal_c h1 (by omega))
  have H1 := Lib.hid h1
  have K1 := Lib.hid k1
  clear h1 k1 C1
  go_wp2_with fail
  refine C2.out.mono ?_
  rintro e w2 ⟨rfl, k2⟩
  have H2 := Lib.hid (H1.out.kp k2)
  have K2 := Lib.hid (K1.out.trans k2)
  have C3 := Lib.hid (ret_c H2.out)
  clear k2 C2
  go_wp2_with fail
  refine C3.out.mono ?_
  rintro e w3 ⟨rfl, rfl⟩
  have C4 := Lib.hid (do_pick H2.out)
  clear C3
  go_wp2_with fail
  refine C4.out.mono ?_
  rintro e w4 ⟨rfl, k4⟩
  have H4 := Lib.hid (H2.out.kp k4)
  have K4 := Lib.hid (K2.out.trans k4)
  have C5 := Lib.hid (rest_c H4.out)
  clear k4 C4
  go_wp2_with fail
  refine C5.out.mono ?_
  rintro e w5 ⟨rfl, k5⟩
  have H5 := Lib.hid (H4.out.kp k5)
  have K5 := Lib.hid (K4.out.trans k5)
  have C6 := Lib.hid (desk_c H5.out)
  clear k5 C5
  go_wp2_with fail
  refine C6.out.mono ?_
  rintro e w6 ⟨⟨d, rfl⟩, rfl⟩
  go_wp2_with fail
  go_ret
  exact ⟨rfl, K5.out⟩
def BoolPost (w : World) (e : Ending) (w' : World) : Prop := ∃ z : Bool, e = .returned (.bool z) ∧ w' = w
set_option maxRecDepth 100000 in
set_option maxHeartbeats 1000000 in
theorem long14_c (w : World) (g : Nat) (nm : ByteArray) (da : Option Addr) (ld dc : Nat) (h1 : w.cell? ⟨g, 3, none⟩ = some (.string nm)) (h2 : w.cell? ⟨g, 6, none⟩ = some (.slice da ld dc)) (hn : nm.size ≤ maxLen) (hd : ld ≤ maxLen) :
    Calls Tryz.prog 8 #[.slice (some ⟨g, 0, none⟩) 1 1] w (BoolPost w) := by
  unfold maxLen at hn hd
  go_enter Tryz.func8, Tryz.ntmps8
  go_wp2_with fail
  go_loopw [3, 4] (fun n i wr => wr = w ∧ ((i = .int .i64 0 ∧ n = .int .i64 0) ∨ (i = .int .i64 1 ∧ n = .int .i64 (ld : Nat) ∧ ld ≤ 3200))) (fun _ i _ => 1 - (intOf i).toNat)
  case atStart => exact ⟨rfl, .inl ⟨rfl, rfl⟩⟩
  case round =>
    obtain ⟨rfl, ⟨rfl, rfl⟩ | ⟨rfl, rfl, hl⟩⟩ := hrel
    · by_cases c1 : 50 < nm.size
      · have c1' : (50 : Int) < (nm.size : Int) := by omega
        go_wp2_with fail
        go_ret
        exact ⟨_, rfl, rfl⟩
      · have c1' : ¬ (50 : Int) < (nm.size : Int) := by omega
        by_cases c2 : 3200 < ld
        · have c2' : (3200 : Int) < (ld : Int) := by omega
          go_wp2_with fail
          go_ret
          exact ⟨_, rfl, rfl⟩
        · have c2' : ¬ (3200 : Int) < (ld : Int) := by omega
          go_wp2_with fail
          exact ⟨⟨by first | trivial | rfl, .inr ⟨by go_num, by go_num, by omega⟩⟩, by simp [intOf]⟩
    · have hl' : ¬ (12000 : Int) < (ld : Int) := by omega
      go_wp2_with fail
      go_ret
      exact ⟨_, rfl, rfl⟩
end Go.Proofs.YthbmfhnkhkhcmaaGreat.No
