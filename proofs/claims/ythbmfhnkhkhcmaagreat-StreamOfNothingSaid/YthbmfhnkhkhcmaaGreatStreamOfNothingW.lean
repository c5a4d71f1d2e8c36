/- The walk of StreamOfNothing. -/
import Derived.Test.YthbmfhnkhkhcmaaGreatNsB
import Derived.Test.YthbmfhnkhkhcmaaGreatOpen
namespace Go.Proofs.YthbmfhnkhkhcmaaGreat.streamOfNothing
open Go Go.RowKit Go.ChangeMaps Go.MapKept Go.Mg Go.Proofs.YthbmfhnkhkhcmaaGreat.No Go.Proofs.YthbmfhnkhkhcmaaGreat.Op
set_option maxRecDepth 100000 in
set_option maxHeartbeats 2000000 in
theorem walk (w : World) (a0 : Option Addr) (c0 : Nat) (l0 : List UInt8) (_ : SlR w 1 (.slice a0 l0.length c0) l0.length (l0.map u8c)) : Calls Tryz.prog 5 #[.slice a0 l0.length c0] w (LawPost w) := by
  generalize l0.length = n at *
  by_cases h : (500 : Int) < (n : Int)
  · go_enter Tryz.func5, Tryz.ntmps5
    go_wp2_with fail
    go_ret
    exact ⟨rfl, Below.refl _ _⟩
  · go_enter Tryz.func5, Tryz.ntmps5
    go_wp2_with fail
    refine (write_nil w _).mono ?_
    rintro e w1 ⟨rfl, rfl⟩
    go_wp2_with fail
    refine (flush_nil w1).mono ?_
    rintro e w2 ⟨rfl, rfl⟩
    go_wp2_with fail
    refine (end_nil w2).mono ?_
    rintro e w3 ⟨rfl, rfl⟩
    go_wp2_with fail
    refine (total_nil w3).mono ?_
    rintro e w4 ⟨rfl, rfl⟩
    go_wp2_with fail
    refine (ended_nil w4).mono ?_
    rintro e w5 ⟨rfl, rfl⟩
    go_wp2_with fail
    refine (known9_c w5).mono ?_
    rintro e w6 ⟨rfl, k6⟩
    have K6 := Lib.hid k6
    clear k6
    go_wp2_with fail
    go_ret
    exact ⟨rfl, K6.out.below⟩
end Go.Proofs.YthbmfhnkhkhcmaaGreat.streamOfNothing
