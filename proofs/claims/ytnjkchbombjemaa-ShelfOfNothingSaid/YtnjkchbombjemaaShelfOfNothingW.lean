/- The walk of ShelfOfNothing. -/
import Derived.Test.YtnjkchbombjemaaShelfE
namespace Go.Proofs.Ytnjkchbombjemaa.shelfOfNothing
open Go Go.RowKit Go.ChangeMaps Go.MapKept Go.Mg Go.Proofs.Ytnjkchbombjemaa.Sh Go.Proofs.Ytnjkchbombjemaa.Op
set_option maxHeartbeats 1000000 in
theorem walk (a0 : ByteArray) (_ : a0.size ≤ maxLen) (a1 : Int) (_ : (Lit.int .i64 a1).wf = true) (w : World) :
    Calls Try.prog 10 #[.string a0, .int .i64 a1] w (LawPost w) := by
  have kc := fun (w : World) (C : Array Value) (n c : Nat) => Lib.run_convert_bytes_const (P := Try.prog) w 22 5 C n c Try.underlying22 Try.underlying5
  by_cases h : 100 < a0.size
  · have h1 : decide ((100 : Int) < (a0.size : Int)) = true := by simp; omega
    go_enter Try.func10, Try.ntmps10
    go_wp2_with fail
    go_ret
    exact ⟨rfl, Below.refl _ _⟩
  · have h1 : decide ((100 : Int) < (a0.size : Int)) = false := by simp; omega
    clear h
    go_enter Try.func10, Try.ntmps10
    go_wp2_with (first | (go_at_call 15; refine (load_nil _ _ _).mono ?_; rintro e w' ⟨rfl, rfl⟩) | (go_at_call 18; refine (retire_nil _ _).mono ?_; rintro e w' ⟨rfl, rfl⟩) | (go_at_call 16; refine (pin_nil _ _).mono ?_; rintro e w' ⟨rfl, rfl⟩) | (go_at_call 20; refine (unpin_nil _ _).mono ?_; rintro e w' ⟨rfl, rfl⟩) | (go_at_call 24; refine (refs_nil _ _).mono ?_; rintro e w' ⟨rfl, rfl⟩) | (go_at_call 19; refine (size_nil _ _).mono ?_; rintro e w' ⟨rfl, rfl⟩) | (go_at_call 17; refine (bytes_nil _).mono ?_; rintro e w' ⟨rfl, rfl⟩) | (go_at_call 13; refine (known_any _).mono ?_; rintro e w3 ⟨rfl, k3⟩))
    go_ret
    exact ⟨rfl, ((kp_lit w _).trans k3).below⟩
end Go.Proofs.Ytnjkchbombjemaa.shelfOfNothing
