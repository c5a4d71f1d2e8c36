/- Streams that may not be; a nil Stream; what the laws know. -/
import Derived.Test.YthbmfhnkhkhcmaaGreatNsA
namespace Go.Proofs.YthbmfhnkhkhcmaaGreat.No
open Go Go.RowKit Go.ChangeMaps Go.MapKept Go.Mg

set_option maxRecDepth 100000 in
set_option maxHeartbeats 2000000 in
theorem stream_none (w : World) (n : Nat) (a : Option Addr) (c : Nat) (id lv : Int) (h : dep lv = 0 ∨ id < 0 ∨ 2147483647 < id ∨ 2000 < n) (hn : n ≤ 1000000) :
    Calls Tryz.prog 16 #[.slice a n c, .int .i64 id, .int .i64 lv] w fun e w' => e = .returned (.pointer none) ∧ w' = w := by
  have D := Lib.hid (depth_c lv w)
  generalize dep lv = dl at *
  by_cases h1 : dl = 0
  · subst h1
    clear h
    go_enter Tryz.func16, Tryz.ntmps16
    go_wp2_with fail
    refine D.out.mono ?_
    rintro e w1 ⟨rfl, rfl⟩
    go_wp2_with fail
    go_ret
    exact ⟨rfl, rfl⟩
  · have h1' : (dl == 0) = false := by simpa using h1
    by_cases h2 : id < 0
    · clear h
      have h2' : decide (id < 0) = true := decide_eq_true h2
      go_enter Tryz.func16, Tryz.ntmps16
      go_wp2_with fail
      refine D.out.mono ?_
      rintro e w1 ⟨rfl, rfl⟩
      go_wp2_with fail
      go_ret
      exact ⟨rfl, rfl⟩
    · have h2' : decide (id < 0) = false := decide_eq_false h2
      by_cases h3 : 2147483647 < id
      · clear h
        have h3' : decide (2147483647 < id) = true := decide_eq_true h3
        go_enter Tryz.func16, Tryz.ntmps16
        go_wp2_with fail
        refine D.out.mono ?_
        rintro e w1 ⟨rfl, rfl⟩
        go_wp2_with fail
        go_ret
        exact ⟨rfl, rfl⟩
      · have h3' : decide (2147483647 < id) = false := decide_eq_false h3
        have h4 : (2000 : Int) < (n : Int) := by omega
        have h4' : decide ((2000 : Int) < (n : Int)) = true := decide_eq_true h4
        clear h
        go_enter Tryz.func16, Tryz.ntmps16
        go_wp2_with fail
        refine D.out.mono ?_
        rintro e w1 ⟨rfl, rfl⟩
        go_wp2_with fail
        go_ret
        exact ⟨rfl, rfl⟩
theorem ended_nil (w : World) : Calls Tryz.prog 22 #[.pointer none] w fun e w' => e = .returned (.bool true) ∧ w' = w := by
  go_enter Tryz.func22, Tryz.ntmps22
  go_wp2_with fail
  go_ret
  exact ⟨rfl, rfl⟩
theorem ended_c {w : World} {s : Nat} (h : StreamE w s) : Calls Tryz.prog 22 #[.pointer (some ⟨s, 0, none⟩)] w fun e w' => e = .returned (.bool false) ∧ w' = w := by
  have d0 := h.ended
  clear h
  go_enter Tryz.func22, Tryz.ntmps22
  go_wp2_with fail
  go_ret
  exact ⟨rfl, rfl⟩
theorem flush_c {w : World} {s : Nat} (h : StreamE w s) : Calls Tryz.prog 19 #[.pointer (some ⟨s, 0, none⟩)] w fun e w' => e = .returned (.slice none 0 0) ∧ w' = w := by
  have C := Lib.hid (ended_c h)
  have d0 := h.kept
  clear h
  go_enter Tryz.func19, Tryz.ntmps19
  go_wp2_with fail
  refine C.out.mono ?_
  rintro e w1 ⟨rfl, rfl⟩
  go_wp2_with fail
  go_ret
  exact ⟨rfl, rfl⟩
theorem flush_nil (w : World) : Calls Tryz.prog 19 #[.pointer none] w fun e w' => e = .returned (.slice none 0 0) ∧ w' = w := by
  go_enter Tryz.func19, Tryz.ntmps19
  go_wp2_with fail
  refine (ended_nil w).mono ?_
  rintro e w1 ⟨rfl, rfl⟩
  go_wp2_with fail
  go_ret
  exact ⟨rfl, rfl⟩
theorem end_nil (w : World) : Calls Tryz.prog 20 #[.pointer none] w fun e w' => e = .returned (.slice none 0 0) ∧ w' = w := by
  go_enter Tryz.func20, Tryz.ntmps20
  go_wp2_with fail
  refine (ended_nil w).mono ?_
  rintro e w1 ⟨rfl, rfl⟩
  go_wp2_with fail
  go_ret
  exact ⟨rfl, rfl⟩
theorem write_nil (w : World) (v : Value) : Calls Tryz.prog 18 #[.pointer none, v] w fun e w' => e = .returned (.slice none 0 0) ∧ w' = w := by
  go_enter Tryz.func18, Tryz.ntmps18
  go_wp2_with fail
  refine (ended_nil w).mono ?_
  rintro e w1 ⟨rfl, rfl⟩
  go_wp2_with fail
  go_ret
  exact ⟨rfl, rfl⟩
theorem total_nil (w : World) : Calls Tryz.prog 21 #[.pointer none] w fun e w' => e = .returned (.int .i64 0) ∧ w' = w := by
  go_enter Tryz.func21, Tryz.ntmps21
  go_wp2_with fail
  go_ret
  exact ⟨rfl, rfl⟩
set_option maxRecDepth 100000 in
set_option maxHeartbeats 1000000 in
theorem known9_c (w : World) : Calls Tryz.prog 17 #[] w fun e w' => e = .returned (.bool true) ∧ Kp (fun _ => False) w w' := by
  have C1 := Lib.hid (stream_new w 0 none 0 0 1 ⟨by simp, none, 0, rfl, Nat.le_refl _, by unfold maxLen; omega, fun _ => rfl, fun h => absurd h (by omega)⟩ (by decide) (by decide) (by decide) (by decide))
  go_enter Tryz.func17, Tryz.ntmps17
  go_wp2_with fail
  refine C1.out.mono ?_
  rintro e w1 ⟨s, rfl, _, h1, k1⟩
  have C2 := Lib.hid (flush_c h1)
  have C3 := Lib.hid (ended_c h1)
  have K1 := Lib.hid k1
  clear h1 k1 C1
  go_wp2_with fail
  refine C2.out.mono ?_
  rintro e w2 ⟨rfl, rfl⟩
  go_wp2_with fail
  refine C3.out.mono ?_
  rintro e w3 ⟨rfl, rfl⟩
  go_wp2_with fail
  refine (stream_none w3 0 none 0 0 4 (.inl (by decide)) (by omega)).mono ?_
  rintro e w4 ⟨rfl, rfl⟩
  go_wp2_with fail
  refine (depth_c 3 w4).mono ?_
  rintro e w5 ⟨rfl, rfl⟩
  have hd : dep 3 = 32 := by decide
  rw [hd]
  go_wp2_with fail
  go_ret
  exact ⟨rfl, K1.out⟩
end Go.Proofs.YthbmfhnkhkhcmaaGreat.No
