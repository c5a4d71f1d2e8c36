/- The walk of StreamNew. -/
import Derived.Test.YthbmfhnkhkhcmaaGreatNsB
import Derived.Test.YthbmfhnkhkhcmaaGreatOpen
import Derived.Laws.MakeOwn
namespace Go.Proofs.YthbmfhnkhkhcmaaGreat.streamNew
open Go Go.RowKit Go.ChangeMaps Go.MapKept Go.Mg Go.Proofs.YthbmfhnkhkhcmaaGreat.No Go.Proofs.YthbmfhnkhkhcmaaGreat.Op

theorem make_u8 (w : World) (n : Nat) (hn : n ≤ 1000000) : ∃ cur : Array Value, cur.toList = List.replicate n (.int .u8 0) ∧
    (Instr.makeSlice 22 (.int .i64 (n : Nat)) (.int .i64 (n : Nat))).run Tryz.prog w = .ok (.slice (some ⟨w.heap.size, 0, none⟩) n n) (w.alloc (.cells cur 5)) := by
  obtain ⟨i0, hi0, hz0, hz1, hz2⟩ := info_parts infoU
  have h := run_make (P := Tryz.prog) w 22 5 i0 _ Tryz.underlying22 hi0 hz0 .i64 .i64 (n : Int) (n : Int) (by omega) (by omega) (by rw [hz2]; omega) (by omega)
  rw [hz1] at h
  refine ⟨_, ?_, h⟩
  show (madeCells #[_] _).toList = _
  rw [toList_madeCells_one]
  simp
theorem made_sl {w : World} {n : Nat} {cur : Array Value} (hn : n ≤ 1000000) (hc : cur.toList = List.replicate n (.int .u8 0)) : SlR (w.alloc (.cells cur 5)) 1 (.slice (some ⟨w.heap.size, 0, none⟩) n n) n (List.replicate n (.int .u8 0)) := by
  refine ⟨by simp, _, _, rfl, Nat.le_refl _, by unfold maxLen; omega, (fun h => by cases h), fun _ => ⟨w.heap.size, 0, rfl, by simp, fun i u hu => ?_⟩⟩
  rw [Nat.zero_add, cell_of (alloc_at w _), ← hu, ← hc, Array.getElem?_toList]
theorem dep_ok {l : Int} (h1 : 1 ≤ l) (h3 : l ≤ 3) : dep l ≠ 0 := by
  have : l = 1 ∨ l = 2 ∨ l = 3 := by omega
  rcases this with rfl | rfl | rfl <;> decide
theorem dep_no {l : Int} (h : l < 1 ∨ 3 < l) : dep l = 0 := by
  unfold dep
  rw [if_neg (by omega), if_neg (by omega), if_neg (by omega)]
set_option maxRecDepth 100000 in
set_option maxHeartbeats 4000000 in
theorem walk_n (n : Nat) (hn : n ≤ 2100) (id lv : Int) (w : World) : Calls Tryz.prog 4 #[.int .i64 (n : Nat), .int .i64 id, .int .i64 lv] w (LawPost w) := by
  obtain ⟨cur, hcur, hmk⟩ := make_u8 w n (by omega)
  have S0 := Lib.hid (made_sl (w := w) (by omega) hcur)
  have hn0 : ¬ (2100 : Int) < (n : Int) := by omega
  clear hcur
  by_cases hok : 1 ≤ lv ∧ lv ≤ 3 ∧ 0 ≤ id ∧ id ≤ 2147483647 ∧ n ≤ 2000
  · obtain ⟨h1, h2, h3, h4, h5⟩ := hok
    have C1 := Lib.hid (stream_new _ n _ n id lv S0.out (dep_ok h1 h2) h3 h4 h5)
    have g1 : decide ((n : Int) ≤ 2000) = true := decide_eq_true (by omega)
    have g2 : decide (0 ≤ id) = true := decide_eq_true h3
    have g3 : decide (id < 2147483648) = true := decide_eq_true (by omega)
    have g4 : decide (1 ≤ lv) = true := decide_eq_true h1
    have g5 : decide (lv ≤ 3) = true := decide_eq_true h2
    go_enter Tryz.func4, Tryz.ntmps4
    go_wp2_with fail
    refine C1.out.mono ?_
    rintro e w1 ⟨s, rfl, _, _, k1⟩
    have K1 := Lib.hid (kp_new.trans k1)
    clear k1 C1 S0 hmk
    go_wp2_with fail
    refine (known9_c w1).mono ?_
    rintro e w2 ⟨rfl, k2⟩
    have K2 := Lib.hid (K1.out.trans k2)
    clear k2
    go_wp2_with fail
    go_ret
    exact ⟨rfl, K2.out.below⟩
  · by_cases c5 : n ≤ 2000
    · have dc5 : decide ((n : Int) ≤ 2000) = true := decide_eq_true (by omega)
      by_cases c3 : 0 ≤ id
      · have dc3 : decide (0 ≤ id) = true := decide_eq_true (by omega)
        by_cases c4 : id ≤ 2147483647
        · have dc4 : decide (id < 2147483648) = true := decide_eq_true (by omega)
          by_cases c1 : 1 ≤ lv
          · have dc1 : decide (1 ≤ lv) = true := decide_eq_true (by omega)
            by_cases c2 : lv ≤ 3
            · exact (hok ⟨c1, c2, c3, c4, c5⟩).elim
            · clear hok
              have dc2 : decide (lv ≤ 3) = false := decide_eq_false (by omega)
              have C1 := Lib.hid (stream_none (w.alloc (.cells cur 5)) n (some ⟨w.heap.size, 0, none⟩) n id lv (.inl (dep_no (.inr (by omega)))) (by omega))
              have g0 : ¬ (n : Int) < 0 := by omega
              go_enter Tryz.func4, Tryz.ntmps4
              go_wp2_with fail
              refine C1.out.mono ?_
              rintro e w1 ⟨rfl, hw1⟩
              have K1 : Hid (Kp (fun _ => False) w w1) := Lib.hid (by rw [hw1]; exact kp_new)
              clear C1 S0 hmk hw1
              go_wp2_with fail
              refine (known9_c w1).mono ?_
              rintro e w2 ⟨rfl, k2⟩
              have K2 := Lib.hid (K1.out.trans k2)
              clear k2
              go_wp2_with fail
              go_ret
              exact ⟨rfl, K2.out.below⟩
          · clear hok
            have dc1 : decide (1 ≤ lv) = false := decide_eq_false (by omega)
            have C1 := Lib.hid (stream_none (w.alloc (.cells cur 5)) n (some ⟨w.heap.size, 0, none⟩) n id lv (.inl (dep_no (.inl (by omega)))) (by omega))
            have g0 : ¬ (n : Int) < 0 := by omega
            go_enter Tryz.func4, Tryz.ntmps4
            go_wp2_with fail
            refine C1.out.mono ?_
            rintro e w1 ⟨rfl, hw1⟩
            have K1 : Hid (Kp (fun _ => False) w w1) := Lib.hid (by rw [hw1]; exact kp_new)
            clear C1 S0 hmk hw1
            go_wp2_with fail
            refine (known9_c w1).mono ?_
            rintro e w2 ⟨rfl, k2⟩
            have K2 := Lib.hid (K1.out.trans k2)
            clear k2
            go_wp2_with fail
            go_ret
            exact ⟨rfl, K2.out.below⟩
        · clear hok
          have dc4 : decide (id < 2147483648) = false := decide_eq_false (by omega)
          have C1 := Lib.hid (stream_none (w.alloc (.cells cur 5)) n (some ⟨w.heap.size, 0, none⟩) n id lv (.inr (.inr (.inl (by omega)))) (by omega))
          have g0 : ¬ (n : Int) < 0 := by omega
          go_enter Tryz.func4, Tryz.ntmps4
          go_wp2_with fail
          refine C1.out.mono ?_
          rintro e w1 ⟨rfl, hw1⟩
          have K1 : Hid (Kp (fun _ => False) w w1) := Lib.hid (by rw [hw1]; exact kp_new)
          clear C1 S0 hmk hw1
          go_wp2_with fail
          refine (known9_c w1).mono ?_
          rintro e w2 ⟨rfl, k2⟩
          have K2 := Lib.hid (K1.out.trans k2)
          clear k2
          go_wp2_with fail
          go_ret
          exact ⟨rfl, K2.out.below⟩
      · clear hok
        have dc3 : decide (0 ≤ id) = false := decide_eq_false (by omega)
        have C1 := Lib.hid (stream_none (w.alloc (.cells cur 5)) n (some ⟨w.heap.size, 0, none⟩) n id lv (.inr (.inl (by omega))) (by omega))
        have g0 : ¬ (n : Int) < 0 := by omega
        go_enter Tryz.func4, Tryz.ntmps4
        go_wp2_with fail
        refine C1.out.mono ?_
        rintro e w1 ⟨rfl, hw1⟩
        have K1 : Hid (Kp (fun _ => False) w w1) := Lib.hid (by rw [hw1]; exact kp_new)
        clear C1 S0 hmk hw1
        go_wp2_with fail
        refine (known9_c w1).mono ?_
        rintro e w2 ⟨rfl, k2⟩
        have K2 := Lib.hid (K1.out.trans k2)
        clear k2
        go_wp2_with fail
        go_ret
        exact ⟨rfl, K2.out.below⟩
    · clear hok
      have dc5 : decide ((n : Int) ≤ 2000) = false := decide_eq_false (by omega)
      have C1 := Lib.hid (stream_none (w.alloc (.cells cur 5)) n (some ⟨w.heap.size, 0, none⟩) n id lv (.inr (.inr (.inr (by omega)))) (by omega))
      have g0 : ¬ (n : Int) < 0 := by omega
      go_enter Tryz.func4, Tryz.ntmps4
      go_wp2_with fail
      refine C1.out.mono ?_
      rintro e w1 ⟨rfl, hw1⟩
      have K1 : Hid (Kp (fun _ => False) w w1) := Lib.hid (by rw [hw1]; exact kp_new)
      clear C1 S0 hmk hw1
      go_wp2_with fail
      refine (known9_c w1).mono ?_
      rintro e w2 ⟨rfl, k2⟩
      have K2 := Lib.hid (K1.out.trans k2)
      clear k2
      go_wp2_with fail
      go_ret
      exact ⟨rfl, K2.out.below⟩
theorem walk (a0 : Int) (w0 : (Lit.int .i64 a0).wf = true) (a1 : Int) (_ : (Lit.int .i64 a1).wf = true) (a2 : Int) (_ : (Lit.int .i64 a2).wf = true) (w : World) : Calls Tryz.prog 4 #[.int .i64 a0, .int .i64 a1, .int .i64 a2] w (LawPost w) := by
  by_cases h : 0 ≤ a0 ∧ a0 ≤ 2100
  · obtain ⟨n, rfl⟩ : ∃ n : Nat, a0 = n := ⟨a0.toNat, by omega⟩
    exact walk_n n (by omega) a1 a2 w
  · clear w0
    by_cases h2 : a0 < 0
    · clear h
      go_enter Tryz.func4, Tryz.ntmps4
      go_wp2_with fail
      go_ret
      exact ⟨rfl, Below.refl _ _⟩
    · have h3 : 2100 < a0 := by omega
      clear h
      go_enter Tryz.func4, Tryz.ntmps4
      go_wp2_with fail
      go_ret
      exact ⟨rfl, Below.refl _ _⟩
end Go.Proofs.YthbmfhnkhkhcmaaGreat.streamNew
