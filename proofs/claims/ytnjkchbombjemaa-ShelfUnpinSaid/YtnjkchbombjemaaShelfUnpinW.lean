/- The walk of ShelfUnpin. -/
import Derived.Test.YtnjkchbombjemaaShelfE
namespace Go.Proofs.Ytnjkchbombjemaa.shelfUnpin
open Go Go.RowKit Go.ChangeMaps Go.MapKept Go.Mg Go.Proofs.Ytnjkchbombjemaa.Sh Go.Proofs.Ytnjkchbombjemaa.Op
set_option maxHeartbeats 1000000 in
theorem walk_out (a0 a1 : Int) (w : World) (h0 : a0 < 0 ∨ 10 < a0 ∨ a1 < 0 ∨ 10 < a1) :
    Calls Try.prog 11 #[.int .i64 a0, .int .i64 a1] w (LawPost w) := by
  go_enter Try.func11, Try.ntmps11
  go_wp2_with fail
  all_goals go_ret
  all_goals exact ⟨rfl, Below.refl _ _⟩
set_option maxHeartbeats 1000000 in
theorem walk_in (n m : Nat) (hn : n ≤ 10) (hm : m ≤ 10) (w : World) :
    Calls Try.prog 11 #[.int .i64 n, .int .i64 m] w (LawPost w) := by
  have t1 : decide ((n : Int) < 0) = false := by simp
  have t2 : decide ((10 : Int) < n) = false := by simp; omega
  have t3 : decide ((m : Int) < 0) = false := by simp
  have t4 : decide ((10 : Int) < m) = false := by simp; omega
  have kc := fun (w : World) (C : Array Value) (n c : Nat) => Lib.run_convert_bytes_const (P := Try.prog) w 22 5 C n c Try.underlying22 Try.underlying5
  go_enter Try.func11, Try.ntmps11
  go_wp2_with fail
  refine (new_o _).mono ?_
  rintro e w1 ⟨s, rfl, h1⟩
  go_wp2_with fail
  refine (load_st (h1.new (kp_lit _ _)) abc (by decide) (by decide) (some ⟨w1.heap.size, 0, none⟩) 7 7 (lit_sl w1 (dat abc) _ rfl _ (.inr (Nat.le_refl _)) 7 rfl (by decide)) (fun b hb => .inr (by rw [own_b hb]; exact Nat.le_refl _))).mono ?_
  rintro e w2 ⟨rfl, h2⟩
  go_wp2_with fail
  go_loopw [6] (fun i wr => ∃ k : Nat, k ≤ n ∧ i = .int .i64 k ∧ ShO w w2.heap.size wr s (st abc k)) (fun i _ => n - (intOf i).toNat)
  case atStart => exact ⟨0, Nat.zero_le _, rfl, h2⟩
  case round =>
    obtain ⟨k, hk, rfl, hr⟩ := hrel
    by_cases hlt : k < n
    · go_wp2_with (go_at_call 16; refine (pin_st hr (by omega)).mono ?_; rintro e w3 ⟨a3, c3, rfl, h3⟩)
      go_roundw
      case rel => exact ⟨k + 1, by omega, by go_num, h3⟩
      case measure => simp [intOf]; omega
    · obtain rfl : k = n := by omega
      clear hlt
      go_wp2_with fail
      obtain ⟨wo, hwo⟩ : ∃ wo, wo = w2.heap.size := ⟨_, rfl⟩
      rw [← hwo] at hr
      clear hwo h2 h1
      go_loopw [7] (fun i wr => ∃ j : Nat, j ≤ k + m ∧ i = .int .i64 j ∧ ShO w wo wr s (st abc (k - j))) (fun i _ => k + m - (intOf i).toNat)
      case atStart => exact ⟨0, Nat.zero_le _, rfl, hr⟩
      case round =>
        obtain ⟨j, hj, rfl, hq⟩ := hrel
        by_cases hjl : j < k + m
        · go_wp2_with fail
          refine (unpin_st hq (by omega)).mono ?_
          rintro e w3 ⟨rfl, h3⟩
          go_wp2_with fail
          refine (size_o h3 1).mono ?_
          rw [size_abc]
          rintro e w4 ⟨rfl, rfl⟩
          go_wp2_with fail
          refine (refs_o h3 1).mono ?_
          rw [st_refs]
          rintro e w4 ⟨rfl, rfl⟩
          go_wp2_with fail
          refine ⟨⟨j + 1, by omega, by go_num, ?_⟩, by simp [intOf]; omega⟩
          have e1 : k - (j + 1) = k - j - 1 := by omega
          rw [e1]; exact h3
        · have hz : k - j = 0 := by omega
          rw [hz] at hq
          have hge : k + m ≤ j := by omega
          clear hz hjl
          go_wp2_with fail
          refine (retire_o hq nameA).mono ?_
          unfold RetireO
          rw [st_retire0]
          rintro e w3 ⟨rfl, h3⟩
          go_wp2_with fail
          refine (retire_o h3 nameA).mono ?_
          unfold RetireO
          rw [none_retire]
          rintro e w4 ⟨rfl, h4⟩
          go_wp2_with fail
          refine (bytes_o h4 (by decide)).mono ?_
          rintro e w5 ⟨rfl, h5⟩
          go_wp2_with fail
          refine (known_any _).mono ?_
          rintro e w6 ⟨rfl, k6⟩
          go_wp2_with fail
          go_ret
          exact ⟨rfl, (h5.kp.trans k6).below⟩
theorem walk (a0 : Int) (_ : (Lit.int .i64 a0).wf = true) (a1 : Int) (_ : (Lit.int .i64 a1).wf = true) (w : World) :
    Calls Try.prog 11 #[.int .i64 a0, .int .i64 a1] w (LawPost w) := by
  by_cases h0 : a0 < 0 ∨ 10 < a0 ∨ a1 < 0 ∨ 10 < a1
  · exact walk_out a0 a1 w h0
  obtain ⟨n, rfl⟩ : ∃ n : Nat, a0 = n := ⟨a0.toNat, by omega⟩
  obtain ⟨m, rfl⟩ : ∃ m : Nat, a1 = m := ⟨a1.toNat, by omega⟩
  exact walk_in n m (by omega) (by omega) w
end Go.Proofs.Ytnjkchbombjemaa.shelfUnpin
