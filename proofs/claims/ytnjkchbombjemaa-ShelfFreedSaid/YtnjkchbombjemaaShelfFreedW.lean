/- The walk of ShelfFreed. -/
import Derived.Test.YtnjkchbombjemaaShelfE
namespace Go.Proofs.Ytnjkchbombjemaa.shelfFreed
open Go Go.RowKit Go.ChangeMaps Go.MapKept Go.Mg Go.Proofs.Ytnjkchbombjemaa.Sh Go.Proofs.Ytnjkchbombjemaa.Op
/-- What is there when the first dictionary is retired and pinned p times. -/
def ft (rest : List (Int × Bk)) (names : List (ByteArray × Int)) (last p : Nat) : Shs := ⟨last, if p = 0 then rest else (1, ⟨abc, false, p⟩) :: rest, names⟩
def frd (p : Nat) : Int := if p = 0 then 1 else 0
theorem frd_one (p : Nat) : (frd p == 1) = decide (p = 0) := by unfold frd; by_cases h : p = 0 <;> simp [h]
theorem frd_01 (p : Nat) : frd p = 0 ∨ frd p = 1 := by unfold frd; by_cases h : p = 0 <;> simp [h]
theorem st_retire (p : Nat) : (st abc p).retire nameA = (ft [] [] 1 p, frd p, 0) := by
  cases p <;> simp [Shs.retire, Shs.retires, st, ft, frd, AL.get, AL.put, AL.del, Shs.lets]
theorem st_load2 (p : Nat) : (st abc p).load nameA [77, 68, 73, 67, 100, 101] = (ft [(2, ⟨[100, 101], true, 0⟩)] [(nameA, 2)] 2 p, 2, frd p, 0) := by
  have hi : isS nameA [77, 68, 73, 67, 100, 101] = 0 := isS_ok (by decide) (by decide) (List.prefix_append _ [100, 101]) (by decide) (by decide)
  unfold Shs.load
  rw [if_pos hi]
  cases p <;> simp [Shs.retires, st, ft, frd, AL.get, AL.put, AL.del, Shs.lets]
theorem ft_size (rest : List (Int × Bk)) (hr : AL.get rest 1 = none) (names : List (ByteArray × Int)) (last p : Nat) : (ft rest names last p).size 1 = if p = 0 then 0 else 3 := by
  unfold Shs.size ft
  cases p with
  | zero => simp [hr]
  | succ p => simp [AL.get_cons, abc]
theorem ft_unpin (rest : List (Int × Bk)) (hr : AL.get rest 1 = none) (names : List (ByteArray × Int)) (last p : Nat) (hp : 0 < p) : (ft rest names last p).unpin 1 = (ft rest names last (p - 1), decide (p = 1)) := by
  cases p with
  | zero => omega
  | succ p =>
    have hd : rest.filter (fun x => decide (x.1 ≠ 1)) = rest := List.filter_eq_self.2 (fun x hx => by simpa using AL.get_none.1 hr x hx)
    have hm : rest.map (fun x => if x.1 = 1 then ((1 : Int), (⟨abc, false, p⟩ : Bk)) else x) = rest := by
      have : rest.map (fun x => if x.1 = 1 then ((1 : Int), (⟨abc, false, p⟩ : Bk)) else x) = rest.map id := List.map_congr_left (fun x hx => by have := AL.get_none.1 hr x hx; simp [this])
      rw [this, List.map_id]
    cases p with
    | zero =>
      have hd' : AL.del ((1, (⟨abc, false, 0⟩ : Bk)) :: rest) 1 = rest := by unfold AL.del; rw [List.filter_cons]; simp only [ne_eq, not_true_eq_false, decide_false, Bool.false_eq_true, if_false]; exact hd
      simp [Shs.unpin, ft, AL.get_cons, AL.put, Shs.lets, hm, hd']
    | succ p => simp [Shs.unpin, ft, AL.get_cons, AL.put, Shs.lets, hm]
theorem ft_unpin0 (rest : List (Int × Bk)) (hr : AL.get rest 1 = none) (names : List (ByteArray × Int)) (last : Nat) : (ft rest names last 0).unpin 1 = (ft rest names last 0, false) := by
  unfold Shs.unpin ft
  simp [hr]
theorem ft_pins (rest : List (Int × Bk)) (names : List (ByteArray × Int)) (last p : Nat) (hp : p ≤ 100) (hr : AL.get rest 1 = none := by rfl) : ∀ k, AL.get (ft rest names last p).books 1 = some k → k.pins < 4611686018427387904 := by
  intro k hk
  unfold ft at hk
  cases p with
  | zero => simp [hr] at hk
  | succ p => simp [AL.get_cons] at hk; subst hk; show p + 1 < _; omega
set_option maxHeartbeats 1000000 in
theorem walk_true_p (n : Nat) (hn : n ≤ 20) (hz : 0 < n) (w : World) :
    Calls Try.prog 7 #[.int .i64 n, .bool true] w (LawPost w) := by
  have t1 : decide ((n : Int) < 0) = false := by simp
  have t2 : decide ((20 : Int) < n) = false := by simp; omega
  have t3 : ((n : Int) == 0) = false := by simp; omega
  have t4 : frd n = 0 := by unfold frd; rw [if_neg (by omega)]
  have kc := fun (w : World) (C : Array Value) (n c : Nat) => Lib.run_convert_bytes_const (P := Try.prog) w 22 5 C n c Try.underlying22 Try.underlying5
  clear hz
  go_enter Try.func7, Try.ntmps7
  go_wp2_with fail
  refine (new_o _).mono ?_
  rintro e w1 ⟨s, rfl, h1⟩
  go_wp2_with fail
  refine (load_st (h1.new (kp_lit _ _)) abc (by decide) (by decide) (some ⟨w1.heap.size, 0, none⟩) 7 7 (lit_sl w1 (dat abc) _ rfl _ (.inr (Nat.le_refl _)) 7 rfl (by decide)) (fun b hb => .inr (by rw [own_b hb]; exact Nat.le_refl _))).mono ?_
  rintro e w2 ⟨rfl, h2⟩
  go_wp2_with fail
  go_loopw [6] (fun i wr => ∃ k : Nat, k ≤ n ∧ i = .int .i64 k ∧ ShO w w2.heap.size wr s (st abc k)) (fun i _ => n - (intOf i).toNat)
  case atStart => exact ⟨0, Nat.zero_le _, rfl, h2⟩
  case round =>
    obtain ⟨k, hk, rfl, hr⟩ := hrel
    by_cases hlt : k < n
    · go_wp2_with (go_at_call 16; refine (pin_st hr (by omega)).mono ?_; rintro e w3 ⟨a3, c3, rfl, h3⟩)
      go_roundw
      case rel => exact ⟨k + 1, by omega, by go_num, h3⟩
      case measure => simp [intOf]; omega
    · obtain rfl : k = n := by omega
      clear hlt hk
      go_wp2_with fail
      refine (load_o (hr.new (kp_lit _ _)) (by show (1 : Nat) < _; decide) nameA (some ⟨wr.heap.size, 0, none⟩) 6 6 [77, 68, 73, 67, 100, 101] (lit_sl wr _ _ rfl _ (.inr (Nat.le_refl _)) 6 rfl (by decide)) (fun b hb => .inr (by rw [own_b hb]; exact hr.B)) (by decide) (by decide)).mono ?_
      unfold LoadO
      rw [st_load2]
      rintro e w3 ⟨rfl, h3⟩
      clear hr h2 h1
      obtain ⟨B, hB⟩ : ∃ B, B = w3.heap.size := ⟨_, rfl⟩
      rw [← hB] at h3
      clear hB
      go_wp2_with fail
      have HT := Lib.hid t4
      clear t4 t3
      go_loopw [8] (fun i wr => ∃ j : Nat, 1 ≤ j ∧ j ≤ k + 1 ∧ i = .int .i64 j ∧ ShO w B wr s (ft [(2, ⟨[100, 101], true, 0⟩)] [(nameA, 2)] 2 (k + 1 - j))) (fun i _ => k + 1 - (intOf i).toNat)
      case atStart => exact ⟨1, Nat.le_refl _, by omega, rfl, h3⟩
      case round =>
        obtain ⟨j, hj1, hj, rfl, hq⟩ := hrel
        by_cases hjl : j ≤ k
        · have hsz : (ft [(2, ⟨[100, 101], true, 0⟩)] [(nameA, 2)] 2 (k + 1 - j)).size 1 = 3 := by rw [ft_size _ rfl, if_neg (by omega)]
          have hd : decide (k + 1 - j = 1) = ((j : Int) == (k : Int)) := by rw [Bool.eq_iff_iff]; simp only [decide_eq_true_eq, beq_iff_eq]; omega
          have HS := Lib.hid hsz
          have HD := Lib.hid hd
          clear hsz hd
          go_wp2_with fail
          refine (size_o hq 1).mono ?_
          rw [HS.out]
          rintro e w4 ⟨rfl, rfl⟩
          go_wp2_with fail
          refine (unpin_o hq 1 (ft_pins _ _ _ _ (by omega))).mono ?_
          unfold UnpinO
          rw [ft_unpin _ rfl _ _ _ (by omega), HD.out]
          rintro e w5 ⟨rfl, h5⟩
          go_wp2_with fail
          refine ⟨⟨j + 1, by omega, by omega, by go_num, ?_⟩, by simp [intOf]; omega⟩
          have e1 : k + 1 - (j + 1) = k + 1 - j - 1 := by omega
          rw [e1]; exact h5
        · have hz : k + 1 - j = 0 := by omega
          rw [hz] at hq
          have hge : k < j := by omega
          clear hz hjl
          go_wp2_with fail
          refine (size_o hq 1).mono ?_
          rw [ft_size _ rfl, if_pos rfl]
          rintro e w4 ⟨rfl, rfl⟩
          go_wp2_with fail
          refine (bytes_o hq (by decide)).mono ?_
          unfold BytesO
          rw [show (ft [(2, ⟨[100, 101], true, 0⟩)] [(nameA, 2)] 2 0).bytes = 2 from rfl]
          rintro e w5 ⟨rfl, h5⟩
          go_wp2_with fail
          refine (unpin_o h5 1 (ft_pins _ _ _ _ (by omega))).mono ?_
          unfold UnpinO
          rw [ft_unpin0 _ rfl]
          rintro e w6 ⟨rfl, h6⟩
          go_wp2_with fail
          refine (known_any _).mono ?_
          rintro e w7 ⟨rfl, k7⟩
          go_wp2_with fail
          go_ret
          exact ⟨rfl, (h6.kp.trans k7).below⟩
set_option maxHeartbeats 1000000 in
theorem walk_true_z (n : Nat) (hn : n ≤ 20) (hz : n = 0) (w : World) :
    Calls Try.prog 7 #[.int .i64 n, .bool true] w (LawPost w) := by
  have t1 : decide ((n : Int) < 0) = false := by simp
  have t2 : decide ((20 : Int) < n) = false := by simp; omega
  have t3 : ((n : Int) == 0) = true := by simp; omega
  have t4 : frd n = 1 := by unfold frd; rw [if_pos hz]
  have kc := fun (w : World) (C : Array Value) (n c : Nat) => Lib.run_convert_bytes_const (P := Try.prog) w 22 5 C n c Try.underlying22 Try.underlying5
  clear hz
  go_enter Try.func7, Try.ntmps7
  go_wp2_with fail
  refine (new_o _).mono ?_
  rintro e w1 ⟨s, rfl, h1⟩
  go_wp2_with fail
  refine (load_st (h1.new (kp_lit _ _)) abc (by decide) (by decide) (some ⟨w1.heap.size, 0, none⟩) 7 7 (lit_sl w1 (dat abc) _ rfl _ (.inr (Nat.le_refl _)) 7 rfl (by decide)) (fun b hb => .inr (by rw [own_b hb]; exact Nat.le_refl _))).mono ?_
  rintro e w2 ⟨rfl, h2⟩
  go_wp2_with fail
  go_loopw [6] (fun i wr => ∃ k : Nat, k ≤ n ∧ i = .int .i64 k ∧ ShO w w2.heap.size wr s (st abc k)) (fun i _ => n - (intOf i).toNat)
  case atStart => exact ⟨0, Nat.zero_le _, rfl, h2⟩
  case round =>
    obtain ⟨k, hk, rfl, hr⟩ := hrel
    by_cases hlt : k < n
    · go_wp2_with (go_at_call 16; refine (pin_st hr (by omega)).mono ?_; rintro e w3 ⟨a3, c3, rfl, h3⟩)
      go_roundw
      case rel => exact ⟨k + 1, by omega, by go_num, h3⟩
      case measure => simp [intOf]; omega
    · obtain rfl : k = n := by omega
      clear hlt hk
      go_wp2_with fail
      refine (load_o (hr.new (kp_lit _ _)) (by show (1 : Nat) < _; decide) nameA (some ⟨wr.heap.size, 0, none⟩) 6 6 [77, 68, 73, 67, 100, 101] (lit_sl wr _ _ rfl _ (.inr (Nat.le_refl _)) 6 rfl (by decide)) (fun b hb => .inr (by rw [own_b hb]; exact hr.B)) (by decide) (by decide)).mono ?_
      unfold LoadO
      rw [st_load2]
      rintro e w3 ⟨rfl, h3⟩
      clear hr h2 h1
      obtain ⟨B, hB⟩ : ∃ B, B = w3.heap.size := ⟨_, rfl⟩
      rw [← hB] at h3
      clear hB
      go_wp2_with fail
      have HT := Lib.hid t4
      clear t4 t3
      go_loopw [8] (fun i wr => ∃ j : Nat, 1 ≤ j ∧ j ≤ k + 1 ∧ i = .int .i64 j ∧ ShO w B wr s (ft [(2, ⟨[100, 101], true, 0⟩)] [(nameA, 2)] 2 (k + 1 - j))) (fun i _ => k + 1 - (intOf i).toNat)
      case atStart => exact ⟨1, Nat.le_refl _, by omega, rfl, h3⟩
      case round =>
        obtain ⟨j, hj1, hj, rfl, hq⟩ := hrel
        by_cases hjl : j ≤ k
        · have hsz : (ft [(2, ⟨[100, 101], true, 0⟩)] [(nameA, 2)] 2 (k + 1 - j)).size 1 = 3 := by rw [ft_size _ rfl, if_neg (by omega)]
          have hd : decide (k + 1 - j = 1) = ((j : Int) == (k : Int)) := by rw [Bool.eq_iff_iff]; simp only [decide_eq_true_eq, beq_iff_eq]; omega
          have HS := Lib.hid hsz
          have HD := Lib.hid hd
          clear hsz hd
          go_wp2_with fail
          refine (size_o hq 1).mono ?_
          rw [HS.out]
          rintro e w4 ⟨rfl, rfl⟩
          go_wp2_with fail
          refine (unpin_o hq 1 (ft_pins _ _ _ _ (by omega))).mono ?_
          unfold UnpinO
          rw [ft_unpin _ rfl _ _ _ (by omega), HD.out]
          rintro e w5 ⟨rfl, h5⟩
          go_wp2_with fail
          refine ⟨⟨j + 1, by omega, by omega, by go_num, ?_⟩, by simp [intOf]; omega⟩
          have e1 : k + 1 - (j + 1) = k + 1 - j - 1 := by omega
          rw [e1]; exact h5
        · have hz : k + 1 - j = 0 := by omega
          rw [hz] at hq
          have hge : k < j := by omega
          clear hz hjl
          go_wp2_with fail
          refine (size_o hq 1).mono ?_
          rw [ft_size _ rfl, if_pos rfl]
          rintro e w4 ⟨rfl, rfl⟩
          go_wp2_with fail
          refine (bytes_o hq (by decide)).mono ?_
          unfold BytesO
          rw [show (ft [(2, ⟨[100, 101], true, 0⟩)] [(nameA, 2)] 2 0).bytes = 2 from rfl]
          rintro e w5 ⟨rfl, h5⟩
          go_wp2_with fail
          refine (unpin_o h5 1 (ft_pins _ _ _ _ (by omega))).mono ?_
          unfold UnpinO
          rw [ft_unpin0 _ rfl]
          rintro e w6 ⟨rfl, h6⟩
          go_wp2_with fail
          refine (known_any _).mono ?_
          rintro e w7 ⟨rfl, k7⟩
          go_wp2_with fail
          go_ret
          exact ⟨rfl, (h6.kp.trans k7).below⟩
set_option maxHeartbeats 1000000 in
theorem walk_false_p (n : Nat) (hn : n ≤ 20) (hz : 0 < n) (w : World) :
    Calls Try.prog 7 #[.int .i64 n, .bool false] w (LawPost w) := by
  have t1 : decide ((n : Int) < 0) = false := by simp
  have t2 : decide ((20 : Int) < n) = false := by simp; omega
  have t3 : ((n : Int) == 0) = false := by simp; omega
  have t4 : frd n = 0 := by unfold frd; rw [if_neg (by omega)]
  have kc := fun (w : World) (C : Array Value) (n c : Nat) => Lib.run_convert_bytes_const (P := Try.prog) w 22 5 C n c Try.underlying22 Try.underlying5
  clear hz
  go_enter Try.func7, Try.ntmps7
  go_wp2_with fail
  refine (new_o _).mono ?_
  rintro e w1 ⟨s, rfl, h1⟩
  go_wp2_with fail
  refine (load_st (h1.new (kp_lit _ _)) abc (by decide) (by decide) (some ⟨w1.heap.size, 0, none⟩) 7 7 (lit_sl w1 (dat abc) _ rfl _ (.inr (Nat.le_refl _)) 7 rfl (by decide)) (fun b hb => .inr (by rw [own_b hb]; exact Nat.le_refl _))).mono ?_
  rintro e w2 ⟨rfl, h2⟩
  go_wp2_with fail
  go_loopw [6] (fun i wr => ∃ k : Nat, k ≤ n ∧ i = .int .i64 k ∧ ShO w w2.heap.size wr s (st abc k)) (fun i _ => n - (intOf i).toNat)
  case atStart => exact ⟨0, Nat.zero_le _, rfl, h2⟩
  case round =>
    obtain ⟨k, hk, rfl, hr⟩ := hrel
    by_cases hlt : k < n
    · go_wp2_with (go_at_call 16; refine (pin_st hr (by omega)).mono ?_; rintro e w3 ⟨a3, c3, rfl, h3⟩)
      go_roundw
      case rel => exact ⟨k + 1, by omega, by go_num, h3⟩
      case measure => simp [intOf]; omega
    · obtain rfl : k = n := by omega
      clear hlt hk
      go_wp2_with fail
      refine (retire_o hr nameA).mono ?_
      unfold RetireO
      rw [st_retire]
      rintro e w3 ⟨rfl, h3⟩
      clear hr h2 h1
      obtain ⟨B, hB⟩ : ∃ B, B = w2.heap.size := ⟨_, rfl⟩
      rw [← hB] at h3
      clear hB
      go_wp2_with fail
      have HT := Lib.hid t4
      clear t4 t3
      go_loopw [8] (fun i wr => ∃ j : Nat, 1 ≤ j ∧ j ≤ k + 1 ∧ i = .int .i64 j ∧ ShO w B wr s (ft [] [] 1 (k + 1 - j))) (fun i _ => k + 1 - (intOf i).toNat)
      case atStart => exact ⟨1, Nat.le_refl _, by omega, rfl, h3⟩
      case round =>
        obtain ⟨j, hj1, hj, rfl, hq⟩ := hrel
        by_cases hjl : j ≤ k
        · have hsz : (ft [] [] 1 (k + 1 - j)).size 1 = 3 := by rw [ft_size _ rfl, if_neg (by omega)]
          have hd : decide (k + 1 - j = 1) = ((j : Int) == (k : Int)) := by rw [Bool.eq_iff_iff]; simp only [decide_eq_true_eq, beq_iff_eq]; omega
          have HS := Lib.hid hsz
          have HD := Lib.hid hd
          clear hsz hd
          go_wp2_with fail
          refine (size_o hq 1).mono ?_
          rw [HS.out]
          rintro e w4 ⟨rfl, rfl⟩
          go_wp2_with fail
          refine (unpin_o hq 1 (ft_pins _ _ _ _ (by omega))).mono ?_
          unfold UnpinO
          rw [ft_unpin _ rfl _ _ _ (by omega), HD.out]
          rintro e w5 ⟨rfl, h5⟩
          go_wp2_with fail
          refine ⟨⟨j + 1, by omega, by omega, by go_num, ?_⟩, by simp [intOf]; omega⟩
          have e1 : k + 1 - (j + 1) = k + 1 - j - 1 := by omega
          rw [e1]; exact h5
        · have hz : k + 1 - j = 0 := by omega
          rw [hz] at hq
          have hge : k < j := by omega
          clear hz hjl
          go_wp2_with fail
          refine (size_o hq 1).mono ?_
          rw [ft_size _ rfl, if_pos rfl]
          rintro e w4 ⟨rfl, rfl⟩
          go_wp2_with fail
          refine (bytes_o hq (by decide)).mono ?_
          unfold BytesO
          rw [show (ft [] [] 1 0).bytes = 0 from rfl]
          rintro e w5 ⟨rfl, h5⟩
          go_wp2_with fail
          refine (unpin_o h5 1 (ft_pins _ _ _ _ (by omega))).mono ?_
          unfold UnpinO
          rw [ft_unpin0 _ rfl]
          rintro e w6 ⟨rfl, h6⟩
          go_wp2_with fail
          refine (known_any _).mono ?_
          rintro e w7 ⟨rfl, k7⟩
          go_wp2_with fail
          go_ret
          exact ⟨rfl, (h6.kp.trans k7).below⟩
set_option maxHeartbeats 1000000 in
theorem walk_false_z (n : Nat) (hn : n ≤ 20) (hz : n = 0) (w : World) :
    Calls Try.prog 7 #[.int .i64 n, .bool false] w (LawPost w) := by
  have t1 : decide ((n : Int) < 0) = false := by simp
  have t2 : decide ((20 : Int) < n) = false := by simp; omega
  have t3 : ((n : Int) == 0) = true := by simp; omega
  have t4 : frd n = 1 := by unfold frd; rw [if_pos hz]
  have kc := fun (w : World) (C : Array Value) (n c : Nat) => Lib.run_convert_bytes_const (P := Try.prog) w 22 5 C n c Try.underlying22 Try.underlying5
  clear hz
  go_enter Try.func7, Try.ntmps7
  go_wp2_with fail
  refine (new_o _).mono ?_
  rintro e w1 ⟨s, rfl, h1⟩
  go_wp2_with fail
  refine (load_st (h1.new (kp_lit _ _)) abc (by decide) (by decide) (some ⟨w1.heap.size, 0, none⟩) 7 7 (lit_sl w1 (dat abc) _ rfl _ (.inr (Nat.le_refl _)) 7 rfl (by decide)) (fun b hb => .inr (by rw [own_b hb]; exact Nat.le_refl _))).mono ?_
  rintro e w2 ⟨rfl, h2⟩
  go_wp2_with fail
  go_loopw [6] (fun i wr => ∃ k : Nat, k ≤ n ∧ i = .int .i64 k ∧ ShO w w2.heap.size wr s (st abc k)) (fun i _ => n - (intOf i).toNat)
  case atStart => exact ⟨0, Nat.zero_le _, rfl, h2⟩
  case round =>
    obtain ⟨k, hk, rfl, hr⟩ := hrel
    by_cases hlt : k < n
    · go_wp2_with (go_at_call 16; refine (pin_st hr (by omega)).mono ?_; rintro e w3 ⟨a3, c3, rfl, h3⟩)
      go_roundw
      case rel => exact ⟨k + 1, by omega, by go_num, h3⟩
      case measure => simp [intOf]; omega
    · obtain rfl : k = n := by omega
      clear hlt hk
      go_wp2_with fail
      refine (retire_o hr nameA).mono ?_
      unfold RetireO
      rw [st_retire]
      rintro e w3 ⟨rfl, h3⟩
      clear hr h2 h1
      obtain ⟨B, hB⟩ : ∃ B, B = w2.heap.size := ⟨_, rfl⟩
      rw [← hB] at h3
      clear hB
      go_wp2_with fail
      have HT := Lib.hid t4
      clear t4 t3
      go_loopw [8] (fun i wr => ∃ j : Nat, 1 ≤ j ∧ j ≤ k + 1 ∧ i = .int .i64 j ∧ ShO w B wr s (ft [] [] 1 (k + 1 - j))) (fun i _ => k + 1 - (intOf i).toNat)
      case atStart => exact ⟨1, Nat.le_refl _, by omega, rfl, h3⟩
      case round =>
        obtain ⟨j, hj1, hj, rfl, hq⟩ := hrel
        by_cases hjl : j ≤ k
        · have hsz : (ft [] [] 1 (k + 1 - j)).size 1 = 3 := by rw [ft_size _ rfl, if_neg (by omega)]
          have hd : decide (k + 1 - j = 1) = ((j : Int) == (k : Int)) := by rw [Bool.eq_iff_iff]; simp only [decide_eq_true_eq, beq_iff_eq]; omega
          have HS := Lib.hid hsz
          have HD := Lib.hid hd
          clear hsz hd
          go_wp2_with fail
          refine (size_o hq 1).mono ?_
          rw [HS.out]
          rintro e w4 ⟨rfl, rfl⟩
          go_wp2_with fail
          refine (unpin_o hq 1 (ft_pins _ _ _ _ (by omega))).mono ?_
          unfold UnpinO
          rw [ft_unpin _ rfl _ _ _ (by omega), HD.out]
          rintro e w5 ⟨rfl, h5⟩
          go_wp2_with fail
          refine ⟨⟨j + 1, by omega, by omega, by go_num, ?_⟩, by simp [intOf]; omega⟩
          have e1 : k + 1 - (j + 1) = k + 1 - j - 1 := by omega
          rw [e1]; exact h5
        · have hz : k + 1 - j = 0 := by omega
          rw [hz] at hq
          have hge : k < j := by omega
          clear hz hjl
          go_wp2_with fail
          refine (size_o hq 1).mono ?_
          rw [ft_size _ rfl, if_pos rfl]
          rintro e w4 ⟨rfl, rfl⟩
          go_wp2_with fail
          refine (bytes_o hq (by decide)).mono ?_
          unfold BytesO
          rw [show (ft [] [] 1 0).bytes = 0 from rfl]
          rintro e w5 ⟨rfl, h5⟩
          go_wp2_with fail
          refine (unpin_o h5 1 (ft_pins _ _ _ _ (by omega))).mono ?_
          unfold UnpinO
          rw [ft_unpin0 _ rfl]
          rintro e w6 ⟨rfl, h6⟩
          go_wp2_with fail
          refine (known_any _).mono ?_
          rintro e w7 ⟨rfl, k7⟩
          go_wp2_with fail
          go_ret
          exact ⟨rfl, (h6.kp.trans k7).below⟩
set_option maxHeartbeats 1000000 in
theorem walk_out (a0 : Int) (a1 : Bool) (w : World) (h0 : a0 < 0 ∨ 20 < a0) :
    Calls Try.prog 7 #[.int .i64 a0, .bool a1] w (LawPost w) := by
  go_enter Try.func7, Try.ntmps7
  go_wp2_with fail
  all_goals go_ret
  all_goals exact ⟨rfl, Below.refl _ _⟩
theorem walk (a0 : Int) (_ : (Lit.int .i64 a0).wf = true) (a1 : Bool) (w : World) : Calls Try.prog 7 #[.int .i64 a0, .bool a1] w (LawPost w) := by
  by_cases h0 : a0 < 0 ∨ 20 < a0
  · exact walk_out a0 a1 w h0
  obtain ⟨n, rfl⟩ : ∃ n : Nat, a0 = n := ⟨a0.toNat, by omega⟩
  have hn : n ≤ 20 := by omega
  rcases Nat.eq_zero_or_pos n with h | h <;> cases a1
  · exact walk_false_z n hn h w
  · exact walk_true_z n hn h w
  · exact walk_false_p n hn h w
  · exact walk_true_p n hn h w
end Go.Proofs.Ytnjkchbombjemaa.shelfFreed
