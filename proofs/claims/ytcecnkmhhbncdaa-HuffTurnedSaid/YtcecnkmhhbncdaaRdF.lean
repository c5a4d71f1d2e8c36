/- A symbol of a code: the program's and the document's. -/
import Derived.Test.YtcecnkmhhbncdaaRdE
namespace Go.Proofs.Ytcecnkmhhbncdaa.Rd
open Go Go.RowKit Go.Shelf Go.ChangeMaps Go.MapKept Go.Mg Go.Hf Go.Sort Go.Proofs.Ytcecnkmhhbncdaa.Hu Go.Proofs.Ytcecnkmhhbncdaa.Bw Go.Proofs.Ytcecnkmhhbncdaa.He

def fdv : Option Nat → Int
  | some s => (s : Int)
  | none => -1
/-- The lengths and the codes, in two rows. -/
def Tab (w : World) (xs : List Int) (g o gc : Nat) : Prop := ∀ i, i < xs.length → w.cell? ⟨gc, i, none⟩ = some (.int .i64 (codes xs i)) ∧ w.cell? ⟨g, o + i, none⟩ = some (.int .i64 (lf xs i))
theorem Tab.kp {F : Nat → Prop} {w w' : World} {xs : List Int} {g o gc : Nat} (h : Tab w xs g o gc) (hk : Kp F w w') (h1 : g < w.heap.size ∧ ¬ F g) (h2 : gc < w.heap.size ∧ ¬ F gc) : Tab w' xs g o gc := fun i hi =>
  ⟨(hk.cell (p := ⟨gc, i, none⟩) h2.1 h2.2).trans (h i hi).1, (hk.cell (p := ⟨g, o + i, none⟩) h1.1 h1.2).trans (h i hi).2⟩
theorem fd_step_no {xs : List Int} {code n : Int} {k : Nat} (h : fd xs code n k = none) (hn : ¬ (lf xs k = n ∧ codes xs k = code)) : fd xs code n (k + 1) = none := by simp only [fd, h, if_neg hn]
theorem fd_step_yes {xs : List Int} {code n : Int} {k : Nat} (h : fd xs code n k = none) (hn : lf xs k = n ∧ codes xs k = code) : fd xs code n (k + 1) = some k := by simp only [fd, h, if_pos hn]
set_option maxRecDepth 100000 in
set_option maxHeartbeats 1000000 in
theorem found_p (w : World) (xs : List Int) (g o c gc : Nat) (hl : xs.length ≤ 300) (hcap : xs.length ≤ c) (h : Tab w xs g o gc) (code n : Int) :
    Calls Try.prog 43 #[.slice (some ⟨g, o, none⟩) xs.length c, .slice (some ⟨gc, 0, none⟩) xs.length xs.length, .int .i64 code, .int .i64 n] w fun e w' => e = .returned (.int .i64 (fdv (fd xs code n xs.length))) ∧ w' = w := by
  have H := Lib.hid h
  have HNO := Lib.hid (fun k => fd_step_no (xs := xs) (code := code) (n := n) (k := k))
  have HYES := Lib.hid (fun k => fd_step_yes (xs := xs) (code := code) (n := n) (k := k))
  have HSAME : Hid (∀ k s, k ≤ xs.length → fd xs code n k = some s → fd xs code n xs.length = some s) := Lib.hid (fun k s hk e => fd_same e _ hk)
  have HSTART : Hid (fd xs code n 0 = none) := Lib.hid rfl
  obtain ⟨N, hN⟩ : ∃ N, N = xs.length := ⟨_, rfl⟩
  unfold Tab at H
  obtain ⟨FD, hFD⟩ : ∃ FD, FD = fd xs code n := ⟨_, rfl⟩
  generalize lf xs = X at *
  generalize codes xs = C at *
  rw [← hN] at H HSAME hl hcap ⊢
  rw [← hFD] at HNO HYES HSAME HSTART ⊢
  clear h hN hFD
  go_enter Try.func43, Try.ntmps43
  go_wp2_with fail
  go_loopw [13] (fun i wr => ∃ k : Nat, k ≤ N ∧ i = .int .i64 k ∧ FD k = none ∧ wr = w) (fun i _ => N - (intOf i).toNat)
  case atStart => exact ⟨0, Nat.zero_le _, rfl, HSTART.out, rfl⟩
  case round =>
    obtain ⟨k, hk, rfl, hno, rfl⟩ := hrel
    have HN := Lib.hid hno
    clear hno
    by_cases hkn : k < N
    · obtain ⟨d2, d1⟩ := H.out k hkn
      by_cases e1 : X k = n
      · by_cases e2 : C k = code
        · have HY := Lib.hid (HSAME.out _ _ (by omega) (HYES.out k HN.out ⟨e1, e2⟩))
          rw [e1] at d1
          rw [e2] at d2
          have b1 : (n == n) = true := by simp
          have b2 : (code == code) = true := by simp
          clear e1 e2
          go_wp2_with fail
          go_ret
          exact ⟨by rw [HY.out]; rfl, rfl⟩
        · have HS := Lib.hid (HNO.out k HN.out (fun q => e2 q.2))
          rw [e1] at d1
          obtain ⟨y, hy⟩ : ∃ y, y = C k := ⟨_, rfl⟩
          rw [← hy] at d2 e2
          have b1 : (n == n) = true := by simp
          have b2 : (y == code) = false := by rw [beq_eq_false_iff_ne]; exact e2
          clear e1 e2 hy
          go_wp2_with fail
          exact ⟨⟨k + 1, by omega, by go_num, HS.out, by first | rfl | trivial⟩, by simp [intOf]; omega⟩
      · have HS := Lib.hid (HNO.out k HN.out (fun q => e1 q.1))
        obtain ⟨y, hy⟩ : ∃ y, y = X k := ⟨_, rfl⟩
        rw [← hy] at d1 e1
        have b1 : (y == n) = false := by rw [beq_eq_false_iff_ne]; exact e1
        clear e1 hy
        go_wp2_with fail
        exact ⟨⟨k + 1, by omega, by go_num, HS.out, by first | rfl | trivial⟩, by simp [intOf]; omega⟩
    · obtain rfl : k = N := by omega
      go_wp2_with fail
      go_ret
      exact ⟨by rw [HN.out]; rfl, rfl⟩
set_option maxRecDepth 100000 in
set_option maxHeartbeats 1000000 in
theorem symbol_d (w : World) (xs : List Int) (g o c gc : Nat) (hl : xs.length ≤ 300) (hcap : xs.length ≤ c) (h : Tab w xs g o gc) (code n : Int) :
    Calls Try.prog 57 #[.slice (some ⟨g, o, none⟩) xs.length c, .slice (some ⟨gc, 0, none⟩) xs.length xs.length, .int .i64 code, .int .i64 n] w fun e w' => e = .returned (.int .i64 (fdv (fd xs code n xs.length))) ∧ w' = w := by
  have H := Lib.hid h
  have HNO := Lib.hid (fun k => fd_step_no (xs := xs) (code := code) (n := n) (k := k))
  have HYES := Lib.hid (fun k => fd_step_yes (xs := xs) (code := code) (n := n) (k := k))
  have HSAME : Hid (∀ k s, k ≤ xs.length → fd xs code n k = some s → fd xs code n xs.length = some s) := Lib.hid (fun k s hk e => fd_same e _ hk)
  have HSTART : Hid (fd xs code n 0 = none) := Lib.hid rfl
  obtain ⟨N, hN⟩ : ∃ N, N = xs.length := ⟨_, rfl⟩
  unfold Tab at H
  obtain ⟨FD, hFD⟩ : ∃ FD, FD = fd xs code n := ⟨_, rfl⟩
  generalize lf xs = X at *
  generalize codes xs = C at *
  rw [← hN] at H HSAME hl hcap ⊢
  rw [← hFD] at HNO HYES HSAME HSTART ⊢
  clear h hN hFD
  go_enter Try.func57, Try.ntmps57
  go_wp2_with fail
  go_loopw [9] (fun i wr => ∃ k : Nat, k ≤ N ∧ i = .int .i64 k ∧ FD k = none ∧ wr = w) (fun i _ => N - (intOf i).toNat)
  case atStart => exact ⟨0, Nat.zero_le _, rfl, HSTART.out, rfl⟩
  case round =>
    obtain ⟨k, hk, rfl, hno, rfl⟩ := hrel
    have HN := Lib.hid hno
    clear hno
    by_cases hkn : k < N
    · obtain ⟨d2, d1⟩ := H.out k hkn
      by_cases e1 : X k = n
      · by_cases e2 : C k = code
        · have HY := Lib.hid (HSAME.out _ _ (by omega) (HYES.out k HN.out ⟨e1, e2⟩))
          rw [e1] at d1
          rw [e2] at d2
          have b1 : (n == n) = true := by simp
          have b2 : (code == code) = true := by simp
          clear e1 e2
          go_wp2_with fail
          go_ret
          exact ⟨by rw [HY.out]; rfl, rfl⟩
        · have HS := Lib.hid (HNO.out k HN.out (fun q => e2 q.2))
          rw [e1] at d1
          obtain ⟨y, hy⟩ : ∃ y, y = C k := ⟨_, rfl⟩
          rw [← hy] at d2 e2
          have b1 : (n == n) = true := by simp
          have b2 : (y == code) = false := by rw [beq_eq_false_iff_ne]; exact e2
          clear e1 e2 hy
          go_wp2_with fail
          exact ⟨⟨k + 1, by omega, by go_num, HS.out, by first | rfl | trivial⟩, by simp [intOf]; omega⟩
      · have HS := Lib.hid (HNO.out k HN.out (fun q => e1 q.1))
        obtain ⟨y, hy⟩ : ∃ y, y = X k := ⟨_, rfl⟩
        rw [← hy] at d1 e1
        have b1 : (y == n) = false := by rw [beq_eq_false_iff_ne]; exact e1
        clear e1 hy
        go_wp2_with fail
        exact ⟨⟨k + 1, by omega, by go_num, HS.out, by first | rfl | trivial⟩, by simp [intOf]; omega⟩
    · obtain rfl : k = N := by omega
      go_wp2_with fail
      go_ret
      exact ⟨by rw [HN.out]; rfl, rfl⟩
end Go.Proofs.Ytcecnkmhhbncdaa.Rd
