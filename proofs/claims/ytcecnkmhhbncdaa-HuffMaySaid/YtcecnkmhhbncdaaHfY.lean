/- The law's halved: is the sum more than 144 times the least? -/
import Derived.Test.YtcecnkmhhbncdaaHfA
import Derived.Test.YtcecnkmhhbncdaaQuiet
namespace Go.Proofs.Ytcecnkmhhbncdaa.Hu
open Go Go.RowKit Go.ChangeMaps Go.MapKept Go.Mg Go.Hf Go.Sort

/-- The least count above 0, or z. -/
def lstF (z : Nat) (cs : List Nat) : Nat := cs.foldl (fun m c => if 0 < c then min m c else m) z
theorem lstF_succ (z : Nat) (cs : List Nat) (k : Nat) (h : k < cs.length) : lstF z (cs.take (k + 1)) = if 0 < cs[k] then min (lstF z (cs.take k)) cs[k] else lstF z (cs.take k) := by
  rw [List.take_succ_eq_append_getElem h]
  unfold lstF
  rw [List.foldl_append]
  rfl
theorem sum_succ (cs : List Nat) (k : Nat) (h : k < cs.length) : (cs.take (k + 1)).sum = (cs.take k).sum + cs[k] := by
  rw [List.take_succ_eq_append_getElem h, List.sum_append]
  simp
theorem lstF_spec (z : Nat) (cs : List Nat) (hz : 0 < z) : 0 < lstF z cs ∧ lstF z cs ≤ z ∧ ∀ c, c ∈ cs → 0 < c → lstF z cs ≤ c := by
  induction cs generalizing z with
  | nil => exact ⟨hz, Nat.le_refl _, fun c h => by cases h⟩
  | cons x cs ih =>
    have e : lstF z (x :: cs) = lstF (if 0 < x then min z x else z) cs := rfl
    rw [e]
    have h0 : 0 < (if 0 < x then min z x else z) := by split <;> omega
    have h1 : (if 0 < x then min z x else z) ≤ z := by split <;> omega
    obtain ⟨p, q, r⟩ := ih _ h0
    refine ⟨p, Nat.le_trans q h1, fun c hc hp => ?_⟩
    rcases List.mem_cons.1 hc with rfl | hc
    · rw [if_pos hp] at q ⊢
      omega
    · exact r c hc hp
def HalvedPost (w : World) (cs : List Nat) (e : Ending) (w' : World) : Prop := e = .returned (.bool (decide (144 * lstF 1099511627776 cs < cs.sum))) ∧ w' = w
theorem take_sum_le (cs : List Nat) (k : Nat) : (cs.take k).sum ≤ cs.sum := by
  have := congrArg List.sum (List.take_append_drop k cs)
  rw [List.sum_append] at this
  omega
set_option maxRecDepth 100000 in
set_option maxHeartbeats 2000000 in
theorem halved_c (w : World) (cs : List Nat) (a : Option Addr) (c : Nat) (h : SlR w 1 (.slice a cs.length c) cs.length (cs.map nv)) (h0 : 0 < cs.length) (hlen : cs.length ≤ 1000) (hS : cs.sum ≤ 1125899906842624) :
    Calls Try.prog 24 #[.slice a cs.length c] w (HalvedPost w cs) := by
  obtain ⟨g, o, rfl, hg, hcap, hc⟩ := at_nv h h0
  have HC := Lib.hid hc
  have HB := Lib.hid (fun k => Nat.le_trans (take_sum_le cs k) hS)
  have HZ := Lib.hid (fun k => (lstF_spec 1099511627776 (cs.take k) (by decide)).2.1)
  have HSU := Lib.hid (fun k h => sum_succ cs k h)
  have HLU := Lib.hid (fun k h => lstF_succ 1099511627776 cs k h)
  obtain ⟨n, hn⟩ : ∃ n, n = cs.length := ⟨_, rfl⟩
  have HT1 : Hid (lstF 1099511627776 (cs.take n) = lstF 1099511627776 cs) := Lib.hid (by rw [hn, List.take_length])
  have HT2 : Hid ((cs.take n).sum = cs.sum) := Lib.hid (by rw [hn, List.take_length])
  rw [← hn] at h0 hcap hlen ⊢
  have HN := Lib.hid hn
  have S0 : Hid ((cs.take 0).sum = 0) := Lib.hid rfl
  have L0 : Hid (lstF 1099511627776 (cs.take 0) = 1099511627776) := Lib.hid rfl
  unfold HalvedPost
  rw [← HT1.out, ← HT2.out]
  obtain ⟨S, hSd⟩ : ∃ S : Nat → Nat, S = fun k => (cs.take k).sum := ⟨_, rfl⟩
  obtain ⟨Z, hZd⟩ : ∃ Z : Nat → Nat, Z = fun k => lstF 1099511627776 (cs.take k) := ⟨_, rfl⟩
  have hs : ∀ k, (cs.take k).sum = S k := fun k => by rw [hSd]
  have hz : ∀ k, lstF 1099511627776 (cs.take k) = Z k := fun k => by rw [hZd]
  simp only [hs, hz] at HB HZ HSU HLU S0 L0 ⊢
  clear h hc hn hS hSd hZd hs hz HT1 HT2
  go_enter Try.func24, Try.ntmps24
  go_wp2_with fail
  go_loopw [3, 4, 5] (fun s l i wr => ∃ k : Nat, k ≤ n ∧ i = .int .i64 k ∧ s = .int .i64 (S k : Nat) ∧ l = .int .i64 (Z k : Nat) ∧ wr = w) (fun _ _ i _ => n - (intOf i).toNat)
  case atStart => exact ⟨0, Nat.zero_le _, rfl, by rw [S0.out]; simp, by rw [L0.out]; simp, rfl⟩
  case round =>
    obtain ⟨k, hk, rfl, rfl, rfl, rfl⟩ := hrel
    have b1 := HB.out k
    have b2 := HZ.out k
    obtain ⟨s, hs⟩ : ∃ s, s = S k := ⟨_, rfl⟩
    obtain ⟨z, hz⟩ : ∃ z, z = Z k := ⟨_, rfl⟩
    by_cases hlt : k < n
    · have hkl : k < cs.length := by rw [← HN.out]; exact hlt
      have d0 := HC.out k hkl
      have u1 := HSU.out k hkl
      have u2 := HLU.out k hkl
      have b3 := HB.out (k + 1)
      rw [← hs] at b1 u1 ⊢
      rw [← hz] at b2 u2 ⊢
      generalize cs[k] = y at d0 u1 u2
      have U1 := Lib.hid u1
      have U2 := Lib.hid u2
      have B3 : s + y ≤ 1125899906842624 := by rw [← u1]; exact b3
      clear u1 u2 hs hz hkl b3
      by_cases hy : 0 < y
      · go_wp2_with fail
        exact ⟨⟨k + 1, by omega, by go_num, by rw [U1.out]; go_num, by rw [U2.out, if_pos hy]; go_num, by first | trivial | rfl⟩, by simp [intOf]; omega⟩
      · obtain rfl : y = 0 := by omega
        go_wp2_with fail
        exact ⟨⟨k + 1, by omega, by go_num, by rw [U1.out]; go_num, by rw [U2.out, if_neg hy], by first | trivial | rfl⟩, by simp [intOf]; omega⟩
    · obtain rfl : k = n := by omega
      rw [← hs] at b1 ⊢
      rw [← hz] at b2 ⊢
      have HSS := Lib.hid hs
      have HZZ := Lib.hid hz
      clear hs hz
      go_wp2_with fail
      go_ret
      refine ⟨?_, rfl⟩
      simp
      rw [← HSS.out, ← HZZ.out]
      omega
end Go.Proofs.Ytcecnkmhhbncdaa.Hu
