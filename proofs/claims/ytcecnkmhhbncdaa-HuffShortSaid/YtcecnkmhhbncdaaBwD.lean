/- The program's Writer: Bytes. -/
import Derived.Test.YtcecnkmhhbncdaaBwC
namespace Go.Proofs.Ytcecnkmhhbncdaa.Bw
open Go Go.RowKit Go.ChangeMaps Go.MapKept Go.Mg Go.Hf Go.Sort Go.Proofs.Ytcecnkmhhbncdaa.Hu
set_option maxRecDepth 100000 in
set_option maxHeartbeats 2000000 in
theorem bytes_p {F : Nat → Prop} {w : World} {p : Nat} {a : Option Addr} {c : Nat} {B : List Bool} (h : WrAt 85 F w p a c B) (hB : B.length ≤ 100000) :
    Calls Try.prog 37 #[.pointer (some ⟨p, 0, none⟩)] w (BytesPost w B) := by
  obtain ⟨n, hn⟩ : ∃ n, n = B.length := ⟨_, rfl⟩
  obtain ⟨m, hm⟩ : ∃ m, m = n / 8 + 1 := ⟨_, rfl⟩
  have hmi : ((n : Int) / 8 + 1) = (m : Int) := by omega
  obtain ⟨cur, hcur, hmk⟩ := make_u8 w m (by omega)
  have U0 : Hid (UAt (w.alloc (.cells cur 5)) w.heap.size m (pk (fun i => B[i]?.getD false) 0)) := Lib.hid (UAt.made hcur)
  have K0 : Hid (Kp (fun _ => False) w (w.alloc (.cells cur 5))) := Lib.hid ((Kp.refl _ _).alloc _)
  have d0 := h.cell
  have HB := Lib.hid (fun h0 => own_bit h.own h0)
  unfold BytesPost
  rw [← hn] at HB hB d0 ⊢
  rw [← hm]
  obtain ⟨bt, hbt⟩ : ∃ bt : Nat → Bool, bt = fun i => B[i]?.getD false := ⟨_, rfl⟩
  have HBT := Lib.hid hbt
  rw [← hbt] at U0 ⊢
  have hps : p < w.heap.size := lt_of_at h.hp
  have HNN := Lib.hid hn
  have HMM := Lib.hid hm
  have hm1 : n < 8 * m := by omega
  have hm2 : m ≤ 12501 := by omega
  clear hcur h hbt hn hm
  go_enter Try.func37, Try.ntmps37
  go_wp2_with fail
  generalize hW : w.alloc (.cells cur 5) = W at U0 K0 ⊢
  clear hmk hW
  go_loopw [21] (fun i wr => ∃ k : Nat, k ≤ n ∧ i = .int .i64 k ∧ UAt wr w.heap.size m (pk bt k) ∧ Kp (fun _ => False) w wr) (fun i _ => n - (intOf i).toNat)
  case atStart => exact ⟨0, Nat.zero_le _, rfl, U0.out, K0.out⟩
  case round =>
    clear U0 K0
    obtain ⟨k, hk, rfl, hu, hkp⟩ := hrel
    have d1 := (hkp.cell (p := ⟨p, 0, none⟩) hps (fun q => q)).trans d0
    have HK := Lib.hid hkp
    have HU := Lib.hid hu
    by_cases hkn : k < n
    · obtain ⟨gb, rfl, hgb, hcap, hbit⟩ := HB.out (by omega)
      have d2 := (hkp.cell (p := ⟨gb, k, none⟩) hgb (fun q => q)).trans (hbit k hkn)
      rw [show B[k]?.getD false = bt k by rw [HBT.out]] at d2
      have hk8 : k / 8 < m := by omega
      have f1 := hu.cell hk8
      have f2 : wr.frozen? ⟨w.heap.size, k / 8, none⟩ = false := free_of hu (k / 8)
      have hlt := pk_lt bt k (k / 8)
      have HSET := Lib.hid (UAt.set (w := wr.drew) hu hk8 (pk bt k (k / 8) ||| 2 ^ (k % 8)))
      obtain ⟨x, hx⟩ : ∃ x, x = pk bt k (k / 8) := ⟨_, rfl⟩
      rw [← hx] at f1 hlt HSET
      have HX := Lib.hid hx
      have E1 := Lib.hid (or_val x k hlt)
      obtain ⟨tb, htb⟩ : ∃ tb, tb = bt k := ⟨_, rfl⟩
      rw [← htb] at d2
      have HTB := Lib.hid htb
      clear hu hkp hbit hx htb
      cases tb with
      | true =>
        go_wp2_with fail
        have q1 : IntKind.i64.wrap ((k : Int) / 8) = (k : Int) / 8 := by rw [IntKind.wrap_i64]; omega
        have q2 : 0 ≤ (k : Int) / 8 := by omega
        have q3 : (k : Int) / 8 < (m : Int) := by omega
        have q4 : ((k : Int) / 8).toNat = k / 8 := by omega
        have q5 : (k : Int).tmod 8 = (k : Int) % 8 := Int.tmod_eq_emod_of_nonneg (by omega)
        have q6 : 0 ≤ (k : Int) % 8 := by omega
        have q7 : (k : Int) % 8 ≤ 8 := by omega
        have q8 : ((k : Int) % 8).toNat = k % 8 := by omega
        go_region_law (fail)
        all_goals
          go_wp2_with fail
          refine ⟨⟨k + 1, by omega, by go_num, ?_, ?_⟩, by simp [intOf]; omega⟩
          · rw [E1.out, ← pk_set bt k x HX.out HTB.out.symm]
            exact HSET.out
          · exact HK.out.drew.setCell (p := ⟨w.heap.size, k / 8, none⟩) (fun q => by simp only at q; omega) _
      | false =>
        go_wp2_with fail
        refine ⟨⟨k + 1, by omega, by go_num, ?_, HK.out⟩, by simp [intOf]; omega⟩
        rw [← pk_skip bt k HTB.out.symm]
        exact HU.out
    · obtain rfl : k = n := by omega
      have hk8 : k / 8 < m := by have := HMM.out; omega
      have f1 := hu.cell hk8
      have f2 : wr.frozen? ⟨w.heap.size, k / 8, none⟩ = false := free_of hu (k / 8)
      have hlt := pk_lt bt k (k / 8)
      have HSET := Lib.hid (UAt.set (w := wr.drew) hu hk8 (pk bt k (k / 8) ||| 2 ^ (k % 8)))
      obtain ⟨x, hx⟩ : ∃ x, x = pk bt k (k / 8) := ⟨_, rfl⟩
      rw [← hx] at f1 hlt HSET
      have HX := Lib.hid hx
      have E1 := Lib.hid (or_val x k hlt)
      clear hu hkp hx d0
      go_wp2_with fail
      have q1 : IntKind.i64.wrap ((k : Int) / 8) = (k : Int) / 8 := by rw [IntKind.wrap_i64]; omega
      have q2 : 0 ≤ (k : Int) / 8 := by omega
      have q3 : (k : Int) / 8 < (m : Int) := by omega
      have q4 : ((k : Int) / 8).toNat = k / 8 := by omega
      have q5 : (k : Int).tmod 8 = (k : Int) % 8 := Int.tmod_eq_emod_of_nonneg (by omega)
      have q6 : 0 ≤ (k : Int) % 8 := by omega
      have q7 : (k : Int) % 8 ≤ 8 := by omega
      have q8 : ((k : Int) % 8).toNat = k % 8 := by omega
      go_region_law (fail)
      all_goals
        go_wp2_with fail
        go_ret
        refine ⟨w.heap.size, rfl, Nat.le_refl _, ?_, ?_⟩
        · first
            | rw [E1.out, ← fin_set bt k x HX.out]
            | rw [IntKind.wrap_u8, E1.out, ← fin_set bt k x HX.out]
          exact HSET.out
        · first
            | exact HK.out.drew.setCell (p := ⟨w.heap.size, k / 8, none⟩) (fun q => by simp only at q; omega) _
            | exact (HK.out.setCell (p := ⟨w.heap.size, k / 8, none⟩) (fun q => by simp only at q; omega) _).drew
end Go.Proofs.Ytcecnkmhhbncdaa.Bw
