/- The document's huff: Is, Codes. No code begins another one; in plain words. huff: what Encode makes, in plain words; the document's Encode. The program's Reader: NewReader, Left. The program's Reader: Take. The document's Reader. The document's Reader: Take. A symbol of a code: the program's and the document's. The document's one symbol. -/
import Derived.Deep.RegionHeld3
import Derived.Shelf.Small.Bits
import Derived.Test.YtphakpikalmghaaGreatJ15
namespace Go.Proofs.YtphakpikalmghaaGreat.Hu
open Go Go.RowKit Go.ChangeMaps Go.MapKept Go.Mg Go.Hf Go.Sort Go.Proofs.YtphakpikalmghaaGreat.It

theorem pow_val {x : Int} (h0 : 0 < x) (h1 : x ≤ 11) : (2 : Int) ^ (11 - x).toNat = ((2 ^ (11 - x.toNat) : Nat) : Int) := by
  have : x = 1 ∨ x = 2 ∨ x = 3 ∨ x = 4 ∨ x = 5 ∨ x = 6 ∨ x = 7 ∨ x = 8 ∨ x = 9 ∨ x = 10 ∨ x = 11 := by omega
  rcases this with rfl | rfl | rfl | rfl | rfl | rfl | rfl | rfl | rfl | rfl | rfl <;> decide
set_option maxRecDepth 100000 in
set_option maxHeartbeats 2000000 in
theorem is_d (w : World) (xs : List Int) (a : Option Addr) (c : Nat) (h : Nm w a c xs) (hl : xs.length ≤ 1000) :
    Calls Tryz.prog 64 #[.slice a xs.length c] w (IsPost w xs) := by
  by_cases hlen : xs.length ≤ 256
  · by_cases h0 : xs.length = 0
    · have : xs = [] := List.eq_nil_of_length_eq_zero h0
      subst this
      clear h
      go_enter Tryz.func64, Tryz.ntmps64
      go_wp2_with fail
      go_loopw [3, 4, 5, 6] (fun m s l i wr => wr = w ∧ i = .int .i64 0 ∧ s = .int .i64 0 ∧ m = .int .i64 0 ∧ l = .int .i64 0) (fun _ _ _ _ _ => 0)
      case atStart => exact ⟨rfl, rfl, rfl, rfl, rfl⟩
      case round =>
        obtain ⟨rfl, rfl, rfl, rfl, rfl⟩ := hrel
        go_wp2_with fail
        go_ret
        exact ⟨false, ⟨(fun h => by cases h), fun h => by obtain ⟨_, _, h | h⟩ := h <;> simp [isSt] at h⟩, rfl, rfl⟩
    · obtain ⟨g, o, rfl, hg, hcap, hc⟩ := h.lf_ (by omega)
      have HC := Lib.hid hc
      clear hc h
      obtain ⟨n, hn⟩ : ∃ n, n = xs.length := ⟨_, rfl⟩
      rw [← hn] at hlen h0 hcap hl ⊢
      have HN := Lib.hid hn
      clear hn
      go_enter Tryz.func64, Tryz.ntmps64
      go_wp2_with fail
      go_loopw [3, 4, 5, 6] (fun m s l i wr => ∃ k : Nat, k ≤ n ∧ wr = w ∧ i = .int .i64 k ∧ s = .int .i64 ((isSt (xs.take k)).1 : Nat) ∧ m = .int .i64 ((isSt (xs.take k)).2.1 : Nat) ∧ l = .int .i64 (isSt (xs.take k)).2.2 ∧ InR (xs.take k)) (fun _ _ _ i _ => n - (intOf i).toNat)
      case atStart => exact ⟨0, Nat.zero_le _, rfl, rfl, rfl, rfl, rfl, fun x hx => by simp at hx⟩
      case round =>
        obtain ⟨k, hk, rfl, rfl, rfl, rfl, rfl, hr⟩ := hrel
        have HR := Lib.hid hr
        clear hr
        by_cases hlt : k < n
        · have d0 := HC.out k (by rw [← HN.out]; exact hlt)
          have HT := Lib.hid (lf_take (xs := xs) (k := k) (by rw [← HN.out]; exact hlt))
          have hle := isSt_le (xs.take k)
          have hlk : (xs.take k).length ≤ k := by rw [List.length_take]; omega
          have hsn := isSt_snoc (xs.take k) (lf xs k)
          rw [← HT.out] at hsn
          have HSN := Lib.hid hsn
          have hxm : lf xs k ∈ xs := by rw [lf_at (by rw [← HN.out]; exact hlt)]; exact List.getElem_mem _
          have HXM := Lib.hid hxm
          obtain ⟨s1, hs1⟩ : ∃ s, s = (isSt (xs.take k)).1 := ⟨_, rfl⟩
          obtain ⟨s2, hs2⟩ : ∃ s, s = (isSt (xs.take k)).2.1 := ⟨_, rfl⟩
          obtain ⟨s3, hs3⟩ : ∃ s, s = (isSt (xs.take k)).2.2 := ⟨_, rfl⟩
          have hst : isSt (xs.take k) = (s1, s2, s3) := by rw [hs1, hs2, hs3]
          rw [hst] at hle
          simp only at hle
          rw [← hs1, ← hs2, ← hs3]
          have HST := Lib.hid hst
          obtain ⟨x, hx⟩ : ∃ x, x = lf xs k := ⟨_, rfl⟩
          rw [← hx] at d0
          have HX := Lib.hid hx
          clear hs1 hs2 hs3 hst hsn hxm hx
          by_cases hxr : 0 ≤ x ∧ x ≤ 11
          · obtain ⟨hx0, hx1⟩ := hxr
            have n1 : ¬ x < 0 := by omega
            have n2 : ¬ x > 11 := by omega
            have hin : InR (xs.take (k + 1)) := by
              rw [HT.out]
              intro y hy
              rcases List.mem_append.1 hy with hy | hy
              · exact HR.out y hy
              · rw [List.mem_singleton] at hy; rw [hy, ← HX.out]; exact ⟨hx0, hx1⟩
            have HIN := Lib.hid hin
            clear hin
            by_cases hp : 0 < x
            · have hb := pow_val hp hx1
              obtain ⟨p, hpv⟩ : ∃ p : Nat, p = 2 ^ (11 - x.toNat) := ⟨_, rfl⟩
              have hple : p ≤ 2048 := by
                have : 2 ^ (11 - x.toNat) ≤ 2 ^ 11 := Nat.pow_le_pow_right (by omega) (by omega)
                have e : 2 ^ 11 = 2048 := rfl
                omega
              rw [← hpv] at hb
              have HPV := Lib.hid hpv
              clear hpv
              go_wp2_with fail
              have e := HSN.out
              rw [HST.out, isStep, ← HX.out, if_pos hp, ← HPV.out] at e
              refine ⟨⟨k + 1, by omega, by first | trivial | rfl, by go_num, ?_, ?_, ?_, HIN.out⟩, by simp [intOf]; omega⟩
              · rw [e]; go_num
              · rw [e]; go_num
              · rw [e]
            · go_wp2_with fail
              have e := HSN.out
              rw [HST.out, isStep, ← HX.out, if_neg hp] at e
              refine ⟨⟨k + 1, by omega, by first | trivial | rfl, by go_num, ?_, ?_, ?_, HIN.out⟩, by simp [intOf]; omega⟩
              · rw [e]
              · rw [e]
              · rw [e]
          · have hno : ¬ IsOk xs := fun h => hxr (by rw [HX.out]; exact h.2.1 _ HXM.out)
            have HNO := Lib.hid hno
            clear hno
            by_cases hneg : x < 0
            · go_wp2_with fail
              go_ret
              exact ⟨false, ⟨(fun h => by cases h), fun h => (HNO.out h).elim⟩, rfl, rfl⟩
            · have hgt : 11 < x := by omega
              go_wp2_with fail
              go_ret
              exact ⟨false, ⟨(fun h => by cases h), fun h => (HNO.out h).elim⟩, rfl, rfl⟩
        · obtain rfl : k = n := by omega
          have HR2 := HR.out
          rw [HN.out, List.take_length] at HR2 ⊢
          have hle := isSt_le xs
          obtain ⟨s1, hs1⟩ : ∃ s, s = (isSt xs).1 := ⟨_, rfl⟩
          obtain ⟨s2, hs2⟩ : ∃ s, s = (isSt xs).2.1 := ⟨_, rfl⟩
          obtain ⟨s3, hs3⟩ : ∃ s, s = (isSt xs).2.2 := ⟨_, rfl⟩
          have hiff : IsOk xs ↔ (if s2 = 1 then s3 = 1 else s1 = 2048) := by
            rw [hs1, hs2, hs3, ← isSt_doc HR2]
            exact ⟨fun h => h.2.2, fun h => ⟨by rw [← HN.out]; exact hlen, HR2, h⟩⟩
          have HI := Lib.hid hiff
          rw [← hs1, ← hs2, ← hs3]
          clear hs1 hs2 hs3 hiff HR2 hle
          by_cases q2 : s2 = 1
          · have HT : Hid (IsOk xs ↔ s3 = 1) := Lib.hid (by rw [HI.out, if_pos q2])
            subst q2
            go_wp2_with fail
            go_ret
            exact ⟨s3 == 1, by rw [HT.out, beq_iff_eq], rfl, rfl⟩
          · have HT : Hid (IsOk xs ↔ s1 = 2048) := Lib.hid (by rw [HI.out, if_neg q2])
            have q2' : ((s2 : Int) == 1) = false := by rw [beq_eq_false_iff_ne]; omega
            clear q2
            go_wp2_with fail
            go_ret
            exact ⟨decide (s1 = 2048), by rw [HT.out, decide_eq_true_iff], by simp [beqN], rfl⟩
  · have hgt : 256 < xs.length := by omega
    have hno : ¬ IsOk xs := fun h => hlen h.1
    have HNO := Lib.hid hno
    clear h hno
    go_enter Tryz.func64, Tryz.ntmps64
    go_wp2_with fail
    go_ret
    exact ⟨false, ⟨(fun h => by cases h), fun h => (HNO.out h).elim⟩, rfl, rfl⟩
set_option maxRecDepth 100000 in
set_option maxHeartbeats 2000000 in
theorem codes_d (w : World) (xs : List Int) (a : Option Addr) (c : Nat) (h : Nm w a c xs) (h0 : 0 < xs.length) (hl : xs.length ≤ 300) :
    Calls Tryz.prog 65 #[.slice a xs.length c] w (CodesPost w xs) := by
  obtain ⟨g, o, rfl, hg, hcap, hc⟩ := h.lf_ h0
  have HC := Lib.hid hc
  clear hc h
  unfold CodesPost codes
  obtain ⟨ls, hls⟩ : ∃ ls, ls = lf xs := ⟨_, rfl⟩
  rw [← hls] at HC ⊢
  obtain ⟨n, hn⟩ : ∃ n, n = xs.length := ⟨_, rfl⟩
  rw [← hn] at HC h0 hl hcap ⊢
  clear hls hn
  obtain ⟨cur, hcur, hmk⟩ := make_ints w n (by omega)
  have k0 : Kp (fun _ => False) w (w.alloc (.cells cur 3)) := (Kp.refl _ _).alloc _
  have hC0 : CAt (w.alloc (.cells cur 3)) w.heap.size n (fun i => if i < 0 then -1 else 0) := by
    unfold CAt
    rw [alloc_at]
    congr 2
    have : (List.range n).map (fun i => Value.int .i64 (if i < 0 then -1 else 0)) = cur.toList := by
      rw [hcur]
      apply List.ext_getElem
      · simp
      · intro i h1 h2; simp [nv]
    rw [this]
  have K0 := Lib.hid k0
  have HC0 := Lib.hid hC0
  clear k0 hC0 hcur
  go_enter Tryz.func65, Tryz.ntmps65
  go_wp2_with fail
  go_loopw [4] (fun i wr => ∃ j : Nat, j ≤ n ∧ i = .int .i64 j ∧ CAt wr w.heap.size n (fun i => if i < j then -1 else 0) ∧ Kp (fun _ => False) w wr) (fun i _ => n - (intOf i).toNat)
  case atStart => exact ⟨0, Nat.zero_le _, rfl, HC0.out, K0.out⟩
  case round =>
    clear hmk
    obtain ⟨j, hj, rfl, hca, hkp⟩ := hrel
    by_cases hlt : j < n
    · have f1 := hca.cell hlt
      have f2 : wr.frozen? ⟨w.heap.size, j, none⟩ = false := free_of hca j
      have hset := hca.set hlt (-1)
      have hks : Kp (fun _ => False) w (wr.setCell ⟨w.heap.size, j, none⟩ (.int .i64 (-1))) := hkp.setCell (p := ⟨w.heap.size, j, none⟩) (fun q => by simp only at q; omega) _
      have e : (fun i : Nat => if i = j then (-1 : Int) else if i < j then -1 else 0) = fun i => if i < j + 1 then -1 else 0 := by
        funext i
        by_cases q : i = j
        · subst q; simp
        · by_cases q2 : i < j
          · have : i < j + 1 := by omega
            simp [q2, this]
          · have : ¬ i < j + 1 := by omega
            simp [q, q2, this]
      rw [e] at hset
      have HSET := Lib.hid hset
      have HKS := Lib.hid hks
      clear hset hks hca hkp e
      go_wp2_with fail
      exact ⟨⟨j + 1, by omega, by go_num, HSET.out, HKS.out⟩, by simp [intOf]; omega⟩
    · obtain rfl : j = n := by omega
      have HCA : Hid (CAt wr w.heap.size j (fun _ => -1)) := Lib.hid (by
        have e : (List.range j).map (fun i => Value.int .i64 (if i < j then -1 else 0)) = (List.range j).map fun _ => Value.int .i64 (-1) := List.map_congr_left (fun i hi => by rw [if_pos (List.mem_range.1 hi)])
        unfold CAt at hca ⊢
        rw [e] at hca
        exact hca)
      have HKP := Lib.hid hkp
      clear hca hkp
      go_wp2_with fail
      go_loopw [5, 6, 7] (fun cd fb i wr => ∃ (k : Nat) (z : Bool), k ≤ 11 ∧ i = .int .i64 ((k : Int) + 1) ∧ fb = .bool z ∧ (z = true → (passes ls j k).1 = 0) ∧ cd = .int .i64 ((passes ls j k).1 : Nat) ∧ CAt wr w.heap.size j (passes ls j k).2 ∧ Kp (fun _ => False) w wr) (fun _ _ i _ => 12 - (intOf i).toNat)
      case atStart => exact ⟨0, true, by omega, rfl, rfl, fun _ => rfl, rfl, HCA.out, HKP.out⟩
      case round =>
        clear HCA HKP
        obtain ⟨k, z, hk, rfl, rfl, hz, rfl, hca, hkp⟩ := hrel
        have HCA := Lib.hid hca
        have HKP := Lib.hid hkp
        clear hca hkp
        by_cases hlt : k < 11
        · have hb := passes_bound ls (N := j) (n := k) hl (by omega)
          obtain ⟨cc, hcc⟩ : ∃ cc, cc = (passes ls j k).1 := ⟨_, rfl⟩
          obtain ⟨oo, hoo⟩ : ∃ oo, oo = (passes ls j k).2 := ⟨_, rfl⟩
          rw [← hcc] at hb hz ⊢
          have HCA2 : Hid (CAt wr w.heap.size j oo) := Lib.hid (by rw [hoo]; exact HCA.out)
          have HP : Hid (passes ls j (k + 1) = pass1 ls ((k : Int) + 1) j (2 * cc, oo)) := Lib.hid (by rw [hcc, hoo]; rfl)
          have HZ := Lib.hid hz
          clear hcc hoo HCA hz
          go_wp2_with fail
          go_loopw [5, 6, 8] (fun cd fb i wr => ∃ (q : Nat) (z : Bool), q ≤ j ∧ i = .int .i64 q ∧ fb = .bool z ∧ (z = true → (pass1 ls ((k : Int) + 1) q (2 * cc, oo)).1 = 0) ∧ cd = .int .i64 ((pass1 ls ((k : Int) + 1) q (2 * cc, oo)).1 : Nat) ∧ CAt wr w.heap.size j (pass1 ls ((k : Int) + 1) q (2 * cc, oo)).2 ∧ Kp (fun _ => False) w wr) (fun _ _ i _ => j - (intOf i).toNat)
          case atStart => exact ⟨0, z, Nat.zero_le _, rfl, rfl, (fun q => by have := HZ.out q; show 2 * cc = 0; omega), (by show Value.int .i64 _ = Value.int .i64 ((2 * cc : Nat) : Int); congr 1; omega), HCA2.out, HKP.out⟩
          case round =>
            clear HCA2 HKP HZ
            obtain ⟨q, z1, hq, rfl, rfl, hz, rfl, hca, hkp⟩ := hrel
            by_cases hqn : q < j
            · have hp1 := (pass1_le ls ((k : Int) + 1) q (2 * cc, oo)).1
              simp only at hp1
              have d0 := (hkp.cell (p := ⟨g, o + q, none⟩) hg (fun q => q)).trans (HC.out q hqn)
              have f1 := hca.cell hqn
              have f2 : wr.frozen? ⟨w.heap.size, q, none⟩ = false := free_of hca q
              have hstep : pass1 ls ((k : Int) + 1) (q + 1) (2 * cc, oo) = if ls q = (k : Int) + 1 then ((pass1 ls ((k : Int) + 1) q (2 * cc, oo)).1 + 1, fun i => if i = q then ((pass1 ls ((k : Int) + 1) q (2 * cc, oo)).1 : Int) else (pass1 ls ((k : Int) + 1) q (2 * cc, oo)).2 i) else pass1 ls ((k : Int) + 1) q (2 * cc, oo) := rfl
              have HST := Lib.hid hstep
              obtain ⟨c1, hc1⟩ : ∃ c1, c1 = (pass1 ls ((k : Int) + 1) q (2 * cc, oo)).1 := ⟨_, rfl⟩
              have hset := hca.set hqn (c1 : Int)
              have hks : Kp (fun _ => False) w (wr.setCell ⟨w.heap.size, q, none⟩ (.int .i64 (c1 : Int))) := hkp.setCell (p := ⟨w.heap.size, q, none⟩) (fun q => by simp only at q; omega) _
              rw [← hc1] at hp1 hz ⊢
              rw [← hc1] at HST
              have HSET := Lib.hid hset
              have HKS := Lib.hid hks
              have HCA := Lib.hid hca
              have HKP := Lib.hid hkp
              have HC1 := Lib.hid hc1
              have HZ := Lib.hid hz
              obtain ⟨x, hx⟩ : ∃ x, x = ls q := ⟨_, rfl⟩
              rw [← hx] at d0
              rw [← hx] at HST
              generalize (pass1 ls ((k : Int) + 1) q (2 * cc, oo)).2 q = y at f1
              clear hset hks hca hkp hc1 hx hstep hz
              by_cases hxe : x = (k : Int) + 1
              · have hxe' : (x == (k : Int) + 1) = true := by simpa using hxe
                have HXE := Lib.hid hxe
                clear hxe
                go_wp2_with fail
                have e := HST.out
                rw [if_pos HXE.out] at e
                refine ⟨⟨q + 1, false, by omega, by go_num, rfl, (fun h => by cases h), by rw [e]; go_num, by rw [e]; exact HSET.out, HKS.out⟩, by simp [intOf]; omega⟩
              · have hxe' : (x == (k : Int) + 1) = false := by simpa using hxe
                have HXE := Lib.hid hxe
                clear hxe
                go_wp2_with fail
                have e := HST.out
                rw [if_neg HXE.out] at e
                refine ⟨⟨q + 1, z1, by omega, by go_num, rfl, (fun h => by rw [e, ← HC1.out]; exact HZ.out h), by rw [e, ← HC1.out], by rw [e]; exact HCA.out, HKP.out⟩, by simp [intOf]; omega⟩
            · obtain rfl : q = j := by omega
              have HCA := Lib.hid hca
              have HKP := Lib.hid hkp
              have HZ := Lib.hid hz
              clear hca hkp hz
              rw [← HP.out] at HCA HZ ⊢
              cases z1 with
              | false =>
                go_wp2_with fail
                refine ⟨⟨k + 1, false, by omega, by go_num, rfl, (fun h => by cases h), rfl, HCA.out, HKP.out⟩, by simp [intOf]; omega⟩
              | true =>
                go_wp2_with fail
                refine ⟨⟨k + 1, true, by omega, by go_num, rfl, HZ.out, by rw [HZ.out rfl]; rfl, HCA.out, HKP.out⟩, by simp [intOf]; omega⟩
        · obtain rfl : k = 11 := by omega
          go_wp2_with fail
          go_ret
          exact ⟨w.heap.size, rfl, Nat.le_refl _, HCA.out, HKP.out⟩
end Go.Proofs.YtphakpikalmghaaGreat.Hu
namespace Go.Hf
/-- The code that pass n + 1 has come to ahead of symbol j. -/
def stc (ls : Nat → Int) (N n j : Nat) : Nat := (pass1 ls ((n : Int) + 1) j (2 * (passes ls N n).1, (passes ls N n).2)).1
def Qs (ls : Nat → Int) (N n j : Nat) : Nat := stc ls N n j * 2 ^ (10 - n)
theorem stc_succ (ls : Nat → Int) (N n j : Nat) : stc ls N n (j + 1) = stc ls N n j + if ls j = (n : Int) + 1 then 1 else 0 := by
  unfold stc
  simp only [pass1]
  split <;> simp
theorem stc_zero (ls : Nat → Int) (N n : Nat) : stc ls N n 0 = 2 * (passes ls N n).1 := rfl
theorem stc_end (ls : Nat → Int) (N n : Nat) : stc ls N n N = (passes ls N (n + 1)).1 := rfl
theorem Qs_succ (ls : Nat → Int) (N n j : Nat) : Qs ls N n (j + 1) = Qs ls N n j + if ls j = (n : Int) + 1 then 2 ^ (10 - n) else 0 := by
  unfold Qs
  rw [stc_succ, Nat.add_mul]
  split <;> simp
theorem Qs_mono_j (ls : Nat → Int) (N n : Nat) {j k : Nat} (h : j ≤ k) : Qs ls N n j ≤ Qs ls N n k := by
  induction h with
  | refl => exact Nat.le_refl _
  | step _ ih => rw [Qs_succ]; omega
theorem Qs_next (ls : Nat → Int) (N n : Nat) (hn : n < 10) : Qs ls N (n + 1) 0 = Qs ls N n N := by
  unfold Qs
  rw [stc_zero, stc_end, show 10 - n = (10 - (n + 1)) + 1 by omega, Nat.pow_succ]
  rw [Nat.mul_comm 2, Nat.mul_assoc, Nat.mul_comm 2]
theorem Qs_mono (ls : Nat → Int) (N : Nat) {n m j k : Nat} (hnm : n < m) (hm : m ≤ 10) (hj : j ≤ N) : Qs ls N n j ≤ Qs ls N m k := by
  induction hnm generalizing k with
  | refl =>
    exact Nat.le_trans (Qs_mono_j ls N n hj) (Nat.le_trans (Nat.le_of_eq (Qs_next ls N n (by omega)).symm) (Qs_mono_j ls N _ (Nat.zero_le k)))
  | step h ih =>
    rename_i m
    refine Nat.le_trans (ih (k := N) (by omega)) (Nat.le_trans (Nat.le_of_eq (Qs_next ls N m (by omega)).symm) (Qs_mono_j ls N _ (Nat.zero_le k)))
/-- What code a symbol has. -/
theorem pass1_out (ls : Nat → Int) (n : Int) (st : Nat × (Nat → Int)) (i : Nat) : ∀ j, (pass1 ls n j st).2 i = if i < j ∧ ls i = n then ((pass1 ls n i st).1 : Int) else st.2 i := by
  intro j
  induction j with
  | zero => simp [pass1]
  | succ j ih =>
    simp only [pass1]
    by_cases h : ls j = n
    · rw [if_pos h]
      simp only
      by_cases e : i = j
      · subst e
        rw [if_pos rfl, if_pos ⟨by omega, h⟩]
      · rw [if_neg e, ih]
        by_cases q : i < j
        · have : i < j + 1 := by omega
          simp [q, this]
        · have : ¬ i < j + 1 := by omega
          simp [q, this]
    · rw [if_neg h, ih]
      by_cases e : i = j
      · subst e
        simp [h]
      · by_cases q : i < j
        · have : i < j + 1 := by omega
          simp [q, this]
        · have : ¬ i < j + 1 := by omega
          simp [q, this]
theorem passes_out (ls : Nat → Int) (N : Nat) {i : Nat} (hi : i < N) : ∀ m : Nat, (∀ n : Nat, n < m → ls i = (n : Int) + 1 → (passes ls N m).2 i = (stc ls N n i : Nat)) ∧ ((∀ n : Nat, n < m → ls i ≠ (n : Int) + 1) → (passes ls N m).2 i = -1) := by
  intro m
  induction m with
  | zero => exact ⟨fun n h => by omega, fun _ => rfl⟩
  | succ m ih =>
    have e : (passes ls N (m + 1)).2 i = if i < N ∧ ls i = (m : Int) + 1 then (stc ls N m i : Int) else (passes ls N m).2 i := pass1_out ls _ _ i N
    refine ⟨fun n hn hl => ?_, fun h => ?_⟩
    · rw [e]
      by_cases q : n = m
      · subst q; rw [if_pos ⟨hi, hl⟩]
      · rw [if_neg (fun z => by omega)]
        exact ih.1 n (by omega) hl
    · rw [e, if_neg (fun z => h m (by omega) z.2)]
      exact ih.2 (fun n hn => h n (by omega))
/-- The sum over all symbols whose length is n at most. -/
def Tn (ls : Nat → Int) (N n : Nat) : Nat := ((List.range N).map fun i => if 0 < ls i ∧ ls i ≤ n then 2 ^ (11 - (ls i).toNat) else 0).sum
theorem sum_add (f g : Nat → Nat) (l : List Nat) : (l.map fun i => f i + g i).sum = (l.map f).sum + (l.map g).sum := by
  induction l with
  | nil => rfl
  | cons x l ih => simp only [List.map_cons, List.sum_cons, ih]; omega
theorem stc_count (ls : Nat → Int) (N n : Nat) : ∀ j, Qs ls N n j = 2 * (passes ls N n).1 * 2 ^ (10 - n) + ((List.range j).map fun i => if ls i = (n : Int) + 1 then 2 ^ (10 - n) else 0).sum := by
  intro j
  induction j with
  | zero => simp [Qs, stc_zero]
  | succ j ih => rw [Qs_succ, ih, List.range_succ, List.map_append, List.sum_append]; simp; omega
theorem sum_zeros (l : List Nat) : (l.map fun _ => 0).sum = 0 := by
  induction l with
  | nil => rfl
  | cons x l ih => simp only [List.map_cons, List.sum_cons, ih]
theorem passes_sum (ls : Nat → Int) (N : Nat) : ∀ n, n ≤ 11 → (passes ls N n).1 * 2 ^ (11 - n) = Tn ls N n := by
  intro n
  induction n with
  | zero =>
    intro _
    have : (List.range N).map (fun i => if 0 < ls i ∧ ls i ≤ ((0 : Nat) : Int) then 2 ^ (11 - (ls i).toNat) else 0) = (List.range N).map fun _ => 0 := List.map_congr_left (fun i _ => by rw [if_neg (by omega)])
    unfold Tn
    rw [this, sum_zeros]
    simp [passes]
  | succ n ih =>
    intro hn
    have e := stc_count ls N n N
    have ih := ih (by omega)
    have h1 : Qs ls N n N = (passes ls N (n + 1)).1 * 2 ^ (11 - (n + 1)) := by unfold Qs; rw [stc_end, show 11 - (n + 1) = 10 - n by omega]
    have h2 : 2 * (passes ls N n).1 * 2 ^ (10 - n) = (passes ls N n).1 * 2 ^ (11 - n) := by
      rw [show 11 - n = (10 - n) + 1 by omega, Nat.pow_succ, Nat.mul_comm 2, Nat.mul_assoc, Nat.mul_comm 2]
    rw [← h1, e, h2, ih]
    unfold Tn
    rw [← sum_add]
    congr 1
    refine List.map_congr_left (fun i _ => ?_)
    by_cases q : ls i = (n : Int) + 1
    · rw [if_neg (by omega), if_pos q, if_pos (by omega), Nat.zero_add]
      congr 1
      omega
    · by_cases q2 : 0 < ls i ∧ ls i ≤ (n : Int)
      · rw [if_pos q2, if_neg q, if_pos (by omega)]; rfl
      · rw [if_neg q2, if_neg q, if_neg (by omega)]
theorem isSt_T (xs : List Int) (h : InR xs) : (isSt xs).1 = Tn (lf xs) xs.length 11 := by
  have key : ∀ k, k ≤ xs.length → (isSt (xs.take k)).1 = ((List.range k).map fun i => if 0 < lf xs i ∧ lf xs i ≤ ((11 : Nat) : Int) then 2 ^ (11 - (lf xs i).toNat) else 0).sum := by
    intro k
    induction k with
    | zero => intro _; simp [isSt]
    | succ k ih =>
      intro hk
      have e : xs.take (k + 1) = xs.take k ++ [lf xs k] := by rw [List.take_succ_eq_append_getElem (by omega), lf_at (by omega)]
      have hx := h (lf xs k) (by rw [lf_at (by omega)]; exact List.getElem_mem _)
      rw [e, isSt_snoc, List.range_succ, List.map_append, List.sum_append, ← ih (by omega)]
      unfold isStep
      by_cases q : 0 < lf xs k
      · rw [if_pos q]
        simp only [List.map_cons, List.map_nil, List.sum_cons, List.sum_nil, Nat.add_zero]
        rw [if_pos (by omega)]
      · rw [if_neg q]
        simp only [List.map_cons, List.map_nil, List.sum_cons, List.sum_nil, Nat.add_zero]
        rw [if_neg (by omega), Nat.add_zero]
  have := key xs.length (Nat.le_refl _)
  rwa [List.take_length] at this
theorem IsOk.sum_le {xs : List Int} (h : IsOk xs) : (passes (lf xs) xs.length 11).1 ≤ 2048 := by
  obtain ⟨_, hr, h⟩ := h
  have e := passes_sum (lf xs) xs.length 11 (Nat.le_refl _)
  rw [← isSt_T xs hr] at e
  simp only [Nat.sub_self, Nat.pow_zero, Nat.mul_one] at e
  rw [e]
  rcases h with ⟨h1, h2⟩ | h
  · obtain ⟨h3, _⟩ := (isSt_one hr).2 h1
    rw [h3, h2]
    decide
  · omega
/-- Each symbol's code as an interval of 2048. -/
theorem codes_is {xs : List Int} {i : Nat} (hr : InR xs) (hi : i < xs.length) : (xs[i] = 0 ∧ codes xs i = -1) ∨ ∃ n : Nat, n < 11 ∧ xs[i] = (n : Int) + 1 ∧ codes xs i = (stc (lf xs) xs.length n i : Nat) := by
  have hx := hr _ (List.getElem_mem hi)
  have e := passes_out (lf xs) xs.length hi 11
  by_cases h : xs[i] = 0
  · left
    refine ⟨h, e.2 (fun n _ => ?_)⟩
    rw [lf_at hi]; omega
  · right
    refine ⟨xs[i].toNat - 1, by omega, by omega, ?_⟩
    exact e.1 (xs[i].toNat - 1) (by omega) (by rw [lf_at hi]; omega)
theorem IsOk.lt {xs : List Int} (h : IsOk xs) {i n : Nat} (hi : i < xs.length) (hn : n < 11) (hx : xs[i] = (n : Int) + 1) : stc (lf xs) xs.length n i < 2 ^ (n + 1) := by
  have h1 : Qs (lf xs) xs.length n i + 2 ^ (10 - n) ≤ 2048 := by
    have e := Qs_succ (lf xs) xs.length n i
    rw [lf_at hi, if_pos hx] at e
    rw [← e]
    have h10 : Qs (lf xs) xs.length 10 xs.length = (passes (lf xs) xs.length 11).1 := by unfold Qs; rw [stc_end]; simp
    have h2 : Qs (lf xs) xs.length n (i + 1) ≤ Qs (lf xs) xs.length 10 xs.length := by
      by_cases q : n = 10
      · subst q; exact Qs_mono_j _ _ _ hi
      · exact Qs_mono _ _ (by omega) (Nat.le_refl _) hi
    have := h.sum_le
    omega
  unfold Qs at h1
  have h3 : 2048 = 2 ^ (n + 1) * 2 ^ (10 - n) := by rw [← Nat.pow_add, show n + 1 + (10 - n) = 11 by omega]
  rw [h3] at h1
  have h4 : (stc (lf xs) xs.length n i + 1) * 2 ^ (10 - n) ≤ 2 ^ (n + 1) * 2 ^ (10 - n) := by rw [Nat.add_mul, Nat.one_mul]; exact h1
  have := Nat.le_of_mul_le_mul_right h4 (Nat.pow_pos (by omega))
  omega
/-- No code begins another one. -/
theorem free {xs : List Int} {i k n m : Nat} (hi : i < xs.length) (hk : k < xs.length) (hne : i ≠ k) (hn : n < 11) (hm : m < 11) (hxi : xs[i] = (n : Int) + 1) (hxk : xs[k] = (m : Int) + 1) (hle : n ≤ m) :
    stc (lf xs) xs.length m k / 2 ^ (m - n) ≠ stc (lf xs) xs.length n i := by
  intro e
  have hp : 0 < 2 ^ (m - n) := Nat.pow_pos (by omega)
  have h1 : stc (lf xs) xs.length n i * 2 ^ (m - n) ≤ stc (lf xs) xs.length m k := by rw [← e]; exact Nat.div_mul_le_self _ _
  have h2 : stc (lf xs) xs.length m k < (stc (lf xs) xs.length n i + 1) * 2 ^ (m - n) := by rw [← e, Nat.mul_comm]; exact Nat.lt_mul_div_succ _ hp
  have hpow : 2 ^ (10 - n) = 2 ^ (m - n) * 2 ^ (10 - m) := by rw [← Nat.pow_add, show m - n + (10 - m) = 10 - n by omega]
  have hq : 0 < 2 ^ (10 - m) := Nat.pow_pos (by omega)
  -- in the intervals
  have q1 : Qs (lf xs) xs.length n i ≤ Qs (lf xs) xs.length m k := by
    unfold Qs
    rw [hpow, ← Nat.mul_assoc]
    exact Nat.mul_le_mul_right _ h1
  have q2 : Qs (lf xs) xs.length m k < Qs (lf xs) xs.length n i + 2 ^ (10 - n) := by
    unfold Qs
    rw [hpow, ← Nat.mul_assoc, ← Nat.add_mul, ← Nat.succ_mul] <;> try exact (Nat.mul_lt_mul_right hq).2 h2
  have ei := Qs_succ (lf xs) xs.length n i
  rw [lf_at hi, if_pos hxi] at ei
  have ek := Qs_succ (lf xs) xs.length m k
  rw [lf_at hk, if_pos hxk] at ek
  by_cases q : n = m
  · subst q
    rcases Nat.lt_or_gt_of_ne hne with h | h
    · have := Qs_mono_j (lf xs) xs.length n (show i + 1 ≤ k from h)
      omega
    · have := Qs_mono_j (lf xs) xs.length n (show k + 1 ≤ i from h)
      omega
  · have := Qs_mono (lf xs) xs.length (k := k) (show n < m by omega) (by omega) (show i + 1 ≤ xs.length from hi)
    omega
end Go.Hf
namespace Go.Proofs.YtphakpikalmghaaGreat.He
open Go Go.RowKit Go.ChangeMaps Go.MapKept Go.Mg Go.Hf Go.Sort Go.Proofs.YtphakpikalmghaaGreat.Hu Go.Proofs.YtphakpikalmghaaGreat.Bw

def gd (xs : List Int) (s : Nat) : Prop := s < xs.length ∧ lf xs s ≠ 0
def cb (xs : List Int) (s : Nat) : List Bool := bitsOf (codes xs s).toNat (lf xs s).toNat
def sym (l : List UInt8) (i : Nat) : Nat := (l[i]?.getD 0).toNat
/-- The bits of the last j bytes, the last one's first. -/
def bt (xs : List Int) (l : List UInt8) : Nat → List Bool
  | 0 => []
  | j + 1 => bt xs l j ++ cb xs (sym l (l.length - 1 - j))
def EncOk (xs : List Int) (l : List UInt8) : Prop := IsOk xs ∧ ∀ j, j < l.length → gd xs (sym l j)
def EncGood (w : World) (B : List Bool) (e : Ending) (w' : World) : Prop :=
  ∃ g, e = .returned (.tuple #[.slice (some ⟨g, 0, none⟩) (B.length / 8 + 1) (B.length / 8 + 1), .bool true]) ∧ w.heap.size ≤ g ∧ UAt w' g (B.length / 8 + 1) (fin (fun i => B[i]?.getD false) B.length) ∧ Kp (fun _ => False) w w'
def EncPost (w : World) (xs : List Int) (l : List UInt8) (e : Ending) (w' : World) : Prop :=
  (EncOk xs l ∧ EncGood w (bt xs l l.length) e w') ∨ (¬ EncOk xs l ∧ e = .returned (.tuple #[.slice none 0 0, .bool false]) ∧ Kp (fun _ => False) w w')
theorem lf_le {xs : List Int} (h : InR xs) (s : Nat) : 0 ≤ lf xs s ∧ lf xs s ≤ 11 := by
  by_cases hs : s < xs.length
  · rw [lf_at hs]; exact h _ (List.getElem_mem hs)
  · have : lf xs s = 0 := by simp [lf, List.getElem?_eq_none (Nat.le_of_not_lt hs)]
    omega
theorem bt_len {xs : List Int} (h : InR xs) (l : List UInt8) : ∀ j, (bt xs l j).length ≤ 11 * j := by
  intro j
  induction j with
  | zero => simp [bt]
  | succ j ih =>
    simp only [bt, List.length_append, cb, bitsOf_len]
    have := lf_le h (sym l (l.length - 1 - j))
    omega
/-- A symbol's code and length as numbers. -/
theorem code_nat {xs : List Int} (h : IsOk xs) {s : Nat} (hg : gd xs s) : ∃ q n : Nat, codes xs s = (q : Nat) ∧ lf xs s = (n : Nat) ∧ 0 < n ∧ n ≤ 11 ∧ q < 2 ^ n := by
  obtain ⟨hs, h0⟩ := hg
  rw [lf_at hs] at h0 ⊢
  rcases codes_is h.2.1 hs with ⟨e, _⟩ | ⟨m, hm, e1, e2⟩
  · exact (h0 e).elim
  · exact ⟨_, m + 1, e2, by omega, by omega, by omega, h.lt hs hm e1⟩
theorem wr_new (ty : TypeId) (w : World) : WrAt ty (· = w.heap.size) (w.alloc (.cells #[.slice none 0 0] ty)) w.heap.size none 0 [] :=
  ⟨alloc_at w _, OwnR.nil _ _ _, rfl, fun k hk => by cases hk⟩
theorem bytes_at {w : World} {a : Option Addr} {c : Nat} {l : List UInt8} (h : SlR w 1 (.slice a l.length c) l.length (l.map u8c)) (h0 : 0 < l.length) :
    ∃ g o, a = some ⟨g, o, none⟩ ∧ g < w.heap.size ∧ l.length ≤ c ∧ ∀ i, i < l.length → w.cell? ⟨g, o + i, none⟩ = some (.int .u8 (sym l i : Nat)) := by
  obtain ⟨_, a', c', e, h1, _, _, hc⟩ := h
  simp only [Value.slice.injEq, true_and] at e
  obtain ⟨rfl, rfl⟩ := e
  obtain ⟨g, o, rfl, hg, hcc⟩ := hc h0
  refine ⟨g, o, rfl, hg, h1, fun i hi => hcc i _ ?_⟩
  simp [sym, hi, u8c]
theorem sym_lt (l : List UInt8) (i : Nat) : sym l i < 256 := by
  unfold sym
  exact (l[i]?.getD 0).toNat_lt
end Go.Proofs.YtphakpikalmghaaGreat.He
namespace Go.Proofs.YtphakpikalmghaaGreat.Rd
open Go Go.RowKit Go.Shelf Go.ChangeMaps Go.MapKept Go.Mg Go.Hf Go.Sort Go.Proofs.YtphakpikalmghaaGreat.Hu Go.Proofs.YtphakpikalmghaaGreat.Bw Go.Proofs.YtphakpikalmghaaGreat.He

/-- A Reader of the first r of the bits f. -/
structure RdAt (ty : TypeId) (F : Nat → Prop) (w : World) (p : Nat) (a : Option Addr) (c r : Nat) (f : Nat → Bool) : Prop where
  hp : w.heap[p]? = some (.cells #[.slice a r c] ty (0, 0))
  sl : SlR w 1 (.slice a r c) r ((List.range r).map fun i => Value.bool (f i))
  fp : F p
  ne : ∀ k, (Value.slice a r c).ownBlock = some k → F k ∧ k ≠ p
def RdIn (ty : TypeId) (F : Nat → Prop) (w : World) (p r : Nat) (f : Nat → Bool) : Prop := ∃ a c, RdAt ty F w p a c r f
theorem RdIn.kp {ty : TypeId} {F G : Nat → Prop} {w w' : World} {p r : Nat} {f : Nat → Bool} (h : RdIn ty F w p r f) (hk : Kp G w w') (hn : ∀ k, F k → ¬ G k) : RdIn ty F w' p r f := by
  obtain ⟨a, c, h1, h2, h3, h4⟩ := h
  exact ⟨a, c, hk.at_ h1 (hn _ h3), h2.kp hk (fun k q => hn k (h4 k q).1), h3, h4⟩
def NewRPost (ty : TypeId) (w : World) (l : List UInt8) (e : Ending) (w' : World) : Prop :=
  (Gb l ∧ ∃ p, e = .returned (.tuple #[.pointer (some ⟨p, 0, none⟩), .bool true]) ∧ RdIn ty (fun k => w.heap.size ≤ k ∧ k < w'.heap.size) w' p (top l) (bb l) ∧ Kp (fun _ => False) w w') ∨
  (¬ Gb l ∧ e = .returned (.tuple #[.pointer none, .bool false]) ∧ w' = w)
theorem len8_c (x : Nat) (hx : x < 256) (w : World) : Calls Tryz.prog 149 #[.int .u8 (x : Nat)] w fun e w' => e = .returned (.int .i64 (Lib.bitLen x : Nat)) ∧ w' = w := by
  have := Any.bits_Len8 Tryz.lays126 (x : Nat) w (by omega) (by omega)
  rwa [Int.toNat_natCast] at this
theorem map_snoc (f : Nat → Bool) (k : Nat) : (List.range (k + 1)).map f = (List.range k).map f ++ [f k] := by simp [List.range_succ]

set_option maxRecDepth 100000 in
set_option maxHeartbeats 2000000 in
theorem newr_p (w : World) (l : List UInt8) (ab : Option Addr) (cb' : Nat) (hb : SlR w 1 (.slice ab l.length cb') l.length (l.map u8c)) (hlb : l.length ≤ 100000) :
    Calls Tryz.prog 126 #[.slice ab l.length cb'] w (NewRPost 175 w l) := by
  have mixed : Tryz.prog.follows .mixedOrders = true := by kernel_rfl
  obtain ⟨i0, hi0, hz0, hz1, hz2⟩ := info_parts infoB
  by_cases h0 : l.length = 0
  · have HNO := Lib.hid (show ¬ Gb l from fun q => by have := q.1; omega)
    clear hb
    rw [h0]
    go_enter Tryz.func126, Tryz.ntmps126
    go_wp2_with fail
    go_ret2
    exact .inr ⟨HNO.out, rfl, rfl⟩
  · obtain ⟨g, o, rfl, hg, hcap, hc⟩ := bytes_at hb (by omega)
    obtain ⟨x, hx⟩ : ∃ x, x = sym l (l.length - 1) := ⟨_, rfl⟩
    have d0 := hc (l.length - 1) (by omega)
    rw [← hx] at d0
    have hx256 : x < 256 := by rw [hx]; exact sym_lt _ _
    have HX := Lib.hid hx
    have HC := Lib.hid hc
    have HSL := Lib.hid (sym_lt l)
    have HBB : Hid (∀ k, bb l k = decide (sym l (k / 8) / 2 ^ (k % 8) % 2 = 1)) := Lib.hid (fun _ => rfl)
    by_cases hx0 : x = 0
    · have HNO := Lib.hid (show ¬ Gb l from fun q => q.2 (by have := HX.out; rw [hx0] at this; exact this.symm))
      obtain ⟨n, hn⟩ : ∃ n, n = l.length - 1 := ⟨_, rfl⟩
      have hni : ((l.length : Nat) : Int) - 1 = (n : Nat) := by omega
      have hnn : ((l.length : Nat) : Int) = (n : Nat) + 1 := by omega
      rw [hx0, ← hn] at d0
      have hcap' : n + 1 ≤ cb' := by omega
      have hn5 : n ≤ 100000 := by omega
      rw [show l.length = n + 1 by omega]
      clear hb hc hx hx0 hni hnn h0 hcap hlb hn
      go_enter Tryz.func126, Tryz.ntmps126
      go_wp2_with fail
      go_ret2
      exact .inr ⟨HNO.out, rfl, rfl⟩
    · have hgb : Gb l := ⟨by omega, by have := HX.out; intro q; exact hx0 (this.trans q)⟩
      have HGB := Lib.hid hgb
      have htl := top_lt hgb
      have hs := hi_spec hx0 hx256
      have htop : top l = 8 * (l.length - 1) + hi x := by rw [HX.out]; rfl
      obtain ⟨n, hn⟩ : ∃ n, n = l.length - 1 := ⟨_, rfl⟩
      obtain ⟨T, hT⟩ : ∃ T, T = top l := ⟨_, rfl⟩
      obtain ⟨bl, hbl⟩ : ∃ bl, bl = Lib.bitLen x := ⟨_, rfl⟩
      have hbl1 : 1 ≤ bl ∧ bl ≤ 8 := by omega
      have hTi : T + 1 = 8 * n + bl := by omega
      have hT8 : T < 8 * (n + 1) := by omega
      have LEN := Lib.hid (len8_c x hx256 w)
      rw [← hbl] at LEN
      rw [← hn] at d0
      have hcap' : n + 1 ≤ cb' := by omega
      have hn5 : n ≤ 100000 := by omega
      have HLN := Lib.hid (show l.length = n + 1 by omega)
      have hx00 : ((x : Int) == 0) = false := by rw [beq_eq_false_iff_ne]; omega
      unfold NewRPost
      rw [← hT, HLN.out]
      have HCC : Hid (∀ V, Kp (fun _ => False) w V → ∀ k, k < T → V.cell? ⟨g, o + k / 8, none⟩ = some (.int .u8 (sym l (k / 8) : Nat))) := Lib.hid (fun V hk k hkt =>
        (hk.cell (p := ⟨g, o + k / 8, none⟩) hg (fun q => q)).trans (HC.out (k / 8) (by have := HLN.out; omega)))
      obtain ⟨f, hf⟩ : ∃ f, f = bb l := ⟨_, rfl⟩
      rw [← hf] at HBB ⊢
      clear hb hc hx hx0 h0 hcap hlb hn hT htl hs htop hbl hgb hf HC
      go_enter Tryz.func126, Tryz.ntmps126
      go_wp2_with fail
      refine LEN.out.mono ?_
      rintro e w' ⟨rfl, rfl⟩
      have hTT : (8 * (n : Int) + (bl : Nat) - 1) = (T : Nat) := by omega
      go_wp2_with fail
      have U0 : Hid (WrPost 175 (· = w'.heap.size) (w'.alloc (.cells #[.slice none 0 0] 175)) w'.heap.size ((List.range 0).map f) (w'.alloc (.cells #[.slice none 0 0] 175))) := Lib.hid ⟨_, _, _, wr_new 175 w', Kp.refl _ _, fun k q => .inl q⟩
      obtain ⟨W1, hW1⟩ : ∃ W1, W1 = w'.alloc (.cells #[.slice none 0 0] 175) := ⟨_, rfl⟩
      have HW1 := Lib.hid (show W1.heap.size = w'.heap.size + 1 ∧ Kp (fun _ => False) w' W1 by rw [hW1]; exact ⟨by simp, (Kp.refl _ _).alloc _⟩)
      rw [← hW1] at U0 ⊢
      clear hW1 d0 LEN
      go_loopw [35] (fun i wr => ∃ k : Nat, k ≤ T ∧ i = .int .i64 k ∧ WrPost 175 (· = w'.heap.size) W1 w'.heap.size ((List.range k).map f) wr) (fun i _ => T - (intOf i).toNat)
      case atStart => exact ⟨0, Nat.zero_le _, rfl, U0.out⟩
      case round =>
        clear U0
        obtain ⟨k, hk, rfl, F', a', c', h1, h2, h3⟩ := hrel
        have hkw : Kp (fun _ => False) w' wr := HW1.out.2.trans2 h2 (fun i hi q => by omega)
        by_cases hkT : k < T
        · obtain ⟨R, hR⟩ : ∃ R, R = (List.range k).map f := ⟨_, rfl⟩
          have hRl : R.length = k := by rw [hR]; simp
          obtain ⟨s, hs⟩ : ∃ s, s = sym l (k / 8) := ⟨_, rfl⟩
          have hs256 : s < 256 := by rw [hs]; exact HSL.out _
          have HR : Hid ((List.range (k + 1)).map f = R ++ [Go.bits .and .u8 ((s : Int) / 2 ^ (k % 8)) 1 == 1]) := Lib.hid (by
            rw [map_snoc, ← hR, low_bit s _ hs256, HBB.out k, ← hs]
            congr 2
            by_cases e : s / 2 ^ (k % 8) % 2 = 1
            · rw [e]; rfl
            · rw [show s / 2 ^ (k % 8) % 2 = 0 by omega]; rfl)
          rw [← hR] at h1
          have d1 := h1.cell
          rw [hRl] at d1
          have d2 := HCC.out wr hkw k hkT
          rw [← hs] at d2
          have H1 := Lib.hid h1
          have H2 := Lib.hid h2
          have H3 := Lib.hid h3
          have hk8 : k / 8 < n + 1 := by omega
          clear h1 h2 h3 hkw hR hs
          go_wp2_with fail
          have q1 : IntKind.i64.wrap ((k : Int) / 8) = (k : Int) / 8 := by rw [IntKind.wrap_i64]; omega
          have q2 : 0 ≤ (k : Int) / 8 := by omega
          have q3 : (k : Int) / 8 < (n : Int) + 1 := by omega
          have q4 : ((k : Int) / 8).toNat = k / 8 := by omega
          have q5 : (k : Int).tmod 8 = (k : Int) % 8 := Int.tmod_eq_emod_of_nonneg (by omega)
          have q6 : 0 ≤ (k : Int) % 8 := by omega
          have q7 : (k : Int) % 8 ≤ 8 := by omega
          have q8 : ((k : Int) % 8).toNat = k % 8 := by omega
          have T1 := Lib.hid (lit_b wr.drew)
          have kA : ∀ z, Kp (fun _ => False) wr (wr.drew.alloc (.cells #[.bool z] 4)) := fun z => ((Kp.refl _ _).drew).alloc _
          have KA := Lib.hid kA
          have d3 := (((Kp.refl (fun _ => False) wr).alloc (.cells #[.bool (Go.bits .and .u8 ((s : Int) / 2 ^ (k % 8)) 1 == 1)] 4)).cell (p := ⟨w'.heap.size, 0, none⟩) (lt_of_at H1.out.hp) (fun q => q)).trans d1
          have HO := Lib.hid (fun z => H1.out.own.kp (kA z) (fun _ _ q => q))
          have HRL := Lib.hid hRl
          clear kA hRl
          go_region_law (first
            | (refine step_app _ rfl (.tmp 42) (.tmp 53) 89 rfl 4 i0 _ 1 1 Tryz.underlying89 hi0 hz0 hz1 hz2 rfl (by decide) (by decide) (.slice a' R.length c') R.length _ (by simp [Act.eval, HRL.out]) (HO.out _) (.slice (some ⟨wr.heap.size, 0, none⟩) 1 1) 1 _ (by simp [Act.eval]) (T1.out _) (one_b _) (by have := HRL.out; omega) ?_; intro v1 w3 g1 g2 g3 g4 g5; obtain ⟨b1, e1, rfl⟩ := g1.form; obtain ⟨f1, f2, f3⟩ := H1.out.app (KA.out _) g1 g2 g3; have F3 := Lib.hid f3; clear g1 g2 g3 g4 g5 f3))
          all_goals (go_wp2_with fail; exact ⟨⟨k + 1, by omega, by go_num, by rw [HR.out]; exact WrPost.trans H2.out H3.out F3.out⟩, by simp [intOf]; omega⟩)
        · obtain rfl : k = T := by omega
          have hRl : ((List.range k).map f).length = k := by simp
          have HW : Hid (RdIn 175 (fun q => w'.heap.size ≤ q ∧ q < wr.heap.size) wr w'.heap.size k f) := Lib.hid ⟨a', c', by have := h1.hp; rwa [hRl] at this, by have := h1.own.sl; rw [hRl, List.map_map] at this; exact this, ⟨Nat.le_refl _, lt_of_at h1.hp⟩, fun q hq => by
            have h5 := h1.ne q (by rw [hRl]; exact hq)
            have h4 := h3 q h5.1
            have := HW1.out.1
            exact ⟨⟨by omega, h1.own.lt (by rw [hRl]; exact hq)⟩, h5.2⟩⟩
          have HK := Lib.hid hkw
          clear h1 h2 h3 hkw
          go_wp2_with fail
          go_ret2
          exact .inl ⟨HGB.out, _, rfl, HW.out, HK.out⟩
theorem left_p {F : Nat → Prop} {w : World} {p r : Nat} {f : Nat → Bool} (h : RdIn 175 F w p r f) :
    Calls Tryz.prog 127 #[.pointer (some ⟨p, 0, none⟩)] w fun e w' => e = .returned (.int .i64 (r : Nat)) ∧ w' = w := by
  obtain ⟨a, c, h1, h2, _, _⟩ := h
  have d0 : w.cell? ⟨p, 0, none⟩ = some (.slice a r c) := by rw [cell_of h1]; rfl
  clear h1 h2
  go_enter Tryz.func127, Tryz.ntmps127
  go_wp2_with fail
  go_ret
  exact ⟨rfl, rfl⟩
end Go.Proofs.YtphakpikalmghaaGreat.Rd

namespace Go.Proofs.YtphakpikalmghaaGreat.Rd
open Go Go.RowKit Go.Shelf Go.ChangeMaps Go.MapKept Go.Mg Go.Hf Go.Sort Go.Proofs.YtphakpikalmghaaGreat.Hu Go.Proofs.YtphakpikalmghaaGreat.Bw Go.Proofs.YtphakpikalmghaaGreat.He

def TakePost (ty : TypeId) (F : Nat → Prop) (w : World) (p r n : Nat) (f : Nat → Bool) (e : Ending) (w' : World) : Prop :=
  (n ≤ r ∧ e = .returned (.tuple #[.int .i64 (nv f (r - n) n : Nat), .bool true]) ∧ RdIn ty F w' p (r - n) f ∧ Kp (· = p) w w') ∨
  (r < n ∧ e = .returned (.tuple #[.int .i64 0, .bool false]) ∧ w' = w)
set_option maxRecDepth 100000 in
set_option maxHeartbeats 2000000 in
theorem take_p {F : Nat → Prop} {w : World} {p r : Nat} {f : Nat → Bool} (h : RdIn 175 F w p r f) (hr : r ≤ 1000000) (n : Nat) (hn : n ≤ 24) :
    Calls Tryz.prog 128 #[.pointer (some ⟨p, 0, none⟩), .int .i64 (n : Nat)] w (TakePost 175 F w p r n f) := by
  have HM := Lib.hid (many_c n hn)
  obtain ⟨a, c, h1, h2, h3, h4⟩ := h
  have d0 : w.cell? ⟨p, 0, none⟩ = some (.slice a r c) := by rw [cell_of h1]; rfl
  have f0 := free_of h1 0
  by_cases hlt : r < n
  · clear h1 h2 h3 h4 f0
    go_enter Tryz.func128, Tryz.ntmps128
    go_wp2_with fail
    refine (HM.out w).mono ?_
    rintro e w' ⟨rfl, rfl⟩
    go_wp2_with fail
    go_ret2
    exact .inr ⟨hlt, rfl, rfl⟩
  · obtain ⟨m, rfl⟩ : ∃ m, r = m + n := ⟨r - n, by omega⟩
    obtain ⟨a', c', e1, e2, e3⟩ := h2.from_ (P := Tryz.prog) Tryz.underlying89 (by kernel_rfl) (show m ≤ m + n by omega)
    rw [show m + n - m = n by omega] at e1 e2 e3
    obtain ⟨e4, e5⟩ := h2.upto (P := Tryz.prog) Tryz.underlying89 (by kernel_rfl) (show m ≤ m + n by omega)
    have HE5 : Hid (SlR w 1 (.slice a m c) m ((List.range m).map fun i => Value.bool (f i))) := Lib.hid (by
      have e : List.take (m * 1) ((List.range (m + n)).map fun i => Value.bool (f i)) = (List.range m).map fun i => Value.bool (f i) := by
        rw [← List.map_take, Nat.mul_one, List.take_range]; congr 2; omega
      rw [e] at e5; exact e5)
    have HC : Hid (0 < n → ∃ g o, a' = some ⟨g, o, none⟩ ∧ n ≤ c' ∧ ∀ i, i < n → w.cell? ⟨g, o + i, none⟩ = some (.bool (f (m + i)))) := Lib.hid (fun h0 => by
      obtain ⟨_, a0, c0, e0, q1, _, _, q4⟩ := e2
      simp only [Value.slice.injEq, true_and] at e0
      obtain ⟨rfl, rfl⟩ := e0
      obtain ⟨g, o, rfl, _, hc⟩ := q4 h0
      refine ⟨g, o, rfl, q1, fun i hi => hc i _ ?_⟩
      rw [List.getElem?_drop]
      simp [show m + i < m + n by omega])
    have HAT := Lib.hid h1
    have H3 := Lib.hid h3
    have H4 := Lib.hid h4
    have HV := Lib.hid (nv_lt f m)
    have HV0 : Hid (nv f m 0 = 0) := Lib.hid rfl
    have HVS : Hid (∀ k, nv f m (k + 1) = nv f m k + (if f (m + k) = true then 2 ^ k else 0)) := Lib.hid (fun _ => rfl)
    unfold TakePost
    rw [show m + n - n = m by omega]
    obtain ⟨v, hv⟩ : ∃ v, v = nv f m := ⟨_, rfl⟩
    rw [← hv] at HV HV0 HVS ⊢
    clear h1 h2 h3 h4 e2 e3 e5 hv
    have hlt2 : decide ((m : Int) + (n : Int) < (n : Int)) = false := decide_eq_false (by omega)
    go_enter Tryz.func128, Tryz.ntmps128
    go_wp2_with fail
    refine (HM.out w).mono ?_
    rintro e w' ⟨rfl, rfl⟩
    go_wp2_with fail
    go_loopw [7, 40] (fun u i wr => ∃ k : Nat, k ≤ n ∧ i = .int .i64 k ∧ u = .int .i64 (v k : Nat) ∧ wr = w') (fun _ i _ => n - (intOf i).toNat)
    case atStart => exact ⟨0, Nat.zero_le _, rfl, by rw [HV0.out]; rfl, rfl⟩
    case round =>
      obtain ⟨k, hk, rfl, rfl, rfl⟩ := hrel
      by_cases hkn : k < n
      · obtain ⟨g, o, rfl, hc1, hcc⟩ := HC.out (by omega)
        have d1 := hcc k hkn
        have hlt := HV.out k
        have HOR := Lib.hid (or_up (v k) k hlt (by omega))
        have h24 : 2 ^ k ≤ 2 ^ 24 := Nat.pow_le_pow_right (by omega) (by omega)
        have HS := HVS.out k
        obtain ⟨P, hP⟩ : ∃ P, P = 2 ^ k := ⟨_, rfl⟩
        have hPi : (2 : Int) ^ k = (P : Int) := by rw [hP]; simp
        rw [hPi] at HOR
        rw [← hP] at HOR HS h24 hlt
        have h24' : (2 : Nat) ^ 24 = 16777216 := rfl
        rw [h24'] at h24
        have hwP : IntKind.i64.wrap (P : Int) = (P : Int) := by rw [IntKind.wrap_i64]; omega
        obtain ⟨b, hb⟩ : ∃ b, b = f (m + k) := ⟨_, rfl⟩
        rw [← hb] at d1 HS
        obtain ⟨vk, hvk⟩ : ∃ vk, vk = v k := ⟨_, rfl⟩
        rw [← hvk] at HOR HS hlt ⊢
        have HSS := Lib.hid HS
        clear hcc hP hb h24' hvk HS
        have or1 := HOR.out
        cases b with
        | true =>
          go_wp2_with fail
          refine ⟨⟨k + 1, by omega, by go_num, ?_, by first | rfl | trivial⟩, by simp [intOf]; omega⟩
          rw [HSS.out, if_pos rfl, Int.natCast_add]
        | false =>
          go_wp2_with fail
          refine ⟨⟨k + 1, by omega, by go_num, ?_, by first | rfl | trivial⟩, by simp [intOf]; omega⟩
          rw [HSS.out]; simp
      · obtain rfl : k = n := by omega
        have hlt := HV.out k
        have HSET := Lib.hid (setCell_at (i := 0) HAT.out (.slice a m c))
        have HKS := Lib.hid ((Kp.refl (· = p) wr).setCell (p := ⟨p, 0, none⟩) (fun _ => rfl) (.slice a m c))
        go_wp2_with fail
        go_ret2
        refine .inl ⟨by omega, rfl, ⟨a, c, HSET.out, HE5.out.kp HKS.out (fun b hb => ?_), H3.out, fun b hb => ?_⟩, HKS.out⟩
        · have : (Value.slice a (m + k) c).ownBlock = some b := by rw [← hb]; cases a <;> rfl
          exact (H4.out b this).2
        · have : (Value.slice a (m + k) c).ownBlock = some b := by rw [← hb]; cases a <;> rfl
          exact H4.out b this
end Go.Proofs.YtphakpikalmghaaGreat.Rd

namespace Go.Proofs.YtphakpikalmghaaGreat.Rd
open Go Go.RowKit Go.Shelf Go.ChangeMaps Go.MapKept Go.Mg Go.Hf Go.Sort Go.Proofs.YtphakpikalmghaaGreat.Hu Go.Proofs.YtphakpikalmghaaGreat.Bw Go.Proofs.YtphakpikalmghaaGreat.He

/-- A Reader of the first r of the bits of the bytes l. -/
structure RdD (w : World) (p r : Nat) (ab : Option Addr) (cb' : Nat) (l : List UInt8) : Prop where
  hp : w.heap[p]? = some (.cells #[.slice ab l.length cb', .int .i64 (r : Nat)] 117 (0, 0))
  sl : SlR w 1 (.slice ab l.length cb') l.length (l.map u8c)
  ne : ∀ b, (Value.slice ab l.length cb').ownBlock = some b → b ≠ p
  le : r < 8 * l.length
theorem RdD.kp {G : Nat → Prop} {w w' : World} {p r : Nat} {ab : Option Addr} {cb' : Nat} {l : List UInt8} (h : RdD w p r ab cb' l) (hk : Kp G w w') (h1 : ¬ G p) (h2 : ∀ b, (Value.slice ab l.length cb').ownBlock = some b → ¬ G b) : RdD w' p r ab cb' l :=
  ⟨hk.at_ h.hp h1, h.sl.kp hk h2, h.ne, h.le⟩
def NewDPost (w : World) (ab : Option Addr) (cb' : Nat) (l : List UInt8) (e : Ending) (w' : World) : Prop :=
  (Gb l ∧ ∃ p, e = .returned (.tuple #[.pointer (some ⟨p, 0, none⟩), .bool true]) ∧ w.heap.size ≤ p ∧ RdD w' p (top l) ab cb' l ∧ Kp (fun _ => False) w w') ∨
  (¬ Gb l ∧ e = .returned (.tuple #[.pointer none, .bool false]) ∧ w' = w)
set_option maxRecDepth 100000 in
set_option maxHeartbeats 2000000 in
theorem newr_d (w : World) (l : List UInt8) (ab : Option Addr) (cb' : Nat) (hb : SlR w 1 (.slice ab l.length cb') l.length (l.map u8c)) (hlb : l.length ≤ 100000) :
    Calls Tryz.prog 94 #[.slice ab l.length cb'] w (NewDPost w ab cb' l) := by
  by_cases h0 : l.length = 0
  · have HNO := Lib.hid (show ¬ Gb l from fun q => by have := q.1; omega)
    clear hb
    unfold NewDPost
    rw [h0]
    go_enter Tryz.func94, Tryz.ntmps94
    go_wp2_with fail
    go_ret2
    exact .inr ⟨HNO.out, rfl, rfl⟩
  · have RB := Lib.hid hb
    obtain ⟨g, o, rfl, hg, hcap, hc⟩ := bytes_at hb (by omega)
    obtain ⟨x, hx⟩ : ∃ x, x = sym l (l.length - 1) := ⟨_, rfl⟩
    have d0 := hc (l.length - 1) (by omega)
    rw [← hx] at d0
    have hx256 : x < 256 := by rw [hx]; exact sym_lt _ _
    have HX := Lib.hid hx
    have HC := Lib.hid hc
    have HSL := Lib.hid (sym_lt l)
    have HBB : Hid (∀ k, bb l k = decide (sym l (k / 8) / 2 ^ (k % 8) % 2 = 1)) := Lib.hid (fun _ => rfl)
    obtain ⟨n, hn⟩ : ∃ n, n = l.length - 1 := ⟨_, rfl⟩
    have hcap' : n + 1 ≤ cb' := by omega
    have hn5 : n ≤ 100000 := by omega
    have HLN := Lib.hid (show l.length = n + 1 by omega)
    by_cases hx0 : x = 0
    · have HNO := Lib.hid (show ¬ Gb l from fun q => q.2 (by have := HX.out; rw [hx0] at this; exact this.symm))
      rw [hx0, ← hn] at d0
      unfold NewDPost
      rw [HLN.out]
      clear hb hc hx hx0 h0 hcap hlb hn
      go_enter Tryz.func94, Tryz.ntmps94
      go_wp2_with fail
      go_ret2
      exact .inr ⟨HNO.out, rfl, rfl⟩
    · have hgb : Gb l := ⟨by omega, by have := HX.out; intro q; exact hx0 (this.trans q)⟩
      have HGB := Lib.hid hgb
      have htl := top_lt hgb
      have HT1 := Lib.hid (bb_top hgb)
      have HT2 : Hid (∀ k, top l < k → k < 8 * l.length → bb l k = false) := Lib.hid (fun k => bb_above hgb)
      have HTL := Lib.hid htl.1
      obtain ⟨T, hT⟩ : ∃ T, T = top l := ⟨_, rfl⟩
      rw [← hn] at d0
      have hx00 : ((x : Int) == 0) = false := by rw [beq_eq_false_iff_ne]; omega
      rw [← hT, HLN.out] at HT2
      rw [← hT] at HT1
      have hT8 : T < 8 * (n + 1) := by omega
      have HTT := Lib.hid hT
      have HNE : Hid (∀ b, (Value.slice (some ⟨g, o, none⟩) l.length cb').ownBlock = some b → b < w.heap.size) := Lib.hid (fun b hb => by cases hb; exact hg)
      unfold NewDPost
      rw [HLN.out]
      obtain ⟨f, hf⟩ : ∃ f, f = bb l := ⟨_, rfl⟩
      rw [← hf] at HBB HT1 HT2
      clear hb hc hx hx0 h0 hcap hlb hn hT htl hgb hf
      go_enter Tryz.func94, Tryz.ntmps94
      go_wp2_with fail
      go_loopw [4] (fun i wr => ∃ j : Nat, T ≤ j ∧ j < 8 * (n + 1) ∧ i = .int .i64 j ∧ wr = w) (fun i _ => (intOf i).toNat)
      case atStart => exact ⟨8 * (n + 1) - 1, by omega, by omega, by congr 1; omega, rfl⟩
      case round =>
        obtain ⟨j, hTj, hj, rfl, rfl⟩ := hrel
        have d1 := HC.out (j / 8) (by have := HLN.out; omega)
        have hs256 := HSL.out (j / 8)
        have HBJ := Lib.hid (HBB.out j)
        have hlow := low_bit (sym l (j / 8)) (j % 8) hs256
        obtain ⟨s, hs⟩ : ∃ s, s = sym l (j / 8) := ⟨_, rfl⟩
        rw [← hs] at d1 hs256 hlow HBJ
        have hj8 : j / 8 < n + 1 := by omega
        have q5 : (j : Int).tmod 8 = (j : Int) % 8 := Int.tmod_eq_emod_of_nonneg (by omega)
        clear hs
        by_cases hb : s / 2 ^ (j % 8) % 2 = 1
        · have hjT : j = T := by
            rcases Nat.lt_or_ge T j with q | q
            · have h1 := HT2.out j q hj
              rw [HBJ.out, decide_eq_true hb] at h1
              cases h1
            · omega
          subst hjT
          rw [hb] at hlow
          clear hb
          go_wp2_with fail
          go_ret2
          refine .inl ⟨HGB.out, _, rfl, Nat.le_refl _, ?_, (Kp.refl _ _).alloc _⟩
          rw [← HTT.out]
          refine ⟨?_, RB.out.kp ((Kp.refl (fun _ => False) _).alloc _) (fun _ _ q => q), fun b hb => by have := HNE.out b hb; omega, ?_⟩
          · rw [alloc_at, HLN.out]
          · rw [HTT.out]; exact HTL.out
        · have hb0 : s / 2 ^ (j % 8) % 2 = 0 := by omega
          have hjT : j ≠ T := by
            intro q
            have h1 := HT1.out
            rw [← q, HBJ.out] at h1
            exact hb (of_decide_eq_true h1)
          rw [hb0] at hlow
          clear hb hb0
          obtain ⟨i, rfl⟩ : ∃ i, j = i + 1 := ⟨j - 1, by omega⟩
          go_wp2_with fail
          exact ⟨⟨i, by omega, by omega, by go_num, by first | rfl | trivial⟩, by simp [intOf]⟩
end Go.Proofs.YtphakpikalmghaaGreat.Rd

namespace Go.Proofs.YtphakpikalmghaaGreat.Rd
open Go Go.RowKit Go.Shelf Go.ChangeMaps Go.MapKept Go.Mg Go.Hf Go.Sort Go.Proofs.YtphakpikalmghaaGreat.Hu Go.Proofs.YtphakpikalmghaaGreat.Bw Go.Proofs.YtphakpikalmghaaGreat.He

def TakeDPost (w : World) (p r n : Nat) (ab : Option Addr) (cb' : Nat) (l : List UInt8) (e : Ending) (w' : World) : Prop :=
  (n ≤ r ∧ e = .returned (.tuple #[.int .i64 (nv (bb l) (r - n) n : Nat), .bool true]) ∧ RdD w' p (r - n) ab cb' l ∧ Kp (· = p) w w') ∨
  (r < n ∧ e = .returned (.tuple #[.int .i64 0, .bool false]) ∧ w' = w)
set_option maxRecDepth 100000 in
set_option maxHeartbeats 2000000 in
theorem take_d {w : World} {p r : Nat} {ab : Option Addr} {cb' : Nat} {l : List UInt8} (h : RdD w p r ab cb' l) (hlb : l.length ≤ 100000) (n : Nat) (hn : n ≤ 24) :
    Calls Tryz.prog 130 #[.pointer (some ⟨p, 0, none⟩), .int .i64 (n : Nat)] w (TakeDPost w p r n ab cb' l) := by
  have hr8 := h.le
  have d0 : w.cell? ⟨p, 0, none⟩ = some (.slice ab l.length cb') := by rw [cell_of h.hp]; rfl
  have d1 : w.cell? ⟨p, 1, none⟩ = some (.int .i64 (r : Nat)) := by rw [cell_of h.hp]; rfl
  have f1 := free_of h.hp 1
  have hn24 : (n : Int) ≤ 24 := by omega
  by_cases hlt : r < n
  · clear h f1
    go_enter Tryz.func130, Tryz.ntmps130
    go_wp2_with fail
    go_ret2
    exact .inr ⟨hlt, rfl, rfl⟩
  · obtain ⟨m, rfl⟩ : ∃ m, r = m + n := ⟨r - n, by omega⟩
    have hset := setCell_at (i := 1) h.hp (.int .i64 (m : Nat))
    have hks := (Kp.refl (· = p) w).setCell (p := ⟨p, 1, none⟩) (fun _ => rfl) (.int .i64 (m : Nat))
    obtain ⟨W, hW⟩ : ∃ W, W = w.setCell ⟨p, 1, none⟩ (.int .i64 (m : Nat)) := ⟨_, rfl⟩
    have HWE := Lib.hid hW
    rw [← hW] at hset hks
    have HAT : Hid (RdD W p m ab cb' l) := Lib.hid ⟨hset, h.sl.kp hks h.ne, h.ne, by omega⟩
    have e0 : W.cell? ⟨p, 0, none⟩ = some (.slice ab l.length cb') := by rw [cell_of hset]; rfl
    have e1 : W.cell? ⟨p, 1, none⟩ = some (.int .i64 (m : Nat)) := by rw [cell_of hset]; rfl
    have HKS := Lib.hid hks
    have HC : Hid (0 < l.length → ∃ g o, ab = some ⟨g, o, none⟩ ∧ l.length ≤ cb' ∧ ∀ i, i < l.length → W.cell? ⟨g, o + i, none⟩ = some (.int .u8 (sym l i : Nat))) := Lib.hid (fun h0 => by
      obtain ⟨g, o, e, _, h1, h2⟩ := bytes_at HAT.out.sl h0
      exact ⟨g, o, e, h1, h2⟩)
    have HSL := Lib.hid (sym_lt l)
    have HBB : Hid (∀ k, bb l k = decide (sym l (k / 8) / 2 ^ (k % 8) % 2 = 1)) := Lib.hid (fun _ => rfl)
    unfold TakeDPost
    rw [show m + n - n = m by omega]
    obtain ⟨L, hL⟩ : ∃ L, L = l.length := ⟨_, rfl⟩
    rw [← hL] at HC hr8 d0 e0 hlb
    have HV := Lib.hid (fun k => nv_lt (bb l) (m + k) (n - k))
    have HVS : Hid (∀ q, q < n → nv (bb l) (m + q) (n - q) = 2 * nv (bb l) (m + (q + 1)) (n - (q + 1)) + (if bb l (m + q) = true then 1 else 0)) := Lib.hid (fun q hq => by
      rw [show n - q = (n - (q + 1)) + 1 by omega, nv_low]; rfl)
    obtain ⟨v, hv⟩ : ∃ v, v = fun k => nv (bb l) (m + k) (n - k) := ⟨_, rfl⟩
    have HV1 : Hid (∀ q, q < n → v q = 2 * v (q + 1) + (if bb l (m + q) = true then 1 else 0)) := Lib.hid (by rw [hv]; exact HVS.out)
    have HV2 : Hid (∀ q, v q < 2 ^ 24) := Lib.hid (fun q => by
      rw [hv]; exact Nat.lt_of_lt_of_le (HV.out q) (Nat.pow_le_pow_right (by omega) (by omega)))
    have HV3 : Hid (v n = 0) := Lib.hid (by rw [hv]; simp [Hf.nv])
    have HV4 : Hid (nv (bb l) m n = v 0) := Lib.hid (by rw [hv]; rfl)
    rw [HV4.out]
    clear h hset hks hW hv HV HVS hL
    have hlt2 : decide ((m : Int) + (n : Int) < (n : Int)) = false := decide_eq_false (by omega)
    go_enter Tryz.func130, Tryz.ntmps130
    go_wp2_with fail
    rw [← HWE.out]
    clear d0 d1 f1
    go_loopw [6, 7, 8] (fun u i _ wr => ∃ j : Nat, j ≤ n ∧ i = .int .i64 ((j : Int) - 1) ∧ u = .int .i64 (v j : Nat) ∧ wr = W) (fun _ i _ _ => (intOf i + 1).toNat)
    case atStart => exact ⟨n, Nat.le_refl _, by simp, by rw [HV3.out]; rfl, rfl⟩
    case round =>
      obtain ⟨j, hj, rfl, rfl, rfl⟩ := hrel
      cases j with
      | zero =>
        rw [show ((0 : Nat) : Int) - 1 = -1 by rfl]
        go_wp2_with fail
        go_ret2
        exact .inl ⟨by omega, rfl, HAT.out, HKS.out⟩
      | succ q =>
        rw [show (((q + 1 : Nat) : Int) - 1) = (q : Nat) by omega]
        obtain ⟨g, o, rfl, hcap, hcc⟩ := HC.out (by omega)
        obtain ⟨K, hK⟩ : ∃ K, K = m + q := ⟨_, rfl⟩
        have hKi : (m : Int) + (q : Int) = (K : Nat) := by omega
        have hK8 : K / 8 < L := by omega
        have d1 := hcc (K / 8) hK8
        have hs256 := HSL.out (K / 8)
        have HBJ := Lib.hid (HBB.out K)
        have hlow := low_bit (sym l (K / 8)) (K % 8) hs256
        have H1 := Lib.hid (HV1.out q (by omega))
        have h24 := HV2.out (q + 1)
        have h24' : (2 : Nat) ^ 24 = 16777216 := rfl
        rw [h24'] at h24
        obtain ⟨s, hs⟩ : ∃ s, s = sym l (K / 8) := ⟨_, rfl⟩
        rw [← hs] at d1 hs256 hlow HBJ
        obtain ⟨vk, hvk⟩ : ∃ vk, vk = v (q + 1) := ⟨_, rfl⟩
        rw [← hvk, ← hK, HBJ.out] at H1
        rw [← hvk] at h24 ⊢
        have hw2 : ((vk : Int) * 2) = ((2 * vk : Nat) : Int) := by omega
        have q5 : (K : Int).tmod 8 = (K : Int) % 8 := Int.tmod_eq_emod_of_nonneg (by omega)
        have h40 : (2 : Nat) ^ 40 = 1099511627776 := rfl
        by_cases hb : s / 2 ^ (K % 8) % 2 = 1
        · have or1 := or_low vk 1 (by omega) (by omega)
          rw [hb] at hlow
          rw [decide_eq_true hb, if_pos rfl] at H1
          clear hw2 hcc hs hvk hb h24' h40 hK
          go_wp2_with fail
          refine ⟨⟨q, by omega, by first | rfl | trivial, ?_, by first | rfl | trivial⟩, by simp [intOf]; try omega⟩
          rw [H1.out]
          congr 1
          rw [Int.mul_comm]
          exact or1
        · have hb0 : s / 2 ^ (K % 8) % 2 = 0 := by omega
          have or1 := or_low vk 0 (by omega) (by omega)
          rw [hb0] at hlow
          rw [decide_eq_false hb, if_neg (by decide)] at H1
          clear hw2 hcc hs hvk hb hb0 h24' h40 hK
          go_wp2_with fail
          refine ⟨⟨q, by omega, by first | rfl | trivial, ?_, by first | rfl | trivial⟩, by simp [intOf]; try omega⟩
          rw [H1.out]
          congr 1
          rw [Int.mul_comm]
          exact or1
end Go.Proofs.YtphakpikalmghaaGreat.Rd

namespace Go.Proofs.YtphakpikalmghaaGreat.Rd
open Go Go.RowKit Go.Shelf Go.ChangeMaps Go.MapKept Go.Mg Go.Hf Go.Sort Go.Proofs.YtphakpikalmghaaGreat.Hu Go.Proofs.YtphakpikalmghaaGreat.Bw Go.Proofs.YtphakpikalmghaaGreat.He

def fdv : Option Nat → Int
  | some s => (s : Int)
  | none => -1
/-- The lengths and the codes, in two rows. -/
def Tab (w : World) (xs : List Int) (g o gc : Nat) : Prop := ∀ i, i < xs.length → w.cell? ⟨gc, i, none⟩ = some (.int .i64 (codes xs i)) ∧ w.cell? ⟨g, o + i, none⟩ = some (.int .i64 (lf xs i))
theorem Tab.kp {F : Nat → Prop} {w w' : World} {xs : List Int} {g o gc : Nat} (h : Tab w xs g o gc) (hk : Kp F w w') (h1 : g < w.heap.size ∧ ¬ F g) (h2 : gc < w.heap.size ∧ ¬ F gc) : Tab w' xs g o gc := fun i hi =>
  ⟨(hk.cell (p := ⟨gc, i, none⟩) h2.1 h2.2).trans (h i hi).1, (hk.cell (p := ⟨g, o + i, none⟩) h1.1 h1.2).trans (h i hi).2⟩
theorem fd_step_no {xs : List Int} {code n : Int} {k : Nat} (h : fd xs code n k = none) (hn : ¬ (lf xs k = n ∧ codes xs k = code)) : fd xs code n (k + 1) = none := by simp only [fd, h, if_neg hn]
theorem fd_step_yes {xs : List Int} {code n : Int} {k : Nat} (h : fd xs code n k = none) (hn : lf xs k = n ∧ codes xs k = code) : fd xs code n (k + 1) = some k := by simp only [fd, h, if_pos hn]
set_option maxRecDepth 100000 in
set_option maxHeartbeats 1000000 in
theorem found_p (w : World) (xs : List Int) (g o c gc : Nat) (hl : xs.length ≤ 300) (hcap : xs.length ≤ c) (h : Tab w xs g o gc) (code n : Int) :
    Calls Tryz.prog 129 #[.slice (some ⟨g, o, none⟩) xs.length c, .slice (some ⟨gc, 0, none⟩) xs.length xs.length, .int .i64 code, .int .i64 n] w fun e w' => e = .returned (.int .i64 (fdv (fd xs code n xs.length))) ∧ w' = w := by
  have H := Lib.hid h
  have HNO := Lib.hid (fun k => fd_step_no (xs := xs) (code := code) (n := n) (k := k))
  have HYES := Lib.hid (fun k => fd_step_yes (xs := xs) (code := code) (n := n) (k := k))
  have HSAME : Hid (∀ k s, k ≤ xs.length → fd xs code n k = some s → fd xs code n xs.length = some s) := Lib.hid (fun k s hk e => fd_same e _ hk)
  have HSTART : Hid (fd xs code n 0 = none) := Lib.hid rfl
  obtain ⟨N, hN⟩ : ∃ N, N = xs.length := ⟨_, rfl⟩
  unfold Tab at H
  obtain ⟨FD, hFD⟩ : ∃ FD, FD = fd xs code n := ⟨_, rfl⟩
  generalize lf xs = X at *
  generalize codes xs = C at *
  rw [← hN] at H HSAME hl hcap ⊢
  rw [← hFD] at HNO HYES HSAME HSTART ⊢
  clear h hN hFD
  go_enter Tryz.func129, Tryz.ntmps129
  go_wp2_with fail
  go_loopw [13] (fun i wr => ∃ k : Nat, k ≤ N ∧ i = .int .i64 k ∧ FD k = none ∧ wr = w) (fun i _ => N - (intOf i).toNat)
  case atStart => exact ⟨0, Nat.zero_le _, rfl, HSTART.out, rfl⟩
  case round =>
    obtain ⟨k, hk, rfl, hno, rfl⟩ := hrel
    have HN := Lib.hid hno
    clear hno
    by_cases hkn : k < N
    · obtain ⟨d2, d1⟩ := H.out k hkn
      by_cases e1 : X k = n
      · by_cases e2 : C k = code
        · have HY := Lib.hid (HSAME.out _ _ (by omega) (HYES.out k HN.out ⟨e1, e2⟩))
          rw [e1] at d1
          rw [e2] at d2
          have b1 : (n == n) = true := by simp
          have b2 : (code == code) = true := by simp
          clear e1 e2
          go_wp2_with fail
          go_ret
          exact ⟨by rw [HY.out]; rfl, rfl⟩
        · have HS := Lib.hid (HNO.out k HN.out (fun q => e2 q.2))
          rw [e1] at d1
          obtain ⟨y, hy⟩ : ∃ y, y = C k := ⟨_, rfl⟩
          rw [← hy] at d2 e2
          have b1 : (n == n) = true := by simp
          have b2 : (y == code) = false := by rw [beq_eq_false_iff_ne]; exact e2
          clear e1 e2 hy
          go_wp2_with fail
          exact ⟨⟨k + 1, by omega, by go_num, HS.out, by first | rfl | trivial⟩, by simp [intOf]; omega⟩
      · have HS := Lib.hid (HNO.out k HN.out (fun q => e1 q.1))
        obtain ⟨y, hy⟩ : ∃ y, y = X k := ⟨_, rfl⟩
        rw [← hy] at d1 e1
        have b1 : (y == n) = false := by rw [beq_eq_false_iff_ne]; exact e1
        clear e1 hy
        go_wp2_with fail
        exact ⟨⟨k + 1, by omega, by go_num, HS.out, by first | rfl | trivial⟩, by simp [intOf]; omega⟩
    · obtain rfl : k = N := by omega
      go_wp2_with fail
      go_ret
      exact ⟨by rw [HN.out]; rfl, rfl⟩
set_option maxRecDepth 100000 in
set_option maxHeartbeats 1000000 in
theorem symbol_d (w : World) (xs : List Int) (g o c gc : Nat) (hl : xs.length ≤ 300) (hcap : xs.length ≤ c) (h : Tab w xs g o gc) (code n : Int) :
    Calls Tryz.prog 131 #[.slice (some ⟨g, o, none⟩) xs.length c, .slice (some ⟨gc, 0, none⟩) xs.length xs.length, .int .i64 code, .int .i64 n] w fun e w' => e = .returned (.int .i64 (fdv (fd xs code n xs.length))) ∧ w' = w := by
  have H := Lib.hid h
  have HNO := Lib.hid (fun k => fd_step_no (xs := xs) (code := code) (n := n) (k := k))
  have HYES := Lib.hid (fun k => fd_step_yes (xs := xs) (code := code) (n := n) (k := k))
  have HSAME : Hid (∀ k s, k ≤ xs.length → fd xs code n k = some s → fd xs code n xs.length = some s) := Lib.hid (fun k s hk e => fd_same e _ hk)
  have HSTART : Hid (fd xs code n 0 = none) := Lib.hid rfl
  obtain ⟨N, hN⟩ : ∃ N, N = xs.length := ⟨_, rfl⟩
  unfold Tab at H
  obtain ⟨FD, hFD⟩ : ∃ FD, FD = fd xs code n := ⟨_, rfl⟩
  generalize lf xs = X at *
  generalize codes xs = C at *
  rw [← hN] at H HSAME hl hcap ⊢
  rw [← hFD] at HNO HYES HSAME HSTART ⊢
  clear h hN hFD
  go_enter Tryz.func131, Tryz.ntmps131
  go_wp2_with fail
  go_loopw [9] (fun i wr => ∃ k : Nat, k ≤ N ∧ i = .int .i64 k ∧ FD k = none ∧ wr = w) (fun i _ => N - (intOf i).toNat)
  case atStart => exact ⟨0, Nat.zero_le _, rfl, HSTART.out, rfl⟩
  case round =>
    obtain ⟨k, hk, rfl, hno, rfl⟩ := hrel
    have HN := Lib.hid hno
    clear hno
    by_cases hkn : k < N
    · obtain ⟨d2, d1⟩ := H.out k hkn
      by_cases e1 : X k = n
      · by_cases e2 : C k = code
        · have HY := Lib.hid (HSAME.out _ _ (by omega) (HYES.out k HN.out ⟨e1, e2⟩))
          rw [e1] at d1
          rw [e2] at d2
          have b1 : (n == n) = true := by simp
          have b2 : (code == code) = true := by simp
          clear e1 e2
          go_wp2_with fail
          go_ret
          exact ⟨by rw [HY.out]; rfl, rfl⟩
        · have HS := Lib.hid (HNO.out k HN.out (fun q => e2 q.2))
          rw [e1] at d1
          obtain ⟨y, hy⟩ : ∃ y, y = C k := ⟨_, rfl⟩
          rw [← hy] at d2 e2
          have b1 : (n == n) = true := by simp
          have b2 : (y == code) = false := by rw [beq_eq_false_iff_ne]; exact e2
          clear e1 e2 hy
          go_wp2_with fail
          exact ⟨⟨k + 1, by omega, by go_num, HS.out, by first | rfl | trivial⟩, by simp [intOf]; omega⟩
      · have HS := Lib.hid (HNO.out k HN.out (fun q => e1 q.1))
        obtain ⟨y, hy⟩ : ∃ y, y = X k := ⟨_, rfl⟩
        rw [← hy] at d1 e1
        have b1 : (y == n) = false := by rw [beq_eq_false_iff_ne]; exact e1
        clear e1 hy
        go_wp2_with fail
        exact ⟨⟨k + 1, by omega, by go_num, HS.out, by first | rfl | trivial⟩, by simp [intOf]; omega⟩
    · obtain rfl : k = N := by omega
      go_wp2_with fail
      go_ret
      exact ⟨by rw [HN.out]; rfl, rfl⟩
end Go.Proofs.YtphakpikalmghaaGreat.Rd

namespace Go.Proofs.YtphakpikalmghaaGreat.Rd
open Go Go.RowKit Go.Shelf Go.ChangeMaps Go.MapKept Go.Mg Go.Hf Go.Sort Go.Proofs.YtphakpikalmghaaGreat.Hu Go.Proofs.YtphakpikalmghaaGreat.Bw Go.Proofs.YtphakpikalmghaaGreat.He

/-- The bit at a place, as a number. -/
def bn (f : Nat → Bool) (k : Nat) : Nat := if f k = true then 1 else 0
theorem bn_lt (f : Nat → Bool) (k : Nat) : bn f k < 2 := by unfold bn; split <;> omega
theorem nv_one (f : Nat → Bool) (k : Nat) : Hf.nv f k 1 = bn f k := by simp [Hf.nv, bn]
theorem one_end {xs : List Int} {f : Nat → Bool} {n code r : Nat} : oneS xs f 0 n code r = none := rfl
theorem one_dry {xs : List Int} {f : Nat → Bool} {m n code : Nat} : oneS xs f (m + 1) n code 0 = none := by simp [oneS]
theorem one_hit {xs : List Int} {f : Nat → Bool} {m n code r s : Nat} (h : fd xs ((2 * code + bn f r : Nat) : Int) (n : Int) xs.length = some s) : oneS xs f (m + 1) n code (r + 1) = some (s, r) := by
  simp only [oneS, Nat.add_one_sub_one]
  rw [if_neg (by omega)]
  unfold bn at h
  rw [h]
theorem one_miss {xs : List Int} {f : Nat → Bool} {m n code r : Nat} (h : fd xs ((2 * code + bn f r : Nat) : Int) (n : Int) xs.length = none) : oneS xs f (m + 1) n code (r + 1) = oneS xs f m (n + 1) (2 * code + bn f r) r := by
  simp only [oneS, Nat.add_one_sub_one]
  rw [if_neg (by omega)]
  unfold bn at h ⊢
  rw [h]
def OneD (w : World) (xs : List Int) (p r : Nat) (ab : Option Addr) (cb' : Nat) (l : List UInt8) (e : Ending) (w' : World) : Prop :=
  (∃ s r', oneS xs (bb l) 11 1 0 r = some (s, r') ∧ e = .returned (.int .i64 (s : Nat)) ∧ RdD w' p r' ab cb' l ∧ Kp (· = p) w w') ∨
  (oneS xs (bb l) 11 1 0 r = none ∧ e = .returned (.int .i64 (-1)) ∧ Kp (· = p) w w')
set_option maxRecDepth 100000 in
set_option maxHeartbeats 2000000 in
theorem one_d (w : World) (xs : List Int) (g o c gc : Nat) (hl : xs.length ≤ 300) (hcap : xs.length ≤ c) (h : Tab w xs g o gc) (hg : g < w.heap.size) (hgc : gc < w.heap.size) {p r : Nat} (hgp : g ≠ p) (hgcp : gc ≠ p) {ab : Option Addr} {cb' : Nat} {l : List UInt8} (hr : RdD w p r ab cb' l) (hlb : l.length ≤ 100000) :
    Calls Tryz.prog 95 #[.slice (some ⟨g, o, none⟩) xs.length c, .slice (some ⟨gc, 0, none⟩) xs.length xs.length, .pointer (some ⟨p, 0, none⟩)] w (OneD w xs p r ab cb' l) := by
  have HTAB := Lib.hid (fun V (hk : Kp (· = p) w V) => h.kp hk ⟨hg, hgp⟩ ⟨hgc, hgcp⟩)
  have HR := Lib.hid hr
  have HBN := Lib.hid (fun k => bn_lt (bb l) k)
  unfold OneD
  obtain ⟨ONE, hONE⟩ : ∃ ONE, ONE = oneS xs (bb l) 11 1 0 r := ⟨_, rfl⟩
  have HONE := Lib.hid hONE
  rw [← hONE]
  clear h hr hONE
  go_enter Tryz.func95, Tryz.ntmps95
  go_wp2_with fail
  go_loopw [7, 8] (fun u i wr => ∃ n code r' : Nat, n ≤ 11 ∧ i = .int .i64 ((n : Nat) + 1) ∧ u = .int .i64 code ∧ code < 2 ^ n ∧ RdD wr p r' ab cb' l ∧ Kp (· = p) w wr ∧ ONE = oneS xs (bb l) (11 - n) (n + 1) code r') (fun _ i _ => 12 - (intOf i).toNat)
  case atStart => exact ⟨0, 0, r, by omega, rfl, rfl, by omega, HR.out, Kp.refl _ _, HONE.out⟩
  case round =>
    obtain ⟨n, code, r', hn, rfl, rfl, hcode, hrd, hk, hone⟩ := hrel
    have h11 : 2 ^ n ≤ 2 ^ 11 := Nat.pow_le_pow_right (by omega) hn
    have e11 : 2 ^ 11 = 2048 := rfl
    have hc2 : code ≤ 8388608 := by omega
    have hP : 2 ^ (n + 1) = 2 * 2 ^ n := by rw [Nat.pow_succ]; omega
    have HC1 := Lib.hid hcode
    have HP := Lib.hid hP
    have HK := Lib.hid hk
    have TK := Lib.hid (take_d hrd hlb 1 (by omega))
    have HE := Lib.hid hone
    clear hrd hk hone h11 e11 hcode hP
    by_cases hn11 : n = 11
    · subst hn11
      clear TK
      go_wp2_with fail
      go_ret
      exact .inr ⟨HE.out, rfl, HK.out⟩
    · have hn10 : n ≤ 10 := by omega
      obtain ⟨m, hm⟩ : ∃ m, 11 - n = m + 1 := ⟨10 - n, by omega⟩
      have HM := Lib.hid hm
      clear hm hn11
      go_wp2_with fail
      refine TK.out.mono ?_
      rintro e w1 (⟨hr1, rfl, hrd1, hk1⟩ | ⟨hr1, rfl, rfl⟩)
      · obtain ⟨q, rfl⟩ : ∃ q, r' = q + 1 := ⟨r' - 1, by omega⟩
        rw [Nat.add_one_sub_one] at hrd1
        rw [Nat.add_one_sub_one, nv_one]
        have hb2 := HBN.out q
        have or1 := or_low code (bn (bb l) q) hb2 (by have : (2 : Nat) ^ 40 = 1099511627776 := rfl; omega)
        have HSY := Lib.hid (fun V (hk : Kp (· = p) w V) => symbol_d V xs g o c gc hl hcap (HTAB.out V hk) ((2 * code + bn (bb l) q : Nat) : Int) ((n : Int) + 1))
        have HHIT : Hid (∀ s, fd xs ((2 * code + bn (bb l) q : Nat) : Int) ((n : Int) + 1) xs.length = some s → ONE = some (s, q)) := Lib.hid (fun s hs => by
          rw [HE.out, HM.out]; exact one_hit (n := n + 1) (by rw [Int.natCast_add n 1]; exact hs))
        have HMISS : Hid (fd xs ((2 * code + bn (bb l) q : Nat) : Int) ((n : Int) + 1) xs.length = none → ONE = oneS xs (bb l) (11 - (n + 1)) (n + 1 + 1) (2 * code + bn (bb l) q) q) := Lib.hid (fun hs => by
          rw [HE.out, HM.out, show 11 - (n + 1) = m by have := HM.out; omega]; exact one_miss (n := n + 1) (by rw [Int.natCast_add n 1]; exact hs))
        have HRD1 := Lib.hid hrd1
        have HK1 := Lib.hid (HK.out.trans hk1)
        obtain ⟨b, hb⟩ : ∃ b, b = bn (bb l) q := ⟨_, rfl⟩
        rw [← hb] at hb2 or1 HSY HHIT HMISS ⊢
        obtain ⟨C, hC⟩ : ∃ C, C = 2 * code + b := ⟨_, rfl⟩
        have h2c : ((2 * code : Nat) : Int) = (code : Int) * 2 := by omega
        rw [← hC] at or1 HSY HHIT HMISS
        rw [h2c] at or1
        have HCC := Lib.hid hC
        clear TK hrd1 hk1 HE HM hb HK hr1 h2c hC
        go_wp2_with fail
        refine (HSY.out _ HK1.out).mono ?_
        rintro e w2 ⟨rfl, hw2⟩
        obtain rfl := hw2
        cases hfd : fd xs (C : Int) ((n : Int) + 1) xs.length with
        | some s =>
          have HH := Lib.hid (HHIT.out s hfd)
          clear hfd HSY HHIT HMISS
          simp only [fdv]
          go_wp2_with fail
          go_ret
          exact .inl ⟨s, q, HH.out, rfl, HRD1.out, HK1.out⟩
        | none =>
          have HH := Lib.hid (HMISS.out hfd)
          clear hfd HSY HHIT HMISS
          simp only [fdv]
          go_wp2_with fail
          refine ⟨⟨n + 1, C, q, by omega, by go_num, rfl, ?_, HRD1.out, HK1.out, HH.out⟩, by simp [intOf]; omega⟩
          have := HC1.out
          have := HP.out
          have := HCC.out
          have : 0 < 2 ^ n := Nat.two_pow_pos n
          omega
      · obtain rfl : r' = 0 := by omega
        have HH := Lib.hid (show ONE = none by rw [HE.out, HM.out]; exact one_dry)
        clear TK HE HM
        go_wp2_with fail
        go_ret
        exact .inr ⟨HH.out, rfl, HK.out⟩
end Go.Proofs.YtphakpikalmghaaGreat.Rd
