/- The document's huff: Is, Codes. -/
import Derived.Test.YtcecnkmhhbncdaaHfU
namespace Go.Proofs.Ytcecnkmhhbncdaa.Hu
open Go Go.RowKit Go.ChangeMaps Go.MapKept Go.Mg Go.Hf Go.Sort Go.Proofs.Ytcecnkmhhbncdaa.It

theorem pow_val {x : Int} (h0 : 0 < x) (h1 : x ≤ 11) : (2 : Int) ^ (11 - x).toNat = ((2 ^ (11 - x.toNat) : Nat) : Int) := by
  have : x = 1 ∨ x = 2 ∨ x = 3 ∨ x = 4 ∨ x = 5 ∨ x = 6 ∨ x = 7 ∨ x = 8 ∨ x = 9 ∨ x = 10 ∨ x = 11 := by omega
  rcases this with rfl | rfl | rfl | rfl | rfl | rfl | rfl | rfl | rfl | rfl | rfl <;> decide
set_option maxRecDepth 100000 in
set_option maxHeartbeats 2000000 in
theorem is_d (w : World) (xs : List Int) (a : Option Addr) (c : Nat) (h : Nm w a c xs) (hl : xs.length ≤ 1000) :
    Calls Try.prog 20 #[.slice a xs.length c] w (IsPost w xs) := by
  by_cases hlen : xs.length ≤ 256
  · by_cases h0 : xs.length = 0
    · have : xs = [] := List.eq_nil_of_length_eq_zero h0
      subst this
      clear h
      go_enter Try.func20, Try.ntmps20
      go_wp2_with fail
      go_loopw [3, 4, 5, 6] (fun m s l i wr => wr = w ∧ i = .int .i64 0 ∧ s = .int .i64 0 ∧ m = .int .i64 0 ∧ l = .int .i64 0) (fun _ _ _ _ _ => 0)
      case atStart => exact ⟨rfl, rfl, rfl, rfl, rfl⟩
      case round =>
        obtain ⟨rfl, rfl, rfl, rfl, rfl⟩ := hrel
        go_wp2_with fail
        go_ret
        exact ⟨false, ⟨(fun h => by cases h), fun h => by obtain ⟨_, _, h | h⟩ := h <;> simp [isSt] at h⟩, rfl, rfl⟩
    · obtain ⟨g, o, rfl, hg, hcap, hc⟩ := h.lf_ (by omega)
      have HC := Lib.hid hc
      clear hc h
      obtain ⟨n, hn⟩ : ∃ n, n = xs.length := ⟨_, rfl⟩
      rw [← hn] at hlen h0 hcap hl ⊢
      have HN := Lib.hid hn
      clear hn
      go_enter Try.func20, Try.ntmps20
      go_wp2_with fail
      go_loopw [3, 4, 5, 6] (fun m s l i wr => ∃ k : Nat, k ≤ n ∧ wr = w ∧ i = .int .i64 k ∧ s = .int .i64 ((isSt (xs.take k)).1 : Nat) ∧ m = .int .i64 ((isSt (xs.take k)).2.1 : Nat) ∧ l = .int .i64 (isSt (xs.take k)).2.2 ∧ InR (xs.take k)) (fun _ _ _ i _ => n - (intOf i).toNat)
      case atStart => exact ⟨0, Nat.zero_le _, rfl, rfl, rfl, rfl, rfl, fun x hx => by simp at hx⟩
      case round =>
        obtain ⟨k, hk, rfl, rfl, rfl, rfl, rfl, hr⟩ := hrel
        have HR := Lib.hid hr
        clear hr
        by_cases hlt : k < n
        · have d0 := HC.out k (by rw [← HN.out]; exact hlt)
          have HT := Lib.hid (lf_take (xs := xs) (k := k) (by rw [← HN.out]; exact hlt))
          have hle := isSt_le (xs.take k)
          have hlk : (xs.take k).length ≤ k := by rw [List.length_take]; omega
          have hsn := isSt_snoc (xs.take k) (lf xs k)
          rw [← HT.out] at hsn
          have HSN := Lib.hid hsn
          have hxm : lf xs k ∈ xs := by rw [lf_at (by rw [← HN.out]; exact hlt)]; exact List.getElem_mem _
          have HXM := Lib.hid hxm
          obtain ⟨s1, hs1⟩ : ∃ s, s = (isSt (xs.take k)).1 := ⟨_, rfl⟩
          obtain ⟨s2, hs2⟩ : ∃ s, s = (isSt (xs.take k)).2.1 := ⟨_, rfl⟩
          obtain ⟨s3, hs3⟩ : ∃ s, s = (isSt (xs.take k)).2.2 := ⟨_, rfl⟩
          have hst : isSt (xs.take k) = (s1, s2, s3) := by rw [hs1, hs2, hs3]
          rw [hst] at hle
          simp only at hle
          rw [← hs1, ← hs2, ← hs3]
          have HST := Lib.hid hst
          obtain ⟨x, hx⟩ : ∃ x, x = lf xs k := ⟨_, rfl⟩
          rw [← hx] at d0
          have HX := Lib.hid hx
          clear hs1 hs2 hs3 hst hsn hxm hx
          by_cases hxr : 0 ≤ x ∧ x ≤ 11
          · obtain ⟨hx0, hx1⟩ := hxr
            have n1 : ¬ x < 0 := by omega
            have n2 : ¬ x > 11 := by omega
            have hin : InR (xs.take (k + 1)) := by
              rw [HT.out]
              intro y hy
              rcases List.mem_append.1 hy with hy | hy
              · exact HR.out y hy
              · rw [List.mem_singleton] at hy; rw [hy, ← HX.out]; exact ⟨hx0, hx1⟩
            have HIN := Lib.hid hin
            clear hin
            by_cases hp : 0 < x
            · have hb := pow_val hp hx1
              obtain ⟨p, hpv⟩ : ∃ p : Nat, p = 2 ^ (11 - x.toNat) := ⟨_, rfl⟩
              have hple : p ≤ 2048 := by
                have : 2 ^ (11 - x.toNat) ≤ 2 ^ 11 := Nat.pow_le_pow_right (by omega) (by omega)
                have e : 2 ^ 11 = 2048 := rfl
                omega
              rw [← hpv] at hb
              have HPV := Lib.hid hpv
              clear hpv
              go_wp2_with fail
              have e := HSN.out
              rw [HST.out, isStep, ← HX.out, if_pos hp, ← HPV.out] at e
              refine ⟨⟨k + 1, by omega, by first | trivial | rfl, by go_num, ?_, ?_, ?_, HIN.out⟩, by simp [intOf]; omega⟩
              · rw [e]; go_num
              · rw [e]; go_num
              · rw [e]
            · go_wp2_with fail
              have e := HSN.out
              rw [HST.out, isStep, ← HX.out, if_neg hp] at e
              refine ⟨⟨k + 1, by omega, by first | trivial | rfl, by go_num, ?_, ?_, ?_, HIN.out⟩, by simp [intOf]; omega⟩
              · rw [e]
              · rw [e]
              · rw [e]
          · have hno : ¬ IsOk xs := fun h => hxr (by rw [HX.out]; exact h.2.1 _ HXM.out)
            have HNO := Lib.hid hno
            clear hno
            by_cases hneg : x < 0
            · go_wp2_with fail
              go_ret
              exact ⟨false, ⟨(fun h => by cases h), fun h => (HNO.out h).elim⟩, rfl, rfl⟩
            · have hgt : 11 < x := by omega
              go_wp2_with fail
              go_ret
              exact ⟨false, ⟨(fun h => by cases h), fun h => (HNO.out h).elim⟩, rfl, rfl⟩
        · obtain rfl : k = n := by omega
          have HR2 := HR.out
          rw [HN.out, List.take_length] at HR2 ⊢
          have hle := isSt_le xs
          obtain ⟨s1, hs1⟩ : ∃ s, s = (isSt xs).1 := ⟨_, rfl⟩
          obtain ⟨s2, hs2⟩ : ∃ s, s = (isSt xs).2.1 := ⟨_, rfl⟩
          obtain ⟨s3, hs3⟩ : ∃ s, s = (isSt xs).2.2 := ⟨_, rfl⟩
          have hiff : IsOk xs ↔ (if s2 = 1 then s3 = 1 else s1 = 2048) := by
            rw [hs1, hs2, hs3, ← isSt_doc HR2]
            exact ⟨fun h => h.2.2, fun h => ⟨by rw [← HN.out]; exact hlen, HR2, h⟩⟩
          have HI := Lib.hid hiff
          rw [← hs1, ← hs2, ← hs3]
          clear hs1 hs2 hs3 hiff HR2 hle
          by_cases q2 : s2 = 1
          · have HT : Hid (IsOk xs ↔ s3 = 1) := Lib.hid (by rw [HI.out, if_pos q2])
            subst q2
            go_wp2_with fail
            go_ret
            exact ⟨s3 == 1, by rw [HT.out, beq_iff_eq], rfl, rfl⟩
          · have HT : Hid (IsOk xs ↔ s1 = 2048) := Lib.hid (by rw [HI.out, if_neg q2])
            have q2' : ((s2 : Int) == 1) = false := by rw [beq_eq_false_iff_ne]; omega
            clear q2
            go_wp2_with fail
            go_ret
            exact ⟨decide (s1 = 2048), by rw [HT.out, decide_eq_true_iff], by simp [beqN], rfl⟩
  · have hgt : 256 < xs.length := by omega
    have hno : ¬ IsOk xs := fun h => hlen h.1
    have HNO := Lib.hid hno
    clear h hno
    go_enter Try.func20, Try.ntmps20
    go_wp2_with fail
    go_ret
    exact ⟨false, ⟨(fun h => by cases h), fun h => (HNO.out h).elim⟩, rfl, rfl⟩
set_option maxRecDepth 100000 in
set_option maxHeartbeats 2000000 in
theorem codes_d (w : World) (xs : List Int) (a : Option Addr) (c : Nat) (h : Nm w a c xs) (h0 : 0 < xs.length) (hl : xs.length ≤ 300) :
    Calls Try.prog 23 #[.slice a xs.length c] w (CodesPost w xs) := by
  obtain ⟨g, o, rfl, hg, hcap, hc⟩ := h.lf_ h0
  have HC := Lib.hid hc
  clear hc h
  unfold CodesPost codes
  obtain ⟨ls, hls⟩ : ∃ ls, ls = lf xs := ⟨_, rfl⟩
  rw [← hls] at HC ⊢
  obtain ⟨n, hn⟩ : ∃ n, n = xs.length := ⟨_, rfl⟩
  rw [← hn] at HC h0 hl hcap ⊢
  clear hls hn
  obtain ⟨cur, hcur, hmk⟩ := make_ints w n (by omega)
  have k0 : Kp (fun _ => False) w (w.alloc (.cells cur 3)) := (Kp.refl _ _).alloc _
  have hC0 : CAt (w.alloc (.cells cur 3)) w.heap.size n (fun i => if i < 0 then -1 else 0) := by
    unfold CAt
    rw [alloc_at]
    congr 2
    have : (List.range n).map (fun i => Value.int .i64 (if i < 0 then -1 else 0)) = cur.toList := by
      rw [hcur]
      apply List.ext_getElem
      · simp
      · intro i h1 h2; simp [nv]
    rw [this]
  have K0 := Lib.hid k0
  have HC0 := Lib.hid hC0
  clear k0 hC0 hcur
  go_enter Try.func23, Try.ntmps23
  go_wp2_with fail
  go_loopw [4] (fun i wr => ∃ j : Nat, j ≤ n ∧ i = .int .i64 j ∧ CAt wr w.heap.size n (fun i => if i < j then -1 else 0) ∧ Kp (fun _ => False) w wr) (fun i _ => n - (intOf i).toNat)
  case atStart => exact ⟨0, Nat.zero_le _, rfl, HC0.out, K0.out⟩
  case round =>
    clear hmk
    obtain ⟨j, hj, rfl, hca, hkp⟩ := hrel
    by_cases hlt : j < n
    · have f1 := hca.cell hlt
      have f2 : wr.frozen? ⟨w.heap.size, j, none⟩ = false := free_of hca j
      have hset := hca.set hlt (-1)
      have hks : Kp (fun _ => False) w (wr.setCell ⟨w.heap.size, j, none⟩ (.int .i64 (-1))) := hkp.setCell (p := ⟨w.heap.size, j, none⟩) (fun q => by simp only at q; omega) _
      have e : (fun i : Nat => if i = j then (-1 : Int) else if i < j then -1 else 0) = fun i => if i < j + 1 then -1 else 0 := by
        funext i
        by_cases q : i = j
        · subst q; simp
        · by_cases q2 : i < j
          · have : i < j + 1 := by omega
            simp [q2, this]
          · have : ¬ i < j + 1 := by omega
            simp [q, q2, this]
      rw [e] at hset
      have HSET := Lib.hid hset
      have HKS := Lib.hid hks
      clear hset hks hca hkp e
      go_wp2_with fail
      exact ⟨⟨j + 1, by omega, by go_num, HSET.out, HKS.out⟩, by simp [intOf]; omega⟩
    · obtain rfl : j = n := by omega
      have HCA : Hid (CAt wr w.heap.size j (fun _ => -1)) := Lib.hid (by
        have e : (List.range j).map (fun i => Value.int .i64 (if i < j then -1 else 0)) = (List.range j).map fun _ => Value.int .i64 (-1) := List.map_congr_left (fun i hi => by rw [if_pos (List.mem_range.1 hi)])
        unfold CAt at hca ⊢
        rw [e] at hca
        exact hca)
      have HKP := Lib.hid hkp
      clear hca hkp
      go_wp2_with fail
      go_loopw [5, 6, 7] (fun cd fb i wr => ∃ (k : Nat) (z : Bool), k ≤ 11 ∧ i = .int .i64 ((k : Int) + 1) ∧ fb = .bool z ∧ (z = true → (passes ls j k).1 = 0) ∧ cd = .int .i64 ((passes ls j k).1 : Nat) ∧ CAt wr w.heap.size j (passes ls j k).2 ∧ Kp (fun _ => False) w wr) (fun _ _ i _ => 12 - (intOf i).toNat)
      case atStart => exact ⟨0, true, by omega, rfl, rfl, fun _ => rfl, rfl, HCA.out, HKP.out⟩
      case round =>
        clear HCA HKP
        obtain ⟨k, z, hk, rfl, rfl, hz, rfl, hca, hkp⟩ := hrel
        have HCA := Lib.hid hca
        have HKP := Lib.hid hkp
        clear hca hkp
        by_cases hlt : k < 11
        · have hb := passes_bound ls (N := j) (n := k) hl (by omega)
          obtain ⟨cc, hcc⟩ : ∃ cc, cc = (passes ls j k).1 := ⟨_, rfl⟩
          obtain ⟨oo, hoo⟩ : ∃ oo, oo = (passes ls j k).2 := ⟨_, rfl⟩
          rw [← hcc] at hb hz ⊢
          have HCA2 : Hid (CAt wr w.heap.size j oo) := Lib.hid (by rw [hoo]; exact HCA.out)
          have HP : Hid (passes ls j (k + 1) = pass1 ls ((k : Int) + 1) j (2 * cc, oo)) := Lib.hid (by rw [hcc, hoo]; rfl)
          have HZ := Lib.hid hz
          clear hcc hoo HCA hz
          go_wp2_with fail
          go_loopw [5, 6, 8] (fun cd fb i wr => ∃ (q : Nat) (z : Bool), q ≤ j ∧ i = .int .i64 q ∧ fb = .bool z ∧ (z = true → (pass1 ls ((k : Int) + 1) q (2 * cc, oo)).1 = 0) ∧ cd = .int .i64 ((pass1 ls ((k : Int) + 1) q (2 * cc, oo)).1 : Nat) ∧ CAt wr w.heap.size j (pass1 ls ((k : Int) + 1) q (2 * cc, oo)).2 ∧ Kp (fun _ => False) w wr) (fun _ _ i _ => j - (intOf i).toNat)
          case atStart => exact ⟨0, z, Nat.zero_le _, rfl, rfl, (fun q => by have := HZ.out q; show 2 * cc = 0; omega), (by show Value.int .i64 _ = Value.int .i64 ((2 * cc : Nat) : Int); congr 1; omega), HCA2.out, HKP.out⟩
          case round =>
            clear HCA2 HKP HZ
            obtain ⟨q, z1, hq, rfl, rfl, hz, rfl, hca, hkp⟩ := hrel
            by_cases hqn : q < j
            · have hp1 := (pass1_le ls ((k : Int) + 1) q (2 * cc, oo)).1
              simp only at hp1
              have d0 := (hkp.cell (p := ⟨g, o + q, none⟩) hg (fun q => q)).trans (HC.out q hqn)
              have f1 := hca.cell hqn
              have f2 : wr.frozen? ⟨w.heap.size, q, none⟩ = false := free_of hca q
              have hstep : pass1 ls ((k : Int) + 1) (q + 1) (2 * cc, oo) = if ls q = (k : Int) + 1 then ((pass1 ls ((k : Int) + 1) q (2 * cc, oo)).1 + 1, fun i => if i = q then ((pass1 ls ((k : Int) + 1) q (2 * cc, oo)).1 : Int) else (pass1 ls ((k : Int) + 1) q (2 * cc, oo)).2 i) else pass1 ls ((k : Int) + 1) q (2 * cc, oo) := rfl
              have HST := Lib.hid hstep
              obtain ⟨c1, hc1⟩ : ∃ c1, c1 = (pass1 ls ((k : Int) + 1) q (2 * cc, oo)).1 := ⟨_, rfl⟩
              have hset := hca.set hqn (c1 : Int)
              have hks : Kp (fun _ => False) w (wr.setCell ⟨w.heap.size, q, none⟩ (.int .i64 (c1 : Int))) := hkp.setCell (p := ⟨w.heap.size, q, none⟩) (fun q => by simp only at q; omega) _
              rw [← hc1] at hp1 hz ⊢
              rw [← hc1] at HST
              have HSET := Lib.hid hset
              have HKS := Lib.hid hks
              have HCA := Lib.hid hca
              have HKP := Lib.hid hkp
              have HC1 := Lib.hid hc1
              have HZ := Lib.hid hz
              obtain ⟨x, hx⟩ : ∃ x, x = ls q := ⟨_, rfl⟩
              rw [← hx] at d0
              rw [← hx] at HST
              generalize (pass1 ls ((k : Int) + 1) q (2 * cc, oo)).2 q = y at f1
              clear hset hks hca hkp hc1 hx hstep hz
              by_cases hxe : x = (k : Int) + 1
              · have hxe' : (x == (k : Int) + 1) = true := by simpa using hxe
                have HXE := Lib.hid hxe
                clear hxe
                go_wp2_with fail
                have e := HST.out
                rw [if_pos HXE.out] at e
                refine ⟨⟨q + 1, false, by omega, by go_num, rfl, (fun h => by cases h), by rw [e]; go_num, by rw [e]; exact HSET.out, HKS.out⟩, by simp [intOf]; omega⟩
              · have hxe' : (x == (k : Int) + 1) = false := by simpa using hxe
                have HXE := Lib.hid hxe
                clear hxe
                go_wp2_with fail
                have e := HST.out
                rw [if_neg HXE.out] at e
                refine ⟨⟨q + 1, z1, by omega, by go_num, rfl, (fun h => by rw [e, ← HC1.out]; exact HZ.out h), by rw [e, ← HC1.out], by rw [e]; exact HCA.out, HKP.out⟩, by simp [intOf]; omega⟩
            · obtain rfl : q = j := by omega
              have HCA := Lib.hid hca
              have HKP := Lib.hid hkp
              have HZ := Lib.hid hz
              clear hca hkp hz
              rw [← HP.out] at HCA HZ ⊢
              cases z1 with
              | false =>
                go_wp2_with fail
                refine ⟨⟨k + 1, false, by omega, by go_num, rfl, (fun h => by cases h), rfl, HCA.out, HKP.out⟩, by simp [intOf]; omega⟩
              | true =>
                go_wp2_with fail
                refine ⟨⟨k + 1, true, by omega, by go_num, rfl, HZ.out, by rw [HZ.out rfl]; rfl, HCA.out, HKP.out⟩, by simp [intOf]; omega⟩
        · obtain rfl : k = 11 := by omega
          go_wp2_with fail
          go_ret
          exact ⟨w.heap.size, rfl, Nat.le_refl _, HCA.out, HKP.out⟩
end Go.Proofs.Ytcecnkmhhbncdaa.Hu
