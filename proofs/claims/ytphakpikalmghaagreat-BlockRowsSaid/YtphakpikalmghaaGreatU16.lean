/- huff: Codes. The document's huff: Is, Codes. No code begins another one; in plain words. huff: what Encode makes, in plain words; the document's Encode. -/
import Derived.Deep.RegionHeld3
import Derived.Test.YtphakpikalmghaaGreatU15
import Derived.Test.YtphakpikalmghaaGreatU03
import Derived.Test.YtphakpikalmghaaGreatU04
namespace Go.Proofs.YtphakpikalmghaaGreat.Hu
open Go Go.RowKit Go.ChangeMaps Go.MapKept Go.Mg Go.Hf Go.Sort Go.Proofs.YtphakpikalmghaaGreat.It

def CAt (w : World) (g N : Nat) (out : Nat → Int) : Prop := w.heap[g]? = some (.cells ((List.range N).map fun i => Value.int .i64 (out i)).toArray 3 (0, 0))
theorem CAt.set {w : World} {g N : Nat} {out : Nat → Int} (h : CAt w g N out) {i : Nat} (hi : i < N) (x : Int) : CAt (w.setCell ⟨g, i, none⟩ (.int .i64 x)) g N (fun j => if j = i then x else out j) := by
  have h2 := setCell_at (i := i) h (.int .i64 x)
  unfold CAt
  rw [h2]
  congr 2
  apply Array.ext_getElem?
  intro k
  rw [Array.getElem?_setIfInBounds]
  simp only [List.size_toArray, List.length_map, List.length_range, List.getElem?_toArray, List.getElem?_map]
  by_cases hk : i = k
  · subst hk
    rw [if_pos rfl, if_pos hi, List.getElem?_range hi]
    simp
  · rw [if_neg hk]
    by_cases hkn : k < N
    · rw [List.getElem?_range hkn]
      have : ¬ k = i := fun e => hk e.symm
      simp [this]
    · rw [List.getElem?_eq_none (by simpa using hkn)]
      rfl
theorem CAt.cell {w : World} {g N : Nat} {out : Nat → Int} (h : CAt w g N out) {i : Nat} (hi : i < N) : w.cell? ⟨g, i, none⟩ = some (.int .i64 (out i)) := by
  rw [cell_of h]; simp [hi]
theorem CAt.kp {w w' : World} {g N : Nat} {out : Nat → Int} (h : CAt w g N out) (hk : Kp (fun _ => False) w w') : CAt w' g N out := hk.at_ h (fun q => q)
theorem CAt.sl {w : World} {g N : Nat} {out : Nat → Int} (h : CAt w g N out) (hN : N ≤ 1000) : SlR w 1 (.slice (some ⟨g, 0, none⟩) N N) N ((List.range N).map fun i => .int .i64 (out i)) := by
  refine ⟨by simp, _, _, rfl, Nat.le_refl _, by unfold maxLen; omega, (fun h => by cases h), fun _ => ⟨g, 0, rfl, lt_of_at h, fun i u hu => ?_⟩⟩
  rw [Nat.zero_add, cell_of h]
  simpa using hu
theorem CAt.ofRep {w : World} {g N : Nat} {v : Int} (h : RepAt w g v N N) : CAt w g N (fun _ => v) := by
  unfold CAt
  rw [h]
  congr 2
  unfold repRow
  rw [Nat.sub_self, List.replicate_zero, List.append_nil]
  congr 1
  apply List.ext_getElem
  · simp
  · intro i h1 h2; simp
def CodesPost (w : World) (xs : List Int) (e : Ending) (w' : World) : Prop := ∃ g, e = .returned (.slice (some ⟨g, 0, none⟩) xs.length xs.length) ∧ w.heap.size ≤ g ∧ CAt w' g xs.length (codes xs) ∧ Kp (fun _ => False) w w'
set_option maxRecDepth 100000 in
set_option maxHeartbeats 2000000 in
theorem codes_p (w : World) (xs : List Int) (a : Option Addr) (c : Nat) (h : Nm w a c xs) (h0 : 0 < xs.length) (hl : xs.length ≤ 300) :
    Calls Tryz.prog 89 #[.slice a xs.length c] w (CodesPost w xs) := by
  obtain ⟨g, o, rfl, hg, hcap, hc⟩ := h.lf_ h0
  have HC := Lib.hid hc
  clear hc h
  unfold CodesPost codes
  obtain ⟨ls, hls⟩ : ∃ ls, ls = lf xs := ⟨_, rfl⟩
  rw [← hls] at HC ⊢
  obtain ⟨n, hn⟩ : ∃ n, n = xs.length := ⟨_, rfl⟩
  rw [← hn] at HC h0 hl hcap ⊢
  clear hls hn
  have k0 : Kp (fun _ => False) w (w.alloc (.cells #[.int .i64 (-1)] 3)) := (Kp.refl _ _).alloc _
  have RC := Lib.hid (repeat_c (w.alloc (.cells #[.int .i64 (-1)] 3)) w.heap.size (-1) n (by simp) (by rw [cell_of (alloc_at w _)]; rfl) h0 (by omega))
  have K0 := Lib.hid k0
  clear k0
  go_enter Tryz.func89, Tryz.ntmps89
  go_wp2_with fail
  refine RC.out.mono ?_
  rintro e w1 ⟨g1, rfl, q1, q2, q3⟩
  have Q2 := Lib.hid (CAt.ofRep q2)
  have Q3 := Lib.hid (K0.out.trans q3)
  have hg1 : w.heap.size < g1 := by simp at q1; omega
  clear q1 q2 q3
  go_wp2_with fail
  go_loopw [4, 5] (fun cd i wr => ∃ k : Nat, k ≤ 11 ∧ i = .int .i64 ((k : Int) + 1) ∧ cd = .int .i64 ((passes ls n k).1 : Nat) ∧ CAt wr g1 n (passes ls n k).2 ∧ Kp (fun _ => False) w wr) (fun _ i _ => 12 - (intOf i).toNat)
  case atStart => exact ⟨0, by omega, rfl, rfl, Q2.out, Q3.out⟩
  case round =>
    obtain ⟨k, hk, rfl, rfl, hca, hkp⟩ := hrel
    have HCA := Lib.hid hca
    have HKP := Lib.hid hkp
    clear hca hkp
    by_cases hlt : k < 11
    · have hb := passes_bound ls (N := n) (n := k) hl (by omega)
      obtain ⟨cc, hcc⟩ : ∃ cc, cc = (passes ls n k).1 := ⟨_, rfl⟩
      obtain ⟨oo, hoo⟩ : ∃ oo, oo = (passes ls n k).2 := ⟨_, rfl⟩
      rw [← hcc] at hb ⊢
      have HCA2 : Hid (CAt wr g1 n oo) := Lib.hid (by rw [hoo]; exact HCA.out)
      have HP : Hid (passes ls n (k + 1) = pass1 ls ((k : Int) + 1) n (2 * cc, oo)) := Lib.hid (by rw [hcc, hoo]; rfl)
      clear hcc hoo HCA
      go_wp2_with fail
      go_loopw [4, 20] (fun cd i wr => ∃ j : Nat, j ≤ n ∧ i = .int .i64 j ∧ cd = .int .i64 ((pass1 ls ((k : Int) + 1) j (2 * cc, oo)).1 : Nat) ∧ CAt wr g1 n (pass1 ls ((k : Int) + 1) j (2 * cc, oo)).2 ∧ Kp (fun _ => False) w wr) (fun _ i _ => n - (intOf i).toNat)
      case atStart => exact ⟨0, Nat.zero_le _, rfl, (by show Value.int .i64 _ = Value.int .i64 ((2 * cc : Nat) : Int); congr 1; omega), HCA2.out, HKP.out⟩
      case round =>
        clear HCA2 HKP
        obtain ⟨j, hj, rfl, rfl, hca, hkp⟩ := hrel
        by_cases hjn : j < n
        · have hp1 := (pass1_le ls ((k : Int) + 1) j (2 * cc, oo)).1
          simp only at hp1
          have d0 := (hkp.cell (p := ⟨g, o + j, none⟩) hg (fun q => q)).trans (HC.out j hjn)
          have f1 := hca.cell hjn
          have f2 : wr.frozen? ⟨g1, j, none⟩ = false := free_of hca j
          have hstep : pass1 ls ((k : Int) + 1) (j + 1) (2 * cc, oo) = if ls j = (k : Int) + 1 then ((pass1 ls ((k : Int) + 1) j (2 * cc, oo)).1 + 1, fun i => if i = j then ((pass1 ls ((k : Int) + 1) j (2 * cc, oo)).1 : Int) else (pass1 ls ((k : Int) + 1) j (2 * cc, oo)).2 i) else pass1 ls ((k : Int) + 1) j (2 * cc, oo) := rfl
          have HST := Lib.hid hstep
          obtain ⟨c1, hc1⟩ : ∃ c1, c1 = (pass1 ls ((k : Int) + 1) j (2 * cc, oo)).1 := ⟨_, rfl⟩
          have hset := hca.set hjn (c1 : Int)
          have hks : Kp (fun _ => False) w (wr.setCell ⟨g1, j, none⟩ (.int .i64 (c1 : Int))) := hkp.setCell (p := ⟨g1, j, none⟩) (fun q => by simp only at q; omega) _
          rw [← hc1] at hp1 ⊢
          rw [← hc1] at HST
          have HSET := Lib.hid hset
          have HKS := Lib.hid hks
          have HCA := Lib.hid hca
          have HKP := Lib.hid hkp
          have HC1 := Lib.hid hc1
          obtain ⟨x, hx⟩ : ∃ x, x = ls j := ⟨_, rfl⟩
          rw [← hx] at d0
          rw [← hx] at HST
          generalize (pass1 ls ((k : Int) + 1) j (2 * cc, oo)).2 j = y at f1
          clear hset hks hca hkp hc1 hx hstep
          by_cases hxe : x = (k : Int) + 1
          · have hxe' : (x == (k : Int) + 1) = true := by simpa using hxe
            have HXE := Lib.hid hxe
            clear hxe
            go_wp2_with fail
            have e := HST.out
            rw [if_pos HXE.out] at e
            refine ⟨⟨j + 1, by omega, by go_num, by rw [e]; go_num, by rw [e]; exact HSET.out, HKS.out⟩, by simp [intOf]; omega⟩
          · have hxe' : (x == (k : Int) + 1) = false := by simpa using hxe
            have HXE := Lib.hid hxe
            clear hxe
            go_wp2_with fail
            have e := HST.out
            rw [if_neg HXE.out] at e
            refine ⟨⟨j + 1, by omega, by go_num, by rw [e, ← HC1.out], by rw [e]; exact HCA.out, HKP.out⟩, by simp [intOf]; omega⟩
        · obtain rfl : j = n := by omega
          have hp2 := (pass1_le ls ((k : Int) + 1) j (2 * cc, oo)).1
          have HCA := Lib.hid hca
          have HKP := Lib.hid hkp
          clear hca hkp
          rw [← HP.out] at HCA ⊢
          go_wp2_with fail
          refine ⟨⟨k + 1, by omega, by go_num, rfl, HCA.out, HKP.out⟩, by simp [intOf]; omega⟩
    · obtain rfl : k = 11 := by omega
      go_wp2_with fail
      go_ret
      exact ⟨g1, rfl, by omega, HCA.out, HKP.out⟩
end Go.Proofs.YtphakpikalmghaaGreat.Hu
namespace Go.Proofs.YtphakpikalmghaaGreat.Hu
open Go Go.RowKit Go.ChangeMaps Go.MapKept Go.Mg Go.Hf Go.Sort Go.Proofs.YtphakpikalmghaaGreat.It

theorem pow_val {x : Int} (h0 : 0 < x) (h1 : x ≤ 11) : (2 : Int) ^ (11 - x).toNat = ((2 ^ (11 - x.toNat) : Nat) : Int) := by
  have : x = 1 ∨ x = 2 ∨ x = 3 ∨ x = 4 ∨ x = 5 ∨ x = 6 ∨ x = 7 ∨ x = 8 ∨ x = 9 ∨ x = 10 ∨ x = 11 := by omega
  rcases this with rfl | rfl | rfl | rfl | rfl | rfl | rfl | rfl | rfl | rfl | rfl <;> decide
set_option maxRecDepth 100000 in
set_option maxHeartbeats 2000000 in
theorem is_d (w : World) (xs : List Int) (a : Option Addr) (c : Nat) (h : Nm w a c xs) (hl : xs.length ≤ 1000) :
    Calls Tryz.prog 64 #[.slice a xs.length c] w (IsPost w xs) := by
  by_cases hlen : xs.length ≤ 256
  · by_cases h0 : xs.length = 0
    · have : xs = [] := List.eq_nil_of_length_eq_zero h0
      subst this
      clear h
      go_enter Tryz.func64, Tryz.ntmps64
      go_wp2_with fail
      go_loopw [3, 4, 5, 6] (fun m s l i wr => wr = w ∧ i = .int .i64 0 ∧ s = .int .i64 0 ∧ m = .int .i64 0 ∧ l = .int .i64 0) (fun _ _ _ _ _ => 0)
      case atStart => exact ⟨rfl, rfl, rfl, rfl, rfl⟩
      case round =>
        obtain ⟨rfl, rfl, rfl, rfl, rfl⟩ := hrel
        go_wp2_with fail
        go_ret
        exact ⟨false, ⟨(fun h => by cases h), fun h => by obtain ⟨_, _, h | h⟩ := h <;> simp [isSt] at h⟩, rfl, rfl⟩
    · obtain ⟨g, o, rfl, hg, hcap, hc⟩ := h.lf_ (by omega)
      have HC := Lib.hid hc
      clear hc h
      obtain ⟨n, hn⟩ : ∃ n, n = xs.length := ⟨_, rfl⟩
      rw [← hn] at hlen h0 hcap hl ⊢
      have HN := Lib.hid hn
      clear hn
      go_enter Tryz.func64, Tryz.ntmps64
      go_wp2_with fail
      go_loopw [3, 4, 5, 6] (fun m s l i wr => ∃ k : Nat, k ≤ n ∧ wr = w ∧ i = .int .i64 k ∧ s = .int .i64 ((isSt (xs.take k)).1 : Nat) ∧ m = .int .i64 ((isSt (xs.take k)).2.1 : Nat) ∧ l = .int .i64 (isSt (xs.take k)).2.2 ∧ InR (xs.take k)) (fun _ _ _ i _ => n - (intOf i).toNat)
      case atStart => exact ⟨0, Nat.zero_le _, rfl, rfl, rfl, rfl, rfl, fun x hx => by simp at hx⟩
      case round =>
        obtain ⟨k, hk, rfl, rfl, rfl, rfl, rfl, hr⟩ := hrel
        have HR := Lib.hid hr
        clear hr
        by_cases hlt : k < n
        · have d0 := HC.out k (by rw [← HN.out]; exact hlt)
          have HT := Lib.hid (lf_take (xs := xs) (k := k) (by rw [← HN.out]; exact hlt))
          have hle := isSt_le (xs.take k)
          have hlk : (xs.take k).length ≤ k := by rw [List.length_take]; omega
          have hsn := isSt_snoc (xs.take k) (lf xs k)
          rw [← HT.out] at hsn
          have HSN := Lib.hid hsn
          have hxm : lf xs k ∈ xs := by rw [lf_at (by rw [← HN.out]; exact hlt)]; exact List.getElem_mem _
          have HXM := Lib.hid hxm
          obtain ⟨s1, hs1⟩ : ∃ s, s = (isSt (xs.take k)).1 := ⟨_, rfl⟩
          obtain ⟨s2, hs2⟩ : ∃ s, s = (isSt (xs.take k)).2.1 := ⟨_, rfl⟩
          obtain ⟨s3, hs3⟩ : ∃ s, s = (isSt (xs.take k)).2.2 := ⟨_, rfl⟩
          have hst : isSt (xs.take k) = (s1, s2, s3) := by rw [hs1, hs2, hs3]
          rw [hst] at hle
          simp only at hle
          rw [← hs1, ← hs2, ← hs3]
          have HST := Lib.hid hst
          obtain ⟨x, hx⟩ : ∃ x, x = lf xs k := ⟨_, rfl⟩
          rw [← hx] at d0
          have HX := Lib.hid hx
          clear hs1 hs2 hs3 hst hsn hxm hx
          by_cases hxr : 0 ≤ x ∧ x ≤ 11
          · obtain ⟨hx0, hx1⟩ := hxr
            have n1 : ¬ x < 0 := by omega
            have n2 : ¬ x > 11 := by omega
            have hin : InR (xs.take (k + 1)) := by
              rw [HT.out]
              intro y hy
              rcases List.mem_append.1 hy with hy | hy
              · exact HR.out y hy
              · rw [List.mem_singleton] at hy; rw [hy, ← HX.out]; exact ⟨hx0, hx1⟩
            have HIN := Lib.hid hin
            clear hin
            by_cases hp : 0 < x
            · have hb := pow_val hp hx1
              obtain ⟨p, hpv⟩ : ∃ p : Nat, p = 2 ^ (11 - x.toNat) := ⟨_, rfl⟩
              have hple : p ≤ 2048 := by
                have : 2 ^ (11 - x.toNat) ≤ 2 ^ 11 := Nat.pow_le_pow_right (by omega) (by omega)
                have e : 2 ^ 11 = 2048 := rfl
                omega
              rw [← hpv] at hb
              have HPV := Lib.hid hpv
              clear hpv
              go_wp2_with fail
              have e := HSN.out
              rw [HST.out, isStep, ← HX.out, if_pos hp, ← HPV.out] at e
              refine ⟨⟨k + 1, by omega, by first | trivial | rfl, by go_num, ?_, ?_, ?_, HIN.out⟩, by simp [intOf]; omega⟩
              · rw [e]; go_num
              · rw [e]; go_num
              · rw [e]
            · go_wp2_with fail
              have e := HSN.out
              rw [HST.out, isStep, ← HX.out, if_neg hp] at e
              refine ⟨⟨k + 1, by omega, by first | trivial | rfl, by go_num, ?_, ?_, ?_, HIN.out⟩, by simp [intOf]; omega⟩
              · rw [e]
              · rw [e]
              · rw [e]
          · have hno : ¬ IsOk xs := fun h => hxr (by rw [HX.out]; exact h.2.1 _ HXM.out)
            have HNO := Lib.hid hno
            clear hno
            by_cases hneg : x < 0
            · go_wp2_with fail
              go_ret
              exact ⟨false, ⟨(fun h => by cases h), fun h => (HNO.out h).elim⟩, rfl, rfl⟩
            · have hgt : 11 < x := by omega
              go_wp2_with fail
              go_ret
              exact ⟨false, ⟨(fun h => by cases h), fun h => (HNO.out h).elim⟩, rfl, rfl⟩
        · obtain rfl : k = n := by omega
          have HR2 := HR.out
          rw [HN.out, List.take_length] at HR2 ⊢
          have hle := isSt_le xs
          obtain ⟨s1, hs1⟩ : ∃ s, s = (isSt xs).1 := ⟨_, rfl⟩
          obtain ⟨s2, hs2⟩ : ∃ s, s = (isSt xs).2.1 := ⟨_, rfl⟩
          obtain ⟨s3, hs3⟩ : ∃ s, s = (isSt xs).2.2 := ⟨_, rfl⟩
          have hiff : IsOk xs ↔ (if s2 = 1 then s3 = 1 else s1 = 2048) := by
            rw [hs1, hs2, hs3, ← isSt_doc HR2]
            exact ⟨fun h => h.2.2, fun h => ⟨by rw [← HN.out]; exact hlen, HR2, h⟩⟩
          have HI := Lib.hid hiff
          rw [← hs1, ← hs2, ← hs3]
          clear hs1 hs2 hs3 hiff HR2 hle
          by_cases q2 : s2 = 1
          · have HT : Hid (IsOk xs ↔ s3 = 1) := Lib.hid (by rw [HI.out, if_pos q2])
            subst q2
            go_wp2_with fail
            go_ret
            exact ⟨s3 == 1, by rw [HT.out, beq_iff_eq], rfl, rfl⟩
          · have HT : Hid (IsOk xs ↔ s1 = 2048) := Lib.hid (by rw [HI.out, if_neg q2])
            have q2' : ((s2 : Int) == 1) = false := by rw [beq_eq_false_iff_ne]; omega
            clear q2
            go_wp2_with fail
            go_ret
            exact ⟨decide (s1 = 2048), by rw [HT.out, decide_eq_true_iff], by simp [beqN], rfl⟩
  · have hgt : 256 < xs.length := by omega
    have hno : ¬ IsOk xs := fun h => hlen h.1
    have HNO := Lib.hid hno
    clear h hno
    go_enter Tryz.func64, Tryz.ntmps64
    go_wp2_with fail
    go_ret
    exact ⟨false, ⟨(fun h => by cases h), fun h => (HNO.out h).elim⟩, rfl, rfl⟩
set_option maxRecDepth 100000 in
set_option maxHeartbeats 2000000 in
theorem codes_d (w : World) (xs : List Int) (a : Option Addr) (c : Nat) (h : Nm w a c xs) (h0 : 0 < xs.length) (hl : xs.length ≤ 300) :
    Calls Tryz.prog 65 #[.slice a xs.length c] w (CodesPost w xs) := by
  obtain ⟨g, o, rfl, hg, hcap, hc⟩ := h.lf_ h0
  have HC := Lib.hid hc
  clear hc h
  unfold CodesPost codes
  obtain ⟨ls, hls⟩ : ∃ ls, ls = lf xs := ⟨_, rfl⟩
  rw [← hls] at HC ⊢
  obtain ⟨n, hn⟩ : ∃ n, n = xs.length := ⟨_, rfl⟩
  rw [← hn] at HC h0 hl hcap ⊢
  clear hls hn
  obtain ⟨cur, hcur, hmk⟩ := make_ints w n (by omega)
  have k0 : Kp (fun _ => False) w (w.alloc (.cells cur 3)) := (Kp.refl _ _).alloc _
  have hC0 : CAt (w.alloc (.cells cur 3)) w.heap.size n (fun i => if i < 0 then -1 else 0) := by
    unfold CAt
    rw [alloc_at]
    congr 2
    have : (List.range n).map (fun i => Value.int .i64 (if i < 0 then -1 else 0)) = cur.toList := by
      rw [hcur]
      apply List.ext_getElem
      · simp
      · intro i h1 h2; simp [nv]
    rw [this]
  have K0 := Lib.hid k0
  have HC0 := Lib.hid hC0
  clear k0 hC0 hcur
  go_enter Tryz.func65, Tryz.ntmps65
  go_wp2_with fail
  go_loopw [4] (fun i wr => ∃ j : Nat, j ≤ n ∧ i = .int .i64 j ∧ CAt wr w.heap.size n (fun i => if i < j then -1 else 0) ∧ Kp (fun _ => False) w wr) (fun i _ => n - (intOf i).toNat)
  case atStart => exact ⟨0, Nat.zero_le _, rfl, HC0.out, K0.out⟩
  case round =>
    clear hmk
    obtain ⟨j, hj, rfl, hca, hkp⟩ := hrel
    by_cases hlt : j < n
    · have f1 := hca.cell hlt
      have f2 : wr.frozen? ⟨w.heap.size, j, none⟩ = false := free_of hca j
      have hset := hca.set hlt (-1)
      have hks : Kp (fun _ => False) w (wr.setCell ⟨w.heap.size, j, none⟩ (.int .i64 (-1))) := hkp.setCell (p := ⟨w.heap.size, j, none⟩) (fun q => by simp only at q; omega) _
      have e : (fun i : Nat => if i = j then (-1 : Int) else if i < j then -1 else 0) = fun i => if i < j + 1 then -1 else 0 := by
        funext i
        by_cases q : i = j
        · subst q; simp
        · by_cases q2 : i < j
          · have : i < j + 1 := by omega
            simp [q2, this]
          · have : ¬ i < j + 1 := by omega
            simp [q, q2, this]
      rw [e] at hset
      have HSET := Lib.hid hset
      have HKS := Lib.hid hks
      clear hset hks hca hkp e
      go_wp2_with fail
      exact ⟨⟨j + 1, by omega, by go_num, HSET.out, HKS.out⟩, by simp [intOf]; omega⟩
    · obtain rfl : j = n := by omega
      have HCA : Hid (CAt wr w.heap.size j (fun _ => -1)) := Lib.hid (by
        have e : (List.range j).map (fun i => Value.int .i64 (if i < j then -1 else 0)) = (List.range j).map fun _ => Value.int .i64 (-1) := List.map_congr_left (fun i hi => by rw [if_pos (List.mem_range.1 hi)])
        unfold CAt at hca ⊢
        rw [e] at hca
        exact hca)
      have HKP := Lib.hid hkp
      clear hca hkp
      go_wp2_with fail
      go_loopw [5, 6, 7] (fun cd fb i wr => ∃ (k : Nat) (z : Bool), k ≤ 11 ∧ i = .int .i64 ((k : Int) + 1) ∧ fb = .bool z ∧ (z = true → (passes ls j k).1 = 0) ∧ cd = .int .i64 ((passes ls j k).1 : Nat) ∧ CAt wr w.heap.size j (passes ls j k).2 ∧ Kp (fun _ => False) w wr) (fun _ _ i _ => 12 - (intOf i).toNat)
      case atStart => exact ⟨0, true, by omega, rfl, rfl, fun _ => rfl, rfl, HCA.out, HKP.out⟩
      case round =>
        clear HCA HKP
        obtain ⟨k, z, hk, rfl, rfl, hz, rfl, hca, hkp⟩ := hrel
        have HCA := Lib.hid hca
        have HKP := Lib.hid hkp
        clear hca hkp
        by_cases hlt : k < 11
        · have hb := passes_bound ls (N := j) (n := k) hl (by omega)
          obtain ⟨cc, hcc⟩ : ∃ cc, cc = (passes ls j k).1 := ⟨_, rfl⟩
          obtain ⟨oo, hoo⟩ : ∃ oo, oo = (passes ls j k).2 := ⟨_, rfl⟩
          rw [← hcc] at hb hz ⊢
          have HCA2 : Hid (CAt wr w.heap.size j oo) := Lib.hid (by rw [hoo]; exact HCA.out)
          have HP : Hid (passes ls j (k + 1) = pass1 ls ((k : Int) + 1) j (2 * cc, oo)) := Lib.hid (by rw [hcc, hoo]; rfl)
          have HZ := Lib.hid hz
          clear hcc hoo HCA hz
          go_wp2_with fail
          go_loopw [5, 6, 8] (fun cd fb i wr => ∃ (q : Nat) (z : Bool), q ≤ j ∧ i = .int .i64 q ∧ fb = .bool z ∧ (z = true → (pass1 ls ((k : Int) + 1) q (2 * cc, oo)).1 = 0) ∧ cd = .int .i64 ((pass1 ls ((k : Int) + 1) q (2 * cc, oo)).1 : Nat) ∧ CAt wr w.heap.size j (pass1 ls ((k : Int) + 1) q (2 * cc, oo)).2 ∧ Kp (fun _ => False) w wr) (fun _ _ i _ => j - (intOf i).toNat)
          case atStart => exact ⟨0, z, Nat.zero_le _, rfl, rfl, (fun q => by have := HZ.out q; show 2 * cc = 0; omega), (by show Value.int .i64 _ = Value.int .i64 ((2 * cc : Nat) : Int); congr 1; omega), HCA2.out, HKP.out⟩
          case round =>
            clear HCA2 HKP HZ
            obtain ⟨q, z1, hq, rfl, rfl, hz, rfl, hca, hkp⟩ := hrel
            by_cases hqn : q < j
            · have hp1 := (pass1_le ls ((k : Int) + 1) q (2 * cc, oo)).1
              simp only at hp1
              have d0 := (hkp.cell (p := ⟨g, o + q, none⟩) hg (fun q => q)).trans (HC.out q hqn)
              have f1 := hca.cell hqn
              have f2 : wr.frozen? ⟨w.heap.size, q, none⟩ = false := free_of hca q
              have hstep : pass1 ls ((k : Int) + 1) (q + 1) (2 * cc, oo) = if ls q = (k : Int) + 1 then ((pass1 ls ((k : Int) + 1) q (2 * cc, oo)).1 + 1, fun i => if i = q then ((pass1 ls ((k : Int) + 1) q (2 * cc, oo)).1 : Int) else (pass1 ls ((k : Int) + 1) q (2 * cc, oo)).2 i) else pass1 ls ((k : Int) + 1) q (2 * cc, oo) := rfl
              have HST := Lib.hid hstep
              obtain ⟨c1, hc1⟩ : ∃ c1, c1 = (pass1 ls ((k : Int) + 1) q (2 * cc, oo)).1 := ⟨_, rfl⟩
              have hset := hca.set hqn (c1 : Int)
              have hks : Kp (fun _ => False) w (wr.setCell ⟨w.heap.size, q, none⟩ (.int .i64 (c1 : Int))) := hkp.setCell (p := ⟨w.heap.size, q, none⟩) (fun q => by simp only at q; omega) _
              rw [← hc1] at hp1 hz ⊢
              rw [← hc1] at HST
              have HSET := Lib.hid hset
              have HKS := Lib.hid hks
              have HCA := Lib.hid hca
              have HKP := Lib.hid hkp
              have HC1 := Lib.hid hc1
              have HZ := Lib.hid hz
              obtain ⟨x, hx⟩ : ∃ x, x = ls q := ⟨_, rfl⟩
              rw [← hx] at d0
              rw [← hx] at HST
              generalize (pass1 ls ((k : Int) + 1) q (2 * cc, oo)).2 q = y at f1
              clear hset hks hca hkp hc1 hx hstep hz
              by_cases hxe : x = (k : Int) + 1
              · have hxe' : (x == (k : Int) + 1) = true := by simpa using hxe
                have HXE := Lib.hid hxe
                clear hxe
                go_wp2_with fail
                have e := HST.out
                rw [if_pos HXE.out] at e
                refine ⟨⟨q + 1, false, by omega, by go_num, rfl, (fun h => by cases h), by rw [e]; go_num, by rw [e]; exact HSET.out, HKS.out⟩, by simp [intOf]; omega⟩
              · have hxe' : (x == (k : Int) + 1) = false := by simpa using hxe
                have HXE := Lib.hid hxe
                clear hxe
                go_wp2_with fail
                have e := HST.out
                rw [if_neg HXE.out] at e
                refine ⟨⟨q + 1, z1, by omega, by go_num, rfl, (fun h => by rw [e, ← HC1.out]; exact HZ.out h), by rw [e, ← HC1.out], by rw [e]; exact HCA.out, HKP.out⟩, by simp [intOf]; omega⟩
            · obtain rfl : q = j := by omega
              have HCA := Lib.hid hca
              have HKP := Lib.hid hkp
              have HZ := Lib.hid hz
              clear hca hkp hz
              rw [← HP.out] at HCA HZ ⊢
              cases z1 with
              | false =>
                go_wp2_with fail
                refine ⟨⟨k + 1, false, by omega, by go_num, rfl, (fun h => by cases h), rfl, HCA.out, HKP.out⟩, by simp [intOf]; omega⟩
              | true =>
                go_wp2_with fail
                refine ⟨⟨k + 1, true, by omega, by go_num, rfl, HZ.out, by rw [HZ.out rfl]; rfl, HCA.out, HKP.out⟩, by simp [intOf]; omega⟩
        · obtain rfl : k = 11 := by omega
          go_wp2_with fail
          go_ret
          exact ⟨w.heap.size, rfl, Nat.le_refl _, HCA.out, HKP.out⟩
end Go.Proofs.YtphakpikalmghaaGreat.Hu
namespace Go.Hf
/-- The code that pass n + 1 has come to ahead of symbol j. -/
def stc (ls : Nat → Int) (N n j : Nat) : Nat := (pass1 ls ((n : Int) + 1) j (2 * (passes ls N n).1, (passes ls N n).2)).1
def Qs (ls : Nat → Int) (N n j : Nat) : Nat := stc ls N n j * 2 ^ (10 - n)
theorem stc_succ (ls : Nat → Int) (N n j : Nat) : stc ls N n (j + 1) = stc ls N n j + if ls j = (n : Int) + 1 then 1 else 0 := by
  unfold stc
  simp only [pass1]
  split <;> simp
theorem stc_zero (ls : Nat → Int) (N n : Nat) : stc ls N n 0 = 2 * (passes ls N n).1 := rfl
theorem stc_end (ls : Nat → Int) (N n : Nat) : stc ls N n N = (passes ls N (n + 1)).1 := rfl
theorem Qs_succ (ls : Nat → Int) (N n j : Nat) : Qs ls N n (j + 1) = Qs ls N n j + if ls j = (n : Int) + 1 then 2 ^ (10 - n) else 0 := by
  unfold Qs
  rw [stc_succ, Nat.add_mul]
  split <;> simp
theorem Qs_mono_j (ls : Nat → Int) (N n : Nat) {j k : Nat} (h : j ≤ k) : Qs ls N n j ≤ Qs ls N n k := by
  induction h with
  | refl => exact Nat.le_refl _
  | step _ ih => rw [Qs_succ]; omega
theorem Qs_next (ls : Nat → Int) (N n : Nat) (hn : n < 10) : Qs ls N (n + 1) 0 = Qs ls N n N := by
  unfold Qs
  rw [stc_zero, stc_end, show 10 - n = (10 - (n + 1)) + 1 by omega, Nat.pow_succ]
  rw [Nat.mul_comm 2, Nat.mul_assoc, Nat.mul_comm 2]
theorem Qs_mono (ls : Nat → Int) (N : Nat) {n m j k : Nat} (hnm : n < m) (hm : m ≤ 10) (hj : j ≤ N) : Qs ls N n j ≤ Qs ls N m k := by
  induction hnm generalizing k with
  | refl =>
    exact Nat.le_trans (Qs_mono_j ls N n hj) (Nat.le_trans (Nat.le_of_eq (Qs_next ls N n (by omega)).symm) (Qs_mono_j ls N _ (Nat.zero_le k)))
  | step h ih =>
    rename_i m
    refine Nat.le_trans (ih (k := N) (by omega)) (Nat.le_trans (Nat.le_of_eq (Qs_next ls N m (by omega)).symm) (Qs_mono_j ls N _ (Nat.zero_le k)))
/-- What code a symbol has. -/
theorem pass1_out (ls : Nat → Int) (n : Int) (st : Nat × (Nat → Int)) (i : Nat) : ∀ j, (pass1 ls n j st).2 i = if i < j ∧ ls i = n then ((pass1 ls n i st).1 : Int) else st.2 i := by
  intro j
  induction j with
  | zero => simp [pass1]
  | succ j ih =>
    simp only [pass1]
    by_cases h : ls j = n
    · rw [if_pos h]
      simp only
      by_cases e : i = j
      · subst e
        rw [if_pos rfl, if_pos ⟨by omega, h⟩]
      · rw [if_neg e, ih]
        by_cases q : i < j
        · have : i < j + 1 := by omega
          simp [q, this]
        · have : ¬ i < j + 1 := by omega
          simp [q, this]
    · rw [if_neg h, ih]
      by_cases e : i = j
      · subst e
        simp [h]
      · by_cases q : i < j
        · have : i < j + 1 := by omega
          simp [q, this]
        · have : ¬ i < j + 1 := by omega
          simp [q, this]
theorem passes_out (ls : Nat → Int) (N : Nat) {i : Nat} (hi : i < N) : ∀ m : Nat, (∀ n : Nat, n < m → ls i = (n : Int) + 1 → (passes ls N m).2 i = (stc ls N n i : Nat)) ∧ ((∀ n : Nat, n < m → ls i ≠ (n : Int) + 1) → (passes ls N m).2 i = -1) := by
  intro m
  induction m with
  | zero => exact ⟨fun n h => by omega, fun _ => rfl⟩
  | succ m ih =>
    have e : (passes ls N (m + 1)).2 i = if i < N ∧ ls i = (m : Int) + 1 then (stc ls N m i : Int) else (passes ls N m).2 i := pass1_out ls _ _ i N
    refine ⟨fun n hn hl => ?_, fun h => ?_⟩
    · rw [e]
      by_cases q : n = m
      · subst q; rw [if_pos ⟨hi, hl⟩]
      · rw [if_neg (fun z => by omega)]
        exact ih.1 n (by omega) hl
    · rw [e, if_neg (fun z => h m (by omega) z.2)]
      exact ih.2 (fun n hn => h n (by omega))
/-- The sum over all symbols whose length is n at most. -/
def Tn (ls : Nat → Int) (N n : Nat) : Nat := ((List.range N).map fun i => if 0 < ls i ∧ ls i ≤ n then 2 ^ (11 - (ls i).toNat) else 0).sum
theorem sum_add (f g : Nat → Nat) (l : List Nat) : (l.map fun i => f i + g i).sum = (l.map f).sum + (l.map g).sum := by
  induction l with
  | nil => rfl
  | cons x l ih => simp only [List.map_cons, List.sum_cons, ih]; omega
theorem stc_count (ls : Nat → Int) (N n : Nat) : ∀ j, Qs ls N n j = 2 * (passes ls N n).1 * 2 ^ (10 - n) + ((List.range j).map fun i => if ls i = (n : Int) + 1 then 2 ^ (10 - n) else 0).sum := by
  intro j
  induction j with
  | zero => simp [Qs, stc_zero]
  | succ j ih => rw [Qs_succ, ih, List.range_succ, List.map_append, List.sum_append]; simp; omega
theorem sum_zeros (l : List Nat) : (l.map fun _ => 0).sum = 0 := by
  induction l with
  | nil => rfl
  | cons x l ih => simp only [List.map_cons, List.sum_cons, ih]
theorem passes_sum (ls : Nat → Int) (N : Nat) : ∀ n, n ≤ 11 → (passes ls N n).1 * 2 ^ (11 - n) = Tn ls N n := by
  intro n
  induction n with
  | zero =>
    intro _
    have : (List.range N).map (fun i => if 0 < ls i ∧ ls i ≤ ((0 : Nat) : Int) then 2 ^ (11 - (ls i).toNat) else 0) = (List.range N).map fun _ => 0 := List.map_congr_left (fun i _ => by rw [if_neg (by omega)])
    unfold Tn
    rw [this, sum_zeros]
    simp [passes]
  | succ n ih =>
    intro hn
    have e := stc_count ls N n N
    have ih := ih (by omega)
    have h1 : Qs ls N n N = (passes ls N (n + 1)).1 * 2 ^ (11 - (n + 1)) := by unfold Qs; rw [stc_end, show 11 - (n + 1) = 10 - n by omega]
    have h2 : 2 * (passes ls N n).1 * 2 ^ (10 - n) = (passes ls N n).1 * 2 ^ (11 - n) := by
      rw [show 11 - n = (10 - n) + 1 by omega, Nat.pow_succ, Nat.mul_comm 2, Nat.mul_assoc, Nat.mul_comm 2]
    rw [← h1, e, h2, ih]
    unfold Tn
    rw [← sum_add]
    congr 1
    refine List.map_congr_left (fun i _ => ?_)
    by_cases q : ls i = (n : Int) + 1
    · rw [if_neg (by omega), if_pos q, if_pos (by omega), Nat.zero_add]
      congr 1
      omega
    · by_cases q2 : 0 < ls i ∧ ls i ≤ (n : Int)
      · rw [if_pos q2, if_neg q, if_pos (by omega)]; rfl
      · rw [if_neg q2, if_neg q, if_neg (by omega)]
theorem isSt_T (xs : List Int) (h : InR xs) : (isSt xs).1 = Tn (lf xs) xs.length 11 := by
  have key : ∀ k, k ≤ xs.length → (isSt (xs.take k)).1 = ((List.range k).map fun i => if 0 < lf xs i ∧ lf xs i ≤ ((11 : Nat) : Int) then 2 ^ (11 - (lf xs i).toNat) else 0).sum := by
    intro k
    induction k with
    | zero => intro _; simp [isSt]
    | succ k ih =>
      intro hk
      have e : xs.take (k + 1) = xs.take k ++ [lf xs k] := by rw [List.take_succ_eq_append_getElem (by omega), lf_at (by omega)]
      have hx := h (lf xs k) (by rw [lf_at (by omega)]; exact List.getElem_mem _)
      rw [e, isSt_snoc, List.range_succ, List.map_append, List.sum_append, ← ih (by omega)]
      unfold isStep
      by_cases q : 0 < lf xs k
      · rw [if_pos q]
        simp only [List.map_cons, List.map_nil, List.sum_cons, List.sum_nil, Nat.add_zero]
        rw [if_pos (by omega)]
      · rw [if_neg q]
        simp only [List.map_cons, List.map_nil, List.sum_cons, List.sum_nil, Nat.add_zero]
        rw [if_neg (by omega), Nat.add_zero]
  have := key xs.length (Nat.le_refl _)
  rwa [List.take_length] at this
theorem IsOk.sum_le {xs : List Int} (h : IsOk xs) : (passes (lf xs) xs.length 11).1 ≤ 2048 := by
  obtain ⟨_, hr, h⟩ := h
  have e := passes_sum (lf xs) xs.length 11 (Nat.le_refl _)
  rw [← isSt_T xs hr] at e
  simp only [Nat.sub_self, Nat.pow_zero, Nat.mul_one] at e
  rw [e]
  rcases h with ⟨h1, h2⟩ | h
  · obtain ⟨h3, _⟩ := (isSt_one hr).2 h1
    rw [h3, h2]
    decide
  · omega
/-- Each symbol's code as an interval of 2048. -/
theorem codes_is {xs : List Int} {i : Nat} (hr : InR xs) (hi : i < xs.length) : (xs[i] = 0 ∧ codes xs i = -1) ∨ ∃ n : Nat, n < 11 ∧ xs[i] = (n : Int) + 1 ∧ codes xs i = (stc (lf xs) xs.length n i : Nat) := by
  have hx := hr _ (List.getElem_mem hi)
  have e := passes_out (lf xs) xs.length hi 11
  by_cases h : xs[i] = 0
  · left
    refine ⟨h, e.2 (fun n _ => ?_)⟩
    rw [lf_at hi]; omega
  · right
    refine ⟨xs[i].toNat - 1, by omega, by omega, ?_⟩
    exact e.1 (xs[i].toNat - 1) (by omega) (by rw [lf_at hi]; omega)
theorem IsOk.lt {xs : List Int} (h : IsOk xs) {i n : Nat} (hi : i < xs.length) (hn : n < 11) (hx : xs[i] = (n : Int) + 1) : stc (lf xs) xs.length n i < 2 ^ (n + 1) := by
  have h1 : Qs (lf xs) xs.length n i + 2 ^ (10 - n) ≤ 2048 := by
    have e := Qs_succ (lf xs) xs.length n i
    rw [lf_at hi, if_pos hx] at e
    rw [← e]
    have h10 : Qs (lf xs) xs.length 10 xs.length = (passes (lf xs) xs.length 11).1 := by unfold Qs; rw [stc_end]; simp
    have h2 : Qs (lf xs) xs.length n (i + 1) ≤ Qs (lf xs) xs.length 10 xs.length := by
      by_cases q : n = 10
      · subst q; exact Qs_mono_j _ _ _ hi
      · exact Qs_mono _ _ (by omega) (Nat.le_refl _) hi
    have := h.sum_le
    omega
  unfold Qs at h1
  have h3 : 2048 = 2 ^ (n + 1) * 2 ^ (10 - n) := by rw [← Nat.pow_add, show n + 1 + (10 - n) = 11 by omega]
  rw [h3] at h1
  have h4 : (stc (lf xs) xs.length n i + 1) * 2 ^ (10 - n) ≤ 2 ^ (n + 1) * 2 ^ (10 - n) := by rw [Nat.add_mul, Nat.one_mul]; exact h1
  have := Nat.le_of_mul_le_mul_right h4 (Nat.pow_pos (by omega))
  omega
/-- No code begins another one. -/
theorem free {xs : List Int} {i k n m : Nat} (hi : i < xs.length) (hk : k < xs.length) (hne : i ≠ k) (hn : n < 11) (hm : m < 11) (hxi : xs[i] = (n : Int) + 1) (hxk : xs[k] = (m : Int) + 1) (hle : n ≤ m) :
    stc (lf xs) xs.length m k / 2 ^ (m - n) ≠ stc (lf xs) xs.length n i := by
  intro e
  have hp : 0 < 2 ^ (m - n) := Nat.pow_pos (by omega)
  have h1 : stc (lf xs) xs.length n i * 2 ^ (m - n) ≤ stc (lf xs) xs.length m k := by rw [← e]; exact Nat.div_mul_le_self _ _
  have h2 : stc (lf xs) xs.length m k < (stc (lf xs) xs.length n i + 1) * 2 ^ (m - n) := by rw [← e, Nat.mul_comm]; exact Nat.lt_mul_div_succ _ hp
  have hpow : 2 ^ (10 - n) = 2 ^ (m - n) * 2 ^ (10 - m) := by rw [← Nat.pow_add, show m - n + (10 - m) = 10 - n by omega]
  have hq : 0 < 2 ^ (10 - m) := Nat.pow_pos (by omega)
  -- in the intervals
  have q1 : Qs (lf xs) xs.length n i ≤ Qs (lf xs) xs.length m k := by
    unfold Qs
    rw [hpow, ← Nat.mul_assoc]
    exact Nat.mul_le_mul_right _ h1
  have q2 : Qs (lf xs) xs.length m k < Qs (lf xs) xs.length n i + 2 ^ (10 - n) := by
    unfold Qs
    rw [hpow, ← Nat.mul_assoc, ← Nat.add_mul, ← Nat.succ_mul] <;> try exact (Nat.mul_lt_mul_right hq).2 h2
  have ei := Qs_succ (lf xs) xs.length n i
  rw [lf_at hi, if_pos hxi] at ei
  have ek := Qs_succ (lf xs) xs.length m k
  rw [lf_at hk, if_pos hxk] at ek
  by_cases q : n = m
  · subst q
    rcases Nat.lt_or_gt_of_ne hne with h | h
    · have := Qs_mono_j (lf xs) xs.length n (show i + 1 ≤ k from h)
      omega
    · have := Qs_mono_j (lf xs) xs.length n (show k + 1 ≤ i from h)
      omega
  · have := Qs_mono (lf xs) xs.length (k := k) (show n < m by omega) (by omega) (show i + 1 ≤ xs.length from hi)
    omega
end Go.Hf
namespace Go.Proofs.YtphakpikalmghaaGreat.He
open Go Go.RowKit Go.ChangeMaps Go.MapKept Go.Mg Go.Hf Go.Sort Go.Proofs.YtphakpikalmghaaGreat.Hu Go.Proofs.YtphakpikalmghaaGreat.Bw

def gd (xs : List Int) (s : Nat) : Prop := s < xs.length ∧ lf xs s ≠ 0
def cb (xs : List Int) (s : Nat) : List Bool := bitsOf (codes xs s).toNat (lf xs s).toNat
def sym (l : List UInt8) (i : Nat) : Nat := (l[i]?.getD 0).toNat
/-- The bits of the last j bytes, the last one's first. -/
def bt (xs : List Int) (l : List UInt8) : Nat → List Bool
  | 0 => []
  | j + 1 => bt xs l j ++ cb xs (sym l (l.length - 1 - j))
def EncOk (xs : List Int) (l : List UInt8) : Prop := IsOk xs ∧ ∀ j, j < l.length → gd xs (sym l j)
def EncGood (w : World) (B : List Bool) (e : Ending) (w' : World) : Prop :=
  ∃ g, e = .returned (.tuple #[.slice (some ⟨g, 0, none⟩) (B.length / 8 + 1) (B.length / 8 + 1), .bool true]) ∧ w.heap.size ≤ g ∧ UAt w' g (B.length / 8 + 1) (fin (fun i => B[i]?.getD false) B.length) ∧ Kp (fun _ => False) w w'
def EncPost (w : World) (xs : List Int) (l : List UInt8) (e : Ending) (w' : World) : Prop :=
  (EncOk xs l ∧ EncGood w (bt xs l l.length) e w') ∨ (¬ EncOk xs l ∧ e = .returned (.tuple #[.slice none 0 0, .bool false]) ∧ Kp (fun _ => False) w w')
theorem lf_le {xs : List Int} (h : InR xs) (s : Nat) : 0 ≤ lf xs s ∧ lf xs s ≤ 11 := by
  by_cases hs : s < xs.length
  · rw [lf_at hs]; exact h _ (List.getElem_mem hs)
  · have : lf xs s = 0 := by simp [lf, List.getElem?_eq_none (Nat.le_of_not_lt hs)]
    omega
theorem bt_len {xs : List Int} (h : InR xs) (l : List UInt8) : ∀ j, (bt xs l j).length ≤ 11 * j := by
  intro j
  induction j with
  | zero => simp [bt]
  | succ j ih =>
    simp only [bt, List.length_append, cb, bitsOf_len]
    have := lf_le h (sym l (l.length - 1 - j))
    omega
/-- A symbol's code and length as numbers. -/
theorem code_nat {xs : List Int} (h : IsOk xs) {s : Nat} (hg : gd xs s) : ∃ q n : Nat, codes xs s = (q : Nat) ∧ lf xs s = (n : Nat) ∧ 0 < n ∧ n ≤ 11 ∧ q < 2 ^ n := by
  obtain ⟨hs, h0⟩ := hg
  rw [lf_at hs] at h0 ⊢
  rcases codes_is h.2.1 hs with ⟨e, _⟩ | ⟨m, hm, e1, e2⟩
  · exact (h0 e).elim
  · exact ⟨_, m + 1, e2, by omega, by omega, by omega, h.lt hs hm e1⟩
theorem wr_new (ty : TypeId) (w : World) : WrAt ty (· = w.heap.size) (w.alloc (.cells #[.slice none 0 0] ty)) w.heap.size none 0 [] :=
  ⟨alloc_at w _, OwnR.nil _ _ _, rfl, fun k hk => by cases hk⟩
theorem bytes_at {w : World} {a : Option Addr} {c : Nat} {l : List UInt8} (h : SlR w 1 (.slice a l.length c) l.length (l.map u8c)) (h0 : 0 < l.length) :
    ∃ g o, a = some ⟨g, o, none⟩ ∧ g < w.heap.size ∧ l.length ≤ c ∧ ∀ i, i < l.length → w.cell? ⟨g, o + i, none⟩ = some (.int .u8 (sym l i : Nat)) := by
  obtain ⟨_, a', c', e, h1, _, _, hc⟩ := h
  simp only [Value.slice.injEq, true_and] at e
  obtain ⟨rfl, rfl⟩ := e
  obtain ⟨g, o, rfl, hg, hcc⟩ := hc h0
  refine ⟨g, o, rfl, hg, h1, fun i hi => hcc i _ ?_⟩
  simp [sym, hi, u8c]
theorem sym_lt (l : List UInt8) (i : Nat) : sym l i < 256 := by
  unfold sym
  exact (l[i]?.getD 0).toNat_lt
end Go.Proofs.YtphakpikalmghaaGreat.He
