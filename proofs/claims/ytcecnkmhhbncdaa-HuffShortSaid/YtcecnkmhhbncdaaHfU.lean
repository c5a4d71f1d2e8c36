/- huff: Codes. -/
import Derived.Test.YtcecnkmhhbncdaaHfT
namespace Go.Proofs.Ytcecnkmhhbncdaa.Hu
open Go Go.RowKit Go.ChangeMaps Go.MapKept Go.Mg Go.Hf Go.Sort Go.Proofs.Ytcecnkmhhbncdaa.It

def CAt (w : World) (g N : Nat) (out : Nat → Int) : Prop := w.heap[g]? = some (.cells ((List.range N).map fun i => Value.int .i64 (out i)).toArray 3 (0, 0))
theorem CAt.set {w : World} {g N : Nat} {out : Nat → Int} (h : CAt w g N out) {i : Nat} (hi : i < N) (x : Int) : CAt (w.setCell ⟨g, i, none⟩ (.int .i64 x)) g N (fun j => if j = i then x else out j) := by
  have h2 := setCell_at (i := i) h (.int .i64 x)
  unfold CAt
  rw [h2]
  congr 2
  apply Array.ext_getElem?
  intro k
  rw [Array.getElem?_setIfInBounds]
  simp only [List.size_toArray, List.length_map, List.length_range, List.getElem?_toArray, List.getElem?_map]
  by_cases hk : i = k
  · subst hk
    rw [if_pos rfl, if_pos hi, List.getElem?_range hi]
    simp
  · rw [if_neg hk]
    by_cases hkn : k < N
    · rw [List.getElem?_range hkn]
      have : ¬ k = i := fun e => hk e.symm
      simp [this]
    · rw [List.getElem?_eq_none (by simpa using hkn)]
      rfl
theorem CAt.cell {w : World} {g N : Nat} {out : Nat → Int} (h : CAt w g N out) {i : Nat} (hi : i < N) : w.cell? ⟨g, i, none⟩ = some (.int .i64 (out i)) := by
  rw [cell_of h]; simp [hi]
theorem CAt.kp {w w' : World} {g N : Nat} {out : Nat → Int} (h : CAt w g N out) (hk : Kp (fun _ => False) w w') : CAt w' g N out := hk.at_ h (fun q => q)
theorem CAt.sl {w : World} {g N : Nat} {out : Nat → Int} (h : CAt w g N out) (hN : N ≤ 1000) : SlR w 1 (.slice (some ⟨g, 0, none⟩) N N) N ((List.range N).map fun i => .int .i64 (out i)) := by
  refine ⟨by simp, _, _, rfl, Nat.le_refl _, by unfold maxLen; omega, (fun h => by cases h), fun _ => ⟨g, 0, rfl, lt_of_at h, fun i u hu => ?_⟩⟩
  rw [Nat.zero_add, cell_of h]
  simpa using hu
theorem CAt.ofRep {w : World} {g N : Nat} {v : Int} (h : RepAt w g v N N) : CAt w g N (fun _ => v) := by
  unfold CAt
  rw [h]
  congr 2
  unfold repRow
  rw [Nat.sub_self, List.replicate_zero, List.append_nil]
  congr 1
  apply List.ext_getElem
  · simp
  · intro i h1 h2; simp
def CodesPost (w : World) (xs : List Int) (e : Ending) (w' : World) : Prop := ∃ g, e = .returned (.slice (some ⟨g, 0, none⟩) xs.length xs.length) ∧ w.heap.size ≤ g ∧ CAt w' g xs.length (codes xs) ∧ Kp (fun _ => False) w w'
set_option maxRecDepth 100000 in
set_option maxHeartbeats 2000000 in
theorem codes_p (w : World) (xs : List Int) (a : Option Addr) (c : Nat) (h : Nm w a c xs) (h0 : 0 < xs.length) (hl : xs.length ≤ 300) :
    Calls Try.prog 22 #[.slice a xs.length c] w (CodesPost w xs) := by
  obtain ⟨g, o, rfl, hg, hcap, hc⟩ := h.lf_ h0
  have HC := Lib.hid hc
  clear hc h
  unfold CodesPost codes
  obtain ⟨ls, hls⟩ : ∃ ls, ls = lf xs := ⟨_, rfl⟩
  rw [← hls] at HC ⊢
  obtain ⟨n, hn⟩ : ∃ n, n = xs.length := ⟨_, rfl⟩
  rw [← hn] at HC h0 hl hcap ⊢
  clear hls hn
  have k0 : Kp (fun _ => False) w (w.alloc (.cells #[.int .i64 (-1)] 3)) := (Kp.refl _ _).alloc _
  have RC := Lib.hid (repeat_c (w.alloc (.cells #[.int .i64 (-1)] 3)) w.heap.size (-1) n (by simp) (by rw [cell_of (alloc_at w _)]; rfl) h0 (by omega))
  have K0 := Lib.hid k0
  clear k0
  go_enter Try.func22, Try.ntmps22
  go_wp2_with fail
  refine RC.out.mono ?_
  rintro e w1 ⟨g1, rfl, q1, q2, q3⟩
  have Q2 := Lib.hid (CAt.ofRep q2)
  have Q3 := Lib.hid (K0.out.trans q3)
  have hg1 : w.heap.size < g1 := by simp at q1; omega
  clear q1 q2 q3
  go_wp2_with fail
  go_loopw [4, 5] (fun cd i wr => ∃ k : Nat, k ≤ 11 ∧ i = .int .i64 ((k : Int) + 1) ∧ cd = .int .i64 ((passes ls n k).1 : Nat) ∧ CAt wr g1 n (passes ls n k).2 ∧ Kp (fun _ => False) w wr) (fun _ i _ => 12 - (intOf i).toNat)
  case atStart => exact ⟨0, by omega, rfl, rfl, Q2.out, Q3.out⟩
  case round =>
    obtain ⟨k, hk, rfl, rfl, hca, hkp⟩ := hrel
    have HCA := Lib.hid hca
    have HKP := Lib.hid hkp
    clear hca hkp
    by_cases hlt : k < 11
    · have hb := passes_bound ls (N := n) (n := k) hl (by omega)
      obtain ⟨cc, hcc⟩ : ∃ cc, cc = (passes ls n k).1 := ⟨_, rfl⟩
      obtain ⟨oo, hoo⟩ : ∃ oo, oo = (passes ls n k).2 := ⟨_, rfl⟩
      rw [← hcc] at hb ⊢
      have HCA2 : Hid (CAt wr g1 n oo) := Lib.hid (by rw [hoo]; exact HCA.out)
      have HP : Hid (passes ls n (k + 1) = pass1 ls ((k : Int) + 1) n (2 * cc, oo)) := Lib.hid (by rw [hcc, hoo]; rfl)
      clear hcc hoo HCA
      go_wp2_with fail
      go_loopw [4, 20] (fun cd i wr => ∃ j : Nat, j ≤ n ∧ i = .int .i64 j ∧ cd = .int .i64 ((pass1 ls ((k : Int) + 1) j (2 * cc, oo)).1 : Nat) ∧ CAt wr g1 n (pass1 ls ((k : Int) + 1) j (2 * cc, oo)).2 ∧ Kp (fun _ => False) w wr) (fun _ i _ => n - (intOf i).toNat)
      case atStart => exact ⟨0, Nat.zero_le _, rfl, (by show Value.int .i64 _ = Value.int .i64 ((2 * cc : Nat) : Int); congr 1; omega), HCA2.out, HKP.out⟩
      case round =>
        clear HCA2 HKP
        obtain ⟨j, hj, rfl, rfl, hca, hkp⟩ := hrel
        by_cases hjn : j < n
        · have hp1 := (pass1_le ls ((k : Int) + 1) j (2 * cc, oo)).1
          simp only at hp1
          have d0 := (hkp.cell (p := ⟨g, o + j, none⟩) hg (fun q => q)).trans (HC.out j hjn)
          have f1 := hca.cell hjn
          have f2 : wr.frozen? ⟨g1, j, none⟩ = false := free_of hca j
          have hstep : pass1 ls ((k : Int) + 1) (j + 1) (2 * cc, oo) = if ls j = (k : Int) + 1 then ((pass1 ls ((k : Int) + 1) j (2 * cc, oo)).1 + 1, fun i => if i = j then ((pass1 ls ((k : Int) + 1) j (2 * cc, oo)).1 : Int) else (pass1 ls ((k : Int) + 1) j (2 * cc, oo)).2 i) else pass1 ls ((k : Int) + 1) j (2 * cc, oo) := rfl
          have HST := Lib.hid hstep
          obtain ⟨c1, hc1⟩ : ∃ c1, c1 = (pass1 ls ((k : Int) + 1) j (2 * cc, oo)).1 := ⟨_, rfl⟩
          have hset := hca.set hjn (c1 : Int)
          have hks : Kp (fun _ => False) w (wr.setCell ⟨g1, j, none⟩ (.int .i64 (c1 : Int))) := hkp.setCell (p := ⟨g1, j, none⟩) (fun q => by simp only at q; omega) _
          rw [← hc1] at hp1 ⊢
          rw [← hc1] at HST
          have HSET := Lib.hid hset
          have HKS := Lib.hid hks
          have HCA := Lib.hid hca
          have HKP := Lib.hid hkp
          have HC1 := Lib.hid hc1
          obtain ⟨x, hx⟩ : ∃ x, x = ls j := ⟨_, rfl⟩
          rw [← hx] at d0
          rw [← hx] at HST
          generalize (pass1 ls ((k : Int) + 1) j (2 * cc, oo)).2 j = y at f1
          clear hset hks hca hkp hc1 hx hstep
          by_cases hxe : x = (k : Int) + 1
          · have hxe' : (x == (k : Int) + 1) = true := by simpa using hxe
            have HXE := Lib.hid hxe
            clear hxe
            go_wp2_with fail
            have e := HST.out
            rw [if_pos HXE.out] at e
            refine ⟨⟨j + 1, by omega, by go_num, by rw [e]; go_num, by rw [e]; exact HSET.out, HKS.out⟩, by simp [intOf]; omega⟩
          · have hxe' : (x == (k : Int) + 1) = false := by simpa using hxe
            have HXE := Lib.hid hxe
            clear hxe
            go_wp2_with fail
            have e := HST.out
            rw [if_neg HXE.out] at e
            refine ⟨⟨j + 1, by omega, by go_num, by rw [e, ← HC1.out], by rw [e]; exact HCA.out, HKP.out⟩, by simp [intOf]; omega⟩
        · obtain rfl : j = n := by omega
          have hp2 := (pass1_le ls ((k : Int) + 1) j (2 * cc, oo)).1
          have HCA := Lib.hid hca
          have HKP := Lib.hid hkp
          clear hca hkp
          rw [← HP.out] at HCA ⊢
          go_wp2_with fail
          refine ⟨⟨k + 1, by omega, by go_num, rfl, HCA.out, HKP.out⟩, by simp [intOf]; omega⟩
    · obtain rfl : k = 11 := by omega
      go_wp2_with fail
      go_ret
      exact ⟨g1, rfl, by omega, HCA.out, HKP.out⟩
end Go.Proofs.Ytcecnkmhhbncdaa.Hu
