/- slices.Repeat; huff: Codes. huff: Codes. No code begins another one; in plain words. huff: what Encode makes, in plain words; the document's Encode. -/
import Derived.Deep.RegionHeld3
import Derived.Test.YtmioiaeiflbmhaaGreatX16
import Derived.Test.YtmioiaeiflbmhaaGreatX04
import Derived.Test.YtmioiaeiflbmhaaGreatX05
namespace Go.Proofs.YtmioiaeiflbmhaaGreat.Hu
open Go Go.RowKit Go.ChangeMaps Go.MapKept Go.Mg Go.Hf Go.Sort Go.Proofs.YtmioiaeiflbmhaaGreat.It
theorem slice_lo {w : World} {g n m : Nat} (h : m < n) : (Instr.slice 179 (.slice (some ⟨g, 0, none⟩) n n) (some (.int .i64 (m : Nat))) none none).run Tryz.prog w = .ok (.slice (some ⟨g, m, none⟩) (n - m) (n - m)) w := by
  have he : Tryz.prog.elem 179 = 3 := by have := elem_of (P := Tryz.prog) Tryz.underlying179; rw [Tryz.underlying179] at this; simp at this; exact this.symm
  rw [run_slice_l (P := Tryz.prog) w 179 _ n n (elem_of Tryz.underlying179) .i64 (m : Int) (by omega) (by omega), he, sizeOf_run info1]
  have : ¬ n = m := by omega
  simp [Result.andThen, sliced, this, addr_add]
theorem slice_hi {w : World} {g n m : Nat} (h : m ≤ n) : (Instr.slice 179 (.slice (some ⟨g, 0, none⟩) n n) none (some (.int .i64 (m : Nat))) none).run Tryz.prog w = .ok (.slice (some ⟨g, 0, none⟩) m n) w := by
  have he : Tryz.prog.elem 179 = 3 := by have := elem_of (P := Tryz.prog) Tryz.underlying179; rw [Tryz.underlying179] at this; simp at this; exact this.symm
  rw [run_slice_h (P := Tryz.prog) w 179 _ n n (elem_of Tryz.underlying179) .i64 (m : Int) (by omega) (by omega), he, sizeOf_run info1]
  simp [Result.andThen, sliced, Addr.add]
theorem rep_first {w : World} {g gx : Nat} {v : Int} {n : Nat} (h : RepAt w g v n 0) (hn : 0 < n) (hx : w.cell? ⟨gx, 0, none⟩ = some (.int .i64 v)) : ∃ w', (Builtin.copy_ #[179, 179] 3 #[.slice (some ⟨g, 0, none⟩) n n, .slice (some ⟨gx, 0, none⟩) 1 1]).run Tryz.prog w = .ok (.int .i64 1) w' ∧ RepAt w' g v n 1 ∧ Kp (· = g) w w' := by
  have hr := run_copy_row (P := Tryz.prog) w 179 179 3 3 g 0 n n ⟨gx, 0, none⟩ 1 1 (repRow v n 0).toArray 3 [.int .i64 v] Tryz.underlying179 info1 h (by show 1 = min 1 n; omega) (fun j u hu => by
      cases j with
      | zero => rw [addr_add]; simp at hu; rw [← hu]; exact hx
      | succ j => simp at hu) (by simp [repRow_len (Nat.zero_le n)]; omega) (fun u hu => by rw [List.mem_singleton.1 hu]; rfl)
  have h2 := setRow_heap w g (repRow v n 0).toArray ((repRow v n 0).take 0 ++ List.replicate 1 (Value.int .i64 v) ++ (repRow v n 0).drop (0 + 1)).toArray 3 (0, 0) h
  refine ⟨w.setRow g ((repRow v n 0).take 0 ++ List.replicate 1 (Value.int .i64 v) ++ (repRow v n 0).drop (0 + 1)).toArray, hr, ?_, kp_setRow _ _ _⟩
  unfold RepAt
  have := rep_row (v := v) (n := n) (m := 0) (k := 1) (by omega)
  rw [Nat.zero_add] at this
  rw [← this]
  exact h2
def RepPost (w : World) (v : Int) (n : Nat) (e : Ending) (w' : World) : Prop := ∃ g, e = .returned (.slice (some ⟨g, 0, none⟩) n n) ∧ w.heap.size ≤ g ∧ RepAt w' g v n n ∧ Kp (fun _ => False) w w'
set_option maxRecDepth 100000 in
set_option maxHeartbeats 2000000 in
theorem repeat_c (w : World) (gx : Nat) (v : Int) (n : Nat) (hgx : gx < w.heap.size) (hx : w.cell? ⟨gx, 0, none⟩ = some (.int .i64 v)) (hn : 0 < n) (hn2 : n ≤ 1000) :
    Calls Tryz.prog 231 #[.slice (some ⟨gx, 0, none⟩) 1 1, .int .i64 (n : Nat)] w (RepPost w v n) := by
  obtain ⟨cur, hcur, hmk⟩ := make_ints w n (by omega)
  have hR : RepAt (w.alloc (.cells cur 3)) w.heap.size v n 0 := by
    unfold RepAt
    rw [alloc_at]
    congr 2
    have : (repRow v n 0) = cur.toList := by rw [hcur]; simp [repRow, nv]
    rw [this]
  have k0 : Kp (fun _ => False) w (w.alloc (.cells cur 3)) := (Kp.refl _ _).alloc _
  obtain ⟨w2, hrun, hR2, hk2⟩ := rep_first hR hn ((k0.cell (p := ⟨gx, 0, none⟩) hgx (fun q => q)).trans hx)
  have HRUN := Lib.hid hrun
  have HR2 := Lib.hid hR2
  have HK2 := Lib.hid (k0.up hk2 (fun i e => by rw [e]; exact Nat.le_refl _))
  have HX := Lib.hid hx
  have hn0 : ¬ (n : Int) < 0 := by omega
  clear hR hrun hR2 hk2 k0 hcur hx
  go_enter Tryz.func231, Tryz.ntmps231
  go_wp2_with fail
  refine (mul_c n hn2 w).mono ?_
  rintro e w1 ⟨rfl, rfl⟩
  have hrun := HRUN.out
  go_wp2_with fail
  go_loopw [8] (fun i wr => ∃ m : Nat, 1 ≤ m ∧ m ≤ n ∧ i = .int .i64 m ∧ RepAt wr w1.heap.size v n m ∧ Kp (fun _ => False) w1 wr) (fun i _ => n - (intOf i).toNat)
  case atStart => exact ⟨1, Nat.le_refl _, hn, rfl, HR2.out, HK2.out⟩
  case round =>
    clear hrun
    obtain ⟨m, hm1, hm, rfl, hr, hk⟩ := hrel
    have HR := Lib.hid hr
    have HK := Lib.hid hk
    clear hr hk
    by_cases hlt : m < n
    · have hs1 : ∀ w', (Instr.slice 179 (.slice (some ⟨w1.heap.size, 0, none⟩) n n) (some (.int .i64 (m : Nat))) none none).run Tryz.prog w' = .ok (.slice (some ⟨w1.heap.size, m, none⟩) (n - m) (n - m)) w' := fun w' => slice_lo hlt
      have hs2 : ∀ w', (Instr.slice 179 (.slice (some ⟨w1.heap.size, 0, none⟩) n n) none (some (.int .i64 (m : Nat))) none).run Tryz.prog w' = .ok (.slice (some ⟨w1.heap.size, 0, none⟩) m n) w' := fun w' => slice_hi (by omega)
      obtain ⟨w3, hrun, hr3, hk3⟩ := rep_copy (w := wr.drew) HR.out hlt
      obtain ⟨q, hq⟩ : ∃ q, q = min m (n - m) := ⟨_, rfl⟩
      rw [← hq] at hrun hr3
      have hq1 : 1 ≤ q := by omega
      have hq2 : m + q ≤ n := by omega
      have hwr : IntKind.i64.wrap ((m : Int) + (q : Int)) = (m : Int) + (q : Int) := by rw [IntKind.wrap_i64]; omega
      have HRUN3 := Lib.hid hrun
      have HR3 := Lib.hid hr3
      have HK3 := Lib.hid ((HK.out.drew).up hk3 (fun i e => by rw [e]; exact Nat.le_refl _))
      clear hr3 hk3 hq
      go_wp2_with fail
      go_region_held3 (fun _ => True) (trivial) (fail)
      all_goals (go_wp2_with fail; exact ⟨⟨m + q, by omega, hq2, by go_num, HR3.out, HK3.out⟩, by simp [intOf]; omega⟩)
    · obtain rfl : m = n := by omega
      go_wp2_with fail
      go_ret
      exact ⟨w1.heap.size, rfl, Nat.le_refl _, HR.out, HK.out⟩
end Go.Proofs.YtmioiaeiflbmhaaGreat.Hu
namespace Go.Proofs.YtmioiaeiflbmhaaGreat.Hu
open Go Go.RowKit Go.ChangeMaps Go.MapKept Go.Mg Go.Hf Go.Sort Go.Proofs.YtmioiaeiflbmhaaGreat.It
def CAt (w : World) (g N : Nat) (out : Nat → Int) : Prop := w.heap[g]? = some (.cells ((List.range N).map fun i => Value.int .i64 (out i)).toArray 3 (0, 0))
theorem CAt.set {w : World} {g N : Nat} {out : Nat → Int} (h : CAt w g N out) {i : Nat} (hi : i < N) (x : Int) : CAt (w.setCell ⟨g, i, none⟩ (.int .i64 x)) g N (fun j => if j = i then x else out j) := by
  have h2 := setCell_at (i := i) h (.int .i64 x)
  unfold CAt
  rw [h2]
  congr 2
  apply Array.ext_getElem?
  intro k
  rw [Array.getElem?_setIfInBounds]
  simp only [List.size_toArray, List.length_map, List.length_range, List.getElem?_toArray, List.getElem?_map]
  by_cases hk : i = k
  · subst hk
    rw [if_pos rfl, if_pos hi, List.getElem?_range hi]
    simp
  · rw [if_neg hk]
    by_cases hkn : k < N
    · rw [List.getElem?_range hkn]
      have : ¬ k = i := fun e => hk e.symm
      simp [this]
    · rw [List.getElem?_eq_none (by simpa using hkn)]
      rfl
theorem CAt.cell {w : World} {g N : Nat} {out : Nat → Int} (h : CAt w g N out) {i : Nat} (hi : i < N) : w.cell? ⟨g, i, none⟩ = some (.int .i64 (out i)) := by
  rw [cell_of h]; simp [hi]
theorem CAt.kp {w w' : World} {g N : Nat} {out : Nat → Int} (h : CAt w g N out) (hk : Kp (fun _ => False) w w') : CAt w' g N out := hk.at_ h (fun q => q)
theorem CAt.sl {w : World} {g N : Nat} {out : Nat → Int} (h : CAt w g N out) (hN : N ≤ 1000) : SlR w 1 (.slice (some ⟨g, 0, none⟩) N N) N ((List.range N).map fun i => .int .i64 (out i)) := by
  refine ⟨by simp, _, _, rfl, Nat.le_refl _, by unfold maxLen; omega, (fun h => by cases h), fun _ => ⟨g, 0, rfl, lt_of_at h, fun i u hu => ?_⟩⟩
  rw [Nat.zero_add, cell_of h]
  simpa using hu
theorem CAt.ofRep {w : World} {g N : Nat} {v : Int} (h : RepAt w g v N N) : CAt w g N (fun _ => v) := by
  unfold CAt
  rw [h]
  congr 2
  unfold repRow
  rw [Nat.sub_self, List.replicate_zero, List.append_nil]
  congr 1
  apply List.ext_getElem
  · simp
  · intro i h1 h2; simp
def CodesPost (w : World) (xs : List Int) (e : Ending) (w' : World) : Prop := ∃ g, e = .returned (.slice (some ⟨g, 0, none⟩) xs.length xs.length) ∧ w.heap.size ≤ g ∧ CAt w' g xs.length (codes xs) ∧ Kp (fun _ => False) w w'
set_option maxRecDepth 100000 in
set_option maxHeartbeats 2000000 in
theorem codes_p (w : World) (xs : List Int) (a : Option Addr) (c : Nat) (h : Nm w a c xs) (h0 : 0 < xs.length) (hl : xs.length ≤ 300) :
    Calls Tryz.prog 214 #[.slice a xs.length c] w (CodesPost w xs) := by
  obtain ⟨g, o, rfl, hg, hcap, hc⟩ := h.lf_ h0
  have HC := Lib.hid hc
  clear hc h
  unfold CodesPost codes
  obtain ⟨ls, hls⟩ : ∃ ls, ls = lf xs := ⟨_, rfl⟩
  rw [← hls] at HC ⊢
  obtain ⟨n, hn⟩ : ∃ n, n = xs.length := ⟨_, rfl⟩
  rw [← hn] at HC h0 hl hcap ⊢
  clear hls hn
  have k0 : Kp (fun _ => False) w (w.alloc (.cells #[.int .i64 (-1)] 3)) := (Kp.refl _ _).alloc _
  have RC := Lib.hid (repeat_c (w.alloc (.cells #[.int .i64 (-1)] 3)) w.heap.size (-1) n (by simp) (by rw [cell_of (alloc_at w _)]; rfl) h0 (by omega))
  have K0 := Lib.hid k0
  clear k0
  go_enter Tryz.func214, Tryz.ntmps214
  go_wp2_with fail
  refine RC.out.mono ?_
  rintro e w1 ⟨g1, rfl, q1, q2, q3⟩
  have Q2 := Lib.hid (CAt.ofRep q2)
  have Q3 := Lib.hid (K0.out.trans q3)
  have hg1 : w.heap.size < g1 := by simp at q1; omega
  clear q1 q2 q3
  go_wp2_with fail
  go_loopw [4, 5] (fun cd i wr => ∃ k : Nat, k ≤ 11 ∧ i = .int .i64 ((k : Int) + 1) ∧ cd = .int .i64 ((passes ls n k).1 : Nat) ∧ CAt wr g1 n (passes ls n k).2 ∧ Kp (fun _ => False) w wr) (fun _ i _ => 12 - (intOf i).toNat)
  case atStart => exact ⟨0, by omega, rfl, rfl, Q2.out, Q3.out⟩
  case round =>
    obtain ⟨k, hk, rfl, rfl, hca, hkp⟩ := hrel
    have HCA := Lib.hid hca
    have HKP := Lib.hid hkp
    clear hca hkp
    by_cases hlt : k < 11
    · have hb := passes_bound ls (N := n) (n := k) hl (by omega)
      obtain ⟨cc, hcc⟩ : ∃ cc, cc = (passes ls n k).1 := ⟨_, rfl⟩
      obtain ⟨oo, hoo⟩ : ∃ oo, oo = (passes ls n k).2 := ⟨_, rfl⟩
      rw [← hcc] at hb ⊢
      have HCA2 : Hid (CAt wr g1 n oo) := Lib.hid (by rw [hoo]; exact HCA.out)
      have HP : Hid (passes ls n (k + 1) = pass1 ls ((k : Int) + 1) n (2 * cc, oo)) := Lib.hid (by rw [hcc, hoo]; rfl)
      clear hcc hoo HCA
      go_wp2_with fail
      go_loopw [4, 20] (fun cd i wr => ∃ j : Nat, j ≤ n ∧ i = .int .i64 j ∧ cd = .int .i64 ((pass1 ls ((k : Int) + 1) j (2 * cc, oo)).1 : Nat) ∧ CAt wr g1 n (pass1 ls ((k : Int) + 1) j (2 * cc, oo)).2 ∧ Kp (fun _ => False) w wr) (fun _ i _ => n - (intOf i).toNat)
      case atStart => exact ⟨0, Nat.zero_le _, rfl, (by show Value.int .i64 _ = Value.int .i64 ((2 * cc : Nat) : Int); congr 1; omega), HCA2.out, HKP.out⟩
      case round =>
        clear HCA2 HKP
        obtain ⟨j, hj, rfl, rfl, hca, hkp⟩ := hrel
        by_cases hjn : j < n
        · have hp1 := (pass1_le ls ((k : Int) + 1) j (2 * cc, oo)).1
          simp only at hp1
          have d0 := (hkp.cell (p := ⟨g, o + j, none⟩) hg (fun q => q)).trans (HC.out j hjn)
          have f1 := hca.cell hjn
          have f2 : wr.frozen? ⟨g1, j, none⟩ = false := free_of hca j
          have hstep : pass1 ls ((k : Int) + 1) (j + 1) (2 * cc, oo) = if ls j = (k : Int) + 1 then ((pass1 ls ((k : Int) + 1) j (2 * cc, oo)).1 + 1, fun i => if i = j then ((pass1 ls ((k : Int) + 1) j (2 * cc, oo)).1 : Int) else (pass1 ls ((k : Int) + 1) j (2 * cc, oo)).2 i) else pass1 ls ((k : Int) + 1) j (2 * cc, oo) := rfl
          have HST := Lib.hid hstep
          obtain ⟨c1, hc1⟩ : ∃ c1, c1 = (pass1 ls ((k : Int) + 1) j (2 * cc, oo)).1 := ⟨_, rfl⟩
          have hset := hca.set hjn (c1 : Int)
          have hks : Kp (fun _ => False) w (wr.setCell ⟨g1, j, none⟩ (.int .i64 (c1 : Int))) := hkp.setCell (p := ⟨g1, j, none⟩) (fun q => by simp only at q; omega) _
          rw [← hc1] at hp1 ⊢
          rw [← hc1] at HST
          have HSET := Lib.hid hset
          have HKS := Lib.hid hks
          have HCA := Lib.hid hca
          have HKP := Lib.hid hkp
          have HC1 := Lib.hid hc1
          obtain ⟨x, hx⟩ : ∃ x, x = ls j := ⟨_, rfl⟩
          rw [← hx] at d0
          rw [← hx] at HST
          generalize (pass1 ls ((k : Int) + 1) j (2 * cc, oo)).2 j = y at f1
          clear hset hks hca hkp hc1 hx hstep
          by_cases hxe : x = (k : Int) + 1
          · have hxe' : (x == (k : Int) + 1) = true := by simpa using hxe
            have HXE := Lib.hid hxe
            clear hxe
            go_wp2_with fail
            have e := HST.out
            rw [if_pos HXE.out] at e
            refine ⟨⟨j + 1, by omega, by go_num, by rw [e]; go_num, by rw [e]; exact HSET.out, HKS.out⟩, by simp [intOf]; omega⟩
          · have hxe' : (x == (k : Int) + 1) = false := by simpa using hxe
            have HXE := Lib.hid hxe
            clear hxe
            go_wp2_with fail
            have e := HST.out
            rw [if_neg HXE.out] at e
            refine ⟨⟨j + 1, by omega, by go_num, by rw [e, ← HC1.out], by rw [e]; exact HCA.out, HKP.out⟩, by simp [intOf]; omega⟩
        · obtain rfl : j = n := by omega
          have hp2 := (pass1_le ls ((k : Int) + 1) j (2 * cc, oo)).1
          have HCA := Lib.hid hca
          have HKP := Lib.hid hkp
          clear hca hkp
          rw [← HP.out] at HCA ⊢
          go_wp2_with fail
          refine ⟨⟨k + 1, by omega, by go_num, rfl, HCA.out, HKP.out⟩, by simp [intOf]; omega⟩
    · obtain rfl : k = 11 := by omega
      go_wp2_with fail
      go_ret
      exact ⟨g1, rfl, by omega, HCA.out, HKP.out⟩
end Go.Proofs.YtmioiaeiflbmhaaGreat.Hu
namespace Go.Hf
def stc (ls : Nat → Int) (N n j : Nat) : Nat := (pass1 ls ((n : Int) + 1) j (2 * (passes ls N n).1, (passes ls N n).2)).1
def Qs (ls : Nat → Int) (N n j : Nat) : Nat := stc ls N n j * 2 ^ (10 - n)
theorem stc_succ (ls : Nat → Int) (N n j : Nat) : stc ls N n (j + 1) = stc ls N n j + if ls j = (n : Int) + 1 then 1 else 0 := by
  unfold stc
  simp only [pass1]
  split <;> simp
theorem stc_zero (ls : Nat → Int) (N n : Nat) : stc ls N n 0 = 2 * (passes ls N n).1 := rfl
theorem stc_end (ls : Nat → Int) (N n : Nat) : stc ls N n N = (passes ls N (n + 1)).1 := rfl
theorem Qs_succ (ls : Nat → Int) (N n j : Nat) : Qs ls N n (j + 1) = Qs ls N n j + if ls j = (n : Int) + 1 then 2 ^ (10 - n) else 0 := by
  unfold Qs
  rw [stc_succ, Nat.add_mul]
  split <;> simp
theorem Qs_mono_j (ls : Nat → Int) (N n : Nat) {j k : Nat} (h : j ≤ k) : Qs ls N n j ≤ Qs ls N n k := by
  induction h with
  | refl => exact Nat.le_refl _
  | step _ ih => rw [Qs_succ]; omega
theorem Qs_next (ls : Nat → Int) (N n : Nat) (hn : n < 10) : Qs ls N (n + 1) 0 = Qs ls N n N := by
  unfold Qs
  rw [stc_zero, stc_end, show 10 - n = (10 - (n + 1)) + 1 by omega, Nat.pow_succ]
  rw [Nat.mul_comm 2, Nat.mul_assoc, Nat.mul_comm 2]
theorem Qs_mono (ls : Nat → Int) (N : Nat) {n m j k : Nat} (hnm : n < m) (hm : m ≤ 10) (hj : j ≤ N) : Qs ls N n j ≤ Qs ls N m k := by
  induction hnm generalizing k with
  | refl =>
    exact Nat.le_trans (Qs_mono_j ls N n hj) (Nat.le_trans (Nat.le_of_eq (Qs_next ls N n (by omega)).symm) (Qs_mono_j ls N _ (Nat.zero_le k)))
  | step h ih =>
    rename_i m
    refine Nat.le_trans (ih (k := N) (by omega)) (Nat.le_trans (Nat.le_of_eq (Qs_next ls N m (by omega)).symm) (Qs_mono_j ls N _ (Nat.zero_le k)))
theorem pass1_out (ls : Nat → Int) (n : Int) (st : Nat × (Nat → Int)) (i : Nat) : ∀ j, (pass1 ls n j st).2 i = if i < j ∧ ls i = n then ((pass1 ls n i st).1 : Int) else st.2 i := by
  intro j
  induction j with
  | zero => simp [pass1]
  | succ j ih =>
    simp only [pass1]
    by_cases h : ls j = n
    · rw [if_pos h]
      simp only
      by_cases e : i = j
      · subst e
        rw [if_pos rfl, if_pos ⟨by omega, h⟩]
      · rw [if_neg e, ih]
        by_cases q : i < j
        · have : i < j + 1 := by omega
          simp [q, this]
        · have : ¬ i < j + 1 := by omega
          simp [q, this]
    · rw [if_neg h, ih]
      by_cases e : i = j
      · subst e
        simp [h]
      · by_cases q : i < j
        · have : i < j + 1 := by omega
          simp [q, this]
        · have : ¬ i < j + 1 := by omega
          simp [q, this]
theorem passes_out (ls : Nat → Int) (N : Nat) {i : Nat} (hi : i < N) : ∀ m : Nat, (∀ n : Nat, n < m → ls i = (n : Int) + 1 → (passes ls N m).2 i = (stc ls N n i : Nat)) ∧ ((∀ n : Nat, n < m → ls i ≠ (n : Int) + 1) → (passes ls N m).2 i = -1) := by
  intro m
  induction m with
  | zero => exact ⟨fun n h => by omega, fun _ => rfl⟩
  | succ m ih =>
    have e : (passes ls N (m + 1)).2 i = if i < N ∧ ls i = (m : Int) + 1 then (stc ls N m i : Int) else (passes ls N m).2 i := pass1_out ls _ _ i N
    refine ⟨fun n hn hl => ?_, fun h => ?_⟩
    · rw [e]
      by_cases q : n = m
      · subst q; rw [if_pos ⟨hi, hl⟩]
      · rw [if_neg (fun z => by omega)]
        exact ih.1 n (by omega) hl
    · rw [e, if_neg (fun z => h m (by omega) z.2)]
      exact ih.2 (fun n hn => h n (by omega))
def Tn (ls : Nat → Int) (N n : Nat) : Nat := ((List.range N).map fun i => if 0 < ls i ∧ ls i ≤ n then 2 ^ (11 - (ls i).toNat) else 0).sum
theorem sum_add (f g : Nat → Nat) (l : List Nat) : (l.map fun i => f i + g i).sum = (l.map f).sum + (l.map g).sum := by
  induction l with
  | nil => rfl
  | cons x l ih => simp only [List.map_cons, List.sum_cons, ih]; omega
theorem stc_count (ls : Nat → Int) (N n : Nat) : ∀ j, Qs ls N n j = 2 * (passes ls N n).1 * 2 ^ (10 - n) + ((List.range j).map fun i => if ls i = (n : Int) + 1 then 2 ^ (10 - n) else 0).sum := by
  intro j
  induction j with
  | zero => simp [Qs, stc_zero]
  | succ j ih => rw [Qs_succ, ih, List.range_succ, List.map_append, List.sum_append]; simp; omega
theorem sum_zeros (l : List Nat) : (l.map fun _ => 0).sum = 0 := by
  induction l with
  | nil => rfl
  | cons x l ih => simp only [List.map_cons, List.sum_cons, ih]
theorem passes_sum (ls : Nat → Int) (N : Nat) : ∀ n, n ≤ 11 → (passes ls N n).1 * 2 ^ (11 - n) = Tn ls N n := by
  intro n
  induction n with
  | zero =>
    intro _
    have : (List.range N).map (fun i => if 0 < ls i ∧ ls i ≤ ((0 : Nat) : Int) then 2 ^ (11 - (ls i).toNat) else 0) = (List.range N).map fun _ => 0 := List.map_congr_left (fun i _ => by rw [if_neg (by omega)])
    unfold Tn
    rw [this, sum_zeros]
    simp [passes]
  | succ n ih =>
    intro hn
    have e := stc_count ls N n N
    have ih := ih (by omega)
    have h1 : Qs ls N n N = (passes ls N (n + 1)).1 * 2 ^ (11 - (n + 1)) := by unfold Qs; rw [stc_end, show 11 - (n + 1) = 10 - n by omega]
    have h2 : 2 * (passes ls N n).1 * 2 ^ (10 - n) = (passes ls N n).1 * 2 ^ (11 - n) := by
      rw [show 11 - n = (10 - n) + 1 by omega, Nat.pow_succ, Nat.mul_comm 2, Nat.mul_assoc, Nat.mul_comm 2]
    rw [← h1, e, h2, ih]
    unfold Tn
    rw [← sum_add]
    congr 1
    refine List.map_congr_left (fun i _ => ?_)
    by_cases q : ls i = (n : Int) + 1
    · rw [if_neg (by omega), if_pos q, if_pos (by omega), Nat.zero_add]
      congr 1
      omega
    · by_cases q2 : 0 < ls i ∧ ls i ≤ (n : Int)
      · rw [if_pos q2, if_neg q, if_pos (by omega)]; rfl
      · rw [if_neg q2, if_neg q, if_neg (by omega)]
theorem isSt_T (xs : List Int) (h : InR xs) : (isSt xs).1 = Tn (lf xs) xs.length 11 := by
  have key : ∀ k, k ≤ xs.length → (isSt (xs.take k)).1 = ((List.range k).map fun i => if 0 < lf xs i ∧ lf xs i ≤ ((11 : Nat) : Int) then 2 ^ (11 - (lf xs i).toNat) else 0).sum := by
    intro k
    induction k with
    | zero => intro _; simp [isSt]
    | succ k ih =>
      intro hk
      have e : xs.take (k + 1) = xs.take k ++ [lf xs k] := by rw [List.take_succ_eq_append_getElem (by omega), lf_at (by omega)]
      have hx := h (lf xs k) (by rw [lf_at (by omega)]; exact List.getElem_mem _)
      rw [e, isSt_snoc, List.range_succ, List.map_append, List.sum_append, ← ih (by omega)]
      unfold isStep
      by_cases q : 0 < lf xs k
      · rw [if_pos q]
        simp only [List.map_cons, List.map_nil, List.sum_cons, List.sum_nil, Nat.add_zero]
        rw [if_pos (by omega)]
      · rw [if_neg q]
        simp only [List.map_cons, List.map_nil, List.sum_cons, List.sum_nil, Nat.add_zero]
        rw [if_neg (by omega), Nat.add_zero]
  have := key xs.length (Nat.le_refl _)
  rwa [List.take_length] at this
theorem IsOk.sum_le {xs : List Int} (h : IsOk xs) : (passes (lf xs) xs.length 11).1 ≤ 2048 := by
  obtain ⟨_, hr, h⟩ := h
  have e := passes_sum (lf xs) xs.length 11 (Nat.le_refl _)
  rw [← isSt_T xs hr] at e
  simp only [Nat.sub_self, Nat.pow_zero, Nat.mul_one] at e
  rw [e]
  rcases h with ⟨h1, h2⟩ | h
  · obtain ⟨h3, _⟩ := (isSt_one hr).2 h1
    rw [h3, h2]
    decide
  · omega
theorem codes_is {xs : List Int} {i : Nat} (hr : InR xs) (hi : i < xs.length) : (xs[i] = 0 ∧ codes xs i = -1) ∨ ∃ n : Nat, n < 11 ∧ xs[i] = (n : Int) + 1 ∧ codes xs i = (stc (lf xs) xs.length n i : Nat) := by
  have hx := hr _ (List.getElem_mem hi)
  have e := passes_out (lf xs) xs.length hi 11
  by_cases h : xs[i] = 0
  · left
    refine ⟨h, e.2 (fun n _ => ?_)⟩
    rw [lf_at hi]; omega
  · right
    refine ⟨xs[i].toNat - 1, by omega, by omega, ?_⟩
    exact e.1 (xs[i].toNat - 1) (by omega) (by rw [lf_at hi]; omega)
theorem IsOk.lt {xs : List Int} (h : IsOk xs) {i n : Nat} (hi : i < xs.length) (hn : n < 11) (hx : xs[i] = (n : Int) + 1) : stc (lf xs) xs.length n i < 2 ^ (n + 1) := by
  have h1 : Qs (lf xs) xs.length n i + 2 ^ (10 - n) ≤ 2048 := by
    have e := Qs_succ (lf xs) xs.length n i
    rw [lf_at hi, if_pos hx] at e
    rw [← e]
    have h10 : Qs (lf xs) xs.length 10 xs.length = (passes (lf xs) xs.length 11).1 := by unfold Qs; rw [stc_end]; simp
    have h2 : Qs (lf xs) xs.length n (i + 1) ≤ Qs (lf xs) xs.length 10 xs.length := by
      by_cases q : n = 10
      · subst q; exact Qs_mono_j _ _ _ hi
      · exact Qs_mono _ _ (by omega) (Nat.le_refl _) hi
    have := h.sum_le
    omega
  unfold Qs at h1
  have h3 : 2048 = 2 ^ (n + 1) * 2 ^ (10 - n) := by rw [← Nat.pow_add, show n + 1 + (10 - n) = 11 by omega]
  rw [h3] at h1
  have h4 : (stc (lf xs) xs.length n i + 1) * 2 ^ (10 - n) ≤ 2 ^ (n + 1) * 2 ^ (10 - n) := by rw [Nat.add_mul, Nat.one_mul]; exact h1
  have := Nat.le_of_mul_le_mul_right h4 (Nat.pow_pos (by omega))
  omega
theorem free {xs : List Int} {i k n m : Nat} (hi : i < xs.length) (hk : k < xs.length) (hne : i ≠ k) (hn : n < 11) (hm : m < 11) (hxi : xs[i] = (n : Int) + 1) (hxk : xs[k] = (m : Int) + 1) (hle : n ≤ m) :
    stc (lf xs) xs.length m k / 2 ^ (m - n) ≠ stc (lf xs) xs.length n i := by
  intro e
  have hp : 0 < 2 ^ (m - n) := Nat.pow_pos (by omega)
  have h1 : stc (lf xs) xs.length n i * 2 ^ (m - n) ≤ stc (lf xs) xs.length m k := by rw [← e]; exact Nat.div_mul_le_self _ _
  have h2 : stc (lf xs) xs.length m k < (stc (lf xs) xs.length n i + 1) * 2 ^ (m - n) := by rw [← e, Nat.mul_comm]; exact Nat.lt_mul_div_succ _ hp
  have hpow : 2 ^ (10 - n) = 2 ^ (m - n) * 2 ^ (10 - m) := by rw [← Nat.pow_add, show m - n + (10 - m) = 10 - n by omega]
  have hq : 0 < 2 ^ (10 - m) := Nat.pow_pos (by omega)
  have q1 : Qs (lf xs) xs.length n i ≤ Qs (lf xs) xs.length m k := by
    unfold Qs
    rw [hpow, ← Nat.mul_assoc]
    exact Nat.mul_le_mul_right _ h1
  have q2 : Qs (lf xs) xs.length m k < Qs (lf xs) xs.length n i + 2 ^ (10 - n) := by
    unfold Qs
    rw [hpow, ← Nat.mul_assoc, ← Nat.add_mul, ← Nat.succ_mul] <;> try exact (Nat.mul_lt_mul_right hq).2 h2
  have ei := Qs_succ (lf xs) xs.length n i
  rw [lf_at hi, if_pos hxi] at ei
  have ek := Qs_succ (lf xs) xs.length m k
  rw [lf_at hk, if_pos hxk] at ek
  by_cases q : n = m
  · subst q
    rcases Nat.lt_or_gt_of_ne hne with h | h
    · have := Qs_mono_j (lf xs) xs.length n (show i + 1 ≤ k from h)
      omega
    · have := Qs_mono_j (lf xs) xs.length n (show k + 1 ≤ i from h)
      omega
  · have := Qs_mono (lf xs) xs.length (k := k) (show n < m by omega) (by omega) (show i + 1 ≤ xs.length from hi)
    omega
end Go.Hf
namespace Go.Proofs.YtmioiaeiflbmhaaGreat.He
open Go Go.RowKit Go.ChangeMaps Go.MapKept Go.Mg Go.Hf Go.Sort Go.Proofs.YtmioiaeiflbmhaaGreat.Hu Go.Proofs.YtmioiaeiflbmhaaGreat.Bw
def gd (xs : List Int) (s : Nat) : Prop := s < xs.length ∧ lf xs s ≠ 0
def cb (xs : List Int) (s : Nat) : List Bool := bitsOf (codes xs s).toNat (lf xs s).toNat
def sym (l : List UInt8) (i : Nat) : Nat := (l[i]?.getD 0).toNat
def bt (xs : List Int) (l : List UInt8) : Nat → List Bool
  | 0 => []
  | j + 1 => bt xs l j ++ cb xs (sym l (l.length - 1 - j))
def EncOk (xs : List Int) (l : List UInt8) : Prop := IsOk xs ∧ ∀ j, j < l.length → gd xs (sym l j)
def EncGood (w : World) (B : List Bool) (e : Ending) (w' : World) : Prop :=
  ∃ g, e = .returned (.tuple #[.slice (some ⟨g, 0, none⟩) (B.length / 8 + 1) (B.length / 8 + 1), .bool true]) ∧ w.heap.size ≤ g ∧ UAt w' g (B.length / 8 + 1) (fin (fun i => B[i]?.getD false) B.length) ∧ Kp (fun _ => False) w w'
def EncPost (w : World) (xs : List Int) (l : List UInt8) (e : Ending) (w' : World) : Prop :=
  (EncOk xs l ∧ EncGood w (bt xs l l.length) e w') ∨ (¬ EncOk xs l ∧ e = .returned (.tuple #[.slice none 0 0, .bool false]) ∧ Kp (fun _ => False) w w')
theorem lf_le {xs : List Int} (h : InR xs) (s : Nat) : 0 ≤ lf xs s ∧ lf xs s ≤ 11 := by
  by_cases hs : s < xs.length
  · rw [lf_at hs]; exact h _ (List.getElem_mem hs)
  · have : lf xs s = 0 := by simp [lf, List.getElem?_eq_none (Nat.le_of_not_lt hs)]
    omega
theorem bt_len {xs : List Int} (h : InR xs) (l : List UInt8) : ∀ j, (bt xs l j).length ≤ 11 * j := by
  intro j
  induction j with
  | zero => simp [bt]
  | succ j ih =>
    simp only [bt, List.length_append, cb, bitsOf_len]
    have := lf_le h (sym l (l.length - 1 - j))
    omega
theorem code_nat {xs : List Int} (h : IsOk xs) {s : Nat} (hg : gd xs s) : ∃ q n : Nat, codes xs s = (q : Nat) ∧ lf xs s = (n : Nat) ∧ 0 < n ∧ n ≤ 11 ∧ q < 2 ^ n := by
  obtain ⟨hs, h0⟩ := hg
  rw [lf_at hs] at h0 ⊢
  rcases codes_is h.2.1 hs with ⟨e, _⟩ | ⟨m, hm, e1, e2⟩
  · exact (h0 e).elim
  · exact ⟨_, m + 1, e2, by omega, by omega, by omega, h.lt hs hm e1⟩
theorem wr_new (ty : TypeId) (w : World) : WrAt ty (· = w.heap.size) (w.alloc (.cells #[.slice none 0 0] ty)) w.heap.size none 0 [] :=
  ⟨alloc_at w _, OwnR.nil _ _ _, rfl, fun k hk => by cases hk⟩
theorem bytes_at {w : World} {a : Option Addr} {c : Nat} {l : List UInt8} (h : SlR w 1 (.slice a l.length c) l.length (l.map u8c)) (h0 : 0 < l.length) :
    ∃ g o, a = some ⟨g, o, none⟩ ∧ g < w.heap.size ∧ l.length ≤ c ∧ ∀ i, i < l.length → w.cell? ⟨g, o + i, none⟩ = some (.int .u8 (sym l i : Nat)) := by
  obtain ⟨_, a', c', e, h1, _, _, hc⟩ := h
  simp only [Value.slice.injEq, true_and] at e
  obtain ⟨rfl, rfl⟩ := e
  obtain ⟨g, o, rfl, hg, hcc⟩ := hc h0
  refine ⟨g, o, rfl, hg, h1, fun i hi => hcc i _ ?_⟩
  simp [sym, hi, u8c]
theorem sym_lt (l : List UInt8) (i : Nat) : sym l i < 256 := by
  unfold sym
  exact (l[i]?.getD 0).toNat_lt
end Go.Proofs.YtmioiaeiflbmhaaGreat.He
