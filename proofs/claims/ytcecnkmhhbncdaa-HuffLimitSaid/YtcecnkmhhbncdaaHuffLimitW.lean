/- The walk of HuffLimit. -/
import Derived.Test.YtcecnkmhhbncdaaHfV
import Derived.Test.YtcecnkmhhbncdaaHuffD
import Derived.Test.YtcecnkmhhbncdaaOpen
namespace Go.Proofs.Ytcecnkmhhbncdaa.huffLimit
open Go Go.RowKit Go.ChangeMaps Go.MapKept Go.Mg Go.Hf Go.Proofs.Ytcecnkmhhbncdaa.Hu Go.Proofs.Ytcecnkmhhbncdaa.Op

def f (up : Bool) (n i : Nat) : Nat := if up then 2 ^ i else 2 ^ (n - 1 - i)
def cts (up : Bool) (n j : Nat) : List Nat := (List.range j).map (f up n)
theorem cts_succ (up : Bool) (n j : Nat) : cts up n (j + 1) = cts up n j ++ [f up n j] := by simp [cts, List.range_succ]
theorem cts_len (up : Bool) (n j : Nat) : (cts up n j).length = j := by simp [cts]
theorem f_le {up : Bool} {n i : Nat} (hn : n ≤ 30) (hi : i < n) : f up n i ≤ 536870912 ∧ 0 < f up n i := by
  have e : 2 ^ 29 = 536870912 := rfl
  unfold f
  cases up
  · have : 2 ^ (n - 1 - i) ≤ 2 ^ 29 := Nat.pow_le_pow_right (by omega) (by omega)
    have h2 : 0 < 2 ^ (n - 1 - i) := Nat.pow_pos (by omega)
    simp only [Bool.false_eq_true, if_false]
    omega
  · have : 2 ^ i ≤ 2 ^ 29 := Nat.pow_le_pow_right (by omega) (by omega)
    have h2 : 0 < 2 ^ i := Nat.pow_pos (by omega)
    simp only [if_true]
    omega
theorem cts_sum (up : Bool) {n : Nat} (hn : n ≤ 30) : ∀ j, j ≤ n → (cts up n j).sum ≤ 536870912 * j := by
  intro j
  induction j with
  | zero => intro _; simp [cts]
  | succ j ih =>
    intro hj
    rw [cts_succ, List.sum_append]
    have := ih (by omega)
    have h2 := (f_le (up := up) hn (show j < n by omega)).1
    simp only [List.sum_cons, List.sum_nil]
    omega
theorem lens_row (n : Nat) (L : Nat → Nat) : ((List.range n).map fun i => nv (L i)) = (lensOf n L).map (Value.int .i64) := by
  rw [lensOf, List.map_map]; rfl
set_option maxRecDepth 100000 in
set_option maxHeartbeats 2000000 in
theorem walk_n (n : Nat) (h2 : 2 ≤ n) (h30 : n ≤ 30) (up : Bool) (w : World) : Calls Try.prog 7 #[.int .i64 (n : Nat), .bool up] w (LawPost w) := by
  obtain ⟨j0, hj0, hy0, hy1, hy2⟩ := info_parts infoI
  go_enter Try.func7, Try.ntmps7
  go_wp2_with fail
  go_loopw [5, 6] (fun v i wr => ∃ (j : Nat) (b : Option Addr) (d : Nat), j ≤ n ∧ i = .int .i64 j ∧ v = .slice b j d ∧ OwnR wr 3 1 (.slice b j d) j ((cts up n j).map nv) ∧ (∀ k, (Value.slice b j d).ownBlock = some k → w.heap.size ≤ k) ∧ Kp (fun _ => False) w wr) (fun _ i _ => n - (intOf i).toNat)
  case atStart => exact ⟨0, none, 0, Nat.zero_le _, rfl, rfl, OwnR.nil _ _ _, (fun k h => by cases h), Kp.refl _ _⟩
  case round =>
    obtain ⟨j, b, d, hj, rfl, rfl, ho, hnw, hk⟩ := hrel
    by_cases hlt : j < n
    · have HO := Lib.hid (ho.kp (kp_new (o := .cells #[.int .i64 (f up n j : Nat)] 3)) (fun _ _ q => q))
      have HNW := Lib.hid hnw
      have HK := Lib.hid hk
      have hT : SlR (wr.alloc (.cells #[.int .i64 (f up n j : Nat)] 3)) 1 (.slice (some ⟨wr.heap.size, 0, none⟩) 1 1) 1 ([f up n j].map nv) := lit_sl (xs := [((f up n j : Nat) : Int)]) (alloc_at wr _) (by simp)
      have HT := Lib.hid hT
      have O1 := Lib.hid (nv_one [f up n j])
      obtain ⟨hf1, hf2⟩ := f_le (up := up) h30 hlt
      have hcs := cts_succ up n j
      have HCS := Lib.hid hcs
      clear ho hnw hk hT hcs
      cases up with
      | true =>
        have hb : (2 : Int) ^ j = ((f true n j : Nat) : Int) := by simp [f]
        generalize f true n j = p at *
        go_wp2_with (at_builtin; refine wpList_app _ rfl _ _ 22 rfl 3 j0 _ 1 8 Try.underlying22 hj0 hy0 hy1 hy2 rfl (by decide) (by decide) (.slice b j d) j _ rfl HO.out (.slice (some ⟨wr.heap.size, 0, none⟩) 1 1) 1 _ rfl HT.out O1.out (by omega) ?_; intro v' w2 g1 g2 g3 g4 g5; obtain ⟨b1, e1, rfl⟩ := g1.form; have G1 := Lib.hid g1; have G2 := Lib.hid g2; have G3 := Lib.hid g3; clear g1 g2 g3 g4 g5)
        refine ⟨⟨j + 1, b1, e1, by omega, by go_num, rfl, by rw [HCS.out, List.map_append]; exact G1.out, fun k hb => ?_, (HK.out.trans kp_new).up G2.out (fun i q => HNW.out i q)⟩, by simp [intOf]; omega⟩
        rcases G3.out with q | q
        · exact HNW.out k (by rw [← q]; exact hb)
        · rw [hb] at q; simp at q; have := HK.out.size; omega
      | false =>
        have hb : (2 : Int) ^ (n - 1 - j) = ((f false n j : Nat) : Int) := by simp [f]
        generalize f false n j = p at *
        go_wp2_with (at_builtin; refine wpList_app _ rfl _ _ 22 rfl 3 j0 _ 1 8 Try.underlying22 hj0 hy0 hy1 hy2 rfl (by decide) (by decide) (.slice b j d) j _ rfl HO.out (.slice (some ⟨wr.heap.size, 0, none⟩) 1 1) 1 _ rfl HT.out O1.out (by omega) ?_; intro v' w2 g1 g2 g3 g4 g5; obtain ⟨b1, e1, rfl⟩ := g1.form; have G1 := Lib.hid g1; have G2 := Lib.hid g2; have G3 := Lib.hid g3; clear g1 g2 g3 g4 g5)
        refine ⟨⟨j + 1, b1, e1, by omega, by go_num, rfl, by rw [HCS.out, List.map_append]; exact G1.out, fun k hb => ?_, (HK.out.trans kp_new).up G2.out (fun i q => HNW.out i q)⟩, by simp [intOf]; omega⟩
        rcases G3.out with q | q
        · exact HNW.out k (by rw [← q]; exact hb)
        · rw [hb] at q; simp at q; have := HK.out.size; omega
    · obtain rfl : j = n := by omega
      have hs := cts_sum up h30 j (Nat.le_refl _)
      have hlen := cts_len up j j
      have hpos : ∀ i (h : i < (cts up j j).length), 0 < (cts up j j)[i] := fun i h => by
        have hi : i < j := by rw [hlen] at h; exact h
        simp only [cts, List.getElem_map, List.getElem_range]
        exact (f_le h30 hi).2
      have hex : ∃ c, c ∈ cts up j j ∧ 0 < c := ⟨_, List.getElem_mem (by rw [hlen]; omega), hpos 0 (by rw [hlen]; omega)⟩
      generalize cts up j j = cs at *
      have hsl := ho.sl
      rw [← hlen] at hsl
      have hS : cs.sum ≤ 1125899906842624 := by omega
      have HS := Lib.hid hS
      have HSL := Lib.hid hsl
      have HK := Lib.hid hk
      have HL := Lib.hid hlen
      have HP := Lib.hid hpos
      have HEX := Lib.hid hex
      clear ho hnw hk hsl hS hs hlen hpos hex
      go_wp2_with fail
      have LP := Lib.hid (lens_p wr cs b d HSL.out (by rw [HL.out]; omega) HS.out)
      have LP2 : Hid (Calls Try.prog 17 #[.slice b j d] wr (LensPost wr cs)) := Lib.hid (by have := LP.out; rw [HL.out] at this; exact this)
      refine LP2.out.mono ?_
      rintro e w1 ⟨L, a1, c1, rfl, hL, hLo, hk1⟩
      have hle := hL.le
      have hp := hL.pos
      have hok := (hL.isOk (by rw [HL.out]; omega)).2 HEX.out
      rw [HL.out] at hLo hok ⊢
      have hb : ∀ i, i < j → 1 ≤ L i ∧ L i ≤ 11 := fun i hi => by
        have h1 : i < cs.length := by rw [HL.out]; exact hi
        have := (hp i).2 ⟨h1, HP.out i h1⟩
        have := hle i h1
        omega
      have HB := Lib.hid hb
      have HLL := Lib.hid hL
      have HLO := Lib.hid hLo
      have HK1 := Lib.hid hk1
      have HOK := Lib.hid hok
      clear LP LP2 hle hp hok hL hk1 hb
      obtain ⟨g, eg, hcap, hat⟩ := hLo.row.at1 (by omega)
      subst eg
      have hcell : ∀ i, i < j → w1.cell? ⟨g, i, none⟩ = some (.int .i64 (L i : Nat)) := fun i hi => (hat i hi).1 _ (by simp [hi, nv])
      have HC := Lib.hid hcell
      clear hat hcell hLo
      go_wp2_with fail
      go_loopw [9] (fun i wx => ∃ q : Nat, q ≤ j ∧ i = .int .i64 q ∧ wx = w1) (fun i _ => j - (intOf i).toNat)
      case atStart => exact ⟨0, Nat.zero_le _, rfl, rfl⟩
      case round =>
        obtain ⟨q, hq, rfl, rfl⟩ := hrel
        by_cases hqj : q < j
        · have d0 := HC.out q hqj
          obtain ⟨hb1, hb2⟩ := HB.out q hqj
          generalize L q = x at d0 hb1 hb2
          have n1 : ¬ (x : Int) < 1 := by omega
          have n2 : ¬ (11 : Int) < (x : Int) := by omega
          go_wp2_with fail
          exact ⟨⟨q + 1, by omega, by go_num, by first | trivial | rfl⟩, by simp [intOf]; omega⟩
        · obtain rfl : q = j := by omega
          go_wp2_with fail
          have hnm : Nm wr (some ⟨g, 0, none⟩) c1 (lensOf q L) := by
            have := HLO.out.row.sl
            rw [lens_row] at this
            unfold Nm
            rw [show (lensOf q L).length = q by simp [lensOf]]
            exact this
          have IP := Lib.hid (is_p wr (lensOf q L) (some ⟨g, 0, none⟩) c1 hnm (by simp [lensOf]; omega))
          have IP2 : Hid (Calls Try.prog 21 #[.slice (some ⟨g, 0, none⟩) q c1] wr (IsPost wr (lensOf q L))) := Lib.hid (by have := IP.out; rw [show (lensOf q L).length = q by simp [lensOf]] at this; exact this)
          clear hnm IP
          refine IP2.out.mono ?_
          rintro e w2 ⟨z, hz, rfl, hw2⟩
          obtain rfl : z = true := hz.2 HOK.out
          obtain rfl := hw2
          clear hz IP2
          go_wp2_with fail
          have LD := Lib.hid (lens_d w2 cs b d (HSL.out.kp HK1.out (fun _ _ q => q)) (by rw [HL.out]; omega) HS.out)
          have LD2 : Hid (Calls Try.prog 18 #[.slice b q d] w2 (LensPost w2 cs)) := Lib.hid (by have := LD.out; rw [HL.out] at this; exact this)
          refine LD2.out.mono ?_
          rintro e w3 ⟨L2, a2, c2, rfl, i2, o2, k2⟩
          have HE := Lib.hid (IsLens.det HLL.out i2)
          rw [HL.out] at o2 ⊢
          have Q2 := Lib.hid o2
          have K2 := Lib.hid k2
          clear i2 o2 k2 LD LD2
          go_wp2_with fail
          refine (same_c w3 q (fun k => ((L k : Nat) : Int)) (fun k => ((L2 k : Nat) : Int)) (some ⟨g, 0, none⟩) a2 c1 c2 (HLO.out.row.sl.kp K2.out (fun _ _ q => q)) Q2.out.row.sl (by omega)).mono ?_
          rintro e w4 ⟨z, hz, rfl, m, hw4⟩
          obtain rfl : z = true := hz.2 (fun k _ => by rw [HE.out])
          have K4 : Hid (Kp (fun _ => False) w w4) := Lib.hid (by rw [hw4]; exact ((HK.out.trans HK1.out).trans K2.out).drewN m)
          clear hz hw4
          go_wp2_with fail
          refine (known_c w4).mono ?_
          rintro e w5 ⟨rfl, k5⟩
          have K5 := Lib.hid (K4.out.trans k5)
          clear k5
          go_wp2_with fail
          go_ret
          exact ⟨rfl, K5.out.below⟩
theorem walk (a0 : Int) (w0 : (Lit.int .i64 a0).wf = true) (a1 : Bool) (w : World) : Calls Try.prog 7 #[.int .i64 a0, .bool a1] w (LawPost w) := by
  by_cases h : 2 ≤ a0 ∧ a0 ≤ 30
  · obtain ⟨n, rfl⟩ : ∃ n : Nat, a0 = n := ⟨a0.toNat, by omega⟩
    exact walk_n n (by omega) (by omega) a1 w
  · clear w0
    by_cases h2 : a0 < 2
    · go_enter Try.func7, Try.ntmps7
      go_wp2_with fail
      go_ret
      exact ⟨rfl, Below.refl _ _⟩
    · have h3 : 30 < a0 := by omega
      go_enter Try.func7, Try.ntmps7
      go_wp2_with fail
      go_ret
      exact ⟨rfl, Below.refl _ _⟩
end Go.Proofs.Ytcecnkmhhbncdaa.huffLimit
