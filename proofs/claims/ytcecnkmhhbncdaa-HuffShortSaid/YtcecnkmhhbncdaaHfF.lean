/- The document's huff: lengths. -/
import Derived.Test.YtcecnkmhhbncdaaHfE
import Derived.IntWalk
namespace Go.Proofs.Ytcecnkmhhbncdaa.Hu
open Go Go.RowKit Go.ChangeMaps Go.MapKept Go.Mg Go.Hf Go.Sort

def LensPost (w : World) (cs : List Nat) (e : Ending) (w' : World) : Prop :=
  ∃ (L : Nat → Nat) (a : Option Addr) (c : Nat), e = .returned (.slice a cs.length c) ∧ IsLens cs L ∧ Lo w.heap.size w' (.slice a cs.length c) cs.length L ∧ Kp (fun _ => False) w w'
/-- What the numbers of a row come to. -/
def rowSum (w : World) (v : Value) (n : Nat) : Nat := ((List.range n).map fun i => match v with
  | .slice (some ⟨g, off, _⟩) _ _ => (match w.cell? ⟨g, off + i, none⟩ with | some (.int _ x) => x.toNat | _ => 0)
  | _ => 0).sum
theorem rowSum_eq {w : World} {a : Option Addr} {c : Nat} {cs : List Nat} (h : SlR w 1 (.slice a cs.length c) cs.length (cs.map nv)) : rowSum w (.slice a cs.length c) cs.length = cs.sum := by
  by_cases h0 : 0 < cs.length
  · obtain ⟨g, off, rfl, _, _, hc⟩ := at_nv h h0
    unfold rowSum
    congr 1
    apply List.ext_getElem
    · simp
    · intro i h1 h2
      simp only [List.getElem_map, List.getElem_range]
      rw [hc i h2]
      simp
  · have : cs = [] := List.eq_nil_of_length_eq_zero (by omega)
    subst this
    rfl
theorem half_set {cs : List Nat} {j : Nat} (hj : j < cs.length) : (((cs.take j).map half ++ cs.drop j).map nv).set j (nv (half cs[j])) = ((cs.take (j + 1)).map half ++ cs.drop (j + 1)).map nv := by
  rw [← List.map_set]
  congr 1
  have e : ((cs.take j).map half).length = j := by simp; omega
  rw [List.set_append_right (h := by omega), e, Nat.sub_self, List.drop_eq_getElem_cons hj, List.set_cons_zero, List.take_succ_eq_append_getElem hj, List.map_append, List.append_assoc]
  rfl
theorem half_at {cs : List Nat} {j : Nat} (hj : j < cs.length) : (((cs.take j).map half ++ cs.drop j).map nv)[j]? = some (nv cs[j]) := by
  rw [List.getElem?_map, List.getElem?_append_right (by simp; omega)]
  simp [Nat.min_eq_left (Nat.le_of_lt hj), hj]

set_option maxRecDepth 100000 in
set_option maxHeartbeats 1000000 in
theorem lens_d (w : World) (cs : List Nat) (a : Option Addr) (c : Nat) (h : SlR w 1 (.slice a cs.length c) cs.length (cs.map nv)) (hlen : cs.length ≤ 256) (hS : cs.sum ≤ 1125899906842624) :
    Calls Try.prog 18 #[.slice a cs.length c] w (LensPost w cs) := by
  obtain ⟨j0, hj0, hy0, hy1, hy2⟩ := info_parts infoI
  have k0 : Kp (fun _ => False) w (w.alloc (.cells #[] 3)) := (Kp.refl _ _).alloc _
  have HN := Lib.hid (own_none w 3 1)
  have HC := Lib.hid (h.kp k0 (fun _ _ q => q))
  have O1 := Lib.hid (nv_one cs)
  have HS := Lib.hid hS
  have K0 := Lib.hid k0
  clear h hS k0
  go_enter Try.func18, Try.ntmps18
  go_wp2_with (at_builtin; refine wpList_app _ rfl _ _ 22 rfl 3 j0 _ 1 8 Try.underlying22 hj0 hy0 hy1 hy2 rfl (by decide) (by decide) (.slice (some ⟨w.heap.size, 0, none⟩) 0 0) 0 [] rfl HN.out (.slice a cs.length c) cs.length _ rfl HC.out O1.out (by omega) ?_; intro v' w1 g1 g2 g3 g4 g5; rw [Nat.zero_add, List.nil_append] at g1; obtain ⟨b1, d1, rfl⟩ := g1.form; have G1 := Lib.hid g1; have G2 := Lib.hid (K0.out.up g2 (fun i e => (by have := own_b e; omega))); have G3 := Lib.hid g3; clear g1 g2 g3 g4 g5)
  have hnew : ∀ b, (Value.slice b1 cs.length d1).ownBlock = some b → w.heap.size ≤ b := by
    intro b hb
    rcases G3.out with q | q
    · have := own_b (q.symm.trans hb); omega
    · have := q.symm.trans hb; simp at this; omega
  have HNW := Lib.hid hnew
  clear hnew
  go_loopw [] (fun wr => ∃ cs' : List Nat, cs'.length = cs.length ∧ (∀ L, IsLens cs' L → IsLens cs L) ∧ OwnR wr 3 1 (.slice b1 cs.length d1) cs.length (cs'.map nv) ∧ cs'.sum ≤ cs.sum ∧ Kp (fun _ => False) w wr) (fun wr => rowSum wr (.slice b1 cs.length d1) cs.length)
  case atStart => exact ⟨cs, rfl, fun _ h => h, G1.out, Nat.le_refl _, G2.out⟩
  case round =>
    obtain ⟨cs', hl, hi, ho, hsum, hk⟩ := hrel
    have hsl := ho.sl
    rw [← hl] at hsl
    have HI := Lib.hid hi
    have HO := Lib.hid ho
    have HSM := Lib.hid hsum
    have HK := Lib.hid hk
    have HM := Lib.hid (rowSum_eq hsl)
    have hS' := Nat.le_trans hsum HS.out
    have HS' := Lib.hid hS'
    have HLL := Lib.hid hl
    clear hi ho hsum hk
    go_wp2_with fail
    rw [← hl]
    refine (once_c wr cs' b1 d1 hsl (by omega) hS').mono ?_
    rintro e w2 ⟨L, m, aL, cL, rfl, hJ, hL, hk2, hm1, hm2⟩
    have HJ := Lib.hid hJ
    have HL := Lib.hid hL
    have HK2 := Lib.hid hk2
    have HM1 := Lib.hid hm1
    have HM2 := Lib.hid hm2
    clear hsl hJ hL hk2 hm1 hm2 hS'
    by_cases hm : m ≤ 11
    · go_wp2_with fail
      go_ret
      have h1 : IsLens cs' L := .done HJ.out (fun i hi => Nat.le_trans (HM1.out i hi) hm)
      have h2 := HL.out
      refine ⟨L, aL, cL, rfl, HI.out L h1, ?_, HK.out.trans HK2.out⟩
      rw [← HLL.out]
      exact ⟨h2.row, fun b hb => Nat.le_trans HK.out.size (h2.new b hb)⟩
    · have hfall := HJ.out.falls (by omega) (HM2.out (by omega))
      have HF := Lib.hid hfall
      have HH := Lib.hid (fun L' (k : IsLens (cs'.map half) L') => IsLens.half HJ.out (HM2.out (by omega)) k)
      have ho2 : OwnR w2 3 1 (.slice b1 cs.length d1) cs.length (cs'.map nv) := HO.out.kp HK2.out (fun _ _ q => q)
      have HO2 := Lib.hid ho2
      clear hfall ho2
      go_wp2_with fail
      go_loopw [6] (fun i wr => ∃ j : Nat, j ≤ cs'.length ∧ i = .int .i64 j ∧ OwnR wr 3 1 (.slice b1 cs.length d1) cs.length (((cs'.take j).map half ++ cs'.drop j).map nv) ∧ Kp (fun _ => False) w wr) (fun i _ => cs'.length - (intOf i).toNat)
      case atStart => exact ⟨0, Nat.zero_le _, rfl, by simpa using HO2.out, HK.out.trans HK2.out⟩
      case round =>
        obtain ⟨j, hj, rfl, ho, hk⟩ := hrel
        have HK3 := Lib.hid hk
        have HO3 := Lib.hid ho
        by_cases hlt : j < cs'.length
        · obtain ⟨g, eb, hcap, hat⟩ := ho.at1 (by omega)
          obtain ⟨q1, q2, q3⟩ := hat j (by omega)
          have d0 := q1 _ (half_at hlt)
          obtain ⟨q4, q5⟩ := q3 (nv (half cs'[j]))
          rw [half_set hlt] at q4
          have hle : cs'[j] ≤ 1125899906842624 := Nat.le_trans (by have := sum_mem (f := id) (List.getElem_mem hlt); simpa using this) HS'.out
          have HNB := HNW.out g (by rw [eb]; rfl)
          obtain ⟨x, hx⟩ : ∃ x, x = cs'[j] := ⟨_, rfl⟩
          rw [← hx] at d0 q4 q5 hle
          have Q4 := Lib.hid q4
          have Q5 := Lib.hid q5
          have hd0 : wr.cell? ⟨g, j, none⟩ = some (.int .i64 (x : Nat)) := d0
          have hdiv : (((x : Int) + 1).tdiv 2) = ((half x : Nat) : Int) := by rw [Int.tdiv_eq_ediv_of_nonneg (by omega)]; unfold half; omega
          clear q1 q3 q4 q5 hat hx ho hk d0
          subst eb
          have hjc : j < cs.length := by omega
          go_wp2_with fail
          have hwv : (Value.int .i64 (wrap64 ((half x : Nat) : Int))) = nv (half x) := by
            unfold nv
            rw [IntWalk.wrap64_in _ (by unfold half; omega)]
          rw [hwv]
          refine ⟨⟨j + 1, by omega, by go_num, Q4.out, HK3.out.trans2 Q5.out (fun i hi e => by omega)⟩, by simp [intOf]; omega⟩
        · obtain rfl : j = cs'.length := by omega
          go_wp2_with fail
          have ho4 := HO3.out
          rw [List.take_length, List.drop_length, List.append_nil] at ho4
          refine ⟨⟨cs'.map half, by simpa using HLL.out, fun L' k => HI.out L' (HH.out L' k), ho4, Nat.le_trans (half_sum_le cs') HSM.out, HK3.out⟩, ?_⟩
          have h5 := ho4.sl
          have e5 : (cs'.map half).length = cs.length := by simpa using HLL.out
          rw [← e5] at h5
          have h6 := rowSum_eq h5
          rw [e5] at h6
          have h7 := HM.out
          rw [HLL.out] at h7
          rw [h6, h7]
          exact HF.out
end Go.Proofs.Ytcecnkmhhbncdaa.Hu
