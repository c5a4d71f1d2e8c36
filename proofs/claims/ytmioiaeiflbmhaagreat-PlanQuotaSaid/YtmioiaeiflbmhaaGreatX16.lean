/- huff: Lengths. huff: slices that read as numbers. huff: Is; the law's may. huff: slices.Repeat; Codes. -/
import Derived.Laws.CopyRow
import Derived.Test.YtmioiaeiflbmhaaGreatX15
import Derived.Test.YtmioiaeiflbmhaaGreatX04
import Derived.Test.YtmioiaeiflbmhaaGreatX12
namespace Go.Proofs.YtmioiaeiflbmhaaGreat.Hu
open Go Go.RowKit Go.ChangeMaps Go.MapKept Go.Mg Go.Hf Go.Sort Go.Proofs.YtmioiaeiflbmhaaGreat.It
theorem SlR.none0 {w : World} {size n c : Nat} {xs : List Value} (h : SlR w size (.slice none n c) n xs) : n = 0 ∧ c = 0 := by
  obtain ⟨_, a0, c0, e0, h1, _, h2, _⟩ := h
  simp only [Value.slice.injEq, true_and] at e0
  obtain ⟨rfl, rfl⟩ := e0
  have := h2 rfl
  omega
def ClonePost (w : World) (n : Nat) (xs : List Value) (e : Ending) (w' : World) : Prop :=
  ∃ a c, e = .returned (.slice a n c) ∧ OwnR w' 3 1 (.slice a n c) n xs ∧ (∀ b, (Value.slice a n c).ownBlock = some b → w.heap.size ≤ b) ∧ Kp (fun _ => False) w w'
set_option maxRecDepth 100000 in
set_option maxHeartbeats 1000000 in
theorem clone_c (w : World) (cs : List Nat) (a : Option Addr) (c : Nat) (h : SlR w 1 (.slice a cs.length c) cs.length (cs.map nv)) (hlen : cs.length ≤ 1000) :
    Calls Tryz.prog 211 #[.slice a cs.length c] w (ClonePost w cs.length (cs.map nv)) := by
  have hnil := @Lib.run_eql_slice_nil Tryz.prog
  cases a with
  | none =>
    obtain ⟨h1, rfl⟩ := SlR.none0 h
    have : cs = [] := List.eq_nil_of_length_eq_zero h1
    subst this
    clear h
    go_enter Tryz.func211, Tryz.ntmps211
    go_wp2_with fail
    go_ret
    exact ⟨none, 0, rfl, OwnR.nil _ _ _, (fun b hb => by cases hb), Kp.refl _ _⟩
  | some p =>
    obtain ⟨j0, hj0, hy0, hy1, hy2⟩ := info_parts infoI
    have k0 : Kp (fun _ => False) w (w.alloc (.cells #[] 3)) := (Kp.refl _ _).alloc _
    have HN := Lib.hid (own_none w 3 1)
    have HC := Lib.hid (h.kp k0 (fun _ _ q => q))
    have O1 := Lib.hid (nv_one cs)
    have K0 := Lib.hid k0
    clear h k0
    go_enter Tryz.func211, Tryz.ntmps211
    go_wp2_with (at_builtin; refine wpList_app _ rfl _ _ 179 rfl 3 j0 _ 1 8 Tryz.underlying179 hj0 hy0 hy1 hy2 rfl (by decide) (by decide) (.slice (some ⟨w.heap.size, 0, none⟩) 0 0) 0 [] rfl HN.out (.slice (some p) cs.length c) cs.length _ rfl HC.out O1.out (by omega) ?_; intro v' w1 g1 g2 g3 g4 g5; rw [Nat.zero_add, List.nil_append] at g1; obtain ⟨b1, d1, rfl⟩ := g1.form; have G1 := Lib.hid g1; have G2 := Lib.hid (K0.out.up g2 (fun i e => (by have := own_b e; omega))); have G3 := Lib.hid g3; clear g1 g2 g3 g4 g5)
    go_ret
    refine ⟨b1, d1, rfl, G1.out, fun b hb => ?_, G2.out⟩
    rcases G3.out with q | q
    · have := own_b (q.symm.trans hb); omega
    · have := q.symm.trans hb; simp at this; omega
set_option maxRecDepth 100000 in
set_option maxHeartbeats 1000000 in
theorem max_c (w : World) (xs : List Nat) (a : Option Addr) (c : Nat) (h : SlR w 1 (.slice a xs.length c) xs.length (xs.map nv)) (h0 : 0 < xs.length) (hlen : xs.length ≤ 1000) :
    Calls Tryz.prog 204 #[.slice a xs.length c] w fun e w' => ∃ m, m ∈ xs ∧ (∀ x, x ∈ xs → x ≤ m) ∧ e = .returned (.int .i64 (m : Nat)) ∧ w' = w := by
  obtain ⟨g, off, rfl, hg, hcap, hc⟩ := at_nv h h0
  have d0 := hc 0 h0
  rw [Nat.add_zero] at d0
  have m0 : xs[0] ∈ xs := List.getElem_mem _
  have HC := Lib.hid hc
  have e0 : ∀ j (hj : j < xs.length), j < 1 → xs[j] ≤ xs[0] := fun j hj h => by
    have e : j = 0 := by omega
    subst e
    exact Nat.le_refl _
  generalize xs[0] = x0 at d0 m0 e0
  have E0 := Lib.hid e0
  have hn : ¬ xs.length < 1 := by omega
  clear hc h e0
  go_enter Tryz.func204, Tryz.ntmps204
  go_wp2_with fail
  go_loopw [3, 4] (fun v i wr => ∃ (k x : Nat), 1 ≤ k ∧ k ≤ xs.length ∧ i = .int .i64 k ∧ v = .int .i64 x ∧ x ∈ xs ∧ (∀ j (hj : j < xs.length), j < k → xs[j] ≤ x) ∧ wr = w) (fun _ i _ => xs.length - (intOf i).toNat)
  case atStart => exact ⟨1, x0, Nat.le_refl _, h0, rfl, rfl, m0, E0.out, rfl⟩
  case round =>
    clear d0
    obtain ⟨k, x, hk1, hk, rfl, rfl, hx, hl, rfl⟩ := hrel
    have HL := Lib.hid hl
    clear hl
    by_cases hlt : k < xs.length
    · have d0 := HC.out k hlt
      have hmem : xs[k] ∈ xs := List.getElem_mem _
      obtain ⟨y, hy⟩ : ∃ y, y = xs[k] := ⟨_, rfl⟩
      rw [← hy] at d0 hmem
      have HY := Lib.hid hy
      clear hy
      go_wp2_with fail
      refine ⟨⟨k + 1, max x y, by omega, by omega, by go_num, by go_num, ?_, fun j hj hjk => ?_, by first | trivial | rfl⟩, by simp [intOf]; omega⟩
      · rcases Nat.le_total x y with q | q
        · rw [Nat.max_eq_right q]; exact hmem
        · rw [Nat.max_eq_left q]; exact hx
      · by_cases e : j = k
        · subst e; rw [← HY.out]; exact Nat.le_max_right _ _
        · exact Nat.le_trans (HL.out j hj (by omega)) (Nat.le_max_left _ _)
    · obtain rfl : k = xs.length := by omega
      go_wp2_with fail
      go_ret
      refine ⟨x, hx, fun z hz => ?_, rfl, rfl⟩
      obtain ⟨j, hj, rfl⟩ := List.getElem_of_mem hz
      exact HL.out j hj hj
theorem half_skip {cs : List Nat} {j : Nat} (hj : j < cs.length) (h : cs[j] = 0) : (cs.take (j + 1)).map half ++ cs.drop (j + 1) = (cs.take j).map half ++ cs.drop j := by
  rw [List.take_succ_eq_append_getElem hj, List.map_append, List.append_assoc, List.drop_eq_getElem_cons hj, h]
  rfl
set_option maxRecDepth 100000 in
set_option maxHeartbeats 2000000 in
theorem lens_p (w : World) (cs : List Nat) (a : Option Addr) (c : Nat) (h : SlR w 1 (.slice a cs.length c) cs.length (cs.map nv)) (hlen : cs.length ≤ 256) (hS : cs.sum ≤ 1125899906842624) :
    Calls Tryz.prog 179 #[.slice a cs.length c] w (LensPost w cs) := by
  have CC := Lib.hid (clone_c w cs a c h (by omega))
  have HS := Lib.hid hS
  clear h hS
  go_enter Tryz.func179, Tryz.ntmps179
  go_wp2_with fail
  refine CC.out.mono ?_
  rintro e w1 ⟨b1, d1, rfl, g1, g2, g3⟩
  have G1 := Lib.hid g1
  have G2 := Lib.hid g3
  have HNW := Lib.hid g2
  clear g1 g2 g3
  go_wp2_with fail
  go_loopw [] (fun wr => ∃ cs' : List Nat, cs'.length = cs.length ∧ (∀ L, IsLens cs' L → IsLens cs L) ∧ OwnR wr 3 1 (.slice b1 cs.length d1) cs.length (cs'.map nv) ∧ cs'.sum ≤ cs.sum ∧ Kp (fun _ => False) w wr) (fun wr => rowSum wr (.slice b1 cs.length d1) cs.length)
  case atStart => exact ⟨cs, rfl, fun _ h => h, G1.out, Nat.le_refl _, G2.out⟩
  case round =>
    obtain ⟨cs', hl, hi, ho, hsum, hk⟩ := hrel
    have hsl := ho.sl
    rw [← hl] at hsl
    have HI := Lib.hid hi
    have HO := Lib.hid ho
    have HSM := Lib.hid hsum
    have HK := Lib.hid hk
    have HM := Lib.hid (rowSum_eq hsl)
    have hS' := Nat.le_trans hsum HS.out
    have HS' := Lib.hid hS'
    have HLL := Lib.hid hl
    clear hi ho hsum hk
    go_wp2_with fail
    rw [← hl]
    refine (joined_c wr cs' b1 d1 hsl (by omega) hS').mono ?_
    rintro e w2 ⟨L, aL, cL, rfl, hJ, hL, hk2⟩
    have HJ := Lib.hid hJ
    have HL := Lib.hid hL
    have HK2 := Lib.hid hk2
    clear hsl hJ hL hk2 hS'
    have fin : (∀ i, i < cs'.length → L i ≤ 11) → LensPost w cs (.returned (.slice aL cs.length cL)) w2 := fun hm => by
      have h1 : IsLens cs' L := .done HJ.out hm
      have h2 := HL.out
      rw [HLL.out] at h2
      exact ⟨L, aL, cL, rfl, HI.out L h1, ⟨h2.row, fun b hb => Nat.le_trans HK.out.size (h2.new b hb)⟩, HK.out.trans HK2.out⟩
    have FIN := Lib.hid fin
    clear fin
    by_cases h0 : cs.length = 0
    · have h0' : ((cs.length : Int) == 0) = true := by rw [beq_iff_eq]; omega
      have FN := Lib.hid (FIN.out (fun i hi => by have := HLL.out; omega))
      clear h0
      go_wp2_with fail
      go_ret
      exact FN.out
    · have h0' : ((cs.length : Int) == 0) = false := by rw [beq_eq_false_iff_ne]; omega
      have hrow : SlR w2 1 (.slice aL ((List.range cs.length).map L).length cL) ((List.range cs.length).map L).length (((List.range cs.length).map L).map nv) := by
        have h2 := HL.out.row.sl
        rw [HLL.out] at h2
        rw [List.map_map, List.length_map, List.length_range]
        exact h2
      have MC := Lib.hid (max_c w2 _ aL cL hrow (by simp; omega) (by simp; omega))
      have MC2 : Hid (Calls Tryz.prog 204 #[.slice aL cs.length cL] w2 fun e w' => ∃ m, m ∈ (List.range cs.length).map L ∧ (∀ x, x ∈ (List.range cs.length).map L → x ≤ m) ∧ e = .returned (.int .i64 (m : Nat)) ∧ w' = w2) := Lib.hid (by have := MC.out; rwa [List.length_map, List.length_range] at this)
      clear hrow MC
      go_wp2_with fail
      refine MC2.out.mono ?_
      rintro e w3 ⟨m, hm1, hm2, rfl, rfl⟩
      have HM1 := Lib.hid hm1
      have HM2 := Lib.hid hm2
      clear hm1 hm2
      by_cases hm : m ≤ 11
      · go_wp2_with fail
        go_ret
        exact FIN.out (fun i hi => Nat.le_trans (HM2.out _ (List.mem_map.2 ⟨i, List.mem_range.2 (by rw [← HLL.out]; exact hi), rfl⟩)) hm)
      · have hex : ∃ i, i < cs'.length ∧ 11 < L i := by
          obtain ⟨i, hi, e⟩ := List.mem_map.1 HM1.out
          exact ⟨i, by rw [HLL.out]; exact List.mem_range.1 hi, by omega⟩
        have hfall := HJ.out.falls (by omega) hex
        have HF := Lib.hid hfall
        have HH := Lib.hid (fun L' (k : IsLens (cs'.map half) L') => IsLens.half HJ.out hex k)
        have ho2 : OwnR w3 3 1 (.slice b1 cs.length d1) cs.length (cs'.map nv) := HO.out.kp HK2.out (fun _ _ q => q)
        have HO2 := Lib.hid ho2
        clear hfall ho2 hex
        go_wp2_with fail
        go_loopw [21] (fun i wr => ∃ j : Nat, j ≤ cs'.length ∧ i = .int .i64 j ∧ OwnR wr 3 1 (.slice b1 cs.length d1) cs.length (((cs'.take j).map half ++ cs'.drop j).map nv) ∧ Kp (fun _ => False) w wr) (fun i _ => cs'.length - (intOf i).toNat)
        case atStart => exact ⟨0, Nat.zero_le _, rfl, by simpa using HO2.out, HK.out.trans HK2.out⟩
        case round =>
          obtain ⟨j, hj, rfl, ho, hk⟩ := hrel
          have HK3 := Lib.hid hk
          have HO3 := Lib.hid ho
          by_cases hlt : j < cs'.length
          · obtain ⟨g, eb, hcap, hat⟩ := ho.at1 (by omega)
            obtain ⟨q1, q2, q3⟩ := hat j (by omega)
            have d0 := q1 _ (half_at hlt)
            obtain ⟨q4, q5⟩ := q3 (nv (half cs'[j]))
            rw [half_set hlt] at q4
            have hle : cs'[j] ≤ 1125899906842624 := Nat.le_trans (by have := sum_mem (f := id) (List.getElem_mem hlt); simpa using this) HS'.out
            have HNB := HNW.out g (by rw [eb]; rfl)
            have HSK := Lib.hid (half_skip hlt)
            obtain ⟨x, hx⟩ : ∃ x, x = cs'[j] := ⟨_, rfl⟩
            rw [← hx] at d0 q4 q5 hle HSK
            have Q4 := Lib.hid q4
            have Q5 := Lib.hid q5
            have hd0 : wr.cell? ⟨g, j, none⟩ = some (.int .i64 (x : Nat)) := d0
            clear q1 q3 q4 q5 hat hx ho hk d0
            subst eb
            have hjc : j < cs.length := by omega
            by_cases hx0 : 0 < x
            · have hdiv : (((x : Int) + 1).tdiv 2) = ((half x : Nat) : Int) := by rw [Int.tdiv_eq_ediv_of_nonneg (by omega)]; unfold half; omega
              go_wp2_with fail
              have hwv : (Value.int .i64 (wrap64 ((half x : Nat) : Int))) = nv (half x) := by
                unfold nv
                rw [IntWalk.wrap64_in _ (by unfold half; omega)]
              rw [hwv]
              refine ⟨⟨j + 1, by omega, by go_num, Q4.out, HK3.out.trans2 Q5.out (fun i hi e => by omega)⟩, by simp [intOf]; omega⟩
            · obtain rfl : x = 0 := by omega
              go_wp2_with fail
              refine ⟨⟨j + 1, by omega, by go_num, by rw [HSK.out rfl]; exact HO3.out, HK3.out⟩, by simp [intOf]; omega⟩
          · obtain rfl : j = cs'.length := by omega
            go_wp2_with fail
            have ho4 := HO3.out
            rw [List.take_length, List.drop_length, List.append_nil] at ho4
            refine ⟨⟨cs'.map half, by simpa using HLL.out, fun L' k => HI.out L' (HH.out L' k), ho4, Nat.le_trans (half_sum_le cs') HSM.out, HK3.out⟩, ?_⟩
            have h5 := ho4.sl
            have e5 : (cs'.map half).length = cs.length := by simpa using HLL.out
            rw [← e5] at h5
            have h6 := rowSum_eq h5
            rw [e5] at h6
            have h7 := HM.out
            rw [HLL.out] at h7
            rw [h6, h7]
            exact HF.out
end Go.Proofs.YtmioiaeiflbmhaaGreat.Hu
namespace Go.Proofs.YtmioiaeiflbmhaaGreat.Hu
open Go Go.RowKit Go.ChangeMaps Go.MapKept Go.Mg Go.Hf Go.Sort Go.Proofs.YtmioiaeiflbmhaaGreat.It
def Nm (w : World) (a : Option Addr) (c : Nat) (xs : List Int) : Prop := SlR w 1 (.slice a xs.length c) xs.length (xs.map (Value.int .i64))
theorem Nm.at_ {w : World} {a : Option Addr} {c : Nat} {xs : List Int} (h : Nm w a c xs) (h0 : 0 < xs.length) :
    ∃ g off, a = some ⟨g, off, none⟩ ∧ g < w.heap.size ∧ xs.length ≤ c ∧ ∀ i (hi : i < xs.length), w.cell? ⟨g, off + i, none⟩ = some (.int .i64 xs[i]) := by
  obtain ⟨_, a0, c0, e0, h1, _, _, hc⟩ := h
  simp only [Value.slice.injEq, true_and] at e0
  obtain ⟨rfl, rfl⟩ := e0
  obtain ⟨g, off, rfl, hg, hc⟩ := hc h0
  exact ⟨g, off, rfl, hg, h1, fun i hi => hc i _ (by rw [List.getElem?_map, List.getElem?_eq_getElem hi]; rfl)⟩
theorem Nm.kp {w w' : World} {a : Option Addr} {c : Nat} {xs : List Int} (h : Nm w a c xs) (hk : Kp (fun _ => False) w w') : Nm w' a c xs := SlR.kp h hk (fun _ _ q => q)
end Go.Proofs.YtmioiaeiflbmhaaGreat.Hu
namespace Go.Proofs.YtmioiaeiflbmhaaGreat.Hu
open Go Go.RowKit Go.ChangeMaps Go.MapKept Go.Mg Go.Hf Go.Sort Go.Proofs.YtmioiaeiflbmhaaGreat.It
theorem lf_take {xs : List Int} {k : Nat} (hk : k < xs.length) : xs.take (k + 1) = xs.take k ++ [lf xs k] := by
  rw [List.take_succ_eq_append_getElem hk, lf_at hk]
theorem Nm.lf_ {w : World} {a : Option Addr} {c : Nat} {xs : List Int} (h : Nm w a c xs) (h0 : 0 < xs.length) :
    ∃ g off, a = some ⟨g, off, none⟩ ∧ g < w.heap.size ∧ xs.length ≤ c ∧ ∀ i, i < xs.length → w.cell? ⟨g, off + i, none⟩ = some (.int .i64 (lf xs i)) := by
  obtain ⟨g, off, e, hg, h1, hc⟩ := h.at_ h0
  exact ⟨g, off, e, hg, h1, fun i hi => by rw [lf_at hi]; exact hc i hi⟩
theorem div_val {x : Int} (h0 : 0 < x) (h1 : x ≤ 11) : (2048 : Int) / 2 ^ x.toNat = ((2 ^ (11 - x.toNat) : Nat) : Int) := by
  have : x = 1 ∨ x = 2 ∨ x = 3 ∨ x = 4 ∨ x = 5 ∨ x = 6 ∨ x = 7 ∨ x = 8 ∨ x = 9 ∨ x = 10 ∨ x = 11 := by omega
  rcases this with rfl | rfl | rfl | rfl | rfl | rfl | rfl | rfl | rfl | rfl | rfl <;> decide
theorem beqN (a : Nat) : ((a : Int) == 2048) = decide (a = 2048) := by
  by_cases h : a = 2048
  · subst h; rfl
  · rw [decide_eq_false h, beq_eq_false_iff_ne]; omega
def IsPost (w : World) (xs : List Int) (e : Ending) (w' : World) : Prop := ∃ z : Bool, (z = true ↔ IsOk xs) ∧ e = .returned (.bool z) ∧ w' = w
set_option maxRecDepth 100000 in
set_option maxHeartbeats 2000000 in
theorem is_p (w : World) (xs : List Int) (a : Option Addr) (c : Nat) (h : Nm w a c xs) (hl : xs.length ≤ 1000) :
    Calls Tryz.prog 213 #[.slice a xs.length c] w (IsPost w xs) := by
  by_cases hlen : xs.length ≤ 256
  · by_cases h0 : xs.length = 0
    · have : xs = [] := List.eq_nil_of_length_eq_zero h0
      subst this
      clear h
      go_enter Tryz.func213, Tryz.ntmps213
      go_wp2_with fail
      go_loopw [3, 4, 5, 13] (fun s m l i wr => wr = w ∧ i = .int .i64 0 ∧ s = .int .i64 0 ∧ m = .int .i64 0 ∧ l = .int .i64 0) (fun _ _ _ _ _ => 0)
      case atStart => exact ⟨rfl, rfl, rfl, rfl, rfl⟩
      case round =>
        obtain ⟨rfl, rfl, rfl, rfl, rfl⟩ := hrel
        go_wp2_with fail
        go_ret
        exact ⟨false, ⟨(fun h => by cases h), fun h => by obtain ⟨_, _, h | h⟩ := h <;> simp [isSt] at h⟩, rfl, rfl⟩
    · obtain ⟨g, o, rfl, hg, hcap, hc⟩ := h.lf_ (by omega)
      have HC := Lib.hid hc
      clear hc h
      obtain ⟨n, hn⟩ : ∃ n, n = xs.length := ⟨_, rfl⟩
      rw [← hn] at hlen h0 hcap hl ⊢
      have HN := Lib.hid hn
      clear hn
      go_enter Tryz.func213, Tryz.ntmps213
      go_wp2_with fail
      go_loopw [3, 4, 5, 13] (fun s m l i wr => ∃ k : Nat, k ≤ n ∧ wr = w ∧ i = .int .i64 k ∧ s = .int .i64 ((isSt (xs.take k)).1 : Nat) ∧ m = .int .i64 ((isSt (xs.take k)).2.1 : Nat) ∧ l = .int .i64 (isSt (xs.take k)).2.2 ∧ InR (xs.take k)) (fun _ _ _ i _ => n - (intOf i).toNat)
      case atStart => exact ⟨0, Nat.zero_le _, rfl, rfl, rfl, rfl, rfl, fun x hx => by simp at hx⟩
      case round =>
        obtain ⟨k, hk, rfl, rfl, rfl, rfl, rfl, hr⟩ := hrel
        have HR := Lib.hid hr
        clear hr
        by_cases hlt : k < n
        · have d0 := HC.out k (by rw [← HN.out]; exact hlt)
          have HT := Lib.hid (lf_take (xs := xs) (k := k) (by rw [← HN.out]; exact hlt))
          have hle := isSt_le (xs.take k)
          have hlk : (xs.take k).length ≤ k := by rw [List.length_take]; omega
          have hsn := isSt_snoc (xs.take k) (lf xs k)
          rw [← HT.out] at hsn
          have HSN := Lib.hid hsn
          have hxm : lf xs k ∈ xs := by rw [lf_at (by rw [← HN.out]; exact hlt)]; exact List.getElem_mem _
          have HXM := Lib.hid hxm
          obtain ⟨s1, hs1⟩ : ∃ s, s = (isSt (xs.take k)).1 := ⟨_, rfl⟩
          obtain ⟨s2, hs2⟩ : ∃ s, s = (isSt (xs.take k)).2.1 := ⟨_, rfl⟩
          obtain ⟨s3, hs3⟩ : ∃ s, s = (isSt (xs.take k)).2.2 := ⟨_, rfl⟩
          have hst : isSt (xs.take k) = (s1, s2, s3) := by rw [hs1, hs2, hs3]
          rw [hst] at hle
          simp only at hle
          rw [← hs1, ← hs2, ← hs3]
          have HST := Lib.hid hst
          obtain ⟨x, hx⟩ : ∃ x, x = lf xs k := ⟨_, rfl⟩
          rw [← hx] at d0
          have HX := Lib.hid hx
          clear hs1 hs2 hs3 hst hsn hxm hx
          by_cases hxr : 0 ≤ x ∧ x ≤ 11
          · obtain ⟨hx0, hx1⟩ := hxr
            have n1 : ¬ x < 0 := by omega
            have n2 : ¬ x > 11 := by omega
            have hin : InR (xs.take (k + 1)) := by
              rw [HT.out]
              intro y hy
              rcases List.mem_append.1 hy with hy | hy
              · exact HR.out y hy
              · rw [List.mem_singleton] at hy; rw [hy, ← HX.out]; exact ⟨hx0, hx1⟩
            have HIN := Lib.hid hin
            clear hin
            by_cases hp : 0 < x
            · have hb := div_val hp hx1
              obtain ⟨p, hpv⟩ : ∃ p : Nat, p = 2 ^ (11 - x.toNat) := ⟨_, rfl⟩
              have hple : p ≤ 2048 := by
                have : 2 ^ (11 - x.toNat) ≤ 2 ^ 11 := Nat.pow_le_pow_right (by omega) (by omega)
                have e : 2 ^ 11 = 2048 := rfl
                omega
              rw [← hpv] at hb
              have HPV := Lib.hid hpv
              clear hpv
              go_wp2_with fail
              have e := HSN.out
              rw [HST.out, isStep, ← HX.out, if_pos hp, ← HPV.out] at e
              refine ⟨⟨k + 1, by omega, by first | trivial | rfl, by go_num, ?_, ?_, ?_, HIN.out⟩, by simp [intOf]; omega⟩
              · rw [e]; go_num
              · rw [e]; go_num
              · rw [e]
            · go_wp2_with fail
              have e := HSN.out
              rw [HST.out, isStep, ← HX.out, if_neg hp] at e
              refine ⟨⟨k + 1, by omega, by first | trivial | rfl, by go_num, ?_, ?_, ?_, HIN.out⟩, by simp [intOf]; omega⟩
              · rw [e]
              · rw [e]
              · rw [e]
          · have hno : ¬ IsOk xs := fun h => hxr (by rw [HX.out]; exact h.2.1 _ HXM.out)
            have HNO := Lib.hid hno
            clear hno
            by_cases hneg : x < 0
            · go_wp2_with fail
              go_ret
              exact ⟨false, ⟨(fun h => by cases h), fun h => (HNO.out h).elim⟩, rfl, rfl⟩
            · have hgt : 11 < x := by omega
              go_wp2_with fail
              go_ret
              exact ⟨false, ⟨(fun h => by cases h), fun h => (HNO.out h).elim⟩, rfl, rfl⟩
        · obtain rfl : k = n := by omega
          have HR2 := HR.out
          rw [HN.out, List.take_length] at HR2 ⊢
          have hle := isSt_le xs
          obtain ⟨s1, hs1⟩ : ∃ s, s = (isSt xs).1 := ⟨_, rfl⟩
          obtain ⟨s2, hs2⟩ : ∃ s, s = (isSt xs).2.1 := ⟨_, rfl⟩
          obtain ⟨s3, hs3⟩ : ∃ s, s = (isSt xs).2.2 := ⟨_, rfl⟩
          have hiff : IsOk xs ↔ ((s2 = 1 ∧ s3 = 1) ∨ s1 = 2048) := by
            rw [hs1, hs2, hs3]
            exact ⟨fun h => h.2.2, fun h => ⟨by rw [← HN.out]; exact hlen, HR2, h⟩⟩
          have HI := Lib.hid hiff
          rw [← hs1, ← hs2, ← hs3]
          clear hs1 hs2 hs3 hiff HR2 hle
          by_cases q2 : s2 = 1
          · by_cases q3 : s3 = 1
            · have HT : Hid (IsOk xs) := Lib.hid (HI.out.2 (.inl ⟨q2, q3⟩))
              subst q2 q3
              go_wp2_with fail
              go_ret
              exact ⟨true, ⟨fun _ => HT.out, fun _ => rfl⟩, rfl, rfl⟩
            · have q3' : (s3 == 1) = false := by simpa using q3
              have Q3 := Lib.hid q3
              subst q2
              clear q3
              go_wp2_with fail
              go_ret
              refine ⟨decide (s1 = 2048), ?_, ?_, rfl⟩
              · rw [decide_eq_true_iff, HI.out]
                exact ⟨.inr, fun h => h.resolve_left (fun z => Q3.out z.2)⟩
              · simp [beqN]
          · have q2' : ((s2 : Int) == 1) = false := by rw [beq_eq_false_iff_ne]; omega
            have Q2 := Lib.hid q2
            clear q2
            go_wp2_with fail
            go_ret
            refine ⟨decide (s1 = 2048), ?_, ?_, rfl⟩
            · rw [decide_eq_true_iff, HI.out]
              exact ⟨.inr, fun h => h.resolve_left (fun z => Q2.out z.1)⟩
            · simp [beqN]
  · have hgt : 256 < xs.length := by omega
    have hno : ¬ IsOk xs := fun h => hlen h.1
    have HNO := Lib.hid hno
    clear h hno
    go_enter Tryz.func213, Tryz.ntmps213
    go_wp2_with fail
    go_ret
    exact ⟨false, ⟨(fun h => by cases h), fun h => (HNO.out h).elim⟩, rfl, rfl⟩
end Go.Proofs.YtmioiaeiflbmhaaGreat.Hu
namespace Go.Proofs.YtmioiaeiflbmhaaGreat.Hu
open Go Go.RowKit Go.ChangeMaps Go.MapKept Go.Mg Go.Hf Go.Sort Go.Proofs.YtmioiaeiflbmhaaGreat.It
theorem mul_c (n : Nat) (hn : n ≤ 1000) (w : World) : Calls Tryz.prog 242 #[.int .u64 1, .int .u64 (n : Nat)] w fun e w' => e = .returned (.tuple #[.int .u64 0, .int .u64 (n : Nat)]) ∧ w' = w := by
  have h := Any.bits_Mul Tryz.lays212 1 n (by omega) (by omega) w
  refine Calls.mono h ?_
  rintro e w' ⟨rfl, rfl⟩
  refine ⟨?_, rfl⟩
  have e1 : 1 * n / 18446744073709551616 = 0 := by omega
  have e2 : 1 * n % 18446744073709551616 = n := by omega
  rw [e1, e2]
  rfl
section
variable {P : Program} {ops : Array Oper} {o : Oper} {a : Act} {Q : Exit → Act → World → Prop}
end
def repRow (v : Int) (n m : Nat) : List Value := List.replicate m (.int .i64 v) ++ List.replicate (n - m) (.int .i64 0)
theorem repRow_len {v : Int} {n m : Nat} (h : m ≤ n) : (repRow v n m).length = n := by simp [repRow]; omega
def RepAt (w : World) (g : Nat) (v : Int) (n m : Nat) : Prop := w.heap[g]? = some (.cells (repRow v n m).toArray 3 (0, 0))
theorem rep_row {v : Int} {n m k : Nat} (h : m + k ≤ n) : (repRow v n m).take m ++ List.replicate k (.int .i64 v) ++ (repRow v n m).drop (m + k) = repRow v n (m + k) := by
  unfold repRow
  rw [List.take_left' (by simp), List.drop_append, List.drop_of_length_le (by simp)]
  simp only [List.length_replicate, List.nil_append, List.drop_replicate]
  rw [List.replicate_append_replicate, show n - m - (m + k - m) = n - (m + k) by omega]
theorem info1 : (Tryz.prog.info? 3).map (·.size) = some 1 := by kernel_rfl
theorem rep_copy {w : World} {g : Nat} {v : Int} {n m : Nat} (h : RepAt w g v n m) (hm : m < n) : ∃ w', (Builtin.copy_ #[179, 179] 3 #[.slice (some ⟨g, m, none⟩) (n - m) (n - m), .slice (some ⟨g, 0, none⟩) m n]).run Tryz.prog w = .ok (.int .i64 ((min m (n - m) : Nat) : Int)) w' ∧ RepAt w' g v n (m + min m (n - m)) ∧ Kp (· = g) w w' := by
  have hk : m + min m (n - m) ≤ n := by omega
  have hr := run_copy_row (P := Tryz.prog) w 179 179 3 3 g m (n - m) (n - m) ⟨g, 0, none⟩ m n (repRow v n m).toArray 3 (List.replicate (min m (n - m)) (.int .i64 v)) Tryz.underlying179 info1 h (by simp) (fun j u hu => by
      rw [addr_add, Nat.zero_add, cell_of h]
      have hj : j < min m (n - m) := by have := (List.getElem?_eq_some_iff.1 hu).1; simpa using this
      rw [List.getElem?_replicate, if_pos hj] at hu
      unfold repRow
      rw [List.getElem?_toArray, List.getElem?_append_left (by simp; omega), List.getElem?_replicate, if_pos (by omega)]
      exact hu) (by simp [repRow_len (Nat.le_of_lt hm)]; omega) (fun u hu => by rw [(List.mem_replicate.1 hu).2]; rfl)
  have h2 := setRow_heap w g (repRow v n m).toArray ((repRow v n m).take m ++ List.replicate (min m (n - m)) (Value.int .i64 v) ++ (repRow v n m).drop (m + min m (n - m))).toArray 3 (0, 0) h
  simp only [List.length_replicate] at hr
  refine ⟨w.setRow g ((repRow v n m).take m ++ List.replicate (min m (n - m)) (Value.int .i64 v) ++ (repRow v n m).drop (m + min m (n - m))).toArray, hr, ?_, kp_setRow _ _ _⟩
  unfold RepAt
  rw [← rep_row hk]
  exact h2
end Go.Proofs.YtmioiaeiflbmhaaGreat.Hu
