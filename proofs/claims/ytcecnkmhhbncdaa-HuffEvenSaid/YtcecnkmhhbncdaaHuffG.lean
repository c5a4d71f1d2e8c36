/- Of equal counts, as many as a power of two, all codes are of one length; in plain words. -/
import Derived.Test.YtcecnkmhhbncdaaHuffD
import Derived.Test.YtcecnkmhhbncdaaHuffE
namespace Go.Hf
theorem forest_repl (c : Nat) (hc : 0 < c) (N : Nat) : forest (List.replicate N c) = (List.range N).map fun i => leaf i c := by
  induction N with
  | zero => rfl
  | succ N ih => rw [List.replicate_succ', forest_snoc, ih, List.range_succ, List.map_append, if_pos hc, List.length_replicate]; rfl
/-- How many of the first j have the value d. -/
def cnt (L : Nat → Nat) (d j : Nat) : Nat := ((List.range j).map fun i => if L i = d then 1 else 0).sum
theorem cnt_succ (L : Nat → Nat) (d j : Nat) : cnt L d (j + 1) = cnt L d j + if L j = d then 1 else 0 := by simp [cnt, List.range_succ]
theorem cnt_le (L : Nat → Nat) (d : Nat) : ∀ j, cnt L d j ≤ j := by
  intro j
  induction j with
  | zero => simp [cnt]
  | succ j ih => rw [cnt_succ]; split <;> omega
theorem cnt_pos (L : Nat → Nat) (d : Nat) {i : Nat} (h : L i = d) : ∀ j, i < j → 0 < cnt L d j := by
  intro j
  induction j with
  | zero => intro h; omega
  | succ j ih =>
    intro hj
    rw [cnt_succ]
    by_cases e : i = j
    · subst e; rw [if_pos h]; omega
    · have := ih (by omega); omega
theorem cnt_lt (L : Nat → Nat) (d : Nat) {i : Nat} (h : L i ≠ d) : ∀ j, i < j → cnt L d j < j := by
  intro j
  induction j with
  | zero => intro h; omega
  | succ j ih =>
    intro hj
    rw [cnt_succ]
    by_cases e : i = j
    · subst e; rw [if_neg h]; have := cnt_le L d i; omega
    · have := ih (by omega); split <;> omega
theorem sum_two (L : Nat → Nat) (d N : Nat) (hd : d ≤ 10) (h : ∀ i, i < N → L i = d ∨ L i = d + 1) : ∀ j, j ≤ N → ((List.range j).map fun i => 2 ^ (11 - L i)).sum = (j + cnt L d j) * 2 ^ (10 - d) := by
  intro j
  induction j with
  | zero => intro _; simp [cnt]
  | succ j ih =>
    intro hj
    rw [List.range_succ, List.map_append, List.sum_append, ih (by omega), cnt_succ]
    simp only [List.map_cons, List.map_nil, List.sum_cons, List.sum_nil, Nat.add_zero]
    have e1 : 2 ^ (11 - d) = 2 * 2 ^ (10 - d) := by rw [show 11 - d = (10 - d) + 1 by omega, Nat.pow_succ, Nat.mul_comm]
    have e2 : 2 ^ (11 - (d + 1)) = 2 ^ (10 - d) := by rw [show 11 - (d + 1) = 10 - d by omega]
    rcases h j (by omega) with q | q
    · rw [q, if_pos rfl, e1, ← Nat.add_mul]; congr 1; omega
    · rw [q, if_neg (by omega), e2, Nat.add_zero, ← Nat.succ_mul]; congr 1; omega
theorem least_at (L : Nat → Nat) : ∀ N, 0 < N → ∃ i, i < N ∧ ∀ k, k < N → L i ≤ L k := by
  intro N
  induction N with
  | zero => intro h; omega
  | succ N ih =>
    intro _
    by_cases h : 0 < N
    · obtain ⟨i, hi, hk⟩ := ih h
      by_cases q : L i ≤ L N
      · exact ⟨i, by omega, fun k hk' => by
          by_cases e : k = N
          · subst e; exact q
          · exact hk k (by omega)⟩
      · exact ⟨N, by omega, fun k hk' => by
          by_cases e : k = N
          · subst e; exact Nat.le_refl _
          · have := hk k (by omega); omega⟩
    · exact ⟨0, by omega, fun k hk => by rw [show k = 0 by omega]; exact Nat.le_refl _⟩
theorem IsLens.even {log c : Nat} (h1 : 1 ≤ log) (h8 : log ≤ 8) (hc : 0 < c) {L : Nat → Nat} (h : IsLens (List.replicate (2 ^ log) c) L) : ∀ i, i < 2 ^ log → L i = log := by
  have hN2 : 2 ≤ 2 ^ log := by
    have : 2 ^ 1 ≤ 2 ^ log := Nat.pow_le_pow_right (by omega) h1
    simpa using this
  have hN8 : 2 ^ log ≤ 256 := by
    have : 2 ^ log ≤ 2 ^ 8 := Nat.pow_le_pow_right (by omega) h8
    simpa using this
  obtain ⟨N, hN⟩ : ∃ N, N = 2 ^ log := ⟨_, rfl⟩
  rw [← hN] at h hN2 hN8 ⊢
  have hlo : ∀ d, d ∈ List.replicate N c → 0 < d → c ≤ d := fun d hd _ => by rw [(List.mem_replicate.1 hd).2]; exact Nat.le_refl _
  have hsum : (List.replicate N c).sum = N * c := by simp
  cases h with
  | half h hs _ =>
    obtain ⟨j, _, hj⟩ := hs
    exfalso
    have h2 := h.heights hlo (Nat.lt_trans (by decide : 1 < 11) hj)
    have h3 := fib_mono (Nat.add_le_add_right hj 2)
    have h4 := Nat.mul_le_mul_right c h3
    have h5 : fib (11 + 1 + 2) = 377 := rfl
    rw [show Nat.succ 11 + 2 = 11 + 1 + 2 from rfl, h5] at h4
    have h6 := Nat.mul_le_mul_right c hN8
    omega
  | done h hs =>
    rw [List.length_replicate] at hs
    rcases h with ⟨t, e, rfl⟩ | ⟨hn, hrun⟩
    · rw [forest_repl c hc] at e
      have := congrArg List.length e
      simp at this
      omega
    · have hF := Fst.start (List.replicate N c)
      have hK := hrun.kraft hF.nd (KR.start _) (by
        rw [forest_repl c hc]
        intro e
        have := congrArg List.length e
        simp at this
        omega) 11 (fun i hi => by
        obtain ⟨t, ht, hit⟩ := List.mem_flatMap.1 hi
        exact hs i (by have := hF.lt t ht i hit; rwa [List.length_replicate] at this))
      rw [forest_syms, List.map_map, forest_repl c hc, List.map_map] at hK
      obtain ⟨D, d1, _, _, _, dQ, _⟩ := hrun.depths hF.nd hF.mem (fun t ht => by obtain ⟨j, hj, rfl, h⟩ := mem_forest ht; exact h)
      have hle : ∀ i k, i < N → k < N → L i ≤ L k + 1 := by
        intro i k hi hk
        by_cases e : i = k
        · subst e; omega
        · have ti : leaf i c ∈ forest (List.replicate N c) := by rw [forest_repl c hc]; exact List.mem_map.2 ⟨i, List.mem_range.2 hi, rfl⟩
          have tk : leaf k c ∈ forest (List.replicate N c) := by rw [forest_repl c hc]; exact List.mem_map.2 ⟨k, List.mem_range.2 hk, rfl⟩
          have hne : leaf k c ≠ leaf i c := fun q => by
            have h9 : (leaf k c).m = (leaf i c).m := by rw [q]
            simp [leaf] at h9
            omega
          obtain ⟨r, hr⟩ := perm_pick tk ti hne
          have e1 := d1 _ ti i (by simp [leaf])
          have e2 := d1 _ tk k (by simp [leaf])
          have := dQ _ _ r hr (fun x hx => by
            have hx' : x ∈ forest (List.replicate N c) := hr.mem_iff.2 (by simp [hx])
            obtain ⟨j, hj, rfl, h⟩ := mem_forest hx'
            show c < c + _
            have : (leaf j (List.replicate N c)[j]).n = (List.replicate N c)[j] := rfl
            omega)
          omega
      obtain ⟨i0, hi0, hmin⟩ := least_at L N (by omega)
      obtain ⟨d, hd⟩ : ∃ d, d = L i0 := ⟨_, rfl⟩
      rw [← hd] at hmin
      have htwo : ∀ i, i < N → L i = d ∨ L i = d + 1 := fun i hi => by
        have := hmin i hi
        have := hle i i0 hi hi0
        omega
      have hd11 := hs i0 hi0
      have hK' : ((List.range N).map fun i => 2 ^ (11 - L i)).sum = 2048 := hK
      by_cases hd10 : d ≤ 10
      · rw [sum_two L d N hd10 htwo N (Nat.le_refl _)] at hK'
        have hp : (2 : Nat) ^ (d + 1) * 2 ^ (10 - d) = 2048 := by rw [← Nat.pow_add, show d + 1 + (10 - d) = 11 by omega]
        have hq : 0 < 2 ^ (10 - d) := Nat.pow_pos (by omega)
        have hNa : N + cnt L d N = 2 ^ (d + 1) := Nat.eq_of_mul_eq_mul_right hq (by rw [hK', hp])
        have ha1 := cnt_pos L d hd.symm N hi0
        have ha2 := cnt_le L d N
        have hdl : d = log := by
          have g1 : 2 ^ log < 2 ^ (d + 1) := by omega
          have g2 : 2 ^ (d + 1) ≤ 2 ^ (log + 1) := by rw [Nat.pow_succ 2 log]; omega
          have := (Nat.pow_lt_pow_iff_right (by omega : 1 < 2)).1 g1
          have := (Nat.pow_le_pow_iff_right (by omega : 1 < 2)).1 g2
          omega
        intro i hi
        apply Classical.byContradiction
        intro hne
        have ha3 := cnt_lt L d (i := i) (by omega) N hi
        rw [hdl, Nat.pow_succ] at hNa
        rw [hdl] at ha3
        omega
      · exfalso
        have h11 : ∀ i, i < N → L i = 11 := fun i hi => by have := hmin i hi; have := hs i hi; omega
        have : (List.range N).map (fun i => 2 ^ (11 - L i)) = (List.range N).map fun _ => 1 := List.map_congr_left (fun i hi => by rw [h11 i (List.mem_range.1 hi)])
        rw [this, List.map_const', List.sum_replicate_nat, List.length_range] at hK'
        omega
/-- The codes of symbols whose lengths are all one. -/
theorem codes_even {log N : Nat} (h1 : 1 ≤ log) (h8 : log ≤ 8) {xs : List Int} (hl : xs.length = N) (h : ∀ i, i < N → lf xs i = (log : Int)) : ∀ i, i < N → codes xs i = (i : Int) := by
  obtain ⟨m, rfl⟩ : ∃ m, log = m + 1 := ⟨log - 1, by omega⟩
  have key : ∀ n, n ≤ m → (passes (lf xs) N n).1 = 0 := by
    intro n
    induction n with
    | zero => intro _; rfl
    | succ n ih =>
      intro hn
      have h0 := ih (by omega)
      rw [← stc_end]
      have : ∀ j, j ≤ N → stc (lf xs) N n j = 0 := by
        intro j
        induction j with
        | zero => intro _; rw [stc_zero, h0]
        | succ j ihj =>
          intro hj
          rw [stc_succ, ihj (by omega), h j (by omega), if_neg (by omega)]
      exact this N (Nat.le_refl _)
  have k2 : ∀ j, j ≤ N → stc (lf xs) N m j = j := by
    intro j
    induction j with
    | zero => intro _; rw [stc_zero, key m (Nat.le_refl _)]
    | succ j ihj =>
      intro hj
      rw [stc_succ, ihj (by omega), h j (by omega), if_pos (by omega)]
  intro i hi
  unfold codes
  rw [hl]
  have := (passes_out (lf xs) N hi 11).1 m (by omega) (by rw [h i hi]; omega)
  rw [this, k2 i (by omega)]
end Go.Hf
