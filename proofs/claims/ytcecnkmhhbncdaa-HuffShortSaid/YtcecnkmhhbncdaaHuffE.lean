/- No code begins another one; in plain words. -/
import Derived.Test.YtcecnkmhhbncdaaHuffC
namespace Go.Hf
/-- The code that pass n + 1 has come to ahead of symbol j. -/
def stc (ls : Nat → Int) (N n j : Nat) : Nat := (pass1 ls ((n : Int) + 1) j (2 * (passes ls N n).1, (passes ls N n).2)).1
def Qs (ls : Nat → Int) (N n j : Nat) : Nat := stc ls N n j * 2 ^ (10 - n)
theorem stc_succ (ls : Nat → Int) (N n j : Nat) : stc ls N n (j + 1) = stc ls N n j + if ls j = (n : Int) + 1 then 1 else 0 := by
  unfold stc
  simp only [pass1]
  split <;> simp
theorem stc_zero (ls : Nat → Int) (N n : Nat) : stc ls N n 0 = 2 * (passes ls N n).1 := rfl
theorem stc_end (ls : Nat → Int) (N n : Nat) : stc ls N n N = (passes ls N (n + 1)).1 := rfl
theorem Qs_succ (ls : Nat → Int) (N n j : Nat) : Qs ls N n (j + 1) = Qs ls N n j + if ls j = (n : Int) + 1 then 2 ^ (10 - n) else 0 := by
  unfold Qs
  rw [stc_succ, Nat.add_mul]
  split <;> simp
theorem Qs_mono_j (ls : Nat → Int) (N n : Nat) {j k : Nat} (h : j ≤ k) : Qs ls N n j ≤ Qs ls N n k := by
  induction h with
  | refl => exact Nat.le_refl _
  | step _ ih => rw [Qs_succ]; omega
theorem Qs_next (ls : Nat → Int) (N n : Nat) (hn : n < 10) : Qs ls N (n + 1) 0 = Qs ls N n N := by
  unfold Qs
  rw [stc_zero, stc_end, show 10 - n = (10 - (n + 1)) + 1 by omega, Nat.pow_succ]
  rw [Nat.mul_comm 2, Nat.mul_assoc, Nat.mul_comm 2]
theorem Qs_mono (ls : Nat → Int) (N : Nat) {n m j k : Nat} (hnm : n < m) (hm : m ≤ 10) (hj : j ≤ N) : Qs ls N n j ≤ Qs ls N m k := by
  induction hnm generalizing k with
  | refl =>
    exact Nat.le_trans (Qs_mono_j ls N n hj) (Nat.le_trans (Nat.le_of_eq (Qs_next ls N n (by omega)).symm) (Qs_mono_j ls N _ (Nat.zero_le k)))
  | step h ih =>
    rename_i m
    refine Nat.le_trans (ih (k := N) (by omega)) (Nat.le_trans (Nat.le_of_eq (Qs_next ls N m (by omega)).symm) (Qs_mono_j ls N _ (Nat.zero_le k)))
/-- What code a symbol has. -/
theorem pass1_out (ls : Nat → Int) (n : Int) (st : Nat × (Nat → Int)) (i : Nat) : ∀ j, (pass1 ls n j st).2 i = if i < j ∧ ls i = n then ((pass1 ls n i st).1 : Int) else st.2 i := by
  intro j
  induction j with
  | zero => simp [pass1]
  | succ j ih =>
    simp only [pass1]
    by_cases h : ls j = n
    · rw [if_pos h]
      simp only
      by_cases e : i = j
      · subst e
        rw [if_pos rfl, if_pos ⟨by omega, h⟩]
      · rw [if_neg e, ih]
        by_cases q : i < j
        · have : i < j + 1 := by omega
          simp [q, this]
        · have : ¬ i < j + 1 := by omega
          simp [q, this]
    · rw [if_neg h, ih]
      by_cases e : i = j
      · subst e
        simp [h]
      · by_cases q : i < j
        · have : i < j + 1 := by omega
          simp [q, this]
        · have : ¬ i < j + 1 := by omega
          simp [q, this]
theorem passes_out (ls : Nat → Int) (N : Nat) {i : Nat} (hi : i < N) : ∀ m : Nat, (∀ n : Nat, n < m → ls i = (n : Int) + 1 → (passes ls N m).2 i = (stc ls N n i : Nat)) ∧ ((∀ n : Nat, n < m → ls i ≠ (n : Int) + 1) → (passes ls N m).2 i = -1) := by
  intro m
  induction m with
  | zero => exact ⟨fun n h => by omega, fun _ => rfl⟩
  | succ m ih =>
    have e : (passes ls N (m + 1)).2 i = if i < N ∧ ls i = (m : Int) + 1 then (stc ls N m i : Int) else (passes ls N m).2 i := pass1_out ls _ _ i N
    refine ⟨fun n hn hl => ?_, fun h => ?_⟩
    · rw [e]
      by_cases q : n = m
      · subst q; rw [if_pos ⟨hi, hl⟩]
      · rw [if_neg (fun z => by omega)]
        exact ih.1 n (by omega) hl
    · rw [e, if_neg (fun z => h m (by omega) z.2)]
      exact ih.2 (fun n hn => h n (by omega))
/-- The sum over all symbols whose length is n at most. -/
def Tn (ls : Nat → Int) (N n : Nat) : Nat := ((List.range N).map fun i => if 0 < ls i ∧ ls i ≤ n then 2 ^ (11 - (ls i).toNat) else 0).sum
theorem sum_add (f g : Nat → Nat) (l : List Nat) : (l.map fun i => f i + g i).sum = (l.map f).sum + (l.map g).sum := by
  induction l with
  | nil => rfl
  | cons x l ih => simp only [List.map_cons, List.sum_cons, ih]; omega
theorem stc_count (ls : Nat → Int) (N n : Nat) : ∀ j, Qs ls N n j = 2 * (passes ls N n).1 * 2 ^ (10 - n) + ((List.range j).map fun i => if ls i = (n : Int) + 1 then 2 ^ (10 - n) else 0).sum := by
  intro j
  induction j with
  | zero => simp [Qs, stc_zero]
  | succ j ih => rw [Qs_succ, ih, List.range_succ, List.map_append, List.sum_append]; simp; omega
theorem sum_zeros (l : List Nat) : (l.map fun _ => 0).sum = 0 := by
  induction l with
  | nil => rfl
  | cons x l ih => simp only [List.map_cons, List.sum_cons, ih]
theorem passes_sum (ls : Nat → Int) (N : Nat) : ∀ n, n ≤ 11 → (passes ls N n).1 * 2 ^ (11 - n) = Tn ls N n := by
  intro n
  induction n with
  | zero =>
    intro _
    have : (List.range N).map (fun i => if 0 < ls i ∧ ls i ≤ ((0 : Nat) : Int) then 2 ^ (11 - (ls i).toNat) else 0) = (List.range N).map fun _ => 0 := List.map_congr_left (fun i _ => by rw [if_neg (by omega)])
    unfold Tn
    rw [this, sum_zeros]
    simp [passes]
  | succ n ih =>
    intro hn
    have e := stc_count ls N n N
    have ih := ih (by omega)
    have h1 : Qs ls N n N = (passes ls N (n + 1)).1 * 2 ^ (11 - (n + 1)) := by unfold Qs; rw [stc_end, show 11 - (n + 1) = 10 - n by omega]
    have h2 : 2 * (passes ls N n).1 * 2 ^ (10 - n) = (passes ls N n).1 * 2 ^ (11 - n) := by
      rw [show 11 - n = (10 - n) + 1 by omega, Nat.pow_succ, Nat.mul_comm 2, Nat.mul_assoc, Nat.mul_comm 2]
    rw [← h1, e, h2, ih]
    unfold Tn
    rw [← sum_add]
    congr 1
    refine List.map_congr_left (fun i _ => ?_)
    by_cases q : ls i = (n : Int) + 1
    · rw [if_neg (by omega), if_pos q, if_pos (by omega), Nat.zero_add]
      congr 1
      omega
    · by_cases q2 : 0 < ls i ∧ ls i ≤ (n : Int)
      · rw [if_pos q2, if_neg q, if_pos (by omega)]; rfl
      · rw [if_neg q2, if_neg q, if_neg (by omega)]
theorem isSt_T (xs : List Int) (h : InR xs) : (isSt xs).1 = Tn (lf xs) xs.length 11 := by
  have key : ∀ k, k ≤ xs.length → (isSt (xs.take k)).1 = ((List.range k).map fun i => if 0 < lf xs i ∧ lf xs i ≤ ((11 : Nat) : Int) then 2 ^ (11 - (lf xs i).toNat) else 0).sum := by
    intro k
    induction k with
    | zero => intro _; simp [isSt]
    | succ k ih =>
      intro hk
      have e : xs.take (k + 1) = xs.take k ++ [lf xs k] := by rw [List.take_succ_eq_append_getElem (by omega), lf_at (by omega)]
      have hx := h (lf xs k) (by rw [lf_at (by omega)]; exact List.getElem_mem _)
      rw [e, isSt_snoc, List.range_succ, List.map_append, List.sum_append, ← ih (by omega)]
      unfold isStep
      by_cases q : 0 < lf xs k
      · rw [if_pos q]
        simp only [List.map_cons, List.map_nil, List.sum_cons, List.sum_nil, Nat.add_zero]
        rw [if_pos (by omega)]
      · rw [if_neg q]
        simp only [List.map_cons, List.map_nil, List.sum_cons, List.sum_nil, Nat.add_zero]
        rw [if_neg (by omega), Nat.add_zero]
  have := key xs.length (Nat.le_refl _)
  rwa [List.take_length] at this
theorem IsOk.sum_le {xs : List Int} (h : IsOk xs) : (passes (lf xs) xs.length 11).1 ≤ 2048 := by
  obtain ⟨_, hr, h⟩ := h
  have e := passes_sum (lf xs) xs.length 11 (Nat.le_refl _)
  rw [← isSt_T xs hr] at e
  simp only [Nat.sub_self, Nat.pow_zero, Nat.mul_one] at e
  rw [e]
  rcases h with ⟨h1, h2⟩ | h
  · obtain ⟨h3, _⟩ := (isSt_one hr).2 h1
    rw [h3, h2]
    decide
  · omega
/-- Each symbol's code as an interval of 2048. -/
theorem codes_is {xs : List Int} {i : Nat} (hr : InR xs) (hi : i < xs.length) : (xs[i] = 0 ∧ codes xs i = -1) ∨ ∃ n : Nat, n < 11 ∧ xs[i] = (n : Int) + 1 ∧ codes xs i = (stc (lf xs) xs.length n i : Nat) := by
  have hx := hr _ (List.getElem_mem hi)
  have e := passes_out (lf xs) xs.length hi 11
  by_cases h : xs[i] = 0
  · left
    refine ⟨h, e.2 (fun n _ => ?_)⟩
    rw [lf_at hi]; omega
  · right
    refine ⟨xs[i].toNat - 1, by omega, by omega, ?_⟩
    exact e.1 (xs[i].toNat - 1) (by omega) (by rw [lf_at hi]; omega)
theorem IsOk.lt {xs : List Int} (h : IsOk xs) {i n : Nat} (hi : i < xs.length) (hn : n < 11) (hx : xs[i] = (n : Int) + 1) : stc (lf xs) xs.length n i < 2 ^ (n + 1) := by
  have h1 : Qs (lf xs) xs.length n i + 2 ^ (10 - n) ≤ 2048 := by
    have e := Qs_succ (lf xs) xs.length n i
    rw [lf_at hi, if_pos hx] at e
    rw [← e]
    have h10 : Qs (lf xs) xs.length 10 xs.length = (passes (lf xs) xs.length 11).1 := by unfold Qs; rw [stc_end]; simp
    have h2 : Qs (lf xs) xs.length n (i + 1) ≤ Qs (lf xs) xs.length 10 xs.length := by
      by_cases q : n = 10
      · subst q; exact Qs_mono_j _ _ _ hi
      · exact Qs_mono _ _ (by omega) (Nat.le_refl _) hi
    have := h.sum_le
    omega
  unfold Qs at h1
  have h3 : 2048 = 2 ^ (n + 1) * 2 ^ (10 - n) := by rw [← Nat.pow_add, show n + 1 + (10 - n) = 11 by omega]
  rw [h3] at h1
  have h4 : (stc (lf xs) xs.length n i + 1) * 2 ^ (10 - n) ≤ 2 ^ (n + 1) * 2 ^ (10 - n) := by rw [Nat.add_mul, Nat.one_mul]; exact h1
  have := Nat.le_of_mul_le_mul_right h4 (Nat.pow_pos (by omega))
  omega
/-- No code begins another one. -/
theorem free {xs : List Int} {i k n m : Nat} (hi : i < xs.length) (hk : k < xs.length) (hne : i ≠ k) (hn : n < 11) (hm : m < 11) (hxi : xs[i] = (n : Int) + 1) (hxk : xs[k] = (m : Int) + 1) (hle : n ≤ m) :
    stc (lf xs) xs.length m k / 2 ^ (m - n) ≠ stc (lf xs) xs.length n i := by
  intro e
  have hp : 0 < 2 ^ (m - n) := Nat.pow_pos (by omega)
  have h1 : stc (lf xs) xs.length n i * 2 ^ (m - n) ≤ stc (lf xs) xs.length m k := by rw [← e]; exact Nat.div_mul_le_self _ _
  have h2 : stc (lf xs) xs.length m k < (stc (lf xs) xs.length n i + 1) * 2 ^ (m - n) := by rw [← e, Nat.mul_comm]; exact Nat.lt_mul_div_succ _ hp
  have hpow : 2 ^ (10 - n) = 2 ^ (m - n) * 2 ^ (10 - m) := by rw [← Nat.pow_add, show m - n + (10 - m) = 10 - n by omega]
  have hq : 0 < 2 ^ (10 - m) := Nat.pow_pos (by omega)
  -- in the intervals
  have q1 : Qs (lf xs) xs.length n i ≤ Qs (lf xs) xs.length m k := by
    unfold Qs
    rw [hpow, ← Nat.mul_assoc]
    exact Nat.mul_le_mul_right _ h1
  have q2 : Qs (lf xs) xs.length m k < Qs (lf xs) xs.length n i + 2 ^ (10 - n) := by
    unfold Qs
    rw [hpow, ← Nat.mul_assoc, ← Nat.add_mul, ← Nat.succ_mul] <;> try exact (Nat.mul_lt_mul_right hq).2 h2
  have ei := Qs_succ (lf xs) xs.length n i
  rw [lf_at hi, if_pos hxi] at ei
  have ek := Qs_succ (lf xs) xs.length m k
  rw [lf_at hk, if_pos hxk] at ek
  by_cases q : n = m
  · subst q
    rcases Nat.lt_or_gt_of_ne hne with h | h
    · have := Qs_mono_j (lf xs) xs.length n (show i + 1 ≤ k from h)
      omega
    · have := Qs_mono_j (lf xs) xs.length n (show k + 1 ≤ i from h)
      omega
  · have := Qs_mono (lf xs) xs.length (k := k) (show n < m by omega) (by omega) (show i + 1 ≤ xs.length from hi)
    omega
end Go.Hf
