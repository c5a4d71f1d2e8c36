/- The bytes of bits. fse, in plain words: shares, states, the bits of symbols. match, in plain words: what was there already, steps, what stands as it is. seqs, in plain words: numbers' codes, offsets' values, rows, steps as bytes. -/
import Derived.Lib.ItoaNum
import Derived.Test.YtmioiaeiflbmhaaGreatX05
namespace Go.Proofs.YtmioiaeiflbmhaaGreat.He
open Go Go.RowKit Go.ChangeMaps Go.MapKept Go.Mg Go.Hf Go.Sort Go.Proofs.YtmioiaeiflbmhaaGreat.Hu Go.Proofs.YtmioiaeiflbmhaaGreat.Bw
def pack (B : List Bool) : List UInt8 := (List.range (B.length / 8 + 1)).map fun i => UInt8.ofNat (fin (fun i => B[i]?.getD false) B.length i)
theorem pack_len (B : List Bool) : (pack B).length = B.length / 8 + 1 := by simp [pack]
theorem pack_row {w : World} {g : Nat} {B : List Bool} (h : UAt w g (B.length / 8 + 1) (fin (fun i => B[i]?.getD false) B.length)) (hB : B.length ≤ 100000) :
    RowM 5 u8c g w (.slice (some ⟨g, 0, none⟩) (pack B).length (pack B).length) (pack B) := by
  have hl := pack_len B
  have e : (pack B).map u8c = (List.range (B.length / 8 + 1)).map fun i => Value.int .u8 (fin (fun i => B[i]?.getD false) B.length i : Nat) := by
    unfold pack
    rw [List.map_map]
    apply List.map_congr_left
    intro i _
    have := fin_lt (fun i => B[i]?.getD false) B.length i
    simp only [Function.comp, u8c]
    congr 1
    rw [UInt8.toNat_ofNat']
    omega
  refine ⟨_, _, rfl, ⟨by simp, .inr ⟨g, (pack B).length, _, (0, 0), rfl, h, .inl rfl, Nat.le_refl _, by unfold maxLen; omega, ?_, ?_⟩⟩, fun k hk => Nat.le_of_eq (own_b hk).symm⟩
  · simp [hl]
  · rw [e]
    simp only [Nat.mul_one]
    rw [List.take_of_length_le (by simp [hl])]
end Go.Proofs.YtmioiaeiflbmhaaGreat.He
namespace Go.Fse
def sm (f : Nat → Nat) : Nat → Nat
  | 0 => 0
  | n + 1 => sm f n + f n
theorem sm_mono (f : Nat → Nat) {m n : Nat} (h : m ≤ n) : sm f m ≤ sm f n := by
  induction n with
  | zero => have : m = 0 := by omega
            subst this; exact Nat.le_refl _
  | succ n ih =>
    by_cases e : m = n + 1
    · subst e; exact Nat.le_refl _
    · have := ih (by omega); simp only [sm]; omega
theorem sm_le (f : Nat → Nat) {i n : Nat} (h : i < n) : f i ≤ sm f n := by
  have := sm_mono f (show i + 1 ≤ n by omega)
  simp only [sm] at this; omega
theorem sm_bound {f : Nat → Nat} {b : Nat} : ∀ n, (∀ i, i < n → f i ≤ b) → sm f n ≤ n * b
  | 0, _ => by simp [sm]
  | n + 1, h => by
    have := sm_bound n (fun i hi => h i (by omega))
    have := h n (by omega)
    simp only [sm, Nat.add_mul]; omega
theorem sm_congr {f g : Nat → Nat} : ∀ n, (∀ i, i < n → f i = g i) → sm f n = sm g n
  | 0, _ => rfl
  | n + 1, h => by simp only [sm, sm_congr n (fun i hi => h i (by omega)), h n (by omega)]
def up (f : Nat → Nat) (k x : Nat) : Nat → Nat := fun i => if i = k then x else f i
theorem sm_up (f : Nat → Nat) (k x : Nat) : ∀ n, k < n → sm (up f k x) n + f k = sm f n + x
  | 0, h => by omega
  | n + 1, h => by
    by_cases e : k = n
    · subst e
      have := sm_congr (f := up f k x) (g := f) k (fun i hi => by simp [up, show i ≠ k by omega])
      simp only [sm, this, up, if_pos]; omega
    · have := sm_up f k x n (by omega)
      simp only [sm]
      have e2 : up f k x n = f n := by simp [up, show n ≠ k by omega]
      omega
def am (f : Nat → Nat) : Nat → Nat
  | 0 => 0
  | n + 1 => if f (am f n) < f n then n else am f n
theorem am_lt (f : Nat → Nat) : ∀ n, 0 < n → am f n < n
  | 0, h => by omega
  | n + 1, _ => by
    simp only [am]
    split
    · omega
    · by_cases h : 0 < n
      · have := am_lt f n h; omega
      · have : n = 0 := by omega
        subst this; simp [am]
theorem am_max (f : Nat → Nat) : ∀ n i, i < n → f i ≤ f (am f n)
  | 0, _, h => by omega
  | n + 1, i, h => by
    simp only [am]
    by_cases e : i = n
    · subst e; split <;> omega
    · have := am_max f n i (by omega)
      split <;> omega
theorem am_first (f : Nat → Nat) : ∀ n i, i < am f n → f i < f (am f n)
  | 0, _, h => by simp [am] at h
  | n + 1, i, h => by
    simp only [am] at h ⊢
    split
    · rename_i q
      rw [if_pos q] at h
      have := am_max f n i h; omega
    · rename_i q
      rw [if_neg q] at h
      exact am_first f n i h
def n0 (c : Nat → Nat) (all : Nat) : Nat → Nat := fun i => if 0 < c i then max 1 (c i * 64 / all) else 0
def stp (N : Nat) (f : Nat → Nat) : Nat → Nat := up f (am f N) (if sm f N < 64 then f (am f N) + 1 else f (am f N) - 1)
def fixN (N : Nat) : Nat → (Nat → Nat) → (Nat → Nat)
  | 0, f => f
  | d + 1, f => fixN N d (stp N f)
def dist (s : Nat) : Nat := if s < 64 then 64 - s else s - 64
def shn (c : Nat → Nat) (N : Nat) : Nat → Nat := fixN N (dist (sm (n0 c (sm c N)) N)) (n0 c (sm c N))
theorem am_pos {f : Nat → Nat} {N : Nat} (h : 0 < sm f N) : 0 < f (am f N) := by
  apply Nat.pos_of_ne_zero
  intro e
  have := sm_bound (f := f) (b := 0) N (fun i hi => by have := am_max f N i hi; omega)
  omega
theorem dist_step {N : Nat} {f : Nat → Nat} (hN : 0 < N) (h : sm f N ≠ 64) : dist (sm f N) = dist (sm (stp N f) N) + 1 := by
  have h1 := sm_up f (am f N) (if sm f N < 64 then f (am f N) + 1 else f (am f N) - 1) N (am_lt f N hN)
  unfold stp dist
  split at h1
  · rename_i q
    rw [if_pos q, if_pos q]
    split <;> omega
  · rename_i q
    have := am_pos (f := f) (N := N) (by omega)
    rw [if_neg q, if_neg q]
    split <;> omega
theorem fixN_step {N : Nat} {f : Nat → Nat} (hN : 0 < N) (h : sm f N ≠ 64) : fixN N (dist (sm f N)) f = fixN N (dist (sm (stp N f) N)) (stp N f) := by
  rw [dist_step hN h]; rfl
theorem fixN_done {N : Nat} {f : Nat → Nat} (h : sm f N = 64) : fixN N (dist (sm f N)) f = f := by
  rw [h]; rfl
theorem fixN_sum {N : Nat} (hN : 0 < N) : ∀ d f, dist (sm f N) = d → sm (fixN N d f) N = 64
  | 0, f, h => by simp only [fixN]; unfold dist at h; split at h <;> omega
  | d + 1, f, h => by
    simp only [fixN]
    refine fixN_sum hN d _ ?_
    have := dist_step (N := N) (f := f) hN (fun e => by rw [e] at h; simp [dist] at h)
    omega
theorem shn_sum {N : Nat} (hN : 0 < N) (c : Nat → Nat) : sm (shn c N) N = 64 := fixN_sum hN _ _ rfl
theorem shn_le {N : Nat} (hN : 0 < N) (c : Nat → Nat) {i : Nat} (hi : i < N) : shn c N i ≤ 64 := by
  have := sm_le (shn c N) hi
  rw [shn_sum hN c] at this; exact this
theorem stp_le {N : Nat} {f : Nat → Nat} (hN : 0 < N) (h : ∀ i, i < N → f i ≤ 64) : ∀ i, i < N → stp N f i ≤ 64 := by
  intro i hi
  unfold stp up
  split
  · split
    · rename_i q
      have := sm_le f (am_lt f N hN); omega
    · have := h _ (am_lt f N hN); omega
  · exact h i hi
theorem n0_le (c : Nat → Nat) {N : Nat} (i : Nat) (hi : i < N) : n0 c (sm c N) i ≤ 64 := by
  unfold n0
  split
  · have h1 := sm_le c hi
    have : c i * 64 / sm c N ≤ 64 := by
      rw [Nat.mul_comm]
      exact Nat.div_le_of_le_mul (by rw [Nat.mul_comm (sm c N)]; exact Nat.mul_le_mul_left _ h1)
    omega
  · omega
/-! ### States -/
def sa (f : Nat → Nat) : Nat → Nat → Nat
  | 0, _ => 0
  | n + 1, j => if sm f n ≤ j then n else sa f n j
theorem sa_of {f : Nat → Nat} {s j : Nat} (h1 : sm f s ≤ j) (h2 : j < sm f (s + 1)) : ∀ N, s < N → sa f N j = s
  | 0, h => by omega
  | N + 1, h => by
    simp only [sa]
    by_cases e : s = N
    · subst e; rw [if_pos h1]
    · have := sm_mono f (show s + 1 ≤ N by omega)
      rw [if_neg (by omega)]
      exact sa_of h1 h2 N (by omega)
theorem sa_spec {f : Nat → Nat} {j : Nat} : ∀ N, j < sm f N → sa f N j < N ∧ sm f (sa f N j) ≤ j ∧ j < sm f (sa f N j + 1)
  | 0, h => by simp [sm] at h
  | N + 1, h => by
    simp only [sa]
    split
    · rename_i q; exact ⟨by omega, q, h⟩
    · have := sa_spec (f := f) (j := j) N (by omega)
      exact ⟨by omega, this.2⟩
theorem sa_share {f : Nat → Nat} {j N : Nat} (h : j < sm f N) : 0 < f (sa f N j) := by
  obtain ⟨_, h1, h2⟩ := sa_spec N h
  simp only [sm] at h2; omega
def sy (f : Nat → Nat) (N u : Nat) : Nat := sa f N (3 * u % 64)
def syj (f : Nat → Nat) (N j u : Nat) : Nat := if 3 * u % 64 < j then sy f N u else 0
theorem syj_zero (f : Nat → Nat) (N u : Nat) : syj f N 0 u = 0 := by simp [syj]
theorem syj_all (f : Nat → Nat) (N u : Nat) : syj f N 64 u = sy f N u := by
  unfold syj; rw [if_pos (by omega)]
theorem syj_next {f : Nat → Nat} {N s k : Nat} (hs : s < N) (hk : k < f s) (hj : sm f s + k < 64) : ∀ u, u < 64 →
    syj f N (sm f s + k + 1) u = if u = 43 * (sm f s + k) % 64 then s else syj f N (sm f s + k) u := by
  intro u hu
  have e : (3 * u % 64 = sm f s + k) ↔ u = 43 * (sm f s + k) % 64 := by omega
  unfold syj
  by_cases q : u = 43 * (sm f s + k) % 64
  · rw [if_pos q, if_pos (by omega)]
    unfold sy
    rw [e.2 q]
    exact sa_of (by omega) (by simp only [sm]; omega) N hs
  · rw [if_neg q]
    have : 3 * u % 64 ≠ sm f s + k := fun h => q (e.1 h)
    by_cases q2 : 3 * u % 64 < sm f s + k
    · rw [if_pos (by omega), if_pos q2]
    · rw [if_neg (by omega), if_neg q2]
def ct (t : Nat → Nat) (s : Nat) : Nat → Nat
  | 0 => 0
  | u + 1 => ct t s u + if t u = s then 1 else 0
theorem ct_le (t : Nat → Nat) (s u : Nat) : ct t s u ≤ u := by
  induction u with
  | zero => simp [ct]
  | succ u ih => simp only [ct]; split <;> omega
structure Ent where
  sym : Nat
  bits : Nat
  base : Nat
def xx (f : Nat → Nat) (N u : Nat) : Nat := f (sy f N u) + ct (sy f N) (sy f N u) u
def ent (f : Nat → Nat) (N u : Nat) : Ent := ⟨sy f N u, 7 - Lib.bitLen (xx f N u), xx f N u * 2 ^ (7 - Lib.bitLen (xx f N u)) - 64⟩
def Shares (f : Nat → Nat) (N : Nat) : Prop := sm f N = 64
theorem bitLen_spec {x : Nat} (h : x < 2 ^ 64) (h0 : 0 < x) : 1 ≤ Lib.bitLen x ∧ 2 ^ (Lib.bitLen x - 1) ≤ x ∧ x < 2 ^ Lib.bitLen x := by
  have := Lib.bitLenAux_bounds 64 x h (by omega)
  exact this
theorem xx_rng {f : Nat → Nat} {N u : Nat} (h : Shares f N) (hu : u < 64) : 1 ≤ xx f N u ∧ xx f N u ≤ 127 := by
  have h1 : 3 * u % 64 < sm f N := by rw [h]; omega
  have h2 := sa_share h1
  have h3 := sa_spec N h1
  have h4 := sm_le f h3.1
  have h5 := ct_le (sy f N) (sy f N u) u
  unfold xx sy at *
  rw [h] at h4
  omega
theorem ent_rng {f : Nat → Nat} {N u : Nat} (h : Shares f N) (hu : u < 64) :
    (ent f N u).sym < N ∧ 1 ≤ Lib.bitLen (xx f N u) ∧ Lib.bitLen (xx f N u) ≤ 7 ∧ (ent f N u).bits ≤ 6 ∧ 64 ≤ xx f N u * 2 ^ (7 - Lib.bitLen (xx f N u)) ∧ (ent f N u).base < 64 ∧ xx f N u * 2 ^ (7 - Lib.bitLen (xx f N u)) ≤ 127 := by
  have h1 := xx_rng h hu
  have h2 := bitLen_spec (x := xx f N u) (by omega) (by omega)
  have h3 := Lib.bitLen_le (xx f N u) 7 (by omega) (by omega)
  have h4 : 3 * u % 64 < sm f N := by rw [h]; omega
  have h5 := (sa_spec N h4).1
  have e1 : 2 ^ (Lib.bitLen (xx f N u) - 1) * 2 ^ (7 - Lib.bitLen (xx f N u)) = 2 ^ 6 := by rw [← Nat.pow_add]; congr 1; omega
  have e2 : 2 ^ Lib.bitLen (xx f N u) * 2 ^ (7 - Lib.bitLen (xx f N u)) = 2 ^ 7 := by rw [← Nat.pow_add]; congr 1; omega
  have h6 : 2 ^ 6 ≤ xx f N u * 2 ^ (7 - Lib.bitLen (xx f N u)) := by rw [← e1]; exact Nat.mul_le_mul_right _ h2.2.1
  have h7 : xx f N u * 2 ^ (7 - Lib.bitLen (xx f N u)) < 2 ^ 7 := by
    rw [← e2]; exact Nat.mul_lt_mul_of_pos_right h2.2.2 (Nat.two_pow_pos _)
  refine ⟨h5, h2.1, h3, ?_, by omega, ?_, by omega⟩
  · show 7 - Lib.bitLen (xx f N u) ≤ 6
    omega
  · show xx f N u * 2 ^ (7 - Lib.bitLen (xx f N u)) - 64 < 64
    omega
/-! ### Symbols as bits -/
def fst (P : Nat → Bool) : Nat → Option Nat
  | 0 => none
  | n + 1 => (fst P n).or (if P n then some n else none)
theorem fst_none {P : Nat → Bool} : ∀ {n}, (∀ i, i < n → P i = false) → fst P n = none
  | 0, _ => rfl
  | n + 1, h => by simp [fst, fst_none (P := P) (n := n) (fun i hi => h i (by omega)), h n (by omega)]
theorem fst_some {P : Nat → Bool} {k : Nat} (h : ∀ i, i < k → P i = false) (hk : P k = true) : ∀ n, k < n → fst P n = some k
  | 0, q => by omega
  | n + 1, q => by
    by_cases e : k = n
    · subst e; simp [fst, fst_none h, hk]
    · simp [fst, fst_some h hk n (by omega)]
theorem fst_spec {P : Nat → Bool} : ∀ {n u}, fst P n = some u → u < n ∧ P u = true
  | 0, _, h => by cases h
  | n + 1, u, h => by
    simp only [fst] at h
    cases hf : fst P n with
    | some v =>
      rw [hf] at h; cases h
      have := fst_spec hf
      exact ⟨by omega, this.2⟩
    | none =>
      rw [hf] at h
      simp only [Option.none_or] at h
      split at h
      · rename_i q; cases h; exact ⟨by omega, q⟩
      · cases h
def hits (t : Nat → Ent) (s n : Nat) (u : Nat) : Bool := decide ((t u).sym = s) && (decide ((t u).base ≤ n) && decide (n < (t u).base + 2 ^ (t u).bits))
def dgs (q n : Nat) : List Bool := (List.range n).map fun i => decide (q / 2 ^ i % 2 = 1)
def enc (t : Nat → Ent) (l : Nat → Nat) (m : Nat) : Nat → Option (List Bool × Nat)
  | 0 => some ([], 0)
  | j + 1 => match enc t l m j with
    | none => none
    | some (B, n) => match fst (hits t (l (m - 1 - j)) n) 64 with
      | none => none
      | some u => some (B ++ dgs (n - (t u).base) (t u).bits, u)
theorem enc_len {t : Nat → Ent} {l : Nat → Nat} {m : Nat} (ht : ∀ u, u < 64 → (t u).bits ≤ 6) : ∀ {j B n}, enc t l m j = some (B, n) → B.length ≤ 6 * j
  | 0, _, _, h => by simp [enc] at h; simp [h.1]
  | j + 1, B, n, h => by
    simp only [enc] at h
    split at h
    · cases h
    · rename_i B' n' q1
      split at h
      · cases h
      · rename_i q
        cases h
        have := enc_len ht q1
        have := ht n (fst_spec q).1
        simp [dgs]; omega
def encAll (t : Nat → Ent) (l : Nat → Nat) (m : Nat) : Option (List Bool) := (enc t l m m).map fun x => x.1 ++ dgs x.2 6
theorem enc_stop {t : Nat → Ent} {l : Nat → Nat} {m j : Nat} (h : enc t l m j = none) : ∀ i, j ≤ i → enc t l m i = none
  | 0, hi => by have : j = 0 := by omega
                subst this; exact h
  | i + 1, hi => by
    by_cases e : j = i + 1
    · subst e; exact h
    · simp only [enc, enc_stop h i (by omega)]
end Go.Fse
namespace Go.Mt
structure Sq where
  lit : Nat
  off : Nat
  len : Nat
section
variable (a : Nat → Nat) (m : Nat)
def lng (j i : Nat) : Nat → Nat → Nat
  | 0, n => n
  | f + 1, n => if i + n < m ∧ a (j + n) = a (i + n) then lng j i f (n + 1) else n
def long (j i : Nat) : Nat := lng a m j i (m - i) 0
variable {a : Nat → Nat} {m : Nat}
theorem lng_step {j i n : Nat} (h : i + n < m) (e : a (j + n) = a (i + n)) : lng a m j i (m - i - n) n = lng a m j i (m - i - (n + 1)) (n + 1) := by
  obtain ⟨f, hf⟩ : ∃ f, m - i - n = f + 1 := ⟨m - i - n - 1, by omega⟩
  rw [hf, show m - i - (n + 1) = f by omega, lng, if_pos ⟨h, e⟩]
theorem lng_end {j i n : Nat} (h : m ≤ i + n) : lng a m j i (m - i - n) n = n := by
  rw [show m - i - n = 0 by omega, lng]
theorem lng_stop {j i n : Nat} (e : a (j + n) ≠ a (i + n)) : lng a m j i (m - i - n) n = n := by
  cases hf : m - i - n with
  | zero => rw [lng]
  | succ f => rw [lng, if_neg (fun q => e q.2)]
theorem lng_le {j i : Nat} : ∀ f n, i + n + f ≤ m ∨ f = 0 → lng a m j i f n ≤ n + f
  | 0, n, _ => Nat.le_refl _
  | f + 1, n, h => by
    rw [lng]
    split
    · have := lng_le (j := j) (i := i) f (n + 1) (by omega); omega
    · omega
theorem long_le {j i : Nat} (h : i ≤ m) : long a m j i ≤ m - i := by
  have := lng_le (a := a) (m := m) (j := j) (i := i) (m - i) 0 (by omega)
  rw [Nat.zero_add] at this
  exact this
end
section
variable (a : Nat → Nat) (m : Nat)
def bst (i depth : Nat) : Nat → Nat → Nat → Nat → Nat × Nat
  | 0, _, off, size => (off, size)
  | j + 1, tried, off, size => if long a m j i < 4 then bst i depth j tried off size
    else if size < long a m j i then (if tried + 1 = depth then (i - j, long a m j i) else bst i depth j (tried + 1) (i - j) (long a m j i))
    else (if tried + 1 = depth then (off, size) else bst i depth j (tried + 1) off size)
def best (i depth : Nat) : Nat × Nat := bst a m i depth i 0 0 0
def Ok (i : Nat) (p : Nat × Nat) : Prop := p.2 = 0 ∨ (4 ≤ p.2 ∧ p.2 ≤ m - i ∧ 1 ≤ p.1 ∧ p.1 ≤ i)
variable {a : Nat → Nat} {m : Nat}
theorem bst_ok {i depth : Nat} (hi : i ≤ m) : ∀ j tried off size, j ≤ i → Ok m i (off, size) → Ok m i (bst a m i depth j tried off size)
  | 0, _, _, _, _, h => h
  | j + 1, tried, off, size, hj, h => by
    have h1 := long_le (a := a) (j := j) hi
    rw [bst]
    split
    · exact bst_ok hi j _ _ _ (by omega) h
    · rename_i q
      have h2 : Ok m i (i - j, long a m j i) := .inr ⟨by simp only; omega, h1, by simp only; omega, by simp only; omega⟩
      split
      · split
        · exact h2
        · exact bst_ok hi j _ _ _ (by omega) h2
      · split
        · exact h
        · exact bst_ok hi j _ _ _ (by omega) h
theorem best_ok {i depth : Nat} (hi : i ≤ m) : Ok m i (best a m i depth) := bst_ok hi i 0 0 0 (Nat.le_refl _) (.inl rfl)
end
section
variable (a : Nat → Nat) (m depth : Nat)
def prs : Nat → Nat → Nat → List Sq
  | 0, _, _ => []
  | f + 1, i, lit => if i + 4 ≤ m then (if (best a m i depth).2 = 0 then prs f (i + 1) (lit + 1) else ⟨lit, (best a m i depth).1, (best a m i depth).2⟩ :: prs f (i + (best a m i depth).2) 0) else []
def rest (i lit : Nat) : List Sq := prs a m depth (m - i) i lit
variable {a : Nat → Nat} {m depth : Nat}
theorem prs_fuel : ∀ f g i lit, m - i ≤ f → m - i ≤ g → prs a m depth f i lit = prs a m depth g i lit
  | 0, 0, _, _, _, _ => rfl
  | 0, g + 1, i, lit, h, _ => by rw [prs, prs, if_neg (by omega)]
  | f + 1, 0, i, lit, _, h => by rw [prs, prs, if_neg (by omega)]
  | f + 1, g + 1, i, lit, h1, h2 => by
    rw [prs, prs]
    split
    · split
      · exact prs_fuel f g _ _ (by omega) (by omega)
      · rename_i q
        rw [prs_fuel f g _ _ (by omega) (by omega)]
    · rfl
theorem rest_end {i lit : Nat} (h : m < i + 4) : rest a m depth i lit = [] := by
  unfold rest
  cases m - i with
  | zero => rw [prs]
  | succ f => rw [prs, if_neg (by omega)]
theorem rest_lit {i lit : Nat} (h : i + 4 ≤ m) (e : (best a m i depth).2 = 0) : rest a m depth i lit = rest a m depth (i + 1) (lit + 1) := by
  unfold rest
  obtain ⟨f, hf⟩ : ∃ f, m - i = f + 1 := ⟨m - i - 1, by omega⟩
  rw [hf, prs, if_pos h, if_pos e]
  exact prs_fuel _ _ _ _ (by omega) (by omega)
theorem rest_hit {i lit : Nat} (h : i + 4 ≤ m) (e : (best a m i depth).2 ≠ 0) : rest a m depth i lit = ⟨lit, (best a m i depth).1, (best a m i depth).2⟩ :: rest a m depth (i + (best a m i depth).2) 0 := by
  unfold rest
  obtain ⟨f, hf⟩ : ∃ f, m - i = f + 1 := ⟨m - i - 1, by omega⟩
  rw [hf, prs, if_pos h, if_neg e]
  rw [prs_fuel f (m - (i + (best a m i depth).2)) _ _ (by omega) (by omega)]
def tot : List Sq → Nat
  | [] => 0
  | s :: l => s.lit + s.len + tot l
theorem tot_append (l r : List Sq) : tot (l ++ r) = tot l + tot r := by
  induction l with
  | nil => simp [tot]
  | cons s l ih => simp only [List.cons_append, tot, ih]; omega
theorem prs_tot : ∀ f i lit, i ≤ m → tot (prs a m depth f i lit) ≤ m - i + lit ∧ 4 * (prs a m depth f i lit).length ≤ m - i
  | 0, i, lit, _ => by simp [prs, tot]
  | f + 1, i, lit, hi => by
    rw [prs]
    split
    · split
      · have := prs_tot f (i + 1) (lit + 1) (by omega); omega
      · rename_i q
        rcases best_ok (a := a) (depth := depth) hi with h | h
        · exact absurd h q
        · have := prs_tot f (i + (best a m i depth).2) 0 (by omega)
          simp only [tot, List.length_cons]
          omega
    · simp [tot]
theorem prs_each : ∀ f i lit, i ≤ m → ∀ s ∈ prs a m depth f i lit, s.lit ≤ m - i + lit ∧ 1 ≤ s.off ∧ s.off ≤ m ∧ 4 ≤ s.len ∧ s.len ≤ m - i
  | 0, i, lit, _, s, hs => by simp [prs] at hs
  | f + 1, i, lit, hi, s, hs => by
    rw [prs] at hs
    split at hs
    · split at hs
      · have := prs_each f (i + 1) (lit + 1) (by omega) s hs; omega
      · rename_i q
        rcases best_ok (a := a) (depth := depth) hi with h | h
        · exact absurd h q
        · rcases List.mem_cons.1 hs with rfl | hs
          · simp only; omega
          · have := prs_each f (i + (best a m i depth).2) 0 (by omega) s hs; omega
    · cases hs
theorem rest_tot {i : Nat} (hi : i ≤ m) : tot (rest a m depth i 0) ≤ m - i ∧ 4 * (rest a m depth i 0).length ≤ m - i := by
  have := prs_tot (a := a) (depth := depth) (m - i) i 0 hi
  unfold rest; omega
theorem rest_each {i : Nat} (hi : i ≤ m) : ∀ s ∈ rest a m depth i 0, s.lit ≤ m - i ∧ 1 ≤ s.off ∧ s.off ≤ m ∧ 4 ≤ s.len ∧ s.len ≤ m - i := by
  intro s hs
  have := prs_each (a := a) (depth := depth) (m - i) i 0 hi s hs
  omega
end
/-! ### What stands as it is -/
def dfl : Sq := ⟨0, 0, 0⟩
def sqAt (l : List Sq) (i : Nat) : Sq := l[i]?.getD dfl
variable {α : Type}
def lts (d : List α) (l : List Sq) : Nat → List α × Nat
  | 0 => ([], 0)
  | i + 1 => ((lts d l i).1 ++ (d.drop (lts d l i).2).take (sqAt l i).lit, (lts d l i).2 + (sqAt l i).lit + (sqAt l i).len)
def literals (d : List α) (l : List Sq) : List α := (lts d l l.length).1 ++ d.drop (lts d l l.length).2
theorem lts_tot (d : List α) (l : List Sq) : ∀ i, i ≤ l.length → (lts d l i).2 = tot (l.take i)
  | 0, _ => by simp [lts, tot]
  | i + 1, h => by
    have hi : i < l.length := by omega
    rw [List.take_succ_eq_append_getElem hi, tot_append, ← lts_tot d l i (by omega)]
    simp [lts, tot, sqAt, hi]; omega
theorem tot_take (l : List Sq) (i : Nat) : tot (l.take i) ≤ tot l := by
  have := tot_append (l.take i) (l.drop i)
  rw [List.take_append_drop] at this; omega
theorem lts_le (d : List α) (l : List Sq) (h : tot l ≤ d.length) (i : Nat) (hi : i < l.length) : (lts d l i).2 + (sqAt l i).lit + (sqAt l i).len ≤ d.length := by
  have h1 := lts_tot d l (i + 1) (by omega)
  have h2 := tot_take l (i + 1)
  simp only [lts] at h1
  omega
theorem lts_len (d : List α) (l : List Sq) : ∀ i, (lts d l i).1.length ≤ (lts d l i).2
  | 0 => by simp [lts]
  | i + 1 => by
    have := lts_len d l i
    simp only [lts, List.length_append]
    have := List.length_take_le (sqAt l i).lit (d.drop (lts d l i).2)
    omega
theorem literals_len (d : List α) (l : List Sq) (h : tot l ≤ d.length) : (literals d l).length ≤ d.length := by
  have h1 := lts_len d l l.length
  have h2 := lts_tot d l l.length (Nat.le_refl _)
  rw [List.take_length] at h2
  simp only [literals, List.length_append, List.length_drop]
  omega
end Go.Mt
namespace Go.Proofs.YtmioiaeiflbmhaaGreat.Sq
open Go Go.Mt Go.Proofs.YtmioiaeiflbmhaaGreat.He
/-! ### Codes -/
def nb (v : Nat) : Nat := Lib.bitLen v - 1
def ex (v : Nat) : Nat := if v = 0 then 0 else v - 2 ^ (Lib.bitLen v - 1)
theorem cd_le {v : Nat} (h : v < 4096) : Lib.bitLen v ≤ 12 := Lib.bitLen_le v 12 (by omega) (by omega)
theorem ex_lt {v : Nat} (h : v < 4096) : ex v < 2 ^ nb v := by
  unfold ex nb
  split
  · exact Nat.two_pow_pos _
  · rename_i q
    have := Fse.bitLen_spec (x := v) (by omega) (by omega)
    have e : 2 ^ Lib.bitLen v = 2 ^ (Lib.bitLen v - 1) * 2 := by rw [← Nat.pow_succ]; congr 1; omega
    omega
/-! ### Offsets -/
structure H3 where
  a : Nat
  b : Nat
  c : Nat
def ofv (h : H3) (off : Nat) : Nat := if h.a = off then 0 else if h.b = off then 1 else if h.c = off then 2 else off + 2
def mv (h : H3) (v off : Nat) : H3 := if v = 0 then h else if v = 1 then ⟨off, h.a, h.c⟩ else ⟨off, h.a, h.b⟩
def hs (l : Nat → Nat) (h : H3) : Nat → H3
  | 0 => h
  | i + 1 => mv (hs l h i) (ofv (hs l h i) (l i)) (l i)
def val (l : Nat → Nat) (h : H3) (i : Nat) : Nat := ofv (hs l h i) (l i)
theorem ofv_le (h : H3) (off : Nat) : ofv h off ≤ off + 2 := by
  unfold ofv; split
  · omega
  · split
    · omega
    · split <;> omega
/-! ### Rows -/
def two (n : Nat) : List UInt8 := [UInt8.ofNat n, UInt8.ofNat (n / 256)]
def cn (v : Nat → Nat) : Nat → Nat → Nat
  | 0, _ => 0
  | i + 1, c => cn v i c + if c = Lib.bitLen (v i) then 1 else 0
theorem cn_le (v : Nat → Nat) (n c : Nat) : cn v n c ≤ n := by
  induction n with
  | zero => simp [cn]
  | succ n ih => simp only [cn]; split <;> omega
theorem cn_sum (v : Nat → Nat) (N : Nat) : ∀ n, (∀ i, i < n → Lib.bitLen (v i) < N) → Fse.sm (cn v n) N = n
  | 0, _ => by
    have := Fse.sm_bound (f := cn v 0) (b := 0) N (fun i _ => by simp [cn])
    omega
  | n + 1, h => by
    have ih := cn_sum v N n (fun i hi => h i (by omega))
    have h1 := Fse.sm_up (cn v n) (Lib.bitLen (v n)) (cn v n (Lib.bitLen (v n)) + 1) N (h n (by omega))
    have h2 := Fse.sm_congr (f := cn v (n + 1)) (g := Fse.up (cn v n) (Lib.bitLen (v n)) (cn v n (Lib.bitLen (v n)) + 1)) N (fun i _ => by
      simp only [cn, Fse.up]
      by_cases e : i = Lib.bitLen (v n)
      · rw [if_pos e, if_pos e, e]
      · rw [if_neg e, if_neg e]; omega)
    omega
def nrm (v : Nat → Nat) (n : Nat) : Nat → Nat := Fse.shn (cn v n) 16
def encB (v : Nat → Nat) (n : Nat) : Option (List Bool) := Fse.encAll (Fse.ent (nrm v n) 16) (fun i => Lib.bitLen (v i)) n
def packO : Option (List Bool) → List UInt8
  | some B => pack B
  | none => []
def shares (v : Nat → Nat) (n : Nat) : List UInt8 := (List.range 16).map fun i => UInt8.ofNat (nrm v n i)
def sized (b : List UInt8) : List UInt8 := two b.length ++ b
def rowB (v : Nat → Nat) (n : Nat) : List UInt8 := shares v n ++ sized (packO (encB v n))
def lit (l : List Sq) (i : Nat) : Nat := (sqAt l i).lit
def ofs (l : List Sq) (i : Nat) : Nat := (sqAt l i).off
def mor (l : List Sq) (i : Nat) : Nat := (sqAt l i).len - 4
def off (l : List Sq) (h : H3) : Nat → Nat := val (ofs l) h
def xb (v : Nat) : List Bool := Fse.dgs (ex v) (nb v)
def exB (l : List Sq) (h : H3) : Nat → List Bool
  | 0 => []
  | j + 1 => exB l h j ++ xb (mor l (l.length - 1 - j)) ++ xb (off l h (l.length - 1 - j)) ++ xb (lit l (l.length - 1 - j))
def packB (l : List Sq) (h : H3) : List UInt8 :=
  if l.length = 0 then two 0 else two l.length ++ rowB (lit l) l.length ++ rowB (off l h) l.length ++ rowB (mor l) l.length ++ sized (pack (exB l h l.length))
def May (l : List Sq) : Prop := l.length ≤ 500 ∧ ∀ s ∈ l, s.lit ≤ 500 ∧ 1 ≤ s.off ∧ s.off ≤ 2500 ∧ 4 ≤ s.len ∧ s.len ≤ 500
theorem May.at_ {l : List Sq} (h : May l) {i : Nat} (hi : i < l.length) : lit l i ≤ 500 ∧ 1 ≤ ofs l i ∧ ofs l i ≤ 2500 ∧ 4 ≤ (sqAt l i).len ∧ (sqAt l i).len ≤ 500 := by
  have := h.2 _ (List.getElem_mem hi)
  simpa [lit, ofs, sqAt, hi] using this
theorem ofs_le {l : List Sq} (h : May l) (i : Nat) : ofs l i ≤ 2500 := by
  by_cases hi : i < l.length
  · exact (h.at_ hi).2.2.1
  · simp [ofs, sqAt, List.getElem?_eq_none (Nat.le_of_not_lt hi), dfl]
theorem off_le {l : List Sq} (h : May l) (hh : H3) (i : Nat) : off l hh i ≤ 2502 := by
  have := ofv_le (hs (ofs l) hh i) (ofs l i)
  have := ofs_le h i
  unfold off val; omega
theorem lit_le {l : List Sq} (h : May l) (i : Nat) : lit l i ≤ 500 := by
  by_cases hi : i < l.length
  · exact (h.at_ hi).1
  · simp [lit, sqAt, List.getElem?_eq_none (Nat.le_of_not_lt hi), dfl]
theorem mor_le {l : List Sq} (h : May l) (i : Nat) : mor l i ≤ 496 := by
  by_cases hi : i < l.length
  · have := (h.at_ hi).2.2.2.2
    unfold mor; omega
  · simp [mor, sqAt, List.getElem?_eq_none (Nat.le_of_not_lt hi), dfl]
theorem xb_len {v : Nat} (h : v < 4096) : (xb v).length ≤ 11 := by
  have := cd_le h
  simp [xb, Fse.dgs, nb]; omega
theorem exB_len {l : List Sq} (h : May l) (hh : H3) : ∀ j, (exB l hh j).length ≤ 33 * j
  | 0 => by simp [exB]
  | j + 1 => by
    have h0 := exB_len h hh j
    have h1 := xb_len (v := mor l (l.length - 1 - j)) (by have := mor_le h (l.length - 1 - j); omega)
    have h2 := xb_len (v := off l hh (l.length - 1 - j)) (by have := off_le h hh (l.length - 1 - j); omega)
    have h3 := xb_len (v := lit l (l.length - 1 - j)) (by have := lit_le h (l.length - 1 - j); omega)
    simp only [exB, List.length_append]; omega
end Go.Proofs.YtmioiaeiflbmhaaGreat.Sq
