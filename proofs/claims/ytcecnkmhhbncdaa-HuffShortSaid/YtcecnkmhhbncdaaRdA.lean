/- bits: what a Reader reads, in plain words. -/
import Derived.Test.YtcecnkmhhbncdaaHuffC
import Derived.Laws.BitsLemmas
import Derived.Lib.BitFns
namespace Go.Hf
/-- The bit k of bytes. -/
def bb (l : List UInt8) (k : Nat) : Bool := decide ((l[k / 8]?.getD 0).toNat / 2 ^ (k % 8) % 2 = 1)
/-- Bytes that are bits with a 1 behind them. -/
def Gb (l : List UInt8) : Prop := 0 < l.length ∧ (l[l.length - 1]?.getD 0).toNat ≠ 0
/-- The place of the highest 1. -/
def hi (x : Nat) : Nat := Lib.bitLen x - 1
def top (l : List UInt8) : Nat := 8 * (l.length - 1) + hi (l[l.length - 1]?.getD 0).toNat
def hiOk (x : Nat) : Bool := x == 0 || (decide (Lib.bitLen x = hi x + 1) && decide (hi x < 8) && decide (x / 2 ^ hi x % 2 = 1) && decide (x / 2 ^ (hi x + 1) = 0))
set_option maxRecDepth 100000 in
theorem hiOk_all : ((List.range 256).all hiOk) = true := by decide +kernel
theorem hi_spec {x : Nat} (h0 : x ≠ 0) (h : x < 256) : Lib.bitLen x = hi x + 1 ∧ hi x < 8 ∧ x / 2 ^ hi x % 2 = 1 ∧ ∀ j, hi x < j → x / 2 ^ j % 2 = 0 := by
  have := List.all_eq_true.1 hiOk_all x (List.mem_range.2 h)
  simp only [hiOk, Bool.or_eq_true, beq_iff_eq, h0, false_or, Bool.and_eq_true, decide_eq_true_eq] at this
  obtain ⟨⟨⟨h1, h2⟩, h3⟩, h4⟩ := this
  refine ⟨h1, h2, h3, fun j hj => ?_⟩
  have : x / 2 ^ j = 0 := by
    obtain ⟨d, rfl⟩ : ∃ d, j = hi x + 1 + d := ⟨j - (hi x + 1), by omega⟩
    rw [Nat.pow_add, ← Nat.div_div_eq_div_mul, h4, Nat.zero_div]
  rw [this]
theorem top_lt {l : List UInt8} (h : Gb l) : top l < 8 * l.length ∧ 8 * (l.length - 1) ≤ top l := by
  have := (hi_spec h.2 (l[l.length - 1]?.getD 0).toNat_lt).2.1
  have := h.1
  unfold top
  omega
theorem bb_top {l : List UInt8} (h : Gb l) : bb l (top l) = true := by
  have hs := hi_spec h.2 (l[l.length - 1]?.getD 0).toNat_lt
  have e1 : top l / 8 = l.length - 1 := by unfold top; omega
  have e2 : top l % 8 = hi (l[l.length - 1]?.getD 0).toNat := by unfold top; omega
  unfold bb
  rw [e1, e2]
  exact decide_eq_true hs.2.2.1
theorem bb_above {l : List UInt8} (h : Gb l) {k : Nat} (h1 : top l < k) (h2 : k < 8 * l.length) : bb l k = false := by
  have hs := hi_spec h.2 (l[l.length - 1]?.getD 0).toNat_lt
  have := (top_lt h).2
  have e1 : k / 8 = l.length - 1 := by omega
  have e2 : hi (l[l.length - 1]?.getD 0).toNat < k % 8 := by unfold top at h1; omega
  unfold bb
  rw [e1]
  exact decide_eq_false (by rw [hs.2.2.2 _ e2]; decide)

/-- The number of n bits from 'at' on. -/
def nv (f : Nat → Bool) (at_ : Nat) : Nat → Nat
  | 0 => 0
  | n + 1 => nv f at_ n + (if f (at_ + n) = true then 2 ^ n else 0)
theorem nv_lt (f : Nat → Bool) (at_ n : Nat) : nv f at_ n < 2 ^ n := by
  induction n with
  | zero => simp [nv]
  | succ n ih => simp only [nv, Nat.pow_succ]; split <;> omega
theorem nv_low (f : Nat → Bool) (at_ n : Nat) : nv f at_ (n + 1) = 2 * nv f (at_ + 1) n + (if f at_ = true then 1 else 0) := by
  induction n with
  | zero => simp [nv]
  | succ n ih =>
    rw [nv, ih]
    simp only [nv, Nat.pow_succ, show at_ + (n + 1) = at_ + 1 + n by omega]
    generalize (if f at_ = true then 1 else 0) = b
    by_cases h : f (at_ + 1 + n) = true
    · rw [if_pos h, if_pos h]; omega
    · rw [if_neg h, if_neg h]; omega
theorem or_up (v k : Nat) (hv : v < 2 ^ k) (hk : k < 40) : Go.bits .or .i64 (v : Int) ((2 : Int) ^ k) = ((v + 2 ^ k : Nat) : Int) := by
  have h40 : 2 ^ k ≤ 2 ^ 39 := Nat.pow_le_pow_right (by omega) (by omega)
  have h63 : 2 ^ 62 = 4611686018427387904 := rfl
  have h39 : 2 ^ 39 = 549755813888 := rfl
  have := (bits_nat .i64 62 (by decide) (fun n h0 h1 => by
    have e62 : (2 : Int) ^ 62 = 4611686018427387904 := rfl
    rw [IntKind.wrap_i64]; omega) v (2 ^ k) (by omega) (by omega)).2
  have e : ((2 ^ k : Nat) : Int) = (2 : Int) ^ k := by simp
  rw [e] at this
  rw [this, Nat.or_comm, ← Nat.mul_one (2 ^ k), ← Nat.two_pow_add_eq_or_of_lt hv 1]
  simp [Nat.add_comm]
theorem or_low (v : Nat) (b : Nat) (hb : b < 2) (hv : v < 2 ^ 40) : Go.bits .or .i64 ((2 * v : Nat) : Int) (b : Int) = ((2 * v + b : Nat) : Int) := by
  have h63 : (2 : Nat) ^ 62 = 4611686018427387904 := rfl
  have h40 : (2 : Nat) ^ 40 = 1099511627776 := rfl
  have := (bits_nat .i64 62 (by decide) (fun n h0 h1 => by
    have e62 : (2 : Int) ^ 62 = 4611686018427387904 := rfl
    rw [IntKind.wrap_i64]; omega) (2 * v) b (by omega) (by omega)).2
  rw [this]
  have h := Nat.two_pow_add_eq_or_of_lt (i := 1) (b := b) (by omega) v
  simp only [Nat.pow_one] at h
  rw [h]
theorem low_bit (x k : Nat) (hx : x < 256) : Go.bits .and .u8 ((x : Int) / 2 ^ k) 1 = ((x / 2 ^ k % 2 : Nat) : Int) := by
  have e : (x : Int) / 2 ^ k = ((x / 2 ^ k : Nat) : Int) := by simp
  have hle : x / 2 ^ k ≤ x := Nat.div_le_self _ _
  rw [e]
  generalize x / 2 ^ k = y at hle
  have h := bits_mask .u8 8 (by decide) (fun n h0 h1 => by
    have e8 : (2 : Int) ^ 8 = 256 := rfl
    rw [IntKind.wrap_u8]; omega) 1 (by decide) (y : Int) (Int.natCast_nonneg _) (by
      have e8 : (2 : Int) ^ 8 = 256 := rfl
      rw [e8]; omega)
  have e1 : (2 : Int) ^ 1 - 1 = 1 := rfl
  have e2 : (2 : Int) ^ 1 = 2 := rfl
  rw [e1, e2] at h
  rw [h]
  omega

/-! ### Codes read -/
/-- The first symbol of the code. -/
def fd (xs : List Int) (code : Int) (n : Int) : Nat → Option Nat
  | 0 => none
  | k + 1 => match fd xs code n k with
    | some s => some s
    | none => if lf xs k = n ∧ codes xs k = code then some k else none
/-- One symbol: of the lengths from n on, so many of them. -/
def oneS (xs : List Int) (f : Nat → Bool) : Nat → Nat → Nat → Nat → Option (Nat × Nat)
  | 0, _, _, _ => none
  | m + 1, n, code, r => if r = 0 then none else
      match fd xs ((2 * code + (if f (r - 1) = true then 1 else 0) : Nat) : Int) (n : Int) xs.length with
      | some s => some (s, r - 1)
      | none => oneS xs f m (n + 1) (2 * code + (if f (r - 1) = true then 1 else 0)) (r - 1)
/-- So many symbols. -/
def manyS (xs : List Int) (f : Nat → Bool) (r : Nat) : Nat → Option (List Nat × Nat)
  | 0 => some ([], r)
  | k + 1 => match manyS xs f r k with
    | none => none
    | some (o, r1) => match oneS xs f 11 1 0 r1 with
      | none => none
      | some (s, r2) => some (o ++ [s], r2)
theorem oneS_le (xs : List Int) (f : Nat → Bool) : ∀ m n code r s r', oneS xs f m n code r = some (s, r') → r' < r
  | 0, _, _, _, _, _, h => by cases h
  | m + 1, n, code, r, s, r', h => by
    simp only [oneS] at h
    split at h
    · cases h
    · split at h
      · cases h; omega
      · have := oneS_le xs f m _ _ _ _ _ h; omega
theorem manyS_le (xs : List Int) (f : Nat → Bool) (r : Nat) : ∀ k o r', manyS xs f r k = some (o, r') → r' + k ≤ r ∧ o.length = k
  | 0, o, r', h => by cases h; simp
  | k + 1, o, r', h => by
    simp only [manyS] at h
    split at h
    · cases h
    · rename_i o1 r1 e
      have h1 := manyS_le xs f r k _ _ e
      split at h
      · cases h
      · rename_i s r2 e2
        have := oneS_le xs f _ _ _ _ _ _ e2
        cases h
        simp
        omega
theorem fd_lt {xs : List Int} {code n : Int} : ∀ {k s}, fd xs code n k = some s → s < k
  | 0, _, h => by cases h
  | k + 1, s, h => by
    simp only [fd] at h
    split at h
    · rename_i e; have := fd_lt e; cases h; omega
    · split at h
      · cases h; omega
      · cases h
theorem fd_some {xs : List Int} {code n : Int} : ∀ {k s}, fd xs code n k = some s → lf xs s = n ∧ codes xs s = code
  | 0, _, h => by cases h
  | k + 1, s, h => by
    simp only [fd] at h
    split at h
    · rename_i e; cases h; exact fd_some e
    · split at h
      · rename_i e; cases h; exact e
      · cases h
theorem fd_none {xs : List Int} {code n : Int} : ∀ {k}, fd xs code n k = none → ∀ s, s < k → ¬ (lf xs s = n ∧ codes xs s = code)
  | 0, _, s, hs => by omega
  | k + 1, h, s, hs => by
    simp only [fd] at h
    split at h
    · cases h
    · rename_i e
      split at h
      · cases h
      · rename_i e2
        by_cases hsk : s = k
        · subst hsk; exact e2
        · exact fd_none e s (by omega)
theorem fd_same {xs : List Int} {code n : Int} {k s : Nat} (h : fd xs code n k = some s) : ∀ j, k ≤ j → fd xs code n j = some s
  | 0, hj => by have : k = 0 := by omega
                subst this; exact h
  | j + 1, hj => by
    by_cases e : k = j + 1
    · subst e; exact h
    · simp only [fd, fd_same h j (by omega)]
theorem oneS_lt {xs : List Int} {f : Nat → Bool} : ∀ {m n code r s r'}, oneS xs f m n code r = some (s, r') → s < xs.length
  | 0, _, _, _, _, _, h => by cases h
  | m + 1, n, code, r, s, r', h => by
    simp only [oneS] at h
    split at h
    · cases h
    · split at h
      · rename_i e; cases h; exact fd_lt e
      · exact oneS_lt h
theorem manyS_lt {xs : List Int} {f : Nat → Bool} {r : Nat} : ∀ {k o r'}, manyS xs f r k = some (o, r') → ∀ s ∈ o, s < xs.length
  | 0, o, r', h => by cases h; intro s hs; cases hs
  | k + 1, o, r', h => by
    simp only [manyS] at h
    split at h
    · cases h
    · rename_i o1 r1 e
      split at h
      · cases h
      · rename_i s r2 e2
        cases h
        intro t ht
        rcases List.mem_append.1 ht with ht | ht
        · exact manyS_lt e t ht
        · rw [List.mem_singleton.1 ht]; exact oneS_lt e2
/-- What Decode answers. -/
def DecYes (xs : List Int) (l : List UInt8) (n : Int) (o : List Nat) : Prop := Gb l ∧ IsOk xs ∧ 0 ≤ n ∧ manyS xs (bb l) (top l) n.toNat = some (o, 0)
theorem DecYes.one {xs : List Int} {l : List UInt8} {n : Int} {o o' : List Nat} (h : DecYes xs l n o) (h' : DecYes xs l n o') : o = o' := by
  have := h.2.2.2.symm.trans h'.2.2.2
  cases this
  rfl
end Go.Hf
