/- bits: what a Reader reads, in plain words. DERIVED: THE SHELF's CONTRACTS AT THIS DUMP, IN PLAIN WORDS (tools/lay-plain.mjs out of 'TryzShA.lean', which tools/lay-shelf.mjs wrote): THE SAME DECLARATIONS UNDER THE SAME NAMES: 'import', 'namespace', 'open', 'def', 'theorem' AND NOTHING ELSE: no command of the shelf's: FOR A HAND-IN. Each laying: the table of numbers ('.._ren') and one theorem, a field a fact of the dump's own or the kernel's comparison; each contract: ONE APPLICATION. DERIVED: THE SHELF's CONTRACTS AT THIS DUMP, IN PLAIN WORDS (tools/lay-plain.mjs out of 'TryzShLayS.lean', which tools/lay-shelf.mjs wrote): THE SAME DECLARATIONS UNDER THE SAME NAMES: 'import', 'namespace', 'open', 'def', 'theorem' AND NOTHING ELSE: no command of the shelf's: FOR A HAND-IN. Each laying: the table of numbers ('.._ren') and one theorem, a field a fact of the dump's own or the kernel's comparison; each contract: ONE APPLICATION. The document's huff: the tree that comes first, and the others. -/
import Derived.Laws.BitsLemmas
import Derived.Lib.BitFns
import Derived.Ground.NamesProg
import Derived.Shelf.Small.Bits
import Derived.Shelf.Bits.Mul64
import Derived.Shelf.Slices.Turned
import Derived.Shelf.Bytes.SlCountOne
import Derived.Ground.SlbNamesProg
import Derived.Shelf.Bytes.SlClone
import Derived.Ground.SlbCloneProg
import Derived.Test.YtphakpikalmghaaGreatProg
import Derived.Shelf.SlSortCmp.NoneTotal
import Derived.Ground.SlsfProg
import Derived.Shelf.SlicesG.Cmp
import Derived.Ground.SlgcProg
import Derived.Shelf.SortM.Plain
import Derived.Shelf.SortM.SortNone
import Derived.Ground.SlgmProg
import Derived.Deep.RegionHeld3
import Derived.Laws.ResultCell
import Derived.Test.YtphakpikalmghaaGreatU03
import Derived.Test.YtphakpikalmghaaGreatU05
import Derived.Test.YtphakpikalmghaaGreatU08
namespace Go.Hf
/-- The bit k of bytes. -/
def bb (l : List UInt8) (k : Nat) : Bool := decide ((l[k / 8]?.getD 0).toNat / 2 ^ (k % 8) % 2 = 1)
/-- Bytes that are bits with a 1 behind them. -/
def Gb (l : List UInt8) : Prop := 0 < l.length ∧ (l[l.length - 1]?.getD 0).toNat ≠ 0
/-- The place of the highest 1. -/
def hi (x : Nat) : Nat := Lib.bitLen x - 1
def top (l : List UInt8) : Nat := 8 * (l.length - 1) + hi (l[l.length - 1]?.getD 0).toNat
def hiOk (x : Nat) : Bool := x == 0 || (decide (Lib.bitLen x = hi x + 1) && decide (hi x < 8) && decide (x / 2 ^ hi x % 2 = 1) && decide (x / 2 ^ (hi x + 1) = 0))
set_option maxRecDepth 100000 in
theorem hiOk_all : ((List.range 256).all hiOk) = true := by decide +kernel
theorem hi_spec {x : Nat} (h0 : x ≠ 0) (h : x < 256) : Lib.bitLen x = hi x + 1 ∧ hi x < 8 ∧ x / 2 ^ hi x % 2 = 1 ∧ ∀ j, hi x < j → x / 2 ^ j % 2 = 0 := by
  have := List.all_eq_true.1 hiOk_all x (List.mem_range.2 h)
  simp only [hiOk, Bool.or_eq_true, beq_iff_eq, h0, false_or, Bool.and_eq_true, decide_eq_true_eq] at this
  obtain ⟨⟨⟨h1, h2⟩, h3⟩, h4⟩ := this
  refine ⟨h1, h2, h3, fun j hj => ?_⟩
  have : x / 2 ^ j = 0 := by
    obtain ⟨d, rfl⟩ : ∃ d, j = hi x + 1 + d := ⟨j - (hi x + 1), by omega⟩
    rw [Nat.pow_add, ← Nat.div_div_eq_div_mul, h4, Nat.zero_div]
  rw [this]
theorem top_lt {l : List UInt8} (h : Gb l) : top l < 8 * l.length ∧ 8 * (l.length - 1) ≤ top l := by
  have := (hi_spec h.2 (l[l.length - 1]?.getD 0).toNat_lt).2.1
  have := h.1
  unfold top
  omega
theorem bb_top {l : List UInt8} (h : Gb l) : bb l (top l) = true := by
  have hs := hi_spec h.2 (l[l.length - 1]?.getD 0).toNat_lt
  have e1 : top l / 8 = l.length - 1 := by unfold top; omega
  have e2 : top l % 8 = hi (l[l.length - 1]?.getD 0).toNat := by unfold top; omega
  unfold bb
  rw [e1, e2]
  exact decide_eq_true hs.2.2.1
theorem bb_above {l : List UInt8} (h : Gb l) {k : Nat} (h1 : top l < k) (h2 : k < 8 * l.length) : bb l k = false := by
  have hs := hi_spec h.2 (l[l.length - 1]?.getD 0).toNat_lt
  have := (top_lt h).2
  have e1 : k / 8 = l.length - 1 := by omega
  have e2 : hi (l[l.length - 1]?.getD 0).toNat < k % 8 := by unfold top at h1; omega
  unfold bb
  rw [e1]
  exact decide_eq_false (by rw [hs.2.2.2 _ e2]; decide)

/-- The number of n bits from 'at' on. -/
def nv (f : Nat → Bool) (at_ : Nat) : Nat → Nat
  | 0 => 0
  | n + 1 => nv f at_ n + (if f (at_ + n) = true then 2 ^ n else 0)
theorem nv_lt (f : Nat → Bool) (at_ n : Nat) : nv f at_ n < 2 ^ n := by
  induction n with
  | zero => simp [nv]
  | succ n ih => simp only [nv, Nat.pow_succ]; split <;> omega
theorem nv_low (f : Nat → Bool) (at_ n : Nat) : nv f at_ (n + 1) = 2 * nv f (at_ + 1) n + (if f at_ = true then 1 else 0) := by
  induction n with
  | zero => simp [nv]
  | succ n ih =>
    rw [nv, ih]
    simp only [nv, Nat.pow_succ, show at_ + (n + 1) = at_ + 1 + n by omega]
    generalize (if f at_ = true then 1 else 0) = b
    by_cases h : f (at_ + 1 + n) = true
    · rw [if_pos h, if_pos h]; omega
    · rw [if_neg h, if_neg h]; omega
theorem or_up (v k : Nat) (hv : v < 2 ^ k) (hk : k < 40) : Go.bits .or .i64 (v : Int) ((2 : Int) ^ k) = ((v + 2 ^ k : Nat) : Int) := by
  have h40 : 2 ^ k ≤ 2 ^ 39 := Nat.pow_le_pow_right (by omega) (by omega)
  have h63 : 2 ^ 62 = 4611686018427387904 := rfl
  have h39 : 2 ^ 39 = 549755813888 := rfl
  have := (bits_nat .i64 62 (by decide) (fun n h0 h1 => by
    have e62 : (2 : Int) ^ 62 = 4611686018427387904 := rfl
    rw [IntKind.wrap_i64]; omega) v (2 ^ k) (by omega) (by omega)).2
  have e : ((2 ^ k : Nat) : Int) = (2 : Int) ^ k := by simp
  rw [e] at this
  rw [this, Nat.or_comm, ← Nat.mul_one (2 ^ k), ← Nat.two_pow_add_eq_or_of_lt hv 1]
  simp [Nat.add_comm]
theorem or_low (v : Nat) (b : Nat) (hb : b < 2) (hv : v < 2 ^ 40) : Go.bits .or .i64 ((2 * v : Nat) : Int) (b : Int) = ((2 * v + b : Nat) : Int) := by
  have h63 : (2 : Nat) ^ 62 = 4611686018427387904 := rfl
  have h40 : (2 : Nat) ^ 40 = 1099511627776 := rfl
  have := (bits_nat .i64 62 (by decide) (fun n h0 h1 => by
    have e62 : (2 : Int) ^ 62 = 4611686018427387904 := rfl
    rw [IntKind.wrap_i64]; omega) (2 * v) b (by omega) (by omega)).2
  rw [this]
  have h := Nat.two_pow_add_eq_or_of_lt (i := 1) (b := b) (by omega) v
  simp only [Nat.pow_one] at h
  rw [h]
theorem low_bit (x k : Nat) (hx : x < 256) : Go.bits .and .u8 ((x : Int) / 2 ^ k) 1 = ((x / 2 ^ k % 2 : Nat) : Int) := by
  have e : (x : Int) / 2 ^ k = ((x / 2 ^ k : Nat) : Int) := by simp
  have hle : x / 2 ^ k ≤ x := Nat.div_le_self _ _
  rw [e]
  generalize x / 2 ^ k = y at hle
  have h := bits_mask .u8 8 (by decide) (fun n h0 h1 => by
    have e8 : (2 : Int) ^ 8 = 256 := rfl
    rw [IntKind.wrap_u8]; omega) 1 (by decide) (y : Int) (Int.natCast_nonneg _) (by
      have e8 : (2 : Int) ^ 8 = 256 := rfl
      rw [e8]; omega)
  have e1 : (2 : Int) ^ 1 - 1 = 1 := rfl
  have e2 : (2 : Int) ^ 1 = 2 := rfl
  rw [e1, e2] at h
  rw [h]
  omega

/-! ### Codes read -/
/-- The first symbol of the code. -/
def fd (xs : List Int) (code : Int) (n : Int) : Nat → Option Nat
  | 0 => none
  | k + 1 => match fd xs code n k with
    | some s => some s
    | none => if lf xs k = n ∧ codes xs k = code then some k else none
/-- One symbol: of the lengths from n on, so many of them. -/
def oneS (xs : List Int) (f : Nat → Bool) : Nat → Nat → Nat → Nat → Option (Nat × Nat)
  | 0, _, _, _ => none
  | m + 1, n, code, r => if r = 0 then none else
      match fd xs ((2 * code + (if f (r - 1) = true then 1 else 0) : Nat) : Int) (n : Int) xs.length with
      | some s => some (s, r - 1)
      | none => oneS xs f m (n + 1) (2 * code + (if f (r - 1) = true then 1 else 0)) (r - 1)
/-- So many symbols. -/
def manyS (xs : List Int) (f : Nat → Bool) (r : Nat) : Nat → Option (List Nat × Nat)
  | 0 => some ([], r)
  | k + 1 => match manyS xs f r k with
    | none => none
    | some (o, r1) => match oneS xs f 11 1 0 r1 with
      | none => none
      | some (s, r2) => some (o ++ [s], r2)
theorem oneS_le (xs : List Int) (f : Nat → Bool) : ∀ m n code r s r', oneS xs f m n code r = some (s, r') → r' < r
  | 0, _, _, _, _, _, h => by cases h
  | m + 1, n, code, r, s, r', h => by
    simp only [oneS] at h
    split at h
    · cases h
    · split at h
      · cases h; omega
      · have := oneS_le xs f m _ _ _ _ _ h; omega
theorem manyS_le (xs : List Int) (f : Nat → Bool) (r : Nat) : ∀ k o r', manyS xs f r k = some (o, r') → r' + k ≤ r ∧ o.length = k
  | 0, o, r', h => by cases h; simp
  | k + 1, o, r', h => by
    simp only [manyS] at h
    split at h
    · cases h
    · rename_i o1 r1 e
      have h1 := manyS_le xs f r k _ _ e
      split at h
      · cases h
      · rename_i s r2 e2
        have := oneS_le xs f _ _ _ _ _ _ e2
        cases h
        simp
        omega
theorem fd_lt {xs : List Int} {code n : Int} : ∀ {k s}, fd xs code n k = some s → s < k
  | 0, _, h => by cases h
  | k + 1, s, h => by
    simp only [fd] at h
    split at h
    · rename_i e; have := fd_lt e; cases h; omega
    · split at h
      · cases h; omega
      · cases h
theorem fd_some {xs : List Int} {code n : Int} : ∀ {k s}, fd xs code n k = some s → lf xs s = n ∧ codes xs s = code
  | 0, _, h => by cases h
  | k + 1, s, h => by
    simp only [fd] at h
    split at h
    · rename_i e; cases h; exact fd_some e
    · split at h
      · rename_i e; cases h; exact e
      · cases h
theorem fd_none {xs : List Int} {code n : Int} : ∀ {k}, fd xs code n k = none → ∀ s, s < k → ¬ (lf xs s = n ∧ codes xs s = code)
  | 0, _, s, hs => by omega
  | k + 1, h, s, hs => by
    simp only [fd] at h
    split at h
    · cases h
    · rename_i e
      split at h
      · cases h
      · rename_i e2
        by_cases hsk : s = k
        · subst hsk; exact e2
        · exact fd_none e s (by omega)
theorem fd_same {xs : List Int} {code n : Int} {k s : Nat} (h : fd xs code n k = some s) : ∀ j, k ≤ j → fd xs code n j = some s
  | 0, hj => by have : k = 0 := by omega
                subst this; exact h
  | j + 1, hj => by
    by_cases e : k = j + 1
    · subst e; exact h
    · simp only [fd, fd_same h j (by omega)]
theorem oneS_lt {xs : List Int} {f : Nat → Bool} : ∀ {m n code r s r'}, oneS xs f m n code r = some (s, r') → s < xs.length
  | 0, _, _, _, _, _, h => by cases h
  | m + 1, n, code, r, s, r', h => by
    simp only [oneS] at h
    split at h
    · cases h
    · split at h
      · rename_i e; cases h; exact fd_lt e
      · exact oneS_lt h
theorem manyS_lt {xs : List Int} {f : Nat → Bool} {r : Nat} : ∀ {k o r'}, manyS xs f r k = some (o, r') → ∀ s ∈ o, s < xs.length
  | 0, o, r', h => by cases h; intro s hs; cases hs
  | k + 1, o, r', h => by
    simp only [manyS] at h
    split at h
    · cases h
    · rename_i o1 r1 e
      split at h
      · cases h
      · rename_i s r2 e2
        cases h
        intro t ht
        rcases List.mem_append.1 ht with ht | ht
        · exact manyS_lt e t ht
        · rw [List.mem_singleton.1 ht]; exact oneS_lt e2
/-- What Decode answers. -/
def DecYes (xs : List Int) (l : List UInt8) (n : Int) (o : List Nat) : Prop := Gb l ∧ IsOk xs ∧ 0 ≤ n ∧ manyS xs (bb l) (top l) n.toNat = some (o, 0)
theorem DecYes.one {xs : List Int} {l : List UInt8} {n : Int} {o o' : List Nat} (h : DecYes xs l n o) (h' : DecYes xs l n o') : o = o' := by
  have := h.2.2.2.symm.trans h'.2.2.2
  cases this
  rfl
end Go.Hf
namespace Go.Proofs
open Go.Shelf
def Tryz.lays126_ren : Go.Shelf.Ren := ⟨fun | 126 => 149 | n => n, fun | 5 => 5 | 3 => 3 | 9 => 9 | n => n, fun | n => n⟩
theorem Tryz.lays126 : Go.Proofs.Lays.n126 Tryz.prog Tryz.lays126_ren := {
  mixed := by kernel_rfl
  f126 := Tryz.func149.trans (congrArg some (by kernel_rfl))
  t3 := Tryz.underlying3
  a3 := Tryz.isAgg3
  z3 := Tryz.sizeOf3
  v3 := Tryz.zeroValue3
  t5 := Tryz.underlying5
  a5 := Tryz.isAgg5
  z5 := Tryz.sizeOf5
  v5 := Tryz.zeroValue5
  t9 := Tryz.underlying9
  a9 := Tryz.isAgg9
  z9 := Tryz.sizeOf9
  v9 := Tryz.zeroValue9 }
def Tryz.lays264_ren : Go.Shelf.Ren := ⟨fun | 264 => 148 | n => n, fun | 53 => 140 | 46 => 53 | n => n, fun | n => n⟩
theorem Tryz.lays264 : Go.Proofs.Lays.n264 Tryz.prog Tryz.lays264_ren := {
  mixed := by kernel_rfl
  f264 := Tryz.func148.trans (congrArg some (by kernel_rfl))
  t46 := Tryz.underlying53
  a46 := Tryz.isAgg53
  z46 := Tryz.sizeOf53
  v46 := Tryz.zeroValue53
  t53 := Tryz.underlying140
  a53 := Tryz.isAgg140
  z53 := Tryz.sizeOf140
  v53 := Tryz.zeroValue140 }
def Tryz.lays212_ren : Go.Shelf.Ren := ⟨fun | 212 => 124 | 263 => 147 | 264 => 148 | n => n, fun | 46 => 53 | 51 => 138 | 146 => 163 | 53 => 140 | 148 => 172 | n => n, fun | n => n⟩
theorem Tryz.lays212 : Go.Proofs.Lays.n212 Tryz.prog Tryz.lays212_ren := {
  mixed := by kernel_rfl
  f212 := Tryz.func124.trans (congrArg some (by kernel_rfl))
  f263 := Tryz.func147.trans (congrArg some (by kernel_rfl))
  f264 := Tryz.func148.trans (congrArg some (by kernel_rfl))
  t46 := Tryz.underlying53
  a46 := Tryz.isAgg53
  z46 := Tryz.sizeOf53
  v46 := Tryz.zeroValue53
  t51 := Tryz.underlying138
  a51 := Tryz.isAgg138
  z51 := Tryz.sizeOf138
  v51 := Tryz.zeroValue138
  t53 := Tryz.underlying140
  a53 := Tryz.isAgg140
  z53 := Tryz.sizeOf140
  v53 := Tryz.zeroValue140
  t146 := Tryz.underlying163
  a146 := Tryz.isAgg163
  z146 := Tryz.sizeOf163
  v146 := Tryz.zeroValue163
  t148 := Tryz.underlying172
  a148 := Tryz.isAgg172
  z148 := Tryz.sizeOf172
  v148 := Tryz.zeroValue172 }
def Tryz.lays125_ren : Go.Shelf.Ren := ⟨fun | 125 => 78 | 128 => 113 | 129 => 114 | n => n, fun | 46 => 53 | 3 => 3 | 51 => 138 | 53 => 140 | 4 => 4 | 5 => 5 | 9 => 9 | n => n, fun | n => n⟩
theorem Tryz.lays125 : Go.Proofs.Lays.n125 Tryz.prog Tryz.lays125_ren := {
  mixed := by kernel_rfl
  f125 := Tryz.func78.trans (congrArg some (by kernel_rfl))
  f128 := Tryz.func113.trans (congrArg some (by kernel_rfl))
  f129 := Tryz.func114.trans (congrArg some (by kernel_rfl))
  t3 := Tryz.underlying3
  a3 := Tryz.isAgg3
  z3 := Tryz.sizeOf3
  v3 := Tryz.zeroValue3
  t4 := Tryz.underlying4
  a4 := Tryz.isAgg4
  z4 := Tryz.sizeOf4
  v4 := Tryz.zeroValue4
  t5 := Tryz.underlying5
  a5 := Tryz.isAgg5
  z5 := Tryz.sizeOf5
  v5 := Tryz.zeroValue5
  t9 := Tryz.underlying9
  a9 := Tryz.isAgg9
  z9 := Tryz.sizeOf9
  v9 := Tryz.zeroValue9
  t46 := Tryz.underlying53
  a46 := Tryz.isAgg53
  z46 := Tryz.sizeOf53
  v46 := Tryz.zeroValue53
  t51 := Tryz.underlying138
  a51 := Tryz.isAgg138
  z51 := Tryz.sizeOf138
  v51 := Tryz.zeroValue138
  t53 := Tryz.underlying140
  a53 := Tryz.isAgg140
  z53 := Tryz.sizeOf140
  v53 := Tryz.zeroValue140 }
def Tryz.lays108_ren : Go.Shelf.Ren := ⟨fun | 108 => 103 | n => n, fun | 28 => 51 | 3 => 3 | 0 => 0 | 4 => 4 | n => n, fun | n => n⟩
theorem Tryz.lays108 : Go.Proofs.Lays.n108 Tryz.prog Tryz.lays108_ren := {
  mixed := by kernel_rfl
  f108 := Tryz.func103.trans (congrArg some (by kernel_rfl))
  t0 := Tryz.underlying0
  a0 := Tryz.isAgg0
  z0 := Tryz.sizeOf0
  v0 := Tryz.zeroValue0
  t3 := Tryz.underlying3
  a3 := Tryz.isAgg3
  z3 := Tryz.sizeOf3
  v3 := Tryz.zeroValue3
  t4 := Tryz.underlying4
  a4 := Tryz.isAgg4
  z4 := Tryz.sizeOf4
  v4 := Tryz.zeroValue4
  t28 := Tryz.underlying51
  a28 := Tryz.isAgg51
  z28 := Tryz.sizeOf51
  v28 := Tryz.zeroValue51 }
def Tryz.lays113_ren : Go.Shelf.Ren := ⟨fun | 113 => 87 | n => n, fun | 28 => 51 | 3 => 3 | 4 => 4 | 9 => 9 | 20 => 20 | 0 => 0 | n => n, fun | n => n⟩
theorem Tryz.lays113 : Go.Proofs.Lays.n113 Tryz.prog Tryz.lays113_ren := {
  mixed := by kernel_rfl
  f113 := Tryz.func87.trans (congrArg some (by kernel_rfl))
  t0 := Tryz.underlying0
  a0 := Tryz.isAgg0
  z0 := Tryz.sizeOf0
  v0 := Tryz.zeroValue0
  t3 := Tryz.underlying3
  a3 := Tryz.isAgg3
  z3 := Tryz.sizeOf3
  v3 := Tryz.zeroValue3
  t4 := Tryz.underlying4
  a4 := Tryz.isAgg4
  z4 := Tryz.sizeOf4
  v4 := Tryz.zeroValue4
  t9 := Tryz.underlying9
  a9 := Tryz.isAgg9
  z9 := Tryz.sizeOf9
  v9 := Tryz.zeroValue9
  t20 := Tryz.underlying20
  a20 := Tryz.isAgg20
  z20 := Tryz.sizeOf20
  v20 := Tryz.zeroValue20
  t28 := Tryz.underlying51
  a28 := Tryz.isAgg51
  z28 := Tryz.sizeOf51
  v28 := Tryz.zeroValue51 }
def Tryz.laysB13_ren : Go.Shelf.Ren := ⟨fun | 13 => 33 | 24 => 68 | 25 => 69 | 12 => 70 | 31 => 97 | 19 => 98 | 20 => 99 | 21 => 100 | 22 => 101 | 23 => 102 | 29 => 133 | 30 => 134 | n => n, fun | 22 => 22 | 3 => 3 | 4 => 4 | 0 => 0 | 5 => 5 | 9 => 9 | 33 => 53 | 40 => 163 | 39 => 138 | n => n, fun | 0 => 0 | n => n⟩
theorem Tryz.laysB13 : Go.Proofs.SlLaysB.n13 Tryz.prog Tryz.laysB13_ren := {
  mixed := by kernel_rfl
  f13 := Tryz.func33.trans (congrArg some (by kernel_rfl))
  f25 := Tryz.func69.trans (congrArg some (by kernel_rfl))
  t0 := Tryz.underlying0
  a0 := Tryz.isAgg0
  z0 := Tryz.sizeOf0
  v0 := Tryz.zeroValue0
  t3 := Tryz.underlying3
  a3 := Tryz.isAgg3
  z3 := Tryz.sizeOf3
  v3 := Tryz.zeroValue3
  t4 := Tryz.underlying4
  a4 := Tryz.isAgg4
  z4 := Tryz.sizeOf4
  v4 := Tryz.zeroValue4
  t5 := Tryz.underlying5
  a5 := Tryz.isAgg5
  z5 := Tryz.sizeOf5
  v5 := Tryz.zeroValue5
  t22 := Tryz.underlying22
  a22 := Tryz.isAgg22
  z22 := Tryz.sizeOf22
  v22 := Tryz.zeroValue22 }
def Tryz.laysK4_ren : Go.Shelf.Ren := ⟨fun | 4 => 58 | n => n, fun | 22 => 22 | 4 => 4 | 5 => 5 | n => n, fun | n => n⟩
theorem Tryz.laysK4 : Go.Proofs.SlLaysK.n4 Tryz.prog Tryz.laysK4_ren := {
  mixed := by kernel_rfl
  f4 := Tryz.func58.trans (congrArg some (by kernel_rfl))
  t4 := Tryz.underlying4
  a4 := Tryz.isAgg4
  z4 := Tryz.sizeOf4
  v4 := Tryz.zeroValue4
  t22 := Tryz.underlying22
  a22 := Tryz.isAgg22
  z22 := Tryz.sizeOf22
  v22 := Tryz.zeroValue22
  t5 := Tryz.underlying5
  i5 := by kernel_rfl }
end Go.Proofs
namespace Go.Proofs
open Go.Shelf
def Tryz.sortTrees_ren : Go.Shelf.Ren := ⟨fun | 6 => 117 | 15 => 78 | 14 => 140 | 28 => 113 | 29 => 114 | 20 => 152 | 21 => 153 | 22 => 154 | 23 => 155 | 24 => 156 | 25 => 157 | 26 => 158 | 27 => 159 | 46 => 163 | 47 => 164 | 48 => 165 | 49 => 166 | 50 => 167 | 57 => 177 | n => n, fun | 22 => 142 | 24 => 144 | 25 => 146 | 3 => 3 | 39 => 53 | 0 => 0 | 53 => 138 | 55 => 140 | 4 => 4 | 46 => 179 | 45 => 178 | 50 => 159 | 5 => 5 | 9 => 9 | 66 => 186 | 70 => 190 | 76 => 197 | 77 => 57 | n => n, fun | n => n⟩
theorem Tryz.sortTrees : Go.Proofs.SlLaysF0.n6 Tryz.prog Tryz.sortTrees_ren := {
  mixed := by kernel_rfl
  f6 := ⟨Tryz.f117.name, by decide, Tryz.func117.trans (congrArg some (by kernel_rfl))⟩
  f14 := ⟨Tryz.f140.name, by decide, Tryz.func140.trans (congrArg some (by kernel_rfl))⟩
  f15 := Tryz.func78.trans (congrArg some (by kernel_rfl))
  f20 := ⟨Tryz.f152.name, by decide, Tryz.func152.trans (congrArg some (by kernel_rfl))⟩
  f21 := ⟨Tryz.f153.name, by decide, Tryz.func153.trans (congrArg some (by kernel_rfl))⟩
  f22 := ⟨Tryz.f154.name, by decide, Tryz.func154.trans (congrArg some (by kernel_rfl))⟩
  f23 := ⟨Tryz.f155.name, by decide, Tryz.func155.trans (congrArg some (by kernel_rfl))⟩
  f24 := ⟨Tryz.f156.name, by decide, Tryz.func156.trans (congrArg some (by kernel_rfl))⟩
  f25 := ⟨Tryz.f157.name, by decide, Tryz.func157.trans (congrArg some (by kernel_rfl))⟩
  f26 := ⟨Tryz.f158.name, by decide, Tryz.func158.trans (congrArg some (by kernel_rfl))⟩
  f27 := ⟨Tryz.f159.name, by decide, Tryz.func159.trans (congrArg some (by kernel_rfl))⟩
  f28 := Tryz.func113.trans (congrArg some (by kernel_rfl))
  f29 := Tryz.func114.trans (congrArg some (by kernel_rfl))
  f46 := ⟨Tryz.f163.name, by decide, Tryz.func163.trans (congrArg some (by kernel_rfl))⟩
  f47 := Tryz.func164.trans (congrArg some (by kernel_rfl))
  f48 := Tryz.func165.trans (congrArg some (by kernel_rfl))
  f49 := ⟨Tryz.f166.name, by decide, Tryz.func166.trans (congrArg some (by kernel_rfl))⟩
  f50 := ⟨Tryz.f167.name, by decide, Tryz.func167.trans (congrArg some (by kernel_rfl))⟩
  f57 := ⟨Tryz.f177.name, by decide, Tryz.func177.trans (congrArg some (by kernel_rfl))⟩
  t0 := Tryz.underlying0
  a0 := Tryz.isAgg0
  z0 := Tryz.sizeOf0
  v0 := Tryz.zeroValue0
  t3 := Tryz.underlying3
  a3 := Tryz.isAgg3
  z3 := Tryz.sizeOf3
  v3 := Tryz.zeroValue3
  t4 := Tryz.underlying4
  a4 := Tryz.isAgg4
  z4 := Tryz.sizeOf4
  v4 := Tryz.zeroValue4
  t5 := Tryz.underlying5
  a5 := Tryz.isAgg5
  z5 := Tryz.sizeOf5
  v5 := Tryz.zeroValue5
  t9 := Tryz.underlying9
  a9 := Tryz.isAgg9
  z9 := Tryz.sizeOf9
  v9 := Tryz.zeroValue9
  t22 := Tryz.underlying142
  a22 := Tryz.isAgg142
  z22 := Tryz.sizeOf142
  v22 := Tryz.zeroValue142
  t25 := Tryz.underlying146
  a25 := Tryz.isAgg146
  z25 := Tryz.sizeOf146
  v25 := Tryz.zeroValue146
  t39 := Tryz.underlying53
  a39 := Tryz.isAgg53
  z39 := Tryz.sizeOf53
  v39 := Tryz.zeroValue53
  t45 := Tryz.underlying178
  a45 := Tryz.isAgg178
  z45 := Tryz.sizeOf178
  v45 := Tryz.zeroValue178
  t46 := Tryz.underlying179
  a46 := Tryz.isAgg179
  z46 := Tryz.sizeOf179
  v46 := Tryz.zeroValue179
  t50 := Tryz.underlying159
  a50 := Tryz.isAgg159
  z50 := Tryz.sizeOf159
  v50 := Tryz.zeroValue159
  t53 := Tryz.underlying138
  a53 := Tryz.isAgg138
  z53 := Tryz.sizeOf138
  v53 := Tryz.zeroValue138
  t55 := Tryz.underlying140
  a55 := Tryz.isAgg140
  z55 := Tryz.sizeOf140
  v55 := Tryz.zeroValue140
  t66 := Tryz.underlying186
  a66 := Tryz.isAgg186
  z66 := Tryz.sizeOf186
  v66 := Tryz.zeroValue186
  t70 := Tryz.underlying190
  a70 := Tryz.isAgg190
  z70 := Tryz.sizeOf190
  v70 := Tryz.zeroValue190
  t76 := Tryz.underlying197
  a76 := Tryz.isAgg197
  z76 := Tryz.sizeOf197
  v76 := Tryz.zeroValue197
  t77 := Tryz.underlying57
  a77 := Tryz.isAgg57
  z77 := Tryz.sizeOf57
  v77 := Tryz.zeroValue57 }
def Tryz.cmpInt_ren : Go.Shelf.Ren := ⟨fun | 5 => 142 | 7 => 160 | n => n, fun | 22 => 3 | 3 => 3 | 4 => 4 | n => n, fun | n => n⟩
theorem Tryz.cmpInt : Go.Proofs.SlLaysC2.n5 Tryz.prog Tryz.cmpInt_ren := {
  mixed := by kernel_rfl
  f5 := ⟨Tryz.f142.name, by decide, Tryz.func142.trans (congrArg some (by kernel_rfl))⟩
  f7 := ⟨Tryz.f160.name, by decide, Tryz.func160.trans (congrArg some (by kernel_rfl))⟩
  t3 := Tryz.underlying3
  a3 := Tryz.isAgg3
  z3 := Tryz.sizeOf3
  v3 := Tryz.zeroValue3
  t4 := Tryz.underlying4
  a4 := Tryz.isAgg4
  z4 := Tryz.sizeOf4
  v4 := Tryz.zeroValue4
  t22 := Tryz.underlying3
  a22 := Tryz.isAgg3
  z22 := Tryz.sizeOf3
  v22 := Tryz.zeroValue3 }
def Tryz.sortInts_ren : Go.Shelf.Ren := ⟨fun | 5 => 144 | 8 => 78 | 7 => 162 | 19 => 113 | 20 => 114 | 10 => 168 | 11 => 169 | 12 => 170 | 13 => 171 | 14 => 172 | 15 => 173 | 16 => 174 | 17 => 175 | 18 => 176 | 30 => 178 | 31 => 164 | 32 => 165 | 33 => 179 | 34 => 180 | 35 => 160 | 40 => 181 | n => n, fun | 23 => 51 | 25 => 3 | 3 => 3 | 32 => 53 | 22 => 51 | 0 => 0 | 44 => 138 | 46 => 140 | 4 => 4 | 36 => 179 | 35 => 178 | 41 => 159 | 5 => 5 | 9 => 9 | 53 => 186 | 57 => 190 | 63 => 197 | 64 => 57 | n => n, fun | n => n⟩
theorem Tryz.sortInts : Go.Proofs.SlLaysM.n5 Tryz.prog Tryz.sortInts_ren := {
  mixed := by kernel_rfl
  f5 := ⟨Tryz.f144.name, by decide, Tryz.func144.trans (congrArg some (by kernel_rfl))⟩
  f7 := ⟨Tryz.f162.name, by decide, Tryz.func162.trans (congrArg some (by kernel_rfl))⟩
  f8 := Tryz.func78.trans (congrArg some (by kernel_rfl))
  f10 := ⟨Tryz.f168.name, by decide, Tryz.func168.trans (congrArg some (by kernel_rfl))⟩
  f11 := ⟨Tryz.f169.name, by decide, Tryz.func169.trans (congrArg some (by kernel_rfl))⟩
  f12 := ⟨Tryz.f170.name, by decide, Tryz.func170.trans (congrArg some (by kernel_rfl))⟩
  f13 := ⟨Tryz.f171.name, by decide, Tryz.func171.trans (congrArg some (by kernel_rfl))⟩
  f14 := ⟨Tryz.f172.name, by decide, Tryz.func172.trans (congrArg some (by kernel_rfl))⟩
  f15 := ⟨Tryz.f173.name, by decide, Tryz.func173.trans (congrArg some (by kernel_rfl))⟩
  f16 := ⟨Tryz.f174.name, by decide, Tryz.func174.trans (congrArg some (by kernel_rfl))⟩
  f17 := ⟨Tryz.f175.name, by decide, Tryz.func175.trans (congrArg some (by kernel_rfl))⟩
  f18 := ⟨Tryz.f176.name, by decide, Tryz.func176.trans (congrArg some (by kernel_rfl))⟩
  f19 := Tryz.func113.trans (congrArg some (by kernel_rfl))
  f20 := Tryz.func114.trans (congrArg some (by kernel_rfl))
  f30 := ⟨Tryz.f178.name, by decide, Tryz.func178.trans (congrArg some (by kernel_rfl))⟩
  f31 := Tryz.func164.trans (congrArg some (by kernel_rfl))
  f32 := Tryz.func165.trans (congrArg some (by kernel_rfl))
  f33 := ⟨Tryz.f179.name, by decide, Tryz.func179.trans (congrArg some (by kernel_rfl))⟩
  f34 := ⟨Tryz.f180.name, by decide, Tryz.func180.trans (congrArg some (by kernel_rfl))⟩
  f35 := ⟨Tryz.f160.name, by decide, Tryz.func160.trans (congrArg some (by kernel_rfl))⟩
  f40 := ⟨Tryz.f181.name, by decide, Tryz.func181.trans (congrArg some (by kernel_rfl))⟩
  t0 := Tryz.underlying0
  a0 := Tryz.isAgg0
  z0 := Tryz.sizeOf0
  v0 := Tryz.zeroValue0
  t3 := Tryz.underlying3
  a3 := Tryz.isAgg3
  z3 := Tryz.sizeOf3
  v3 := Tryz.zeroValue3
  t4 := Tryz.underlying4
  a4 := Tryz.isAgg4
  z4 := Tryz.sizeOf4
  v4 := Tryz.zeroValue4
  t5 := Tryz.underlying5
  a5 := Tryz.isAgg5
  z5 := Tryz.sizeOf5
  v5 := Tryz.zeroValue5
  t9 := Tryz.underlying9
  a9 := Tryz.isAgg9
  z9 := Tryz.sizeOf9
  v9 := Tryz.zeroValue9
  t22 := Tryz.underlying51
  a22 := Tryz.isAgg51
  z22 := Tryz.sizeOf51
  v22 := Tryz.zeroValue51
  t23 := Tryz.underlying51
  a23 := Tryz.isAgg51
  z23 := Tryz.sizeOf51
  v23 := Tryz.zeroValue51
  t25 := Tryz.underlying3
  a25 := Tryz.isAgg3
  z25 := Tryz.sizeOf3
  v25 := Tryz.zeroValue3
  t32 := Tryz.underlying53
  a32 := Tryz.isAgg53
  z32 := Tryz.sizeOf53
  v32 := Tryz.zeroValue53
  t35 := Tryz.underlying178
  a35 := Tryz.isAgg178
  z35 := Tryz.sizeOf178
  v35 := Tryz.zeroValue178
  t36 := Tryz.underlying179
  a36 := Tryz.isAgg179
  z36 := Tryz.sizeOf179
  v36 := Tryz.zeroValue179
  t41 := Tryz.underlying159
  a41 := Tryz.isAgg159
  z41 := Tryz.sizeOf159
  v41 := Tryz.zeroValue159
  t44 := Tryz.underlying138
  a44 := Tryz.isAgg138
  z44 := Tryz.sizeOf138
  v44 := Tryz.zeroValue138
  t46 := Tryz.underlying140
  a46 := Tryz.isAgg140
  z46 := Tryz.sizeOf140
  v46 := Tryz.zeroValue140
  t53 := Tryz.underlying186
  a53 := Tryz.isAgg186
  z53 := Tryz.sizeOf186
  v53 := Tryz.zeroValue186
  t57 := Tryz.underlying190
  a57 := Tryz.isAgg190
  z57 := Tryz.sizeOf190
  v57 := Tryz.zeroValue190
  t63 := Tryz.underlying197
  a63 := Tryz.isAgg197
  z63 := Tryz.sizeOf197
  v63 := Tryz.zeroValue197
  t64 := Tryz.underlying57
  a64 := Tryz.isAgg57
  z64 := Tryz.sizeOf57
  v64 := Tryz.zeroValue57 }
end Go.Proofs
namespace Go.Proofs.YtphakpikalmghaaGreat.Hu
open Go Go.RowKit Go.ChangeMaps Go.MapKept Go.Mg Go.Hf Go.Sort Go.Proofs.YtphakpikalmghaaGreat.Op

def E (p : Tr × Value) : List Value := tcs p.1 p.2
theorem E_len (p : Tr × Value) : (E p).length = 2 := rfl
theorem infoT : (Tryz.prog.info? 120).map (fun i => (i.zero, i.size, i.bytes)) = some (some (.agg #[.int .i64 0, .slice none 0 0]), 2, 32) := by kernel_rfl
theorem infoR : (Tryz.prog.info? 144).map (fun i => (i.zero, i.size, i.bytes)) = some (some (.agg #[.int .i64 0, .slice none 0 0]), 2, 32) := by kernel_rfl
theorem infoI : (Tryz.prog.info? 3).map (fun i => (i.zero, i.size, i.bytes)) = some (some (.int .i64 0), 1, 8) := by kernel_rfl
theorem E_one {Fs : List (Tr × Value)} {w : World} (h : ∀ p, p ∈ Fs → Tv w p.1 p.2) : ∀ u ∈ Fs.flatMap E, u.oneCell' = true := by
  intro u hu
  obtain ⟨p, hp, hu⟩ := List.mem_flatMap.1 hu
  obtain ⟨a, c, e, _⟩ := h p hp
  simp only [E, tcs, List.mem_cons, List.not_mem_nil, or_false] at hu
  rcases hu with rfl | rfl
  · rfl
  · rw [e]; rfl
theorem take_E (Fs : List (Tr × Value)) (k : Nat) : (Fs.flatMap E).take (k * 2) = (Fs.take k).flatMap E := by
  induction Fs generalizing k with
  | nil => simp
  | cons p l ih =>
    cases k with
    | zero => simp
    | succ k =>
      rw [List.flatMap_cons, List.take_succ_cons, List.flatMap_cons, ← ih k, show (k + 1) * 2 = 2 + k * 2 by omega, List.take_append, E_len, List.take_of_length_le (by rw [E_len]; omega)]
      simp
theorem drop_E (Fs : List (Tr × Value)) (k : Nat) : (Fs.flatMap E).drop (k * 2) = (Fs.drop k).flatMap E := by
  induction Fs generalizing k with
  | nil => simp
  | cons p l ih =>
    cases k with
    | zero => simp
    | succ k =>
      rw [List.flatMap_cons, List.drop_succ_cons, ← ih k, show (k + 1) * 2 = 2 + k * 2 by omega, List.drop_append, E_len, List.drop_of_length_le (by rw [E_len]; omega)]
      simp
/-- Cells of the tree number i. -/
theorem at_E {w : World} {a : Option Addr} {c : Nat} {Fs : List (Tr × Value)} (h : SlR w 2 (.slice a Fs.length c) Fs.length (Fs.flatMap E)) (h0 : 0 < Fs.length) :
    ∃ g off, a = some ⟨g, off, none⟩ ∧ g < w.heap.size ∧ Fs.length ≤ c ∧ ∀ i (hi : i < Fs.length), w.cell? ⟨g, off + i * 2, none⟩ = some (.int .i64 (Fs[i].1.n : Nat)) ∧ w.cell? ⟨g, off + i * 2 + 1, none⟩ = some Fs[i].2 := by
  have hcap : Fs.length ≤ c := by
    obtain ⟨_, a0, c0, e0, h1, _⟩ := h
    simp only [Value.slice.injEq, true_and] at e0
    omega
  obtain ⟨g, off, e, hg, _⟩ := SlR.cellK h (fun y _ => E_len y) h0
  refine ⟨g, off, e, hg, hcap, fun i hi => ?_⟩
  obtain ⟨g', off', e', _, hc⟩ := SlR.cellK h (fun y _ => E_len y) hi
  rw [e] at e'
  simp only [Option.some.injEq, Addr.mk.injEq, and_true] at e'
  obtain ⟨rfl, rfl⟩ := e'
  exact ⟨hc 0 _ rfl (by omega), by have := hc 1 _ rfl (by omega); rwa [← Nat.add_assoc] at this⟩

def TakePost (w : World) (Fs : List (Tr × Value)) (e : Ending) (w' : World) : Prop :=
  ∃ k, ∃ hk : k < Fs.length, ∃ a' c', e = .returned (.tuple #[.agg #[.int .i64 (Fs[k].1.n : Nat), Fs[k].2], .slice a' (Fs.length - 1) c']) ∧
    OwnR w' 120 2 (.slice a' (Fs.length - 1) c') (Fs.length - 1) ((Fs.take k ++ Fs.drop (k + 1)).flatMap E) ∧ (∀ b, (Value.slice a' (Fs.length - 1) c').ownBlock = some b → w.heap.size ≤ b) ∧
    Kp (fun _ => False) w w' ∧ ∀ p, p ∈ Fs → ¬ Lt p.1 Fs[k].1
theorem Lt.irrefl (a : Tr) : ¬ Lt a a := by unfold Lt; omega
theorem Lt.trans {a b c : Tr} (h : Lt a b) (k : Lt b c) : Lt a c := by unfold Lt at *; omega
set_option maxRecDepth 100000 in
set_option maxHeartbeats 2000000 in
theorem take_c (w : World) (Fs : List (Tr × Value)) (a : Option Addr) (c : Nat) (h : SlR w 2 (.slice a Fs.length c) Fs.length (Fs.flatMap E)) (hT : ∀ p, p ∈ Fs → Tv w p.1 p.2) (h0 : 0 < Fs.length) (hlen : Fs.length ≤ 1000) :
    Calls Tryz.prog 96 #[.slice a Fs.length c] w (TakePost w Fs) := by
  have mixed : Tryz.prog.follows .mixedOrders = true := by kernel_rfl
  obtain ⟨g, off, rfl, hg, hcap, hc⟩ := at_E h h0
  obtain ⟨W, hW⟩ : ∃ W, W = w.alloc (.cells #[.int .i64 0, .slice none 0 0] 120) := ⟨_, rfl⟩
  have kW : Kp (fun _ => False) w W := by rw [hW]; exact (Kp.refl _ _).alloc _
  have hWh : W.heap[w.heap.size]? = some (.cells #[.int .i64 0, .slice none 0 0] 120 (0, 0)) := by rw [hW]; exact alloc_at w _
  have HC := Lib.hid hc
  have HT := Lib.hid hT
  have HH := Lib.hid h
  have KW := Lib.hid kW
  have HWH := Lib.hid hWh
  clear hc hT h kW hWh
  go_enter Tryz.func96, Tryz.ntmps96
  go_wp2_with fail
  rw [← hW]
  clear hW
  go_loopw [4, 5] (fun kk i wr => ∃ (k j : Nat) (hk : k < Fs.length), j ≤ Fs.length ∧ kk = .int .i64 k ∧ i = .int .i64 j ∧ (∀ l (hl : l < Fs.length), l < j → ¬ Lt Fs[l].1 Fs[k].1) ∧ Kp (fun _ => False) W wr) (fun _ i _ => Fs.length - (intOf i).toNat)
  case atStart => exact ⟨0, 0, h0, Nat.zero_le _, rfl, rfl, fun _ _ q => by omega, Kp.refl _ _⟩
  case round =>
    obtain ⟨k, j, hk, hj, rfl, rfl, hl, hkp⟩ := hrel
    have HL := Lib.hid hl
    have HK := Lib.hid hkp
    have hgr : g < wr.heap.size := Nat.lt_of_lt_of_le hg (KW.out.trans hkp).size
    clear hl
    have hcr : ∀ i (hi : i < Fs.length) n os, (grow (wr.drewN n) os).cell? ⟨g, off + i * 2, none⟩ = some (.int .i64 (Fs[i].1.n : Nat)) ∧ (grow (wr.drewN n) os).cell? ⟨g, off + i * 2 + 1, none⟩ = some Fs[i].2 := fun i hi n os =>
      have kk := (KW.out.trans hkp).trans (kp_grow wr n os)
      ⟨(kk.cell (p := ⟨g, off + i * 2, none⟩) hg (fun q => q)).trans (HC.out i hi).1, (kk.cell (p := ⟨g, off + i * 2 + 1, none⟩) hg (fun q => q)).trans (HC.out i hi).2⟩
    have HCR := Lib.hid hcr
    clear hcr hkp
    by_cases hlt : j < Fs.length
    · have dj0 := fun n os => (HCR.out j hlt n os).1
      have dj1 := fun n os => (HCR.out j hlt n os).2
      have dk0 := fun n os => (HCR.out k hk n os).1
      have dk1 := fun n os => (HCR.out k hk n os).2
      have tj := HT.out _ (List.getElem_mem hlt)
      have tk := HT.out _ (List.getElem_mem hk)
      obtain ⟨pj, hpj⟩ : ∃ p, p = Fs[j] := ⟨_, rfl⟩
      obtain ⟨pk, hpk⟩ : ∃ p, p = Fs[k] := ⟨_, rfl⟩
      rw [← hpj] at dj0 dj1 tj
      rw [← hpk] at dk0 dk1 tk
      have CL := Lib.hid (fun n os => less_c (grow (wr.drewN n) os) pj.1 pk.1 pj.2 pk.2 (tj.kp ((KW.out.trans HK.out).trans (kp_grow wr n os)) (fun _ _ q => q)) (tk.kp ((KW.out.trans HK.out).trans (kp_grow wr n os)) (fun _ _ q => q)))
      have HPJ := Lib.hid hpj
      have HPK := Lib.hid hpk
      clear hpj hpk tj tk
      by_cases hL : Lt pj.1 pk.1
      · have CT := Lib.hid (fun n os => by have := CL.out n os; rwa [decide_eq_true hL] at this)
        go_wp2_with fail
        refine WQ.region mixed (by kernel_rfl) ?_
        repeat (refine WQ.step (fun K hK => ?_); go_simp; first | (refine hK _ ?_; clear hK K) | (apply Exists.intro; refine ⟨fun _ => ?_, hK _ ?_⟩; (go_at_call 132; apply Calls.grown_of; with_reducible exact CT.out _ _); clear hK K))
        refine WQ.nil ?_
        intro _ hw'
        obtain ⟨⟨nq, osq⟩, hw''⟩ := hw'
        subst hw''
        go_wp2_with fail
        refine ⟨⟨j, j + 1, hlt, by omega, rfl, by go_num, fun l hl' hlj => ?_, HK.out.trans (kp_grow wr nq osq)⟩, by simp [intOf]; omega⟩
        rw [← HPJ.out]
        by_cases e : l = j
        · subst e; rw [← HPJ.out]; exact Lt.irrefl _
        · intro q
          exact HL.out l hl' (by omega) (by rw [← HPK.out]; exact Lt.trans q hL)
      · have CT := Lib.hid (fun n os => by have := CL.out n os; rwa [decide_eq_false hL] at this)
        go_wp2_with fail
        refine WQ.region mixed (by kernel_rfl) ?_
        repeat (refine WQ.step (fun K hK => ?_); go_simp; first | (refine hK _ ?_; clear hK K) | (apply Exists.intro; refine ⟨fun _ => ?_, hK _ ?_⟩; (go_at_call 132; apply Calls.grown_of; with_reducible exact CT.out _ _); clear hK K))
        refine WQ.nil ?_
        intro _ hw'
        obtain ⟨⟨nq, osq⟩, hw''⟩ := hw'
        subst hw''
        go_wp2_with fail
        refine ⟨⟨k, j + 1, hk, by omega, rfl, by go_num, fun l hl' hlj => ?_, HK.out.trans (kp_grow wr nq osq)⟩, by simp [intOf]; omega⟩
        by_cases e : l = j
        · subst e; rw [← HPJ.out, ← HPK.out]; exact hL
        · exact HL.out l hl' (by omega)
    · obtain rfl : j = Fs.length := by omega
      have kwr := KW.out.trans HK.out
      have dk0 := (kwr.cell (p := ⟨g, off + k * 2, none⟩) hg (fun q => q)).trans (HC.out k hk).1
      have dk1 := (kwr.cell (p := ⟨g, off + k * 2 + 1, none⟩) hg (fun q => q)).trans (HC.out k hk).2
      have hsl0 := HH.out.kp kwr (fun _ _ q => q)
      obtain ⟨hu, hub⟩ := hsl0.upto (P := Tryz.prog) Tryz.underlying118 (by kernel_rfl) (show k ≤ Fs.length by omega)
      obtain ⟨a4, c4, hfr, hfb, hfo⟩ := hsl0.from_ (P := Tryz.prog) Tryz.underlying118 (by kernel_rfl) (show k + 1 ≤ Fs.length by omega)
      rw [take_E] at hub
      rw [drop_E] at hfb
      have hu' : ∀ w', (Instr.slice 118 (.slice (some ⟨g, off, none⟩) Fs.length c) none (some (.int .i64 (k : Nat))) none).run Tryz.prog w' = .ok (.slice (some ⟨g, off, none⟩) k c) w' := hu
      have hfr' : ∀ w', (Instr.slice 118 (.slice (some ⟨g, off, none⟩) Fs.length c) (some (.int .i64 ((k : Int) + 1))) none none).run Tryz.prog w' = .ok (.slice a4 (Fs.length - (k + 1)) c4) w' := fun w' => by have := hfr w'; push_cast at this; exact this
      obtain ⟨i0, hi0, hz0, hz1, hz2⟩ := info_parts infoT
      have kd : Kp (fun _ => False) wr (wr.drew.alloc (.cells #[] 120)) := ((Kp.refl _ _).drew).alloc _
      have HN := Lib.hid (own_none wr.drew 120 2)
      have HU := Lib.hid (hub.kp kd (fun _ _ q => q))
      have HF := Lib.hid hfb
      have HFO := Lib.hid hfo
      have KWR := Lib.hid kwr
      have hbx : wr.heap[w.heap.size]? = some (.cells #[.int .i64 0, .slice none 0 0] 120 (0, 0)) := HK.out.at_ HWH.out (fun q => q)
      have hbl : w.heap.size < wr.heap.size := lt_of_at hbx
      have HBX := Lib.hid hbx
      have hw1 : IntKind.i64.wrap ((k : Int) + 1) = (k : Int) + 1 := by rw [IntKind.wrap_i64]; omega
      have htk : (Fs.take k).length = k := by rw [List.length_take]; omega
      have O1 := Lib.hid (E_one (w := w) (Fs := Fs.take k) (fun p hp => HT.out p (List.mem_of_mem_take hp)))
      have O2 := Lib.hid (E_one (w := w) (Fs := Fs.drop (k + 1)) (fun p hp => HT.out p (List.mem_of_mem_drop hp)))
      have one1 : Fs[k].2.oneCell' = true := by obtain ⟨x, y, e, _⟩ := HT.out _ (List.getElem_mem hk); rw [e]; rfl
      obtain ⟨pn, hpn⟩ : ∃ n : Nat, n = Fs[k].1.n := ⟨_, rfl⟩
      obtain ⟨pv, hpv⟩ : ∃ n, n = Fs[k].2 := ⟨_, rfl⟩
      rw [← hpn] at dk0
      rw [← hpv] at dk1 one1
      obtain ⟨x1, y1, hv1, _⟩ := HT.out _ (List.getElem_mem hk)
      rw [← hpv] at hv1
      obtain ⟨z1, hz1'⟩ : ∃ z, z = Fs[k].1.s.length := ⟨_, rfl⟩
      rw [← hz1'] at hv1
      subst hv1
      have HPN := Lib.hid hpn
      have HPV := Lib.hid hpv
      have e0 := (kd.cell (p := ⟨g, off + k * 2, none⟩) hgr (fun q => q)).trans dk0
      have e1 := (kd.cell (p := ⟨g, off + k * 2 + 1, none⟩) hgr (fun q => q)).trans dk1
      have hgne : g ≠ w.heap.size := by omega
      have hgne' : w.heap.size ≠ g := by omega
      clear hu hfr hub hfb hfo hsl0 kd kwr hbx hpn hpv hz1'
      go_wp2_with fail
      go_region_held3 (fun w' => w'.cell? ⟨g, off + k * 2, none⟩ = some (.int .i64 (pn : Nat)) ∧ w'.cell? ⟨g, off + k * 2 + 1, none⟩ = some (.slice x1 z1 y1)) (go_keep) ((first
        | (refine step_app (wr.drew.alloc (.cells #[] 120)) rfl (.tmp 26) (.tmp 29) 118 rfl 120 i0 _ 2 32 Tryz.underlying118 hi0 hz0 hz1 hz2 rfl (by decide) (by decide) (.slice (some ⟨wr.heap.size, 0, none⟩) 0 0) 0 [] (by simp [Act.eval]) HN.out (.slice (some ⟨g, off, none⟩) k c) k _ (by simp [Act.eval]) HU.out O1.out (by omega) ?_; intro v1 w3 g1 g2 g3 g4 g5; obtain ⟨b1, d1, rfl⟩ := g1.form; have kk : Kp (fun _ => False) wr w3 := (((Kp.refl _ wr).drew).alloc _).up g2 (fun i e => (by have := own_b e; omega)); have r0 := (kk.cell (p := ⟨g, off + k * 2, none⟩) hgr (fun q => q)).trans dk0; have r1 := (kk.cell (p := ⟨g, off + k * 2 + 1, none⟩) hgr (fun q => q)).trans dk1; have HF3 := Lib.hid (HF.out.kp kk (fun _ _ q => q)); have G1 := Lib.hid g1; have G3 := Lib.hid g3; have KK := Lib.hid kk; clear g1 g2 g3 g4 g5 kk)
        | (refine step_app w3 rfl (.tmp 30) (.tmp 34) 118 rfl 120 i0 _ 2 32 Tryz.underlying118 hi0 hz0 hz1 hz2 rfl (by decide) (by decide) (.slice b1 (0 + k) d1) (0 + k) _ (by simp [Act.eval]) G1.out (.slice a4 (Fs.length - (k + 1)) c4) (Fs.length - (k + 1)) _ (by simp [Act.eval]) HF3.out O2.out (by omega) ?_; intro v2 w5 f1 f2 f3 f4 f5; obtain ⟨b2, d2, rfl⟩ := f1.form; have kk : Kp (fun _ => False) wr w5 := KK.out.up f2 (fun i e => (by rcases G3.out with q | q <;> (rw [e] at q; simp [Value.ownBlock] at q; omega))); have s0 := (kk.cell (p := ⟨g, off + k * 2, none⟩) hgr (fun q => q)).trans dk0; have s1 := (kk.cell (p := ⟨g, off + k * 2 + 1, none⟩) hgr (fun q => q)).trans dk1; have F1 := Lib.hid f1; have F3 := Lib.hid f3; have K5 := Lib.hid kk; have c5 := cell_of (K5.out.at_ HBX.out (fun q => q)); have x50 : w5.cell? ⟨w.heap.size, 0, none⟩ = some (.int .i64 0) := (by rw [c5]; rfl); have x51 : w5.cell? ⟨w.heap.size, 1, none⟩ = some (.slice none 0 0) := (by rw [c5]; rfl); have fz : w5.frozen? ⟨w.heap.size, 0, none⟩ = false := free_of (K5.out.at_ HBX.out (fun q => q)) 0; have fz1 : w5.frozen? ⟨w.heap.size, 1, none⟩ = false := free_of (K5.out.at_ HBX.out (fun q => q)) 1; clear f1 f2 f3 f4 f5 kk c5)))
      have hown : ∀ b, (Value.slice b2 (k + (Fs.length - (k + 1))) d2).ownBlock = some b → w.heap.size < b := by
        intro b hb
        rcases F3.out with q | q
        · rw [Nat.zero_add, hb] at q
          rcases G3.out with q' | q'
          · rw [Nat.zero_add, ← q] at q'; have := own_b q'.symm; omega
          · rw [Nat.zero_add, ← q] at q'; simp at q'; omega
        · rw [Nat.zero_add, hb] at q
          simp only [Option.some.injEq] at q
          have := KK.out.size
          omega
      have F6 : OwnR ((w5.setCell ⟨w.heap.size, 0, none⟩ (.int .i64 (pn : Nat))).setCell ⟨w.heap.size, 1, none⟩ (.slice x1 z1 y1)) 120 2 (.slice b2 (Fs.length - 1) d2) (Fs.length - 1) ((Fs.take k ++ Fs.drop (k + 1)).flatMap E) := by
        have h5 := F1.out
        have e : k + (Fs.length - (k + 1)) = Fs.length - 1 := by omega
        rw [List.nil_append, ← List.flatMap_append, Nat.zero_add, e] at h5
        rw [e] at hown
        exact h5.kept (fun b hb _ => by
          have := hown b hb
          exact (Below.heap_setCell _ _ _ _ (by simp only; omega)).trans (Below.heap_setCell _ _ _ _ (by simp only; omega)))
      have h6 := setCell_at (i := 1) (setCell_at (i := 0) (K5.out.at_ HBX.out (fun q => q)) (.int .i64 (pn : Nat))) (.slice x1 z1 y1)
      have k6 : Kp (fun _ => False) w ((w5.setCell ⟨w.heap.size, 0, none⟩ (.int .i64 (pn : Nat))).setCell ⟨w.heap.size, 1, none⟩ (.slice x1 z1 y1)) :=
        ((KWR.out.trans K5.out).setCell (p := ⟨w.heap.size, 0, none⟩) (fun q => by simp only at q; omega) _).setCell (p := ⟨w.heap.size, 1, none⟩) (fun q => by simp only at q; omega) _
      generalize (w5.setCell ⟨w.heap.size, 0, none⟩ (.int .i64 (pn : Nat))).setCell ⟨w.heap.size, 1, none⟩ (.slice x1 z1 y1) = w6 at F6 h6 k6 ⊢
      have y0 : w6.cell? ⟨w.heap.size, 0, none⟩ = some (.int .i64 (pn : Nat)) := by rw [cell_of h6]; rfl
      have y1' : w6.cell? ⟨w.heap.size, 1, none⟩ = some (.slice x1 z1 y1) := by rw [cell_of h6]; rfl
      have e : k + (Fs.length - (k + 1)) = Fs.length - 1 := by omega
      rw [e] at hown ⊢
      have HO := Lib.hid hown
      have K6 := Lib.hid k6
      have H6 := Lib.hid F6
      clear x50 x51 fz fz1 s0 s1 hown k6 F6 h6 dk0 dk1 e0 e1 r0 r1 hu' hfr' e hw1
      go_wp2_with fail
      refine bodyPost_ret (v := .tuple #[.agg #[.int .i64 (pn : Nat), .slice x1 z1 y1], .slice b2 (Fs.length - 1) d2]) ?_ rfl ?_
      · rw [results_cell_tmp rfl]
        simp [go_sem, y0, y1']
      refine ⟨k, hk, b2, d2, ?_, H6.out, fun b hb => Nat.le_of_lt (HO.out b hb), K6.out, ?_⟩
      · rw [← HPN.out, ← HPV.out]
      · intro p hp
        obtain ⟨l, hl, rfl⟩ := List.getElem_of_mem hp
        exact HL.out l hl hl
end Go.Proofs.YtphakpikalmghaaGreat.Hu
