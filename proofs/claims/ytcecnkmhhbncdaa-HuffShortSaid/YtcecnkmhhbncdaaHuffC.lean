/- Which lengths may be, and their codes; in plain words. -/
import Derived.Test.YtcecnkmhhbncdaaHuffS
namespace Go.Hf
/-- One pass over the first j lengths: who has the length n gets the next code. -/
def pass1 (ls : Nat → Int) (n : Int) : Nat → Nat × (Nat → Int) → Nat × (Nat → Int)
  | 0, st => st
  | j + 1, st => if ls j = n then ((pass1 ls n j st).1 + 1, fun i => if i = j then ((pass1 ls n j st).1 : Int) else (pass1 ls n j st).2 i) else pass1 ls n j st
def passes (ls : Nat → Int) (N : Nat) : Nat → Nat × (Nat → Int)
  | 0 => (0, fun _ => -1)
  | n + 1 => pass1 ls ((n : Int) + 1) N (2 * (passes ls N n).1, (passes ls N n).2)
theorem pass1_le (ls : Nat → Int) (n : Int) (j : Nat) (st : Nat × (Nat → Int)) : (pass1 ls n j st).1 ≤ st.1 + j ∧ st.1 ≤ (pass1 ls n j st).1 := by
  induction j with
  | zero => simp [pass1]
  | succ j ih => simp only [pass1]; split <;> (try simp only) <;> omega
theorem passes_le (ls : Nat → Int) (N n : Nat) : (passes ls N n).1 + N ≤ N * 2 ^ n := by
  induction n with
  | zero => simp [passes]
  | succ n ih =>
    have h := (pass1_le ls ((n : Int) + 1) N (2 * (passes ls N n).1, (passes ls N n).2)).1
    simp only [passes]
    simp only at h
    rw [Nat.pow_succ, ← Nat.mul_assoc]
    omega
theorem passes_bound (ls : Nat → Int) {N n : Nat} (hN : N ≤ 300) (hn : n ≤ 11) : (passes ls N n).1 ≤ 614400 := by
  have h := passes_le ls N n
  have h2 : N * 2 ^ n ≤ 300 * 2 ^ 11 := Nat.mul_le_mul hN (Nat.pow_le_pow_right (by omega) hn)
  have : 300 * 2 ^ 11 = 614400 := rfl
  omega
def lf (xs : List Int) : Nat → Int := fun i => xs[i]?.getD 0
theorem lf_at {xs : List Int} {i : Nat} (h : i < xs.length) : lf xs i = xs[i] := by simp [lf, h]
def codes (xs : List Int) : Nat → Int := (passes (lf xs) xs.length 11).2

/-- What the sum, the number and the last one of lengths are. -/
def isStep (st : Nat × Nat × Int) (n : Int) : Nat × Nat × Int := if 0 < n then (st.1 + 2 ^ (11 - n.toNat), st.2.1 + 1, n) else st
def isSt (l : List Int) : Nat × Nat × Int := l.foldl isStep (0, 0, 0)
theorem snoc_ind {P : List Int → Prop} (h0 : P []) (h1 : ∀ l n, P l → P (l ++ [n])) (l : List Int) : P l := by
  have h : ∀ l : List Int, P l.reverse := fun l => by
    induction l with
    | nil => exact h0
    | cons n l ih => rw [List.reverse_cons]; exact h1 _ _ ih
  have := h l.reverse
  rwa [List.reverse_reverse] at this
theorem isSt_snoc (l : List Int) (n : Int) : isSt (l ++ [n]) = isStep (isSt l) n := by simp [isSt]
theorem isSt_le (l : List Int) : (isSt l).1 ≤ 2048 * l.length ∧ (isSt l).2.1 ≤ l.length := by
  refine snoc_ind (P := fun l => (isSt l).1 ≤ 2048 * l.length ∧ (isSt l).2.1 ≤ l.length) (by simp [isSt]) (fun l n ih => ?_) l
  · rw [isSt_snoc, List.length_append, List.length_singleton]
    unfold isStep
    split
    · have : 2 ^ (11 - n.toNat) ≤ 2 ^ 11 := Nat.pow_le_pow_right (by omega) (by omega)
      have e : 2 ^ 11 = 2048 := rfl
      simp only
      omega
    · omega
def InR (xs : List Int) : Prop := ∀ x, x ∈ xs → 0 ≤ x ∧ x ≤ 11
def IsOk (xs : List Int) : Prop := xs.length ≤ 256 ∧ InR xs ∧ (((isSt xs).2.1 = 1 ∧ (isSt xs).2.2 = 1) ∨ (isSt xs).1 = 2048)
/-- Where there is one, the sum is what its length says. -/
theorem isSt_one {l : List Int} (h : InR l) : ((isSt l).2.1 = 0 → (isSt l).1 = 0) ∧ ((isSt l).2.1 = 1 → (isSt l).1 = 2 ^ (11 - (isSt l).2.2.toNat) ∧ 0 < (isSt l).2.2) := by
  revert h
  refine snoc_ind (P := fun l => InR l → ((isSt l).2.1 = 0 → (isSt l).1 = 0) ∧ ((isSt l).2.1 = 1 → (isSt l).1 = 2 ^ (11 - (isSt l).2.2.toNat) ∧ 0 < (isSt l).2.2)) (by simp [isSt]) (fun l n ih h => ?_) l
  · have ih := ih (fun x hx => h x (List.mem_append.2 (.inl hx)))
    rw [isSt_snoc]
    unfold isStep
    split
    · simp only
      refine ⟨fun q => by omega, fun q => ?_⟩
      have h0 := ih.1 (by omega)
      rw [h0, Nat.zero_add]
      exact ⟨rfl, by assumption⟩
    · exact ih
theorem isSt_doc {xs : List Int} (h : InR xs) : (((isSt xs).2.1 = 1 ∧ (isSt xs).2.2 = 1) ∨ (isSt xs).1 = 2048) ↔ (if (isSt xs).2.1 = 1 then (isSt xs).2.2 = 1 else (isSt xs).1 = 2048) := by
  by_cases h1 : (isSt xs).2.1 = 1
  · rw [if_pos h1]
    obtain ⟨h2, h3⟩ := (isSt_one h).2 h1
    refine ⟨fun q => ?_, fun q => .inl ⟨h1, q⟩⟩
    rcases q with q | q
    · exact q.2
    · rw [h2] at q
      exfalso
      have e : 2 ^ (11 - (isSt xs).2.2.toNat) ≤ 2 ^ 10 := Nat.pow_le_pow_right (by omega) (by omega)
      have e2 : 2 ^ 10 = 1024 := rfl
      omega
  · rw [if_neg h1]
    exact ⟨fun q => q.resolve_left (fun z => h1 z.1), .inr⟩
end Go.Hf
