/- The lengths of counts, in plain words; that halving ends. -/
import Derived.Test.YtcecnkmhhbncdaaHuffQ
namespace Go.Hf
/-- What joining gives: how long each symbol's code is. -/
def Jd (cs : List Nat) (L : Nat → Nat) : Prop :=
  (∃ t, forest cs = [t] ∧ L = fun i => if i = t.m then 1 else 0) ∨ ((forest cs).length ≠ 1 ∧ Run (forest cs) (fun _ => 0) L)
theorem Jd.det {cs : List Nat} {L L' : Nat → Nat} (h : Jd cs L) (h' : Jd cs L') : L = L' := by
  rcases h with ⟨t, e, rfl⟩ | ⟨hn, hr⟩
  · rcases h' with ⟨t', e', rfl⟩ | ⟨hn', _⟩
    · rw [e] at e'; cases e'; rfl
    · exact (hn' (by rw [e]; rfl)).elim
  · rcases h' with ⟨t', e', rfl⟩ | ⟨_, hr'⟩
    · exact (hn (by rw [e']; rfl)).elim
    · exact hr.det hr' (List.Perm.refl _)
def half (c : Nat) : Nat := (c + 1) / 2
inductive IsLens : List Nat → (Nat → Nat) → Prop
  | done {cs : List Nat} {L : Nat → Nat} (h : Jd cs L) (hs : ∀ i, i < cs.length → L i ≤ 11) : IsLens cs L
  | half {cs : List Nat} {L1 L : Nat → Nat} (h : Jd cs L1) (hs : ∃ i, i < cs.length ∧ 11 < L1 i) (k : IsLens (cs.map half) L) : IsLens cs L
theorem IsLens.det {cs : List Nat} {L L' : Nat → Nat} (h : IsLens cs L) (h' : IsLens cs L') : L = L' := by
  induction h with
  | done h hs =>
    cases h' with
    | done k _ => exact h.det k
    | half k ks _ => obtain ⟨i, hi, q⟩ := ks; rw [← h.det k] at q; have := hs i hi; omega
  | half h hs _ ih =>
    cases h' with
    | done k ks => obtain ⟨i, hi, q⟩ := hs; rw [h.det k] at q; have := ks i hi; omega
    | half _ _ k => exact ih k
theorem fib14 : fib 14 = 377 := rfl
theorem fib13 : fib 13 = 233 := rfl
theorem fib12 : fib 12 = 144 := rfl
theorem Jd.heights {lo : Nat} {cs : List Nat} (hlo : ∀ c, c ∈ cs → 0 < c → lo ≤ c) {L : Nat → Nat} (h : Jd cs L) {i : Nat} (hi : 1 < L i) : fib (L i + 2) * lo ≤ cs.sum := by
  rcases h with ⟨t, e, rfl⟩ | ⟨_, hr⟩
  · simp only at hi; split at hi <;> omega
  · exact Hf.heights hlo hr (by omega)
theorem sum_le_ones {cs : List Nat} (h : ∀ c, c ∈ cs → c ≤ 1) : cs.sum ≤ cs.length := by
  induction cs with
  | nil => simp
  | cons c l ih =>
    have h1 := h c (by simp)
    have h2 := ih (fun d hd => h d (by simp [hd]))
    simp only [List.sum_cons, List.length_cons]
    omega
theorem half_sum_le (cs : List Nat) : (cs.map half).sum ≤ cs.sum := by
  induction cs with
  | nil => simp
  | cons c l ih => simp only [List.map_cons, List.sum_cons, half]; omega
theorem half_sum_lt {cs : List Nat} (h : ∃ c, c ∈ cs ∧ 2 ≤ c) : (cs.map half).sum < cs.sum := by
  induction cs with
  | nil => obtain ⟨c, hc, _⟩ := h; cases hc
  | cons d l ih =>
    obtain ⟨c, hc, h2⟩ := h
    simp only [List.map_cons, List.sum_cons, half]
    rcases List.mem_cons.1 hc with rfl | hc
    · have := half_sum_le l; omega
    · have := ih ⟨c, hc, h2⟩; omega
/-- Where a code is too long, halving makes less. -/
theorem Jd.falls {cs : List Nat} {L : Nat → Nat} (h : Jd cs L) (hl : cs.length ≤ 256) (hs : ∃ i, i < cs.length ∧ 11 < L i) : (cs.map half).sum < cs.sum := by
  refine half_sum_lt ?_
  apply Classical.byContradiction
  intro hno
  have h1 : ∀ c, c ∈ cs → c ≤ 1 := fun c hc => by
    apply Classical.byContradiction
    intro q
    exact hno ⟨c, hc, by omega⟩
  obtain ⟨i, _, hi⟩ := hs
  have h2 := h.heights (lo := 1) (fun c _ hc => hc) (show 1 < L i by omega)
  have h3 := fib_mono (show 14 ≤ L i + 2 by omega)
  rw [fib14] at h3
  have := sum_le_ones h1
  omega
end Go.Hf
