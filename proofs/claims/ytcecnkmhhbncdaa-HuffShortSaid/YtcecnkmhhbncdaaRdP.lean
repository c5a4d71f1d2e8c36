/- What is put is read back. -/
import Derived.Test.YtcecnkmhhbncdaaRdA
import Derived.Test.YtcecnkmhhbncdaaStr
import Derived.Test.YtcecnkmhhbncdaaRdN
namespace Go.Proofs.Ytcecnkmhhbncdaa.Rd
open Go Go.RowKit Go.Hf Go.Proofs.Ytcecnkmhhbncdaa.Bw Go.Proofs.Ytcecnkmhhbncdaa.He

theorem pk_bit (B : Nat → Bool) (k j i : Nat) (hi : i < 8) : (pk B k j).testBit i = (decide (8 * j + i < k) && B (8 * j + i)) := by
  induction k with
  | zero => simp [pk]
  | succ k ih =>
    simp only [pk]
    split
    · rename_i h
      rw [Nat.testBit_or, ih, Nat.testBit_two_pow]
      obtain ⟨hb, hj⟩ := h
      by_cases e : k % 8 = i
      · have e2 : 8 * j + i = k := by omega
        rw [e2, hb]
        simp [e]
      · have e2 : (8 * j + i < k) = (8 * j + i < k + 1) := by
          apply propext
          constructor <;> intro h <;> omega
        simp [e, e2]
    · rename_i h
      rw [ih]
      by_cases e2 : 8 * j + i = k
      · have hb : B k = false := by
          cases hb : B k with
          | false => rfl
          | true => exact absurd ⟨hb, by omega⟩ h
        rw [e2, hb]; simp
      · have e3 : (8 * j + i < k) = (8 * j + i < k + 1) := by
          apply propext
          constructor <;> intro h <;> omega
        simp [e3]
theorem fin_bit (B : Nat → Bool) (n j i : Nat) (hi : i < 8) : (fin B n j).testBit i = (decide (8 * j + i = n) || (decide (8 * j + i < n) && B (8 * j + i))) := by
  unfold fin
  split
  · rename_i h
    rw [Nat.testBit_or, pk_bit B n j i hi, Nat.testBit_two_pow]
    have e : (n % 8 = i) = (8 * j + i = n) := by
      apply propext
      constructor <;> intro h <;> omega
    simp only [e]
    rw [Bool.or_comm]
  · rename_i h
    rw [pk_bit B n j i hi, decide_eq_false (show ¬ 8 * j + i = n by omega), Bool.false_or]
theorem pack_bit (B : List Bool) (k : Nat) (hk : k < 8 * (B.length / 8 + 1)) : bb (pack B) k = (decide (k = B.length) || (decide (k < B.length) && (B[k]?.getD false))) := by
  have h8 : k / 8 < B.length / 8 + 1 := by omega
  have e : (pack B)[k / 8]?.getD 0 = UInt8.ofNat (fin (fun i => B[i]?.getD false) B.length (k / 8)) := by
    simp [pack, h8]
  unfold bb
  have hm : fin (fun i => B[i]?.getD false) B.length (k / 8) % 2 ^ 8 = fin (fun i => B[i]?.getD false) B.length (k / 8) := Nat.mod_eq_of_lt (fin_lt _ _ _)
  rw [e, UInt8.toNat_ofNat', hm, ← Nat.testBit_eq_decide_div_mod_eq, fin_bit _ _ _ _ (by omega), show 8 * (k / 8) + k % 8 = k by omega]
theorem pack_good (B : List Bool) : Gb (pack B) := by
  have hl := pack_len B
  refine ⟨by omega, fun h => ?_⟩
  have := pack_bit B B.length (by omega)
  unfold bb at this
  rw [show B.length / 8 = (pack B).length - 1 by omega, h] at this
  simp at this
theorem pack_top (B : List Bool) : top (pack B) = B.length := by
  have hg := pack_good B
  have hl := pack_len B
  have h1 := top_lt hg
  rcases Nat.lt_trichotomy (top (pack B)) B.length with h | h | h
  · have := bb_above hg h (by omega)
    rw [pack_bit B _ (by omega)] at this
    simp at this
  · exact h
  · have := bb_top hg
    rw [pack_bit B _ (by omega), decide_eq_false (show ¬ top (pack B) = B.length by omega), decide_eq_false (show ¬ top (pack B) < B.length by omega)] at this
    cases this
theorem pack_at (B : List Bool) {k : Nat} (hk : k < B.length) : bb (pack B) k = B[k]?.getD false := by
  rw [pack_bit B k (by omega), decide_eq_false (show ¬ k = B.length by omega), decide_eq_true hk]
  rfl

/-! ### A code is read -/
theorem fd_own {xs : List Int} (h : IsOk xs) {s q L : Nat} (hs : s < xs.length) (h1 : codes xs s = (q : Nat)) (h2 : lf xs s = (L : Nat)) (h0 : 0 < L) : fd xs (q : Nat) (L : Nat) xs.length = some s := by
  cases hf : fd xs (q : Nat) (L : Nat) xs.length with
  | none => exact absurd ⟨h2, h1⟩ (fd_none hf s hs)
  | some t =>
    have ht := fd_lt hf
    obtain ⟨e1, e2⟩ := fd_some hf
    by_cases e : t = s
    · rw [e]
    · exfalso
      rw [lf_at ht] at e1
      rw [lf_at hs] at h2
      rcases codes_is h.2.1 ht with ⟨q0, _⟩ | ⟨n, hn, x1, x2⟩
      · omega
      · rcases codes_is h.2.1 hs with ⟨q0, _⟩ | ⟨m, hm, y1, y2⟩
        · omega
        · obtain rfl : n = m := by omega
          have := free ht hs e hn hm x1 y1 (Nat.le_refl _)
          rw [Nat.sub_self, Nat.pow_zero, Nat.div_one] at this
          omega
theorem fd_early {xs : List Int} (h : IsOk xs) {s q L d : Nat} (hs : s < xs.length) (h1 : codes xs s = (q : Nat)) (h2 : lf xs s = (L : Nat)) (hd0 : 0 < d) (hd : d < L) : fd xs ((q / 2 ^ d : Nat) : Int) ((L - d : Nat) : Int) xs.length = none := by
  cases hf : fd xs ((q / 2 ^ d : Nat) : Int) ((L - d : Nat) : Int) xs.length with
  | none => rfl
  | some t =>
    exfalso
    have ht := fd_lt hf
    obtain ⟨e1, e2⟩ := fd_some hf
    have e : t ≠ s := by intro e; rw [e, h2] at e1; omega
    rw [lf_at ht] at e1
    rw [lf_at hs] at h2
    rcases codes_is h.2.1 ht with ⟨q0, _⟩ | ⟨n, hn, x1, x2⟩
    · omega
    · rcases codes_is h.2.1 hs with ⟨q0, _⟩ | ⟨m, hm, y1, y2⟩
      · omega
      · have := free ht hs e hn hm x1 y1 (by omega)
        rw [show m - n = d by omega] at this
        have e3 : stc (lf xs) xs.length m s = q := by omega
        rw [e3] at this
        omega
theorem oneS_read {xs : List Int} (h : IsOk xs) {f : Nat → Bool} {s q L r : Nat} (hs : s < xs.length) (h1 : codes xs s = (q : Nat)) (h2 : lf xs s = (L : Nat)) (hL : L ≤ 11) (hq : q < 2 ^ L) (hf : ∀ i, i < L → f (r + i) = decide (q / 2 ^ i % 2 = 1)) :
    ∀ d, d < L → oneS xs f (11 - (L - (d + 1))) (L - (d + 1) + 1) (q / 2 ^ (d + 1)) (r + (d + 1)) = some (s, r)
  | 0, hd => by
    obtain ⟨k, hk⟩ : ∃ k, 11 - (L - (0 + 1)) = k + 1 := ⟨10 - (L - 1), by omega⟩
    rw [hk, show r + (0 + 1) = r + 1 by omega]
    simp only [oneS, Nat.add_one_sub_one]
    rw [if_neg (by omega)]
    have e := hf 0 hd
    rw [Nat.add_zero, Nat.pow_zero, Nat.div_one] at e
    have e2 : 2 * (q / 2 ^ (0 + 1)) + (if f r = true then 1 else 0) = q := by
      rw [e, Nat.zero_add, Nat.pow_one]
      by_cases h : q % 2 = 1
      · simp [h]; omega
      · simp [h]; omega
    rw [e2, show L - (0 + 1) + 1 = L by omega, fd_own h hs h1 h2 (by omega)]
  | d + 1, hd => by
    obtain ⟨k, hk⟩ : ∃ k, 11 - (L - (d + 1 + 1)) = k + 1 := ⟨10 - (L - (d + 2)), by omega⟩
    have ih := oneS_read h hs h1 h2 hL hq hf d (by omega)
    rw [hk, show r + (d + 1 + 1) = (r + (d + 1)) + 1 by omega]
    simp only [oneS, Nat.add_one_sub_one]
    rw [if_neg (by omega)]
    have e := hf (d + 1) hd
    have e2 : 2 * (q / 2 ^ (d + 1 + 1)) + (if f (r + (d + 1)) = true then 1 else 0) = q / 2 ^ (d + 1) := by
      rw [e, Nat.pow_succ 2 (d + 1), ← Nat.div_div_eq_div_mul]
      by_cases h : q / 2 ^ (d + 1) % 2 = 1
      · simp [h]; omega
      · simp [h]; omega
    rw [e2, show L - (d + 1 + 1) + 1 = L - (d + 1) by omega, fd_early h hs h1 h2 (by omega) (by omega)]
    rw [show 11 - (L - (d + 1)) = k by omega] at ih
    exact ih
theorem bt_pre (xs : List Int) (l : List UInt8) (m : Nat) : ∀ e, ∃ t, bt xs l (m + e) = bt xs l m ++ t
  | 0 => ⟨[], by simp⟩
  | e + 1 => by
    obtain ⟨t, ht⟩ := bt_pre xs l m e
    exact ⟨_, by rw [← Nat.add_assoc, bt, ht, List.append_assoc]⟩
/-- All symbols are read. -/
theorem many_read {xs : List Int} {l : List UInt8} (h : EncOk xs l) {f : Nat → Bool} (hf : ∀ k, k < (bt xs l l.length).length → f k = (bt xs l l.length)[k]?.getD false) :
    ∀ i, i ≤ l.length → manyS xs f (bt xs l l.length).length i = some ((List.range i).map (sym l), (bt xs l (l.length - i)).length)
  | 0, _ => by simp [manyS]
  | i + 1, hi => by
    have ih := many_read h hf i (by omega)
    obtain ⟨j, hj⟩ : ∃ j, l.length - i = j + 1 := ⟨l.length - i - 1, by omega⟩
    have hgd := h.2 i (by omega)
    obtain ⟨q, L, h1, h2, h0, h11, hq⟩ := code_nat h.1 hgd
    have hcb : cb xs (sym l i) = bitsOf q L := by unfold cb; rw [h1, h2]; simp
    have e1 : bt xs l (l.length - i) = bt xs l j ++ bitsOf q L := by
      rw [hj, bt, show l.length - 1 - j = i by omega, hcb]
    have e2 : (bt xs l (l.length - i)).length = (bt xs l j).length + L := by rw [e1, List.length_append, bitsOf_len]
    -- the bits of what is left lie where they lay
    have hpre : ∀ m, m ≤ l.length → ∃ t, bt xs l l.length = bt xs l m ++ t := by
      intro m hm
      have := bt_pre xs l m (l.length - m)
      rwa [show m + (l.length - m) = l.length by omega] at this
    have hread : ∀ t, t < L → f ((bt xs l j).length + t) = decide (q / 2 ^ t % 2 = 1) := by
      intro t ht
      obtain ⟨T, hT⟩ := hpre (l.length - i) (by omega)
      have hlen : (bt xs l l.length).length = (bt xs l j).length + L + T.length := by rw [hT, List.length_append, e2]
      rw [hf _ (by omega), hT, e1, List.getElem?_append_left (by rw [List.length_append, bitsOf_len]; omega), List.getElem?_append_right (by omega), Nat.add_sub_cancel_left]
      simp [bitsOf, ht]
    have ho := oneS_read h.1 hgd.1 h1 h2 h11 hq hread (L - 1) (by omega)
    rw [show L - (L - 1 + 1) = 0 by omega, show L - 1 + 1 = L by omega, Nat.div_eq_of_lt hq] at ho
    simp only [manyS, ih]
    rw [e2, ho]
    rw [List.range_succ, List.map_append, show l.length - (i + 1) = j by omega]
    rfl
theorem sym_map (l : List UInt8) : ob ((List.range l.length).map (sym l)) = l := by
  apply List.ext_getElem
  · simp [ob]
  · intro i h1 h2
    simp [ob, sym, h2]
theorem dec_enc {xs : List Int} {l : List UInt8} (h : EncOk xs l) : DecYes xs (pack (bt xs l l.length)) (l.length : Nat) ((List.range l.length).map (sym l)) := by
  refine ⟨pack_good _, h.1, by omega, ?_⟩
  have := many_read h (f := bb (pack (bt xs l l.length))) (fun k hk => pack_at _ hk) l.length (Nat.le_refl _)
  rw [Nat.sub_self] at this
  rw [pack_top, Int.toNat_natCast]
  exact this
theorem dec_less {xs : List Int} {l : List UInt8} (h : EncOk xs l) (h0 : 0 < l.length) (o : List Nat) : ¬ DecYes xs (pack (bt xs l l.length)) ((l.length : Nat) - 1 : Int) o := by
  intro q
  have := many_read h (f := bb (pack (bt xs l l.length))) (fun k hk => pack_at _ hk) (l.length - 1) (by omega)
  have q4 := q.2.2.2
  rw [pack_top, show ((l.length : Nat) - 1 : Int).toNat = l.length - 1 by omega, this, show l.length - (l.length - 1) = 0 + 1 by omega] at q4
  obtain ⟨q', L, h1, h2, hL, _, _⟩ := code_nat h.1 (h.2 (l.length - 1 - 0) (by omega))
  simp only [bt, cb, List.nil_append, bitsOf_len, h2, Int.toNat_natCast] at q4
  simp only [Option.some.injEq, Prod.mk.injEq] at q4
  omega
theorem dec_more {xs : List Int} {l : List UInt8} (h : EncOk xs l) (o : List Nat) : ¬ DecYes xs (pack (bt xs l l.length)) ((l.length : Nat) + 1 : Int) o := by
  intro q
  have := many_read h (f := bb (pack (bt xs l l.length))) (fun k hk => pack_at _ hk) l.length (Nat.le_refl _)
  have q4 := q.2.2.2
  rw [pack_top, show ((l.length : Nat) + 1 : Int).toNat = l.length + 1 by omega] at q4
  rw [Nat.sub_self] at this
  have e0 : (bt xs l 0).length = 0 := rfl
  simp only [manyS, this, e0] at q4
  simp [oneS] at q4
end Go.Proofs.Ytcecnkmhhbncdaa.Rd
