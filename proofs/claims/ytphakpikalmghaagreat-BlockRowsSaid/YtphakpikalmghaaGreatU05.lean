/- match, in plain words: what was there already, steps, what stands as it is. seqs, in plain words: numbers' codes, offsets' values, rows, steps as bytes. A region that only reads, one operation at a time, what follows kept from being unfolded. The document's huff: which of two trees comes first. -/
import Derived.Shelf.SlSortCmp.QuietGrown
import Derived.Test.YtphakpikalmghaaGreatU04
import Derived.Test.YtphakpikalmghaaGreatU01
import Derived.Test.YtphakpikalmghaaGreatU02
namespace Go.Mt
structure Sq where
  lit : Nat
  off : Nat
  len : Nat
section
variable (a : Nat → Nat) (m : Nat)
/-- How many bytes from j and from i on are the same: n are already. -/
def lng (j i : Nat) : Nat → Nat → Nat
  | 0, n => n
  | f + 1, n => if i + n < m ∧ a (j + n) = a (i + n) then lng j i f (n + 1) else n
def long (j i : Nat) : Nat := lng a m j i (m - i) 0
variable {a : Nat → Nat} {m : Nat}
theorem lng_step {j i n : Nat} (h : i + n < m) (e : a (j + n) = a (i + n)) : lng a m j i (m - i - n) n = lng a m j i (m - i - (n + 1)) (n + 1) := by
  obtain ⟨f, hf⟩ : ∃ f, m - i - n = f + 1 := ⟨m - i - n - 1, by omega⟩
  rw [hf, show m - i - (n + 1) = f by omega, lng, if_pos ⟨h, e⟩]
theorem lng_end {j i n : Nat} (h : m ≤ i + n) : lng a m j i (m - i - n) n = n := by
  rw [show m - i - n = 0 by omega, lng]
theorem lng_stop {j i n : Nat} (e : a (j + n) ≠ a (i + n)) : lng a m j i (m - i - n) n = n := by
  cases hf : m - i - n with
  | zero => rw [lng]
  | succ f => rw [lng, if_neg (fun q => e q.2)]
theorem lng_le {j i : Nat} : ∀ f n, i + n + f ≤ m ∨ f = 0 → lng a m j i f n ≤ n + f
  | 0, n, _ => Nat.le_refl _
  | f + 1, n, h => by
    rw [lng]
    split
    · have := lng_le (j := j) (i := i) f (n + 1) (by omega); omega
    · omega
theorem long_le {j i : Nat} (h : i ≤ m) : long a m j i ≤ m - i := by
  have := lng_le (a := a) (m := m) (j := j) (i := i) (m - i) 0 (by omega)
  rw [Nat.zero_add] at this
  exact this
end
section
variable (a : Nat → Nat) (m : Nat)
/-- Of the last j places that are not tried yet. -/
def bst (i depth : Nat) : Nat → Nat → Nat → Nat → Nat × Nat
  | 0, _, off, size => (off, size)
  | j + 1, tried, off, size => if long a m j i < 4 then bst i depth j tried off size
    else if size < long a m j i then (if tried + 1 = depth then (i - j, long a m j i) else bst i depth j (tried + 1) (i - j) (long a m j i))
    else (if tried + 1 = depth then (off, size) else bst i depth j (tried + 1) off size)
def best (i depth : Nat) : Nat × Nat := bst a m i depth i 0 0 0
/-- A match, or none. -/
def Ok (i : Nat) (p : Nat × Nat) : Prop := p.2 = 0 ∨ (4 ≤ p.2 ∧ p.2 ≤ m - i ∧ 1 ≤ p.1 ∧ p.1 ≤ i)
variable {a : Nat → Nat} {m : Nat}
theorem bst_ok {i depth : Nat} (hi : i ≤ m) : ∀ j tried off size, j ≤ i → Ok m i (off, size) → Ok m i (bst a m i depth j tried off size)
  | 0, _, _, _, _, h => h
  | j + 1, tried, off, size, hj, h => by
    have h1 := long_le (a := a) (j := j) hi
    rw [bst]
    split
    · exact bst_ok hi j _ _ _ (by omega) h
    · rename_i q
      have h2 : Ok m i (i - j, long a m j i) := .inr ⟨by simp only; omega, h1, by simp only; omega, by simp only; omega⟩
      split
      · split
        · exact h2
        · exact bst_ok hi j _ _ _ (by omega) h2
      · split
        · exact h
        · exact bst_ok hi j _ _ _ (by omega) h
theorem best_ok {i depth : Nat} (hi : i ≤ m) : Ok m i (best a m i depth) := bst_ok hi i 0 0 0 (Nat.le_refl _) (.inl rfl)
end
section
variable (a : Nat → Nat) (m depth : Nat)
def prs : Nat → Nat → Nat → List Sq
  | 0, _, _ => []
  | f + 1, i, lit => if i + 4 ≤ m then (if (best a m i depth).2 = 0 then prs f (i + 1) (lit + 1) else ⟨lit, (best a m i depth).1, (best a m i depth).2⟩ :: prs f (i + (best a m i depth).2) 0) else []
/-- The steps from i on. -/
def rest (i lit : Nat) : List Sq := prs a m depth (m - i) i lit
variable {a : Nat → Nat} {m depth : Nat}
theorem prs_fuel : ∀ f g i lit, m - i ≤ f → m - i ≤ g → prs a m depth f i lit = prs a m depth g i lit
  | 0, 0, _, _, _, _ => rfl
  | 0, g + 1, i, lit, h, _ => by rw [prs, prs, if_neg (by omega)]
  | f + 1, 0, i, lit, _, h => by rw [prs, prs, if_neg (by omega)]
  | f + 1, g + 1, i, lit, h1, h2 => by
    rw [prs, prs]
    split
    · split
      · exact prs_fuel f g _ _ (by omega) (by omega)
      · rename_i q
        rw [prs_fuel f g _ _ (by omega) (by omega)]
    · rfl
theorem rest_end {i lit : Nat} (h : m < i + 4) : rest a m depth i lit = [] := by
  unfold rest
  cases m - i with
  | zero => rw [prs]
  | succ f => rw [prs, if_neg (by omega)]
theorem rest_lit {i lit : Nat} (h : i + 4 ≤ m) (e : (best a m i depth).2 = 0) : rest a m depth i lit = rest a m depth (i + 1) (lit + 1) := by
  unfold rest
  obtain ⟨f, hf⟩ : ∃ f, m - i = f + 1 := ⟨m - i - 1, by omega⟩
  rw [hf, prs, if_pos h, if_pos e]
  exact prs_fuel _ _ _ _ (by omega) (by omega)
theorem rest_hit {i lit : Nat} (h : i + 4 ≤ m) (e : (best a m i depth).2 ≠ 0) : rest a m depth i lit = ⟨lit, (best a m i depth).1, (best a m i depth).2⟩ :: rest a m depth (i + (best a m i depth).2) 0 := by
  unfold rest
  obtain ⟨f, hf⟩ : ∃ f, m - i = f + 1 := ⟨m - i - 1, by omega⟩
  rw [hf, prs, if_pos h, if_neg e]
  rw [prs_fuel f (m - (i + (best a m i depth).2)) _ _ (by omega) (by omega)]
/-- All steps' bytes. -/
def tot : List Sq → Nat
  | [] => 0
  | s :: l => s.lit + s.len + tot l
theorem tot_append (l r : List Sq) : tot (l ++ r) = tot l + tot r := by
  induction l with
  | nil => simp [tot]
  | cons s l ih => simp only [List.cons_append, tot, ih]; omega
theorem prs_tot : ∀ f i lit, i ≤ m → tot (prs a m depth f i lit) ≤ m - i + lit ∧ 4 * (prs a m depth f i lit).length ≤ m - i
  | 0, i, lit, _ => by simp [prs, tot]
  | f + 1, i, lit, hi => by
    rw [prs]
    split
    · split
      · have := prs_tot f (i + 1) (lit + 1) (by omega); omega
      · rename_i q
        rcases best_ok (a := a) (depth := depth) hi with h | h
        · exact absurd h q
        · have := prs_tot f (i + (best a m i depth).2) 0 (by omega)
          simp only [tot, List.length_cons]
          omega
    · simp [tot]
theorem prs_each : ∀ f i lit, i ≤ m → ∀ s ∈ prs a m depth f i lit, s.lit ≤ m - i + lit ∧ 1 ≤ s.off ∧ s.off ≤ m ∧ 4 ≤ s.len ∧ s.len ≤ m - i
  | 0, i, lit, _, s, hs => by simp [prs] at hs
  | f + 1, i, lit, hi, s, hs => by
    rw [prs] at hs
    split at hs
    · split at hs
      · have := prs_each f (i + 1) (lit + 1) (by omega) s hs; omega
      · rename_i q
        rcases best_ok (a := a) (depth := depth) hi with h | h
        · exact absurd h q
        · rcases List.mem_cons.1 hs with rfl | hs
          · simp only; omega
          · have := prs_each f (i + (best a m i depth).2) 0 (by omega) s hs; omega
    · cases hs
theorem rest_tot {i : Nat} (hi : i ≤ m) : tot (rest a m depth i 0) ≤ m - i ∧ 4 * (rest a m depth i 0).length ≤ m - i := by
  have := prs_tot (a := a) (depth := depth) (m - i) i 0 hi
  unfold rest; omega
theorem rest_each {i : Nat} (hi : i ≤ m) : ∀ s ∈ rest a m depth i 0, s.lit ≤ m - i ∧ 1 ≤ s.off ∧ s.off ≤ m ∧ 4 ≤ s.len ∧ s.len ≤ m - i := by
  intro s hs
  have := prs_each (a := a) (depth := depth) (m - i) i 0 hi s hs
  omega
end
/-! ### What stands as it is -/
def dfl : Sq := ⟨0, 0, 0⟩
def sqAt (l : List Sq) (i : Nat) : Sq := l[i]?.getD dfl
variable {α : Type}
/-- What the first i steps leave, and how far they come. -/
def lts (d : List α) (l : List Sq) : Nat → List α × Nat
  | 0 => ([], 0)
  | i + 1 => ((lts d l i).1 ++ (d.drop (lts d l i).2).take (sqAt l i).lit, (lts d l i).2 + (sqAt l i).lit + (sqAt l i).len)
def literals (d : List α) (l : List Sq) : List α := (lts d l l.length).1 ++ d.drop (lts d l l.length).2
theorem lts_tot (d : List α) (l : List Sq) : ∀ i, i ≤ l.length → (lts d l i).2 = tot (l.take i)
  | 0, _ => by simp [lts, tot]
  | i + 1, h => by
    have hi : i < l.length := by omega
    rw [List.take_succ_eq_append_getElem hi, tot_append, ← lts_tot d l i (by omega)]
    simp [lts, tot, sqAt, hi]; omega
theorem tot_take (l : List Sq) (i : Nat) : tot (l.take i) ≤ tot l := by
  have := tot_append (l.take i) (l.drop i)
  rw [List.take_append_drop] at this; omega
theorem lts_le (d : List α) (l : List Sq) (h : tot l ≤ d.length) (i : Nat) (hi : i < l.length) : (lts d l i).2 + (sqAt l i).lit + (sqAt l i).len ≤ d.length := by
  have h1 := lts_tot d l (i + 1) (by omega)
  have h2 := tot_take l (i + 1)
  simp only [lts] at h1
  omega
theorem lts_len (d : List α) (l : List Sq) : ∀ i, (lts d l i).1.length ≤ (lts d l i).2
  | 0 => by simp [lts]
  | i + 1 => by
    have := lts_len d l i
    simp only [lts, List.length_append]
    have := List.length_take_le (sqAt l i).lit (d.drop (lts d l i).2)
    omega
theorem literals_len (d : List α) (l : List Sq) (h : tot l ≤ d.length) : (literals d l).length ≤ d.length := by
  have h1 := lts_len d l l.length
  have h2 := lts_tot d l l.length (Nat.le_refl _)
  rw [List.take_length] at h2
  simp only [literals, List.length_append, List.length_drop]
  omega
end Go.Mt
namespace Go.Proofs.YtphakpikalmghaaGreat.Sq
open Go Go.Mt Go.Proofs.YtphakpikalmghaaGreat.He

/-! ### Codes -/
def nb (v : Nat) : Nat := Lib.bitLen v - 1
def ex (v : Nat) : Nat := if v = 0 then 0 else v - 2 ^ (Lib.bitLen v - 1)
theorem cd_le {v : Nat} (h : v < 4096) : Lib.bitLen v ≤ 12 := Lib.bitLen_le v 12 (by omega) (by omega)
theorem ex_lt {v : Nat} (h : v < 4096) : ex v < 2 ^ nb v := by
  unfold ex nb
  split
  · exact Nat.two_pow_pos _
  · rename_i q
    have := Fse.bitLen_spec (x := v) (by omega) (by omega)
    have e : 2 ^ Lib.bitLen v = 2 ^ (Lib.bitLen v - 1) * 2 := by rw [← Nat.pow_succ]; congr 1; omega
    omega
/-! ### Offsets -/
structure H3 where
  a : Nat
  b : Nat
  c : Nat
def ofv (h : H3) (off : Nat) : Nat := if h.a = off then 0 else if h.b = off then 1 else if h.c = off then 2 else off + 2
def mv (h : H3) (v off : Nat) : H3 := if v = 0 then h else if v = 1 then ⟨off, h.a, h.c⟩ else ⟨off, h.a, h.b⟩
def hs (l : Nat → Nat) (h : H3) : Nat → H3
  | 0 => h
  | i + 1 => mv (hs l h i) (ofv (hs l h i) (l i)) (l i)
def val (l : Nat → Nat) (h : H3) (i : Nat) : Nat := ofv (hs l h i) (l i)
def H3.fine (h : H3) : Prop := h.a ≤ 2500 ∧ h.b ≤ 2500 ∧ h.c ≤ 2500
theorem mv_fine {h : H3} (hf : h.fine) {v off : Nat} (ho : off ≤ 2500) : (mv h v off).fine := by
  obtain ⟨h1, h2, h3⟩ := hf
  unfold mv
  split
  · exact ⟨h1, h2, h3⟩
  · split
    · exact ⟨ho, h1, h3⟩
    · exact ⟨ho, h1, h2⟩
theorem hs_fine {l : Nat → Nat} {h : H3} (hf : h.fine) : ∀ i, (∀ j, j < i → l j ≤ 2500) → (hs l h i).fine
  | 0, _ => hf
  | i + 1, hl => mv_fine (hs_fine hf i (fun j hj => hl j (by omega))) (hl i (by omega))
theorem ofv_le (h : H3) (off : Nat) : ofv h off ≤ off + 2 := by
  unfold ofv; split
  · omega
  · split
    · omega
    · split <;> omega
theorem hs_congr {l r : Nat → Nat} {h : H3} : ∀ i, (∀ j, j < i → l j = r j) → hs l h i = hs r h i
  | 0, _ => rfl
  | i + 1, q => by simp only [hs, hs_congr i (fun j hj => q j (by omega)), q i (by omega)]
/-! ### Rows -/
/-- A number in two bytes. -/
def two (n : Nat) : List UInt8 := [UInt8.ofNat n, UInt8.ofNat (n / 256)]
/-- How many of the first n have a code. -/
def cn (v : Nat → Nat) : Nat → Nat → Nat
  | 0, _ => 0
  | i + 1, c => cn v i c + if c = Lib.bitLen (v i) then 1 else 0
theorem cn_le (v : Nat → Nat) (n c : Nat) : cn v n c ≤ n := by
  induction n with
  | zero => simp [cn]
  | succ n ih => simp only [cn]; split <;> omega
theorem cn_sum (v : Nat → Nat) (N : Nat) : ∀ n, (∀ i, i < n → Lib.bitLen (v i) < N) → Fse.sm (cn v n) N = n
  | 0, _ => by
    have := Fse.sm_bound (f := cn v 0) (b := 0) N (fun i _ => by simp [cn])
    omega
  | n + 1, h => by
    have ih := cn_sum v N n (fun i hi => h i (by omega))
    have h1 := Fse.sm_up (cn v n) (Lib.bitLen (v n)) (cn v n (Lib.bitLen (v n)) + 1) N (h n (by omega))
    have h2 := Fse.sm_congr (f := cn v (n + 1)) (g := Fse.up (cn v n) (Lib.bitLen (v n)) (cn v n (Lib.bitLen (v n)) + 1)) N (fun i _ => by
      simp only [cn, Fse.up]
      by_cases e : i = Lib.bitLen (v n)
      · rw [if_pos e, if_pos e, e]
      · rw [if_neg e, if_neg e]; omega)
    omega
def nrm (v : Nat → Nat) (n : Nat) : Nat → Nat := Fse.shn (cn v n) 16
def encB (v : Nat → Nat) (n : Nat) : Option (List Bool) := Fse.encAll (Fse.ent (nrm v n) 16) (fun i => Lib.bitLen (v i)) n
def packO : Option (List Bool) → List UInt8
  | some B => pack B
  | none => []
def shares (v : Nat → Nat) (n : Nat) : List UInt8 := (List.range 16).map fun i => UInt8.ofNat (nrm v n i)
def sized (b : List UInt8) : List UInt8 := two b.length ++ b
/-- A row of values as bytes. -/
def rowB (v : Nat → Nat) (n : Nat) : List UInt8 := shares v n ++ sized (packO (encB v n))
def lit (l : List Sq) (i : Nat) : Nat := (sqAt l i).lit
def ofs (l : List Sq) (i : Nat) : Nat := (sqAt l i).off
def mor (l : List Sq) (i : Nat) : Nat := (sqAt l i).len - 4
def off (l : List Sq) (h : H3) : Nat → Nat := val (ofs l) h
/-- The bits of a value's extra. -/
def xb (v : Nat) : List Bool := Fse.dgs (ex v) (nb v)
/-- All extras: of the last j steps, the last one's first. -/
def exB (l : List Sq) (h : H3) : Nat → List Bool
  | 0 => []
  | j + 1 => exB l h j ++ xb (mor l (l.length - 1 - j)) ++ xb (off l h (l.length - 1 - j)) ++ xb (lit l (l.length - 1 - j))
def packB (l : List Sq) (h : H3) : List UInt8 :=
  if l.length = 0 then two 0 else two l.length ++ rowB (lit l) l.length ++ rowB (off l h) l.length ++ rowB (mor l) l.length ++ sized (pack (exB l h l.length))
/-- Steps that may be. -/
def May (l : List Sq) : Prop := l.length ≤ 500 ∧ ∀ s ∈ l, s.lit ≤ 500 ∧ 1 ≤ s.off ∧ s.off ≤ 2500 ∧ 4 ≤ s.len ∧ s.len ≤ 500
theorem May.at_ {l : List Sq} (h : May l) {i : Nat} (hi : i < l.length) : lit l i ≤ 500 ∧ 1 ≤ ofs l i ∧ ofs l i ≤ 2500 ∧ 4 ≤ (sqAt l i).len ∧ (sqAt l i).len ≤ 500 := by
  have := h.2 _ (List.getElem_mem hi)
  simpa [lit, ofs, sqAt, hi] using this
theorem ofs_le {l : List Sq} (h : May l) (i : Nat) : ofs l i ≤ 2500 := by
  by_cases hi : i < l.length
  · exact (h.at_ hi).2.2.1
  · simp [ofs, sqAt, List.getElem?_eq_none (Nat.le_of_not_lt hi), dfl]
theorem off_le {l : List Sq} (h : May l) (hh : H3) (i : Nat) : off l hh i ≤ 2502 := by
  have := ofv_le (hs (ofs l) hh i) (ofs l i)
  have := ofs_le h i
  unfold off val; omega
theorem lit_le {l : List Sq} (h : May l) (i : Nat) : lit l i ≤ 500 := by
  by_cases hi : i < l.length
  · exact (h.at_ hi).1
  · simp [lit, sqAt, List.getElem?_eq_none (Nat.le_of_not_lt hi), dfl]
theorem mor_le {l : List Sq} (h : May l) (i : Nat) : mor l i ≤ 496 := by
  by_cases hi : i < l.length
  · have := (h.at_ hi).2.2.2.2
    unfold mor; omega
  · simp [mor, sqAt, List.getElem?_eq_none (Nat.le_of_not_lt hi), dfl]
theorem xb_len {v : Nat} (h : v < 4096) : (xb v).length ≤ 11 := by
  have := cd_le h
  simp [xb, Fse.dgs, nb]; omega
theorem exB_len {l : List Sq} (h : May l) (hh : H3) : ∀ j, (exB l hh j).length ≤ 33 * j
  | 0 => by simp [exB]
  | j + 1 => by
    have h0 := exB_len h hh j
    have h1 := xb_len (v := mor l (l.length - 1 - j)) (by have := mor_le h (l.length - 1 - j); omega)
    have h2 := xb_len (v := off l hh (l.length - 1 - j)) (by have := off_le h hh (l.length - 1 - j); omega)
    have h3 := xb_len (v := lit l (l.length - 1 - j)) (by have := lit_le h (l.length - 1 - j); omega)
    simp only [exB, List.length_append]; omega
end Go.Proofs.YtphakpikalmghaaGreat.Sq
namespace Go.Mg
open Go Go.RowKit Go.Sort
variable {P : Program} {ops : Array Oper} {C : World → Prop}
structure WQ (P : Program) (ops : Array Oper) (C : World → Prop) (Q : Act → Prop) (l : List Oper) (a : Act) : Prop where
  h : wpQuiet P ops C Q l a
theorem WQ.nil {Q : Act → Prop} {a : Act} (h : Q a) : WQ P ops C Q [] a := ⟨wpQuiet_nil h⟩
theorem WQ.step {Q : Act → Prop} {a : Act} {o : Oper} {rest : List Oper}
    (h : ∀ K : Act → Prop, (∀ a, WQ P ops C Q rest a → K a) → if Region.wanted o (yielded ops a.tmps) then o.quiet P a C K else K (a.put o.dst undef)) : WQ P ops C Q (o :: rest) a :=
  ⟨wpQuiet_step fun K hK => h K (fun a ha => hK a ha.h)⟩
theorem WQ.region {id : Nat} {Q : Exit → Act → World → Prop} {a : Act} {w : World} {l : List Oper} (hm : P.follows .mixedOrders = true) (hB : Region.lexB .any l.toArray = true)
    (h : WQ P l.toArray (fun w' => ∃ p : GrownBy, w' = grow (w.drewN p.n) p.os) (fun a' => ∀ w', (∃ p : GrownBy, w' = grow (w.drewN p.n) p.os) → Q .normal a' w') l a) : (Code.region id l.toArray true).wp P Q a w :=
  wp_region_quiet_grown hm hB h.h
theorem kp_grow (w : World) (n : Nat) (os : Array Obj) : Kp (fun _ => False) w (grow (w.drewN n) os) :=
  ⟨rfl, rfl, rfl, by simp, fun k hk _ => heap_grow_old (w.drewN n) os hk⟩
theorem grown_alloc {P : Program} {f : FuncId} {args : Array Value} {w : World} {v : Value} {o : Obj} (h : Calls P f args w fun e w' => e = .returned v ∧ w' = w.alloc o) :
    Calls P f args w fun e w' => e = .returned v ∧ ∃ q os', w' = grow (w.drewN q) os' :=
  h.mono fun _ _ ⟨he, hw⟩ => ⟨he, 0, #[o], by rw [hw, alloc_eq_grow]; rfl⟩
theorem grown_same {P : Program} {f : FuncId} {args : Array Value} {w : World} {v : Value} (h : Calls P f args w fun e w' => e = .returned v ∧ w' = w) :
    Calls P f args w fun e w' => e = .returned v ∧ ∃ q os', w' = grow (w.drewN q) os' :=
  h.mono fun _ _ ⟨he, hw⟩ => ⟨he, 0, #[], by rw [hw, grow_empty]; rfl⟩
end Go.Mg
namespace Go.Proofs.YtphakpikalmghaaGreat.Hu
open Go Go.RowKit Go.ChangeMaps Go.MapKept Go.Mg Go.Hf Go.Sort

/-- v holds the symbols of t. -/
def Tv (w : World) (t : Tr) (v : Value) : Prop := ∃ a c, v = .slice a t.s.length c ∧ SlR w 1 v t.s.length (t.s.map nv) ∧ IsMin t.m t.s ∧ t.s.length ≤ 1000
theorem Tv.kp {w w' : World} {t : Tr} {v : Value} {F : Nat → Prop} (h : Tv w t v) (hk : Kp F w w') (hn : ∀ b, v.ownBlock = some b → ¬ F b) : Tv w' t v := by
  obtain ⟨a, c, rfl, h1, h2⟩ := h
  exact ⟨a, c, rfl, h1.kp hk hn, h2⟩
/-- A tree's cells. -/
def tcs (t : Tr) (v : Value) : List Value := [.int .i64 (t.n : Nat), v]

instance (a b : Tr) : Decidable (Lt a b) := by unfold Lt; infer_instance
set_option maxHeartbeats 600000 in
theorem less_c (w : World) (t u : Tr) (v x : Value) (ht : Tv w t v) (hu : Tv w u x) :
    Calls Tryz.prog 132 #[.agg #[.int .i64 (t.n : Nat), v], .agg #[.int .i64 (u.n : Nat), x]] w fun e w' => e = .returned (.bool (decide (Lt t u))) ∧ ∃ q os', w' = grow (w.drewN q) os' := by
  obtain ⟨a, c, rfl, h1, h2, h3⟩ := ht
  obtain ⟨a', c', rfl, h1', h2', h3'⟩ := hu
  obtain ⟨W, hW⟩ : ∃ W, W = (w.alloc (.cells #[.int .i64 (t.n : Nat), .slice a t.s.length c] 120)).alloc (.cells #[.int .i64 (u.n : Nat), .slice a' u.s.length c'] 120) := ⟨_, rfl⟩
  have k1 : Kp (fun _ => False) w W := by rw [hW]; exact ((Kp.refl _ _).alloc _).alloc _
  have hWt : W.heap[w.heap.size]? = some (.cells #[.int .i64 (t.n : Nat), .slice a t.s.length c] 120 (0, 0)) := by
    rw [hW]; exact (Below.heap_alloc _ _ _ (by simp)).trans (alloc_at w _)
  have hWu : W.heap[w.heap.size + 1]? = some (.cells #[.int .i64 (u.n : Nat), .slice a' u.s.length c'] 120 (0, 0)) := by
    rw [hW]; have := alloc_at (w.alloc (.cells #[.int .i64 (t.n : Nat), .slice a t.s.length c] 120)) (.cells #[.int .i64 (u.n : Nat), .slice a' u.s.length c'] 120); rwa [World.size_alloc] at this
  have hsz : W.heap.size = w.heap.size + 2 := by rw [hW]; simp
  have ct0 : ∀ n os, (grow (W.drewN n) os).cell? ⟨w.heap.size, 0, none⟩ = some (.int .i64 (t.n : Nat)) := fun n os => cell_grown (by simp only; omega) (by rw [cell_of hWt]; rfl) n os
  have ct1 : ∀ n os, (grow (W.drewN n) os).cell? ⟨w.heap.size, 1, none⟩ = some (.slice a t.s.length c) := fun n os => cell_grown (by simp only; omega) (by rw [cell_of hWt]; rfl) n os
  have cu0 : ∀ n os, (grow (W.drewN n) os).cell? ⟨w.heap.size + 1, 0, none⟩ = some (.int .i64 (u.n : Nat)) := fun n os => cell_grown (by simp only; omega) (by rw [cell_of hWu]; rfl) n os
  have cu1 : ∀ n os, (grow (W.drewN n) os).cell? ⟨w.heap.size + 1, 1, none⟩ = some (.slice a' u.s.length c') := fun n os => cell_grown (by simp only; omega) (by rw [cell_of hWu]; rfl) n os
  have H1 := Lib.hid (fun n os => (h1.kp k1 (fun _ _ q => q)).kp (kp_grow W n os) (fun _ _ q => q))
  have H1' := Lib.hid (fun n os => (h1'.kp k1 (fun _ _ q => q)).kp (kp_grow W n os) (fun _ _ q => q))
  have H2 := Lib.hid h2
  have H2' := Lib.hid h2'
  have fin : ∀ n os, ∃ q os', grow (W.drewN n) os = grow (w.drewN q) os' := fun n os => ⟨n, _, by rw [hW, alloc_eq_grow, alloc_eq_grow, grow_grow]; exact grow_grow (w.drewN n) _ os⟩
  have FIN := Lib.hid fin
  have HL := Lib.hid (show decide (Lt t u) = (decide (t.n < u.n) || ((t.n == u.n) && decide (t.m < u.m))) from by
    unfold Lt
    by_cases e1 : t.n < u.n <;> by_cases e2 : t.n = u.n <;> by_cases e3 : t.m < u.m <;> simp [e1, e2, e3])
  have C1 := Lib.hid (fun (z : Int) n os => grown_alloc (least_c (grow (W.drewN n) os) z a c t.s t.m (H1.out n os) H2.out h3))
  have C2 := Lib.hid (fun (z : Int) n os => grown_alloc (least_c (grow (W.drewN n) os) z a' c' u.s u.m (H1'.out n os) H2'.out h3'))
  clear h1 h1' h2 h2' k1 hWt hWu hsz fin
  have mixed : Tryz.prog.follows .mixedOrders = true := by kernel_rfl
  go_enter Tryz.func132, Tryz.ntmps132
  go_wp2_with fail
  rw [← hW]
  clear hW
  by_cases e1 : t.n < u.n
  · have e1' : decide (t.n < u.n) = true := by simpa using e1
    refine WQ.region mixed (by kernel_rfl) ?_
    repeat (refine WQ.step (fun K hK => ?_); go_simp; first | (refine hK _ ?_; clear hK K) | (apply Exists.intro; refine ⟨fun _ => ?_, hK _ ?_⟩; (fail); clear hK K))
    refine WQ.nil ?_
    intro _ hw'
    obtain ⟨⟨nq, osq⟩, hw''⟩ := hw'
    subst hw''
    go_wp2_with fail
    go_ret
    exact ⟨by rw [HL.out]; simp [e1], FIN.out _ _⟩
  · have e1' : decide (t.n < u.n) = false := by simpa using e1
    by_cases e2 : t.n = u.n
    · have e2' : (t.n == u.n) = true := by simpa using e2
      refine WQ.region mixed (by kernel_rfl) ?_
      repeat (refine WQ.step (fun K hK => ?_); go_simp; first | (refine hK _ ?_; clear hK K) | (apply Exists.intro; refine ⟨fun _ => ?_, hK _ ?_⟩; (go_at_call 150; apply Calls.grown_of; first | with_reducible exact C1.out _ _ _ | with_reducible exact C2.out _ _ _); clear hK K))
      refine WQ.nil ?_
      intro _ hw'
      obtain ⟨⟨nq, osq⟩, hw''⟩ := hw'
      subst hw''
      go_wp2_with fail
      go_ret
      exact ⟨by rw [HL.out]; simp [e2], FIN.out _ _⟩
    · have e2' : (t.n == u.n) = false := by simpa using e2
      have e2'' : ((t.n : Int) == (u.n : Int)) = false := by rw [beq_eq_false_iff_ne]; omega
      refine WQ.region mixed (by kernel_rfl) ?_
      repeat (refine WQ.step (fun K hK => ?_); go_simp; first | (refine hK _ ?_; clear hK K) | (apply Exists.intro; refine ⟨fun _ => ?_, hK _ ?_⟩; (fail); clear hK K))
      refine WQ.nil ?_
      intro _ hw'
      obtain ⟨⟨nq, osq⟩, hw''⟩ := hw'
      subst hw''
      go_wp2_with fail
      go_ret
      exact ⟨by rw [HL.out]; simp [e1, e2], FIN.out _ _⟩
end Go.Proofs.YtphakpikalmghaaGreat.Hu
