/- huff: what Encode makes, in plain words; the document's Encode. -/
import Derived.Test.YtcecnkmhhbncdaaBwD
import Derived.Test.YtcecnkmhhbncdaaHfX
import Derived.Test.YtcecnkmhhbncdaaHuffE
import Derived.Deep.RegionHeld3
namespace Go.Proofs.Ytcecnkmhhbncdaa.He
open Go Go.RowKit Go.ChangeMaps Go.MapKept Go.Mg Go.Hf Go.Sort Go.Proofs.Ytcecnkmhhbncdaa.Hu Go.Proofs.Ytcecnkmhhbncdaa.Bw

def gd (xs : List Int) (s : Nat) : Prop := s < xs.length ∧ lf xs s ≠ 0
def cb (xs : List Int) (s : Nat) : List Bool := bitsOf (codes xs s).toNat (lf xs s).toNat
def sym (l : List UInt8) (i : Nat) : Nat := (l[i]?.getD 0).toNat
/-- The bits of the last j bytes, the last one's first. -/
def bt (xs : List Int) (l : List UInt8) : Nat → List Bool
  | 0 => []
  | j + 1 => bt xs l j ++ cb xs (sym l (l.length - 1 - j))
def EncOk (xs : List Int) (l : List UInt8) : Prop := IsOk xs ∧ ∀ j, j < l.length → gd xs (sym l j)
def EncGood (w : World) (B : List Bool) (e : Ending) (w' : World) : Prop :=
  ∃ g, e = .returned (.tuple #[.slice (some ⟨g, 0, none⟩) (B.length / 8 + 1) (B.length / 8 + 1), .bool true]) ∧ w.heap.size ≤ g ∧ UAt w' g (B.length / 8 + 1) (fin (fun i => B[i]?.getD false) B.length) ∧ Kp (fun _ => False) w w'
def EncPost (w : World) (xs : List Int) (l : List UInt8) (e : Ending) (w' : World) : Prop :=
  (EncOk xs l ∧ EncGood w (bt xs l l.length) e w') ∨ (¬ EncOk xs l ∧ e = .returned (.tuple #[.slice none 0 0, .bool false]) ∧ Kp (fun _ => False) w w')
theorem lf_le {xs : List Int} (h : InR xs) (s : Nat) : 0 ≤ lf xs s ∧ lf xs s ≤ 11 := by
  by_cases hs : s < xs.length
  · rw [lf_at hs]; exact h _ (List.getElem_mem hs)
  · have : lf xs s = 0 := by simp [lf, List.getElem?_eq_none (Nat.le_of_not_lt hs)]
    omega
theorem bt_len {xs : List Int} (h : InR xs) (l : List UInt8) : ∀ j, (bt xs l j).length ≤ 11 * j := by
  intro j
  induction j with
  | zero => simp [bt]
  | succ j ih =>
    simp only [bt, List.length_append, cb, bitsOf_len]
    have := lf_le h (sym l (l.length - 1 - j))
    omega
/-- A symbol's code and length as numbers. -/
theorem code_nat {xs : List Int} (h : IsOk xs) {s : Nat} (hg : gd xs s) : ∃ q n : Nat, codes xs s = (q : Nat) ∧ lf xs s = (n : Nat) ∧ 0 < n ∧ n ≤ 11 ∧ q < 2 ^ n := by
  obtain ⟨hs, h0⟩ := hg
  rw [lf_at hs] at h0 ⊢
  rcases codes_is h.2.1 hs with ⟨e, _⟩ | ⟨m, hm, e1, e2⟩
  · exact (h0 e).elim
  · exact ⟨_, m + 1, e2, by omega, by omega, by omega, h.lt hs hm e1⟩
theorem wr_new (ty : TypeId) (w : World) : WrAt ty (· = w.heap.size) (w.alloc (.cells #[.slice none 0 0] ty)) w.heap.size none 0 [] :=
  ⟨alloc_at w _, OwnR.nil _ _ _, rfl, fun k hk => by cases hk⟩
theorem bytes_at {w : World} {a : Option Addr} {c : Nat} {l : List UInt8} (h : SlR w 1 (.slice a l.length c) l.length (l.map u8c)) (h0 : 0 < l.length) :
    ∃ g o, a = some ⟨g, o, none⟩ ∧ g < w.heap.size ∧ l.length ≤ c ∧ ∀ i, i < l.length → w.cell? ⟨g, o + i, none⟩ = some (.int .u8 (sym l i : Nat)) := by
  obtain ⟨_, a', c', e, h1, _, _, hc⟩ := h
  simp only [Value.slice.injEq, true_and] at e
  obtain ⟨rfl, rfl⟩ := e
  obtain ⟨g, o, rfl, hg, hcc⟩ := hc h0
  refine ⟨g, o, rfl, hg, h1, fun i hi => hcc i _ ?_⟩
  simp [sym, hi, u8c]
theorem sym_lt (l : List UInt8) (i : Nat) : sym l i < 256 := by
  unfold sym
  exact (l[i]?.getD 0).toNat_lt
end Go.Proofs.Ytcecnkmhhbncdaa.He
