/- fse: the document's Table. fse: the document's find, Encode. fse: the document's Encode. match: the document's long, best, Parse, Literals. -/
import Derived.Deep.RegionHeld3
import Derived.Test.YtmioiaeiflbmhaaGreatX07
import Derived.Test.YtmioiaeiflbmhaaGreatX06
namespace Go.Proofs.YtmioiaeiflbmhaaGreat.Ma
open Go Go.RowKit Go.ChangeMaps Go.MapKept Go.Mg Go.Fse Go.Proofs.YtmioiaeiflbmhaaGreat.Hu
def Laid (w : World) (g : Nat) (f : Nat → Nat) (N j : Nat) : Prop := IAt 243 w g 192 (tcell (syj f N j) (fun _ => 0) (fun _ => 0))
theorem Laid.next {w : World} {g : Nat} {f : Nat → Nat} {N s k j : Nat} (h : Laid w g f N j) (hs : s < N) (hk : k < f s) (e : j = sm f s + k) (hj : j < 64) : Laid (w.setCell ⟨g, 43 * j % 64 * 3, none⟩ (.int .i64 (s : Nat))) g f N (j + 1) := by
  have := IAt.set h (i := 43 * j % 64 * 3) (by omega) s
  rw [up_sym] at this
  refine IAt.congr this (fun i hi => ?_)
  unfold tcell
  split
  · subst e
    rw [syj_next hs hk hj (i / 3) (by omega)]
    rfl
  · rfl
def nxt (f : Nat → Nat) (N u : Nat) : Nat → Nat := fun s => f s + ct (sy f N) s u
theorem nxt_up (f : Nat → Nat) (N u : Nat) : up (nxt f N u) (sy f N u) (nxt f N u (sy f N u) + 1) = nxt f N (u + 1) := by
  funext i
  simp only [up, nxt, ct]
  by_cases e : i = sy f N u
  · subst e; simp; omega
  · have : ¬ sy f N u = i := fun q => e q.symm
    simp [e, this]
end Go.Proofs.YtmioiaeiflbmhaaGreat.Ma
namespace Go.Proofs.YtmioiaeiflbmhaaGreat.Ma
open Go Go.RowKit Go.ChangeMaps Go.MapKept Go.Mg Go.Fse Go.Proofs.YtmioiaeiflbmhaaGreat.Hu
theorem pow6 {b : Nat} (h : b ≤ 6) : ∃ P : Nat, (2 : Int) ^ b = (P : Nat) ∧ P = 2 ^ b ∧ 1 ≤ P ∧ P ≤ 64 := by
  refine ⟨2 ^ b, by simp, rfl, Nat.one_le_two_pow, ?_⟩
  have : (2 : Nat) ^ b ≤ 2 ^ 6 := Nat.pow_le_pow_right (by omega) h
  have h6 : (2 : Nat) ^ 6 = 64 := rfl
  omega
def found (o : Option Nat) : Int := match o with
  | some u => (u : Nat)
  | none => -1
end Go.Proofs.YtmioiaeiflbmhaaGreat.Ma
namespace Go.Proofs.YtmioiaeiflbmhaaGreat.Ma
open Go Go.RowKit Go.ChangeMaps Go.MapKept Go.Mg Go.Fse Go.Proofs.YtmioiaeiflbmhaaGreat.Hu Go.Proofs.YtmioiaeiflbmhaaGreat.Bw Go.Proofs.YtmioiaeiflbmhaaGreat.He
def FencPost (w : World) (o : Option (List Bool)) (e : Ending) (w' : World) : Prop := match o with
  | some B => ∃ v, e = .returned (.tuple #[v, .bool true]) ∧ RowM 5 u8c w.heap.size w' v (pack B) ∧ Kp (fun _ => False) w w'
  | none => e = .returned (.tuple #[.slice none 0 0, .bool false]) ∧ Kp (fun _ => False) w w'
def RelW (ty : TypeId) (w2 wr : World) (B : List Bool) : Prop := ∃ F a c, WrAt ty F wr w2.heap.size a c B ∧ Kp (fun _ => False) w2 wr ∧ ∀ k, F k → w2.heap.size ≤ k
theorem RelW.start (ty : TypeId) (w2 : World) : RelW ty w2 (w2.alloc (.cells #[.slice none 0 0] ty)) [] :=
  ⟨(· = w2.heap.size), none, 0, ⟨alloc_at w2 _, OwnR.nil _ _ _, rfl, fun k hk => by cases hk⟩, kp_alloc _ _, fun k q => Nat.le_of_eq q.symm⟩
theorem RelW.step {w2 wr : World} {ty : TypeId} {B : List Bool} {F : Nat → Prop} (hk : Kp (fun _ => False) w2 wr) (hF : ∀ k, F k → w2.heap.size ≤ k) {V : World} (h : WrPost ty F wr w2.heap.size B V) : RelW ty w2 V B := by
  obtain ⟨F', a', c', h1, h2, h3⟩ := h
  have := hk.size
  exact ⟨F', a', c', h1, hk.trans2 h2 (fun i hi q => by have := hF i q; omega), fun k q => by rcases h3 k q with q | q; exact hF k q; omega⟩
end Go.Proofs.YtmioiaeiflbmhaaGreat.Ma
namespace Go.Proofs.YtmioiaeiflbmhaaGreat.Ma
open Go Go.RowKit Go.ChangeMaps Go.MapKept Go.Mg Go.Mt
def byt (l : List UInt8) (i : Nat) : Nat := (l[i]?.getD 0).toNat
theorem byt_lt (l : List UInt8) (i : Nat) : byt l i < 256 := by
  unfold byt
  exact (l[i]?.getD 0).toNat_lt
theorem byts_at {w : World} {a : Option Addr} {c : Nat} {l : List UInt8} (h : SlR w 1 (.slice a l.length c) l.length (l.map u8c)) (h0 : 0 < l.length) :
    ∃ g o, a = some ⟨g, o, none⟩ ∧ g < w.heap.size ∧ l.length ≤ c ∧ ∀ i, i < l.length → w.cell? ⟨g, o + i, none⟩ = some (.int .u8 (byt l i : Nat)) := by
  obtain ⟨_, a', c', e, h1, _, _, hc⟩ := h
  simp only [Value.slice.injEq, true_and] at e
  obtain ⟨rfl, rfl⟩ := e
  obtain ⟨g, o, rfl, hg, hcc⟩ := hc h0
  refine ⟨g, o, rfl, hg, h1, fun i hi => hcc i _ ?_⟩
  simp [byt, hi, u8c]
def Trial (a : Nat → Nat) (m i depth jj tried off size : Nat) : Prop :=
  ((tried < depth ∧ bst a m i depth jj tried off size = best a m i depth) ∨ (tried = depth ∧ (off, size) = best a m i depth)) ∧ Ok m i (off, size)
theorem Trial.start {a : Nat → Nat} {m i depth : Nat} (h : 1 ≤ depth) : Trial a m i depth i 0 0 0 := ⟨.inl ⟨by omega, rfl⟩, .inl rfl⟩
theorem Trial.stop {a : Nat → Nat} {m i depth tried off size : Nat} (h : Trial a m i depth 0 tried off size) : (off, size) = best a m i depth := by
  rcases h.1 with ⟨_, h⟩ | ⟨_, h⟩
  · rw [← h, bst]
  · exact h
theorem Trial.full {a : Nat → Nat} {m i depth jj tried off size : Nat} (h : Trial a m i depth jj tried off size) (q : ¬ tried < depth) : (off, size) = best a m i depth := by
  rcases h.1 with ⟨h, _⟩ | ⟨_, h⟩
  · exact absurd h q
  · exact h
theorem Trial.short {a : Nat → Nat} {m i depth j tried off size : Nat} (h : Trial a m i depth (j + 1) tried off size) (q : tried < depth) (h4 : long a m j i < 4) : Trial a m i depth j tried off size := by
  rcases h.1 with ⟨_, e⟩ | ⟨e, _⟩
  · rw [bst, if_pos h4] at e; exact ⟨.inl ⟨q, e⟩, h.2⟩
  · omega
theorem Trial.keep {a : Nat → Nat} {m i depth j tried off size : Nat} (h : Trial a m i depth (j + 1) tried off size) (q : tried < depth) (h4 : ¬ long a m j i < 4) (hs : ¬ size < long a m j i) : Trial a m i depth j (tried + 1) off size := by
  rcases h.1 with ⟨_, e⟩ | ⟨e, _⟩
  · rw [bst, if_neg h4, if_neg hs] at e
    by_cases d : tried + 1 = depth
    · rw [if_pos d] at e; exact ⟨.inr ⟨d, e⟩, h.2⟩
    · rw [if_neg d] at e; exact ⟨.inl ⟨by omega, e⟩, h.2⟩
  · omega
theorem Trial.take {a : Nat → Nat} {m i depth j tried off size : Nat} (h : Trial a m i depth (j + 1) tried off size) (q : tried < depth) (h4 : ¬ long a m j i < 4) (hs : size < long a m j i) (hj : j < i) (hi : i ≤ m) : Trial a m i depth j (tried + 1) (i - j) (long a m j i) := by
  have hok : Ok m i (i - j, long a m j i) := .inr ⟨by simp only; omega, long_le hi, by simp only; omega, by simp only; omega⟩
  rcases h.1 with ⟨_, e⟩ | ⟨e, _⟩
  · rw [bst, if_neg h4, if_pos hs] at e
    by_cases d : tried + 1 = depth
    · rw [if_pos d] at e; exact ⟨.inr ⟨d, e⟩, hok⟩
    · rw [if_neg d] at e; exact ⟨.inl ⟨by omega, e⟩, hok⟩
  · omega
end Go.Proofs.YtmioiaeiflbmhaaGreat.Ma
