/- Counts of bytes, their lengths. -/
import Derived.Test.YtcecnkmhhbncdaaRdN
import Derived.Test.YtcecnkmhhbncdaaHuffD
import Derived.Laws.MakeOwn
import Derived.Laws.Bits128
namespace Go.Proofs.Ytcecnkmhhbncdaa.Rd
open Go Go.RowKit Go.ChangeMaps Go.MapKept Go.Mg Go.Hf Go.Sort Go.Proofs.Ytcecnkmhhbncdaa.Hu Go.Proofs.Ytcecnkmhhbncdaa.Bw Go.Proofs.Ytcecnkmhhbncdaa.He

theorem lens_row (n : Nat) (L : Nat → Nat) : ((List.range n).map fun i => Hu.nv (L i)) = (lensOf n L).map (Value.int .i64) := by
  rw [lensOf, List.map_map]; rfl
theorem lens_len (n : Nat) (L : Nat → Nat) : (lensOf n L).length = n := by simp [lensOf]
theorem made {w : World} {n : Nat} {cur : Array Value} (hc : cur.toList = List.replicate n (Hu.nv 0)) : CAt (w.alloc (.cells cur 3)) w.heap.size n (fun _ => 0) := by
  unfold CAt
  rw [alloc_at w _]
  congr 2
  apply Array.toList_inj.1
  rw [hc]
  apply List.ext_getElem
  · simp
  · intro i h1 h2
    simp [Hu.nv]
theorem lf_lens (N : Nat) (L : Nat → Nat) {i : Nat} (h : i < N) : lf (lensOf N L) i = (L i : Int) := by
  rw [lf_at (by simp [lensOf]; exact h)]
  simp [lensOf]
/-- The lengths' row, as the codes' walks want it. -/
theorem lens_nm {B : Nat} {w : World} {a : Option Addr} {c n : Nat} {L : Nat → Nat} (h : Lo B w (.slice a n c) n L) : Nm w a c (lensOf n L) := by
  have := h.row.sl
  rw [lens_row] at this
  unfold Nm
  rw [lens_len]
  exact this

/-! ### Counts -/
def cnt (l : List UInt8) : Nat → Nat → Nat
  | 0, _ => 0
  | k + 1, s => cnt l k s + (if s = sym l k then 1 else 0)
theorem cnt_le (l : List UInt8) (k s : Nat) : cnt l k s ≤ k := by
  induction k with
  | zero => simp [cnt]
  | succ k ih => simp only [cnt]; split <;> omega
theorem cnt_pos (l : List UInt8) {j : Nat} : ∀ {k}, j < k → 0 < cnt l k (sym l j)
  | 0, h => by omega
  | k + 1, h => by
    simp only [cnt]
    by_cases e : j = k
    · subst e; simp
    · have := cnt_pos l (show j < k by omega); omega
theorem cnt_set (l : List UInt8) (k : Nat) : (fun j => if j = sym l k then ((cnt l k (sym l k) : Nat) : Int) + 1 else ((cnt l k j : Nat) : Int)) = fun j => ((cnt l (k + 1) j : Nat) : Int) := by
  funext j
  simp only [cnt]
  by_cases e : j = sym l k
  · subst e; simp
  · simp [e]
def cts (l : List UInt8) : List Nat := (List.range 256).map (cnt l l.length)
theorem cts_len (l : List UInt8) : (cts l).length = 256 := by simp [cts]
theorem sum_le (f : Nat → Nat) (b : Nat) : ∀ n, (∀ i, f i ≤ b) → ((List.range n).map f).sum ≤ n * b
  | 0, _ => by simp
  | n + 1, h => by
    rw [List.range_succ, List.map_append, List.sum_append]
    have := sum_le f b n h
    have := h n
    rw [Nat.add_mul]
    simp
    omega
theorem cts_sum (l : List UInt8) : (cts l).sum ≤ 256 * l.length := sum_le _ _ _ (fun i => cnt_le l _ i)
theorem cts_row (l : List UInt8) : ((List.range 256).map fun i => Value.int .i64 ((cnt l l.length i : Nat) : Int)) = (cts l).map Hu.nv := by
  rw [cts, List.map_map]; rfl
theorem enc_ok {l : List UInt8} (h0 : 0 < l.length) {L : Nat → Nat} (h : IsLens (cts l) L) : EncOk (lensOf 256 L) l := by
  refine ⟨?_, fun j hj => ⟨by rw [lens_len]; exact sym_lt l j, ?_⟩⟩
  · have := (h.isOk (by rw [cts_len]; omega)).2 ⟨cnt l l.length (sym l 0), List.mem_map.2 ⟨sym l 0, List.mem_range.2 (sym_lt l 0), rfl⟩, cnt_pos l h0⟩
    rwa [cts_len] at this
  · rw [lf_lens 256 L (sym_lt l j)]
    have := (h.pos (sym l j)).2 ⟨by rw [cts_len]; exact sym_lt l j, by simp only [cts, List.getElem_map, List.getElem_range]; exact cnt_pos l hj⟩
    omega

/-! ### Bytes turned -/
theorem and_65535 (n : Int) : bits .and .i64 n 65535 = n % 65536 := by
  have h1 : (BitVec.ofInt 64 65535).toNat = 2 ^ 16 - 1 := by decide
  have key : (BitVec.ofInt 64 n &&& BitVec.ofInt 64 65535).toNat = (n % ((2 ^ 64 : Nat) : Int)).toNat % 2 ^ 16 := by
    rw [BitVec.toNat_and, BitVec.toNat_ofInt, h1, Nat.and_two_pow_sub_one_eq_mod]
  show IntKind.i64.wrap ((BitVec.ofInt 64 n &&& BitVec.ofInt 64 65535).toNat : Nat) = n % 65536
  rw [key, IntKind.wrap_i64]
  omega
def blist (N : Nat) (out : Nat → Nat) : List UInt8 := (List.range N).map fun i => UInt8.ofNat (out i)
theorem blist_sl {w : World} {g N : Nat} {out : Nat → Nat} (h : UAt w g N out) (hN : N ≤ 100000) (ho : ∀ i, out i < 256) :
    SlR w 1 (.slice (some ⟨g, 0, none⟩) (blist N out).length N) (blist N out).length ((blist N out).map u8c) := by
  have := h.sl hN
  have el : (blist N out).length = N := by simp [blist]
  rw [el]
  have e : (blist N out).map u8c = (List.range N).map fun i => Value.int .u8 (out i : Nat) := by
    unfold blist
    rw [List.map_map]
    apply List.map_congr_left
    intro i _
    have := ho i
    simp only [Function.comp, u8c]
    congr 1
    rw [UInt8.toNat_ofNat']
    omega
  rw [e]
  exact this
end Go.Proofs.Ytcecnkmhhbncdaa.Rd
