/- Bytes as a string; the bytes of bits. -/
import Derived.Test.YtcecnkmhhbncdaaHeA
namespace Go.Proofs.Ytcecnkmhhbncdaa.He
open Go Go.RowKit Go.ChangeMaps Go.MapKept Go.Mg Go.Hf Go.Sort Go.Proofs.Ytcecnkmhhbncdaa.Hu Go.Proofs.Ytcecnkmhhbncdaa.Bw

set_option maxRecDepth 100000 in
theorem strOf {w : World} {a : Option Addr} {n cap : Nat} {l : List UInt8} (h : SlR w 1 (.slice a n cap) l.length (l.map u8c)) : (convert 30 9 (.slice a n cap)).run Try.prog w = .ok (.string ⟨l.toArray⟩) w := by
  obtain ⟨h0, a', c', e, h1, h2, h3, h4⟩ := h
  simp only [Value.slice.injEq] at e
  obtain ⟨rfl, rfl, rfl⟩ := e
  by_cases hl : 0 < l.length
  · obtain ⟨g, off, rfl, hg, hc⟩ := h4 hl
    have := run_convert_bytes_arg (P := Try.prog) w 30 5 Try.underlying30 Try.underlying5 g off l.length cap (l.map fun b => (b.toNat : Int)) (by simp) (fun i hi => by
      rw [hc i (u8c l[i]) (by simp [hi])]
      simp [u8c, List.getD, hi]) 9 Try.underlying9
    rw [this]
    simp only [strOfNums, List.map_map]
    congr 3
    have : ((fun n : Int => UInt8.ofNat n.toNat) ∘ fun b : UInt8 => (b.toNat : Int)) = id := by funext b; simp
    rw [this, List.map_id]
  · have : l = [] := List.eq_nil_of_length_eq_zero (by omega)
    subst this
    cases a with
    | none => exact run_convert_bytes_nil (P := Try.prog) w 30 5 Try.underlying30 Try.underlying5 _ _ 9 Try.underlying9
    | some ad =>
      rw [run_convert_bytes_string w 30 9 5 (some ad) _ cap Try.underlying30 Try.underlying5 Try.underlying9]
      simp [Conv.bytesToString, loadCells, loadCellsFrom]
      rfl

/-- The bytes that a Writer of the bits B gives. -/
def pack (B : List Bool) : List UInt8 := (List.range (B.length / 8 + 1)).map fun i => UInt8.ofNat (fin (fun i => B[i]?.getD false) B.length i)
theorem pack_len (B : List Bool) : (pack B).length = B.length / 8 + 1 := by simp [pack]
theorem pack_sl {w : World} {g : Nat} {B : List Bool} (h : UAt w g (B.length / 8 + 1) (fin (fun i => B[i]?.getD false) B.length)) (hB : B.length ≤ 100000) :
    SlR w 1 (.slice (some ⟨g, 0, none⟩) (B.length / 8 + 1) (B.length / 8 + 1)) (pack B).length ((pack B).map u8c) := by
  have := h.sl (by omega)
  rw [pack_len]
  have e : (pack B).map u8c = (List.range (B.length / 8 + 1)).map fun i => Value.int .u8 (fin (fun i => B[i]?.getD false) B.length i : Nat) := by
    unfold pack
    rw [List.map_map]
    apply List.map_congr_left
    intro i _
    have := fin_lt (fun i => B[i]?.getD false) B.length i
    simp only [Function.comp, u8c]
    congr 1
    rw [UInt8.toNat_ofNat']
    omega
  rw [e]
  exact this
end Go.Proofs.Ytcecnkmhhbncdaa.He
