/- The document's huff: least, less. -/
import Derived.Test.YtcecnkmhhbncdaaRows1
import Derived.Test.YtcecnkmhhbncdaaHuffS
import Derived.Test.YtcecnkmhhbncdaaProg
import Derived.Deep.QuietTactic
import Derived.BigQuiet
import Derived.Deep.RegionLaw
import Derived.Shelf.SlSortCmp.QuietGrown
namespace Go.Proofs.Ytcecnkmhhbncdaa.Hu
open Go Go.RowKit Go.ChangeMaps Go.MapKept Go.Mg Go.Hf Go.Sort

def nv (i : Nat) : Value := .int .i64 i
theorem nv_one : ∀ (l : List Nat), ∀ u ∈ l.map nv, u.oneCell' = true := by
  intro l u hu
  obtain ⟨b, _, rfl⟩ := List.mem_map.1 hu
  rfl
theorem at_nv {w : World} {a : Option Addr} {c : Nat} {s : List Nat} (h : SlR w 1 (.slice a s.length c) s.length (s.map nv)) (h0 : 0 < s.length) :
    ∃ g off, a = some ⟨g, off, none⟩ ∧ g < w.heap.size ∧ s.length ≤ c ∧ ∀ i (hi : i < s.length), w.cell? ⟨g, off + i, none⟩ = some (.int .i64 (s[i] : Nat)) := by
  obtain ⟨_, a0, c0, e0, h1, _, _, hc⟩ := h
  simp only [Value.slice.injEq, true_and] at e0
  obtain ⟨rfl, rfl⟩ := e0
  obtain ⟨g, off, rfl, hg, hc⟩ := hc h0
  exact ⟨g, off, rfl, hg, h1, fun i hi => hc i _ (by rw [List.getElem?_map, List.getElem?_eq_getElem hi]; rfl)⟩
def IsMin (m : Nat) (s : List Nat) : Prop := m ∈ s ∧ ∀ i, i ∈ s → m ≤ i
theorem IsMin.pos {m : Nat} {s : List Nat} (h : IsMin m s) : 0 < s.length := List.length_pos_of_mem h.1
theorem IsMin.eq {m v : Nat} {s : List Nat} (h : IsMin m s) (hv : v ∈ s) (hl : ∀ j (hj : j < s.length), v ≤ s[j]) : v = m := by
  have h1 := h.2 v hv
  obtain ⟨j, hj, e⟩ := List.getElem_of_mem h.1
  have := hl j hj
  omega

set_option maxHeartbeats 1000000 in
theorem least_c (w : World) (n : Int) (a : Option Addr) (c : Nat) (s : List Nat) (m : Nat) (hs : SlR w 1 (.slice a s.length c) s.length (s.map nv)) (hm : IsMin m s) (hlen : s.length ≤ 1000) :
    Calls Try.prog 82 #[.agg #[.int .i64 n, .slice a s.length c]] w fun e w' => e = .returned (.int .i64 m) ∧ w' = w.alloc (.cells #[.int .i64 n, .slice a s.length c] 79) := by
  obtain ⟨g, off, rfl, hg, hcap, hc⟩ := at_nv hs hm.pos
  have hpos := hm.pos
  obtain ⟨W, hW⟩ : ∃ W, W = w.alloc (.cells #[.int .i64 n, .slice (some ⟨g, off, none⟩) s.length c] 79) := ⟨_, rfl⟩
  have hWh := alloc_at w (.cells #[.int .i64 n, .slice (some ⟨g, off, none⟩) s.length c] 79)
  rw [← hW] at hWh
  have c1 : W.cell? ⟨w.heap.size, 1, none⟩ = some (.slice (some ⟨g, off, none⟩) s.length c) := by rw [cell_of hWh]; rfl
  have hk : Kp (fun _ => False) w W := by rw [hW]; exact (Kp.refl _ _).alloc _
  have hc' : ∀ i (hi : i < s.length), W.cell? ⟨g, off + i, none⟩ = some (.int .i64 (s[i] : Nat)) := fun i hi => (hk.cell (p := ⟨g, off + i, none⟩) hg (fun q => q)).trans (hc i hi)
  have HC := Lib.hid hc'
  have d0 := hc 0 hpos
  rw [Nat.add_zero] at d0
  have m0 : s[0] ∈ s := List.getElem_mem _
  generalize s[0] = x0 at d0 m0
  have HM := Lib.hid hm
  clear hc hc' hs hm hk hWh
  go_enter Try.func82, Try.ntmps82
  go_wp2_with fail
  rw [← hW]
  have HW := Lib.hid hW
  clear hW
  go_wp2_with fail
  go_loopw [3, 4] (fun v i wr => ∃ (k : Nat) (x : Nat), k ≤ s.length ∧ i = .int .i64 k ∧ v = .int .i64 x ∧ x ∈ s ∧ (∀ j (hj : j < s.length), j < k → x ≤ s[j]) ∧ wr = W) (fun _ i _ => s.length - (intOf i).toNat)
  case atStart => exact ⟨0, x0, Nat.zero_le _, rfl, rfl, m0, fun j _ h => by omega, rfl⟩
  case round =>
    clear d0
    obtain ⟨k, x, hk, rfl, rfl, hx, hl, rfl⟩ := hrel
    have HL := Lib.hid hl
    clear hl
    by_cases hlt : k < s.length
    · have d0 := HC.out k hlt
      have hmem : s[k] ∈ s := List.getElem_mem _
      obtain ⟨y, hy⟩ : ∃ y, y = s[k] := ⟨_, rfl⟩
      rw [← hy] at d0 hmem
      have HY := Lib.hid hy
      clear hy
      go_wp2_with fail
      refine ⟨⟨k + 1, min x y, by omega, by go_num, by go_num, ?_, fun j hj hjk => ?_, by first | trivial | rfl⟩, by simp [intOf]; omega⟩
      · rcases Nat.le_total x y with q | q
        · rw [Nat.min_eq_left q]; exact hx
        · rw [Nat.min_eq_right q]; exact hmem
      · by_cases e : j = k
        · subst e; rw [← HY.out]; exact Nat.min_le_right _ _
        · exact Nat.le_trans (Nat.min_le_left _ _) (HL.out j hj (by omega))
    · obtain rfl : k = s.length := by omega
      go_wp2_with fail
      go_ret
      exact ⟨by rw [HM.out.eq hx (fun j hj => HL.out j hj hj)]; rfl, HW.out⟩
end Go.Proofs.Ytcecnkmhhbncdaa.Hu
