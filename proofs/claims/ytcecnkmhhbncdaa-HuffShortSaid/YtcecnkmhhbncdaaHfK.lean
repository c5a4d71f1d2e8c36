/- The library over numbers: Sorted. -/
import Derived.Test.YtcecnkmhhbncdaaLayA
import Derived.Test.YtcecnkmhhbncdaaHfH
namespace Go.Proofs.Ytcecnkmhhbncdaa.It
open Go Go.RowKit Go.ChangeMaps Go.MapKept Go.Mg Go.Sort Go.Proofs.Ytcecnkmhhbncdaa.Hu

theorem nats_sorted (s : List Nat) : ∃ ys : List Nat, ys.Perm s ∧ ys.Pairwise (· ≤ ·) ∧ ((s.map fun i : Nat => (i : Int)).mergeSort fun x y => decide (x ≤ y)) = ys.map fun i : Nat => (i : Int) := by
  obtain ⟨zs, hz⟩ : ∃ zs, zs = (s.map fun i : Nat => (i : Int)).mergeSort fun x y => decide (x ≤ y) := ⟨_, rfl⟩
  have hp : zs.Perm (s.map fun i : Nat => (i : Int)) := by rw [hz]; exact List.mergeSort_perm _ _
  have hs : zs.Pairwise fun x y => decide (x ≤ y) = true := by
    rw [hz]
    exact List.pairwise_mergeSort (fun a b c h1 h2 => by simp at *; omega) (fun a b => by simp; omega) _
  have hpos : ∀ z, z ∈ zs → 0 ≤ z := fun z hz' => by
    obtain ⟨i, _, rfl⟩ := List.mem_map.1 (hp.mem_iff.1 hz')
    omega
  refine ⟨zs.map Int.toNat, ?_, ?_, ?_⟩
  · have := hp.map Int.toNat
    rw [List.map_map] at this
    have e : s.map (Int.toNat ∘ fun i : Nat => (i : Int)) = s := by
      have : (Int.toNat ∘ fun i : Nat => (i : Int)) = id := by funext i; simp
      rw [this, List.map_id]
    rwa [e] at this
  · rw [List.pairwise_map]
    exact hs.imp (fun h => by simp at h; omega)
  · rw [← hz, List.map_map]
    have : ∀ z, z ∈ zs → ((fun i : Nat => (i : Int)) ∘ Int.toNat) z = id z := fun z hz' => by have := hpos z hz'; simp; omega
    rw [List.map_congr_left this, List.map_id]
def SrtPost (w : World) (g : Nat) (zs : List Int) (e : Ending) (w' : World) : Prop :=
  e = .returned (.tuple #[]) ∧ ∃ n os, w' = grow (putRow (Value.int .i64) (Sort.ahead w n) g 0 (zs.mergeSort fun x y => decide (x ≤ y)).toArray) os
theorem srt_c (g cap : Nat) (zs : List Int) (w : World) (hH : Holds (Value.int .i64) w g 0 zs.toArray) (hg : g < w.heap.size) (hl : zs.length < 4611686018427387904) :
    Calls Try.prog 63 #[.slice (some ⟨g, 0, none⟩) zs.length cap] w (SrtPost w g zs) := AnyM.slices_Sort_int Try.sortInts g 0 cap zs w hH hg hl
def SortedPost (w : World) (s : List Nat) (e : Ending) (w' : World) : Prop :=
  ∃ ys : List Nat, ys.Perm s ∧ ys.Pairwise (· ≤ ·) ∧ ∃ a c, e = .returned (.slice a s.length c) ∧ OwnR w' 3 1 (.slice a s.length c) s.length (ys.map nv) ∧ (∀ b, (Value.slice a s.length c).ownBlock = some b → w.heap.size ≤ b) ∧ Kp (fun _ => False) w w'
theorem ints_of {w : World} {a : Option Addr} {c : Nat} {s : List Nat} (h : SlR w 1 (.slice a s.length c) s.length (s.map nv)) (h0 : 0 < s.length) : Ints w.heap.size w (.slice a s.length c) (s.map fun i : Nat => (i : Int)) := by
  obtain ⟨g, off, rfl, hg, hcap, hc⟩ := at_nv h h0
  refine ⟨g, off, c, by simp, hg, fun j hj => ?_⟩
  have hj' : j < s.length := by simpa using hj
  rw [hc j hj']
  simp [hj']
set_option maxRecDepth 100000 in
set_option maxHeartbeats 1000000 in
theorem sorted_c (vb : Nat) (a : Option Addr) (c : Nat) (s : List Nat) (h0 : 0 < s.length) (hlen : s.length ≤ 1000) (w : World) (hvb : vb < w.heap.size) (hvc : w.cell? ⟨vb, 0, none⟩ = some (.slice a s.length c)) (hI : SlR w 1 (.slice a s.length c) s.length (s.map nv)) :
    Calls Try.prog 48 #[.func (.func 64) #[] #[.pointer (some ⟨vb, 0, none⟩)]] w (SortedPost w s) := by
  have C := Lib.hid (collect_c vb _ (s.map fun i : Nat => (i : Int)) (by simpa using hlen) w hvb hvc (ints_of hI h0))
  obtain ⟨ys, y1, y2, y3⟩ := nats_sorted s
  have Y1 := Lib.hid y1
  have Y2 := Lib.hid y2
  have Y3 := Lib.hid y3
  clear hvc hI y1 y2 y3
  go_enter Try.func48, Try.ntmps48
  go_wp2_with fail
  refine C.out.mono ?_
  rintro e w1 ⟨a1, c1, rfl, h1, h2, h3⟩
  obtain ⟨zs, hz⟩ : ∃ zs : List Int, zs = s.map fun i : Nat => (i : Int) := ⟨_, rfl⟩
  have hzl : zs.length = s.length := by rw [hz]; simp
  rw [← hz] at h1 h2 ⊢
  rw [← hz] at Y3
  obtain ⟨g, eg, hcap, hat⟩ := h1.at1 (by omega)
  subst eg
  have hH : Holds (Value.int .i64) w1 g 0 zs.toArray := by
    intro j hj
    have hj' : j < zs.length := by simpa using hj
    obtain ⟨q1, q2, _⟩ := hat j hj'
    rw [Nat.zero_add]
    refine ⟨q1 _ ?_, q2⟩
    rw [List.getElem?_map, List.getElem?_eq_getElem hj', getElem!_pos _ j hj]
    simp
  have hg : g < w1.heap.size := h1.lt rfl
  have HC := Lib.hid (srt_c g c1 zs w1 hH hg (by omega))
  have H1 := Lib.hid h1
  have H2 := Lib.hid h2
  have H3 := Lib.hid h3
  have HZ := Lib.hid hzl
  clear h1 h2 h3 hH hat hz hzl
  go_wp2_with fail
  refine Calls.mono HC.out ?_
  rintro e w' ⟨rfl, n, os, rfl⟩
  rw [Y3.out]
  have hyl : ys.length = zs.length := by rw [HZ.out]; exact Y1.out.length_eq
  have k2 := sorted_kp (Value.int .i64) w1 g n 0 (ys.map fun i : Nat => (i : Int)).toArray os
  have o2 := H1.out.sortedI (k := n) (ys.map fun i : Nat => (i : Int)) (by simpa using hyl) os
  generalize grow (putRow (Value.int .i64) (Sort.ahead w1 n) g 0 (ys.map fun i : Nat => (i : Int)).toArray) os = w2 at k2 o2 ⊢
  have K2 := Lib.hid k2
  have O2 := Lib.hid o2
  clear k2 o2 hyl
  go_wp2_with fail
  go_ret
  have o3 := O2.out
  rw [List.map_map] at o3
  refine ⟨ys, Y1.out, Y2.out, some ⟨g, 0, none⟩, c1, by rw [← HZ.out]; rfl, ?_, fun b hb => ?_, H3.out.up K2.out (fun i e => by rw [e]; exact H2.out g rfl)⟩
  · rw [← HZ.out]; exact o3
  · exact H2.out b ((own_any _ _ _ _ _).trans hb)
theorem values_o (a : Option Addr) (len cap : Nat) (w : World) :
    Calls Try.prog 49 #[.slice a len cap] w fun e w' => ∃ vb, e = .returned (.func (.func 64) #[] #[.pointer (some ⟨vb, 0, none⟩)]) ∧ vb < w'.heap.size ∧ w'.cell? ⟨vb, 0, none⟩ = some (.slice a len cap) ∧ Kp (fun _ => False) w w' :=
  (values_c a len cap w).mono fun e w' ⟨he, hw⟩ => ⟨w.heap.size, he, by rw [hw]; simp, by rw [hw, cell_of (alloc_at w _)]; rfl, by rw [hw]; exact (Kp.refl _ _).alloc _⟩
end Go.Proofs.Ytcecnkmhhbncdaa.It
