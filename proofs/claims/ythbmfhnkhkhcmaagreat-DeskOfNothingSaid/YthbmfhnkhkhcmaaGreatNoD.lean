/- The keys of an empty map, sorted. -/
import Derived.Test.YthbmfhnkhkhcmaaGreatLayA
import Derived.Test.YthbmfhnkhkhcmaaGreatRows1
namespace Go.Proofs.YthbmfhnkhkhcmaaGreat.No
open Go Go.RowKit Go.ChangeMaps Go.MapKept Go.Mg Go.Proofs Go.Maps Go.Sort Go.Shelf

theorem sorts (m : Nat) : AnyZI.SortsIn Tryz.prog Tryz.sortedA_ren Fence.wide m :=
  ⟨fun blk off cap ss W hH hblk hsz => callsIn_wide.2 (AnyM.slices_Sort_int Tryz.sortInts blk off cap ss W hH hblk hsz),
   fun p cap W => callsIn_wide.2 (AnyM.slices_Sort_int_none Tryz.sortInts p cap W)⟩
theorem owns_empty {w : World} {P : Program} {k : TypeId} {b : Nat} (h : w.heap[b]? = some (.map #[] 0)) : w.ownsMap (H := Unit) P k (fun _ => none) b 0 (.map []) := by
  obtain ⟨es, clk, hb, rest⟩ := World.ownsMap_made (H := Unit) w P k (fun _ => none)
  rw [alloc_at w _] at hb
  simp only [Option.some.injEq, Obj.map.injEq] at hb
  obtain ⟨rfl, rfl⟩ := hb
  exact ⟨#[], 0, h, rest⟩
theorem keys_c (b : Nat) (w : World) : Calls Tryz.prog 45 #[.map (some b)] w fun e w' => e = .returned (.func (.func 74) #[] #[.pointer (some ⟨w.heap.size, 0, none⟩)]) ∧ w' = w.alloc (.cells #[.map (some b)] 71) :=
  (callsIn_wide (n := 5)).1 (AnyZI.keys_in Tryz.keysA Fence.wide 5 trivial rfl (some b) w)
theorem sortedkeys_c (Bm b : Nat) (w : World) (hB : Bm < w.heap.size) (hm : w.cell? ⟨Bm, 0, none⟩ = some (.map (some b))) (h : w.heap[b]? = some (.map #[] 0)) :
    Calls Tryz.prog 44 #[.func (.func 74) #[] #[.pointer (some ⟨Bm, 0, none⟩)]] w fun e w' => e = .returned (.slice none 0 0) ∧ Below w.heap.size w w' := by
  refine (callsIn_wide (n := 5)).1 ?_
  have hseq : SeqGives Fence.wide 2 Tryz.prog 74 #[.pointer (some ⟨Bm, 0, none⟩)] encZ (fun ss => ss.Perm (intKeys (H := Unit) (.map []))) (Maps.size (H := Unit) (.map [])) w :=
    AnyZI.keys_gives (ρ := Tryz.keysA_ren) { Tryz.keysA with } Fence.wide 2 trivial rfl (by omega) Bm b 0 (.map []) (R := fun _ => none) w hB hm (owns_empty h)
  have cS := AnyZI.sorted_in Tryz.sortedA Fence.wide 5 trivial trivial trivial trivial rfl (by omega) (sorts _) (enters_of Tryz.func73 (by kernel_rfl) rfl) 74 #[.pointer (some ⟨Bm, 0, none⟩)] trivial (enters_of Tryz.func74 (by kernel_rfl) rfl) _ _ (by unfold maxLen; simp [Maps.size]) (by simp [Maps.size]) _ hseq
  change CallsIn _ _ Tryz.prog 44 _ _ _ at cS
  refine cS.mono ?_
  rintro e w' ⟨v, ss, rfl, hS, hrow, hnil, hb⟩
  have : ss = [] := by
    have := hS.length_eq
    exact List.eq_nil_of_length_eq_zero (by rw [this]; rfl)
  obtain rfl : v = .slice none 0 0 := hnil.2 this
  exact ⟨rfl, hb⟩
end Go.Proofs.YthbmfhnkhkhcmaaGreat.No
