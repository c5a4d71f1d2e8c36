/- What sorting a row of one's own leaves of it. -/
import Derived.Test.YtcecnkmhhbncdaaRowsO
import Derived.Sort.Grow
namespace Go.Mg
open Go Go.RowKit Go.ChangeMaps Go.MapKept Go.Sort

theorem sorted_at {α : Type} [Inhabited α] (enc : α → Value) {W : World} {g k off : Nat} {cur : Array Value} {e : TypeId} {fr : Nat × Nat} (hg : W.heap[g]? = some (.cells cur e fr)) (d : Array α) (os : Array Obj) :
    (grow (putRow enc (Sort.ahead W k) g off d) os).heap[g]? = some (.cells (putCells enc off d cur) e fr) := by
  have hlt := lt_of_at hg
  rw [heap_grow_old _ _ (by simp; exact hlt)]
  show (W.heap.modify g _)[g]? = _
  have h' : W.heap[g] = .cells cur e fr := by simpa [Array.getElem?_eq_getElem hlt] using hg
  rw [Array.getElem?_eq_getElem (by simpa using hlt), Array.getElem_modify_self, h']
  rfl
theorem sorted_kp {α : Type} [Inhabited α] (enc : α → Value) (W : World) (g k off : Nat) (d : Array α) (os : Array Obj) : Kp (· = g) W (grow (putRow enc (Sort.ahead W k) g off d) os) := by
  refine ⟨rfl, rfl, rfl, by simp, fun i hi hn => ?_⟩
  rw [heap_grow_old _ _ (by simp; exact hi)]
  show (W.heap.modify g _)[i]? = _
  rw [Array.getElem?_modify, if_neg (fun e => hn e.symm)]
theorem size_putCells {α : Type} [Inhabited α] (enc : α → Value) (off : Nat) (d : Array α) (c : Array Value) : (putCells enc off d c).size = c.size := by simp [putCells]
theorem drop_putCells {α : Type} [Inhabited α] (enc : α → Value) (off : Nat) (d : Array α) (c : Array Value) (h : off + d.size ≤ c.size) : ((putCells enc off d c).toList.drop off).take d.size = d.toList.map enc := by
  apply List.ext_getElem
  · rw [List.length_take, List.length_drop, Array.length_toList, size_putCells, List.length_map, Array.length_toList]; omega
  · intro i h1 h2
    have hi : i < d.size := by simpa using h2
    rw [List.getElem_take, List.getElem_drop, Array.getElem_toList, List.getElem_map, Array.getElem_toList]
    simp only [putCells, Array.getElem_mapIdx]
    rw [if_pos ⟨by omega, by omega⟩, Nat.add_sub_cancel_left, getElem!_pos d i hi]
theorem OwnO.sorted {W : World} {e : TypeId} {size n cap g off k : Nat} {xs : List Value} (h : OwnO W e size (.slice (some ⟨g, off, none⟩) n cap) n xs) (h0 : 0 < n) (d : Array Value) (hd : d.size = n * size) (os : Array Obj) :
    OwnO (grow (putRow id (Sort.ahead W k) g off d) os) e size (.slice (some ⟨g, off, none⟩) n cap) n d.toList := by
  rcases h.2 with ⟨_, rfl⟩ | ⟨g', off', cap', cur, fr, e1, hg, hfr, h1, h2, h3, h4⟩
  · omega
  · simp only [Value.slice.injEq, true_and, Option.some.injEq, Addr.mk.injEq, and_true] at e1
    obtain ⟨⟨rfl, rfl⟩, rfl⟩ := e1
    have hs := h3 (by omega)
    have hle : n * size ≤ cap * size := Nat.mul_le_mul_right _ h1
    refine ⟨by simpa using hd, .inr ⟨g, off, cap, _, fr, rfl, sorted_at id hg d os, ?_, h1, h2, fun _ => by rw [size_putCells]; exact hs, ?_⟩⟩
    · rw [size_putCells]; exact hfr
    · rw [← hd, drop_putCells id off d cur (by omega)]; simp
theorem OwnR.sortedI {W : World} {e : TypeId} {n cap g k : Nat} {xs : List Value} (h : OwnR W e 1 (.slice (some ⟨g, 0, none⟩) n cap) n xs) (ys : List Int) (hd : ys.length = n) (os : Array Obj) :
    OwnR (grow (putRow (Value.int .i64) (Sort.ahead W k) g 0 ys.toArray) os) e 1 (.slice (some ⟨g, 0, none⟩) n cap) n (ys.map (Value.int .i64)) := by
  rcases h.2 with ⟨e0, _⟩ | ⟨g', cap', cur, fr, e1, hg, hfr, h1, h2, h3, h4⟩
  · cases e0
  · simp only [Value.slice.injEq, true_and, Option.some.injEq, Addr.mk.injEq, and_true] at e1
    obtain ⟨rfl, rfl⟩ := e1
    refine ⟨by simpa using hd, .inr ⟨g, cap, _, fr, rfl, sorted_at (Value.int .i64) hg _ os, ?_, h1, h2, by rw [size_putCells]; exact h3, ?_⟩⟩
    · rw [size_putCells]; exact hfr
    · have := drop_putCells (Value.int .i64) 0 ys.toArray cur (by simp; omega)
      simp only [List.drop_zero, List.size_toArray, hd] at this
      rw [Nat.mul_one]; exact this
theorem OwnR.of_owns {w : World} {base : Nat} {e : TypeId} {size : Nat} {v : Value} {n : Nat} {xs : List Value} (h : w.ownsRow base e size v n xs) : OwnR w e size v n xs ∧ ∀ b, v.ownBlock = some b → base ≤ b := by
  rcases h.2 with ⟨rfl, h0⟩ | ⟨g, cap, cur, rfl, hb, hg, h1, h2, h3, h4⟩
  · exact ⟨⟨h.1, .inl ⟨rfl, h0⟩⟩, fun b hb => by cases hb⟩
  · exact ⟨⟨h.1, .inr ⟨g, cap, cur, (0, 0), rfl, hg, .inl rfl, h1, h2, h3, h4⟩⟩, fun b hb' => by have := own_b hb'; omega⟩
end Go.Mg
