/- More of one's own rows: elements of several cells. -/
import Derived.Test.YtcecnkmhhbncdaaRows0
namespace Go.Mg
open Go Go.RowKit Go.ChangeMaps
/-- A cell of one's own row: what it holds; that it may be written; what a store leaves. -/
theorem OwnR.atS {w : World} {e : TypeId} {size : Nat} {a : Option Addr} {n c : Nat} {xs : List Value} (h : OwnR w e size (.slice a n c) n xs) (hn : 0 < n) :
    ∃ g, a = some ⟨g, 0, none⟩ ∧ n ≤ c ∧ ∀ j, j < n * size → (∀ u, xs[j]? = some u → w.cell? ⟨g, j, none⟩ = some u) ∧ w.frozen? ⟨g, j, none⟩ = false ∧
      ∀ u, OwnR (w.setCell ⟨g, j, none⟩ u) e size (.slice a n c) n (xs.set j u) ∧ Kp (· = g) w (w.setCell ⟨g, j, none⟩ u) := by
  have hx := h.1
  rcases h.2 with ⟨_, h0⟩ | ⟨g, cap, cur, fr, e1, hg, hfr, h1, h2, h3, h4⟩
  · omega
  · simp only [Value.slice.injEq, true_and] at e1
    obtain ⟨rfl, rfl⟩ := e1
    have hnc : n * size ≤ c * size := Nat.mul_le_mul_right _ h1
    refine ⟨g, rfl, h1, fun j hj => ⟨fun u hu => ?_, ?_, fun u => ⟨⟨by simpa using hx, .inr ⟨g, c, cur.setIfInBounds j u, fr, rfl, setCell_at hg u, by simpa using hfr, h1, h2, by simpa using h3, ?_⟩⟩, ?_⟩⟩⟩
    · rw [← h4, List.getElem?_take, if_pos hj] at hu
      rw [cell_of hg]
      simpa using hu
    · rcases hfr with rfl | hfr
      · exact free_of hg j
      · obtain ⟨lo, hi⟩ := fr
        simp only [World.frozen?, hg, Bool.and_eq_false_iff, decide_eq_false_iff_not]
        left; simp at hfr; omega
    · rw [Array.toList_setIfInBounds, List.take_set, h4]
    · exact (Kp.refl (· = g) w).setCell (p := ⟨g, j, none⟩) (fun _ => rfl) u
section
variable {P : Program} {ops : Array Oper} {o : Oper} {a : Act} {Q : Exit → Act → World → Prop}
theorem wp_app (w : World) (s x : Operand) (t : TypeId) (ho : o.op = .call { callee := .builtin .append, args := #[s, x], argTypes := #[t, t] })
    (e : TypeId) (i : TypeInfo) (z : Value) (size bytes : Nat) (ht : P.underlying t = some (.slice e)) (hi : P.info? e = some i) (hz : i.zero = some z)
    (hsize : i.size = size) (hby : i.bytes = bytes) (hzs : z.cells.size = size) (hsz : 0 < size) (hbp : 0 < bytes)
    (v : Value) (n : Nat) (xs : List Value) (hs : a.eval s = v) (hown : OwnR w e size v n xs) (xv : Value) (m : Nat) (ys : List Value) (hx : a.eval x = xv) (hsl : SlR w size xv m ys) (h1 : ∀ u ∈ ys, u.oneCell' = true) (hbytes : (n + m) * bytes ≤ 140737488355328)
    {K : Act → World → Prop} (h : ∀ v' w', OwnR w' e size v' (n + m) (xs ++ ys) → Kp (fun k => v.ownBlock = some k) w w' → (v'.ownBlock = v.ownBlock ∨ v'.ownBlock = some w.heap.size) → (m = 0 → v' = v ∧ w' = w) → (0 < m → v'.ownBlock ≠ none) → K (a.put o.dst v') w') : Oper.wp P o a w K Q := by
  obtain ⟨v', w', hr, h2, h3, h4, h5, h6⟩ := run_app (P := P) w t o.type e i z size bytes ht hi hz hsize hby hzs hsz hbp hown hsl h1 hbytes
  unfold Oper.wp execOp
  simp only [ho, resolve, invoke, builtin, Sem.run_bind, Sem.run_pure, Result.andThen_ok, List.map_toArray, List.map_cons, List.map_nil, hs, hx, hr]
  exact h v' w' h2 h3 h4 h5 h6
/-- .. in a region that draws its order. -/
theorem step_app (w : World) {E : Prop} (hg : o.guard = none) (s x : Operand) (t : TypeId) (ho : o.op = .call { callee := .builtin .append, args := #[s, x], argTypes := #[t, t] })
    (e : TypeId) (i : TypeInfo) (z : Value) (size bytes : Nat) (ht : P.underlying t = some (.slice e)) (hi : P.info? e = some i) (hz : i.zero = some z)
    (hsize : i.size = size) (hby : i.bytes = bytes) (hzs : z.cells.size = size) (hsz : 0 < size) (hbp : 0 < bytes)
    (v : Value) (n : Nat) (xs : List Value) (hs : a.eval s = v) (hown : OwnR w e size v n xs) (xv : Value) (m : Nat) (ys : List Value) (hx : a.eval x = xv) (hsl : SlR w size xv m ys) (h1 : ∀ u ∈ ys, u.oneCell' = true) (hbytes : (n + m) * bytes ≤ 140737488355328)
    {K : Act → World → Prop} (h : ∀ v' w', OwnR w' e size v' (n + m) (xs ++ ys) → Kp (fun k => v.ownBlock = some k) w w' → (v'.ownBlock = v.ownBlock ∨ v'.ownBlock = some w.heap.size) → (m = 0 → v' = v ∧ w' = w) → (0 < m → v'.ownBlock ≠ none) → K (a.put o.dst v') w') :
    if Region.wanted o (yielded ops a.tmps) = true then Oper.wp P o a w K Q else E := by
  rw [if_pos (by simp [Region.wanted, hg])]
  exact wp_app w s x t ho e i z size bytes ht hi hz hsize hby hzs hsz hbp v n xs hs hown xv m ys hx hsl h1 hbytes h
end
theorem own_none (w : World) (e : TypeId) (size : Nat) : OwnR (w.alloc (.cells #[] e)) e size (.slice (some ⟨w.heap.size, 0, none⟩) 0 0) 0 [] :=
  ⟨by simp, .inr ⟨_, 0, #[], (0, 0), rfl, alloc_at w _, .inl rfl, Nat.le_refl _, by unfold maxLen; omega, by simp, by simp⟩⟩
theorem SlR.drew {w : World} {size : Nat} {v : Value} {n : Nat} {xs : List Value} (h : SlR w size v n xs) : SlR w.drew size v n xs := h
end Go.Mg
