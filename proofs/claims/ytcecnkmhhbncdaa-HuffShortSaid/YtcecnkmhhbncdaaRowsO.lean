/- Rows of one's own that begin somewhere in their block and reach to its end. -/
import Derived.Test.YtcecnkmhhbncdaaRows1
namespace Go.Mg
open Go Go.RowKit Go.ChangeMaps Go.MapKept

theorem addr_add (b o i : Nat) : (⟨b, o, none⟩ : Addr).add i = ⟨b, o + i, none⟩ := by unfold Addr.add; split <;> simp_all
def OwnO (w : World) (e : TypeId) (size : Nat) (v : Value) (n : Nat) (xs : List Value) : Prop :=
  xs.length = n * size ∧ ((v = .slice none 0 0 ∧ n = 0) ∨
    ∃ g off cap cur fr, v = .slice (some ⟨g, off, none⟩) n cap ∧ w.heap[g]? = some (.cells cur e fr) ∧ (fr = (0, 0) ∨ cur.size ≤ fr.1) ∧ n ≤ cap ∧ cap ≤ maxLen ∧ (0 < cap → cur.size = off + cap * size) ∧ (cur.toList.drop off).take (n * size) = xs)
theorem OwnR.toO {w : World} {e : TypeId} {size : Nat} {v : Value} {n : Nat} {xs : List Value} (h : OwnR w e size v n xs) : OwnO w e size v n xs := by
  refine ⟨h.1, h.2.imp id ?_⟩
  rintro ⟨g, cap, cur, fr, e1, hg, hfr, h1, h2, h3, h4⟩
  exact ⟨g, 0, cap, cur, fr, e1, hg, hfr, h1, h2, fun _ => by omega, by simpa using h4⟩
theorem OwnO.nil (w : World) (e : TypeId) (size : Nat) : OwnO w e size (.slice none 0 0) 0 [] := ⟨by simp, .inl ⟨rfl, rfl⟩⟩
theorem OwnO.form {w : World} {e : TypeId} {size : Nat} {v : Value} {n : Nat} {xs : List Value} (h : OwnO w e size v n xs) : ∃ a c, v = .slice a n c := by
  rcases h.2 with ⟨rfl, rfl⟩ | ⟨g, off, cap, cur, fr, rfl, hg, _⟩
  · exact ⟨_, _, rfl⟩
  · exact ⟨_, _, rfl⟩
theorem OwnO.lt {w : World} {e : TypeId} {size : Nat} {v : Value} {n : Nat} {xs : List Value} (h : OwnO w e size v n xs) {b : Nat} (hb : v.ownBlock = some b) : b < w.heap.size := by
  rcases h.2 with ⟨rfl, _⟩ | ⟨g, off, cap, cur, fr, rfl, hg, _⟩
  · cases hb
  · cases hb; exact lt_of_at hg
theorem OwnO.kept {w w' : World} {e : TypeId} {size : Nat} {v : Value} {n : Nat} {xs : List Value} (h : OwnO w e size v n xs) (hk : ∀ b, v.ownBlock = some b → b < w.heap.size → w'.heap[b]? = w.heap[b]?) : OwnO w' e size v n xs := by
  refine ⟨h.1, ?_⟩
  rcases h.2 with h | ⟨g, off, cap, cur, fr, rfl, hg, r⟩
  · exact .inl h
  · exact .inr ⟨g, off, cap, cur, fr, rfl, (hk g rfl (lt_of_at hg)).trans hg, r⟩
theorem OwnO.kp {w w' : World} {e : TypeId} {size : Nat} {v : Value} {n : Nat} {xs : List Value} {F : Nat → Prop} (h : OwnO w e size v n xs) (hk : Kp F w w') (hn : ∀ b, v.ownBlock = some b → ¬ F b) : OwnO w' e size v n xs :=
  h.kept (fun b hb hl => hk.block b hl (hn b hb))
theorem OwnO.sl {w : World} {e : TypeId} {size : Nat} {v : Value} {n : Nat} {xs : List Value} (h : OwnO w e size v n xs) : SlR w size v n xs := by
  refine ⟨h.1, ?_⟩
  have hx := h.1
  rcases h.2 with ⟨rfl, rfl⟩ | ⟨g, off, cap, cur, fr, rfl, hg, _, h1, h2, h3, h4⟩
  · exact ⟨none, 0, rfl, Nat.le_refl _, by unfold maxLen; omega, fun _ => rfl, fun h => by omega⟩
  · refine ⟨_, cap, rfl, h1, h2, (fun h => by cases h), fun _ => ⟨g, off, rfl, lt_of_at hg, fun i u hu => ?_⟩⟩
    rw [cell_of hg]
    rw [← h4, List.getElem?_take] at hu
    split at hu
    · rw [List.getElem?_drop] at hu; simpa using hu
    · cases hu
theorem OwnO.free {w : World} {e : TypeId} {size n cap g off : Nat} {xs : List Value} (h : OwnO w e size (.slice (some ⟨g, off, none⟩) n cap) n xs) (j : Nat) (hj : j < n * size) : w.frozen? ⟨g, off + j, none⟩ = false := by
  rcases h.2 with ⟨_, rfl⟩ | ⟨g', off', cap', cur, fr, e1, hg, hfr, h1, h2, h3, h4⟩
  · omega
  · simp only [Value.slice.injEq, true_and, Option.some.injEq, Addr.mk.injEq, and_true] at e1
    obtain ⟨⟨rfl, rfl⟩, rfl⟩ := e1
    rcases hfr with rfl | hfr
    · exact free_of hg _
    · have hn : 0 < n := Nat.pos_of_ne_zero (fun e => by subst e; omega)
      have hs := h3 (by omega)
      have hle : n * size ≤ cap * size := Nat.mul_le_mul_right _ h1
      obtain ⟨lo, hi⟩ := fr
      simp only at hfr
      simp only [World.frozen?, hg, Bool.and_eq_false_iff, decide_eq_false_iff_not]
      left; omega
/-- 'v[k:]' of one's own row. -/
theorem OwnO.from_ {P : Program} {w : World} {e0 : TypeId} {size n cap : Nat} {a : Option Addr} {xs : List Value} (h : OwnO w e0 size (.slice a n cap) n xs) {t e : TypeId} (ht : P.underlying t = some (.slice e)) (hi : (P.info? e).map (·.size) = some size) {k : Nat} (hk : k ≤ n) :
    ∃ a' c', (∀ w', (Instr.slice t (.slice a n cap) (some (.int .i64 k)) none none).run P w' = .ok (.slice a' (n - k) c') w') ∧ OwnO w e0 size (.slice a' (n - k) c') (n - k) (xs.drop (k * size)) ∧
      (∀ b, (Value.slice a' (n - k) c').ownBlock = some b → (Value.slice a n cap).ownBlock = some b) := by
  have he : P.elem t = e := by have := elem_of ht; rw [ht] at this; simp at this; exact this.symm
  have h0 := h.1
  rcases h.2 with ⟨e1, rfl⟩ | ⟨g, off, cap', cur, fr, e1, hg, hfr, h1, h2, h3, h4⟩
  · simp only [Value.slice.injEq, true_and] at e1
    obtain ⟨rfl, rfl⟩ := e1
    obtain rfl : k = 0 := by omega
    refine ⟨none, 0, fun w' => ?_, ⟨by simpa using h0, .inl ⟨rfl, rfl⟩⟩, fun b hb => hb⟩
    rw [run_slice_l (P := P) w' t none 0 0 (elem_of ht) .i64 ((0 : Nat) : Int) (by omega) (by omega), he, sizeOf_run hi]
    simp [Result.andThen, sliced]
  · simp only [Value.slice.injEq, true_and] at e1
    obtain ⟨rfl, rfl⟩ := e1
    by_cases hck : cap = k
    · refine ⟨some ⟨g, off, none⟩, 0, fun w' => ?_, ⟨by simp [List.length_drop, h0, Nat.sub_mul], .inr ⟨g, off, 0, cur, fr, rfl, hg, hfr, by omega, by unfold maxLen; omega, fun h => by omega, ?_⟩⟩, fun b hb => hb⟩
      · rw [run_slice_l (P := P) w' t _ n cap (elem_of ht) .i64 (k : Int) (by omega) (by omega), he, sizeOf_run hi]
        simp [Result.andThen, sliced, hck]
      · have : n - k = 0 := by omega
        rw [this]
        have hk' : k = n := by omega
        subst hk'
        rw [show xs.drop (k * size) = [] from List.drop_of_length_le (by rw [h0]; exact Nat.le_refl _)]
        simp
    · refine ⟨some ⟨g, off + k * size, none⟩, cap - k, fun w' => ?_, ⟨by simp [List.length_drop, h0, Nat.sub_mul], .inr ⟨g, off + k * size, cap - k, cur, fr, rfl, hg, hfr, by omega, by omega, fun h => ?_, ?_⟩⟩, fun b hb => hb⟩
      · rw [run_slice_l (P := P) w' t _ n cap (elem_of ht) .i64 (k : Int) (by omega) (by omega), he, sizeOf_run hi]
        simp [Result.andThen, sliced, hck, addr_add]
      · rw [h3 (by omega), Nat.sub_mul]
        have : k * size ≤ cap * size := Nat.mul_le_mul_right _ (by omega)
        omega
      · rw [← h4, List.drop_take, List.drop_drop, Nat.sub_mul]
/-- 'append(v, x...)'. -/
theorem run_appO {P : Program} (w : World) (t ty e : TypeId) (i : TypeInfo) (z : Value) (size bytes : Nat) (ht : P.underlying t = some (.slice e)) (hi : P.info? e = some i) (hz : i.zero = some z)
    (hsize : i.size = size) (hby : i.bytes = bytes) (hzs : z.cells.size = size) (hsz : 0 < size) (hbp : 0 < bytes)
    {v : Value} {n : Nat} {xs : List Value} (hown : OwnO w e size v n xs) {x : Value} {m : Nat} {ys : List Value} (hsl : SlR w size x m ys) (h1 : ∀ u ∈ ys, u.oneCell' = true) (hbytes : (n + m) * bytes ≤ 140737488355328) :
    ∃ v' w', (Builtin.append_ #[t, t] ty #[v, x]).run P w = .ok v' w' ∧ OwnO w' e size v' (n + m) (xs ++ ys) ∧ Kp (fun k => v.ownBlock = some k) w w' ∧
      (v'.ownBlock = v.ownBlock ∨ v'.ownBlock = some w.heap.size) ∧ (m = 0 → v' = v ∧ w' = w) ∧ (0 < m → v'.ownBlock ≠ none) := by
  subst hsize
  subst hby
  obtain ⟨hys, ax, cx, rfl, hmc, hcx, hax, hcell⟩ := hsl
  have hnm : n + m ≤ 140737488355328 := Nat.le_trans (Nat.le_mul_of_pos_right _ hbp) hbytes
  have hlen : (xs ++ ys).length = (n + m) * i.size := by rw [List.length_append, hown.1, hys, Nat.add_mul]
  by_cases hm : m = 0
  · subst hm
    have hy : ys = [] := List.eq_nil_of_length_eq_zero (by simpa using hys)
    subst hy
    refine ⟨v, w, ?_, by simpa using hown, Kp.refl _ _, .inl rfl, fun _ => ⟨rfl, rfl⟩, fun h => by omega⟩
    have hfc : ∀ (w : World), (Builtin.firstCells i.size 0 (.slice ax 0 cx)).run P w = .ok #[] w := by
      intro w
      cases ax <;> simp [Builtin.firstCells, loadCells, loadCellsFrom]
    rcases hown.2 with ⟨rfl, rfl⟩ | ⟨g, off, cap, cur, fr, rfl, hg, hfr, hnc, hcm, hcs, htake⟩
    · simp [Builtin.append_, run_underlying ht, sizeOf, typeInfo, hi, Builtin.lenOf, hfc]
    · simp [Builtin.append_, run_underlying ht, sizeOf, typeInfo, hi, Builtin.lenOf, hfc, hnc, storeCells]
  · obtain ⟨gx, ox, rfl, hgx, hc⟩ := hcell (by omega)
    have hnews : ∀ j u, ys[j]? = some u → w.cell? ((⟨gx, ox, none⟩ : Addr).add j) = some u := by
      intro j u hu
      have hadd : (⟨gx, ox, none⟩ : Addr).add j = ⟨gx, ox + j, none⟩ := by unfold Addr.add; split <;> simp_all
      rw [hadd]; exact hc j u hu
    have grown : ∀ (old : Nat), old < n + m →
        OwnO (w.drew.alloc (.cells (xs.toArray ++ ys.toArray ++ Builtin.zeroCells z.cells (grownCap w (n + m) old e - (n + m))) e)) e i.size
          (.slice (some ⟨w.heap.size, 0, none⟩) (n + m) (grownCap w (n + m) old e)) (n + m) (xs ++ ys) := by
      intro old ho
      have hge := grownCap_ge w (n + m) old e
      have hcm : grownCap w (n + m) old e ≤ maxLen := grownCap_le_maxLen w (n + m) old e (by unfold maxLen; omega)
      refine ⟨hlen, .inr ⟨w.heap.size, 0, _, _, (0, 0), rfl, alloc_at w.drew _, .inl rfl, hge, hcm, fun _ => ?_, ?_⟩⟩
      · simp only [Array.size_append, List.size_toArray, size_zeroCells, hzs, hown.1, hys, ← Nat.add_mul]
        rw [Nat.zero_add]
        congr 1
        omega
      · simp only [Array.toList_append, List.append_assoc, List.drop_zero]
        rw [← List.append_assoc, ← hlen]
        exact List.take_left
    have kpa : ∀ (F : Nat → Prop) (o : Obj), Kp F w (w.drew.alloc o) := fun F o => (Kp.refl F w).drew.alloc o
    rcases hown.2 with ⟨rfl, rfl⟩ | ⟨g, off, cap, cur, fr, rfl, hg, hfr, hnc, hcm, hcs, htake⟩
    · have hx : xs = [] := List.eq_nil_of_length_eq_zero (by simpa using hown.1)
      subst hx
      have hr := run_append_nil (P := P) w t ty e i z ht hi hz ⟨gx, ox, none⟩ m cx ys hys hnews (by omega) (by omega) (by have hb := hbytes; simp only [Nat.zero_add] at hb; omega)
      have hgr := grown 0 (by omega)
      simp only [Nat.zero_add, List.nil_append, Array.empty_append] at hgr ⊢
      exact ⟨_, _, hr, hgr, kpa _ _, .inr rfl, fun h => absurd h hm, fun _ => by simp [Value.ownBlock]⟩
    · by_cases hroom : n + m ≤ cap
      · have hcs := hcs (Nat.lt_of_lt_of_le (Nat.add_pos_right n (Nat.pos_of_ne_zero hm)) hroom)
        have hfit : off + n * i.size + ys.length ≤ cur.size := by
          rw [hys, hcs, Nat.add_assoc, ← Nat.add_mul]; exact Nat.add_le_add_left (Nat.mul_le_mul_right _ hroom) _
        have hf := run_firstCells_some (P := P) w i.size m ⟨gx, ox, none⟩ m cx ys hys hnews
        have hst := storeCells_gen P g (off + n * i.size) e fr ys 0 cur w hg hfr (by simpa using hfit) h1
        simp only [Nat.add_zero] at hst
        have hr : (Builtin.append_ #[t, t] ty #[.slice (some ⟨g, off, none⟩) n cap, .slice (some ⟨gx, ox, none⟩) m cx]).run P w =
            .ok (.slice (some ⟨g, off, none⟩) (n + m) cap) (w.setRow g (cur.toList.take (off + n * i.size) ++ ys ++ cur.toList.drop (off + n * i.size + ys.length)).toArray) := by
          simp [Builtin.append_, run_underlying ht, sizeOf, typeInfo, hi, Builtin.lenOf, hroom, hf, addr_add, hst]
        refine ⟨_, _, hr, ⟨hlen, .inr ⟨g, off, cap, _, fr, rfl, setRow_heap w g cur _ e _ hg, ?_, hroom, hcm, fun _ => ?_, ?_⟩⟩, (kp_setRow w g _).mono (fun k _ hk => by rw [hk]; rfl), .inl rfl, fun h => absurd h hm, fun _ => by simp [Value.ownBlock]⟩
        · rcases hfr with rfl | hfr
          · exact .inl rfl
          · right
            simp only [List.size_toArray, List.length_append, List.length_take, List.length_drop, Array.length_toList]
            omega
        · simp only [List.size_toArray, List.length_append, List.length_take, List.length_drop, Array.length_toList]
          omega
        · show (List.drop off (cur.toList.take (off + n * i.size) ++ ys ++ cur.toList.drop (off + n * i.size + ys.length))).take ((n + m) * i.size) = xs ++ ys
          have h1 : off ≤ (cur.toList.take (off + n * i.size)).length := by rw [List.length_take, Array.length_toList]; omega
          rw [List.append_assoc, List.drop_append_of_le_length h1, List.drop_take, Nat.add_sub_cancel_left, htake, ← List.append_assoc, ← hlen]
          exact List.take_left
      · have holds : ∀ j u, xs[j]? = some u → w.cell? ((⟨g, off, none⟩ : Addr).add j) = some u := by
          intro j u hu
          rw [addr_add, cell_of hg]
          rw [← htake, List.getElem?_take] at hu
          split at hu
          · rw [List.getElem?_drop] at hu; simpa using hu
          · cases hu
        have hr := run_append_grow (P := P) w t ty e i z ht hi hz ⟨g, off, none⟩ n cap xs hown.1 holds ⟨gx, ox, none⟩ m cx ys hys hnews (by omega) (by omega) (growslice_fits (by omega) hbytes)
        exact ⟨_, _, hr, grown cap (by omega), kpa _ _, .inr rfl, fun h => absurd h hm, fun _ => by simp [Value.ownBlock]⟩

/-- 'append(v, x...)' AT THE OPERATION. -/
theorem wpList_appO {P : Program} (w : World) {ops : Array Oper} {rest : List Oper} {o : Oper} {a : Act} {Q : Exit → Act → World → Prop} (hgd : o.guard = none) (s x : Operand) (t : TypeId)
    (ho : o.op = .call { callee := .builtin .append, args := #[s, x], argTypes := #[t, t] })
    (e : TypeId) (i : TypeInfo) (z : Value) (size bytes : Nat) (ht : P.underlying t = some (.slice e)) (hi : P.info? e = some i) (hz : i.zero = some z)
    (hsize : i.size = size) (hby : i.bytes = bytes) (hzs : z.cells.size = size) (hsz : 0 < size) (hbp : 0 < bytes)
    (v : Value) (n : Nat) (xs : List Value) (hs : a.eval s = v) (hown : OwnO w e size v n xs) (xv : Value) (m : Nat) (ys : List Value) (hx : a.eval x = xv) (hsl : SlR w size xv m ys) (h1 : ∀ u ∈ ys, u.oneCell' = true) (hbytes : (n + m) * bytes ≤ 140737488355328)
    (h : ∀ v' w', OwnO w' e size v' (n + m) (xs ++ ys) → Kp (fun k => v.ownBlock = some k) w w' → (v'.ownBlock = v.ownBlock ∨ v'.ownBlock = some w.heap.size) → (m = 0 → v' = v ∧ w' = w) → (0 < m → v'.ownBlock ≠ none) → wpList P ops Q rest (a.put o.dst v') w') : wpList P ops Q (o :: rest) a w := by
  refine wpList_plain hgd fun K hK => ?_
  obtain ⟨v', w', hr, h2, h3, h4, h5, h6⟩ := run_appO (P := P) w t o.type e i z size bytes ht hi hz hsize hby hzs hsz hbp hown hsl h1 hbytes
  unfold Oper.wp execOp
  simp only [ho, resolve, invoke, builtin, Sem.run_bind, Sem.run_pure, Result.andThen_ok, List.map_toArray, List.map_cons, List.map_nil, hs, hx, hr]
  exact hK _ _ (h v' w' h2 h3 h4 h5 h6)

section
variable {P : Program} {ops : Array Oper} {o : Oper} {a : Act} {Q : Exit → Act → World → Prop}
theorem wp_appO (w : World) (s x : Operand) (t : TypeId) (ho : o.op = .call { callee := .builtin .append, args := #[s, x], argTypes := #[t, t] })
    (e : TypeId) (i : TypeInfo) (z : Value) (size bytes : Nat) (ht : P.underlying t = some (.slice e)) (hi : P.info? e = some i) (hz : i.zero = some z)
    (hsize : i.size = size) (hby : i.bytes = bytes) (hzs : z.cells.size = size) (hsz : 0 < size) (hbp : 0 < bytes)
    (v : Value) (n : Nat) (xs : List Value) (hs : a.eval s = v) (hown : OwnO w e size v n xs) (xv : Value) (m : Nat) (ys : List Value) (hx : a.eval x = xv) (hsl : SlR w size xv m ys) (h1 : ∀ u ∈ ys, u.oneCell' = true) (hbytes : (n + m) * bytes ≤ 140737488355328)
    {K : Act → World → Prop} (h : ∀ v' w', OwnO w' e size v' (n + m) (xs ++ ys) → Kp (fun k => v.ownBlock = some k) w w' → (v'.ownBlock = v.ownBlock ∨ v'.ownBlock = some w.heap.size) → (m = 0 → v' = v ∧ w' = w) → (0 < m → v'.ownBlock ≠ none) → K (a.put o.dst v') w') : Oper.wp P o a w K Q := by
  obtain ⟨v', w', hr, h2, h3, h4, h5, h6⟩ := run_appO (P := P) w t o.type e i z size bytes ht hi hz hsize hby hzs hsz hbp hown hsl h1 hbytes
  unfold Oper.wp execOp
  simp only [ho, resolve, invoke, builtin, Sem.run_bind, Sem.run_pure, Result.andThen_ok, List.map_toArray, List.map_cons, List.map_nil, hs, hx, hr]
  exact h v' w' h2 h3 h4 h5 h6
/-- .. in a region that draws its order. -/
theorem step_appO (w : World) {E : Prop} (hg : o.guard = none) (s x : Operand) (t : TypeId) (ho : o.op = .call { callee := .builtin .append, args := #[s, x], argTypes := #[t, t] })
    (e : TypeId) (i : TypeInfo) (z : Value) (size bytes : Nat) (ht : P.underlying t = some (.slice e)) (hi : P.info? e = some i) (hz : i.zero = some z)
    (hsize : i.size = size) (hby : i.bytes = bytes) (hzs : z.cells.size = size) (hsz : 0 < size) (hbp : 0 < bytes)
    (v : Value) (n : Nat) (xs : List Value) (hs : a.eval s = v) (hown : OwnO w e size v n xs) (xv : Value) (m : Nat) (ys : List Value) (hx : a.eval x = xv) (hsl : SlR w size xv m ys) (h1 : ∀ u ∈ ys, u.oneCell' = true) (hbytes : (n + m) * bytes ≤ 140737488355328)
    {K : Act → World → Prop} (h : ∀ v' w', OwnO w' e size v' (n + m) (xs ++ ys) → Kp (fun k => v.ownBlock = some k) w w' → (v'.ownBlock = v.ownBlock ∨ v'.ownBlock = some w.heap.size) → (m = 0 → v' = v ∧ w' = w) → (0 < m → v'.ownBlock ≠ none) → K (a.put o.dst v') w') :
    if Region.wanted o (yielded ops a.tmps) = true then Oper.wp P o a w K Q else E := by
  rw [if_pos (by simp [Region.wanted, hg])]
  exact wp_appO w s x t ho e i z size bytes ht hi hz hsize hby hzs hsz hbp v n xs hs hown xv m ys hx hsl h1 hbytes h
end
end Go.Mg
