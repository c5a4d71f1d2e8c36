/- The document's huff: the tree that comes first, and the others. Rows of one's own that begin somewhere in their block and reach to its end. Forests in memory; lengths in memory. What sorting a row of one's own leaves of it. -/
import Derived.Deep.RegionHeld3
import Derived.Laws.ResultCell
import Derived.Sort.Grow
import Derived.Test.YtmioiaeiflbmhaaGreatX07
import Derived.Test.YtmioiaeiflbmhaaGreatX09
import Derived.Test.YtmioiaeiflbmhaaGreatX01
namespace Go.Proofs.YtmioiaeiflbmhaaGreat.Hu
open Go Go.RowKit Go.ChangeMaps Go.MapKept Go.Mg Go.Hf Go.Sort Go.Proofs.YtmioiaeiflbmhaaGreat.Op
def E (p : Tr × Value) : List Value := tcs p.1 p.2
theorem E_len (p : Tr × Value) : (E p).length = 2 := rfl
theorem infoR : (Tryz.prog.info? 272).map (fun i => (i.zero, i.size, i.bytes)) = some (some (.agg #[.int .i64 0, .slice none 0 0]), 2, 32) := by kernel_rfl
theorem infoI : (Tryz.prog.info? 3).map (fun i => (i.zero, i.size, i.bytes)) = some (some (.int .i64 0), 1, 8) := by kernel_rfl
theorem drop_E (Fs : List (Tr × Value)) (k : Nat) : (Fs.flatMap E).drop (k * 2) = (Fs.drop k).flatMap E := by
  induction Fs generalizing k with
  | nil => simp
  | cons p l ih =>
    cases k with
    | zero => simp
    | succ k =>
      rw [List.flatMap_cons, List.drop_succ_cons, ← ih k, show (k + 1) * 2 = 2 + k * 2 by omega, List.drop_append, E_len, List.drop_of_length_le (by rw [E_len]; omega)]
      simp
theorem at_E {w : World} {a : Option Addr} {c : Nat} {Fs : List (Tr × Value)} (h : SlR w 2 (.slice a Fs.length c) Fs.length (Fs.flatMap E)) (h0 : 0 < Fs.length) :
    ∃ g off, a = some ⟨g, off, none⟩ ∧ g < w.heap.size ∧ Fs.length ≤ c ∧ ∀ i (hi : i < Fs.length), w.cell? ⟨g, off + i * 2, none⟩ = some (.int .i64 (Fs[i].1.n : Nat)) ∧ w.cell? ⟨g, off + i * 2 + 1, none⟩ = some Fs[i].2 := by
  have hcap : Fs.length ≤ c := by
    obtain ⟨_, a0, c0, e0, h1, _⟩ := h
    simp only [Value.slice.injEq, true_and] at e0
    omega
  obtain ⟨g, off, e, hg, _⟩ := SlR.cellK h (fun y _ => E_len y) h0
  refine ⟨g, off, e, hg, hcap, fun i hi => ?_⟩
  obtain ⟨g', off', e', _, hc⟩ := SlR.cellK h (fun y _ => E_len y) hi
  rw [e] at e'
  simp only [Option.some.injEq, Addr.mk.injEq, and_true] at e'
  obtain ⟨rfl, rfl⟩ := e'
  exact ⟨hc 0 _ rfl (by omega), by have := hc 1 _ rfl (by omega); rwa [← Nat.add_assoc] at this⟩
def TakePost (w : World) (Fs : List (Tr × Value)) (e : Ending) (w' : World) : Prop :=
  ∃ k, ∃ hk : k < Fs.length, ∃ a' c', e = .returned (.tuple #[.agg #[.int .i64 (Fs[k].1.n : Nat), Fs[k].2], .slice a' (Fs.length - 1) c']) ∧
    OwnR w' 262 2 (.slice a' (Fs.length - 1) c') (Fs.length - 1) ((Fs.take k ++ Fs.drop (k + 1)).flatMap E) ∧ (∀ b, (Value.slice a' (Fs.length - 1) c').ownBlock = some b → w.heap.size ≤ b) ∧
    Kp (fun _ => False) w w' ∧ ∀ p, p ∈ Fs → ¬ Lt p.1 Fs[k].1
theorem Lt.irrefl (a : Tr) : ¬ Lt a a := by unfold Lt; omega
theorem Lt.trans {a b c : Tr} (h : Lt a b) (k : Lt b c) : Lt a c := by unfold Lt at *; omega
end Go.Proofs.YtmioiaeiflbmhaaGreat.Hu
namespace Go.Mg
open Go Go.RowKit Go.ChangeMaps Go.MapKept
theorem addr_add (b o i : Nat) : (⟨b, o, none⟩ : Addr).add i = ⟨b, o + i, none⟩ := by unfold Addr.add; split <;> simp_all
def OwnO (w : World) (e : TypeId) (size : Nat) (v : Value) (n : Nat) (xs : List Value) : Prop :=
  xs.length = n * size ∧ ((v = .slice none 0 0 ∧ n = 0) ∨
    ∃ g off cap cur fr, v = .slice (some ⟨g, off, none⟩) n cap ∧ w.heap[g]? = some (.cells cur e fr) ∧ (fr = (0, 0) ∨ cur.size ≤ fr.1) ∧ n ≤ cap ∧ cap ≤ maxLen ∧ (0 < cap → cur.size = off + cap * size) ∧ (cur.toList.drop off).take (n * size) = xs)
theorem OwnO.nil (w : World) (e : TypeId) (size : Nat) : OwnO w e size (.slice none 0 0) 0 [] := ⟨by simp, .inl ⟨rfl, rfl⟩⟩
theorem OwnO.form {w : World} {e : TypeId} {size : Nat} {v : Value} {n : Nat} {xs : List Value} (h : OwnO w e size v n xs) : ∃ a c, v = .slice a n c := by
  rcases h.2 with ⟨rfl, rfl⟩ | ⟨g, off, cap, cur, fr, rfl, hg, _⟩
  · exact ⟨_, _, rfl⟩
  · exact ⟨_, _, rfl⟩
theorem OwnO.lt {w : World} {e : TypeId} {size : Nat} {v : Value} {n : Nat} {xs : List Value} (h : OwnO w e size v n xs) {b : Nat} (hb : v.ownBlock = some b) : b < w.heap.size := by
  rcases h.2 with ⟨rfl, _⟩ | ⟨g, off, cap, cur, fr, rfl, hg, _⟩
  · cases hb
  · cases hb; exact lt_of_at hg
theorem OwnO.kept {w w' : World} {e : TypeId} {size : Nat} {v : Value} {n : Nat} {xs : List Value} (h : OwnO w e size v n xs) (hk : ∀ b, v.ownBlock = some b → b < w.heap.size → w'.heap[b]? = w.heap[b]?) : OwnO w' e size v n xs := by
  refine ⟨h.1, ?_⟩
  rcases h.2 with h | ⟨g, off, cap, cur, fr, rfl, hg, r⟩
  · exact .inl h
  · exact .inr ⟨g, off, cap, cur, fr, rfl, (hk g rfl (lt_of_at hg)).trans hg, r⟩
theorem OwnO.kp {w w' : World} {e : TypeId} {size : Nat} {v : Value} {n : Nat} {xs : List Value} {F : Nat → Prop} (h : OwnO w e size v n xs) (hk : Kp F w w') (hn : ∀ b, v.ownBlock = some b → ¬ F b) : OwnO w' e size v n xs :=
  h.kept (fun b hb hl => hk.block b hl (hn b hb))
theorem OwnO.sl {w : World} {e : TypeId} {size : Nat} {v : Value} {n : Nat} {xs : List Value} (h : OwnO w e size v n xs) : SlR w size v n xs := by
  refine ⟨h.1, ?_⟩
  have hx := h.1
  rcases h.2 with ⟨rfl, rfl⟩ | ⟨g, off, cap, cur, fr, rfl, hg, _, h1, h2, h3, h4⟩
  · exact ⟨none, 0, rfl, Nat.le_refl _, by unfold maxLen; omega, fun _ => rfl, fun h => by omega⟩
  · refine ⟨_, cap, rfl, h1, h2, (fun h => by cases h), fun _ => ⟨g, off, rfl, lt_of_at hg, fun i u hu => ?_⟩⟩
    rw [cell_of hg]
    rw [← h4, List.getElem?_take] at hu
    split at hu
    · rw [List.getElem?_drop] at hu; simpa using hu
    · cases hu
theorem OwnO.free {w : World} {e : TypeId} {size n cap g off : Nat} {xs : List Value} (h : OwnO w e size (.slice (some ⟨g, off, none⟩) n cap) n xs) (j : Nat) (hj : j < n * size) : w.frozen? ⟨g, off + j, none⟩ = false := by
  rcases h.2 with ⟨_, rfl⟩ | ⟨g', off', cap', cur, fr, e1, hg, hfr, h1, h2, h3, h4⟩
  · omega
  · simp only [Value.slice.injEq, true_and, Option.some.injEq, Addr.mk.injEq, and_true] at e1
    obtain ⟨⟨rfl, rfl⟩, rfl⟩ := e1
    rcases hfr with rfl | hfr
    · exact free_of hg _
    · have hn : 0 < n := Nat.pos_of_ne_zero (fun e => by subst e; omega)
      have hs := h3 (by omega)
      have hle : n * size ≤ cap * size := Nat.mul_le_mul_right _ h1
      obtain ⟨lo, hi⟩ := fr
      simp only at hfr
      simp only [World.frozen?, hg, Bool.and_eq_false_iff, decide_eq_false_iff_not]
      left; omega
theorem OwnO.from_ {P : Program} {w : World} {e0 : TypeId} {size n cap : Nat} {a : Option Addr} {xs : List Value} (h : OwnO w e0 size (.slice a n cap) n xs) {t e : TypeId} (ht : P.underlying t = some (.slice e)) (hi : (P.info? e).map (·.size) = some size) {k : Nat} (hk : k ≤ n) :
    ∃ a' c', (∀ w', (Instr.slice t (.slice a n cap) (some (.int .i64 k)) none none).run P w' = .ok (.slice a' (n - k) c') w') ∧ OwnO w e0 size (.slice a' (n - k) c') (n - k) (xs.drop (k * size)) ∧
      (∀ b, (Value.slice a' (n - k) c').ownBlock = some b → (Value.slice a n cap).ownBlock = some b) := by
  have he : P.elem t = e := by have := elem_of ht; rw [ht] at this; simp at this; exact this.symm
  have h0 := h.1
  rcases h.2 with ⟨e1, rfl⟩ | ⟨g, off, cap', cur, fr, e1, hg, hfr, h1, h2, h3, h4⟩
  · simp only [Value.slice.injEq, true_and] at e1
    obtain ⟨rfl, rfl⟩ := e1
    obtain rfl : k = 0 := by omega
    refine ⟨none, 0, fun w' => ?_, ⟨by simpa using h0, .inl ⟨rfl, rfl⟩⟩, fun b hb => hb⟩
    rw [run_slice_l (P := P) w' t none 0 0 (elem_of ht) .i64 ((0 : Nat) : Int) (by omega) (by omega), he, sizeOf_run hi]
    simp [Result.andThen, sliced]
  · simp only [Value.slice.injEq, true_and] at e1
    obtain ⟨rfl, rfl⟩ := e1
    by_cases hck : cap = k
    · refine ⟨some ⟨g, off, none⟩, 0, fun w' => ?_, ⟨by simp [List.length_drop, h0, Nat.sub_mul], .inr ⟨g, off, 0, cur, fr, rfl, hg, hfr, by omega, by unfold maxLen; omega, fun h => by omega, ?_⟩⟩, fun b hb => hb⟩
      · rw [run_slice_l (P := P) w' t _ n cap (elem_of ht) .i64 (k : Int) (by omega) (by omega), he, sizeOf_run hi]
        simp [Result.andThen, sliced, hck]
      · have : n - k = 0 := by omega
        rw [this]
        have hk' : k = n := by omega
        subst hk'
        rw [show xs.drop (k * size) = [] from List.drop_of_length_le (by rw [h0]; exact Nat.le_refl _)]
        simp
    · refine ⟨some ⟨g, off + k * size, none⟩, cap - k, fun w' => ?_, ⟨by simp [List.length_drop, h0, Nat.sub_mul], .inr ⟨g, off + k * size, cap - k, cur, fr, rfl, hg, hfr, by omega, by omega, fun h => ?_, ?_⟩⟩, fun b hb => hb⟩
      · rw [run_slice_l (P := P) w' t _ n cap (elem_of ht) .i64 (k : Int) (by omega) (by omega), he, sizeOf_run hi]
        simp [Result.andThen, sliced, hck, addr_add]
      · rw [h3 (by omega), Nat.sub_mul]
        have : k * size ≤ cap * size := Nat.mul_le_mul_right _ (by omega)
        omega
      · rw [← h4, List.drop_take, List.drop_drop, Nat.sub_mul]
theorem run_appO {P : Program} (w : World) (t ty e : TypeId) (i : TypeInfo) (z : Value) (size bytes : Nat) (ht : P.underlying t = some (.slice e)) (hi : P.info? e = some i) (hz : i.zero = some z)
    (hsize : i.size = size) (hby : i.bytes = bytes) (hzs : z.cells.size = size) (hsz : 0 < size) (hbp : 0 < bytes)
    {v : Value} {n : Nat} {xs : List Value} (hown : OwnO w e size v n xs) {x : Value} {m : Nat} {ys : List Value} (hsl : SlR w size x m ys) (h1 : ∀ u ∈ ys, u.oneCell' = true) (hbytes : (n + m) * bytes ≤ 140737488355328) :
    ∃ v' w', (Builtin.append_ #[t, t] ty #[v, x]).run P w = .ok v' w' ∧ OwnO w' e size v' (n + m) (xs ++ ys) ∧ Kp (fun k => v.ownBlock = some k) w w' ∧
      (v'.ownBlock = v.ownBlock ∨ v'.ownBlock = some w.heap.size) ∧ (m = 0 → v' = v ∧ w' = w) ∧ (0 < m → v'.ownBlock ≠ none) := by
  subst hsize
  subst hby
  obtain ⟨hys, ax, cx, rfl, hmc, hcx, hax, hcell⟩ := hsl
  have hnm : n + m ≤ 140737488355328 := Nat.le_trans (Nat.le_mul_of_pos_right _ hbp) hbytes
  have hlen : (xs ++ ys).length = (n + m) * i.size := by rw [List.length_append, hown.1, hys, Nat.add_mul]
  by_cases hm : m = 0
  · subst hm
    have hy : ys = [] := List.eq_nil_of_length_eq_zero (by simpa using hys)
    subst hy
    refine ⟨v, w, ?_, by simpa using hown, Kp.refl _ _, .inl rfl, fun _ => ⟨rfl, rfl⟩, fun h => by omega⟩
    have hfc : ∀ (w : World), (Builtin.firstCells i.size 0 (.slice ax 0 cx)).run P w = .ok #[] w := by
      intro w
      cases ax <;> simp [Builtin.firstCells, loadCells, loadCellsFrom]
    rcases hown.2 with ⟨rfl, rfl⟩ | ⟨g, off, cap, cur, fr, rfl, hg, hfr, hnc, hcm, hcs, htake⟩
    · simp [Builtin.append_, run_underlying ht, sizeOf, typeInfo, hi, Builtin.lenOf, hfc]
    · simp [Builtin.append_, run_underlying ht, sizeOf, typeInfo, hi, Builtin.lenOf, hfc, hnc, storeCells]
  · obtain ⟨gx, ox, rfl, hgx, hc⟩ := hcell (by omega)
    have hnews : ∀ j u, ys[j]? = some u → w.cell? ((⟨gx, ox, none⟩ : Addr).add j) = some u := by
      intro j u hu
      have hadd : (⟨gx, ox, none⟩ : Addr).add j = ⟨gx, ox + j, none⟩ := by unfold Addr.add; split <;> simp_all
      rw [hadd]; exact hc j u hu
    have grown : ∀ (old : Nat), old < n + m →
        OwnO (w.drew.alloc (.cells (xs.toArray ++ ys.toArray ++ Builtin.zeroCells z.cells (grownCap w (n + m) old e - (n + m))) e)) e i.size
          (.slice (some ⟨w.heap.size, 0, none⟩) (n + m) (grownCap w (n + m) old e)) (n + m) (xs ++ ys) := by
      intro old ho
      have hge := grownCap_ge w (n + m) old e
      have hcm : grownCap w (n + m) old e ≤ maxLen := grownCap_le_maxLen w (n + m) old e (by unfold maxLen; omega)
      refine ⟨hlen, .inr ⟨w.heap.size, 0, _, _, (0, 0), rfl, alloc_at w.drew _, .inl rfl, hge, hcm, fun _ => ?_, ?_⟩⟩
      · simp only [Array.size_append, List.size_toArray, size_zeroCells, hzs, hown.1, hys, ← Nat.add_mul]
        rw [Nat.zero_add]
        congr 1
        omega
      · simp only [Array.toList_append, List.append_assoc, List.drop_zero]
        rw [← List.append_assoc, ← hlen]
        exact List.take_left
    have kpa : ∀ (F : Nat → Prop) (o : Obj), Kp F w (w.drew.alloc o) := fun F o => (Kp.refl F w).drew.alloc o
    rcases hown.2 with ⟨rfl, rfl⟩ | ⟨g, off, cap, cur, fr, rfl, hg, hfr, hnc, hcm, hcs, htake⟩
    · have hx : xs = [] := List.eq_nil_of_length_eq_zero (by simpa using hown.1)
      subst hx
      have hr := run_append_nil (P := P) w t ty e i z ht hi hz ⟨gx, ox, none⟩ m cx ys hys hnews (by omega) (by omega) (by have hb := hbytes; simp only [Nat.zero_add] at hb; omega)
      have hgr := grown 0 (by omega)
      simp only [Nat.zero_add, List.nil_append, Array.empty_append] at hgr ⊢
      exact ⟨_, _, hr, hgr, kpa _ _, .inr rfl, fun h => absurd h hm, fun _ => by simp [Value.ownBlock]⟩
    · by_cases hroom : n + m ≤ cap
      · have hcs := hcs (Nat.lt_of_lt_of_le (Nat.add_pos_right n (Nat.pos_of_ne_zero hm)) hroom)
        have hfit : off + n * i.size + ys.length ≤ cur.size := by
          rw [hys, hcs, Nat.add_assoc, ← Nat.add_mul]; exact Nat.add_le_add_left (Nat.mul_le_mul_right _ hroom) _
        have hf := run_firstCells_some (P := P) w i.size m ⟨gx, ox, none⟩ m cx ys hys hnews
        have hst := storeCells_gen P g (off + n * i.size) e fr ys 0 cur w hg hfr (by simpa using hfit) h1
        simp only [Nat.add_zero] at hst
        have hr : (Builtin.append_ #[t, t] ty #[.slice (some ⟨g, off, none⟩) n cap, .slice (some ⟨gx, ox, none⟩) m cx]).run P w =
            .ok (.slice (some ⟨g, off, none⟩) (n + m) cap) (w.setRow g (cur.toList.take (off + n * i.size) ++ ys ++ cur.toList.drop (off + n * i.size + ys.length)).toArray) := by
          simp [Builtin.append_, run_underlying ht, sizeOf, typeInfo, hi, Builtin.lenOf, hroom, hf, addr_add, hst]
        refine ⟨_, _, hr, ⟨hlen, .inr ⟨g, off, cap, _, fr, rfl, setRow_heap w g cur _ e _ hg, ?_, hroom, hcm, fun _ => ?_, ?_⟩⟩, (kp_setRow w g _).mono (fun k _ hk => by rw [hk]; rfl), .inl rfl, fun h => absurd h hm, fun _ => by simp [Value.ownBlock]⟩
        · rcases hfr with rfl | hfr
          · exact .inl rfl
          · right
            simp only [List.size_toArray, List.length_append, List.length_take, List.length_drop, Array.length_toList]
            omega
        · simp only [List.size_toArray, List.length_append, List.length_take, List.length_drop, Array.length_toList]
          omega
        · show (List.drop off (cur.toList.take (off + n * i.size) ++ ys ++ cur.toList.drop (off + n * i.size + ys.length))).take ((n + m) * i.size) = xs ++ ys
          have h1 : off ≤ (cur.toList.take (off + n * i.size)).length := by rw [List.length_take, Array.length_toList]; omega
          rw [List.append_assoc, List.drop_append_of_le_length h1, List.drop_take, Nat.add_sub_cancel_left, htake, ← List.append_assoc, ← hlen]
          exact List.take_left
      · have holds : ∀ j u, xs[j]? = some u → w.cell? ((⟨g, off, none⟩ : Addr).add j) = some u := by
          intro j u hu
          rw [addr_add, cell_of hg]
          rw [← htake, List.getElem?_take] at hu
          split at hu
          · rw [List.getElem?_drop] at hu; simpa using hu
          · cases hu
        have hr := run_append_grow (P := P) w t ty e i z ht hi hz ⟨g, off, none⟩ n cap xs hown.1 holds ⟨gx, ox, none⟩ m cx ys hys hnews (by omega) (by omega) (growslice_fits (by omega) hbytes)
        exact ⟨_, _, hr, grown cap (by omega), kpa _ _, .inr rfl, fun h => absurd h hm, fun _ => by simp [Value.ownBlock]⟩
theorem wpList_appO {P : Program} (w : World) {ops : Array Oper} {rest : List Oper} {o : Oper} {a : Act} {Q : Exit → Act → World → Prop} (hgd : o.guard = none) (s x : Operand) (t : TypeId)
    (ho : o.op = .call { callee := .builtin .append, args := #[s, x], argTypes := #[t, t] })
    (e : TypeId) (i : TypeInfo) (z : Value) (size bytes : Nat) (ht : P.underlying t = some (.slice e)) (hi : P.info? e = some i) (hz : i.zero = some z)
    (hsize : i.size = size) (hby : i.bytes = bytes) (hzs : z.cells.size = size) (hsz : 0 < size) (hbp : 0 < bytes)
    (v : Value) (n : Nat) (xs : List Value) (hs : a.eval s = v) (hown : OwnO w e size v n xs) (xv : Value) (m : Nat) (ys : List Value) (hx : a.eval x = xv) (hsl : SlR w size xv m ys) (h1 : ∀ u ∈ ys, u.oneCell' = true) (hbytes : (n + m) * bytes ≤ 140737488355328)
    (h : ∀ v' w', OwnO w' e size v' (n + m) (xs ++ ys) → Kp (fun k => v.ownBlock = some k) w w' → (v'.ownBlock = v.ownBlock ∨ v'.ownBlock = some w.heap.size) → (m = 0 → v' = v ∧ w' = w) → (0 < m → v'.ownBlock ≠ none) → wpList P ops Q rest (a.put o.dst v') w') : wpList P ops Q (o :: rest) a w := by
  refine wpList_plain hgd fun K hK => ?_
  obtain ⟨v', w', hr, h2, h3, h4, h5, h6⟩ := run_appO (P := P) w t o.type e i z size bytes ht hi hz hsize hby hzs hsz hbp hown hsl h1 hbytes
  unfold Oper.wp execOp
  simp only [ho, resolve, invoke, builtin, Sem.run_bind, Sem.run_pure, Result.andThen_ok, List.map_toArray, List.map_cons, List.map_nil, hs, hx, hr]
  exact hK _ _ (h v' w' h2 h3 h4 h5 h6)
section
variable {P : Program} {ops : Array Oper} {o : Oper} {a : Act} {Q : Exit → Act → World → Prop}
theorem wp_appO (w : World) (s x : Operand) (t : TypeId) (ho : o.op = .call { callee := .builtin .append, args := #[s, x], argTypes := #[t, t] })
    (e : TypeId) (i : TypeInfo) (z : Value) (size bytes : Nat) (ht : P.underlying t = some (.slice e)) (hi : P.info? e = some i) (hz : i.zero = some z)
    (hsize : i.size = size) (hby : i.bytes = bytes) (hzs : z.cells.size = size) (hsz : 0 < size) (hbp : 0 < bytes)
    (v : Value) (n : Nat) (xs : List Value) (hs : a.eval s = v) (hown : OwnO w e size v n xs) (xv : Value) (m : Nat) (ys : List Value) (hx : a.eval x = xv) (hsl : SlR w size xv m ys) (h1 : ∀ u ∈ ys, u.oneCell' = true) (hbytes : (n + m) * bytes ≤ 140737488355328)
    {K : Act → World → Prop} (h : ∀ v' w', OwnO w' e size v' (n + m) (xs ++ ys) → Kp (fun k => v.ownBlock = some k) w w' → (v'.ownBlock = v.ownBlock ∨ v'.ownBlock = some w.heap.size) → (m = 0 → v' = v ∧ w' = w) → (0 < m → v'.ownBlock ≠ none) → K (a.put o.dst v') w') : Oper.wp P o a w K Q := by
  obtain ⟨v', w', hr, h2, h3, h4, h5, h6⟩ := run_appO (P := P) w t o.type e i z size bytes ht hi hz hsize hby hzs hsz hbp hown hsl h1 hbytes
  unfold Oper.wp execOp
  simp only [ho, resolve, invoke, builtin, Sem.run_bind, Sem.run_pure, Result.andThen_ok, List.map_toArray, List.map_cons, List.map_nil, hs, hx, hr]
  exact h v' w' h2 h3 h4 h5 h6
theorem step_appO (w : World) {E : Prop} (hg : o.guard = none) (s x : Operand) (t : TypeId) (ho : o.op = .call { callee := .builtin .append, args := #[s, x], argTypes := #[t, t] })
    (e : TypeId) (i : TypeInfo) (z : Value) (size bytes : Nat) (ht : P.underlying t = some (.slice e)) (hi : P.info? e = some i) (hz : i.zero = some z)
    (hsize : i.size = size) (hby : i.bytes = bytes) (hzs : z.cells.size = size) (hsz : 0 < size) (hbp : 0 < bytes)
    (v : Value) (n : Nat) (xs : List Value) (hs : a.eval s = v) (hown : OwnO w e size v n xs) (xv : Value) (m : Nat) (ys : List Value) (hx : a.eval x = xv) (hsl : SlR w size xv m ys) (h1 : ∀ u ∈ ys, u.oneCell' = true) (hbytes : (n + m) * bytes ≤ 140737488355328)
    {K : Act → World → Prop} (h : ∀ v' w', OwnO w' e size v' (n + m) (xs ++ ys) → Kp (fun k => v.ownBlock = some k) w w' → (v'.ownBlock = v.ownBlock ∨ v'.ownBlock = some w.heap.size) → (m = 0 → v' = v ∧ w' = w) → (0 < m → v'.ownBlock ≠ none) → K (a.put o.dst v') w') :
    if Region.wanted o (yielded ops a.tmps) = true then Oper.wp P o a w K Q else E := by
  rw [if_pos (by simp [Region.wanted, hg])]
  exact wp_appO w s x t ho e i z size bytes ht hi hz hsize hby hzs hsz hbp v n xs hs hown xv m ys hx hsl h1 hbytes h
end
end Go.Mg
namespace Go.Proofs.YtmioiaeiflbmhaaGreat.Hu
open Go Go.RowKit Go.ChangeMaps Go.MapKept Go.Mg Go.Hf Go.Sort
theorem Tv.sl {w : World} {t : Tr} {v : Value} (h : Tv w t v) : SlR w 1 v t.s.length (t.s.map nv) := by
  obtain ⟨a, c, e, h1, _⟩ := h; exact h1
theorem Tv.pos {w : World} {t : Tr} {v : Value} (h : Tv w t v) : 0 < t.s.length := by
  obtain ⟨a, c, e, _, h1, _⟩ := h; exact h1.pos
theorem Tv.len {w : World} {t : Tr} {a : Option Addr} {n c : Nat} (h : Tv w t (.slice a n c)) : t.s.length = n := by
  obtain ⟨a', c', e, _⟩ := h; simp only [Value.slice.injEq] at e; omega
theorem Tv.lt {w : World} {t : Tr} {v : Value} (h : Tv w t v) {b : Nat} (hb : v.ownBlock = some b) : b < w.heap.size := by
  obtain ⟨a, c, rfl, ⟨_, a0, c0, e0, _, _, _, hc⟩, hm, _⟩ := h
  simp only [Value.slice.injEq, true_and] at e0
  obtain ⟨rfl, rfl⟩ := e0
  obtain ⟨g, off, rfl, hg, _⟩ := hc hm.pos
  have := own_b hb
  omega
structure Fo (B : Nat) (w : World) (e : TypeId) (vl : Value) (Fs : List (Tr × Value)) : Prop where
  row : OwnO w e 2 vl Fs.length (Fs.flatMap E)
  new : ∀ b, vl.ownBlock = some b → B ≤ b
  trees : ∀ p, p ∈ Fs → Tv w p.1 p.2
  apart : ∀ p, p ∈ Fs → ∀ b, p.2.ownBlock = some b → vl.ownBlock ≠ some b
theorem Fo.nil (B : Nat) (w : World) (e : TypeId) : Fo B w e (.slice none 0 0) [] := ⟨OwnO.nil _ _ _, (fun b h => by cases h), (fun p h => by cases h), fun p h => by cases h⟩
theorem Fo.kp {B : Nat} {w w' : World} {e : TypeId} {vl : Value} {Fs : List (Tr × Value)} {F : Nat → Prop} (h : Fo B w e vl Fs) (hk : Kp F w w') (h1 : ∀ b, vl.ownBlock = some b → ¬ F b) (h2 : ∀ p, p ∈ Fs → ∀ b, p.2.ownBlock = some b → ¬ F b) : Fo B w' e vl Fs :=
  ⟨h.row.kp hk h1, h.new, fun p hp => (h.trees p hp).kp hk (h2 p hp), h.apart⟩
theorem Fo.push {B : Nat} {w w' : World} {e : TypeId} {vl vl' : Value} {Fs : List (Tr × Value)} {t : Tr} {v : Value} (h : Fo B w e vl Fs) (hB : B ≤ w.heap.size) (ht : Tv w t v) (hd : ∀ b, v.ownBlock = some b → vl.ownBlock ≠ some b)
    (ho : OwnO w' e 2 vl' (Fs.length + 1) (Fs.flatMap E ++ E (t, v))) (hk : Kp (fun k => vl.ownBlock = some k) w w') (hv : vl'.ownBlock = vl.ownBlock ∨ vl'.ownBlock = some w.heap.size) : Fo B w' e vl' (Fs ++ [(t, v)]) := by
  have hall : ∀ p, p ∈ Fs ++ [(t, v)] → Tv w p.1 p.2 ∧ ∀ b, p.2.ownBlock = some b → vl.ownBlock ≠ some b := by
    intro p hp
    rcases List.mem_append.1 hp with hp | hp
    · exact ⟨h.trees p hp, h.apart p hp⟩
    · rw [List.mem_singleton] at hp; subst hp; exact ⟨ht, hd⟩
  refine ⟨by simpa using ho, fun b hb => ?_, fun p hp => (hall p hp).1.kp hk (fun b hb q => (hall p hp).2 b hb q), fun p hp b hb q => ?_⟩
  · rcases hv with q | q
    · exact h.new b (by rw [← q]; exact hb)
    · rw [hb] at q; simp at q; omega
  · rcases hv with q' | q'
    · exact (hall p hp).2 b hb (by rw [← q']; exact q)
    · rw [q] at q'; simp at q'; have := (hall p hp).1.lt hb; omega
structure Lo (B : Nat) (w : World) (vo : Value) (N : Nat) (L : Nat → Nat) : Prop where
  row : OwnR w 3 1 vo N ((List.range N).map fun i => nv (L i))
  new : ∀ b, vo.ownBlock = some b → B ≤ b
theorem Lo.kp {B : Nat} {w w' : World} {vo : Value} {N : Nat} {L : Nat → Nat} {F : Nat → Prop} (h : Lo B w vo N L) (hk : Kp F w w') (h1 : ∀ b, vo.ownBlock = some b → ¬ F b) : Lo B w' vo N L := ⟨h.row.kp hk h1, h.new⟩
def Apart (vo vl : Value) (Fs : List (Tr × Value)) : Prop := ∀ b, vo.ownBlock = some b → vl.ownBlock ≠ some b ∧ ∀ p, p ∈ Fs → p.2.ownBlock ≠ some b
theorem bump_one (s : Nat) (L : Nat → Nat) : bump [s] L = fun i => if i = s then L i + 1 else L i := by
  funext i
  unfold bump
  rw [List.count_singleton]
  by_cases h : i = s
  · subst h; simp
  · have : ¬ (s = i) := fun e => h e.symm
    simp [h, this]
theorem range_set (N s : Nat) (L : Nat → Nat) : ((List.range N).map fun i => nv (L i)).set s (nv (L s + 1)) = (List.range N).map fun i => nv (bump [s] L i) := by
  apply List.ext_getElem
  · simp
  · intro i h1 h2
    simp only [List.length_set, List.length_map, List.length_range] at h1
    simp only [List.getElem_set, List.getElem_map, List.getElem_range]
    rw [bump_one]
    by_cases h : s = i
    · subst h; simp
    · have : ¬ (i = s) := fun e => h e.symm
      simp [h, this]
theorem Lo.at_ {B : Nat} {w : World} {a : Option Addr} {c N : Nat} {L : Nat → Nat} (h : Lo B w (.slice a N c) N L) {s : Nat} (hs : s < N) :
    ∃ g, a = some ⟨g, 0, none⟩ ∧ g < w.heap.size ∧ N ≤ c ∧ B ≤ g ∧ w.cell? ⟨g, s, none⟩ = some (.int .i64 (L s : Nat)) ∧ w.frozen? ⟨g, s, none⟩ = false ∧
      Lo B (w.setCell ⟨g, s, none⟩ (.int .i64 ((L s + 1 : Nat) : Int))) (.slice a N c) N (bump [s] L) ∧ Kp (· = g) w (w.setCell ⟨g, s, none⟩ (.int .i64 ((L s + 1 : Nat) : Int))) := by
  obtain ⟨g, rfl, hc, hj⟩ := h.row.at1 (by omega)
  obtain ⟨h1, h2, h3⟩ := hj s hs
  obtain ⟨h4, h5⟩ := h3 (.int .i64 ((L s + 1 : Nat) : Int))
  refine ⟨g, rfl, h.row.lt rfl, hc, h.new g rfl, h1 _ (by simp [hs, nv]), h2, ⟨?_, h.new⟩, h5⟩
  rw [← range_set N s L]
  exact h4
theorem bump_app (s t : List Nat) (L : Nat → Nat) : bump (s ++ t) L = bump t (bump s L) := by
  funext i; unfold bump; rw [List.count_append]; omega
theorem bump_nil (L : Nat → Nat) : bump [] L = L := by funext i; simp [bump]
theorem bump_take {s : List Nat} {k : Nat} (hk : k < s.length) (L : Nat → Nat) : bump (s.take (k + 1)) L = bump [s[k]] (bump (s.take k) L) := by
  rw [List.take_succ_eq_append_getElem hk, bump_app]
structure Most (N : Nat) (L : Nat → Nat) (m : Nat) : Prop where
  le : ∀ i, i < N → L i ≤ m
  is : m = 0 ∨ ∃ i, i < N ∧ L i = m
theorem Most.bump {N : Nat} {L : Nat → Nat} {m s : Nat} (h : Most N L m) (hs : s < N) : Most N (bump [s] L) (max m (L s + 1)) := by
  rw [bump_one]
  refine ⟨fun i hi => ?_, ?_⟩
  · have := h.le i hi
    split
    · rename_i e; subst e; omega
    · omega
  · by_cases q : m ≤ L s + 1
    · exact .inr ⟨s, hs, by simp; omega⟩
    · rcases h.is with e | ⟨i, hi, e⟩
      · omega
      · refine .inr ⟨i, hi, ?_⟩
        have : ¬ i = s := fun z => by subst z; omega
        simp only [if_neg this]; omega
theorem leaf_tv {w : World} {g i c : Nat} (hg : w.heap[g]? = some (.cells #[nv i] 3 (0, 0))) : Tv w (leaf i c) (.slice (some ⟨g, 0, none⟩) 1 1) := by
  refine ⟨_, _, rfl, ⟨by simp [leaf], _, _, rfl, Nat.le_refl _, by unfold maxLen; omega, (fun h => by cases h), fun _ => ⟨g, 0, rfl, lt_of_at hg, fun j u hu => ?_⟩⟩, ⟨by simp [leaf], fun j hj => by simp [leaf] at hj ⊢; omega⟩, by simp [leaf]⟩
  rw [cell_of hg]
  simp only [leaf, List.map_cons, List.map_nil] at hu
  cases j with
  | zero => simpa using hu
  | succ j => simp at hu
theorem one_sl {w : World} {g : Nat} {e : TypeId} {t : Tr} {v : Value} (hg : w.heap[g]? = some (.cells #[.int .i64 (t.n : Nat), v] e (0, 0))) : SlR w 2 (.slice (some ⟨g, 0, none⟩) 1 1) 1 (E (t, v)) := by
  refine ⟨rfl, _, _, rfl, Nat.le_refl _, by unfold maxLen; omega, (fun h => by cases h), fun _ => ⟨g, 0, rfl, lt_of_at hg, fun j u hu => ?_⟩⟩
  rw [cell_of hg, Nat.zero_add]
  simp only [E, tcs] at hu
  match j, hu with
  | 0, hu => simpa using hu
  | 1, hu => simpa using hu
  | j + 2, hu => simp at hu
theorem E_one1 {w : World} {t : Tr} {v : Value} (h : Tv w t v) : ∀ u ∈ E (t, v), u.oneCell' = true := by
  intro u hu
  obtain ⟨a, c, e, _⟩ := h
  simp only [E, tcs, List.mem_cons, List.not_mem_nil, or_false] at hu
  rcases hu with rfl | rfl
  · rfl
  · rw [e]; rfl
def lenOf (v : Value) : Nat := match v with | .slice _ n _ => n | _ => 0
/-! ### a row that is being made, beside a block for a tree -/
structure Gro (e : TypeId) (W V : World) (v : Value) (n : Nat) (xs : List Value) (q : Option Nat) : Prop where
  kp : Kp (fun _ => False) W V
  own : OwnR V 3 1 v n xs
  new : ∀ b, v.ownBlock = some b → W.heap.size ≤ b ∧ q ≠ some b
  at_ : ∀ g, q = some g → W.heap.size ≤ g ∧ V.heap[g]? = some (.cells #[.int .i64 0, .slice none 0 0] e (0, 0))
theorem Gro.start (e : TypeId) (W : World) : Gro e W (W.drew.alloc (.cells #[] 3)) (.slice (some ⟨W.heap.size, 0, none⟩) 0 0) 0 [] none :=
  ⟨((Kp.refl _ _).drew).alloc _, own_none W.drew _ _, fun b hb => ⟨Nat.le_of_eq (own_b hb).symm, by simp⟩, fun g h => by cases h⟩
theorem Gro.alloc {e : TypeId} {W V : World} {v : Value} {n : Nat} {xs : List Value} (h : Gro e W V v n xs none) : Gro e W (V.alloc (.cells #[.int .i64 0, .slice none 0 0] e)) v n xs (some V.heap.size) := by
  have ha : Kp (fun _ => False) V (V.alloc (.cells #[.int .i64 0, .slice none 0 0] e)) := (Kp.refl _ _).alloc _
  refine ⟨h.kp.alloc _, h.own.kp ha (fun _ _ q => q), fun b hb => ⟨(h.new b hb).1, fun e => ?_⟩, fun g hg => ?_⟩
  · have := h.own.lt hb; simp at e; omega
  · cases hg
    exact ⟨h.kp.size, alloc_at V _⟩
theorem Gro.app {e : TypeId} {W V w' : World} {v v' : Value} {n m : Nat} {xs ys : List Value} {q : Option Nat} (h : Gro e W V v n xs q) (h1 : OwnR w' 3 1 v' (n + m) (xs ++ ys)) (h2 : Kp (fun k => v.ownBlock = some k) V w') (h3 : v'.ownBlock = v.ownBlock ∨ v'.ownBlock = some V.heap.size) :
    Gro e W w' v' (n + m) (xs ++ ys) q := by
  refine ⟨h.kp.up h2 (fun i hi => (h.new i hi).1), h1, fun b hb => ?_, fun g hg => ⟨(h.at_ g hg).1, h2.at_ (h.at_ g hg).2 (fun e => (h.new g e).2 hg)⟩⟩
  rcases h3 with e | e
  · exact h.new b (by rw [← e]; exact hb)
  · rw [hb] at e
    simp only [Option.some.injEq] at e
    subst e
    refine ⟨h.kp.size, fun hq => ?_⟩
    have := lt_of_at (h.at_ _ hq).2
    omega
theorem Gro.later {e : TypeId} {W V V' : World} {v : Value} {n : Nat} {xs : List Value} {q : Option Nat} (h : Gro e W V v n xs q) (k : Kp (fun _ => False) V V') : Gro e W V' v n xs q :=
  ⟨h.kp.trans k, h.own.kp k (fun _ _ z => z), h.new, fun g hg => ⟨(h.at_ g hg).1, k.at_ (h.at_ g hg).2 (fun z => z)⟩⟩
theorem Gro.call {e : TypeId} {W V w' : World} {v v' : Value} {n m : Nat} {xs ys : List Value} {q : Option Nat} (h : Gro e W V v n xs q) (h1 : OwnR w' 3 1 v' m ys) (h2 : Kp (fun _ => False) V w') (h3 : ∀ b, v'.ownBlock = some b → V.heap.size ≤ b) : Gro e W w' v' m ys q :=
  ⟨h.kp.trans h2, h1, fun b hb => ⟨Nat.le_trans h.kp.size (h3 b hb), fun e => by have := lt_of_at (h.at_ b e).2; have := h3 b hb; omega⟩, (h.later h2).at_⟩
theorem Gro.pair (e : TypeId) (W : World) (o : Obj) : Gro e W (W.drew.alloc o) (.slice none 0 0) 0 [] none :=
  ⟨((Kp.refl _ _).drew).alloc _, OwnR.nil _ _ _, (fun b hb => by cases hb), (fun g h => by cases h)⟩
theorem Gro.pair2 (e : TypeId) (W : World) (o : Obj) : Gro e W ((W.drew.alloc (.cells #[.int .i64 0, .slice none 0 0] e)).alloc o) (.slice none 0 0) 0 [] (some W.heap.size) :=
  ⟨(((Kp.refl _ _).drew).alloc _).alloc _, OwnR.nil _ _ _, (fun b hb => by cases hb), (fun g h => by cases h; exact ⟨Nat.le_refl _, (Below.heap_alloc _ _ _ (by simp)).trans (alloc_at W.drew _)⟩)⟩
theorem Gro.pair3 (e : TypeId) (W : World) (o : Obj) : Gro e W ((W.drew.alloc o).alloc (.cells #[.int .i64 0, .slice none 0 0] e)) (.slice none 0 0) 0 [] (some (W.heap.size + 1)) := by
  have := (Gro.pair e W o).alloc
  rw [World.size_alloc] at this
  exact this
def JoinAt (e : TypeId) (W : World) (n : Nat) (k : Nat) (xs : List Value) (s : Value) (w' : World) : Prop :=
  ∃ g b d, s = .pointer (some ⟨g, 0, none⟩) ∧ W.heap.size ≤ g ∧ w'.heap[g]? = some (.cells #[.int .i64 (n : Nat), .slice b k d] e (0, 0)) ∧ OwnR w' 3 1 (.slice b k d) k xs ∧
    (∀ i, (Value.slice b k d).ownBlock = some i → W.heap.size ≤ i ∧ i ≠ g) ∧ Kp (fun _ => False) W w'
theorem Gro.fin_set {e : TypeId} {W V : World} {b : Option Addr} {d n k : Nat} {xs : List Value} {g : Nat} (h : Gro e W V (.slice b k d) k xs (some g)) :
    JoinAt e W n k xs (.pointer (some ⟨g, 0, none⟩)) ((V.setCell ⟨g, 0, none⟩ (.int .i64 (n : Nat))).setCell ⟨g, 1, none⟩ (.slice b k d)) := by
  obtain ⟨h1, h2⟩ := h.at_ g rfl
  have kk : Kp (· = g) V ((V.setCell ⟨g, 0, none⟩ (.int .i64 (n : Nat))).setCell ⟨g, 1, none⟩ (.slice b k d)) :=
    ((Kp.refl (· = g) V).setCell (p := ⟨g, 0, none⟩) (fun _ => rfl) _).setCell (p := ⟨g, 1, none⟩) (fun _ => rfl) _
  exact ⟨g, b, d, rfl, h1, setCell_at (i := 1) (setCell_at (i := 0) h2 (.int .i64 (n : Nat))) (.slice b k d), h.own.kp kk (fun i hi e => (h.new i hi).2 (by rw [e])), fun i hi => ⟨(h.new i hi).1, fun e => (h.new i hi).2 (by rw [e])⟩,
    h.kp.up kk (fun i e => by rw [e]; exact h1)⟩
theorem Gro.fin_alloc {e : TypeId} {W V : World} {b : Option Addr} {d n k : Nat} {xs : List Value} (h : Gro e W V (.slice b k d) k xs none) :
    JoinAt e W n k xs (.pointer (some ⟨V.heap.size, 0, none⟩)) (V.alloc (.cells #[.int .i64 (n : Nat), .slice b k d] e)) := by
  have kk : Kp (fun _ => False) V (V.alloc (.cells #[.int .i64 (n : Nat), .slice b k d] e)) := (Kp.refl _ _).alloc _
  exact ⟨_, b, d, rfl, h.kp.size, alloc_at V _, h.own.kp kk (fun _ _ q => q), fun i hi => ⟨(h.new i hi).1, by have := h.own.lt hi; omega⟩, h.kp.trans kk⟩
end Go.Proofs.YtmioiaeiflbmhaaGreat.Hu
namespace Go.Mg
open Go Go.RowKit Go.ChangeMaps Go.MapKept Go.Sort
theorem sorted_at {α : Type} [Inhabited α] (enc : α → Value) {W : World} {g k off : Nat} {cur : Array Value} {e : TypeId} {fr : Nat × Nat} (hg : W.heap[g]? = some (.cells cur e fr)) (d : Array α) (os : Array Obj) :
    (grow (putRow enc (Sort.ahead W k) g off d) os).heap[g]? = some (.cells (putCells enc off d cur) e fr) := by
  have hlt := lt_of_at hg
  rw [heap_grow_old _ _ (by simp; exact hlt)]
  show (W.heap.modify g _)[g]? = _
  have h' : W.heap[g] = .cells cur e fr := by simpa [Array.getElem?_eq_getElem hlt] using hg
  rw [Array.getElem?_eq_getElem (by simpa using hlt), Array.getElem_modify_self, h']
  rfl
theorem sorted_kp {α : Type} [Inhabited α] (enc : α → Value) (W : World) (g k off : Nat) (d : Array α) (os : Array Obj) : Kp (· = g) W (grow (putRow enc (Sort.ahead W k) g off d) os) := by
  refine ⟨rfl, rfl, rfl, by simp, fun i hi hn => ?_⟩
  rw [heap_grow_old _ _ (by simp; exact hi)]
  show (W.heap.modify g _)[i]? = _
  rw [Array.getElem?_modify, if_neg (fun e => hn e.symm)]
theorem size_putCells {α : Type} [Inhabited α] (enc : α → Value) (off : Nat) (d : Array α) (c : Array Value) : (putCells enc off d c).size = c.size := by simp [putCells]
theorem drop_putCells {α : Type} [Inhabited α] (enc : α → Value) (off : Nat) (d : Array α) (c : Array Value) (h : off + d.size ≤ c.size) : ((putCells enc off d c).toList.drop off).take d.size = d.toList.map enc := by
  apply List.ext_getElem
  · rw [List.length_take, List.length_drop, Array.length_toList, size_putCells, List.length_map, Array.length_toList]; omega
  · intro i h1 h2
    have hi : i < d.size := by simpa using h2
    rw [List.getElem_take, List.getElem_drop, Array.getElem_toList, List.getElem_map, Array.getElem_toList]
    simp only [putCells, Array.getElem_mapIdx]
    rw [if_pos ⟨by omega, by omega⟩, Nat.add_sub_cancel_left, getElem!_pos d i hi]
theorem OwnO.sorted {W : World} {e : TypeId} {size n cap g off k : Nat} {xs : List Value} (h : OwnO W e size (.slice (some ⟨g, off, none⟩) n cap) n xs) (h0 : 0 < n) (d : Array Value) (hd : d.size = n * size) (os : Array Obj) :
    OwnO (grow (putRow id (Sort.ahead W k) g off d) os) e size (.slice (some ⟨g, off, none⟩) n cap) n d.toList := by
  rcases h.2 with ⟨_, rfl⟩ | ⟨g', off', cap', cur, fr, e1, hg, hfr, h1, h2, h3, h4⟩
  · omega
  · simp only [Value.slice.injEq, true_and, Option.some.injEq, Addr.mk.injEq, and_true] at e1
    obtain ⟨⟨rfl, rfl⟩, rfl⟩ := e1
    have hs := h3 (by omega)
    have hle : n * size ≤ cap * size := Nat.mul_le_mul_right _ h1
    refine ⟨by simpa using hd, .inr ⟨g, off, cap, _, fr, rfl, sorted_at id hg d os, ?_, h1, h2, fun _ => by rw [size_putCells]; exact hs, ?_⟩⟩
    · rw [size_putCells]; exact hfr
    · rw [← hd, drop_putCells id off d cur (by omega)]; simp
theorem OwnR.sortedI {W : World} {e : TypeId} {n cap g k : Nat} {xs : List Value} (h : OwnR W e 1 (.slice (some ⟨g, 0, none⟩) n cap) n xs) (ys : List Int) (hd : ys.length = n) (os : Array Obj) :
    OwnR (grow (putRow (Value.int .i64) (Sort.ahead W k) g 0 ys.toArray) os) e 1 (.slice (some ⟨g, 0, none⟩) n cap) n (ys.map (Value.int .i64)) := by
  rcases h.2 with ⟨e0, _⟩ | ⟨g', cap', cur, fr, e1, hg, hfr, h1, h2, h3, h4⟩
  · cases e0
  · simp only [Value.slice.injEq, true_and, Option.some.injEq, Addr.mk.injEq, and_true] at e1
    obtain ⟨rfl, rfl⟩ := e1
    refine ⟨by simpa using hd, .inr ⟨g, cap, _, fr, rfl, sorted_at (Value.int .i64) hg _ os, ?_, h1, h2, by rw [size_putCells]; exact h3, ?_⟩⟩
    · rw [size_putCells]; exact hfr
    · have := drop_putCells (Value.int .i64) 0 ys.toArray cur (by simp; omega)
      simp only [List.drop_zero, List.size_toArray, hd] at this
      rw [Nat.mul_one]; exact this
theorem OwnR.of_owns {w : World} {base : Nat} {e : TypeId} {size : Nat} {v : Value} {n : Nat} {xs : List Value} (h : w.ownsRow base e size v n xs) : OwnR w e size v n xs ∧ ∀ b, v.ownBlock = some b → base ≤ b := by
  rcases h.2 with ⟨rfl, h0⟩ | ⟨g, cap, cur, rfl, hb, hg, h1, h2, h3, h4⟩
  · exact ⟨⟨h.1, .inl ⟨rfl, h0⟩⟩, fun b hb => by cases hb⟩
  · exact ⟨⟨h.1, .inr ⟨g, cap, cur, (0, 0), rfl, hg, .inl rfl, h1, h2, h3, h4⟩⟩, fun b hb' => by have := own_b hb'; omega⟩
end Go.Mg
