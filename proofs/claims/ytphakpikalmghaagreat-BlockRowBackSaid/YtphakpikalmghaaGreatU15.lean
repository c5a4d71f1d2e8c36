/- huff: slices that read as numbers. huff: Is; the law's may. huff: slices.Repeat; Codes. slices.Repeat; huff: Codes. -/
import Derived.Laws.CopyRow
import Derived.Test.YtphakpikalmghaaGreatU14
import Derived.Test.YtphakpikalmghaaGreatU03
import Derived.Test.YtphakpikalmghaaGreatU11
namespace Go.Proofs.YtphakpikalmghaaGreat.Hu
open Go Go.RowKit Go.ChangeMaps Go.MapKept Go.Mg Go.Hf Go.Sort Go.Proofs.YtphakpikalmghaaGreat.It

/-- A slice that reads as the numbers xs. -/
def Nm (w : World) (a : Option Addr) (c : Nat) (xs : List Int) : Prop := SlR w 1 (.slice a xs.length c) xs.length (xs.map (Value.int .i64))
theorem Nm.at_ {w : World} {a : Option Addr} {c : Nat} {xs : List Int} (h : Nm w a c xs) (h0 : 0 < xs.length) :
    ∃ g off, a = some ⟨g, off, none⟩ ∧ g < w.heap.size ∧ xs.length ≤ c ∧ ∀ i (hi : i < xs.length), w.cell? ⟨g, off + i, none⟩ = some (.int .i64 xs[i]) := by
  obtain ⟨_, a0, c0, e0, h1, _, _, hc⟩ := h
  simp only [Value.slice.injEq, true_and] at e0
  obtain ⟨rfl, rfl⟩ := e0
  obtain ⟨g, off, rfl, hg, hc⟩ := hc h0
  exact ⟨g, off, rfl, hg, h1, fun i hi => hc i _ (by rw [List.getElem?_map, List.getElem?_eq_getElem hi]; rfl)⟩
theorem Nm.kp {w w' : World} {a : Option Addr} {c : Nat} {xs : List Int} (h : Nm w a c xs) (hk : Kp (fun _ => False) w w') : Nm w' a c xs := SlR.kp h hk (fun _ _ q => q)

end Go.Proofs.YtphakpikalmghaaGreat.Hu
namespace Go.Proofs.YtphakpikalmghaaGreat.Hu
open Go Go.RowKit Go.ChangeMaps Go.MapKept Go.Mg Go.Hf Go.Sort Go.Proofs.YtphakpikalmghaaGreat.It

theorem lf_take {xs : List Int} {k : Nat} (hk : k < xs.length) : xs.take (k + 1) = xs.take k ++ [lf xs k] := by
  rw [List.take_succ_eq_append_getElem hk, lf_at hk]
theorem Nm.lf_ {w : World} {a : Option Addr} {c : Nat} {xs : List Int} (h : Nm w a c xs) (h0 : 0 < xs.length) :
    ∃ g off, a = some ⟨g, off, none⟩ ∧ g < w.heap.size ∧ xs.length ≤ c ∧ ∀ i, i < xs.length → w.cell? ⟨g, off + i, none⟩ = some (.int .i64 (lf xs i)) := by
  obtain ⟨g, off, e, hg, h1, hc⟩ := h.at_ h0
  exact ⟨g, off, e, hg, h1, fun i hi => by rw [lf_at hi]; exact hc i hi⟩
theorem div_val {x : Int} (h0 : 0 < x) (h1 : x ≤ 11) : (2048 : Int) / 2 ^ x.toNat = ((2 ^ (11 - x.toNat) : Nat) : Int) := by
  have : x = 1 ∨ x = 2 ∨ x = 3 ∨ x = 4 ∨ x = 5 ∨ x = 6 ∨ x = 7 ∨ x = 8 ∨ x = 9 ∨ x = 10 ∨ x = 11 := by omega
  rcases this with rfl | rfl | rfl | rfl | rfl | rfl | rfl | rfl | rfl | rfl | rfl <;> decide
theorem beqN (a : Nat) : ((a : Int) == 2048) = decide (a = 2048) := by
  by_cases h : a = 2048
  · subst h; rfl
  · rw [decide_eq_false h, beq_eq_false_iff_ne]; omega
def IsPost (w : World) (xs : List Int) (e : Ending) (w' : World) : Prop := ∃ z : Bool, (z = true ↔ IsOk xs) ∧ e = .returned (.bool z) ∧ w' = w
set_option maxRecDepth 100000 in
set_option maxHeartbeats 2000000 in
theorem is_p (w : World) (xs : List Int) (a : Option Addr) (c : Nat) (h : Nm w a c xs) (hl : xs.length ≤ 1000) :
    Calls Tryz.prog 88 #[.slice a xs.length c] w (IsPost w xs) := by
  by_cases hlen : xs.length ≤ 256
  · by_cases h0 : xs.length = 0
    · have : xs = [] := List.eq_nil_of_length_eq_zero h0
      subst this
      clear h
      go_enter Tryz.func88, Tryz.ntmps88
      go_wp2_with fail
      go_loopw [3, 4, 5, 13] (fun s m l i wr => wr = w ∧ i = .int .i64 0 ∧ s = .int .i64 0 ∧ m = .int .i64 0 ∧ l = .int .i64 0) (fun _ _ _ _ _ => 0)
      case atStart => exact ⟨rfl, rfl, rfl, rfl, rfl⟩
      case round =>
        obtain ⟨rfl, rfl, rfl, rfl, rfl⟩ := hrel
        go_wp2_with fail
        go_ret
        exact ⟨false, ⟨(fun h => by cases h), fun h => by obtain ⟨_, _, h | h⟩ := h <;> simp [isSt] at h⟩, rfl, rfl⟩
    · obtain ⟨g, o, rfl, hg, hcap, hc⟩ := h.lf_ (by omega)
      have HC := Lib.hid hc
      clear hc h
      obtain ⟨n, hn⟩ : ∃ n, n = xs.length := ⟨_, rfl⟩
      rw [← hn] at hlen h0 hcap hl ⊢
      have HN := Lib.hid hn
      clear hn
      go_enter Tryz.func88, Tryz.ntmps88
      go_wp2_with fail
      go_loopw [3, 4, 5, 13] (fun s m l i wr => ∃ k : Nat, k ≤ n ∧ wr = w ∧ i = .int .i64 k ∧ s = .int .i64 ((isSt (xs.take k)).1 : Nat) ∧ m = .int .i64 ((isSt (xs.take k)).2.1 : Nat) ∧ l = .int .i64 (isSt (xs.take k)).2.2 ∧ InR (xs.take k)) (fun _ _ _ i _ => n - (intOf i).toNat)
      case atStart => exact ⟨0, Nat.zero_le _, rfl, rfl, rfl, rfl, rfl, fun x hx => by simp at hx⟩
      case round =>
        obtain ⟨k, hk, rfl, rfl, rfl, rfl, rfl, hr⟩ := hrel
        have HR := Lib.hid hr
        clear hr
        by_cases hlt : k < n
        · have d0 := HC.out k (by rw [← HN.out]; exact hlt)
          have HT := Lib.hid (lf_take (xs := xs) (k := k) (by rw [← HN.out]; exact hlt))
          have hle := isSt_le (xs.take k)
          have hlk : (xs.take k).length ≤ k := by rw [List.length_take]; omega
          have hsn := isSt_snoc (xs.take k) (lf xs k)
          rw [← HT.out] at hsn
          have HSN := Lib.hid hsn
          have hxm : lf xs k ∈ xs := by rw [lf_at (by rw [← HN.out]; exact hlt)]; exact List.getElem_mem _
          have HXM := Lib.hid hxm
          obtain ⟨s1, hs1⟩ : ∃ s, s = (isSt (xs.take k)).1 := ⟨_, rfl⟩
          obtain ⟨s2, hs2⟩ : ∃ s, s = (isSt (xs.take k)).2.1 := ⟨_, rfl⟩
          obtain ⟨s3, hs3⟩ : ∃ s, s = (isSt (xs.take k)).2.2 := ⟨_, rfl⟩
          have hst : isSt (xs.take k) = (s1, s2, s3) := by rw [hs1, hs2, hs3]
          rw [hst] at hle
          simp only at hle
          rw [← hs1, ← hs2, ← hs3]
          have HST := Lib.hid hst
          obtain ⟨x, hx⟩ : ∃ x, x = lf xs k := ⟨_, rfl⟩
          rw [← hx] at d0
          have HX := Lib.hid hx
          clear hs1 hs2 hs3 hst hsn hxm hx
          by_cases hxr : 0 ≤ x ∧ x ≤ 11
          · obtain ⟨hx0, hx1⟩ := hxr
            have n1 : ¬ x < 0 := by omega
            have n2 : ¬ x > 11 := by omega
            have hin : InR (xs.take (k + 1)) := by
              rw [HT.out]
              intro y hy
              rcases List.mem_append.1 hy with hy | hy
              · exact HR.out y hy
              · rw [List.mem_singleton] at hy; rw [hy, ← HX.out]; exact ⟨hx0, hx1⟩
            have HIN := Lib.hid hin
            clear hin
            by_cases hp : 0 < x
            · have hb := div_val hp hx1
              obtain ⟨p, hpv⟩ : ∃ p : Nat, p = 2 ^ (11 - x.toNat) := ⟨_, rfl⟩
              have hple : p ≤ 2048 := by
                have : 2 ^ (11 - x.toNat) ≤ 2 ^ 11 := Nat.pow_le_pow_right (by omega) (by omega)
                have e : 2 ^ 11 = 2048 := rfl
                omega
              rw [← hpv] at hb
              have HPV := Lib.hid hpv
              clear hpv
              go_wp2_with fail
              have e := HSN.out
              rw [HST.out, isStep, ← HX.out, if_pos hp, ← HPV.out] at e
              refine ⟨⟨k + 1, by omega, by first | trivial | rfl, by go_num, ?_, ?_, ?_, HIN.out⟩, by simp [intOf]; omega⟩
              · rw [e]; go_num
              · rw [e]; go_num
              · rw [e]
            · go_wp2_with fail
              have e := HSN.out
              rw [HST.out, isStep, ← HX.out, if_neg hp] at e
              refine ⟨⟨k + 1, by omega, by first | trivial | rfl, by go_num, ?_, ?_, ?_, HIN.out⟩, by simp [intOf]; omega⟩
              · rw [e]
              · rw [e]
              · rw [e]
          · have hno : ¬ IsOk xs := fun h => hxr (by rw [HX.out]; exact h.2.1 _ HXM.out)
            have HNO := Lib.hid hno
            clear hno
            by_cases hneg : x < 0
            · go_wp2_with fail
              go_ret
              exact ⟨false, ⟨(fun h => by cases h), fun h => (HNO.out h).elim⟩, rfl, rfl⟩
            · have hgt : 11 < x := by omega
              go_wp2_with fail
              go_ret
              exact ⟨false, ⟨(fun h => by cases h), fun h => (HNO.out h).elim⟩, rfl, rfl⟩
        · obtain rfl : k = n := by omega
          have HR2 := HR.out
          rw [HN.out, List.take_length] at HR2 ⊢
          have hle := isSt_le xs
          obtain ⟨s1, hs1⟩ : ∃ s, s = (isSt xs).1 := ⟨_, rfl⟩
          obtain ⟨s2, hs2⟩ : ∃ s, s = (isSt xs).2.1 := ⟨_, rfl⟩
          obtain ⟨s3, hs3⟩ : ∃ s, s = (isSt xs).2.2 := ⟨_, rfl⟩
          have hiff : IsOk xs ↔ ((s2 = 1 ∧ s3 = 1) ∨ s1 = 2048) := by
            rw [hs1, hs2, hs3]
            exact ⟨fun h => h.2.2, fun h => ⟨by rw [← HN.out]; exact hlen, HR2, h⟩⟩
          have HI := Lib.hid hiff
          rw [← hs1, ← hs2, ← hs3]
          clear hs1 hs2 hs3 hiff HR2 hle
          by_cases q2 : s2 = 1
          · by_cases q3 : s3 = 1
            · have HT : Hid (IsOk xs) := Lib.hid (HI.out.2 (.inl ⟨q2, q3⟩))
              subst q2 q3
              go_wp2_with fail
              go_ret
              exact ⟨true, ⟨fun _ => HT.out, fun _ => rfl⟩, rfl, rfl⟩
            · have q3' : (s3 == 1) = false := by simpa using q3
              have Q3 := Lib.hid q3
              subst q2
              clear q3
              go_wp2_with fail
              go_ret
              refine ⟨decide (s1 = 2048), ?_, ?_, rfl⟩
              · rw [decide_eq_true_iff, HI.out]
                exact ⟨.inr, fun h => h.resolve_left (fun z => Q3.out z.2)⟩
              · simp [beqN]
          · have q2' : ((s2 : Int) == 1) = false := by rw [beq_eq_false_iff_ne]; omega
            have Q2 := Lib.hid q2
            clear q2
            go_wp2_with fail
            go_ret
            refine ⟨decide (s1 = 2048), ?_, ?_, rfl⟩
            · rw [decide_eq_true_iff, HI.out]
              exact ⟨.inr, fun h => h.resolve_left (fun z => Q2.out z.1)⟩
            · simp [beqN]
  · have hgt : 256 < xs.length := by omega
    have hno : ¬ IsOk xs := fun h => hlen h.1
    have HNO := Lib.hid hno
    clear h hno
    go_enter Tryz.func88, Tryz.ntmps88
    go_wp2_with fail
    go_ret
    exact ⟨false, ⟨(fun h => by cases h), fun h => (HNO.out h).elim⟩, rfl, rfl⟩
end Go.Proofs.YtphakpikalmghaaGreat.Hu
namespace Go.Proofs.YtphakpikalmghaaGreat.Hu
open Go Go.RowKit Go.ChangeMaps Go.MapKept Go.Mg Go.Hf Go.Sort Go.Proofs.YtphakpikalmghaaGreat.It

theorem mul_c (n : Nat) (hn : n ≤ 1000) (w : World) : Calls Tryz.prog 124 #[.int .u64 1, .int .u64 (n : Nat)] w fun e w' => e = .returned (.tuple #[.int .u64 0, .int .u64 (n : Nat)]) ∧ w' = w := by
  have h := Any.bits_Mul Tryz.lays212 1 n (by omega) (by omega) w
  refine Calls.mono h ?_
  rintro e w' ⟨rfl, rfl⟩
  refine ⟨?_, rfl⟩
  have e1 : 1 * n / 18446744073709551616 = 0 := by omega
  have e2 : 1 * n % 18446744073709551616 = n := by omega
  rw [e1, e2]
  rfl
section
variable {P : Program} {ops : Array Oper} {o : Oper} {a : Act} {Q : Exit → Act → World → Prop}
theorem step_copy (w : World) {E : Prop} (hg : o.guard = none) (d s : Operand) (t t' : TypeId) (ho : o.op = .call { callee := .builtin .copy, args := #[d, s], argTypes := #[t, t'] }) {dv sv r : Value} {w' : World}
    (hd : a.eval d = dv) (hs : a.eval s = sv) (hrun : (Builtin.copy_ #[t, t'] o.type #[dv, sv]).run P w = .ok r w') {K : Act → World → Prop} (h : K (a.put o.dst r) w') :
    if Region.wanted o (yielded ops a.tmps) = true then Oper.wp P o a w K Q else E := by
  rw [if_pos (by simp [Region.wanted, hg])]
  unfold Oper.wp execOp
  simp only [ho, resolve, invoke, builtin, Sem.run_bind, Sem.run_pure, Result.andThen_ok, List.map_toArray, List.map_cons, List.map_nil, hd, hs, hrun]
  exact h
theorem wpList_copyR (w : World) {rest : List Oper} (hgd : o.guard = none) (d s : Operand) (t t' : TypeId) (ho : o.op = .call { callee := .builtin .copy, args := #[d, s], argTypes := #[t, t'] }) {dv sv r : Value} {w' : World}
    (hd : a.eval d = dv) (hs : a.eval s = sv) (hrun : (Builtin.copy_ #[t, t'] o.type #[dv, sv]).run P w = .ok r w') (h : wpList P ops Q rest (a.put o.dst r) w') : wpList P ops Q (o :: rest) a w := by
  refine wpList_plain hgd fun K hK => ?_
  unfold Oper.wp execOp
  simp only [ho, resolve, invoke, builtin, Sem.run_bind, Sem.run_pure, Result.andThen_ok, List.map_toArray, List.map_cons, List.map_nil, hd, hs, hrun]
  exact hK _ _ h
end
/-- The first m are v, the others 0. -/
def repRow (v : Int) (n m : Nat) : List Value := List.replicate m (.int .i64 v) ++ List.replicate (n - m) (.int .i64 0)
theorem repRow_len {v : Int} {n m : Nat} (h : m ≤ n) : (repRow v n m).length = n := by simp [repRow]; omega
def RepAt (w : World) (g : Nat) (v : Int) (n m : Nat) : Prop := w.heap[g]? = some (.cells (repRow v n m).toArray 3 (0, 0))
theorem rep_row {v : Int} {n m k : Nat} (h : m + k ≤ n) : (repRow v n m).take m ++ List.replicate k (.int .i64 v) ++ (repRow v n m).drop (m + k) = repRow v n (m + k) := by
  unfold repRow
  rw [List.take_left' (by simp), List.drop_append, List.drop_of_length_le (by simp)]
  simp only [List.length_replicate, List.nil_append, List.drop_replicate]
  rw [List.replicate_append_replicate, show n - m - (m + k - m) = n - (m + k) by omega]
theorem info1 : (Tryz.prog.info? 3).map (·.size) = some 1 := by kernel_rfl
theorem rep_copy {w : World} {g : Nat} {v : Int} {n m : Nat} (h : RepAt w g v n m) (hm : m < n) : ∃ w', (Builtin.copy_ #[51, 51] 3 #[.slice (some ⟨g, m, none⟩) (n - m) (n - m), .slice (some ⟨g, 0, none⟩) m n]).run Tryz.prog w = .ok (.int .i64 ((min m (n - m) : Nat) : Int)) w' ∧ RepAt w' g v n (m + min m (n - m)) ∧ Kp (· = g) w w' := by
  have hk : m + min m (n - m) ≤ n := by omega
  have hr := run_copy_row (P := Tryz.prog) w 51 51 3 3 g m (n - m) (n - m) ⟨g, 0, none⟩ m n (repRow v n m).toArray 3 (List.replicate (min m (n - m)) (.int .i64 v)) Tryz.underlying51 info1 h (by simp) (fun j u hu => by
      rw [addr_add, Nat.zero_add, cell_of h]
      have hj : j < min m (n - m) := by have := (List.getElem?_eq_some_iff.1 hu).1; simpa using this
      rw [List.getElem?_replicate, if_pos hj] at hu
      unfold repRow
      rw [List.getElem?_toArray, List.getElem?_append_left (by simp; omega), List.getElem?_replicate, if_pos (by omega)]
      exact hu) (by simp [repRow_len (Nat.le_of_lt hm)]; omega) (fun u hu => by rw [(List.mem_replicate.1 hu).2]; rfl)
  have h2 := setRow_heap w g (repRow v n m).toArray ((repRow v n m).take m ++ List.replicate (min m (n - m)) (Value.int .i64 v) ++ (repRow v n m).drop (m + min m (n - m))).toArray 3 (0, 0) h
  simp only [List.length_replicate] at hr
  refine ⟨w.setRow g ((repRow v n m).take m ++ List.replicate (min m (n - m)) (Value.int .i64 v) ++ (repRow v n m).drop (m + min m (n - m))).toArray, hr, ?_, kp_setRow _ _ _⟩
  unfold RepAt
  rw [← rep_row hk]
  exact h2
end Go.Proofs.YtphakpikalmghaaGreat.Hu
namespace Go.Proofs.YtphakpikalmghaaGreat.Hu
open Go Go.RowKit Go.ChangeMaps Go.MapKept Go.Mg Go.Hf Go.Sort Go.Proofs.YtphakpikalmghaaGreat.It

theorem slice_lo {w : World} {g n m : Nat} (h : m < n) : (Instr.slice 51 (.slice (some ⟨g, 0, none⟩) n n) (some (.int .i64 (m : Nat))) none none).run Tryz.prog w = .ok (.slice (some ⟨g, m, none⟩) (n - m) (n - m)) w := by
  have he : Tryz.prog.elem 51 = 3 := by have := elem_of (P := Tryz.prog) Tryz.underlying51; rw [Tryz.underlying51] at this; simp at this; exact this.symm
  rw [run_slice_l (P := Tryz.prog) w 51 _ n n (elem_of Tryz.underlying51) .i64 (m : Int) (by omega) (by omega), he, sizeOf_run info1]
  have : ¬ n = m := by omega
  simp [Result.andThen, sliced, this, addr_add]
theorem slice_hi {w : World} {g n m : Nat} (h : m ≤ n) : (Instr.slice 51 (.slice (some ⟨g, 0, none⟩) n n) none (some (.int .i64 (m : Nat))) none).run Tryz.prog w = .ok (.slice (some ⟨g, 0, none⟩) m n) w := by
  have he : Tryz.prog.elem 51 = 3 := by have := elem_of (P := Tryz.prog) Tryz.underlying51; rw [Tryz.underlying51] at this; simp at this; exact this.symm
  rw [run_slice_h (P := Tryz.prog) w 51 _ n n (elem_of Tryz.underlying51) .i64 (m : Int) (by omega) (by omega), he, sizeOf_run info1]
  simp [Result.andThen, sliced, Addr.add]
theorem rep_first {w : World} {g gx : Nat} {v : Int} {n : Nat} (h : RepAt w g v n 0) (hn : 0 < n) (hx : w.cell? ⟨gx, 0, none⟩ = some (.int .i64 v)) : ∃ w', (Builtin.copy_ #[51, 51] 3 #[.slice (some ⟨g, 0, none⟩) n n, .slice (some ⟨gx, 0, none⟩) 1 1]).run Tryz.prog w = .ok (.int .i64 1) w' ∧ RepAt w' g v n 1 ∧ Kp (· = g) w w' := by
  have hr := run_copy_row (P := Tryz.prog) w 51 51 3 3 g 0 n n ⟨gx, 0, none⟩ 1 1 (repRow v n 0).toArray 3 [.int .i64 v] Tryz.underlying51 info1 h (by show 1 = min 1 n; omega) (fun j u hu => by
      cases j with
      | zero => rw [addr_add]; simp at hu; rw [← hu]; exact hx
      | succ j => simp at hu) (by simp [repRow_len (Nat.zero_le n)]; omega) (fun u hu => by rw [List.mem_singleton.1 hu]; rfl)
  have h2 := setRow_heap w g (repRow v n 0).toArray ((repRow v n 0).take 0 ++ List.replicate 1 (Value.int .i64 v) ++ (repRow v n 0).drop (0 + 1)).toArray 3 (0, 0) h
  refine ⟨w.setRow g ((repRow v n 0).take 0 ++ List.replicate 1 (Value.int .i64 v) ++ (repRow v n 0).drop (0 + 1)).toArray, hr, ?_, kp_setRow _ _ _⟩
  unfold RepAt
  have := rep_row (v := v) (n := n) (m := 0) (k := 1) (by omega)
  rw [Nat.zero_add] at this
  rw [← this]
  exact h2
def RepPost (w : World) (v : Int) (n : Nat) (e : Ending) (w' : World) : Prop := ∃ g, e = .returned (.slice (some ⟨g, 0, none⟩) n n) ∧ w.heap.size ≤ g ∧ RepAt w' g v n n ∧ Kp (fun _ => False) w w'
set_option maxRecDepth 100000 in
set_option maxHeartbeats 2000000 in
theorem repeat_c (w : World) (gx : Nat) (v : Int) (n : Nat) (hgx : gx < w.heap.size) (hx : w.cell? ⟨gx, 0, none⟩ = some (.int .i64 v)) (hn : 0 < n) (hn2 : n ≤ 1000) :
    Calls Tryz.prog 122 #[.slice (some ⟨gx, 0, none⟩) 1 1, .int .i64 (n : Nat)] w (RepPost w v n) := by
  obtain ⟨cur, hcur, hmk⟩ := make_ints w n (by omega)
  have hR : RepAt (w.alloc (.cells cur 3)) w.heap.size v n 0 := by
    unfold RepAt
    rw [alloc_at]
    congr 2
    have : (repRow v n 0) = cur.toList := by rw [hcur]; simp [repRow, nv]
    rw [this]
  have k0 : Kp (fun _ => False) w (w.alloc (.cells cur 3)) := (Kp.refl _ _).alloc _
  obtain ⟨w2, hrun, hR2, hk2⟩ := rep_first hR hn ((k0.cell (p := ⟨gx, 0, none⟩) hgx (fun q => q)).trans hx)
  have HRUN := Lib.hid hrun
  have HR2 := Lib.hid hR2
  have HK2 := Lib.hid (k0.up hk2 (fun i e => by rw [e]; exact Nat.le_refl _))
  have HX := Lib.hid hx
  have hn0 : ¬ (n : Int) < 0 := by omega
  clear hR hrun hR2 hk2 k0 hcur hx
  go_enter Tryz.func122, Tryz.ntmps122
  go_wp2_with fail
  refine (mul_c n hn2 w).mono ?_
  rintro e w1 ⟨rfl, rfl⟩
  have hrun := HRUN.out
  go_wp2_with fail
  go_loopw [8] (fun i wr => ∃ m : Nat, 1 ≤ m ∧ m ≤ n ∧ i = .int .i64 m ∧ RepAt wr w1.heap.size v n m ∧ Kp (fun _ => False) w1 wr) (fun i _ => n - (intOf i).toNat)
  case atStart => exact ⟨1, Nat.le_refl _, hn, rfl, HR2.out, HK2.out⟩
  case round =>
    clear hrun
    obtain ⟨m, hm1, hm, rfl, hr, hk⟩ := hrel
    have HR := Lib.hid hr
    have HK := Lib.hid hk
    clear hr hk
    by_cases hlt : m < n
    · have hs1 : ∀ w', (Instr.slice 51 (.slice (some ⟨w1.heap.size, 0, none⟩) n n) (some (.int .i64 (m : Nat))) none none).run Tryz.prog w' = .ok (.slice (some ⟨w1.heap.size, m, none⟩) (n - m) (n - m)) w' := fun w' => slice_lo hlt
      have hs2 : ∀ w', (Instr.slice 51 (.slice (some ⟨w1.heap.size, 0, none⟩) n n) none (some (.int .i64 (m : Nat))) none).run Tryz.prog w' = .ok (.slice (some ⟨w1.heap.size, 0, none⟩) m n) w' := fun w' => slice_hi (by omega)
      obtain ⟨w3, hrun, hr3, hk3⟩ := rep_copy (w := wr.drew) HR.out hlt
      obtain ⟨q, hq⟩ : ∃ q, q = min m (n - m) := ⟨_, rfl⟩
      rw [← hq] at hrun hr3
      have hq1 : 1 ≤ q := by omega
      have hq2 : m + q ≤ n := by omega
      have hwr : IntKind.i64.wrap ((m : Int) + (q : Int)) = (m : Int) + (q : Int) := by rw [IntKind.wrap_i64]; omega
      have HRUN3 := Lib.hid hrun
      have HR3 := Lib.hid hr3
      have HK3 := Lib.hid ((HK.out.drew).up hk3 (fun i e => by rw [e]; exact Nat.le_refl _))
      clear hr3 hk3 hq
      go_wp2_with fail
      go_region_held3 (fun _ => True) (trivial) (fail)
      all_goals (go_wp2_with fail; exact ⟨⟨m + q, by omega, hq2, by go_num, HR3.out, HK3.out⟩, by simp [intOf]; omega⟩)
    · obtain rfl : m = n := by omega
      go_wp2_with fail
      go_ret
      exact ⟨w1.heap.size, rfl, Nat.le_refl _, HR.out, HK.out⟩
end Go.Proofs.YtphakpikalmghaaGreat.Hu
