/- huff: the law's may; slices.Repeat; Codes. -/
import Derived.Test.YtcecnkmhhbncdaaHfO
import Derived.Laws.CopyRow
namespace Go.Proofs.Ytcecnkmhhbncdaa.Hu
open Go Go.RowKit Go.ChangeMaps Go.MapKept Go.Mg Go.Hf Go.Sort Go.Proofs.Ytcecnkmhhbncdaa.It

def MayPost (w : World) (xs : List Int) (e : Ending) (w' : World) : Prop := ∃ z : Bool, (z = true → xs.length ≤ 256 ∧ ∀ x, x ∈ xs → 0 ≤ x ∧ x ≤ 1073741824) ∧ e = .returned (.bool z) ∧ w' = w
set_option maxRecDepth 100000 in
set_option maxHeartbeats 2000000 in
theorem may_c (w : World) (xs : List Int) (a : Option Addr) (c : Nat) (h : Nm w a c xs) (hc64 : xs.length ≤ maxLen) :
    Calls Try.prog 15 #[.slice a xs.length c] w (MayPost w xs) := by
  unfold maxLen at hc64
  by_cases h0 : xs.length = 0
  · have : xs = [] := List.eq_nil_of_length_eq_zero h0
    subst this
    clear h
    go_enter Try.func15, Try.ntmps15
    go_wp2_with fail
    go_loopw [3] (fun i wr => wr = w ∧ i = .int .i64 0) (fun _ _ => 0)
    case atStart => exact ⟨rfl, rfl⟩
    case round =>
      obtain ⟨rfl, rfl⟩ := hrel
      go_wp2_with fail
      go_ret
      exact ⟨true, fun _ => ⟨by simp, fun x hx => by cases hx⟩, rfl, rfl⟩
  · obtain ⟨g, o, rfl, hg, hcap, hc⟩ := h.lf_ (by omega)
    have HC := Lib.hid hc
    clear hc h
    obtain ⟨n, hn⟩ : ∃ n, n = xs.length := ⟨_, rfl⟩
    rw [← hn] at h0 hcap hc64 ⊢
    have HN := Lib.hid hn
    clear hn
    go_enter Try.func15, Try.ntmps15
    go_wp2_with fail
    go_loopw [3] (fun i wr => ∃ k : Nat, k ≤ n ∧ k ≤ 257 ∧ wr = w ∧ i = .int .i64 k ∧ ∀ j, j < k → 0 ≤ lf xs j ∧ lf xs j ≤ 1073741824) (fun i _ => 257 - (intOf i).toNat)
    case atStart => exact ⟨0, Nat.zero_le _, by omega, rfl, rfl, fun j hj => by omega⟩
    case round =>
      obtain ⟨k, hk, hk2, rfl, rfl, hr⟩ := hrel
      have HR := Lib.hid hr
      clear hr
      by_cases hlt : k < n
      · by_cases h257 : k < 257
        · have d0 := HC.out k (by rw [← HN.out]; exact hlt)
          obtain ⟨x, hx⟩ : ∃ x, x = lf xs k := ⟨_, rfl⟩
          rw [← hx] at d0
          have HX := Lib.hid hx
          clear hx
          by_cases hneg : x < 0
          · go_wp2_with fail
            go_ret
            exact ⟨false, (fun h => by cases h), rfl, rfl⟩
          · by_cases hbig : 1073741824 < x
            · go_wp2_with fail
              go_ret
              exact ⟨false, (fun h => by cases h), rfl, rfl⟩
            · have hx0 : 0 ≤ x := by omega
              have hx1 : x ≤ 1073741824 := by omega
              go_wp2_with fail
              refine ⟨⟨k + 1, by omega, by omega, by first | trivial | rfl, by go_num, fun j hj => ?_⟩, by simp [intOf]; omega⟩
              by_cases e : j = k
              · subst e; rw [← HX.out]; exact ⟨hx0, hx1⟩
              · exact HR.out j (by omega)
        · obtain rfl : k = 257 := by omega
          have hn256 : ¬ n ≤ 256 := by omega
          go_wp2_with fail
          go_ret
          exact ⟨false, (fun h => by cases h), by simp; omega, rfl⟩
      · obtain rfl : k = n := by omega
        go_wp2_with fail
        go_ret
        refine ⟨decide (k ≤ 256), fun h => ⟨by rw [← HN.out]; simpa using h, fun x hx => ?_⟩, by simp; omega, rfl⟩
        obtain ⟨j, hj, rfl⟩ := List.getElem_of_mem hx
        have := HR.out j (by rw [HN.out]; exact hj)
        rwa [lf_at hj] at this

theorem mul_c (n : Nat) (hn : n ≤ 1000) (w : World) : Calls Try.prog 52 #[.int .u64 1, .int .u64 (n : Nat)] w fun e w' => e = .returned (.tuple #[.int .u64 0, .int .u64 (n : Nat)]) ∧ w' = w := by
  have h := Any.bits_Mul Try.lays212 1 n (by omega) (by omega) w
  refine Calls.mono h ?_
  rintro e w' ⟨rfl, rfl⟩
  refine ⟨?_, rfl⟩
  have e1 : 1 * n / 18446744073709551616 = 0 := by omega
  have e2 : 1 * n % 18446744073709551616 = n := by omega
  rw [e1, e2]
  rfl
section
variable {P : Program} {ops : Array Oper} {o : Oper} {a : Act} {Q : Exit → Act → World → Prop}
theorem step_copy (w : World) {E : Prop} (hg : o.guard = none) (d s : Operand) (t t' : TypeId) (ho : o.op = .call { callee := .builtin .copy, args := #[d, s], argTypes := #[t, t'] }) {dv sv r : Value} {w' : World}
    (hd : a.eval d = dv) (hs : a.eval s = sv) (hrun : (Builtin.copy_ #[t, t'] o.type #[dv, sv]).run P w = .ok r w') {K : Act → World → Prop} (h : K (a.put o.dst r) w') :
    if Region.wanted o (yielded ops a.tmps) = true then Oper.wp P o a w K Q else E := by
  rw [if_pos (by simp [Region.wanted, hg])]
  unfold Oper.wp execOp
  simp only [ho, resolve, invoke, builtin, Sem.run_bind, Sem.run_pure, Result.andThen_ok, List.map_toArray, List.map_cons, List.map_nil, hd, hs, hrun]
  exact h
theorem wpList_copyR (w : World) {rest : List Oper} (hgd : o.guard = none) (d s : Operand) (t t' : TypeId) (ho : o.op = .call { callee := .builtin .copy, args := #[d, s], argTypes := #[t, t'] }) {dv sv r : Value} {w' : World}
    (hd : a.eval d = dv) (hs : a.eval s = sv) (hrun : (Builtin.copy_ #[t, t'] o.type #[dv, sv]).run P w = .ok r w') (h : wpList P ops Q rest (a.put o.dst r) w') : wpList P ops Q (o :: rest) a w := by
  refine wpList_plain hgd fun K hK => ?_
  unfold Oper.wp execOp
  simp only [ho, resolve, invoke, builtin, Sem.run_bind, Sem.run_pure, Result.andThen_ok, List.map_toArray, List.map_cons, List.map_nil, hd, hs, hrun]
  exact hK _ _ h
end
/-- The first m are v, the others 0. -/
def repRow (v : Int) (n m : Nat) : List Value := List.replicate m (.int .i64 v) ++ List.replicate (n - m) (.int .i64 0)
theorem repRow_len {v : Int} {n m : Nat} (h : m ≤ n) : (repRow v n m).length = n := by simp [repRow]; omega
def RepAt (w : World) (g : Nat) (v : Int) (n m : Nat) : Prop := w.heap[g]? = some (.cells (repRow v n m).toArray 3 (0, 0))
theorem rep_row {v : Int} {n m k : Nat} (h : m + k ≤ n) : (repRow v n m).take m ++ List.replicate k (.int .i64 v) ++ (repRow v n m).drop (m + k) = repRow v n (m + k) := by
  unfold repRow
  rw [List.take_left' (by simp), List.drop_append, List.drop_of_length_le (by simp)]
  simp only [List.length_replicate, List.nil_append, List.drop_replicate]
  rw [List.replicate_append_replicate, show n - m - (m + k - m) = n - (m + k) by omega]
theorem info1 : (Try.prog.info? 3).map (·.size) = some 1 := by kernel_rfl
theorem rep_copy {w : World} {g : Nat} {v : Int} {n m : Nat} (h : RepAt w g v n m) (hm : m < n) : ∃ w', (Builtin.copy_ #[22, 22] 3 #[.slice (some ⟨g, m, none⟩) (n - m) (n - m), .slice (some ⟨g, 0, none⟩) m n]).run Try.prog w = .ok (.int .i64 ((min m (n - m) : Nat) : Int)) w' ∧ RepAt w' g v n (m + min m (n - m)) ∧ Kp (· = g) w w' := by
  have hk : m + min m (n - m) ≤ n := by omega
  have hr := run_copy_row (P := Try.prog) w 22 22 3 3 g m (n - m) (n - m) ⟨g, 0, none⟩ m n (repRow v n m).toArray 3 (List.replicate (min m (n - m)) (.int .i64 v)) Try.underlying22 info1 h (by simp) (fun j u hu => by
      rw [addr_add, Nat.zero_add, cell_of h]
      have hj : j < min m (n - m) := by have := (List.getElem?_eq_some_iff.1 hu).1; simpa using this
      rw [List.getElem?_replicate, if_pos hj] at hu
      unfold repRow
      rw [List.getElem?_toArray, List.getElem?_append_left (by simp; omega), List.getElem?_replicate, if_pos (by omega)]
      exact hu) (by simp [repRow_len (Nat.le_of_lt hm)]; omega) (fun u hu => by rw [(List.mem_replicate.1 hu).2]; rfl)
  have h2 := setRow_heap w g (repRow v n m).toArray ((repRow v n m).take m ++ List.replicate (min m (n - m)) (Value.int .i64 v) ++ (repRow v n m).drop (m + min m (n - m))).toArray 3 (0, 0) h
  simp only [List.length_replicate] at hr
  refine ⟨w.setRow g ((repRow v n m).take m ++ List.replicate (min m (n - m)) (Value.int .i64 v) ++ (repRow v n m).drop (m + min m (n - m))).toArray, hr, ?_, kp_setRow _ _ _⟩
  unfold RepAt
  rw [← rep_row hk]
  exact h2
end Go.Proofs.Ytcecnkmhhbncdaa.Hu
