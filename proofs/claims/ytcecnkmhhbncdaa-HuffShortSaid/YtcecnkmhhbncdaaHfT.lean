/- slices.Repeat; huff: Codes. -/
import Derived.Test.YtcecnkmhhbncdaaHfQ
namespace Go.Proofs.Ytcecnkmhhbncdaa.Hu
open Go Go.RowKit Go.ChangeMaps Go.MapKept Go.Mg Go.Hf Go.Sort Go.Proofs.Ytcecnkmhhbncdaa.It

theorem slice_lo {w : World} {g n m : Nat} (h : m < n) : (Instr.slice 22 (.slice (some ⟨g, 0, none⟩) n n) (some (.int .i64 (m : Nat))) none none).run Try.prog w = .ok (.slice (some ⟨g, m, none⟩) (n - m) (n - m)) w := by
  have he : Try.prog.elem 22 = 3 := by have := elem_of (P := Try.prog) Try.underlying22; rw [Try.underlying22] at this; simp at this; exact this.symm
  rw [run_slice_l (P := Try.prog) w 22 _ n n (elem_of Try.underlying22) .i64 (m : Int) (by omega) (by omega), he, sizeOf_run info1]
  have : ¬ n = m := by omega
  simp [Result.andThen, sliced, this, addr_add]
theorem slice_hi {w : World} {g n m : Nat} (h : m ≤ n) : (Instr.slice 22 (.slice (some ⟨g, 0, none⟩) n n) none (some (.int .i64 (m : Nat))) none).run Try.prog w = .ok (.slice (some ⟨g, 0, none⟩) m n) w := by
  have he : Try.prog.elem 22 = 3 := by have := elem_of (P := Try.prog) Try.underlying22; rw [Try.underlying22] at this; simp at this; exact this.symm
  rw [run_slice_h (P := Try.prog) w 22 _ n n (elem_of Try.underlying22) .i64 (m : Int) (by omega) (by omega), he, sizeOf_run info1]
  simp [Result.andThen, sliced, Addr.add]
theorem rep_first {w : World} {g gx : Nat} {v : Int} {n : Nat} (h : RepAt w g v n 0) (hn : 0 < n) (hx : w.cell? ⟨gx, 0, none⟩ = some (.int .i64 v)) : ∃ w', (Builtin.copy_ #[22, 22] 3 #[.slice (some ⟨g, 0, none⟩) n n, .slice (some ⟨gx, 0, none⟩) 1 1]).run Try.prog w = .ok (.int .i64 1) w' ∧ RepAt w' g v n 1 ∧ Kp (· = g) w w' := by
  have hr := run_copy_row (P := Try.prog) w 22 22 3 3 g 0 n n ⟨gx, 0, none⟩ 1 1 (repRow v n 0).toArray 3 [.int .i64 v] Try.underlying22 info1 h (by show 1 = min 1 n; omega) (fun j u hu => by
      cases j with
      | zero => rw [addr_add]; simp at hu; rw [← hu]; exact hx
      | succ j => simp at hu) (by simp [repRow_len (Nat.zero_le n)]; omega) (fun u hu => by rw [List.mem_singleton.1 hu]; rfl)
  have h2 := setRow_heap w g (repRow v n 0).toArray ((repRow v n 0).take 0 ++ List.replicate 1 (Value.int .i64 v) ++ (repRow v n 0).drop (0 + 1)).toArray 3 (0, 0) h
  refine ⟨w.setRow g ((repRow v n 0).take 0 ++ List.replicate 1 (Value.int .i64 v) ++ (repRow v n 0).drop (0 + 1)).toArray, hr, ?_, kp_setRow _ _ _⟩
  unfold RepAt
  have := rep_row (v := v) (n := n) (m := 0) (k := 1) (by omega)
  rw [Nat.zero_add] at this
  rw [← this]
  exact h2
def RepPost (w : World) (v : Int) (n : Nat) (e : Ending) (w' : World) : Prop := ∃ g, e = .returned (.slice (some ⟨g, 0, none⟩) n n) ∧ w.heap.size ≤ g ∧ RepAt w' g v n n ∧ Kp (fun _ => False) w w'
set_option maxRecDepth 100000 in
set_option maxHeartbeats 2000000 in
theorem repeat_c (w : World) (gx : Nat) (v : Int) (n : Nat) (hgx : gx < w.heap.size) (hx : w.cell? ⟨gx, 0, none⟩ = some (.int .i64 v)) (hn : 0 < n) (hn2 : n ≤ 1000) :
    Calls Try.prog 33 #[.slice (some ⟨gx, 0, none⟩) 1 1, .int .i64 (n : Nat)] w (RepPost w v n) := by
  obtain ⟨cur, hcur, hmk⟩ := make_ints w n (by omega)
  have hR : RepAt (w.alloc (.cells cur 3)) w.heap.size v n 0 := by
    unfold RepAt
    rw [alloc_at]
    congr 2
    have : (repRow v n 0) = cur.toList := by rw [hcur]; simp [repRow, nv]
    rw [this]
  have k0 : Kp (fun _ => False) w (w.alloc (.cells cur 3)) := (Kp.refl _ _).alloc _
  obtain ⟨w2, hrun, hR2, hk2⟩ := rep_first hR hn ((k0.cell (p := ⟨gx, 0, none⟩) hgx (fun q => q)).trans hx)
  have HRUN := Lib.hid hrun
  have HR2 := Lib.hid hR2
  have HK2 := Lib.hid (k0.up hk2 (fun i e => by rw [e]; exact Nat.le_refl _))
  have HX := Lib.hid hx
  have hn0 : ¬ (n : Int) < 0 := by omega
  clear hR hrun hR2 hk2 k0 hcur hx
  go_enter Try.func33, Try.ntmps33
  go_wp2_with fail
  refine (mul_c n hn2 w).mono ?_
  rintro e w1 ⟨rfl, rfl⟩
  have hrun := HRUN.out
  go_wp2_with fail
  go_loopw [8] (fun i wr => ∃ m : Nat, 1 ≤ m ∧ m ≤ n ∧ i = .int .i64 m ∧ RepAt wr w1.heap.size v n m ∧ Kp (fun _ => False) w1 wr) (fun i _ => n - (intOf i).toNat)
  case atStart => exact ⟨1, Nat.le_refl _, hn, rfl, HR2.out, HK2.out⟩
  case round =>
    clear hrun
    obtain ⟨m, hm1, hm, rfl, hr, hk⟩ := hrel
    have HR := Lib.hid hr
    have HK := Lib.hid hk
    clear hr hk
    by_cases hlt : m < n
    · have hs1 : ∀ w', (Instr.slice 22 (.slice (some ⟨w1.heap.size, 0, none⟩) n n) (some (.int .i64 (m : Nat))) none none).run Try.prog w' = .ok (.slice (some ⟨w1.heap.size, m, none⟩) (n - m) (n - m)) w' := fun w' => slice_lo hlt
      have hs2 : ∀ w', (Instr.slice 22 (.slice (some ⟨w1.heap.size, 0, none⟩) n n) none (some (.int .i64 (m : Nat))) none).run Try.prog w' = .ok (.slice (some ⟨w1.heap.size, 0, none⟩) m n) w' := fun w' => slice_hi (by omega)
      obtain ⟨w3, hrun, hr3, hk3⟩ := rep_copy (w := wr.drew) HR.out hlt
      obtain ⟨q, hq⟩ : ∃ q, q = min m (n - m) := ⟨_, rfl⟩
      rw [← hq] at hrun hr3
      have hq1 : 1 ≤ q := by omega
      have hq2 : m + q ≤ n := by omega
      have hwr : IntKind.i64.wrap ((m : Int) + (q : Int)) = (m : Int) + (q : Int) := by rw [IntKind.wrap_i64]; omega
      have HRUN3 := Lib.hid hrun
      have HR3 := Lib.hid hr3
      have HK3 := Lib.hid ((HK.out.drew).up hk3 (fun i e => by rw [e]; exact Nat.le_refl _))
      clear hr3 hk3 hq
      go_wp2_with fail
      go_region_held3 (fun _ => True) (trivial) (fail)
      all_goals (go_wp2_with fail; exact ⟨⟨m + q, by omega, hq2, by go_num, HR3.out, HK3.out⟩, by simp [intOf]; omega⟩)
    · obtain rfl : m = n := by omega
      go_wp2_with fail
      go_ret
      exact ⟨w1.heap.size, rfl, Nat.le_refl _, HR.out, HK.out⟩
end Go.Proofs.Ytcecnkmhhbncdaa.Hu
