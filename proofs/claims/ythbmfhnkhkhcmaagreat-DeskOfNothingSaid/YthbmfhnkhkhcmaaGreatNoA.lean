/- What is new and of nothing: Purse, Shelf, Plan, Desk, Shop. -/
import Derived.Test.YthbmfhnkhkhcmaaGreatRows1
import Derived.Test.YthbmfhnkhkhcmaaGreatQuiet
import Derived.Test.YthbmfhnkhkhcmaaGreatProg
import Derived.Deep.QuietTactic
import Derived.BigQuiet
import Derived.Deep.RegionLaw
namespace Go.Proofs.YthbmfhnkhkhcmaaGreat.No
open Go Go.RowKit Go.ChangeMaps Go.MapKept Go.Mg

theorem kp_new {w : World} {o : Obj} : Kp (fun _ => False) w (w.alloc o) := (Kp.refl _ _).alloc _
theorem bounded_c (n : Nat) (hn : n ≤ 1000000) (w : World) : Calls Tryz.prog 100 #[.int .i64 (n : Nat)] w fun e w' => e = .returned (.int .i64 (n : Nat)) ∧ w' = w := by
  go_enter Tryz.func100, Tryz.ntmps100
  go_wp2_with fail
  go_ret
  exact ⟨by simp, rfl⟩
def PurseAt (w : World) (p : Nat) (n m : Nat) (u : Nat → Nat) : Prop := w.heap[p]? = some (.cells #[.int .i64 (n : Nat), .int .i64 (m : Nat), .int .i64 (u 0 : Nat), .int .i64 (u 1 : Nat), .int .i64 (u 2 : Nat), .int .i64 (u 3 : Nat)] 133 (0, 0))
theorem PurseAt.kp {F : Nat → Prop} {w w' : World} {p n m : Nat} {u : Nat → Nat} (h : PurseAt w p n m u) (hk : Kp F w w') (hn : ¬ F p) : PurseAt w' p n m u := hk.at_ h hn
set_option maxHeartbeats 1000000 in
theorem purse_new (n m : Nat) (hn : n ≤ 1000000) (hm : m ≤ 1000000) (w : World) : Calls Tryz.prog 76 #[.int .i64 (n : Nat), .int .i64 (m : Nat)] w fun e w' =>
    e = .returned (.pointer (some ⟨w.heap.size, 0, none⟩)) ∧ PurseAt w' w.heap.size n m (fun _ => 0) ∧ Kp (fun _ => False) w w' := by
  have C1 := Lib.hid (bounded_c n hn w)
  have C2 := Lib.hid (bounded_c m hm w)
  go_enter Tryz.func76, Tryz.ntmps76
  go_wp2_with fail
  refine C1.out.mono ?_
  rintro e w1 ⟨rfl, rfl⟩
  go_wp2_with fail
  refine C2.out.mono ?_
  rintro e w1 ⟨rfl, rfl⟩
  go_wp2_with fail
  go_ret
  exact ⟨rfl, alloc_at _ _, kp_new⟩
set_option maxHeartbeats 1000000 in
theorem shelf_new (w : World) : Calls Tryz.prog 77 #[] w fun e w' => (∃ s, e = .returned (.pointer (some ⟨s, 0, none⟩))) ∧ Kp (fun _ => False) w w' := by
  have hmm := @run_makeMap Tryz.prog
  go_enter Tryz.func77, Tryz.ntmps77
  go_wp2_with fail
  go_ret
  exact ⟨⟨_, rfl⟩, (kp_new.trans kp_new).trans kp_new⟩
theorem alloc_at_map (w : World) : (w.alloc (.map #[] 0)).heap[w.heap.size]? = some (.map #[] 0) := alloc_at w _
/-- A Plan: its Purse, its sessions' map, its last number. -/
structure PlanAt (w : World) (pl pu sh ms ml : Nat) (last : Nat) : Prop where
  hp : w.heap[pl]? = some (.cells #[.pointer (some ⟨pu, 0, none⟩), .pointer (some ⟨sh, 0, none⟩), .map (some ms), .map (some ml), .int .i64 (last : Nat)] 96 (0, 0))
theorem PlanAt.kp {F : Nat → Prop} {w w' : World} {pl pu sh ms ml last : Nat} (h : PlanAt w pl pu sh ms ml last) (hk : Kp F w w') (hn : ¬ F pl) : PlanAt w' pl pu sh ms ml last := ⟨hk.at_ h.hp hn⟩
/-- A new Plan. -/
structure PlanE (w : World) (pl : Nat) (n : Nat) : Prop where
  ex : ∃ pu sh ms ml, PlanAt w pl pu sh ms ml 0 ∧ PurseAt w pu n n (fun _ => 0) ∧ w.heap[ms]? = some (.map #[] 0)
theorem PlanE.kp {w w' : World} {pl n : Nat} (h : PlanE w pl n) (hk : Kp (fun _ => False) w w') : PlanE w' pl n := by
  obtain ⟨pu, sh, ms, ml, h1, h2, h3⟩ := h.ex
  exact ⟨pu, sh, ms, ml, h1.kp hk (fun q => q), h2.kp hk (fun q => q), hk.at_ h3 (fun q => q)⟩
def NewPost (C : World → Nat → Prop) (w : World) (e : Ending) (w' : World) : Prop := ∃ p, e = .returned (.pointer (some ⟨p, 0, none⟩)) ∧ w.heap.size ≤ p ∧ C w' p ∧ Kp (fun _ => False) w w'
set_option maxHeartbeats 1000000 in
theorem plan_new (n : Nat) (hn : n ≤ 1000000) (w : World) : Calls Tryz.prog 48 #[.int .i64 (n : Nat), .int .i64 (n : Nat)] w (NewPost (fun w' p => PlanE w' p n) w) := by
  have C1 := Lib.hid (purse_new n n hn hn w)
  have hmm := @run_makeMap Tryz.prog
  go_enter Tryz.func48, Tryz.ntmps48
  go_wp2_with fail
  refine C1.out.mono ?_
  rintro e w1 ⟨rfl, h1, k1⟩
  have H1 := Lib.hid h1
  have K1 := Lib.hid k1
  clear h1 k1 C1
  go_wp2_with fail
  refine (shelf_new w1).mono ?_
  rintro e w2 ⟨⟨sh, rfl⟩, k2⟩
  have K2 := Lib.hid k2
  clear k2
  go_wp2_with fail
  go_ret
  refine ⟨_, rfl, ?_, ⟨w.heap.size, sh, w2.heap.size, w2.heap.size + 1, ⟨?_⟩, ((H1.out.kp K2.out (fun q => q)).kp ((kp_new.trans kp_new).trans kp_new) (fun q => q)), ?_⟩, ((K1.out.trans K2.out).trans ((kp_new.trans kp_new).trans kp_new))⟩
  · have := K1.out.size; have := K2.out.size; simp; omega
  · have := alloc_at ((w2.alloc (.map #[] 0)).alloc (.map #[] 0)) (.cells #[.pointer (some ⟨w.heap.size, 0, none⟩), .pointer (some ⟨sh, 0, none⟩), .map (some w2.heap.size), .map (some (w2.heap.size + 1)), .int .i64 0] 96)
    simpa using this
  · exact ((kp_new.trans kp_new) : Kp (fun _ => False) (w2.alloc (.map #[] 0)) _).at_ (alloc_at_map w2) (fun q => q)
/-! ### a Plan of nothing is used -/
theorem is_c (p : Nat) (c : Nat) (hc : c < 4) (w : World) : Calls Tryz.prog 94 #[.pointer (some ⟨p, 0, none⟩), .int .i64 (c : Nat), .int .i64 0] w fun e w' => e = .returned (.bool true) ∧ w' = w := by
  have hc1 : (c : Int) < 4 := by omega
  go_enter Tryz.func94, Tryz.ntmps94
  go_wp2_with fail
  go_ret
  exact ⟨by simp; try omega, rfl⟩
theorem PurseAt.cell {w : World} {p n m : Nat} {u : Nat → Nat} (h : PurseAt w p n m u) (c : Nat) (hc : c < 4) : w.cell? ⟨p, 2 + c, none⟩ = some (.int .i64 (u c : Nat)) := by
  rw [cell_of h]
  have : c = 0 ∨ c = 1 ∨ c = 2 ∨ c = 3 := by omega
  rcases this with rfl | rfl | rfl | rfl <;> rfl
theorem of_c {w : World} {p n m : Nat} {u : Nat → Nat} (h : PurseAt w p n m u) (c : Nat) (hc : c < 4) : Calls Tryz.prog 62 #[.pointer (some ⟨p, 0, none⟩), .int .i64 (c : Nat)] w fun e w' => e = .returned (.int .i64 (u c : Nat)) ∧ w' = w := by
  have C1 := Lib.hid (is_c p c hc w)
  have d0 := h.cell c hc
  clear h
  go_enter Tryz.func62, Tryz.ntmps62
  go_wp2_with fail
  refine C1.out.mono ?_
  rintro e w1 ⟨rfl, rfl⟩
  go_wp2_with fail
  go_ret
  exact ⟨rfl, rfl⟩
def sumTo (u : Nat → Nat) : Nat → Nat
  | 0 => 0
  | k + 1 => sumTo u k + u k
theorem used_c {w : World} {p n m : Nat} {u : Nat → Nat} (h : PurseAt w p n m u) (hu : ∀ c, c < 4 → u c ≤ 1000000) : Calls Tryz.prog 61 #[.pointer (some ⟨p, 0, none⟩)] w fun e w' => e = .returned (.int .i64 (sumTo u 4 : Nat)) ∧ w' = w := by
  have C1 := Lib.hid (fun c hc => of_c h c hc)
  have hb : ∀ k, k ≤ 4 → sumTo u k ≤ 1000000 * k := by
    intro k
    induction k with
    | zero => intro _; simp [sumTo]
    | succ k ih => intro hk; have := ih (by omega); have := hu k (by omega); simp only [sumTo]; omega
  have HB := Lib.hid hb
  have HU := Lib.hid hu
  clear h hb hu
  go_enter Tryz.func61, Tryz.ntmps61
  go_wp2_with fail
  go_loopw [3, 5] (fun s i wr => ∃ k : Nat, k ≤ 4 ∧ i = .int .i64 k ∧ s = .int .i64 (sumTo u k : Nat) ∧ wr = w) (fun _ i _ => 4 - (intOf i).toNat)
  case atStart => exact ⟨0, by omega, rfl, rfl, rfl⟩
  case round =>
    obtain ⟨k, hk, rfl, rfl, rfl⟩ := hrel
    have b1 := HB.out k hk
    by_cases hlt : k < 4
    · have e1 : Hid (sumTo u (k + 1) = sumTo u k + u k) := Lib.hid rfl
      have b2 := HU.out k hlt
      have C2 := Lib.hid (C1.out k hlt)
      have hlt4 : (k : Int) < 4 := by omega
      generalize sumTo u k = s at *
      generalize u k = y at *
      go_wp2_with fail
      refine C2.out.mono ?_
      rintro e w2 ⟨rfl, rfl⟩
      go_wp2_with fail
      exact ⟨⟨k + 1, by omega, by go_num, by rw [e1.out]; go_num, by first | trivial | rfl⟩, by simp [intOf]; omega⟩
    · obtain rfl : k = 4 := by omega
      go_wp2_with fail
      go_ret
      exact ⟨rfl, rfl⟩
end Go.Proofs.YthbmfhnkhkhcmaaGreat.No
