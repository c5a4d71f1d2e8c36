/- What is new and of nothing: Purse, Shelf, Plan, Desk, Shop. The Purse: what may be used, and what is. The walks of shelf's small functions: what each call does to memory. Shelf's pure side: what its steps keep. Of no program. -/
import Derived.Test.YtmioiaeiflbmhaaGreatProg
import Derived.Deep.QuietTactic
import Derived.BigQuiet
import Derived.Deep.RegionLaw
import Derived.Test.YtmioiaeiflbmhaaGreatX01
namespace Go.Proofs.YtmioiaeiflbmhaaGreat.No
open Go Go.RowKit Go.ChangeMaps Go.MapKept Go.Mg
theorem kp_new {w : World} {o : Obj} : Kp (fun _ => False) w (w.alloc o) := (Kp.refl _ _).alloc _
def PurseAt (w : World) (p : Nat) (n m : Nat) (u : Nat → Nat) : Prop := w.heap[p]? = some (.cells #[.int .i64 (n : Nat), .int .i64 (m : Nat), .int .i64 (u 0 : Nat), .int .i64 (u 1 : Nat), .int .i64 (u 2 : Nat), .int .i64 (u 3 : Nat)] 88 (0, 0))
theorem PurseAt.kp {F : Nat → Prop} {w w' : World} {p n m : Nat} {u : Nat → Nat} (h : PurseAt w p n m u) (hk : Kp F w w') (hn : ¬ F p) : PurseAt w' p n m u := hk.at_ h hn
structure PlanAt (w : World) (pl pu sh ms ml : Nat) (last : Nat) : Prop where
  hp : w.heap[pl]? = some (.cells #[.pointer (some ⟨pu, 0, none⟩), .pointer (some ⟨sh, 0, none⟩), .map (some ms), .map (some ml), .int .i64 (last : Nat)] 66 (0, 0))
theorem PlanAt.kp {F : Nat → Prop} {w w' : World} {pl pu sh ms ml last : Nat} (h : PlanAt w pl pu sh ms ml last) (hk : Kp F w w') (hn : ¬ F pl) : PlanAt w' pl pu sh ms ml last := ⟨hk.at_ h.hp hn⟩
structure PlanE (w : World) (pl : Nat) (n : Nat) : Prop where
  ex : ∃ pu sh ms ml, PlanAt w pl pu sh ms ml 0 ∧ PurseAt w pu n n (fun _ => 0) ∧ w.heap[ms]? = some (.map #[] 0)
theorem PlanE.kp {w w' : World} {pl n : Nat} (h : PlanE w pl n) (hk : Kp (fun _ => False) w w') : PlanE w' pl n := by
  obtain ⟨pu, sh, ms, ml, h1, h2, h3⟩ := h.ex
  exact ⟨pu, sh, ms, ml, h1.kp hk (fun q => q), h2.kp hk (fun q => q), hk.at_ h3 (fun q => q)⟩
def NewPost (C : World → Nat → Prop) (w : World) (e : Ending) (w' : World) : Prop := ∃ p, e = .returned (.pointer (some ⟨p, 0, none⟩)) ∧ w.heap.size ≤ p ∧ C w' p ∧ Kp (fun _ => False) w w'
/-! ### a Plan of nothing is used -/
theorem is_c (p : Nat) (c : Nat) (hc : c < 4) (w : World) : Calls Tryz.prog 75 #[.pointer (some ⟨p, 0, none⟩), .int .i64 (c : Nat), .int .i64 0] w fun e w' => e = .returned (.bool true) ∧ w' = w := by
  have hc1 : (c : Int) < 4 := by omega
  go_enter Tryz.func75, Tryz.ntmps75
  go_wp2_with fail
  go_ret
  exact ⟨by simp; try omega, rfl⟩
theorem PurseAt.cell {w : World} {p n m : Nat} {u : Nat → Nat} (h : PurseAt w p n m u) (c : Nat) (hc : c < 4) : w.cell? ⟨p, 2 + c, none⟩ = some (.int .i64 (u c : Nat)) := by
  rw [cell_of h]
  have : c = 0 ∨ c = 1 ∨ c = 2 ∨ c = 3 := by omega
  rcases this with rfl | rfl | rfl | rfl <;> rfl
theorem of_c {w : World} {p n m : Nat} {u : Nat → Nat} (h : PurseAt w p n m u) (c : Nat) (hc : c < 4) : Calls Tryz.prog 41 #[.pointer (some ⟨p, 0, none⟩), .int .i64 (c : Nat)] w fun e w' => e = .returned (.int .i64 (u c : Nat)) ∧ w' = w := by
  have C1 := Lib.hid (is_c p c hc w)
  have d0 := h.cell c hc
  clear h
  go_enter Tryz.func41, Tryz.ntmps41
  go_wp2_with fail
  refine C1.out.mono ?_
  rintro e w1 ⟨rfl, rfl⟩
  go_wp2_with fail
  go_ret
  exact ⟨rfl, rfl⟩
def sumTo (u : Nat → Nat) : Nat → Nat
  | 0 => 0
  | k + 1 => sumTo u k + u k
end Go.Proofs.YtmioiaeiflbmhaaGreat.No
namespace Go.Proofs.YtmioiaeiflbmhaaGreat.Pl
open Go Go.RowKit Go.ChangeMaps Go.MapKept Go.Mg Go.Proofs.YtmioiaeiflbmhaaGreat.No Go.Sort
structure Pu where
  all : Nat
  each : Nat
  u : Nat → Nat
def upd (u : Nat → Nat) (c v : Nat) : Nat → Nat := fun i => if i = c then v else u i
def PuAt (w : World) (p : Nat) (P : Pu) : Prop := PurseAt w p P.all P.each P.u
structure Pu.Ok (P : Pu) : Prop where
  a : P.all ≤ 1099511627776
  e : P.each ≤ 1099511627776
  u : ∀ c, c < 4 → P.u c ≤ 1099511627776
def Pu.used (P : Pu) : Nat := sumTo P.u 4
def Pu.has (P : Pu) (c k : Int) : Prop := 0 ≤ c ∧ c < 4 ∧ 0 ≤ k ∧ k ≤ (P.each : Int) - (P.u c.toNat : Nat) ∧ k ≤ (P.all : Int) - (P.used : Nat)
instance (P : Pu) (c k : Int) : Decidable (P.has c k) := by unfold Pu.has; infer_instance
def Pu.take (P : Pu) (c k : Int) : Pu := if P.has c k then { P with u := upd P.u c.toNat (P.u c.toNat + k.toNat) } else P
def Pu.give (P : Pu) (c k : Int) : Pu := if 0 ≤ c ∧ c < 4 ∧ 0 ≤ k then { P with u := upd P.u c.toNat (P.u c.toNat - k.toNat) } else P
def Pu.of (P : Pu) (c : Int) : Nat := if 0 ≤ c ∧ c < 4 then P.u c.toNat else 0
def bnd (n : Int) : Nat := min n.toNat 1099511627776
def pu0 (n m : Int) : Pu := ⟨bnd n, bnd m, fun _ => 0⟩
theorem pu0_ok (n m : Int) : (pu0 n m).Ok := ⟨Nat.min_le_right _ _, Nat.min_le_right _ _, fun _ _ => Nat.zero_le _⟩
theorem Pu.used_le {P : Pu} (h : P.Ok) : P.used ≤ 4398046511104 := by
  have h0 := h.u 0 (by omega); have h1 := h.u 1 (by omega); have h2 := h.u 2 (by omega); have h3 := h.u 3 (by omega)
  simp only [Pu.used, sumTo]; omega
theorem Pu.Ok.take {P : Pu} (h : P.Ok) (c k : Int) : (P.take c k).Ok := by
  unfold Pu.take
  split
  · rename_i hh
    obtain ⟨h0, h1, h2, h3, h4⟩ := hh
    refine ⟨h.a, h.e, fun i hi => ?_⟩
    show upd _ _ _ i ≤ _
    unfold upd
    split
    · have := h.e; omega
    · exact h.u i hi
  · exact h
theorem Pu.Ok.give {P : Pu} (h : P.Ok) (c k : Int) : (P.give c k).Ok := by
  unfold Pu.give
  split
  · rename_i hh
    refine ⟨h.a, h.e, fun i hi => ?_⟩
    show upd _ _ _ i ≤ _
    unfold upd
    split
    · have := h.u c.toNat (by omega); omega
    · exact h.u i hi
  · exact h
theorem PuAt.kp {F : Nat → Prop} {w w' : World} {p : Nat} {P : Pu} (h : PuAt w p P) (hk : Kp F w w') (hn : ¬ F p) : PuAt w' p P := PurseAt.kp h hk hn
theorem PuAt.put {w : World} {p : Nat} {P : Pu} (h : PuAt w p P) (c v : Nat) (hc : c < 4) : PuAt (w.setCell ⟨p, 2 + c, none⟩ (.int .i64 (v : Nat))) p { P with u := upd P.u c v } := by
  have := setCell_at (i := 2 + c) h (.int .i64 (v : Nat))
  unfold PuAt PurseAt
  rw [this]
  have : c = 0 ∨ c = 1 ∨ c = 2 ∨ c = 3 := by omega
  rcases this with rfl | rfl | rfl | rfl <;> rfl
theorem bounded_p (n : Int) (w : World) : Calls Tryz.prog 48 #[.int .i64 n] w fun e w' => e = .returned (.int .i64 (bnd n : Nat)) ∧ w' = w := by
  go_enter Tryz.func48, Tryz.ntmps48
  go_wp2_with fail
  all_goals
    go_ret
    refine ⟨?_, rfl⟩
    simp [bnd]
    try omega
set_option maxHeartbeats 1000000 in
theorem purse_p (n m : Int) (w : World) : Calls Tryz.prog 28 #[.int .i64 n, .int .i64 m] w fun e w' =>
    e = .returned (.pointer (some ⟨w.heap.size, 0, none⟩)) ∧ PuAt w' w.heap.size (pu0 n m) ∧ Kp (fun _ => False) w w' := by
  have C1 := Lib.hid (bounded_p n w)
  have C2 := Lib.hid (bounded_p m w)
  go_enter Tryz.func28, Tryz.ntmps28
  go_wp2_with fail
  refine C1.out.mono ?_
  rintro e w1 ⟨rfl, rfl⟩
  go_wp2_with fail
  refine C2.out.mono ?_
  rintro e w1 ⟨rfl, rfl⟩
  go_wp2_with fail
  go_ret
  exact ⟨rfl, alloc_at _ _, kp_new⟩
theorem is_yes (p : Nat) (c k : Nat) (hc : c < 4) (w : World) : Calls Tryz.prog 75 #[.pointer (some ⟨p, 0, none⟩), .int .i64 (c : Nat), .int .i64 (k : Nat)] w fun e w' => e = .returned (.bool true) ∧ w' = w := by
  have hc1 : (c : Int) < 4 := by omega
  go_enter Tryz.func75, Tryz.ntmps75
  go_wp2_with fail
  go_ret
  exact ⟨by simp; try omega, rfl⟩
theorem is_no (p : Nat) (c k : Int) (h : ¬ (0 ≤ c ∧ c < 4 ∧ 0 ≤ k)) (w : World) : Calls Tryz.prog 75 #[.pointer (some ⟨p, 0, none⟩), .int .i64 c, .int .i64 k] w fun e w' => e = .returned (.bool false) ∧ w' = w := by
  by_cases h0 : 0 ≤ c
  · by_cases h1 : c < 4
    · have h2 : ¬ 0 ≤ k := by omega
      have h2' : decide (0 ≤ k) = false := decide_eq_false h2
      clear h
      go_enter Tryz.func75, Tryz.ntmps75
      go_wp2_with fail
      go_ret
      exact ⟨by simp; try omega, rfl⟩
    · clear h
      go_enter Tryz.func75, Tryz.ntmps75
      go_wp2_with fail
      go_ret
      exact ⟨by simp; try omega, rfl⟩
  · clear h
    go_enter Tryz.func75, Tryz.ntmps75
    go_wp2_with fail
    go_ret
    exact ⟨by simp; try omega, rfl⟩
theorem of_p {w : World} {p : Nat} {P : Pu} (h : PuAt w p P) (c : Int) : Calls Tryz.prog 41 #[.pointer (some ⟨p, 0, none⟩), .int .i64 c] w fun e w' => e = .returned (.int .i64 (P.of c : Nat)) ∧ w' = w := by
  by_cases hc : 0 ≤ c ∧ c < 4
  · obtain ⟨k, rfl⟩ : ∃ k : Nat, c = k := ⟨c.toNat, by omega⟩
    have e : P.of (k : Int) = P.u k := by unfold Pu.of; rw [if_pos hc]; rfl
    rw [e]
    exact of_c h k (by omega)
  · have e : P.of c = 0 := if_neg hc
    rw [e]
    have C1 := Lib.hid (is_no p c 0 (fun q => hc ⟨q.1, q.2.1⟩) w)
    clear h hc e
    go_enter Tryz.func41, Tryz.ntmps41
    go_wp2_with fail
    refine C1.out.mono ?_
    rintro e w1 ⟨rfl, rfl⟩
    go_wp2_with fail
    go_ret
    exact ⟨rfl, rfl⟩
theorem used_p {w : World} {p : Nat} {P : Pu} (h : PuAt w p P) (ho : P.Ok) : Calls Tryz.prog 40 #[.pointer (some ⟨p, 0, none⟩)] w fun e w' => e = .returned (.int .i64 (P.used : Nat)) ∧ w' = w := by
  have C1 := Lib.hid (fun c hc => of_c h c hc)
  have hb : ∀ k, k ≤ 4 → sumTo P.u k ≤ 1099511627776 * k := by
    intro k
    induction k with
    | zero => intro _; simp [sumTo]
    | succ k ih => intro hk; have := ih (by omega); have := ho.u k (by omega); simp only [sumTo]; omega
  have HB := Lib.hid hb
  have HU := Lib.hid ho.u
  unfold Pu.used
  generalize P.u = u at *
  clear h hb ho
  go_enter Tryz.func40, Tryz.ntmps40
  go_wp2_with fail
  go_loopw [3, 5] (fun s i wr => ∃ k : Nat, k ≤ 4 ∧ i = .int .i64 k ∧ s = .int .i64 (sumTo u k : Nat) ∧ wr = w) (fun _ i _ => 4 - (intOf i).toNat)
  case atStart => exact ⟨0, by omega, rfl, rfl, rfl⟩
  case round =>
    obtain ⟨k, hk, rfl, rfl, rfl⟩ := hrel
    have b1 := HB.out k hk
    by_cases hlt : k < 4
    · have e1 : Hid (sumTo u (k + 1) = sumTo u k + u k) := Lib.hid rfl
      have b2 := HU.out k hlt
      have C2 := Lib.hid (C1.out k hlt)
      have hlt4 : (k : Int) < 4 := by omega
      generalize sumTo u k = s at *
      generalize u k = y at *
      go_wp2_with fail
      refine C2.out.mono ?_
      rintro e w2 ⟨rfl, rfl⟩
      go_wp2_with fail
      exact ⟨⟨k + 1, by omega, by go_num, by rw [e1.out]; go_num, by first | trivial | rfl⟩, by simp [intOf]; omega⟩
    · obtain rfl : k = 4 := by omega
      go_wp2_with fail
      go_ret
      exact ⟨rfl, rfl⟩
def TakePost (P : Pu) (p : Nat) (c k : Int) (w : World) (e : Ending) (w' : World) : Prop := e = .returned (.bool (decide (P.has c k))) ∧ PuAt w' p (P.take c k) ∧ Kp (· = p) w w'
set_option maxRecDepth 100000 in
set_option maxHeartbeats 2000000 in
theorem take_no {w : World} {p : Nat} {P : Pu} (h : PuAt w p P) (c k : Int) (hn : ¬ (0 ≤ c ∧ c < 4 ∧ 0 ≤ k)) : Calls Tryz.prog 50 #[.pointer (some ⟨p, 0, none⟩), .int .i64 c, .int .i64 k] w (TakePost P p c k w) := by
  have mixed : Tryz.prog.follows .mixedOrders = true := by kernel_rfl
  have hno : ¬ P.has c k := fun q => hn ⟨q.1, q.2.1, q.2.2.1⟩
  have E1 := Lib.hid (decide_eq_false hno)
  have E2 : Hid (P.take c k = P) := Lib.hid (if_neg hno)
  have C1 : Hid (∀ m os, Calls Tryz.prog 75 #[.pointer (some ⟨p, 0, none⟩), .int .i64 c, .int .i64 k] (grow (w.drewN m) os) fun e w' => e = .returned (.bool false) ∧ ∃ q os', w' = grow ((grow (w.drewN m) os).drewN q) os') := Lib.hid (fun m os => grown_same (is_no p c k hn _))
  have d0 : ∀ m os, (grow (w.drewN m) os).cell? ⟨p, 0, none⟩ = some (.int .i64 (P.all : Nat)) := fun m os => by rw [cell_of (h.kp (kp_grow w m os) (fun q => q))]; rfl
  have d1 : ∀ m os, (grow (w.drewN m) os).cell? ⟨p, 1, none⟩ = some (.int .i64 (P.each : Nat)) := fun m os => by rw [cell_of (h.kp (kp_grow w m os) (fun q => q))]; rfl
  have H := Lib.hid h
  clear h hno hn
  go_enter Tryz.func50, Tryz.ntmps50
  go_wp2_with fail
  refine WQ.region mixed (by kernel_rfl) ?_
  repeat (refine WQ.step (fun K hK => ?_); go_simp; first | (refine hK _ ?_; clear hK K) | (apply Exists.intro; refine ⟨fun _ => ?_, hK _ ?_⟩; (go_at_call 75; apply Calls.grown_of; with_reducible exact C1.out _ _); clear hK K))
  refine WQ.nil ?_
  intro _ hw'
  obtain ⟨⟨nq, osq⟩, hw''⟩ := hw'
  subst hw''
  clear d0 d1
  go_wp2_with fail
  go_ret
  exact ⟨by rw [E1.out]; simp, by rw [E2.out]; exact H.out.kp (kp_grow w nq osq) (fun q => q), (kp_grow w nq osq).mono (fun _ _ q => q.elim)⟩
set_option maxRecDepth 100000 in
set_option maxHeartbeats 2000000 in
theorem take_go {w : World} {p : Nat} {P : Pu} (h : PuAt w p P) (ho : P.Ok) (c k : Nat) (hc : c < 4) : Calls Tryz.prog 50 #[.pointer (some ⟨p, 0, none⟩), .int .i64 (c : Nat), .int .i64 (k : Nat)] w (TakePost P p c k w) := by
  have mixed : Tryz.prog.follows .mixedOrders = true := by kernel_rfl
  have hg : ∀ m os, PuAt (grow (w.drewN m) os) p P := fun m os => h.kp (kp_grow w m os) (fun q => q)
  have C1 : Hid (∀ m os, Calls Tryz.prog 75 #[.pointer (some ⟨p, 0, none⟩), .int .i64 (c : Nat), .int .i64 (k : Nat)] (grow (w.drewN m) os) fun e w' => e = .returned (.bool true) ∧ ∃ q os', w' = grow ((grow (w.drewN m) os).drewN q) os') := Lib.hid (fun m os => grown_same (is_yes p c k hc _))
  have C2 : Hid (∀ m os, Calls Tryz.prog 40 #[.pointer (some ⟨p, 0, none⟩)] (grow (w.drewN m) os) fun e w' => e = .returned (.int .i64 (P.used : Nat)) ∧ ∃ q os', w' = grow ((grow (w.drewN m) os).drewN q) os') := Lib.hid (fun m os => grown_same (used_p (hg m os) ho))
  have d0 : ∀ m os, (grow (w.drewN m) os).cell? ⟨p, 0, none⟩ = some (.int .i64 (P.all : Nat)) := fun m os => by rw [cell_of (hg m os)]; rfl
  have d1 : ∀ m os, (grow (w.drewN m) os).cell? ⟨p, 1, none⟩ = some (.int .i64 (P.each : Nat)) := fun m os => by rw [cell_of (hg m os)]; rfl
  have d2 : ∀ m os, (grow (w.drewN m) os).cell? ⟨p, 2 + c, none⟩ = some (.int .i64 (P.u c : Nat)) := fun m os => PurseAt.cell (hg m os) c hc
  have HG := Lib.hid hg
  have E0 : Hid (P.has c k ↔ (k : Int) ≤ (P.each : Int) - (P.u c : Nat) ∧ (k : Int) ≤ (P.all : Int) - (P.used : Nat)) := Lib.hid ⟨fun q => ⟨q.2.2.2.1, q.2.2.2.2⟩, fun q => ⟨by omega, by omega, by omega, q.1, q.2⟩⟩
  have E1 : Hid (P.has c k → P.take c k = { P with u := upd P.u c (P.u c + k) }) := Lib.hid (fun q => if_pos q)
  have E2 : Hid (¬ P.has c k → P.take c k = P) := Lib.hid (fun q => if_neg q)
  have ba := ho.a
  have be := ho.e
  have bu := ho.u c hc
  have bs := Pu.used_le ho
  have hw1 : IntKind.i64.wrap ((P.each : Int) - (P.u c : Nat)) = (P.each : Int) - (P.u c : Nat) := by rw [IntKind.wrap_i64]; omega
  have hw2 : IntKind.i64.wrap ((P.all : Int) - (P.used : Nat)) = (P.all : Int) - (P.used : Nat) := by rw [IntKind.wrap_i64]; omega
  have hc1 : (c : Int) < 4 := by omega
  clear h hg ho
  by_cases h1 : (k : Int) ≤ (P.each : Int) - (P.u c : Nat)
  · have h1' : decide ((P.each : Int) - (P.u c : Nat) < (k : Int)) = false := decide_eq_false (by omega)
    by_cases h2 : (k : Int) ≤ (P.all : Int) - (P.used : Nat)
    · have h2' : decide ((P.all : Int) - (P.used : Nat) < (k : Int)) = false := decide_eq_false (by omega)
      have hw3 : IntKind.i64.wrap ((P.u c : Int) + (k : Nat)) = (P.u c : Int) + (k : Nat) := by rw [IntKind.wrap_i64]; omega
      have E3 := Lib.hid (E0.out.2 ⟨h1, h2⟩)
      go_enter Tryz.func50, Tryz.ntmps50
      go_wp2_with fail
      refine WQ.region mixed (by kernel_rfl) ?_
      repeat (refine WQ.step (fun K hK => ?_); go_simp; first | (refine hK _ ?_; clear hK K) | (apply Exists.intro; refine ⟨fun _ => ?_, hK _ ?_⟩; (first | (go_at_call 75; apply Calls.grown_of; with_reducible exact C1.out _ _) | (go_at_call 40; apply Calls.grown_of; with_reducible exact C2.out _ _)); clear hK K))
      refine WQ.nil ?_
      intro _ hw'
      obtain ⟨⟨nq, osq⟩, hw''⟩ := hw'
      subst hw''
      have hP := HG.out nq osq
      have HK := Lib.hid (kp_grow w nq osq)
      generalize grow (w.drewN nq) osq = V at hP HK
      have e2 : V.cell? ⟨p, 2 + c, none⟩ = some (.int .i64 (P.u c : Nat)) := PurseAt.cell hP c hc
      have f2 : V.frozen? ⟨p, 2 + c, none⟩ = false := free_of hP (2 + c)
      have HS := Lib.hid (hP.put c (P.u c + k) hc)
      rw [show ((P.u c + k : Nat) : Int) = (P.u c : Int) + (k : Nat) from by omega] at HS
      clear hP d0 d1 d2 C1 C2 hw1 hw2 h1 h2 h1' h2'
      go_wp2_with fail
      go_region_law (fail)
      all_goals
        go_wp2_with fail
        go_ret
        exact ⟨by rw [decide_eq_true E3.out]; simp, by rw [E1.out E3.out]; exact HS.out.kp (Kp.refl (fun _ => False) _).drew (fun q => q), ((HK.out.mono (fun _ _ q => q.elim) : Kp (· = p) w V).setCell (p := ⟨p, 2 + c, none⟩) (fun _ => rfl) _).drew⟩
    · have h2' : decide ((P.all : Int) - (P.used : Nat) < (k : Int)) = true := decide_eq_true (by omega)
      have E3 : Hid (¬ P.has c k) := Lib.hid (fun q => h2 (E0.out.1 q).2)
      go_enter Tryz.func50, Tryz.ntmps50
      go_wp2_with fail
      refine WQ.region mixed (by kernel_rfl) ?_
      repeat (refine WQ.step (fun K hK => ?_); go_simp; first | (refine hK _ ?_; clear hK K) | (apply Exists.intro; refine ⟨fun _ => ?_, hK _ ?_⟩; (first | (go_at_call 75; apply Calls.grown_of; with_reducible exact C1.out _ _) | (go_at_call 40; apply Calls.grown_of; with_reducible exact C2.out _ _)); clear hK K))
      refine WQ.nil ?_
      intro _ hw'
      obtain ⟨⟨nq, osq⟩, hw''⟩ := hw'
      subst hw''
      clear d0 d1 d2
      go_wp2_with fail
      go_ret
      exact ⟨by rw [decide_eq_false E3.out]; simp, by rw [E2.out E3.out]; exact HG.out nq osq, (kp_grow w nq osq).mono (fun _ _ q => q.elim)⟩
  · have h1' : decide ((P.each : Int) - (P.u c : Nat) < (k : Int)) = true := decide_eq_true (by omega)
    have E3 : Hid (¬ P.has c k) := Lib.hid (fun q => h1 (E0.out.1 q).1)
    go_enter Tryz.func50, Tryz.ntmps50
    go_wp2_with fail
    refine WQ.region mixed (by kernel_rfl) ?_
    repeat (refine WQ.step (fun K hK => ?_); go_simp; first | (refine hK _ ?_; clear hK K) | (apply Exists.intro; refine ⟨fun _ => ?_, hK _ ?_⟩; (go_at_call 75; apply Calls.grown_of; with_reducible exact C1.out _ _); clear hK K))
    refine WQ.nil ?_
    intro _ hw'
    obtain ⟨⟨nq, osq⟩, hw''⟩ := hw'
    subst hw''
    clear d0 d1 d2
    go_wp2_with fail
    go_ret
    exact ⟨by rw [decide_eq_false E3.out]; simp, by rw [E2.out E3.out]; exact HG.out nq osq, (kp_grow w nq osq).mono (fun _ _ q => q.elim)⟩
theorem take_p {w : World} {p : Nat} {P : Pu} (h : PuAt w p P) (ho : P.Ok) (c k : Int) : Calls Tryz.prog 50 #[.pointer (some ⟨p, 0, none⟩), .int .i64 c, .int .i64 k] w (TakePost P p c k w) := by
  by_cases hn : 0 ≤ c ∧ c < 4 ∧ 0 ≤ k
  · obtain ⟨h0, h1, h2⟩ := hn
    obtain ⟨c, rfl⟩ : ∃ n : Nat, c = n := ⟨c.toNat, by omega⟩
    obtain ⟨k, rfl⟩ : ∃ n : Nat, k = n := ⟨k.toNat, by omega⟩
    exact take_go h ho c k (by omega)
  · exact take_no h c k hn
def GivePost (P : Pu) (p : Nat) (c k : Int) (w : World) (e : Ending) (w' : World) : Prop := e = .returned (.tuple #[]) ∧ PuAt w' p (P.give c k) ∧ Kp (· = p) w w'
set_option maxRecDepth 100000 in
set_option maxHeartbeats 2000000 in
theorem give_p {w : World} {p : Nat} {P : Pu} (h : PuAt w p P) (ho : P.Ok) (c k : Int) : Calls Tryz.prog 87 #[.pointer (some ⟨p, 0, none⟩), .int .i64 c, .int .i64 k] w (GivePost P p c k w) := by
  by_cases hn : 0 ≤ c ∧ c < 4 ∧ 0 ≤ k
  · have E1 := Lib.hid (show P.give c k = _ from if_pos hn)
    obtain ⟨h0, h1, h2⟩ := hn
    obtain ⟨c, rfl⟩ : ∃ n : Nat, c = n := ⟨c.toNat, by omega⟩
    obtain ⟨k, rfl⟩ : ∃ n : Nat, k = n := ⟨k.toNat, by omega⟩
    have hc : c < 4 := by omega
    simp only [Int.toNat_natCast] at E1
    have C1 := Lib.hid (is_yes p c k hc w)
    have d2 := PurseAt.cell h c hc
    have bu := ho.u c hc
    have f2 : w.frozen? ⟨p, 2 + c, none⟩ = false := free_of h (2 + c)
    have hp := h.put c (P.u c - k) hc
    by_cases hku : P.u c < k
    · have HS := Lib.hid hp
      rw [show ((P.u c - k : Nat) : Int) = 0 from by omega] at HS
      clear h ho h0 h2 hp
      go_enter Tryz.func87, Tryz.ntmps87
      go_wp2_with fail
      refine C1.out.mono ?_
      rintro e w1 ⟨rfl, rfl⟩
      go_wp2_with fail
      go_region_law (fail)
      all_goals
        go_wp2_with fail
        go_end0
        exact ⟨rfl, by rw [E1.out]; exact PuAt.kp HS.out (Kp.refl (fun _ => False) _).drew (fun q => q), ((Kp.refl (· = p) _).setCell (p := ⟨p, 2 + c, none⟩) (fun _ => rfl) _).drew⟩
    · have HS := Lib.hid hp
      rw [show ((P.u c - k : Nat) : Int) = (P.u c : Int) - (k : Int) from by omega] at HS
      have hw3 : IntKind.i64.wrap ((P.u c : Int) - (k : Int)) = (P.u c : Int) - (k : Int) := by rw [IntKind.wrap_i64]; omega
      clear h ho h0 h2 hp
      go_enter Tryz.func87, Tryz.ntmps87
      go_wp2_with fail
      refine C1.out.mono ?_
      rintro e w1 ⟨rfl, rfl⟩
      go_wp2_with fail
      go_region_law (fail)
      all_goals
        go_wp2_with fail
        go_end0
        exact ⟨rfl, by rw [E1.out]; exact PuAt.kp HS.out (Kp.refl (fun _ => False) _).drew (fun q => q), ((Kp.refl (· = p) _).setCell (p := ⟨p, 2 + c, none⟩) (fun _ => rfl) _).drew⟩
  · have E2 : Hid (P.give c k = P) := Lib.hid (if_neg hn)
    have C1 := Lib.hid (is_no p c k hn w)
    have H := Lib.hid h
    clear h hn
    go_enter Tryz.func87, Tryz.ntmps87
    go_wp2_with fail
    refine C1.out.mono ?_
    rintro e w1 ⟨rfl, rfl⟩
    go_wp2_with fail
    go_end0
    exact ⟨rfl, by rw [E2.out]; exact H.out, Kp.refl _ _⟩
end Go.Proofs.YtmioiaeiflbmhaaGreat.Pl
namespace Go.Proofs.YtmioiaeiflbmhaaGreat.Sh
open Go Go.RowKit Go.ChangeMaps Go.MapKept Go.Mg
def Byt (w : World) (v : Value) (l : List UInt8) : Prop := SlR w 1 v l.length (l.map u8c)
theorem info5 : (Tryz.prog.info? 5).map (fun i => (i.zero, i.size, i.bytes)) = some (some (.int .u8 0), 1, 1) := by kernel_rfl
theorem cap0 {w : World} {n cap : Nat} {l : List UInt8} (h : SlR w 1 (.slice none n cap) n (l.map u8c)) : cap = 0 ∧ n = 0 ∧ l = [] := by
  obtain ⟨h0, a, c, e, h1, _, h2, _⟩ := h
  simp only [Value.slice.injEq] at e
  obtain ⟨rfl, e2, rfl⟩ := e
  have := h2 rfl
  have hn : n = 0 := by omega
  subst hn
  exact ⟨this, rfl, List.eq_nil_of_length_eq_zero (by simpa using h0)⟩
theorem own_zero (w : World) : OwnR (w.alloc (.cells #[] 5)) 5 1 (.slice (some ⟨w.heap.size, 0, none⟩) 0 0) 0 [] :=
  ⟨rfl, .inr ⟨_, 0, #[], (0, 0), rfl, alloc_at w _, .inl rfl, Nat.le_refl _, by unfold maxLen; omega, rfl, rfl⟩⟩
/-! ### slices.Clone -/
def ClonePost (w : World) (n : Nat) (l : List UInt8) (e : Ending) (w' : World) : Prop :=
  ∃ a' c', e = .returned (.slice a' n c') ∧ OwnR w' 5 1 (.slice a' n c') n (l.map u8c) ∧ Kp (fun _ => False) w w' ∧ (∀ b, (Value.slice a' n c').ownBlock = some b → w.heap.size ≤ b)
set_option maxHeartbeats 400000 in
theorem clone_any (a : Option Addr) (n cap : Nat) (l : List UInt8) (w : World) (h : SlR w 1 (.slice a n cap) n (l.map u8c)) (hb : n ≤ 140737488355328) :
    Calls Tryz.prog 81 #[.slice a n cap] w (ClonePost w n l) := by
  cases a with
  | none =>
    obtain ⟨rfl, rfl, rfl⟩ := cap0 h
    have hn := @Lib.run_eql_slice_nil Tryz.prog
    go_enter Tryz.func81, Tryz.ntmps81
    go_wp2
    go_ret
    exact ⟨_, _, rfl, OwnR.nil _ _ _, Kp.refl _ _, fun b hb => by cases hb⟩
  | some ad =>
    have hn := @Lib.run_eql_slice_nil Tryz.prog
    obtain ⟨i0, hi, hz0, hz1, hz2⟩ := info_parts info5
    go_enter Tryz.func81, Tryz.ntmps81
    go_wp2_with (at_builtin; refine wpList_app _ rfl _ _ 23 rfl 5 i0 (.int .u8 0) 1 1 Tryz.underlying23 hi hz0 hz1 hz2 rfl (by decide) (by decide) (.slice (some ⟨w.heap.size, 0, none⟩) 0 0) 0 [] rfl (own_zero w) (.slice (some ad) n cap) n (l.map u8c) rfl (h.below ((Below.refl _ _).alloc (Nat.le_refl _) _)) (u8c_one l) (by simpa using hb) ?_; intro v' w' h1 h2 h3 h4 h5)
    go_ret
    simp only [Nat.zero_add, List.nil_append] at h1
    obtain ⟨a', c', rfl⟩ := h1.form
    refine ⟨a', c', rfl, h1, ((Kp.refl _ _).alloc _).trans2 h2 (fun i hi (e : some w.heap.size = some i) => by cases e; omega), fun b hb => ?_⟩
    · rcases h3 with h3 | h3
      · rw [h3] at hb; cases hb; exact Nat.le_refl _
      · rw [h3] at hb; cases hb; simp
/-! ### what a Shelf is in memory -/
structure Bk where
  data : List UInt8
  cur : Bool
  pins : Nat
structure Shs where
  last : Nat
  books : List (Int × Bk)
  names : List (ByteArray × Int)
def bev (e : Nat × Bk) : Value := .pointer (some ⟨e.1, 0, none⟩)
def BookAt (F : Nat → Prop) (w : World) (b : Nat) (k : Bk) : Prop :=
  F b ∧ k.data.length ≤ 2000 ∧ ∃ dv, w.heap[b]? = some (.cells #[dv, .bool k.cur, .int .i64 k.pins] 127 (0, 0)) ∧ OwnR w 5 1 dv k.data.length (k.data.map u8c) ∧ (∀ g, dv.ownBlock = some g → F g)
structure ShelfRaw (F : Nat → Prop) (w : World) (s bm nm last : Nat) (bl : List (Int × (Nat × Bk))) (names : List (ByteArray × Int)) : Prop where
  hs : w.heap[s]? = some (.cells #[.map (some bm), .map (some nm), .int .i64 last] 92 (0, 0))
  ne : bm ≠ nm
  books : MapAt w (.int .i64) (Value.int .i64) bev bm bl
  names : MapAt w .string Value.string (Value.int .i64) nm names
  each : ∀ p ∈ bl, BookAt F w p.2.1 p.2.2
  nod : (bl.map (·.2.1)).Nodup
  fs : F s
  fb : F bm
  fn : F nm
  fin : ∀ i, F i → i < w.heap.size
def absB (bl : List (Int × (Nat × Bk))) : List (Int × Bk) := bl.map fun p => (p.1, p.2.2)
def ShelfAt (F : Nat → Prop) (w : World) (s : Nat) (S : Shs) : Prop := ∃ bm nm bl, ShelfRaw F w s bm nm S.last bl S.names ∧ S.books = absB bl
theorem zero61 (w : World) : (zeroValue 124).run Tryz.prog w = .ok (.pointer none) w := by kernel_rfl
theorem zero3 (w : World) : (zeroValue 3).run Tryz.prog w = .ok (.int .i64 0) w := by kernel_rfl
theorem BookAt.kp {F G : Nat → Prop} {w w' : World} {b : Nat} {k : Bk} (h : BookAt F w b k) (hk : Kp G w w') (hd : ∀ i, F i → ¬ G i) : BookAt F w' b k := by
  obtain ⟨h1, h2, dv, h3, h4, h5⟩ := h
  exact ⟨h1, h2, dv, hk.at_ h3 (hd b h1), h4.kp hk (fun g hg => hd g (h5 g hg)), h5⟩
theorem ShelfRaw.kp {F G : Nat → Prop} {w w' : World} {s bm nm last : Nat} {bl : List (Int × (Nat × Bk))} {names : List (ByteArray × Int)} (h : ShelfRaw F w s bm nm last bl names) (hk : Kp G w w') (hd : ∀ i, F i → ¬ G i) : ShelfRaw F w' s bm nm last bl names :=
  ⟨hk.at_ h.hs (hd s h.fs), h.ne, h.books.kp hk (hd bm h.fb), h.names.kp hk (hd nm h.fn), fun p hp => (h.each p hp).kp hk hd, h.nod, h.fs, h.fb, h.fn, fun i hi => Nat.lt_of_lt_of_le (h.fin i hi) hk.size⟩
theorem BookAt.kpMap {F : Nat → Prop} {w w' : World} {b m : Nat} {k : Bk} (h : BookAt F w b k) (hk : Kp (· = m) w w') (hm : ∃ es c, w.heap[m]? = some (.map es c)) : BookAt F w' b k := by
  obtain ⟨h1, h2, dv, h3, h4, h5⟩ := h
  obtain ⟨es, c, hm⟩ := hm
  refine ⟨h1, h2, dv, hk.at_ h3 (fun e => by rw [e, hm] at h3; cases h3), h4.kept (fun g hg hl => hk.block g hl (fun e => ?_)), h5⟩
  rcases h4.2 with ⟨rfl, _⟩ | ⟨g', cap, cur, fr, rfl, hg', _⟩
  · cases hg
  · cases hg
    have e' : g' = m := e
    rw [e', hm] at hg'; cases hg'
theorem get_abs (bl : List (Int × (Nat × Bk))) (id : Int) : AL.get (absB bl) id = (AL.get bl id).map (·.2) := by
  induction bl with
  | nil => rfl
  | cons p l ih =>
    show AL.get ((p.1, p.2.2) :: absB l) id = _
    rw [AL.get_cons, AL.get_cons, ih]
    split <;> rfl
/-! ### (*Shelf).book, at -/
set_option maxHeartbeats 400000 in
theorem book_any {F : Nat → Prop} {s bm nm last : Nat} {bl : List (Int × (Nat × Bk))} {names : List (ByteArray × Int)} (id : Int) (w : World) (h : ShelfRaw F w s bm nm last bl names) :
    Calls Tryz.prog 76 #[.pointer (some ⟨s, 0, none⟩), .int .i64 id] w fun e w' => e = .returned (((AL.get bl id).map bev).getD (.pointer none)) ∧ w = w' := by
  have hl := h.books.look (P := Tryz.prog) key_int Tryz.underlying89 Tryz.underlying3 (zero61 w) id false
  simp only [Bool.false_eq_true, if_false] at hl
  have c0 : w.cell? ⟨s, 0, none⟩ = some (.map (some bm)) := by rw [cell_of h.hs]; rfl
  go_enter Tryz.func76, Tryz.ntmps76
  go_wp2
  go_ret
  exact ⟨rfl, rfl⟩
set_option maxHeartbeats 400000 in
theorem at_any {F : Nat → Prop} {s bm nm last : Nat} {bl : List (Int × (Nat × Bk))} {names : List (ByteArray × Int)} (name : ByteArray) (w : World) (h : ShelfRaw F w s bm nm last bl names) :
    Calls Tryz.prog 80 #[.pointer (some ⟨s, 0, none⟩), .string name] w fun e w' => e = .returned (.int .i64 ((AL.get names name).getD 0)) ∧ w = w' := by
  have hl := h.names.look (P := Tryz.prog) key_string Tryz.underlying90 Tryz.underlying9 (zero3 w) name false
  have hg : ((AL.get names name).map (Value.int .i64)).getD (.int .i64 0) = .int .i64 ((AL.get names name).getD 0) := by cases AL.get names name <;> rfl
  simp only [Bool.false_eq_true, if_false, hg] at hl
  clear hg
  have c0 : w.cell? ⟨s, 1, none⟩ = some (.map (some nm)) := by rw [cell_of h.hs]; rfl
  go_enter Tryz.func80, Tryz.ntmps80
  go_wp2
  go_ret
  exact ⟨rfl, rfl⟩
/-! ### New -/
def NewPost (w : World) (e : Ending) (w' : World) : Prop := ∃ s, e = .returned (.pointer (some ⟨s, 0, none⟩)) ∧ ShelfAt (fun i => w.heap.size ≤ i ∧ i < w.heap.size + 3) w' s ⟨0, [], []⟩ ∧ Kp (fun _ => False) w w'
set_option maxHeartbeats 400000 in
theorem new_any (w : World) : Calls Tryz.prog 29 #[] w (NewPost w) := by
  have hmm := @run_makeMap Tryz.prog
  go_enter Tryz.func29, Tryz.ntmps29
  go_wp2
  go_ret
  have k1 : Kp (fun _ => False) (w.alloc (.map #[] 0)) (((w.alloc (.map #[] 0)).alloc (.map #[] 0)).alloc (.cells #[.map (some w.heap.size), .map (some (w.heap.size + 1)), .int .i64 0] 92)) := ((Kp.refl _ _).alloc _).alloc _
  have k2 : Kp (fun _ => False) ((w.alloc (.map #[] 0)).alloc (.map #[] 0)) (((w.alloc (.map #[] 0)).alloc (.map #[] 0)).alloc (.cells #[.map (some w.heap.size), .map (some (w.heap.size + 1)), .int .i64 0] 92)) := (Kp.refl _ _).alloc _
  refine ⟨w.heap.size + 2, rfl, ⟨w.heap.size, w.heap.size + 1, [], ⟨?_, by omega, ?_, ?_, (fun p hp => by cases hp), List.nodup_nil, ?_, ?_, ?_, ?_⟩, rfl⟩, ?_⟩
  · have := alloc_at ((w.alloc (.map #[] 0)).alloc (.map #[] 0)) (.cells #[.map (some w.heap.size), .map (some (w.heap.size + 1)), .int .i64 0] 92)
    simpa using this
  · exact (MapAt.made w _ _ _).kp k1 (fun h => h)
  · have := (MapAt.made (κ := ByteArray) (ε := Int) (w.alloc (.map #[] 0)) .string Value.string (Value.int .i64)).kp k2 (fun h => h)
    simpa using this
  · exact ⟨by omega, by omega⟩
  · exact ⟨by omega, by omega⟩
  · exact ⟨by omega, by omega⟩
  · intro i hi; simp; exact hi.2
  · exact (((Kp.refl _ _).alloc _).alloc _).alloc _
/-! ### lets -/
def Shs.lets (S : Shs) (id : Int) : Shs × Int :=
  match AL.get S.books id with
  | none => (S, 0)
  | some k => if k.cur = true ∨ 0 < k.pins then (S, 0) else ({ S with books := AL.del S.books id }, id)
theorem abs_del (bl : List (Int × (Nat × Bk))) (id : Int) : absB (AL.del bl id) = AL.del (absB bl) id := by
  unfold absB AL.del
  rw [List.filter_map]
  rfl
theorem abs_put (bl : List (Int × (Nat × Bk))) (id : Int) (e : Nat × Bk) : absB (AL.put bl id e) = AL.put (absB bl) id e.2 := by
  unfold AL.put
  rw [get_abs]
  cases AL.get bl id with
  | none => simp [absB]
  | some x =>
    simp only [Option.isSome_some, if_true, Option.map_some, absB, List.map_map]
    apply List.map_congr_left
    intro p _
    simp only [Function.comp]
    split <;> rfl
def LetsPost (F : Nat → Prop) (w : World) (s : Nat) (S : Shs) (id : Int) (e : Ending) (w' : World) : Prop := e = .returned (.int .i64 (S.lets id).2) ∧ ShelfAt F w' s (S.lets id).1 ∧ Kp F w w'
theorem pins_b {n : Nat} (h : 0 < n) : decide ((0 : Int) < (n : Int)) = true := by simp; omega
set_option maxHeartbeats 1000000 in
theorem lets_any {F : Nat → Prop} {s : Nat} (S : Shs) (id : Int) (w : World) (h : ShelfAt F w s S) : Calls Tryz.prog 98 #[.pointer (some ⟨s, 0, none⟩), .int .i64 id] w (LetsPost F w s S id) := by
  obtain ⟨bm, nm, bl, h, hb⟩ := h
  have hl := h.books.look (P := Tryz.prog) key_int Tryz.underlying89 Tryz.underlying3 (zero61 w) id true
  have hga := get_abs bl id
  have c0 : w.cell? ⟨s, 0, none⟩ = some (.map (some bm)) := by rw [cell_of h.hs]; rfl
  simp only [if_true] at hl
  cases hg : AL.get bl id with
  | none =>
    simp only [hg, Option.map_none, Option.getD_none, Option.isSome_none] at hl hga
    have hS : S.lets id = (S, 0) := by unfold Shs.lets; rw [hb, hga]
    clear hg hga
    have HS := Lib.hid hS; clear hS
    have Hb := Lib.hid hb; clear hb
    go_enter Tryz.func98, Tryz.ntmps98
    go_wp2
    go_ret
    exact ⟨by rw [HS.out]; rfl, by rw [HS.out]; exact ⟨bm, nm, bl, h, Hb.out⟩, Kp.refl _ _⟩
  | some e =>
    obtain ⟨b, k⟩ := e
    simp only [hg, Option.map_some, Option.getD_some, Option.isSome_some, bev] at hl hga
    obtain ⟨hFb, hk2000, dv, hbk, hown, hdv⟩ := h.each _ (AL.get_mem hg)
    simp only at hFb hk2000 hbk hown hdv
    have c1 : w.cell? ⟨b, 1, none⟩ = some (.bool k.cur) := by rw [cell_of hbk]; rfl
    have c2 : w.cell? ⟨b, 2, none⟩ = some (.int .i64 k.pins) := by rw [cell_of hbk]; rfl
    have hS : S.lets id = if k.cur = true ∨ 0 < k.pins then (S, 0) else ({ S with books := AL.del S.books id }, id) := by unfold Shs.lets; rw [hb, hga]
    have Hg := Lib.hid hg
    clear hg hga hbk
    obtain ⟨data, cur, pins⟩ := k
    simp only at c1 c2 hS
    have Hb := Lib.hid hb; clear hb
    cases cur with
    | true =>
      have HS := Lib.hid (hS.trans (if_pos (.inl rfl))); clear hS
      go_enter Tryz.func98, Tryz.ntmps98
      go_wp2
      go_ret
      exact ⟨by rw [HS.out]; rfl, by rw [HS.out]; exact ⟨bm, nm, bl, h, Hb.out⟩, Kp.refl _ _⟩
    | false =>
      by_cases hp : 0 < pins
      · have HS := Lib.hid (hS.trans (if_pos (.inr hp))); clear hS
        have hp1 := pins_b hp
        go_enter Tryz.func98, Tryz.ntmps98
        go_wp2
        go_ret
        exact ⟨by rw [HS.out]; rfl, by rw [HS.out]; exact ⟨bm, nm, bl, h, Hb.out⟩, Kp.refl _ _⟩
      · have HS := Lib.hid (hS.trans (if_neg (fun q => by rcases q with q | q; · cases q
                                                          · exact hp q))); clear hS
        obtain rfl : pins = 0 := by omega
        clear hp
        go_enter Tryz.func98, Tryz.ntmps98
        go_wp2_with (at_delete; refine wpList_mdel _ rfl _ _ 89 3 rfl key_int bev Tryz.underlying89 Tryz.underlying3 bm bl rfl h.books id rfl ?_; intro w' h1 h2 h3)
        go_ret
        refine ⟨by rw [HS.out]; rfl, ?_, h2.mono (fun k _ e => by rw [e]; exact h.fb)⟩
        rw [HS.out]
        refine ⟨bm, nm, AL.del bl id, ⟨h2.at_ h.hs (fun e => ?_), h.ne, h1, h.names.kp h2 (fun e => h.ne e.symm), fun p hp => (h.each p (List.mem_filter.1 hp).1).kpMap h2 h.books.isMap, (List.filter_sublist.map _).nodup h.nod, h.fs, h.fb, h.fn, fun i hi => Nat.lt_of_lt_of_le (h.fin i hi) h2.size⟩, ?_⟩
        · obtain ⟨es, c, hm⟩ := h.books.isMap
          have := h.hs; rw [e, hm] at this; cases this
        · rw [abs_del, ← Hb.out]
/-! ### a book is turned -/
theorem put_blocks {bl : List (Int × (Nat × Bk))} (hn : (bl.map (·.1)).Nodup) {id : Int} {b : Nat} {k k' : Bk} (hg : AL.get bl id = some (b, k)) : (AL.put bl id (b, k')).map (·.2.1) = bl.map (·.2.1) := by
  unfold AL.put
  rw [hg]
  simp only [Option.isSome_some, if_true, List.map_map]
  apply List.map_congr_left
  intro p hp
  simp only [Function.comp]
  split
  · rename_i e
    have := AL.get_of_mem hn (show (p.1, p.2) ∈ bl from hp)
    rw [e, hg] at this
    have e2 : (b, k) = p.2 := Option.some.inj this
    rw [← e2]
  · rfl
theorem mem_put {bl : List (Int × (Nat × Bk))} {id : Int} {e : Nat × Bk} {p : Int × (Nat × Bk)} (hp : p ∈ AL.put bl id e) : p = (id, e) ∨ (p ∈ bl ∧ p.1 ≠ id) := by
  unfold AL.put at hp
  split at hp
  · obtain ⟨q, hq, rfl⟩ := List.mem_map.1 hp
    split
    · exact .inl rfl
    · rename_i hne; exact .inr ⟨hq, hne⟩
  · rename_i hne
    rcases List.mem_append.1 hp with hp | hp
    · refine .inr ⟨hp, fun e' => ?_⟩
      have : AL.get bl id = none := by cases hg : AL.get bl id <;> simp_all
      exact AL.get_none.1 this p hp e'
    · exact .inl (by simpa using hp)
theorem two_blocks {bl : List (Int × (Nat × Bk))} (hn : (bl.map (·.2.1)).Nodup) {p q : Int × (Nat × Bk)} (hp : p ∈ bl) (hq : q ∈ bl) (h : p.2.1 = q.2.1) : p = q := by
  induction bl with
  | nil => cases hp
  | cons x l ih =>
    rw [List.map_cons, List.nodup_cons] at hn
    rcases List.mem_cons.1 hp with hp' | hp' <;> rcases List.mem_cons.1 hq with hq' | hq'
    · rw [hp', hq']
    · subst hp'; exact (hn.1 (List.mem_map.2 ⟨q, hq', h.symm⟩)).elim
    · subst hq'; exact (hn.1 (List.mem_map.2 ⟨p, hp', h⟩)).elim
    · exact ih hn.2 hp' hq'
theorem BookAt.other {F : Nat → Prop} {w w' : World} {b b' : Nat} {k : Bk} {c : Array Value} {T : TypeId} {fr : Nat × Nat} (h : BookAt F w b k) (hk : Kp (· = b') w w') (hne : b ≠ b') (hb' : w.heap[b']? = some (.cells c T fr)) (hT : T ≠ 5) : BookAt F w' b k := by
  obtain ⟨h1, h2, dv, h3, h4, h5⟩ := h
  refine ⟨h1, h2, dv, hk.at_ h3 hne, h4.kept (fun g hg hl => hk.block g hl (fun e => ?_)), h5⟩
  rcases h4.2 with ⟨rfl, _⟩ | ⟨g', cap, cur, fr, rfl, hg', _⟩
  · cases hg
  · cases hg
    have e' : g' = b' := e
    rw [e', hb'] at hg'; cases hg'; exact hT rfl
theorem ShelfRaw.upd {F : Nat → Prop} {w w' : World} {s bm nm last : Nat} {bl : List (Int × (Nat × Bk))} {names : List (ByteArray × Int)} (h : ShelfRaw F w s bm nm last bl names) {id : Int} {b : Nat} {k : Bk} (hg : AL.get bl id = some (b, k))
    {dv : Value} {c0 : Bool} {p0 : Int} (hbk : w.heap[b]? = some (.cells #[dv, .bool c0, .int .i64 p0] 127 (0, 0))) (hk : Kp (· = b) w w') {cur : Bool} {pins : Nat}
    (hb' : w'.heap[b]? = some (.cells #[dv, .bool cur, .int .i64 pins] 127 (0, 0))) : ShelfRaw F w' s bm nm last (AL.put bl id (b, ⟨k.data, cur, pins⟩)) names := by
  have hmem := AL.get_mem hg
  have hnk := h.books.nodup key_int
  have hm : MapAt w (.int .i64) (Value.int .i64) bev bm (AL.put bl id (b, ⟨k.data, cur, pins⟩)) := by
    obtain ⟨es, clk, m1, m2, m3, m4⟩ := h.books
    refine ⟨es, clk, m1, m2, m3, m4.trans ?_⟩
    unfold AL.put
    rw [hg]
    simp only [Option.isSome_some, if_true, List.map_map]
    apply List.map_congr_left
    intro p hp
    simp only [Function.comp]
    split
    · rename_i e
      have := AL.get_of_mem hnk (show (p.1, p.2) ∈ bl from hp)
      rw [e, hg] at this
      have e2 : (b, k) = p.2 := Option.some.inj this
      rw [e, ← e2]; rfl
    · rfl
  refine ⟨hk.at_ h.hs (fun e => ?_), h.ne, hm.kp hk (fun e => ?_), h.names.kp hk (fun e => ?_), fun p hp => ?_, by rw [put_blocks hnk hg]; exact h.nod, h.fs, h.fb, h.fn, fun i hi => Nat.lt_of_lt_of_le (h.fin i hi) hk.size⟩
  · have := h.hs; rw [e, hbk] at this; cases this
  · obtain ⟨es, c, hm'⟩ := h.books.isMap
    rw [e, hbk] at hm'; cases hm'
  · obtain ⟨es, c, hm'⟩ := h.names.isMap
    rw [e, hbk] at hm'; cases hm'
  · rcases mem_put hp with rfl | ⟨hp, hne⟩
    · obtain ⟨h1, h2, dv', h3, h4, h5⟩ := h.each _ hmem
      simp only at h1 h2 h3 h4 h5 ⊢
      rw [hbk] at h3; cases h3
      refine ⟨h1, h2, dv, hb', h4.kept (fun g hg hl => hk.block g hl (fun e => ?_)), h5⟩
      rcases h4.2 with ⟨rfl, _⟩ | ⟨g', cap, cur, fr, rfl, hg', _⟩
      · cases hg
      · cases hg
        have e' : g' = b := e
        rw [e', hbk] at hg'; cases hg'
    · refine (h.each p hp).other hk (fun e => hne ?_) hbk (by decide)
      have := two_blocks h.nod hp hmem e
      rw [this]
/-! ### retires -/
def Shs.retires (S : Shs) (n : ByteArray) : Shs × Int :=
  match AL.get S.names n with
  | none => (S, 0)
  | some id =>
    match AL.get S.books id with
    | none => (S, 0)
    | some k => ({ S with names := AL.del S.names n, books := AL.put S.books id { k with cur := false } } : Shs).lets id
structure Shs.Ok (S : Shs) : Prop where
  nm : ∀ n id, AL.get S.names n = some id → ∃ k, AL.get S.books id = some k ∧ k.cur = true
  one : ∀ n n' id, AL.get S.names n = some id → AL.get S.names n' = some id → n = n'
  pos : ∀ id k, AL.get S.books id = some k → 1 ≤ id ∧ id ≤ S.last
theorem retires_mid {F : Nat → Prop} {w w1 : World} {s bm nm last : Nat} {bl : List (Int × (Nat × Bk))} {names names' : List (ByteArray × Int)} (h : ShelfRaw F w s bm nm last bl names) {id : Int} {b : Nat} {k : Bk} (hg : AL.get bl id = some (b, k))
    {dv : Value} {c0 : Bool} {p0 : Int} (hbk : w.heap[b]? = some (.cells #[dv, .bool c0, .int .i64 p0] 127 (0, 0))) (h1 : MapAt w1 .string Value.string (Value.int .i64) nm names') (h2 : Kp (· = nm) w w1) :
    ShelfRaw F w1 s bm nm last bl names' ∧ w1.cell? ⟨s, 0, none⟩ = some (.map (some bm)) ∧ (Instr.lookup 89 (.map (some bm)) (.int .i64 id) false).run Tryz.prog w1 = .ok (.pointer (some ⟨b, 0, none⟩)) w1 ∧
      w1.cell? ⟨b, 1, none⟩ = some (.bool c0) ∧ w1.frozen? ⟨b, 1, none⟩ = false := by
  have hs1 : w1.heap[s]? = _ := h2.at_ h.hs (fun e => by obtain ⟨es, c, hm⟩ := h.names.isMap; have := h.hs; rw [e, hm] at this; cases this)
  have hb1 := h2.at_ hbk (fun e => by obtain ⟨es, c, hm⟩ := h.names.isMap; rw [e, hm] at hbk; cases hbk)
  have hm1 := h.books.kp h2 h.ne
  refine ⟨⟨hs1, h.ne, hm1, h1, fun p hp => (h.each p hp).kpMap h2 h.names.isMap, h.nod, h.fs, h.fb, h.fn, fun i hi => Nat.lt_of_lt_of_le (h.fin i hi) h2.size⟩, by rw [cell_of hs1]; rfl, ?_, by rw [cell_of hb1]; rfl, free_of hb1 1⟩
  have := hm1.look (P := Tryz.prog) key_int Tryz.underlying89 Tryz.underlying3 (zero61 w1) id false
  rw [this, hg]; rfl
def RetiresPost (F : Nat → Prop) (w : World) (s : Nat) (S : Shs) (n : ByteArray) (e : Ending) (w' : World) : Prop := e = .returned (.int .i64 (S.retires n).2) ∧ ShelfAt F w' s (S.retires n).1 ∧ Kp F w w'
set_option maxHeartbeats 1000000 in
theorem retires_any {F : Nat → Prop} {s : Nat} (S : Shs) (hok : S.Ok) (n : ByteArray) (w : World) (h : ShelfAt F w s S) : Calls Tryz.prog 90 #[.pointer (some ⟨s, 0, none⟩), .string n] w (RetiresPost F w s S n) := by
  have hSA := h
  obtain ⟨bm, nm, bl, h, hb⟩ := h
  have hl := h.names.look (P := Tryz.prog) key_string Tryz.underlying90 Tryz.underlying9 (zero3 w) n true
  have c1 : w.cell? ⟨s, 1, none⟩ = some (.map (some nm)) := by rw [cell_of h.hs]; rfl
  simp only [if_true] at hl
  cases hg : AL.get S.names n with
  | none =>
    simp only [hg, Option.map_none, Option.getD_none, Option.isSome_none] at hl
    have HS := Lib.hid (show S.retires n = (S, 0) by unfold Shs.retires; rw [hg])
    clear hg hb
    go_enter Tryz.func90, Tryz.ntmps90
    go_wp2
    go_ret
    exact ⟨by rw [HS.out]; rfl, by rw [HS.out]; exact hSA, Kp.refl _ _⟩
  | some id =>
    simp only [hg, Option.map_some, Option.getD_some, Option.isSome_some] at hl
    obtain ⟨k, hgk, hkc⟩ := hok.nm n id hg
    have hgb : ∃ b, AL.get bl id = some (b, k) := by
      rw [hb, get_abs] at hgk
      cases hq : AL.get bl id with
      | none => rw [hq] at hgk; cases hgk
      | some e => rw [hq] at hgk; cases hgk; exact ⟨e.1, rfl⟩
    obtain ⟨b, hgb⟩ := hgb
    have HS := Lib.hid (show S.retires n = ({ S with names := AL.del S.names n, books := AL.put S.books id { k with cur := false } } : Shs).lets id by unfold Shs.retires; rw [hg]; simp only [hgk])
    have HG := Lib.hid hg
    have HGB := Lib.hid hgb
    have HB := Lib.hid hb
    obtain ⟨hFb, hk2000, dv, hbk, hown, hdv⟩ := h.each _ (AL.get_mem hgb)
    simp only at hFb hk2000 hbk hown hdv
    have HBK := Lib.hid hbk
    clear hg hgb hb hgk hbk
    go_enter Tryz.func90, Tryz.ntmps90
    go_wp2_with (at_delete; refine wpList_mdel _ rfl _ _ 90 9 rfl key_string (Value.int .i64) Tryz.underlying90 Tryz.underlying9 nm S.names rfl h.names n rfl ?_; intro w1 h1 h2 h3; obtain ⟨hr1, cs0, hlk, cb1, fb1⟩ := retires_mid h HGB.out HBK.out h1 h2; go_frame)
    have hbk1 : w1.heap[b]? = some (.cells #[dv, .bool k.cur, .int .i64 k.pins] 127 (0, 0)) := h2.at_ HBK.out (fun e => by obtain ⟨es, c, hm⟩ := h.names.isMap; have := HBK.out; rw [e, hm] at this; cases this)
    have hk2 : Kp (· = b) w1 (w1.setCell ⟨b, 1, none⟩ (.bool false)) := (Kp.refl (· = b) w1).setCell (p := ⟨b, 1, none⟩) (fun _ => rfl) _
    have hr2 := hr1.upd HGB.out hbk1 hk2 (cur := false) (pins := k.pins) (by rw [setCell_at hbk1]; rfl)
    refine (lets_any ⟨S.last, AL.put S.books id ⟨k.data, false, k.pins⟩, AL.del S.names n⟩ id _ ⟨bm, nm, _, hr2, by rw [abs_put, HB.out]⟩).mono ?_
    rintro e w3 ⟨rfl, h4, h5⟩
    clear hl c1 cs0 hlk cb1 fb1 hbk1 hr2
    go_wp2
    go_ret
    refine ⟨by rw [HS.out]; rfl, by rw [HS.out]; exact h4, ?_⟩
    exact ((h2.mono (fun k _ e => by rw [e]; exact h.fn)).trans (hk2.mono (fun k _ e => by rw [e]; exact hFb))).trans h5
end Go.Proofs.YtmioiaeiflbmhaaGreat.Sh
namespace Go.Proofs.YtmioiaeiflbmhaaGreat.Sh
open Go Go.Mg
theorem lets_ok {S : Shs} {id : Int} (h : S.Ok) (hn : ∀ n id', AL.get S.names n = some id' → id' ≠ id ∨ True) : (S.lets id).1.Ok := by
  unfold Shs.lets
  split
  · exact h
  · rename_i k hk
    split
    · exact h
    · rename_i hc
      refine ⟨fun n id' hg => ?_, h.one, fun id' k' hg => ?_⟩
      · obtain ⟨k', hk', hcur⟩ := h.nm n id' hg
        refine ⟨k', ?_, hcur⟩
        show AL.get (AL.del S.books id) id' = _
        rw [AL.get_del, if_neg, hk']
        intro e
        subst e
        rw [hk] at hk'
        cases hk'
        exact hc (.inl hcur)
      · have : AL.get (AL.del S.books id) id' = some k' := hg
        rw [AL.get_del] at this
        split at this
        · cases this
        · exact h.pos id' k' this
theorem retires_ok {S : Shs} (h : S.Ok) (n : ByteArray) : (S.retires n).1.Ok := by
  unfold Shs.retires
  split
  · exact h
  · rename_i id hg
    split
    · exact h
    · rename_i k hk
      refine lets_ok ⟨fun n' id' hg' => ?_, fun n1 n2 id' h1 h2 => ?_, fun id' k' hk' => ?_⟩ (fun _ _ _ => .inr trivial)
      · have hg1 : AL.get (AL.del S.names n) n' = some id' := hg'
        rw [AL.get_del] at hg1
        split at hg1
        · cases hg1
        · rename_i hne
          obtain ⟨k', hk', hcur⟩ := h.nm n' id' hg1
          refine ⟨k', ?_, hcur⟩
          show AL.get (AL.put S.books id _) id' = _
          rw [AL.get_put, if_neg, hk']
          intro e
          subst e
          exact hne (h.one n' n id' hg1 hg)
      · have e1 : AL.get (AL.del S.names n) n1 = some id' := h1
        have e2 : AL.get (AL.del S.names n) n2 = some id' := h2
        rw [AL.get_del] at e1 e2
        split at e1
        · cases e1
        · split at e2
          · cases e2
          · exact h.one _ _ _ e1 e2
      · have e1 : AL.get (AL.put S.books id _) id' = some k' := hk'
        rw [AL.get_put] at e1
        split at e1
        · rename_i e; subst e; exact h.pos _ _ hk
        · exact h.pos _ _ e1
theorem retires_last (S : Shs) (n : ByteArray) : (S.retires n).1.last = S.last := by
  unfold Shs.retires
  split
  · rfl
  · split
    · rfl
    · unfold Shs.lets
      split
      · rfl
      · split <;> rfl
theorem retires_none {S : Shs} (h : S.Ok) (n : ByteArray) : AL.get (S.retires n).1.names n = none := by
  unfold Shs.retires
  split
  · rename_i hg; exact hg
  · rename_i id hg
    obtain ⟨k, hk, _⟩ := h.nm n id hg
    rw [hk]
    have : ∀ T : Shs, (T.lets id).1.names = T.names := fun T => by unfold Shs.lets; split; rfl; split <;> rfl
    show AL.get (Shs.lets _ id).1.names n = none
    rw [this]
    show AL.get (AL.del S.names n) n = none
    rw [AL.get_del, if_pos rfl]
def mdic : ByteArray := ⟨#[77, 68, 73, 67]⟩
def pfx (s p : ByteArray) : Bool := decide (p.size ≤ s.size) && (s.extract 0 p.size).toList == p.toList
def isS (name : ByteArray) (l : List UInt8) : Int :=
  if name.size = 0 ∨ 12 < name.size then 1 else if pfx ⟨l.toArray⟩ mdic = false ∨ l.length < 5 ∨ 2004 < l.length then 4 else 0
def Shs.load (S : Shs) (n : ByteArray) (l : List UInt8) : Shs × Int × Int × Int :=
  if isS n l = 0 then
    ({ last := (S.retires n).1.last + 1, books := AL.put (S.retires n).1.books ((S.retires n).1.last + 1) ⟨l.drop 4, true, 0⟩, names := AL.put (S.retires n).1.names n ((S.retires n).1.last + 1) }, ((S.retires n).1.last + 1 : Int), (S.retires n).2, 0)
  else (S, 0, 0, isS n l)
theorem len_of_is {n : ByteArray} {l : List UInt8} (h : isS n l = 0) : 5 ≤ l.length ∧ l.length ≤ 2004 := by
  unfold isS at h
  split at h
  · cases h
  · split at h
    · cases h
    · omega
theorem load_ok {S : Shs} (h : S.Ok) (n : ByteArray) (l : List UInt8) : (S.load n l).1.Ok := by
  unfold Shs.load
  split
  · have h1 := retires_ok h n
    have h0 := retires_none h n
    refine ⟨fun n' id' hg => ?_, fun n1 n2 id' e1 e2 => ?_, fun id' k' hk => ?_⟩
    · have hg1 : AL.get (AL.put (S.retires n).1.names n ((S.retires n).1.last + 1)) n' = some id' := hg
      show ∃ k, AL.get (AL.put (S.retires n).1.books _ _) id' = some k ∧ _
      rw [AL.get_put] at hg1
      rw [AL.get_put]
      split at hg1
      · cases hg1; exact ⟨_, if_pos rfl, rfl⟩
      · obtain ⟨k, hk, hc⟩ := h1.nm n' id' hg1
        exact ⟨k, by rw [if_neg]; exact hk; have := h1.pos _ _ hk; omega, hc⟩
    · have e1' : AL.get (AL.put (S.retires n).1.names n ((S.retires n).1.last + 1)) n1 = some id' := e1
      have e2' : AL.get (AL.put (S.retires n).1.names n ((S.retires n).1.last + 1)) n2 = some id' := e2
      rw [AL.get_put] at e1' e2'
      split at e1' <;> split at e2'
      · rename_i a b; rw [a, b]
      · cases e1'
        obtain ⟨k, hk, _⟩ := h1.nm _ _ e2'
        have := h1.pos _ _ hk; omega
      · cases e2'
        obtain ⟨k, hk, _⟩ := h1.nm _ _ e1'
        have := h1.pos _ _ hk; omega
      · exact h1.one _ _ _ e1' e2'
    · have e1 : AL.get (AL.put (S.retires n).1.books ((S.retires n).1.last + 1) ⟨l.drop 4, true, 0⟩) id' = some k' := hk
      show 1 ≤ id' ∧ id' ≤ (((S.retires n).1.last + 1 : Nat) : Int)
      rw [AL.get_put] at e1
      split at e1
      · rename_i e; subst e; omega
      · have := h1.pos _ _ e1; omega
  · exact h
end Go.Proofs.YtmioiaeiflbmhaaGreat.Sh
