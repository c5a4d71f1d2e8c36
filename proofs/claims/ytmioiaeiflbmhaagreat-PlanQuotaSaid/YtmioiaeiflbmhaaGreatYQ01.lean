/- The walk of PlanQuota. -/
import Derived.Test.YtmioiaeiflbmhaaGreatX33
import Derived.Test.YtmioiaeiflbmhaaGreatX09
set_option linter.unusedVariables false
namespace Go.Proofs.YtmioiaeiflbmhaaGreat.planQuota
open Go Go.RowKit Go.ChangeMaps Go.MapKept Go.Mg Go.Proofs.YtmioiaeiflbmhaaGreat.Pl Go.Proofs.YtmioiaeiflbmhaaGreat.Op
structure Q (all each : Int) (m : Nat) (X : Pls) : Prop where
  a : X.P.all = bnd all
  e : X.P.each = bnd each
  u : X.P.u = fun i => if i = 2 then 2500 * m else 0
  S : X.S = ⟨0, [], []⟩
  n : X.L.length = m
  last : X.last = m
  le : ∀ q ∈ X.L, q.1 ≤ (m : Int)
theorem q0 (all each : Int) : Q all each 0 (pl0 all each) := ⟨rfl, rfl, by funext i; simp [pl0, pu0], rfl, rfl, rfl, fun q hq => by cases hq⟩
theorem q_used {all each : Int} {m : Nat} {X : Pls} (h : Q all each m X) : X.P.used = 2500 * m := by
  unfold Pu.used
  rw [h.u]
  simp [No.sumTo]
theorem q_has {all each : Int} {m : Nat} {X : Pls} (h : Q all each m X) (h1 : 0 ≤ all ∧ all ≤ 30000) (h2 : 0 ≤ each ∧ each ≤ 30000) : X.P.has 2 2500 ↔ ((m : Int) + 1) * 2500 ≤ all ∧ ((m : Int) + 1) * 2500 ≤ each := by
  unfold Pu.has
  rw [q_used h, h.a, h.e, h.u]
  unfold bnd
  simp only [show (2 : Int).toNat = 2 from rfl, if_true]
  constructor
  · rintro ⟨_, _, _, h4, h5⟩; omega
  · rintro ⟨h4, h5⟩; omega
theorem q_go {all each : Int} {m : Nat} {X : Pls} (h : Q all each m X) (hh : X.P.has 2 2500) : ∃ X', X.act 2 ⟨1, .empty, 1, 0, []⟩ = (X', ⟨0, (m : Int) + 1, []⟩) ∧ Q all each (m + 1) X' := by
  refine ⟨{ X with P := X.P.take 2 2500, L := AL.put X.L (((X.last + 1 : Nat)) : Int) ⟨2, 0, Str.S0 0 1 []⟩, last := X.last + 1 }, ?_, ?_⟩
  · unfold Pls.act
    rw [if_neg (by omega), if_pos rfl]
    unfold Pls.opn
    rw [if_neg (by simp only; rintro (q | q | q); omega; omega; exact absurd q (by decide))]
    simp only
    rw [if_pos (show ByteArray.empty.size = 0 from rfl)]
    unfold Pls.opens
    rw [if_pos hh, h.last]
    rfl
  · have hno : AL.get X.L (((X.last + 1 : Nat)) : Int) = none := AL.get_none.2 (fun q hq => by have := h.le q hq; have := h.last; omega)
    have hp : AL.put X.L (((X.last + 1 : Nat)) : Int) ⟨2, 0, Str.S0 0 1 []⟩ = X.L ++ [((((X.last + 1 : Nat)) : Int), ⟨2, 0, Str.S0 0 1 []⟩)] := AL.put_of_none _ hno
    have ht : X.P.take 2 2500 = { X.P with u := upd X.P.u 2 (X.P.u 2 + 2500) } := if_pos hh
    refine ⟨?_, ?_, ?_, h.S, ?_, ?_, ?_⟩
    · show (X.P.take 2 2500).all = _
      rw [ht]; exact h.a
    · show (X.P.take 2 2500).each = _
      rw [ht]; exact h.e
    · show (X.P.take 2 2500).u = _
      rw [ht, h.u]
      funext i
      simp only [upd]
      split <;> simp <;> omega
    · show (AL.put X.L _ _).length = _
      rw [hp, List.length_append, h.n]; rfl
    · show X.last + 1 = _
      rw [h.last]
    · intro q hq
      have hq : q ∈ AL.put X.L (((X.last + 1 : Nat)) : Int) ⟨2, 0, Str.S0 0 1 []⟩ := hq
      rw [hp] at hq
      rcases List.mem_append.1 hq with hq | hq
      · have := h.le q hq; omega
      · rw [List.mem_singleton] at hq; subst hq
        have := h.last; simp only; omega
theorem q_no {all each : Int} {m : Nat} {X : Pls} (h : Q all each m X) (hh : ¬ X.P.has 2 2500) : X.act 2 ⟨1, .empty, 1, 0, []⟩ = (X, ⟨6, 0, []⟩) := by
  unfold Pls.act
  rw [if_neg (by omega), if_pos rfl]
  unfold Pls.opn
  rw [if_neg (by simp only; rintro (q | q | q); omega; omega; exact absurd q (by decide))]
  simp only
  rw [if_pos (show ByteArray.empty.size = 0 from rfl)]
  unfold Pls.opens
  rw [if_neg hh]
  have : X.unpins 0 = X := by
    unfold Pls.unpins
    rw [h.S]
    have : (Sh.Shs.unpin ⟨0, [], []⟩ 0) = (⟨0, [], []⟩, false) := rfl
    rw [this]
    simp only [Bool.false_eq_true, if_false]
    rw [← h.S]
  rw [this]
set_option maxRecDepth 100000 in
set_option maxHeartbeats 2000000 in
theorem full (w : World) (a0 a1 a2 : Int) (h0 : 0 ≤ a0 ∧ a0 ≤ 30000) (h1 : 0 ≤ a1 ∧ a1 ≤ 30000) (h2 : 0 ≤ a2 ∧ a2 ≤ 15) :
    Calls Tryz.prog 8 #[.int .i64 a0, .int .i64 a1, .int .i64 a2] w (LawPost w) := by
  have C1 := Lib.hid (new_l (w0 := w) (Kp.refl _ w) a0 a1)
  have p0 : ¬ a0 < 0 := by omega
  have p1 : ¬ 30000 < a0 := by omega
  have p2 : ¬ a1 < 0 := by omega
  have p3 : ¬ 30000 < a1 := by omega
  have p4 : ¬ a2 < 0 := by omega
  have p5 : ¬ 15 < a2 := by omega
  have HS := Lib.hid (And.intro h0 h1)
  obtain ⟨n, rfl⟩ : ∃ n : Nat, a2 = n := ⟨a2.toNat, by omega⟩
  have hn : n ≤ 15 := by omega
  clear h0 h1 h2
  go_enter Tryz.func8, Tryz.ntmps8
  go_wp2_with fail
  refine C1.out.mono ?_
  rintro e W0 ⟨p, rfl, z0⟩
  have Z0 := Lib.hid z0
  clear z0 C1
  go_wp2_with fail
  go_loopw [8, 9] (fun o i wr => ∃ (m j : Nat) (X : Pls), o = .int .i64 (m : Nat) ∧ i = .int .i64 (j : Nat) ∧ j ≤ n ∧ m ≤ j ∧ Q a0 a1 m X ∧ X.Wf (2 * j) ∧ PlL F0 w wr p X) (fun _ i _ => n - (intOf i).toNat)
  case atStart => exact ⟨0, 0, pl0 a0 a1, rfl, rfl, Nat.zero_le _, Nat.le_refl _, q0 a0 a1, pl0_wf a0 a1, Z0.out⟩
  case round =>
    obtain ⟨m, j, X, rfl, rfl, hj, hm, hq, hw, hz⟩ := hrel
    by_cases hlt : j < n
    · have hlt' : (j : Int) < (n : Int) := by omega
      have hw1 : IntKind.i64.wrap ((m : Int) + 1) = (m : Int) + 1 := by rw [IntKind.wrap_i64]; omega
      have hw2 : IntKind.i64.wrap (((m : Int) + 1) * 2500) = ((m : Int) + 1) * 2500 := by rw [IntKind.wrap_i64]; omega
      have hw3 : IntKind.i64.wrap ((j : Int) + 1) = (j : Int) + 1 := by rw [IntKind.wrap_i64]; omega
      have HH := Lib.hid (q_has hq HS.out.1 HS.out.2)
      by_cases hh : X.P.has 2 2500
      · obtain ⟨X', e1, q1⟩ := q_go hq hh
        have E1 := Lib.hid (do_e hz hw (by omega) 2 1 .empty 1 0 (by decide) e1)
        have wf1 := act_wf' hw (by omega) e1
        have QQ := Lib.hid (And.intro q1 wf1)
        obtain ⟨r1, r2⟩ := HH.out.1 hh
        have d1 : decide (((m : Int) + 1) * 2500 ≤ a0) = true := decide_eq_true r1
        have d2 : decide (((m : Int) + 1) * 2500 ≤ a1) = true := decide_eq_true r2
        clear hq hz hw q1 wf1 e1 hh
        go_wp2_with fail
        refine E1.out.mono ?_
        rintro e W1 ⟨ra, rc, rfl, z1⟩
        have Z1 := Lib.hid z1
        clear z1 E1
        go_wp2_with fail
        exact ⟨⟨m + 1, j + 1, X', by go_num, by go_num, by omega, by omega, QQ.out.1, QQ.out.2.mono (by simp; omega), Z1.out.kp0 ((Kp.refl _ _).alloc _)⟩, by simp [intOf]; omega⟩
      · have e1 := q_no hq hh
        have E1 := Lib.hid (do_e hz hw (by omega) 2 1 .empty 1 0 (by decide) e1)
        have wf1 := act_wf' hw (by omega) e1
        have QQ := Lib.hid (And.intro hq wf1)
        have hr : ((m : Int) + 1) * 2500 ≤ a0 → decide (((m : Int) + 1) * 2500 ≤ a1) = false := fun q => decide_eq_false (fun z => hh (HH.out.2 ⟨q, z⟩))
        by_cases r1 : ((m : Int) + 1) * 2500 ≤ a0
        all_goals
          first
            | have d2 := hr r1
              have d1 : decide (((m : Int) + 1) * 2500 ≤ a0) = true := decide_eq_true r1
            | have d1 : decide (((m : Int) + 1) * 2500 ≤ a0) = false := decide_eq_false r1
          clear hq hz hw wf1 e1 hh hr
          go_wp2_with fail
          refine E1.out.mono ?_
          rintro e W1 ⟨ra, rc, rfl, z1⟩
          have Z1 := Lib.hid z1
          clear z1 E1
          go_wp2_with fail
          exact ⟨⟨m, j + 1, X, by go_num, by go_num, by omega, by omega, QQ.out.1, QQ.out.2.mono (by simp; omega), Z1.out.kp0 ((Kp.refl _ _).alloc _)⟩, by simp [intOf]; omega⟩
    · obtain rfl : j = n := by omega
      have E1 := Lib.hid (sess_l hz)
      have E2 := Lib.hid (of_l hz 2)
      have hof : X.P.of 2 = 2500 * m := by unfold Pu.of; rw [if_pos (by omega), hq.u]; rfl
      rw [hof] at E2
      rw [hq.n] at E1
      have KN := Lib.hid (known12_l wr)
      have K := Lib.hid hz.kp
      have hw2 : IntKind.i64.wrap ((m : Int) * 2500) = (m : Int) * 2500 := by rw [IntKind.wrap_i64]; omega
      have e3 : ((2500 * m : Nat) : Int) = (m : Int) * 2500 := by omega
      rw [e3] at E2
      clear hq hz hw e3 hof
      go_wp2_with fail
      refine E1.out.mono ?_
      rintro e W1 ⟨rfl, rfl⟩
      go_wp2_with fail
      refine E2.out.mono ?_
      rintro e W1 ⟨rfl, rfl⟩
      go_wp2_with fail
      refine KN.out.mono ?_
      rintro e W6 ⟨rfl, k6⟩
      have K6 := Lib.hid (K.out.trans k6)
      clear k6
      go_wp2_with fail
      go_ret
      exact ⟨rfl, K6.out.below⟩
set_option maxRecDepth 100000 in
set_option maxHeartbeats 2000000 in
theorem walk (a0 : Int) (_ : (Lit.int .i64 a0).wf = true) (a1 : Int) (_ : (Lit.int .i64 a1).wf = true) (a2 : Int) (_ : (Lit.int .i64 a2).wf = true) (w : World) :
    Calls Tryz.prog 8 #[.int .i64 a0, .int .i64 a1, .int .i64 a2] w (LawPost w) := by
  by_cases h : (0 ≤ a0 ∧ a0 ≤ 30000) ∧ (0 ≤ a1 ∧ a1 ≤ 30000) ∧ 0 ≤ a2 ∧ a2 ≤ 15
  · exact full w a0 a1 a2 h.1 h.2.1 h.2.2
  · have hc : (a0 < 0) ∨ (¬ a0 < 0 ∧ 30000 < a0) ∨ (¬ a0 < 0 ∧ ¬ 30000 < a0 ∧ a1 < 0) ∨ (¬ a0 < 0 ∧ ¬ 30000 < a0 ∧ ¬ a1 < 0 ∧ 30000 < a1) ∨ (¬ a0 < 0 ∧ ¬ 30000 < a0 ∧ ¬ a1 < 0 ∧ ¬ 30000 < a1 ∧ a2 < 0) ∨ (¬ a0 < 0 ∧ ¬ 30000 < a0 ∧ ¬ a1 < 0 ∧ ¬ 30000 < a1 ∧ ¬ a2 < 0 ∧ 15 < a2) := by omega
    clear h
    rcases hc with q | ⟨q0, q⟩ | ⟨q0, q1, q⟩ | ⟨q0, q1, q2, q⟩ | ⟨q0, q1, q2, q3, q⟩ | ⟨q0, q1, q2, q3, q4, q⟩
    all_goals
      go_enter Tryz.func8, Tryz.ntmps8
      go_wp2_with fail
      go_ret
      exact ⟨rfl, (Kp.refl (fun _ => False) w).below⟩
end Go.Proofs.YtmioiaeiflbmhaaGreat.planQuota
