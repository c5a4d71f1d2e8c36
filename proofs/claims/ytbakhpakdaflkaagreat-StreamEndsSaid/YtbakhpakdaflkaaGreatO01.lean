/- The walk of StreamEnds. -/
import Derived.Test.YtbakhpakdaflkaaGreatL01
namespace Go.Proofs.YtbakhpakdaflkaaGreat.streamEnds
open Go Go.RowKit Go.ChangeMaps Go.MapKept Go.Mg Go.Mt Go.Proofs.YtbakhpakdaflkaaGreat.Hu Go.Proofs.YtbakhpakdaflkaaGreat.Sq Go.Proofs.YtbakhpakdaflkaaGreat.Bk Go.Proofs.YtbakhpakdaflkaaGreat.Ma Go.Proofs.YtbakhpakdaflkaaGreat.Str Go.Proofs.YtbakhpakdaflkaaGreat.Op

set_option maxRecDepth 100000 in
set_option maxHeartbeats 2000000 in
theorem full (w : World) (lv : Int) (p q : List UInt8) (ap aq : Option Addr) (cp cq : Nat) (hp : SlR w 1 (.slice ap p.length cp) p.length (p.map u8c)) (h1 : 1 ≤ lv) (h2 : lv ≤ 3) (h3 : p.length ≤ 1000) (h4 : q.length ≤ 1000) :
    Calls Tryz.prog 10 #[.int .i64 lv, .slice ap p.length cp, .slice aq q.length cq] w (LawPost w) := by
  obtain ⟨dl, hdl, _, NW⟩ := new_lv w [] none 0 0 lv h1 h2 (SlR.nil _ _) (by omega) (by simp)
  have NW : Calls Tryz.prog 12 #[.slice none 0 0, .int .i64 0, .int .i64 lv] w (NewSPost w (S0 0 dl [])) := NW
  have NW := Lib.hid NW
  have b0 : decide (lv < 1) = false := decide_eq_false (by omega)
  have b1 : decide (3 < lv) = false := decide_eq_false (by omega)
  have b2 : decide ((1000 : Int) < (p.length : Int)) = false := decide_eq_false (by omega)
  have b3 : decide ((1000 : Int) < (q.length : Int)) = false := decide_eq_false (by omega)
  have WF0 := s0_wf (id := 0) (d := dl) (dict := []) hdl.1 hdl.2 (by omega) (by simp) 0
  have WF1 := wrS_wf (p := p) WF0
  have WR := Lib.hid (fun wx s (h : Lv w wx s (S0 0 dl [])) => writeL h rfl p ap cp hp (WF0.mono (by omega)) (by omega))
  have EN := Lib.hid (fun wx s (h : Lv w wx s (wrS (S0 0 dl []) p)) => endL h (wrS_ended _ _) (by have := wrS_kept (S0 0 dl []) p; omega) (WF1.mono (by omega)))
  have HP := endO_pos (wrS (S0 0 dl []) p)
  have HEE := endS_ended (wrS (S0 0 dl []) p)
  have HAA : (endS' (wrS (S0 0 dl []) p)).all.length = p.length := by rw [endS_all, wrS_all]; rfl
  obtain ⟨S1, hS1⟩ : ∃ S1, S1 = wrS (S0 0 dl []) p := ⟨_, rfl⟩
  obtain ⟨O1, hO1⟩ : ∃ O1, O1 = wrO (S0 0 dl []) p := ⟨_, rfl⟩
  rw [← hS1] at EN HP HEE HAA
  rw [← hS1, ← hO1] at WR
  obtain ⟨S2, hS2⟩ : ∃ S2, S2 = endS' S1 := ⟨_, rfl⟩
  obtain ⟨O2, hO2⟩ : ∃ O2, O2 = endO S1 := ⟨_, rfl⟩
  rw [← hS2] at EN HEE HAA
  rw [← hO2] at EN HP
  obtain ⟨l1, hl1⟩ : ∃ l1, l1 = O1.length := ⟨_, rfl⟩
  obtain ⟨l2, hl2⟩ : ∃ l2, l2 = O2.length := ⟨_, rfl⟩
  obtain ⟨n, hn⟩ : ∃ n, n = p.length := ⟨_, rfl⟩
  obtain ⟨m, hm⟩ : ∃ m, m = q.length := ⟨_, rfl⟩
  unfold LvPost at WR EN
  have HL1 : Hid (l1 ≤ 100000000 ∧ l2 ≤ 100000000) := Lib.hid ⟨by rw [hl1, hO1]; have := wrO_le (S0 0 dl []) p; have e : (S0 0 dl []).kept.length = 0 := rfl; omega, by rw [hl2, hO2, hS1]; have := endO_le (wrS (S0 0 dl []) p); have := wrS_kept (S0 0 dl []) p; omega⟩
  rw [← hl1, ← hn] at WR
  rw [← hl2] at EN HP
  rw [← hn] at HAA b2 ⊢
  rw [← hm] at b3 ⊢
  have HEN := Lib.hid HEE
  have HAN := Lib.hid HAA
  have HPN := Lib.hid HP
  clear hp h1 h2 h3 h4 WF0 WF1 HEE HAA HP hS1 hO1 hS2 hO2 hl1 hl2 hn hm
  go_enter Tryz.func10, Tryz.ntmps10
  go_wp2_with fail
  refine NW.out.mono ?_
  intro e w1 he
  obtain ⟨s, rfl, LV⟩ := Lv.of_new he
  have W1 := Lib.hid (WR.out w1 s LV)
  clear he LV NW WR
  go_wp2_with fail
  refine W1.out.mono ?_
  rintro e w2 ⟨a1, c1, rfl, _, LV⟩
  have E1 := Lib.hid (EN.out w2 s LV)
  clear LV EN W1
  go_wp2_with fail
  refine E1.out.mono ?_
  rintro e w3 ⟨a2, c2, rfl, _, LV⟩
  have hp0 := HPN.out
  have hl := HL1.out
  have hs : IntKind.i64.wrap ((l1 : Int) + (l2 : Int)) = (l1 : Int) + (l2 : Int) := by rw [IntKind.wrap_i64]; omega
  have hd : decide ((0 : Int) < (l1 : Int) + (l2 : Int)) = true := decide_eq_true (by omega)
  have C1 := Lib.hid (fun v => writeN LV HEN.out v)
  have C2 := Lib.hid (flushN LV HEN.out)
  have C3 := Lib.hid (endN LV HEN.out)
  have C4 := endedL LV
  have C5 := totalL LV
  rw [HEN.out] at C4
  rw [HAN.out] at C5
  have C4 := Lib.hid C4
  have C5 := Lib.hid C5
  have K := Lib.hid LV.kp
  clear LV E1 hp0 hl
  go_wp2_with fail
  refine (C1.out _).mono ?_
  rintro e w4 ⟨rfl, rfl⟩
  go_wp2_with fail
  refine C2.out.mono ?_
  rintro e w5 ⟨rfl, rfl⟩
  go_wp2_with fail
  refine C3.out.mono ?_
  rintro e w6 ⟨rfl, rfl⟩
  go_wp2_with fail
  refine C4.out.mono ?_
  rintro e w7 ⟨rfl, rfl⟩
  go_wp2_with fail
  refine C5.out.mono ?_
  rintro e w8 ⟨rfl, rfl⟩
  go_wp2_with fail
  refine (known9_c _).mono ?_
  rintro e w9 ⟨rfl, k9⟩
  have K9 := Lib.hid (K.out.trans k9)
  clear k9
  go_wp2_with fail
  go_ret
  exact ⟨rfl, K9.out.below⟩
set_option maxRecDepth 100000 in
set_option maxHeartbeats 1000000 in
theorem walk (lv : Int) (_ : (Lit.int .i64 lv).wf = true) (w : World) (ap : Option Addr) (cp : Nat) (p : List UInt8) (hp : SlR w 1 (.slice ap p.length cp) p.length (p.map u8c)) (aq : Option Addr) (cq : Nat) (q : List UInt8) (_ : SlR w 1 (.slice aq q.length cq) q.length (q.map u8c)) :
    Calls Tryz.prog 10 #[.int .i64 lv, .slice ap p.length cp, .slice aq q.length cq] w (LawPost w) := by
  by_cases h : (1 ≤ lv ∧ lv ≤ 3) ∧ p.length ≤ 1000 ∧ q.length ≤ 1000
  · exact full w lv p q ap aq cp cq hp h.1.1 h.1.2 h.2.1 h.2.2
  · obtain ⟨n, hn⟩ : ∃ n, n = p.length := ⟨_, rfl⟩
    obtain ⟨m, hm⟩ : ∃ m, m = q.length := ⟨_, rfl⟩
    rw [← hn, ← hm] at h ⊢
    clear hn hm hp
    by_cases h1 : lv < 1
    · have b0 : decide (lv < 1) = true := decide_eq_true h1
      clear h
      go_enter Tryz.func10, Tryz.ntmps10
      go_wp2_with fail
      go_ret
      exact ⟨rfl, Below.refl _ _⟩
    · have b0 : decide (lv < 1) = false := decide_eq_false h1
      by_cases h2 : 3 < lv
      · have b1 : decide (3 < lv) = true := decide_eq_true h2
        clear h
        go_enter Tryz.func10, Tryz.ntmps10
        go_wp2_with fail
        go_ret
        exact ⟨rfl, Below.refl _ _⟩
      · have b1 : decide (3 < lv) = false := decide_eq_false h2
        by_cases h3 : 1000 < n
        · have b2 : decide ((1000 : Int) < (n : Int)) = true := decide_eq_true (by omega)
          clear h
          go_enter Tryz.func10, Tryz.ntmps10
          go_wp2_with fail
          go_ret
          exact ⟨rfl, Below.refl _ _⟩
        · have b2 : decide ((1000 : Int) < (n : Int)) = false := decide_eq_false (by omega)
          have b3 : decide ((1000 : Int) < (m : Int)) = true := decide_eq_true (by omega)
          clear h
          go_enter Tryz.func10, Tryz.ntmps10
          go_wp2_with fail
          go_ret
          exact ⟨rfl, Below.refl _ _⟩
end Go.Proofs.YtbakhpakdaflkaaGreat.streamEnds
