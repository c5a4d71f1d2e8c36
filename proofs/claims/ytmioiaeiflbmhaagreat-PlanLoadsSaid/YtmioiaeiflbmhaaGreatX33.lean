/- What the plan's laws know; one session; answers that are not looked into. -/
import Derived.Test.YtmioiaeiflbmhaaGreatX32
set_option linter.unusedVariables false
namespace Go.Proofs.YtmioiaeiflbmhaaGreat.Pl
open Go Go.RowKit Go.ChangeMaps Go.MapKept Go.Mg Go.Proofs.YtmioiaeiflbmhaaGreat.No Go.Proofs.YtmioiaeiflbmhaaGreat.Sh Go.Proofs.YtmioiaeiflbmhaaGreat.Str Go.Proofs.YtmioiaeiflbmhaaGreat.Bk Go.Proofs.YtmioiaeiflbmhaaGreat.Ma
def F0 : Nat → Prop := fun _ => False
def EPost (w0 : World) (p : Nat) (X' : Pls) (er n : Int) (on : Nat) (e : Ending) (w' : World) : Prop := ∃ (a : Option Addr) (c : Nat), e = .returned (.agg #[.int .i64 er, .int .i64 n, .slice a on c]) ∧ PlL F0 w0 w' p X'
theorem do_e {w0 w : World} {p : Nat} {X : Pls} (h : PlL F0 w0 w p X) {N : Nat} (hw : X.Wf N) (hN : N ≤ 30000) (cl k : Int) (nm : ByteArray) (lv hd : Int) (hnm : nm.size ≤ 9223372036854775807) {X' : Pls} {er n : Int} {O : List UInt8} (ha : X.act cl ⟨k, nm, lv, hd, []⟩ = (X', ⟨er, n, O⟩)) :
    Calls Tryz.prog 15 #[.pointer (some ⟨p, 0, none⟩), .int .i64 cl, .agg #[.int .i64 k, .string nm, .int .i64 lv, .int .i64 hd, .slice none 0 0]] w (EPost w0 p X' er n O.length) := by
  have C := do_l h hw hN cl k nm lv hd none 0 [] (SlR.nil _ _) (fun b hb => by cases hb) hnm (by simp)
  rw [ha] at C
  refine C.mono ?_
  rintro e w' ⟨a, c, rfl, _, h1, _⟩
  exact ⟨a, c, rfl, h1.less (fun k q => .inl q)⟩
theorem act_wf' {X X' : Pls} {N : Nat} (h : X.Wf N) (hN : N ≤ 1000000) {cl : Int} {c : Cl} {A : An} (ha : X.act cl c = (X', A)) : X'.Wf (N + 2 + c.d.length) := by
  have := act_wf h hN cl c
  rw [ha] at this
  exact this
theorem fldA (x y : Int) (v : Value) (w : World) : (Instr.field 35 (.agg #[.int .i64 x, .int .i64 y, v]) 0).run Tryz.prog w = .ok (.int .i64 x) w := by kernel_rfl
theorem fldB (x y : Int) (v : Value) (w : World) : (Instr.field 35 (.agg #[.int .i64 x, .int .i64 y, v]) 1).run Tryz.prog w = .ok (.int .i64 y) w := by kernel_rfl
/-! ### one session -/
def ses1 (cl lv : Int) : Sp := ⟨cl, 0, S0 0 (dep lv).toNat []⟩
def one (all each cl lv : Int) : Pls := ⟨(pu0 all each).take cl 2500, ⟨0, [], []⟩, [(1, ses1 cl lv)], [], 1⟩
theorem has_pu0 {all each cl : Int} (hc : 0 ≤ cl ∧ cl < 4) (h1 : 2500 ≤ all) (h2 : 2500 ≤ each) : (pu0 all each).has cl 2500 := by
  refine ⟨hc.1, hc.2, by omega, ?_, ?_⟩
  · show (2500 : Int) ≤ ((bnd each : Nat) : Int) - ((0 : Nat) : Int)
    unfold bnd; omega
  · show (2500 : Int) ≤ ((bnd all : Nat) : Int) - ((0 + 0 + 0 + 0 + 0 : Nat) : Int)
    unfold bnd; omega
theorem open1 {all each cl lv hd : Int} (hc : 0 ≤ cl ∧ cl < 4) (hl : 1 ≤ lv ∧ lv ≤ 3) (h1 : 2500 ≤ all) (h2 : 2500 ≤ each) : (pl0 all each).act cl ⟨1, .empty, lv, hd, []⟩ = (one all each cl lv, ⟨0, 1, []⟩) := by
  unfold Pls.act
  rw [if_neg (by omega), if_pos rfl]
  unfold Pls.opn
  rw [if_neg (by simp only; rintro (q | q | q); omega; omega; exact absurd q (by decide))]
  simp only
  rw [if_pos (show ByteArray.empty.size = 0 from rfl)]
  unfold Pls.opens
  rw [if_pos (show (pl0 all each).P.has cl 2500 from has_pu0 hc h1 h2)]
  rfl
theorem one_used {all each cl lv : Int} (hc : 0 ≤ cl ∧ cl < 4) (h1 : 2500 ≤ all) (h2 : 2500 ≤ each) : (one all each cl lv).P.used = 2500 := by
  show ((pu0 all each).take cl 2500).used = 2500
  unfold Pu.take
  rw [if_pos (has_pu0 hc h1 h2)]
  have : cl = 0 ∨ cl = 1 ∨ cl = 2 ∨ cl = 3 := by omega
  rcases this with rfl | rfl | rfl | rfl <;> simp [Pu.used, sumTo, upd, pu0]
theorem ses_act {X : Pls} {cl : Int} {c : Cl} (hc : 0 ≤ cl ∧ cl < 4) (hk : 2 ≤ c.k ∧ c.k ≤ 5) : X.act cl c = X.session cl c := by
  unfold Pls.act
  rw [if_neg (by omega), if_neg (by omega), if_pos hk]
theorem none_act {X : Pls} {cl : Int} {c : Cl} (hc : 0 ≤ cl ∧ cl < 4) (hk : 2 ≤ c.k ∧ c.k ≤ 5) (hg : AL.get X.L c.hd = none) : X.act cl c = (X, ⟨7, 0, []⟩) := by
  rw [ses_act hc hk]
  unfold Pls.session
  rw [hg]
theorem other_act {X : Pls} {cl : Int} {c : Cl} (hc : 0 ≤ cl ∧ cl < 4) (hk : 2 ≤ c.k ∧ c.k ≤ 5) {e : Sp} (hg : AL.get X.L c.hd = some e) (he : e.cl ≠ cl) : X.act cl c = (X, ⟨7, 0, []⟩) := by
  rw [ses_act hc hk]
  unfold Pls.session
  rw [hg]
  simp only
  rw [if_neg he]
theorem own_act {X : Pls} {cl : Int} {c : Cl} (hc : 0 ≤ cl ∧ cl < 4) (hk : 2 ≤ c.k ∧ c.k ≤ 5) {e : Sp} (hg : AL.get X.L c.hd = some e) (he : e.cl = cl) : X.act cl c = X.does e c := by
  rw [ses_act hc hk]
  unfold Pls.session
  rw [hg]
  simp only
  rw [if_pos he]
def gone1 (all each cl : Int) : Pls := ⟨((pu0 all each).take cl 2500).give cl 2500, ⟨0, [], []⟩, [], [], 1⟩
theorem one_ends (all each cl lv : Int) : (one all each cl lv).ends 1 (ses1 cl lv) = gone1 all each cl := rfl
theorem gone1_used {all each cl : Int} (hc : 0 ≤ cl ∧ cl < 4) (h1 : 2500 ≤ all) (h2 : 2500 ≤ each) : (gone1 all each cl).P.used = 0 := by
  show (((pu0 all each).take cl 2500).give cl 2500).used = 0
  unfold Pu.take
  rw [if_pos (has_pu0 hc h1 h2)]
  have : cl = 0 ∨ cl = 1 ∨ cl = 2 ∨ cl = 3 := by omega
  rcases this with rfl | rfl | rfl | rfl <;> simp [Pu.used, Pu.give, sumTo, upd, pu0]
theorem one_then {all each cl lv other k : Int} (hc : 0 ≤ cl ∧ cl < 4) (ho : 0 ≤ other ∧ other < 4) (hk : 2 ≤ k ∧ k ≤ 5) : ∃ X2 er O er3 O3, (one all each cl lv).act other ⟨k, .empty, 0, 1, []⟩ = (X2, ⟨er, 0, O⟩) ∧ (cl = other ∧ er = 0 ∨ cl ≠ other ∧ er = 7) ∧
    X2.act cl ⟨5, .empty, 0, 1, []⟩ = (gone1 all each cl, ⟨er3, 0, O3⟩) ∧ (gone1 all each cl).act cl ⟨k, .empty, 0, 1, []⟩ = (gone1 all each cl, ⟨7, 0, []⟩) := by
  have g0 : AL.get (one all each cl lv).L 1 = some (ses1 cl lv) := rfl
  have gn : AL.get (gone1 all each cl).L 1 = none := rfl
  have last : (gone1 all each cl).act cl ⟨k, .empty, 0, 1, []⟩ = (gone1 all each cl, ⟨7, 0, []⟩) := none_act hc hk gn
  have ab : ∀ (X : Pls) (e : Sp), AL.get X.L 1 = some e → e.cl = cl → X.act cl ⟨5, .empty, 0, 1, []⟩ = (X.ends 1 e, ⟨0, 0, []⟩) := fun X e h1 h2 => by
    rw [own_act hc (by decide) h1 h2]
    unfold Pls.does
    rw [if_neg (by decide), if_pos rfl]
  by_cases e : cl = other
  · subst e
    have h0 := own_act (c := ⟨k, .empty, 0, 1, []⟩) hc hk g0 rfl
    have hput : ∀ S', ((one all each cl lv).puts 1 (ses1 cl lv) S').act cl ⟨5, .empty, 0, 1, []⟩ = (gone1 all each cl, ⟨0, 0, []⟩) := fun S' => by
      rw [ab ((one all each cl lv).puts 1 (ses1 cl lv) S') { ses1 cl lv with S := S' } rfl rfl, ends_puts, one_ends]
    by_cases k3 : k = 3
    · refine ⟨(one all each cl lv).puts 1 (ses1 cl lv) (fS (ses1 cl lv).S), 0, fO (ses1 cl lv).S, 0, [], ?_, .inl ⟨rfl, rfl⟩, hput _, last⟩
      rw [h0]; unfold Pls.does; rw [if_pos k3]
    · by_cases k5 : k = 5
      · refine ⟨gone1 all each cl, 0, [], 7, [], ?_, .inl ⟨rfl, rfl⟩, none_act hc (by decide) gn, last⟩
        rw [h0]; unfold Pls.does; rw [if_neg k3, if_pos k5, one_ends]
      · by_cases k4 : k = 4
        · refine ⟨gone1 all each cl, 0, eO (ses1 cl lv).S, 7, [], ?_, .inl ⟨rfl, rfl⟩, none_act hc (by decide) gn, last⟩
          rw [h0]; unfold Pls.does; rw [if_neg k3, if_neg k5, if_pos k4, one_ends]
        · refine ⟨(one all each cl lv).puts 1 (ses1 cl lv) (wS (ses1 cl lv).S []), 0, wO (ses1 cl lv).S [], 0, [], ?_, .inl ⟨rfl, rfl⟩, hput _, last⟩
          rw [h0]; unfold Pls.does; rw [if_neg k3, if_neg k5, if_neg k4, if_neg (by simp)]
  · refine ⟨one all each cl lv, 7, [], 0, [], other_act ho hk g0 e, .inr ⟨e, rfl⟩, ?_, last⟩
    rw [ab _ _ g0 rfl, one_ends]
set_option maxRecDepth 100000 in
set_option maxHeartbeats 2000000 in
theorem known12_l (w : World) : Calls Tryz.prog 20 #[] w fun e w' => e = .returned (.bool true) ∧ Kp (fun _ => False) w w' := by
  have C1 := Lib.hid (new_l (w0 := w) (Kp.refl _ w) 10000 10000)
  have FA := fldA
  have FB := fldB
  go_enter Tryz.func20, Tryz.ntmps20
  go_wp2_with fail
  refine C1.out.mono ?_
  rintro e w1 ⟨p, rfl, h1⟩
  have C2 := Lib.hid (do_e (X' := pl0 10000 10000) (er := 7) (n := 0) (O := []) h1 (pl0_wf _ _) (by omega) 0 2 .empty 0 0 (by decide) (none_act (by decide) (by decide) rfl))
  clear h1 C1
  go_wp2_with fail
  refine C2.out.mono ?_
  rintro e w2 ⟨a, c, rfl, h2⟩
  have C3 := Lib.hid (do_e h2 (pl0_wf _ _) (by omega) 0 1 .empty 1 0 (by decide) (open1 (by decide) (by decide) (by decide) (by decide)))
  clear h2 C2
  go_wp2_with fail
  refine C3.out.mono ?_
  rintro e w3 ⟨a3, c3, rfl, h3⟩
  have hw3 := act_wf' (pl0_wf 10000 10000) (by omega) (open1 (cl := 0) (lv := 1) (hd := 0) (by decide) (by decide) (by decide) (by decide))
  have C4 := Lib.hid (used_l h3 hw3.P)
  rw [one_used (by decide) (by decide) (by decide)] at C4
  have C5 := Lib.hid (sess_l h3)
  have K := Lib.hid h3.kp
  have C5 : Hid (Calls Tryz.prog 21 #[.pointer (some ⟨p, 0, none⟩)] w3 fun e w' => e = .returned (.int .i64 1) ∧ w' = w3) := C5
  clear h3 hw3 C3
  go_wp2_with fail
  refine C4.out.mono ?_
  rintro e w4 ⟨rfl, rfl⟩
  go_wp2_with fail
  refine C5.out.mono ?_
  rintro e w5 ⟨rfl, rfl⟩
  go_wp2_with fail
  go_ret
  exact ⟨rfl, K.out⟩
end Go.Proofs.YtmioiaeiflbmhaaGreat.Pl
