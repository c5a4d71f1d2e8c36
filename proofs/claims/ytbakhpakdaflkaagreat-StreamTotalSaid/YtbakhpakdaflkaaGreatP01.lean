/- What a law's walk is told of rows of bytes. The walk of StreamTotal. -/
import Derived.Test.YtbakhpakdaflkaaGreatL01
namespace Go.Proofs.YtbakhpakdaflkaaGreat.Op
open Go Go.ChangeShapes Go.WideShapes Go.ChangeAt Go.RowKit Go.Mg Go.ChangeMaps Go.Deep

/-- A row of bytes in memory. -/
structure Rw where
  a : Option Addr
  c : Nat
  l : List UInt8
deriving Inhabited
def Rw.v (y : Rw) : Value := .slice y.a y.l.length y.c
def Rw.Ok (w : World) (y : Rw) : Prop := SlR w 1 y.v y.l.length (y.l.map u8c)
theorem flat_one {α β : Type} (f : α → β) : ∀ l : List α, (l.flatMap fun y => [f y]) = l.map f
  | [] => rfl
  | y :: l => by rw [List.flatMap_cons, flat_one f l]; rfl
section
variable {H : Type} {enc : TypeId × Value → H} {P : Program} {w : World} {base : Nat} {spare : Nat → Bool} {held : Bool} {r : Reach} {b0 : Nat} {t : TypeId} {v : Value} {d : DataW H} {p : List MemPlace}
theorem get_rows {e e' : TypeId} (ht : P.underlying t = some (.slice e)) (hc : P.cellsOf e = 1) (ht' : P.underlying e = some (.slice e')) (he' : P.underlying e' = some (.int .u8)) (hc' : P.cellsOf e' = 1)
    (hv : Value.okWide P w r b0 t v) (h : DataW.Trod enc P w base spare held t v d p) :
    ∃ (a : Option Addr) (c : Nat) (l : List Rw), v = .slice a l.length c ∧ SlR w 1 (.slice a l.length c) l.length (l.map Rw.v) ∧ ∀ y ∈ l, Rw.Ok w y := by
  obtain ⟨a, c, l, h1, h2, h3⟩ := get_sl ht hc (by decide) (fun y : Rw => [Rw.v y]) (fun y => Rw.Ok w y) (fun _ => rfl) (fun n cs x _ hx => by
    obtain ⟨a, c, l, h1, h2⟩ := bytes_of ht' he' hc' hx
    exact ⟨⟨a, c, l⟩, h1, h2⟩) hv h
  rw [flat_one] at h2
  exact ⟨a, c, l, h1, h2, h3⟩
end
end Go.Proofs.YtbakhpakdaflkaaGreat.Op
namespace Go.Proofs.YtbakhpakdaflkaaGreat.streamTotal
open Go Go.RowKit Go.ChangeMaps Go.MapKept Go.Mg Go.Mt Go.Proofs.YtbakhpakdaflkaaGreat.Hu Go.Proofs.YtbakhpakdaflkaaGreat.Sq Go.Proofs.YtbakhpakdaflkaaGreat.Bk Go.Proofs.YtbakhpakdaflkaaGreat.Ma Go.Proofs.YtbakhpakdaflkaaGreat.Str Go.Proofs.YtbakhpakdaflkaaGreat.Op

/-- What the loop keeps. -/
def Inv (w wx : World) (s k n : Nat) : Prop := ∃ S, Lv w wx s S ∧ S.ended = false ∧ S.all.length = n ∧ S.kept.length < 500 ∧ S.Wf (800 * k) ∧ n ≤ 800 * k
theorem rows_at {w : World} {a : Option Addr} {c : Nat} {l : List Rw} (h : SlR w 1 (.slice a l.length c) l.length (l.map Rw.v)) {i : Nat} (hi : i < l.length) :
    ∃ g o, a = some ⟨g, o, none⟩ ∧ g < w.heap.size ∧ w.cell? ⟨g, o + i, none⟩ = some (.slice l[i].a l[i].l.length l[i].c) := by
  obtain ⟨_, a0, c0, e0, _, _, _, hc⟩ := h
  simp only [Value.slice.injEq, true_and] at e0
  obtain ⟨rfl, rfl⟩ := e0
  obtain ⟨g, off, rfl, hg, hc⟩ := hc (by omega)
  exact ⟨g, off, rfl, hg, hc i _ (by rw [List.getElem?_map, List.getElem?_eq_getElem hi]; rfl)⟩
theorem bools_at {w : World} {a : Option Addr} {c : Nat} {l : List Bool} (h : SlR w 1 (.slice a l.length c) l.length (l.map Value.bool)) {i : Nat} (hi : i < l.length) :
    ∃ g o, a = some ⟨g, o, none⟩ ∧ g < w.heap.size ∧ w.cell? ⟨g, o + i, none⟩ = some (.bool l[i]) := by
  obtain ⟨_, a0, c0, e0, _, _, _, hc⟩ := h
  simp only [Value.slice.injEq, true_and] at e0
  obtain ⟨rfl, rfl⟩ := e0
  obtain ⟨g, off, rfl, hg, hc⟩ := hc (by omega)
  exact ⟨g, off, rfl, hg, hc i _ (by rw [List.getElem?_map, List.getElem?_eq_getElem hi]; rfl)⟩
theorem Inv.lv {w wx : World} {s k n : Nat} (h : Inv w wx s k n) : Kp (fun _ => False) w wx := by
  obtain ⟨S, h1, _⟩ := h
  exact h1.kp
theorem Inv.write {w wx : World} {s k n : Nat} (h : Inv w wx s k n) (hk : k < 10) (p : List UInt8) (ap : Option Addr) (cp : Nat) (hp : SlR w 1 (.slice ap p.length cp) p.length (p.map u8c)) (hl : p.length ≤ 800) :
    Calls Tryz.prog 13 #[.pointer (some ⟨s, 0, none⟩), .slice ap p.length cp] wx fun e w' => ∃ a m c, e = .returned (.slice a m c) ∧ Inv w w' s (k + 1) (n + p.length) := by
  obtain ⟨S, h1, h2, h3, h4, h5, h6⟩ := h
  refine (writeL h1 h2 p ap cp hp (h5.mono (by omega)) (by omega)).mono ?_
  rintro e w' ⟨a, c, rfl, _, h7⟩
  refine ⟨a, _, c, rfl, _, h7, (wrS_ended _ _).trans h2, ?_, wrS_kept _ _, (wrS_wf h5).mono (by omega), by omega⟩
  rw [wrS_all, List.length_append, h3]
theorem Inv.flush {w wx : World} {s k n : Nat} (h : Inv w wx s k n) (hk : k ≤ 10) :
    Calls Tryz.prog 14 #[.pointer (some ⟨s, 0, none⟩)] wx fun e w' => ∃ a m c, e = .returned (.slice a m c) ∧ Inv w w' s k n := by
  obtain ⟨S, h1, h2, h3, h4, h5, h6⟩ := h
  refine (flushL h1 h2 (by omega) (h5.mono (by omega))).mono ?_
  rintro e w' ⟨a, c, rfl, _, h7⟩
  exact ⟨a, _, c, rfl, _, h7, (flS_ended _).trans h2, by rw [flS_all]; exact h3, by rw [flS_kept]; omega, flS_wf h5, h6⟩
theorem Inv.total {w wx : World} {s k n : Nat} (h : Inv w wx s k n) :
    Calls Tryz.prog 26 #[.pointer (some ⟨s, 0, none⟩)] wx fun e w' => e = .returned (.int .i64 (n : Nat)) ∧ w' = wx := by
  obtain ⟨S, h1, _, rfl, _⟩ := h
  exact totalL h1
theorem Inv.ended {w wx : World} {s k n : Nat} (h : Inv w wx s k n) :
    Calls Tryz.prog 27 #[.pointer (some ⟨s, 0, none⟩)] wx fun e w' => e = .returned (.bool false) ∧ w' = wx := by
  obtain ⟨S, h1, h2, _⟩ := h
  have := endedL h1
  rw [h2] at this
  exact this
/-- Ended. -/
def Fin (w wx : World) (s n : Nat) : Prop := ∃ S, Lv w wx s S ∧ S.ended = true ∧ S.all.length = n
theorem Inv.fin {w wx : World} {s k n : Nat} (h : Inv w wx s k n) (hk : k ≤ 10) :
    Calls Tryz.prog 18 #[.pointer (some ⟨s, 0, none⟩)] wx fun e w' => ∃ a m c, e = .returned (.slice a m c) ∧ Fin w w' s n := by
  obtain ⟨S, h1, h2, h3, h4, h5, h6⟩ := h
  refine (endL h1 h2 (by omega) (h5.mono (by omega))).mono ?_
  rintro e w' ⟨a, c, rfl, _, h7⟩
  exact ⟨a, _, c, rfl, _, h7, endS_ended _, by rw [endS_all]; exact h3⟩
theorem Fin.total {w wx : World} {s n : Nat} (h : Fin w wx s n) :
    Calls Tryz.prog 26 #[.pointer (some ⟨s, 0, none⟩)] wx fun e w' => e = .returned (.int .i64 (n : Nat)) ∧ w' = wx := by
  obtain ⟨S, h1, _, rfl⟩ := h
  exact totalL h1
theorem Fin.ended {w wx : World} {s n : Nat} (h : Fin w wx s n) :
    Calls Tryz.prog 27 #[.pointer (some ⟨s, 0, none⟩)] wx fun e w' => e = .returned (.bool true) ∧ w' = wx := by
  obtain ⟨S, h1, h2, _⟩ := h
  have := endedL h1
  rw [h2] at this
  exact this
set_option maxRecDepth 100000 in
set_option maxHeartbeats 2000000 in
theorem full (w : World) (lv : Int) (h1 : 1 ≤ lv) (h2 : lv ≤ 3) (ar : Option Addr) (cr : Nat) (l : List Rw) (hl : SlR w 1 (.slice ar l.length cr) l.length (l.map Rw.v)) (hg : ∀ y ∈ l, Rw.Ok w y) (h3 : l.length ≤ 10) (ab : Option Addr) (cb : Nat) (b : List Bool) (hb : SlR w 1 (.slice ab b.length cb) b.length (b.map Value.bool)) :
    Calls Tryz.prog 11 #[.int .i64 lv, .slice ar l.length cr, .slice ab b.length cb] w (LawPost w) := by
  obtain ⟨dl, hdl, _, NW⟩ := new_lv w [] none 0 0 lv h1 h2 (SlR.nil _ _) (by omega) (by simp)
  have NW : Calls Tryz.prog 12 #[.slice none 0 0, .int .i64 0, .int .i64 lv] w (NewSPost w (S0 0 dl [])) := NW
  have NW := Lib.hid NW
  have b0 : decide (lv < 1) = false := decide_eq_false (by omega)
  have b1 : decide (3 < lv) = false := decide_eq_false (by omega)
  have b2 : decide ((10 : Int) < (l.length : Int)) = false := decide_eq_false (by omega)
  have WF0 := Lib.hid (s0_wf (id := 0) (d := dl) (dict := []) hdl.1 hdl.2 (by omega) (by simp) 0)
  have HL := Lib.hid (fun i (hi : i < l.length) => rows_at hl hi)
  have HB := Lib.hid (fun i (hi : i < b.length) => bools_at hb hi)
  have HG := Lib.hid (fun i (hi : i < l.length) => hg l[i] (List.getElem_mem _))
  obtain ⟨m, hm⟩ : ∃ m, m = l.length := ⟨_, rfl⟩
  obtain ⟨bn, hbn⟩ : ∃ bn, bn = b.length := ⟨_, rfl⟩
  have HM := Lib.hid hm
  have HBN := Lib.hid hbn
  have hbm : bn ≤ maxLen := by rw [hbn]; obtain ⟨_, _, _, e, q1, q2, _⟩ := hb; simp only [Value.slice.injEq] at e; omega
  have hbm : bn ≤ 9223372036854775807 := hbm
  rw [← hm] at b2 h3 ⊢
  rw [← hbn]
  clear h1 h2 hl hg hb hm hbn
  go_enter Tryz.func11, Tryz.ntmps11
  go_wp2_with fail
  refine NW.out.mono ?_
  intro e w1 he
  obtain ⟨s, rfl, LV⟩ := Lv.of_new he
  have IV : Hid (Inv w w1 s 0 0) := Lib.hid ⟨_, LV, rfl, rfl, by show (0 : Nat) < 500; omega, WF0.out, by omega⟩
  clear he LV NW
  go_wp2_with fail
  go_loopw [8, 9] (fun n i wx => ∃ (k t : Nat), k ≤ m ∧ i = .int .i64 k ∧ n = .int .i64 t ∧ Inv w wx s k t ∧ t ≤ 800 * k) (fun _ i _ => m - (intOf i).toNat)
  case atStart => exact ⟨0, 0, Nat.zero_le _, rfl, rfl, IV.out, by omega⟩
  case round =>
    clear IV
    obtain ⟨k, t, hk, rfl, rfl, iv, ht⟩ := hrel
    have IV := Lib.hid iv
    clear iv
    by_cases hlt : k < m
    · obtain ⟨g, o, ea, hgg, c0⟩ := HL.out k (by rw [← HM.out]; exact hlt)
      have HR := Lib.hid (HG.out k (by rw [← HM.out]; exact hlt))
      generalize l[k]'(by rw [← HM.out]; exact hlt) = y at c0 HR
      have c0' : wr.cell? ⟨g, o + k, none⟩ = some (.slice y.a y.l.length y.c) := (IV.out.lv.cell (p := ⟨g, o + k, none⟩) hgg (fun q => q)).trans c0
      clear c0
      subst ea
      obtain ⟨yl, hyl⟩ : ∃ yl, yl = y.l.length := ⟨_, rfl⟩
      have hym : yl ≤ maxLen := by rw [hyl]; obtain ⟨_, _, _, e, q1, q2, _⟩ := HR.out; unfold Rw.v at e; simp only [Value.slice.injEq] at e; omega
      have hym : yl ≤ 9223372036854775807 := hym
      have hkm : (k : Int) < (m : Int) := by omega
      have hk1 : IntKind.i64.wrap ((k : Int) + 1) = (k : Int) + 1 := by rw [IntKind.wrap_i64]; omega
      by_cases h8 : 800 < yl
      · have d8 : decide ((800 : Int) < (yl : Int)) = true := decide_eq_true (by omega)
        rw [← hyl] at c0'
        have KP := Lib.hid IV.out.lv
        clear HR hyl
        obtain ⟨wo, rfl⟩ : ∃ wo : World, wo = wr := ⟨_, rfl⟩
        go_wp2_with fail
        go_ret
        exact ⟨rfl, KP.out.below⟩
      · have d8 : decide ((800 : Int) < (yl : Int)) = false := decide_eq_false (by omega)
        have WR := IV.out.write (by omega) y.l y.a y.c HR.out (by omega)
        rw [← hyl] at WR c0'
        have WR := Lib.hid WR
        have hs : IntKind.i64.wrap ((t : Int) + (yl : Int)) = (t : Int) + (yl : Int) := by rw [IntKind.wrap_i64]; omega
        clear HR hyl
        go_wp2_with fail
        refine WR.out.mono ?_
        rintro e w2 ⟨a2, m2, c2, rfl, iv2⟩
        have IV2 := Lib.hid iv2
        have c2' : w2.cell? ⟨g, o + k, none⟩ = some (.slice y.a yl y.c) := by
          obtain ⟨g', o', ea', _, q⟩ := HL.out k (by rw [← HM.out]; exact hlt)
          exact (iv2.lv.cell (p := ⟨g, o + k, none⟩) hgg (fun q => q)).trans ((IV.out.lv.cell (p := ⟨g, o + k, none⟩) hgg (fun q => q)).symm.trans c0')
        clear iv2 c0' WR
        have TO := Lib.hid (fun V (q : Inv w V s (k + 1) (t + yl)) => q.total)
        have EN := Lib.hid (fun V (q : Inv w V s (k + 1) (t + yl)) => q.ended)
        have hc : ((t + yl : Nat) : Int) = (t : Int) + (yl : Int) := by omega
        by_cases hkb : k < bn
        · have dkb : decide ((k : Int) < (bn : Int)) = true := decide_eq_true (by omega)
          have hkb' : (k : Int) < (bn : Int) := by omega
          obtain ⟨gb, ob, eb, hgb, cb0⟩ := HB.out k (by rw [← HBN.out]; exact hkb)
          have cb1 := (IV2.out.lv.cell (p := ⟨gb, ob + k, none⟩) hgb (fun q => q)).trans cb0
          generalize b[k]'(by rw [← HBN.out]; exact hkb) = bv at cb1
          clear cb0
          subst eb
          cases bv with
          | true =>
            have FL := Lib.hid (IV2.out.flush (by omega))
            go_wp2_with fail
            refine FL.out.mono ?_
            rintro e w3 ⟨a3, m3, c3, rfl, iv3⟩
            have IV3 := Lib.hid iv3
            clear iv3 c2' cb1
            have TO3 := Lib.hid (TO.out w3 IV3.out)
            have EN3 := Lib.hid (EN.out w3 IV3.out)
            rw [hc] at TO3
            clear TO EN
            go_wp2_with fail
            refine TO3.out.mono ?_
            rintro e w4 ⟨rfl, rfl⟩
            go_wp2_with fail
            refine EN3.out.mono ?_
            rintro e w5 ⟨rfl, rfl⟩
            go_wp2_with fail
            exact ⟨⟨k + 1, t + yl, by omega, by go_num, by rw [hc], IV3.out, by omega⟩, by simp [intOf]; omega⟩
          | false =>
            have TO3 := Lib.hid (TO.out w2 IV2.out)
            have EN3 := Lib.hid (EN.out w2 IV2.out)
            rw [hc] at TO3
            clear TO EN
            go_wp2_with fail
            refine TO3.out.mono ?_
            rintro e w4 ⟨rfl, rfl⟩
            go_wp2_with fail
            refine EN3.out.mono ?_
            rintro e w5 ⟨rfl, rfl⟩
            go_wp2_with fail
            exact ⟨⟨k + 1, t + yl, by omega, by go_num, by rw [hc], IV2.out, by omega⟩, by simp [intOf]; omega⟩
        · have dkb : decide ((k : Int) < (bn : Int)) = false := decide_eq_false (by omega)
          have TO3 := Lib.hid (TO.out w2 IV2.out)
          have EN3 := Lib.hid (EN.out w2 IV2.out)
          rw [hc] at TO3
          clear TO EN
          go_wp2_with fail
          refine TO3.out.mono ?_
          rintro e w4 ⟨rfl, rfl⟩
          go_wp2_with fail
          refine EN3.out.mono ?_
          rintro e w5 ⟨rfl, rfl⟩
          go_wp2_with fail
          exact ⟨⟨k + 1, t + yl, by omega, by go_num, by rw [hc], IV2.out, by omega⟩, by simp [intOf]; omega⟩
    · obtain rfl : k = m := by omega
      have EN := Lib.hid (IV.out.fin (by omega))
      obtain ⟨wo, rfl⟩ : ∃ wo : World, wo = wr := ⟨_, rfl⟩
      go_wp2_with fail
      refine EN.out.mono ?_
      rintro e w3 ⟨a3, m3, c3, rfl, fn⟩
      have TO3 := Lib.hid fn.total
      have EN3 := Lib.hid fn.ended
      have KP : Hid (Kp (fun _ => False) w w3) := Lib.hid (by obtain ⟨_, q, _⟩ := fn; exact q.kp)
      clear fn
      go_wp2_with fail
      refine TO3.out.mono ?_
      rintro e w4 ⟨rfl, rfl⟩
      go_wp2_with fail
      refine EN3.out.mono ?_
      rintro e w5 ⟨rfl, rfl⟩
      go_wp2_with fail
      refine (known9_c _).mono ?_
      rintro e w6 ⟨rfl, k6⟩
      have K6 := Lib.hid (KP.out.trans k6)
      clear k6
      go_wp2_with fail
      go_ret
      exact ⟨rfl, K6.out.below⟩
set_option maxRecDepth 100000 in
set_option maxHeartbeats 1000000 in
theorem walk (lv : Int) (_ : (Lit.int .i64 lv).wf = true) (w : World) (ar : Option Addr) (cr : Nat) (l : List Rw) (hl : SlR w 1 (.slice ar l.length cr) l.length (l.map Rw.v)) (hg : ∀ y ∈ l, Rw.Ok w y) (ab : Option Addr) (cb : Nat) (b : List Bool) (hb : SlR w 1 (.slice ab b.length cb) b.length (b.map Value.bool)) :
    Calls Tryz.prog 11 #[.int .i64 lv, .slice ar l.length cr, .slice ab b.length cb] w (LawPost w) := by
  by_cases h : (1 ≤ lv ∧ lv ≤ 3) ∧ l.length ≤ 10
  · exact full w lv h.1.1 h.1.2 ar cr l hl hg h.2 ab cb b hb
  · obtain ⟨n, hn⟩ : ∃ n, n = l.length := ⟨_, rfl⟩
    rw [← hn] at h ⊢
    clear hn hl hg hb
    by_cases h1 : lv < 1
    · have b0 : decide (lv < 1) = true := decide_eq_true h1
      clear h
      go_enter Tryz.func11, Tryz.ntmps11
      go_wp2_with fail
      go_ret
      exact ⟨rfl, Below.refl _ _⟩
    · have b0 : decide (lv < 1) = false := decide_eq_false h1
      by_cases h2 : 3 < lv
      · have b1 : decide (3 < lv) = true := decide_eq_true h2
        clear h
        go_enter Tryz.func11, Tryz.ntmps11
        go_wp2_with fail
        go_ret
        exact ⟨rfl, Below.refl _ _⟩
      · have b1 : decide (3 < lv) = false := decide_eq_false h2
        have b2 : decide ((10 : Int) < (n : Int)) = true := decide_eq_true (by omega)
        clear h
        go_enter Tryz.func11, Tryz.ntmps11
        go_wp2_with fail
        go_ret
        exact ⟨rfl, Below.refl _ _⟩
end Go.Proofs.YtbakhpakdaflkaaGreat.streamTotal
