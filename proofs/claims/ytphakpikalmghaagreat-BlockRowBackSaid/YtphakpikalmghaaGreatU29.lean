/- block, the program's reader: a row; bytes.Clone. block, the program's: Unrow. block: Unrow, both sides alike. The walk of BlockRows. -/
import Derived.Lib.SliceRun
import Derived.Deep.RegionHeld3
import Derived.Test.YtphakpikalmghaaGreatU28
import Derived.Test.YtphakpikalmghaaGreatU25
import Derived.Test.YtphakpikalmghaaGreatU08
namespace Go.Proofs.YtphakpikalmghaaGreat.Un
open Go Go.RowKit Go.ChangeMaps Go.MapKept Go.Mg Go.Hf Go.Mt Go.Proofs.YtphakpikalmghaaGreat.Hu Go.Proofs.YtphakpikalmghaaGreat.He Go.Proofs.YtphakpikalmghaaGreat.Rd Go.Proofs.YtphakpikalmghaaGreat.Bw Go.Proofs.YtphakpikalmghaaGreat.Ma

theorem none0U {w : World} {l : List UInt8} {c : Nat} (h : SlR w 1 (.slice none l.length c) l.length (l.map u8c)) : l.length = 0 ∧ c = 0 := by
  obtain ⟨_, a, c', e0, h1, _, h2, h3⟩ := h
  simp only [Value.slice.injEq, true_and] at e0
  obtain ⟨rfl, rfl⟩ := e0
  have := h2 rfl
  omega
def ClPost (w : World) (l : List UInt8) (e : Ending) (w' : World) : Prop :=
  ∃ a' c', e = .returned (.slice a' l.length c') ∧ RowM 5 u8c w.heap.size w' (.slice a' l.length c') l ∧ Kp (fun _ => False) w w'
set_option maxRecDepth 100000 in
set_option maxHeartbeats 1000000 in
theorem clone_p (w : World) (l : List UInt8) (a : Option Addr) (c : Nat) (h : SlR w 1 (.slice a l.length c) l.length (l.map u8c)) (hlen : l.length ≤ 1000000) :
    Calls Tryz.prog 58 #[.slice a l.length c] w (ClPost w l) := by
  have hnil := @Lib.run_eql_slice_nil Tryz.prog
  cases a with
  | none =>
    obtain ⟨h1, rfl⟩ := none0U h
    have : l = [] := List.eq_nil_of_length_eq_zero h1
    subst this
    clear h
    go_enter Tryz.func58, Tryz.ntmps58
    go_wp2_with fail
    go_ret
    exact ⟨none, 0, rfl, RowM.nil _ _ _, Kp.refl _ _⟩
  | some p =>
    obtain ⟨j0, hj0, hy0, hy1, hy2⟩ := info_parts infoU8c
    have NR := Lib.hid (nil_row w)
    have KA := Lib.hid (kp_alloc w (.cells #[] 5))
    have HU := Lib.hid (h.kp KA.out (fun _ _ q => q))
    clear h
    go_enter Tryz.func58, Tryz.ntmps58
    go_wp2_with (at_builtin; refine wpList_appM (w0 := w) _ rfl _ _ 22 rfl 5 j0 _ 1 Tryz.underlying22 hj0 hy0 hy1 hy2 rfl (by decide) (by decide) u8c_1c (.slice (some ⟨w.heap.size, 0, none⟩) 0 0) [] rfl NR.out (.slice (some p) l.length c) l.length l rfl HU.out rfl KA.out l.length (by simp) (by omega) ?_; intro a5 c5 w5 g1 g2 _; rw [List.nil_append] at g1; have G1 := Lib.hid g1; have G2 := Lib.hid g2; clear g1 g2)
    go_ret
    exact ⟨a5, c5, rfl, G1.out, G2.out⟩
/-- A row read by the reader. -/
def RowOk (l : List UInt8) (bad : Bool) (o l' : List UInt8) : Prop := bad = false ∧ ∃ m, Bk.UnYes l o m ∧ l' = l.drop m
set_option maxRecDepth 100000 in
set_option maxHeartbeats 1000000 in
theorem row_p {w : World} {x : Nat} {l : List UInt8} {bad : Bool} (h : Rdr w x l bad) (hl : l.length ≤ 10000) :
    Calls Tryz.prog 27 #[.pointer (some ⟨x, 0, none⟩)] w (RwPost w x (RowOk l bad)) := by
  have BY := Lib.hid (byte_p h (by omega))
  have HLX := Lib.hid h.lt
  clear h
  go_enter Tryz.func27, Tryz.ntmps27
  go_wp2_with fail
  have H12 : ∃ (k1 : Nat) (l1 : List UInt8) (b1 : Bool) , True := ⟨0, [], false, trivial⟩
  refine BY.out.mono ?_
  intro e w1 hb
  have hb' : ∃ (kd : Nat) (l1 : List UInt8) (b1 : Bool), e = .returned (.int .u8 (kd : Nat)) ∧ Rdr w1 x l1 b1 ∧ Kp (· = x) w w1 ∧ l1.length ≤ l.length ∧ kd < 256 ∧ (b1 = false → bad = false ∧ 1 ≤ l.length ∧ l1 = l.drop 1 ∧ kd = byt l 0) ∧ (b1 = true → ∀ o l', ¬ RowOk l bad o l') := by
    rcases hb with ⟨h1, rfl, q3, q4⟩ | ⟨h1, rfl, q3, q4⟩
    · exact ⟨byt l 0, l.drop 1, false, rfl, q3, q4, by rw [List.length_drop]; omega, byt_lt l 0, fun _ => ⟨h1.1, h1.2, rfl, rfl⟩, fun q => by cases q⟩
    · refine ⟨0, l, true, rfl, q3, q4, Nat.le_refl _, by omega, (fun q => by cases q), fun _ o l' q => h1 ⟨q.1, ?_⟩⟩
      obtain ⟨_, m, q, _⟩ := q
      have := q.1
      omega
  clear hb H12 BY
  obtain ⟨kd, l1, b1, rfl, q3, q4, q5, q6, q7, q8⟩ := hb'
  have MN := Lib.hid (many_p q3 (by omega))
  have Q4 := Lib.hid q4
  have Q5 := Lib.hid q5
  have Q7 := Lib.hid q7
  have Q8 := Lib.hid q8
  clear q3 q4 q5 q7 q8
  go_wp2_with fail
  refine MN.out.mono ?_
  intro e w2 hb
  have hb' : ∃ (n : Nat) (l2 : List UInt8) (b2 : Bool), e = .returned (.int .i64 (n : Nat)) ∧ Rdr w2 x l2 b2 ∧ Kp (· = x) w w2 ∧ l2.length ≤ l.length ∧ n ≤ 500 ∧ (b2 = false → bad = false ∧ 3 ≤ l.length ∧ l2 = l.drop 3 ∧ kd = byt l 0 ∧ n = Bk.numU l 1) ∧ (b2 = true → ∀ o l', ¬ RowOk l bad o l') := by
    rcases hb with ⟨h1, rfl, q3, q4⟩ | ⟨h1, rfl, ⟨l', hl', q3⟩, q4⟩
    · obtain ⟨z1, z2, z3, z4⟩ := Q7.out h1.1
      refine ⟨Bk.numU l1 0, l1.drop 2, false, rfl, q3, Q4.out.trans q4, by have := Q5.out; rw [List.length_drop]; omega, h1.2.2, fun _ => ⟨z1, ?_, ?_, z4, ?_⟩, fun q => by cases q⟩
      · have := h1.2.1; rw [z3, List.length_drop] at this; omega
      · rw [z3, List.drop_drop]
      · rw [z3, numU_drop]
    · refine ⟨0, l', true, rfl, q3, Q4.out.trans q4, Nat.le_trans hl' Q5.out, by omega, (fun q => by cases q), fun _ o l' q => ?_⟩
      cases hb1 : b1 with
      | true => exact Q8.out hb1 o l' q
      | false =>
        obtain ⟨z1, z2, z3, z4⟩ := Q7.out hb1
        obtain ⟨_, m, q, _⟩ := q
        refine h1 ⟨hb1, ?_, ?_⟩
        · have := q.1; rw [z3, List.length_drop]; omega
        · rw [z3, numU_drop]; exact q.2.1
  clear hb MN Q4 Q5 Q7 Q8
  obtain ⟨n, l2, b2, rfl, q3, q4, q5, hn, q7, q8⟩ := hb'
  have RD := Lib.hid q3
  have Q4 := Lib.hid q4
  have Q5 := Lib.hid q5
  have Q7 := Lib.hid q7
  have Q8 := Lib.hid q8
  have HN := Lib.hid hn
  clear q3 q4 q5 q7 q8 hn
  by_cases k0 : kd = 0
  · subst k0
    have TK := Lib.hid (take_p RD.out n (by have := Q5.out; omega))
    go_wp2_with fail
    refine TK.out.mono ?_
    rintro e w3 (⟨h2, ⟨a4, c4, rfl, q1, _⟩, q3, q4⟩ | ⟨h2, rfl, q3, q4⟩)
    · have H2 := Lib.hid h2
      have RD3 := Lib.hid q3
      have K3 := Lib.hid (Q4.out.trans q4)
      have CL := clone_p w3 (l2.take n) a4 c4 q1 (by have := Q5.out; rw [List.length_take]; omega)
      unfold ClPost at CL
      obtain ⟨z, hz⟩ : ∃ z, z = (l2.take n).length := ⟨_, rfl⟩
      rw [← hz] at CL ⊢
      have CL := Lib.hid CL
      have HZ := Lib.hid hz
      clear h2 q1 q3 q4 TK hz
      go_wp2_with fail
      refine CL.out.mono ?_
      rintro e w4 ⟨a5, c5, rfl, g1, g2⟩
      have G1 := Lib.hid g1
      have G2 := Lib.hid g2
      clear g1 g2 CL
      go_wp2_with fail
      go_ret
      obtain ⟨z1, z2, z3, z4, z5⟩ := Q7.out H2.out.1
      refine .inl ⟨l2.take n, l2.drop n, a5, c5, ⟨z1, 3 + n, ⟨z2, by rw [← z5]; exact HN.out, .inl ⟨z4.symm, ?_, ?_, by rw [← z5]⟩⟩, ?_⟩, by rw [HZ.out]; rfl, ?_, ?_, RD3.out.kp0 G2.out, K3.out.trans2 G2.out (fun _ _ q => q.elim)⟩
      · have := H2.out.2
        rw [z3, List.length_drop] at this
        rw [← z5]; omega
      · rw [z3, ← z5]
      · rw [z3, List.drop_drop]
      · have g := G1.out
        rw [HZ.out] at g
        obtain ⟨_, _, e9, o9, _⟩ := g
        cases e9
        exact o9.sl
      · have g := G1.out
        rw [HZ.out] at g
        obtain ⟨_, _, e9, _, l9⟩ := g
        cases e9
        intro b hb
        have := l9 b hb
        have := K3.out.size
        omega
    · have NO : Hid (∀ o l', ¬ RowOk l bad o l') := Lib.hid (fun o l' q => by
        cases hb2 : b2 with
        | true => exact Q8.out hb2 o l' q
        | false =>
          obtain ⟨z1, z2, z3, z4, z5⟩ := Q7.out hb2
          obtain ⟨_, m, ⟨_, _, q⟩, _⟩ := q
          rw [← z4] at q
          rcases q with ⟨_, q, _⟩ | ⟨q, _⟩ | ⟨q, _⟩
          · exact h2 ⟨hb2, by rw [z3, List.length_drop, z5]; omega⟩
          · omega
          · omega)
      have RD3 := Lib.hid q3
      have K3 := Lib.hid (Q4.out.trans q4)
      have CL := Lib.hid (clone_p w3 [] none 0 (SlR.nil _ _) (by simp))
      clear h2 q3 q4 TK
      go_wp2_with fail
      refine CL.out.mono ?_
      rintro e w4 ⟨a5, c5, rfl, g1, g2⟩
      have G2 := Lib.hid g2
      clear g1 g2 CL
      go_wp2_with fail
      go_ret
      exact .inr ⟨NO.out, ⟨_, rfl⟩, ⟨_, RD3.out.kp0 G2.out⟩, K3.out.trans2 G2.out (fun _ _ q => q.elim)⟩
  · have k0' : ((kd : Int) == 0) = false := by rw [beq_eq_false_iff_ne]; omega
    have NOT0 := Lib.hid k0
    clear k0
    by_cases k1 : kd = 1
    · subst k1
      clear k0'
      have RU := Lib.hid (run_p RD.out (by have := Q5.out; omega) n HN.out)
      go_wp2_with fail
      refine RU.out.mono ?_
      rintro e w3 (⟨o, l', a, c, h1, rfl, h3, h4, h5, h6⟩ | ⟨h1, ⟨v, rfl⟩, ⟨l', h3⟩, h4⟩)
      · have H1 := Lib.hid h1
        have H3 := Lib.hid h3
        have H4 := Lib.hid h4
        have H5 := Lib.hid h5
        have H6 := Lib.hid (Q4.out.trans h6)
        have HS := Lib.hid Q4.out.size
        clear h1 h3 h4 h5 h6 RU
        go_wp2_with fail
        go_ret
        obtain ⟨y1, y2, y3, y4, y5⟩ := H1.out
        obtain ⟨z1, z2, z3, z4, z5⟩ := Q7.out y1
        refine .inl ⟨o, l', a, c, ⟨z1, 4, ⟨z2, by rw [← z5]; exact HN.out, .inr (.inl ⟨z4.symm, by rw [← z5]; exact y3, ?_, ?_, rfl⟩)⟩, ?_⟩, rfl, H3.out, fun b hb => Nat.le_trans HS.out (H4.out b hb), H5.out, H6.out⟩
        · rw [z3, List.length_drop] at y2; omega
        · rw [y4, z3, ← z5]; simp
        · rw [y5, z3, List.drop_drop]
      · have NO : Hid (∀ o l', ¬ RowOk l bad o l') := Lib.hid (fun o l' q => by
          cases hb2 : b2 with
          | true => exact Q8.out hb2 o l' q
          | false =>
            obtain ⟨z1, z2, z3, z4, z5⟩ := Q7.out hb2
            obtain ⟨_, m, ⟨_, _, q⟩, _⟩ := q
            rw [← z4, ← z5] at q
            rcases q with ⟨q, _⟩ | ⟨_, y1, y2, y3, y4⟩ | ⟨q, _⟩
            · omega
            · exact h1 _ _ ⟨hb2, by rw [z3, List.length_drop]; omega, y1, rfl, rfl⟩
            · omega)
        have H3 := Lib.hid h3
        have H4 := Lib.hid (Q4.out.trans h4)
        clear h1 h3 h4 RU
        go_wp2_with fail
        go_ret
        exact .inr ⟨NO.out, ⟨_, rfl⟩, ⟨_, H3.out⟩, H4.out⟩
    · have k1' : ((kd : Int) == 1) = false := by rw [beq_eq_false_iff_ne]; omega
      have NOT1 := Lib.hid k1
      clear k1
      by_cases k2 : kd = 2
      · subst k2
        clear k0' k1'
        have RU := Lib.hid (coded_p RD.out (by have := Q5.out; omega) n HN.out)
        go_wp2_with fail
        refine RU.out.mono ?_
        rintro e w3 (⟨o, l', a, c, h1, rfl, h3, h4, h5, h6⟩ | ⟨h1, ⟨v, rfl⟩, ⟨l', h3⟩, h4⟩)
        · have H1 := Lib.hid h1
          have H3 := Lib.hid h3
          have H4 := Lib.hid h4
          have H5 := Lib.hid h5
          have H6 := Lib.hid (Q4.out.trans h6)
          have HS := Lib.hid Q4.out.size
          clear h1 h3 h4 h5 h6 RU
          go_wp2_with fail
          go_ret
          obtain ⟨y1, y2, y3, y4, s, y5, y6⟩ := H1.out
          obtain ⟨z1, z2, z3, z4, z5⟩ := Q7.out y1
          rw [z3, List.length_drop] at y2
          rw [z3, numU_drop3, List.length_drop] at y3
          rw [z3, numU_drop3, List.drop_drop] at y4 y5
          refine .inl ⟨o, l', a, c, ⟨z1, 133 + Bk.numU l 131, ⟨z2, by rw [← z5]; exact HN.out, .inr (.inr ⟨z4.symm, by omega, by omega, rfl, s, ?_, y6⟩)⟩, ?_⟩, rfl, H3.out, fun b hb => Nat.le_trans HS.out (H4.out b hb), H5.out, H6.out⟩
          · rw [← z5]; exact y5
          · rw [y4]; congr 1; omega
        · have NO : Hid (∀ o l', ¬ RowOk l bad o l') := Lib.hid (fun o l' q => by
            cases hb2 : b2 with
            | true => exact Q8.out hb2 o l' q
            | false =>
              obtain ⟨z1, z2, z3, z4, z5⟩ := Q7.out hb2
              obtain ⟨_, m, ⟨_, _, q⟩, _⟩ := q
              rw [← z4, ← z5] at q
              rcases q with ⟨q, _⟩ | ⟨q, _⟩ | ⟨_, y1, y2, y3, s, y4, y5⟩
              · omega
              · omega
              · refine h1 o _ ⟨hb2, by rw [z3, List.length_drop]; omega, by rw [z3, numU_drop3, List.length_drop]; omega, rfl, s, ?_, y5⟩
                rw [z3, numU_drop3, List.drop_drop]; exact y4)
          have H3 := Lib.hid h3
          have H4 := Lib.hid (Q4.out.trans h4)
          clear h1 h3 h4 RU
          go_wp2_with fail
          go_ret
          exact .inr ⟨NO.out, ⟨_, rfl⟩, ⟨_, H3.out⟩, H4.out⟩
      · have k2' : ((kd : Int) == 2) = false := by rw [beq_eq_false_iff_ne]; omega
        have NOT2 := Lib.hid k2
        have QB := Lib.hid (RD.out.bad_put true)
        obtain ⟨_, _, _, c1, _, f1⟩ := RD.out.cells
        clear k2
        go_wp2_with fail
        go_ret
        refine .inr ⟨fun o l' q => ?_, ⟨_, rfl⟩, ⟨_, QB.out.1⟩, Q4.out.trans QB.out.2⟩
        cases hb2 : b2 with
        | true => exact Q8.out hb2 o l' q
        | false =>
          obtain ⟨z1, z2, z3, z4, z5⟩ := Q7.out hb2
          obtain ⟨_, m, ⟨_, _, q⟩, _⟩ := q
          rw [← z4] at q
          rcases q with ⟨q, _⟩ | ⟨q, _⟩ | ⟨q, _⟩
          · exact NOT0.out q
          · exact NOT1.out q
          · exact NOT2.out q
end Go.Proofs.YtphakpikalmghaaGreat.Un
namespace Go.Proofs.YtphakpikalmghaaGreat.Un
open Go Go.RowKit Go.ChangeMaps Go.MapKept Go.Mg Go.Hf Go.Mt Go.Proofs.YtphakpikalmghaaGreat.Hu Go.Proofs.YtphakpikalmghaaGreat.He Go.Proofs.YtphakpikalmghaaGreat.Rd Go.Proofs.YtphakpikalmghaaGreat.Bw Go.Proofs.YtphakpikalmghaaGreat.Ma

theorem unYes_le {b o : List UInt8} {m : Nat} (h : Bk.UnYes b o m) : m ≤ b.length := by
  obtain ⟨_, _, h⟩ := h
  rcases h with ⟨_, h, _, rfl⟩ | ⟨_, _, h, _, rfl⟩ | ⟨_, _, h, rfl, _⟩ <;> exact h
def UnPostP (w : World) (b : List UInt8) (e : Ending) (w' : World) : Prop :=
  (∃ o m a c, Bk.UnYes b o m ∧ e = .returned (.tuple #[.slice a o.length c, .int .i64 (m : Nat), .bool true]) ∧ SlR w' 1 (.slice a o.length c) o.length (o.map u8c) ∧ (∀ k, (Value.slice a o.length c).ownBlock = some k → w.heap.size ≤ k) ∧ Kp (fun _ => False) w w') ∨
  ((∀ o m, ¬ Bk.UnYes b o m) ∧ e = .returned (.tuple #[.slice none 0 0, .int .i64 0, .bool false]) ∧ Kp (fun _ => False) w w')
theorem own_some {w : World} {a : Option Addr} {c : Nat} {b : List UInt8} (h : SlR w 1 (.slice a b.length c) b.length (b.map u8c)) (h0 : 0 < b.length) {k : Nat} (hk : (Value.slice a b.length c).ownBlock = some k) : k < w.heap.size := by
  obtain ⟨g, o, rfl, hg, _⟩ := byts_at h h0
  have := own_b hk
  omega
set_option maxRecDepth 100000 in
set_option maxHeartbeats 1000000 in
theorem unrow_p (w : World) (b : List UInt8) (a : Option Addr) (c : Nat) (h : SlR w 1 (.slice a b.length c) b.length (b.map u8c)) (hl : b.length ≤ 10000) :
    Calls Tryz.prog 13 #[.slice a b.length c] w (UnPostP w b) := by
  have KA := Lib.hid (kp_alloc w (.cells #[.slice a b.length c, .bool false] 44))
  have RD : Rdr (w.alloc (.cells #[.slice a b.length c, .bool false] 44)) w.heap.size b false := by
    refine ⟨a, c, alloc_at w _, h.kp KA.out (fun _ _ q => q), fun h0 k hk => ?_⟩
    have := own_some h h0 hk
    omega
  have RW := Lib.hid (row_p RD hl)
  have HUL := Lib.hid (fun o m => unYes_le (b := b) (o := o) (m := m))
  obtain ⟨n, hn⟩ : ∃ n, n = b.length := ⟨_, rfl⟩
  rw [← hn] at RW KA hl ⊢
  have HN := Lib.hid hn
  clear h RD hn
  go_enter Tryz.func13, Tryz.ntmps13
  go_wp2_with fail
  refine RW.out.mono ?_
  rintro e w1 (⟨o, l', a1, c1, ⟨_, m, hy, hl'⟩, rfl, h3, h4, h5, h6⟩ | ⟨h1, ⟨v, rfl⟩, ⟨l', h3⟩, h4⟩)
  · obtain ⟨a2, c2, t0, t1, _⟩ := h5.cells
    have HY := Lib.hid hy
    have H3 := Lib.hid h3
    have H4 := Lib.hid h4
    have K1 := Lib.hid (KA.out.up h6 (fun i e => by rw [e]; exact Nat.le_refl _))
    have hm := HUL.out o m hy
    have hll : l'.length = n - m := by rw [hl', List.length_drop, HN.out]
    rw [hll] at t0
    rw [← HN.out] at hm
    have hw : IntKind.i64.wrap ((n : Int) - ((n - m : Nat) : Int)) = (m : Int) := by rw [IntKind.wrap_i64]; omega
    obtain ⟨z, hz⟩ : ∃ z, z = n - m := ⟨_, rfl⟩
    rw [← hz] at t0 hw
    have KN : ∀ q, Kp (fun _ => False) w1 (w1.drewN q) := fun q => ⟨rfl, rfl, rfl, Nat.le_refl _, fun _ _ _ => rfl⟩
    have FIN := Lib.hid (fun q => K1.out.trans (KN q))
    have H3' := Lib.hid (fun q => h3.kp (KN q) (fun _ _ q => q))
    clear hy h3 h4 h5 h6 hl' hll hm hz RW KN
    go_wp2_with fail
    go_quiet (fail)
    go_wp2_with fail
    go_ret3
    refine .inl ⟨o, m, a1, c1, HY.out, rfl, H3'.out _, fun k hk => ?_, FIN.out _⟩
    have := H4.out k hk
    simp at this
    omega
  · obtain ⟨_, _, _, t1, _⟩ := h3.cells
    have NO : Hid (∀ o m, ¬ Bk.UnYes b o m) := Lib.hid (fun o m q => h1 o _ ⟨rfl, m, q, rfl⟩)
    have K1 := Lib.hid (KA.out.up h4 (fun i e => by rw [e]; exact Nat.le_refl _))
    clear h1 h3 h4 RW
    go_wp2_with fail
    go_ret3
    exact .inr ⟨NO.out, rfl, K1.out⟩
end Go.Proofs.YtphakpikalmghaaGreat.Un
namespace Go.Proofs.YtphakpikalmghaaGreat.Un
open Go Go.RowKit Go.ChangeMaps Go.MapKept Go.Mg Go.Hf Go.Mt Go.Proofs.YtphakpikalmghaaGreat.Hu Go.Proofs.YtphakpikalmghaaGreat.He Go.Proofs.YtphakpikalmghaaGreat.Rd Go.Proofs.YtphakpikalmghaaGreat.Bw Go.Proofs.YtphakpikalmghaaGreat.Ma

def UnQ (o : List UInt8) (m : Nat) (ok : Bool) (w : World) (e : Ending) (w' : World) : Prop :=
  ∃ a c, e = .returned (.tuple #[.slice a o.length c, .int .i64 (m : Nat), .bool ok]) ∧ SlR w' 1 (.slice a o.length c) o.length (o.map u8c) ∧ Kp (fun _ => False) w w'
theorem unrow_both (b : List UInt8) (hl : b.length ≤ 2000) : ∃ o m ok,
    (∀ (w : World) (a : Option Addr) (c : Nat), SlR w 1 (.slice a b.length c) b.length (b.map u8c) → Calls Tryz.prog 13 #[.slice a b.length c] w (UnQ o m ok w)) ∧
    (∀ (w : World) (a : Option Addr) (c : Nat), SlR w 1 (.slice a b.length c) b.length (b.map u8c) → Calls Tryz.prog 14 #[.slice a b.length c] w (UnQ o m ok w)) ∧
    (∀ o' m', Bk.UnYes b o' m' → o = o' ∧ m = m' ∧ ok = true) := by
  by_cases h : ∃ o m, Bk.UnYes b o m
  · obtain ⟨o, m, h⟩ := h
    refine ⟨o, m, true, fun w a c hs => ?_, fun w a c hs => ?_, fun o' m' h' => ⟨(h.one h').1, (h.one h').2, rfl⟩⟩
    · refine (unrow_p w b a c hs (by omega)).mono ?_
      rintro e w' (⟨o', m', a', c', h1, rfl, h3, _, h5⟩ | ⟨h1, _⟩)
      · obtain ⟨rfl, rfl⟩ := h.one h1
        exact ⟨a', c', rfl, h3, h5⟩
      · exact absurd h (h1 o m)
    · refine (unrow_d w b a c hs hl).mono ?_
      rintro e w' (⟨o', m', a', c', h1, rfl, h3, h5⟩ | ⟨h1, _⟩)
      · obtain ⟨rfl, rfl⟩ := h.one h1
        exact ⟨a', c', rfl, h3.sl.1, h5⟩
      · exact absurd h (h1 o m)
  · refine ⟨[], 0, false, fun w a c hs => ?_, fun w a c hs => ?_, fun o' m' h' => absurd ⟨o', m', h'⟩ h⟩
    · refine (unrow_p w b a c hs (by omega)).mono ?_
      rintro e w' (⟨o', m', a', c', h1, _⟩ | ⟨_, rfl, h5⟩)
      · exact absurd ⟨o', m', h1⟩ h
      · exact ⟨none, 0, rfl, SlR.nil _ _, h5⟩
    · refine (unrow_d w b a c hs hl).mono ?_
      rintro e w' (⟨o', m', a', c', h1, _⟩ | ⟨_, rfl, h5⟩)
      · exact absurd ⟨o', m', h1⟩ h
      · exact ⟨none, 0, rfl, SlR.nil _ _, h5⟩
end Go.Proofs.YtphakpikalmghaaGreat.Un
namespace Go.Proofs.YtphakpikalmghaaGreat.blockRows
open Go Go.RowKit Go.ChangeMaps Go.MapKept Go.Mg Go.Mt Go.Hf Go.Proofs.YtphakpikalmghaaGreat.Hu Go.Proofs.YtphakpikalmghaaGreat.Bw Go.Proofs.YtphakpikalmghaaGreat.He Go.Proofs.YtphakpikalmghaaGreat.Rd Go.Proofs.YtphakpikalmghaaGreat.Sq Go.Proofs.YtphakpikalmghaaGreat.Bk Go.Proofs.YtphakpikalmghaaGreat.Ma Go.Proofs.YtphakpikalmghaaGreat.Un Go.Proofs.YtphakpikalmghaaGreat.Op

theorem wpAnyH_mono {P : Program} {md : Region.Mode} {ops : Array Oper} {Q : Exit → Act → World → Prop} {S S' : World → Prop} (hS : ∀ w, S' w → S w) : ∀ (fuel : Nat) (listed : Array Bool) (a : Act) (w : World), wpAnyH P md ops Q S' fuel listed a w → wpAnyH P md ops Q S fuel listed a w
  | 0, _, _, _, h => h
  | fuel + 1, _, _, _, h => ⟨h.1, fun i hi => wpOp_mono (fun a' w' h' => ⟨hS _ h'.1, wpAnyH_mono hS fuel _ a' w' h'.2⟩) (h.2 i hi)⟩
set_option maxRecDepth 100000 in
set_option maxHeartbeats 1000000 in
theorem full (w : World) (a0 : Option Addr) (c0 : Nat) (l0 : List UInt8) (r0 : SlR w 1 (.slice a0 l0.length c0) l0.length (l0.map u8c)) (a1 : Option Addr) (c1 : Nat) (l1 : List UInt8) (r1 : SlR w 1 (.slice a1 l1.length c1) l1.length (l1.map u8c))
    (h0 : l0.length ≤ 500) (h1 : l1.length ≤ 1500) :
    Calls Tryz.prog 5 #[.slice a0 l0.length c0, .slice a1 l1.length c1] w (LawPost w) := by
  obtain ⟨j0, hj0, hy0, hy1, hy2⟩ := info_parts infoU8c
  obtain ⟨o, m, ok, UP, UD, _⟩ := unrow_both l1 (by omega)
  unfold UnQ at UP UD
  have UP := Lib.hid UP
  have UD := Lib.hid (fun V (hV : Kp (fun _ => False) w V) => UD V a1 c1 (r1.kp hV (fun _ _ q => q)))
  have RP := Lib.hid (fun V (hV : Kp (fun _ => False) w V) => rowP_p V l0 a0 c0 (r0.kp hV (fun _ _ q => q)) (by omega))
  have RDD := Lib.hid (fun V (hV : Kp (fun _ => False) w V) => row7_d V l0 a0 c0 (r0.kp hV (fun _ _ q => q)) (by omega))
  unfold RowPost7 at RP RDD
  have R1 := Lib.hid (fun V (hV : Kp (fun _ => False) w V) => r1.kp hV (fun _ _ q => q))
  obtain ⟨R, hR⟩ : ∃ R, R = Bk.rowB l0 := ⟨_, rfl⟩
  rw [← hR] at RP RDD
  obtain ⟨n0, hn0⟩ : ∃ n0, n0 = l0.length := ⟨_, rfl⟩
  obtain ⟨n1, hn1⟩ : ∃ n1, n1 = l1.length := ⟨_, rfl⟩
  obtain ⟨no, hno⟩ : ∃ no, no = o.length := ⟨_, rfl⟩
  obtain ⟨nr, hnr⟩ : ∃ nr, nr = R.length := ⟨_, rfl⟩
  have HN1 := Lib.hid hn1
  have HNO := Lib.hid hno
  have HNR := Lib.hid hnr
  rw [← hn0] at RP RDD h0 ⊢
  rw [← hn1] at UP UD R1 h1 ⊢
  rw [← hno] at UP UD
  rw [← hnr] at RP RDD
  have b0 : decide (500 < n0) = false := decide_eq_false (by omega)
  have b0' : decide ((500 : Int) < (n0 : Int)) = false := decide_eq_false (by omega)
  have b1 : decide (1500 < n1) = false := decide_eq_false (by omega)
  have b1' : decide ((1500 : Int) < (n1 : Int)) = false := decide_eq_false (by omega)
  have NR := Lib.hid (nil_row w)
  have KA := Lib.hid (kp_alloc w (.cells #[] 5))
  have HU := Lib.hid (R1.out _ KA.out)
  have VS : Hid (∀ (V V' : World) a c, SlR V 1 (.slice a no c) no (o.map u8c) → Kp (fun _ => False) V V' → (convert 22 9 (.slice a no c)).run Tryz.prog V' = .ok (.string ⟨o.toArray⟩) V') := Lib.hid (fun V V' a c h hV => by
    have e : SlR V' 1 (.slice a no c) o.length (o.map u8c) := by rw [← HNO.out]; exact h.kp hV (fun _ _ q => q)
    exact strOf e)
  have VR : Hid (∀ (V V' : World) B a c, RowB B V (.slice a nr c) R → Kp (fun _ => False) V V' → (convert 22 9 (.slice a nr c)).run Tryz.prog V' = .ok (.string ⟨R.toArray⟩) V') := Lib.hid (fun V V' B a c h hV => by
    have := (h.kp0 hV).sl.1
    rw [← HNR.out] at this
    have e : SlR V' 1 (.slice a nr c) R.length (R.map u8c) := by rw [← HNR.out]; exact this
    exact strOf e)
  clear r0 r1 hR hn0 hn1 hno hnr
  go_enter Tryz.func5, Tryz.ntmps5
  go_wp2_with (at_builtin; refine wpList_appM (w0 := w) _ rfl _ _ 22 rfl 5 j0 _ 1 Tryz.underlying22 hj0 hy0 hy1 hy2 rfl (by decide) (by decide) u8c_1c (.slice (some ⟨w.heap.size, 0, none⟩) 0 0) [] rfl NR.out (.slice a1 n1 c1) n1 l1 rfl HU.out HN1.out.symm KA.out n1 (by simp) (by omega) ?_; intro a5 c5 w5 g1 g2 _; rw [List.nil_append] at g1; have G1 := Lib.hid (g1.sl.1); have G2 := Lib.hid g2; clear g1 g2)
  rw [← HN1.out] at G1
  refine (UP.out w5 a5 c5 G1.out).mono ?_
  rintro e w2 ⟨a2, c2, rfl, s2, k2⟩
  have S2 := Lib.hid s2
  have K2 := Lib.hid (G2.out.trans k2)
  clear s2 k2 UP
  go_wp2_with fail
  refine (UD.out w2 K2.out).mono ?_
  rintro e w3 ⟨a3, c3, rfl, s3, k3⟩
  have T2 := Lib.hid (fun V hV => VS.out w2 V a2 c2 S2.out (k3.trans hV))
  have T3 := Lib.hid (fun V hV => VS.out w3 V a3 c3 s3 hV)
  have K3 := Lib.hid (K2.out.trans k3)
  clear s3 k3 UD S2
  go_wp2_with fail
  have z2 := T2.out w3.drew (Kp.refl _ _).drew
  have z3 := T3.out w3.drew (Kp.refl _ _).drew
  have KR := Lib.hid K3.out.drew
  have LR := Lib.hid (Kp.refl (fun _ => False) w3).drew
  have mixed : Tryz.prog.follows .mixedOrders = true := by kernel_rfl
  have hS0 := And.intro z2 z3
  refine wp_region_held_drew (S := fun V => (convert 22 9 (.slice a2 no c2)).run Tryz.prog V = .ok (.string ⟨o.toArray⟩) V ∧ (convert 22 9 (.slice a3 no c3)).run Tryz.prog V = .ok (.string ⟨o.toArray⟩) V) mixed hS0 (fun _ => ?_)
  refine' wpAnyH_take (i := 0) (oi := ?oi1) (v := ?v1) ?hop1 ?hs1 ?hf1 ?hr1 ?hq1 ?hy1 hS0 ?rest1
  case hop1 => (simp only [List.getElem?_toArray, List.getElem?_cons_zero]; exact rfl)
  case hs1 => kernel_rfl
  case hf1 => kernel_rfl
  case hr1 => kernel_rfl
  case hq1 => exact fun _ _ _ h => h
  case hy1 =>
    refine Or.inl ⟨by rfl, ?_⟩
    intro w' hSw
    obtain ⟨e0, e1⟩ := hSw
    go_simp
    first | done | with_reducible rfl
  simp only [Act.put, List.setIfInBounds_toArray, List.set_cons_zero, List.set_cons_succ]
  refine' wpAnyH_take (i := 3) (oi := ?oi2) (v := ?v2) ?hop2 ?hs2 ?hf2 ?hr2 ?hq2 ?hy2 hS0 ?rest2
  case hop2 => (simp only [List.getElem?_toArray, List.getElem?_cons_succ, List.getElem?_cons_zero]; exact rfl)
  case hs2 => kernel_rfl
  case hf2 => kernel_rfl
  case hr2 => kernel_rfl
  case hq2 => exact fun _ _ _ h => h
  case hy2 =>
    refine Or.inl ⟨by rfl, ?_⟩
    intro w' hSw
    obtain ⟨e0, e1⟩ := hSw
    go_simp
    first | done | with_reducible rfl
  simp only [Act.put, List.setIfInBounds_toArray, List.set_cons_zero, List.set_cons_succ]
  refine wpAnyH_ready (rs := [1]) (by kernel_rfl) (by simp) ?_
  refine' AllReadyH.cons ?ho3 ?h3 ?hs3
  case ho3 => (simp only [List.getElem?_toArray, List.getElem?_cons_succ, List.getElem?_cons_zero]; exact rfl)
  case h3 =>
    intro K hK
    go_simp
    refine (RP.out _ KR.out).mono ?_
    rintro e V4 ⟨a7, c7, rfl, r7, k7⟩
    have K4 := Lib.hid (KR.out.trans k7)
    have L4 := Lib.hid (LR.out.trans k7)
    have Z7 := Lib.hid (fun V' hV' => VR.out V4 V' _ a7 c7 r7 hV')
    clear hS0 z2 z3 r7 k7
    have hS0 := And.intro (T2.out V4 L4.out) (T3.out V4 L4.out)
    go_simp
    refine hK.out _ _ hS0 (fun _ => ?_)
    clear hK K
    try simp only [Act.put, List.setIfInBounds_toArray, List.set_cons_zero, List.set_cons_succ]
    refine wpAnyH_mono (S' := fun V => (convert 22 9 (.slice a7 nr c7)).run Tryz.prog V = .ok (.string ⟨R.toArray⟩) V ∧ (convert 22 9 (.slice a2 no c2)).run Tryz.prog V = .ok (.string ⟨o.toArray⟩) V ∧ (convert 22 9 (.slice a3 no c3)).run Tryz.prog V = .ok (.string ⟨o.toArray⟩) V) (fun _ h => h.2) _ _ _ _ ?_
    have hS0 := And.intro (Z7.out V4 (Kp.refl _ _)) hS0
    refine' wpAnyH_take (i := 2) (oi := ?oi4) (v := ?v4) ?hop4 ?hs4 ?hf4 ?hr4 ?hq4 ?hy4 hS0 ?rest4
    case hop4 => (simp only [List.getElem?_toArray, List.getElem?_cons_succ, List.getElem?_cons_zero]; exact rfl)
    case hs4 => kernel_rfl
    case hf4 => kernel_rfl
    case hr4 => kernel_rfl
    case hq4 => exact fun _ _ _ h => h
    case hy4 =>
      refine Or.inl ⟨by rfl, ?_⟩
      intro w' hSw
      obtain ⟨e0, e1, e2⟩ := hSw
      go_simp
      first | done | with_reducible rfl
    simp only [Act.put, List.setIfInBounds_toArray, List.set_cons_zero, List.set_cons_succ]
    refine wpAnyH_ready (rs := [4]) (by kernel_rfl) (by simp) ?_
    refine' AllReadyH.cons ?hoA0 ?hA0 AllReadyH.nil
    case hoA0 => (simp only [List.getElem?_toArray, List.getElem?_cons_succ, List.getElem?_cons_zero]; exact rfl)
    intro K hK
    go_simp
    refine (RDD.out _ K4.out).mono ?_
    rintro e V5 ⟨a8, c8, rfl, r8, k8⟩
    have K5 := Lib.hid (K4.out.trans k8)
    have L5 := Lib.hid (L4.out.trans k8)
    have Z8 := Lib.hid (fun V' hV' => VR.out V5 V' _ a8 c8 r8 hV')
    clear hS0
    have hS0 := And.intro (Z7.out V5 k8) (And.intro (T2.out V5 L5.out) (T3.out V5 L5.out))
    have Y7 := Lib.hid (fun V' hV' => Z7.out V' (k8.trans hV'))
    clear r8 k8
    go_simp
    refine hK.out _ _ hS0 (fun _ => ?_)
    clear hK K
    try simp only [Act.put, List.setIfInBounds_toArray, List.set_cons_zero, List.set_cons_succ]
    refine wpAnyH_mono (S' := fun V => (convert 22 9 (.slice a8 nr c8)).run Tryz.prog V = .ok (.string ⟨R.toArray⟩) V ∧ (convert 22 9 (.slice a7 nr c7)).run Tryz.prog V = .ok (.string ⟨R.toArray⟩) V ∧ (convert 22 9 (.slice a2 no c2)).run Tryz.prog V = .ok (.string ⟨o.toArray⟩) V ∧ (convert 22 9 (.slice a3 no c3)).run Tryz.prog V = .ok (.string ⟨o.toArray⟩) V) (fun _ h => h.2) _ _ _ _ ?_
    have hS0 := And.intro (Z8.out V5 (Kp.refl _ _)) hS0
    refine' wpAnyH_take (i := 5) (oi := ?oi5) (v := ?v5) ?hop5 ?hs5 ?hf5 ?hr5 ?hq5 ?hy5 hS0 ?rest5
    case hop5 => (simp only [List.getElem?_toArray, List.getElem?_cons_succ, List.getElem?_cons_zero]; exact rfl)
    case hs5 => kernel_rfl
    case hf5 => kernel_rfl
    case hr5 => kernel_rfl
    case hq5 => exact fun _ _ _ h => h
    case hy5 =>
      refine Or.inl ⟨by rfl, ?_⟩
      intro w' hSw
      obtain ⟨e0, e1, e2, e3⟩ := hSw
      go_simp
      first | done | with_reducible rfl
    simp only [Act.put, List.setIfInBounds_toArray, List.set_cons_zero, List.set_cons_succ]
    refine' wpAnyH_take (i := 6) (oi := ?oi6) (v := ?v6) ?hop6 ?hs6 ?hf6 ?hr6 ?hq6 ?hy6 hS0 ?rest6
    case hop6 => (simp only [List.getElem?_toArray, List.getElem?_cons_succ, List.getElem?_cons_zero]; exact rfl)
    case hs6 => kernel_rfl
    case hf6 => kernel_rfl
    case hr6 => kernel_rfl
    case hq6 => exact fun _ _ _ h => h
    case hy6 =>
      refine Or.inl ⟨by rfl, ?_⟩
      intro w' hSw
      obtain ⟨e0, e1, e2, e3⟩ := hSw
      go_simp
      first | done | with_reducible rfl
    simp only [Act.put, List.setIfInBounds_toArray, List.set_cons_zero, List.set_cons_succ]
    refine' wpAnyH_take (i := 7) (oi := ?oi7) (v := ?v7) ?hop7 ?hs7 ?hf7 ?hr7 ?hq7 ?hy7 hS0 ?rest7
    case hop7 => (simp only [List.getElem?_toArray, List.getElem?_cons_succ, List.getElem?_cons_zero]; exact rfl)
    case hs7 => kernel_rfl
    case hf7 => kernel_rfl
    case hr7 => kernel_rfl
    case hq7 => exact fun _ _ _ h => h
    case hy7 =>
      refine Or.inl ⟨by rfl, ?_⟩
      intro w' hSw
      obtain ⟨e0, e1, e2, e3⟩ := hSw
      go_simp
      first | done | with_reducible rfl
    simp only [Act.put, List.setIfInBounds_toArray, List.set_cons_zero, List.set_cons_succ]
    refine' wpAnyH_take (i := 8) (oi := ?oi8) (v := ?v8) ?hop8 ?hs8 ?hf8 ?hr8 ?hq8 ?hy8 hS0 ?rest8
    case hop8 => (simp only [List.getElem?_toArray, List.getElem?_cons_succ, List.getElem?_cons_zero]; exact rfl)
    case hs8 => kernel_rfl
    case hf8 => kernel_rfl
    case hr8 => kernel_rfl
    case hq8 => exact fun _ _ _ h => h
    case hy8 =>
      refine Or.inl ⟨by rfl, ?_⟩
      intro w' hSw
      obtain ⟨e0, e1, e2, e3⟩ := hSw
      go_simp
      first | done | with_reducible rfl
    simp only [Act.put, List.setIfInBounds_toArray, List.set_cons_zero, List.set_cons_succ]
    refine' wpAnyH_take (i := 9) (oi := ?oi9) (v := ?v9) ?hop9 ?hs9 ?hf9 ?hr9 ?hq9 ?hy9 hS0 ?rest9
    case hop9 => (simp only [List.getElem?_toArray, List.getElem?_cons_succ, List.getElem?_cons_zero]; exact rfl)
    case hs9 => kernel_rfl
    case hf9 => kernel_rfl
    case hr9 => kernel_rfl
    case hq9 => exact fun _ _ _ h => h
    case hy9 =>
      refine Or.inl ⟨by rfl, ?_⟩
      intro w' hSw
      obtain ⟨e0, e1, e2, e3⟩ := hSw
      go_simp
      first | done | with_reducible rfl
    simp only [Act.put, List.setIfInBounds_toArray, List.set_cons_zero, List.set_cons_succ]
    refine' wpAnyH_take (i := 10) (oi := ?oi10) (v := ?v10) ?hop10 ?hs10 ?hf10 ?hr10 ?hq10 ?hy10 hS0 ?rest10
    case hop10 => (simp only [List.getElem?_toArray, List.getElem?_cons_succ, List.getElem?_cons_zero]; exact rfl)
    case hs10 => kernel_rfl
    case hf10 => kernel_rfl
    case hr10 => kernel_rfl
    case hq10 => exact fun _ _ _ h => h
    case hy10 =>
      refine Or.inl ⟨by rfl, ?_⟩
      intro w' hSw
      obtain ⟨e0, e1, e2, e3⟩ := hSw
      go_simp
      first | done | with_reducible rfl
    simp only [Act.put, List.setIfInBounds_toArray, List.set_cons_zero, List.set_cons_succ]
    refine' wpAnyH_take (i := 11) (oi := ?oi11) (v := ?v11) ?hop11 ?hs11 ?hf11 ?hr11 ?hq11 ?hy11 hS0 ?rest11
    case hop11 => (simp only [List.getElem?_toArray, List.getElem?_cons_succ, List.getElem?_cons_zero]; exact rfl)
    case hs11 => kernel_rfl
    case hf11 => kernel_rfl
    case hr11 => kernel_rfl
    case hq11 => exact fun _ _ _ h => h
    case hy11 =>
      refine Or.inl ⟨by rfl, ?_⟩
      intro w' hSw
      obtain ⟨e0, e1, e2, e3⟩ := hSw
      go_simp
      first | done | with_reducible rfl
    simp only [Act.put, List.setIfInBounds_toArray, List.set_cons_zero, List.set_cons_succ]
    refine' wpAnyH_take (i := 12) (oi := ?oi12) (v := ?v12) ?hop12 ?hs12 ?hf12 ?hr12 ?hq12 ?hy12 hS0 ?rest12
    case hop12 => (simp only [List.getElem?_toArray, List.getElem?_cons_succ, List.getElem?_cons_zero]; exact rfl)
    case hs12 => kernel_rfl
    case hf12 => kernel_rfl
    case hr12 => kernel_rfl
    case hq12 => exact fun _ _ _ h => h
    case hy12 =>
      refine Or.inl ⟨by rfl, ?_⟩
      intro w' hSw
      obtain ⟨e0, e1, e2, e3⟩ := hSw
      go_simp
      first | done | with_reducible rfl
    simp only [Act.put, List.setIfInBounds_toArray, List.set_cons_zero, List.set_cons_succ]
    refine' wpAnyH_take (i := 13) (oi := ?oi13) (v := ?v13) ?hop13 ?hs13 ?hf13 ?hr13 ?hq13 ?hy13 hS0 ?rest13
    case hop13 => (simp only [List.getElem?_toArray, List.getElem?_cons_succ, List.getElem?_cons_zero]; exact rfl)
    case hs13 => kernel_rfl
    case hf13 => kernel_rfl
    case hr13 => kernel_rfl
    case hq13 => exact fun _ _ _ h => h
    case hy13 =>
      refine Or.inl ⟨by rfl, ?_⟩
      intro w' hSw
      obtain ⟨e0, e1, e2, e3⟩ := hSw
      go_simp
      first | done | with_reducible rfl
    simp only [Act.put, List.setIfInBounds_toArray, List.set_cons_zero, List.set_cons_succ]
    refine' wpAnyH_take (i := 14) (oi := ?oi14) (v := ?v14) ?hop14 ?hs14 ?hf14 ?hr14 ?hq14 ?hy14 hS0 ?rest14
    case hop14 => (simp only [List.getElem?_toArray, List.getElem?_cons_succ, List.getElem?_cons_zero]; exact rfl)
    case hs14 => kernel_rfl
    case hf14 => kernel_rfl
    case hr14 => kernel_rfl
    case hq14 => exact fun _ _ _ h => h
    case hy14 =>
      refine Or.inl ⟨by rfl, ?_⟩
      intro w' hSw
      obtain ⟨e0, e1, e2, e3⟩ := hSw
      go_simp
      first | done | with_reducible rfl
    simp only [Act.put, List.setIfInBounds_toArray, List.set_cons_zero, List.set_cons_succ]
    refine' wpAnyH_take (i := 15) (oi := ?oi15) (v := ?v15) ?hop15 ?hs15 ?hf15 ?hr15 ?hq15 ?hy15 hS0 ?rest15
    case hop15 => (simp only [List.getElem?_toArray, List.getElem?_cons_succ, List.getElem?_cons_zero]; exact rfl)
    case hs15 => kernel_rfl
    case hf15 => kernel_rfl
    case hr15 => kernel_rfl
    case hq15 => exact fun _ _ _ h => h
    case hy15 =>
      refine Or.inl ⟨by rfl, ?_⟩
      intro w' hSw
      obtain ⟨e0, e1, e2, e3⟩ := hSw
      go_simp
      first | done | with_reducible rfl
    simp only [Act.put, List.setIfInBounds_toArray, List.set_cons_zero, List.set_cons_succ]
    refine' wpAnyH_take (i := 16) (oi := ?oi16) (v := ?v16) ?hop16 ?hs16 ?hf16 ?hr16 ?hq16 ?hy16 hS0 ?rest16
    case hop16 => (simp only [List.getElem?_toArray, List.getElem?_cons_succ, List.getElem?_cons_zero]; exact rfl)
    case hs16 => kernel_rfl
    case hf16 => kernel_rfl
    case hr16 => kernel_rfl
    case hq16 => exact fun _ _ _ h => h
    case hy16 =>
      refine Or.inl ⟨by rfl, ?_⟩
      intro w' hSw
      obtain ⟨e0, e1, e2, e3⟩ := hSw
      go_simp
      first | done | with_reducible rfl
    simp only [Act.put, List.setIfInBounds_toArray, List.set_cons_zero, List.set_cons_succ]
    refine' wpAnyH_take (i := 17) (oi := ?oi17) (v := ?v17) ?hop17 ?hs17 ?hf17 ?hr17 ?hq17 ?hy17 hS0 ?rest17
    case hop17 => (simp only [List.getElem?_toArray, List.getElem?_cons_succ, List.getElem?_cons_zero]; exact rfl)
    case hs17 => kernel_rfl
    case hf17 => kernel_rfl
    case hr17 => kernel_rfl
    case hq17 => exact fun _ _ _ h => h
    case hy17 =>
      refine Or.inl ⟨by rfl, ?_⟩
      intro w' hSw
      obtain ⟨e0, e1, e2, e3⟩ := hSw
      go_simp
      first | done | with_reducible rfl
    simp only [Act.put, List.setIfInBounds_toArray, List.set_cons_zero, List.set_cons_succ]
    refine' wpAnyH_take (i := 18) (oi := ?oi18) (v := ?v18) ?hop18 ?hs18 ?hf18 ?hr18 ?hq18 ?hy18 hS0 ?rest18
    case hop18 => (simp only [List.getElem?_toArray, List.getElem?_cons_succ, List.getElem?_cons_zero]; exact rfl)
    case hs18 => kernel_rfl
    case hf18 => kernel_rfl
    case hr18 => kernel_rfl
    case hq18 => exact fun _ _ _ h => h
    case hy18 =>
      refine Or.inl ⟨by rfl, ?_⟩
      intro w' hSw
      obtain ⟨e0, e1, e2, e3⟩ := hSw
      go_simp
      first | done | with_reducible rfl
    simp only [Act.put, List.setIfInBounds_toArray, List.set_cons_zero, List.set_cons_succ]
    refine' wpAnyH_take (i := 19) (oi := ?oi19) (v := ?v19) ?hop19 ?hs19 ?hf19 ?hr19 ?hq19 ?hy19 hS0 ?rest19
    case hop19 => (simp only [List.getElem?_toArray, List.getElem?_cons_succ, List.getElem?_cons_zero]; exact rfl)
    case hs19 => kernel_rfl
    case hf19 => kernel_rfl
    case hr19 => kernel_rfl
    case hq19 => exact fun _ _ _ h => h
    case hy19 =>
      refine Or.inl ⟨by rfl, ?_⟩
      intro w' hSw
      obtain ⟨e0, e1, e2, e3⟩ := hSw
      go_simp
      first | done | with_reducible rfl
    simp only [Act.put, List.setIfInBounds_toArray, List.set_cons_zero, List.set_cons_succ]
    refine' wpAnyH_take (i := 20) (oi := ?oi20) (v := ?v20) ?hop20 ?hs20 ?hf20 ?hr20 ?hq20 ?hy20 hS0 ?rest20
    case hop20 => (simp only [List.getElem?_toArray, List.getElem?_cons_succ, List.getElem?_cons_zero]; exact rfl)
    case hs20 => kernel_rfl
    case hf20 => kernel_rfl
    case hr20 => kernel_rfl
    case hq20 => exact fun _ _ _ h => h
    case hy20 =>
      refine Or.inl ⟨by rfl, ?_⟩
      intro w' hSw
      obtain ⟨e0, e1, e2, e3⟩ := hSw
      go_simp
      first | done | with_reducible rfl
    simp only [Act.put, List.setIfInBounds_toArray, List.set_cons_zero, List.set_cons_succ]
    refine' wpAnyH_take (i := 21) (oi := ?oi21) (v := ?v21) ?hop21 ?hs21 ?hf21 ?hr21 ?hq21 ?hy21 hS0 ?rest21
    case hop21 => (simp only [List.getElem?_toArray, List.getElem?_cons_succ, List.getElem?_cons_zero]; exact rfl)
    case hs21 => kernel_rfl
    case hf21 => kernel_rfl
    case hr21 => kernel_rfl
    case hq21 => exact fun _ _ _ h => h
    case hy21 =>
      refine Or.inl ⟨by rfl, ?_⟩
      intro w' hSw
      obtain ⟨e0, e1, e2, e3⟩ := hSw
      go_simp
      first | done | with_reducible rfl
    simp only [Act.put, List.setIfInBounds_toArray, List.set_cons_zero, List.set_cons_succ]
    refine' wpAnyH_take (i := 22) (oi := ?oi22) (v := ?v22) ?hop22 ?hs22 ?hf22 ?hr22 ?hq22 ?hy22 hS0 ?rest22
    case hop22 => (simp only [List.getElem?_toArray, List.getElem?_cons_succ, List.getElem?_cons_zero]; exact rfl)
    case hs22 => kernel_rfl
    case hf22 => kernel_rfl
    case hr22 => kernel_rfl
    case hq22 => exact fun _ _ _ h => h
    case hy22 =>
      refine Or.inl ⟨by rfl, ?_⟩
      intro w' hSw
      obtain ⟨e0, e1, e2, e3⟩ := hSw
      go_simp
      first | done | with_reducible rfl
    simp only [Act.put, List.setIfInBounds_toArray, List.set_cons_zero, List.set_cons_succ]
    refine' wpAnyH_take (i := 23) (oi := ?oi23) (v := ?v23) ?hop23 ?hs23 ?hf23 ?hr23 ?hq23 ?hy23 hS0 ?rest23
    case hop23 => (simp only [List.getElem?_toArray, List.getElem?_cons_succ, List.getElem?_cons_zero]; exact rfl)
    case hs23 => kernel_rfl
    case hf23 => kernel_rfl
    case hr23 => kernel_rfl
    case hq23 => exact fun _ _ _ h => h
    case hy23 =>
      refine Or.inl ⟨by rfl, ?_⟩
      intro w' hSw
      obtain ⟨e0, e1, e2, e3⟩ := hSw
      go_simp
      first | done | with_reducible rfl
    simp only [Act.put, List.setIfInBounds_toArray, List.set_cons_zero, List.set_cons_succ]
    refine' wpAnyH_take (i := 24) (oi := ?oi24) (v := ?v24) ?hop24 ?hs24 ?hf24 ?hr24 ?hq24 ?hy24 hS0 ?rest24
    case hop24 => (simp only [List.getElem?_toArray, List.getElem?_cons_succ, List.getElem?_cons_zero]; exact rfl)
    case hs24 => kernel_rfl
    case hf24 => kernel_rfl
    case hr24 => kernel_rfl
    case hq24 => exact fun _ _ _ h => h
    case hy24 =>
      refine Or.inl ⟨by rfl, ?_⟩
      intro w' hSw
      obtain ⟨e0, e1, e2, e3⟩ := hSw
      go_simp
      first | done | with_reducible rfl
    simp only [Act.put, List.setIfInBounds_toArray, List.set_cons_zero, List.set_cons_succ]
    refine wpAnyH_ready (rs := [25]) (by kernel_rfl) (by simp) ?_
    refine' AllReadyH.cons ?hoA1 ?hA1 AllReadyH.nil
    case hoA1 => (simp only [List.getElem?_toArray, List.getElem?_cons_succ, List.getElem?_cons_zero]; exact rfl)
    intro K hK
    go_simp
    refine (known7_c _).mono ?_
    rintro e V6 ⟨rfl, k9⟩
    have K6 := Lib.hid (K5.out.trans k9)
    clear hS0
    have hS0 := And.intro (Z8.out V6 k9) (And.intro (Y7.out V6 k9) (And.intro (T2.out V6 (L5.out.trans k9)) (T3.out V6 (L5.out.trans k9))))
    clear k9
    go_simp
    refine hK.out _ _ hS0 (fun _ => ?_)
    clear hK K
    try simp only [Act.put, List.setIfInBounds_toArray, List.set_cons_zero, List.set_cons_succ]
    refine' wpAnyH_take (i := 26) (oi := ?oi25) (v := ?v25) ?hop25 ?hs25 ?hf25 ?hr25 ?hq25 ?hy25 hS0 ?rest25
    case hop25 => (simp only [List.getElem?_toArray, List.getElem?_cons_succ, List.getElem?_cons_zero]; exact rfl)
    case hs25 => kernel_rfl
    case hf25 => kernel_rfl
    case hr25 => kernel_rfl
    case hq25 => exact fun _ _ _ h => h
    case hy25 =>
      refine Or.inl ⟨by rfl, ?_⟩
      intro w' hSw
      obtain ⟨e0, e1, e2, e3⟩ := hSw
      go_simp
      first | done | with_reducible rfl
    simp only [Act.put, List.setIfInBounds_toArray, List.set_cons_zero, List.set_cons_succ]
    refine' wpAnyH_take (i := 27) (oi := ?oi26) (v := ?v26) ?hop26 ?hs26 ?hf26 ?hr26 ?hq26 ?hy26 hS0 ?rest26
    case hop26 => (simp only [List.getElem?_toArray, List.getElem?_cons_succ, List.getElem?_cons_zero]; exact rfl)
    case hs26 => kernel_rfl
    case hf26 => kernel_rfl
    case hr26 => kernel_rfl
    case hq26 => exact fun _ _ _ h => h
    case hy26 =>
      refine Or.inl ⟨by rfl, ?_⟩
      intro w' hSw
      obtain ⟨e0, e1, e2, e3⟩ := hSw
      go_simp
      first | done | with_reducible rfl
    simp only [Act.put, List.setIfInBounds_toArray, List.set_cons_zero, List.set_cons_succ]
    refine wpAnyH_done (by kernel_rfl) ?_ _
    go_wp2_with fail
    go_ret
    exact ⟨rfl, K6.out.below⟩
  exact AllReadyH.nil
set_option maxRecDepth 100000 in
set_option maxHeartbeats 1000000 in
theorem walk (w : World) (a0 : Option Addr) (c0 : Nat) (l0 : List UInt8) (w0 : SlR w 1 (.slice a0 l0.length c0) l0.length (l0.map u8c)) (a1 : Option Addr) (c1 : Nat) (l1 : List UInt8) (w1 : SlR w 1 (.slice a1 l1.length c1) l1.length (l1.map u8c)) :
    Calls Tryz.prog 5 #[.slice a0 l0.length c0, .slice a1 l1.length c1] w (LawPost w) := by
  by_cases h0 : l0.length ≤ 500
  · by_cases h1 : l1.length ≤ 1500
    · exact full w a0 c0 l0 w0 a1 c1 l1 w1 h0 h1
    · have b0 : decide (500 < l0.length) = false := decide_eq_false (by omega)
      have b0' : decide ((500 : Int) < (l0.length : Int)) = false := decide_eq_false (by omega)
      have b1 : decide (1500 < l1.length) = true := decide_eq_true (by omega)
      have b1' : decide ((1500 : Int) < (l1.length : Int)) = true := decide_eq_true (by omega)
      clear w0 w1 h0 h1
      go_enter Tryz.func5, Tryz.ntmps5
      go_wp2_with fail
      go_ret
      exact ⟨rfl, (Kp.refl (fun _ => False) w).below⟩
  · have b0 : decide (500 < l0.length) = true := decide_eq_true (by omega)
    have b0' : decide ((500 : Int) < (l0.length : Int)) = true := decide_eq_true (by omega)
    clear w0 w1 h0
    go_enter Tryz.func5, Tryz.ntmps5
    go_wp2_with fail
    go_ret
    exact ⟨rfl, (Kp.refl (fun _ => False) w).below⟩
end Go.Proofs.YtphakpikalmghaaGreat.blockRows
