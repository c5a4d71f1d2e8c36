/- plan's open. A session's step, in a Plan. plan's session. Shelf's pure side: what all its steps keep. -/
import Derived.Deep.RegionHeld3
import Derived.Deep.RegionLaw
import Derived.Laws.ResultCell
import Derived.Deep.DeepCutAuto
import Derived.Test.YtmioiaeiflbmhaaGreatX30
import Derived.Test.YtmioiaeiflbmhaaGreatX03
set_option linter.unusedVariables false
namespace Go.Proofs.YtmioiaeiflbmhaaGreat.Pl
open Go Go.RowKit Go.ChangeMaps Go.MapKept Go.Mg Go.Proofs.YtmioiaeiflbmhaaGreat.No Go.Proofs.YtmioiaeiflbmhaaGreat.Sh Go.Proofs.YtmioiaeiflbmhaaGreat.Str Go.Proofs.YtmioiaeiflbmhaaGreat.Ma
def AnsP (own : Nat → Int) (w : World) (p : Nat) (r : Pls × An) (e : Ending) (w' : World) : Prop := ∃ (a : Option Addr) (c : Nat) (own' : Nat → Int), e = .returned (.agg #[.int .i64 r.2.err, .int .i64 r.2.n, .slice a r.2.out.length c]) ∧
  RowB w.heap.size w' (.slice a r.2.out.length c) r.2.out ∧ PX own' w' p r.1 ∧ Stp own own' w w' ∧ ∀ b, (Value.slice a r.2.out.length c).ownBlock = some b → own' b = 0
theorem frame2 (w : World) (k : Int) (nm : ByteArray) (lv hd : Int) (d : Value) : ∃ W, W = (w.alloc (.cells #[.int .i64 k, .string nm, .int .i64 lv, .int .i64 hd, d] 25)).alloc (.cells #[.int .i64 0, .int .i64 0, .slice none 0 0] 35) ∧
    Kp (fun _ => False) w W ∧ W.heap[w.heap.size]? = some (.cells #[.int .i64 k, .string nm, .int .i64 lv, .int .i64 hd, d] 25 (0, 0)) ∧ W.heap[w.heap.size + 1]? = some (.cells #[.int .i64 0, .int .i64 0, .slice none 0 0] 35 (0, 0)) := by
  refine ⟨_, rfl, kp_new.trans kp_new, kp_new.at_ (alloc_at w _) (fun q => q), ?_⟩
  have := alloc_at (w.alloc (.cells #[.int .i64 k, .string nm, .int .i64 lv, .int .i64 hd, d] 25)) (.cells #[.int .i64 0, .int .i64 0, .slice none 0 0] 35)
  rwa [World.size_alloc] at this
theorem ans_fin {own own' : Nat → Int} {w W V : World} {p r : Nat} {X' : Pls} (hkW : Kp (fun _ => False) w W) (hr : W.heap[r]? = some (.cells #[.int .i64 0, .int .i64 0, .slice none 0 0] 35 (0, 0))) (hrw : w.heap.size ≤ r) (ho : own r = 0)
    (hX : PX own' V p X') (hS : Stp own own' W V) (x y : Int) (z : Value) :
    V.heap[r]? = some (.cells #[.int .i64 0, .int .i64 0, .slice none 0 0] 35 (0, 0)) ∧
    (((V.setCell ⟨r, 0, none⟩ (.int .i64 x)).setCell ⟨r, 1, none⟩ (.int .i64 y)).setCell ⟨r, 2, none⟩ z).heap[r]? = some (.cells #[.int .i64 x, .int .i64 y, z] 35 (0, 0)) ∧
    PX own' (((V.setCell ⟨r, 0, none⟩ (.int .i64 x)).setCell ⟨r, 1, none⟩ (.int .i64 y)).setCell ⟨r, 2, none⟩ z) p X' ∧
    Stp own own' w (((V.setCell ⟨r, 0, none⟩ (.int .i64 x)).setCell ⟨r, 1, none⟩ (.int .i64 y)).setCell ⟨r, 2, none⟩ z) ∧
    Kp (· = r) V (((V.setCell ⟨r, 0, none⟩ (.int .i64 x)).setCell ⟨r, 1, none⟩ (.int .i64 y)).setCell ⟨r, 2, none⟩ z) := by
  have hV := hS.k.at_ hr (fun q => q ho)
  have hrW := lt_of_at hr
  have h0 : own' r = 0 := (hS.o r hrW).trans ho
  have kr : Kp (· = r) V (((V.setCell ⟨r, 0, none⟩ (.int .i64 x)).setCell ⟨r, 1, none⟩ (.int .i64 y)).setCell ⟨r, 2, none⟩ z) := (((Kp.refl (· = r) V).setCell (p := ⟨r, 0, none⟩) (fun _ => rfl) _).setCell (p := ⟨r, 1, none⟩) (fun _ => rfl) _).setCell (p := ⟨r, 2, none⟩) (fun _ => rfl) _
  have h6 := setCell_at (i := 2) (setCell_at (i := 1) (setCell_at (i := 0) hV (.int .i64 x)) (.int .i64 y)) z
  refine ⟨hV, by simpa using h6, hX.kp0 (kr.mono (fun k _ q => by rw [q]; exact h0)), ?_, kr⟩
  have s1 : Stp own own' w V := (Stp.kp0 hkW).trans hS
  exact ⟨s1.k.trans2 kr (fun i hi q => by omega), s1.o⟩
set_option maxRecDepth 100000 in
set_option maxHeartbeats 4000000 in
theorem open_bad (own : Nat → Int) (w : World) (p : Nat) (X : Pls) (N : Nat) (h : PX own w p X) (hw : X.Wf N) (hN : N ≤ 30000) (cl k : Int) (nm : ByteArray) (lv hd : Int) (d : Value) (hb : lv < 1 ∨ 3 < lv ∨ 12 < nm.size) : Calls Tryz.prog 31 #[.pointer (some ⟨p, 0, none⟩), .int .i64 cl, .agg #[.int .i64 k, .string nm, .int .i64 lv, .int .i64 hd, d]] w (AnsP own w p (X, ⟨1, 0, []⟩)) := by
  have H := Lib.hid h
  have HO1 := Lib.hid (hw.P)
  clear h hw hN
  by_cases h1 : lv < 1
  · clear hb
    go_enter Tryz.func31, Tryz.ntmps31
    go_wp2_with fail
    have hr := alloc_at (w.alloc (.cells #[.int .i64 k, .string nm, .int .i64 lv, .int .i64 hd, d] 25)) (.cells #[.int .i64 1, .int .i64 0, .slice none 0 0] 35)
    rw [World.size_alloc] at hr
    have y0 := cell_of hr 0
    have y1 := cell_of hr 1
    have y2 := cell_of hr 2
    have kk : Kp (fun _ => False) w ((w.alloc (.cells #[.int .i64 k, .string nm, .int .i64 lv, .int .i64 hd, d] 25)).alloc (.cells #[.int .i64 1, .int .i64 0, .slice none 0 0] 35)) := kp_new.trans kp_new
    refine bodyPost_ret (v := .agg #[.int .i64 1, .int .i64 0, .slice none 0 0]) ?_ rfl ⟨none, 0, own, rfl, RowM.nil _ _ _, H.out.kp0 (kk.mono (fun _ _ q => q.elim)), Stp.kp0 kk, fun b hb => by cases hb⟩
    rw [results_cell1 rfl]
    simp [go_sem, y0, y1, y2]
  · by_cases h2 : 3 < lv
    · clear hb
      go_enter Tryz.func31, Tryz.ntmps31
      go_wp2_with fail
      have hr := alloc_at (w.alloc (.cells #[.int .i64 k, .string nm, .int .i64 lv, .int .i64 hd, d] 25)) (.cells #[.int .i64 1, .int .i64 0, .slice none 0 0] 35)
      rw [World.size_alloc] at hr
      have y0 := cell_of hr 0
      have y1 := cell_of hr 1
      have y2 := cell_of hr 2
      have kk : Kp (fun _ => False) w ((w.alloc (.cells #[.int .i64 k, .string nm, .int .i64 lv, .int .i64 hd, d] 25)).alloc (.cells #[.int .i64 1, .int .i64 0, .slice none 0 0] 35)) := kp_new.trans kp_new
      refine bodyPost_ret (v := .agg #[.int .i64 1, .int .i64 0, .slice none 0 0]) ?_ rfl ⟨none, 0, own, rfl, RowM.nil _ _ _, H.out.kp0 (kk.mono (fun _ _ q => q.elim)), Stp.kp0 kk, fun b hb => by cases hb⟩
      rw [results_cell1 rfl]
      simp [go_sem, y0, y1, y2]
    · have h3 : (12 : Int) < (nm.size : Int) := by omega
      clear hb
      go_enter Tryz.func31, Tryz.ntmps31
      go_wp2_with fail
      have hr := alloc_at (w.alloc (.cells #[.int .i64 k, .string nm, .int .i64 lv, .int .i64 hd, d] 25)) (.cells #[.int .i64 1, .int .i64 0, .slice none 0 0] 35)
      rw [World.size_alloc] at hr
      have y0 := cell_of hr 0
      have y1 := cell_of hr 1
      have y2 := cell_of hr 2
      have kk : Kp (fun _ => False) w ((w.alloc (.cells #[.int .i64 k, .string nm, .int .i64 lv, .int .i64 hd, d] 25)).alloc (.cells #[.int .i64 1, .int .i64 0, .slice none 0 0] 35)) := kp_new.trans kp_new
      refine bodyPost_ret (v := .agg #[.int .i64 1, .int .i64 0, .slice none 0 0]) ?_ rfl ⟨none, 0, own, rfl, RowM.nil _ _ _, H.out.kp0 (kk.mono (fun _ _ q => q.elim)), Stp.kp0 kk, fun b hb => by cases hb⟩
      rw [results_cell1 rfl]
      simp [go_sem, y0, y1, y2]
set_option maxRecDepth 100000 in
set_option maxHeartbeats 4000000 in
theorem open_none (own : Nat → Int) (w : World) (p : Nat) (X : Pls) (N : Nat) (h : PX own w p X) (hw : X.Wf N) (hN : N ≤ 30000) (cl k : Int) (nm : ByteArray) (lv hd : Int) (d : Value) (hl : 1 ≤ lv ∧ lv ≤ 3 ∧ nm.size ≤ 12) (hn : nm.size ≠ 0) (hp : (X.S.pin nm).2.2.2 ≠ 0) : Calls Tryz.prog 31 #[.pointer (some ⟨p, 0, none⟩), .int .i64 cl, .agg #[.int .i64 k, .string nm, .int .i64 lv, .int .i64 hd, d]] w (AnsP own w p ({ X with S := (X.S.pin nm).1 }, ⟨(X.S.pin nm).2.2.2, 0, []⟩)) := by
  obtain ⟨pu, sh, ms, ml, L, h⟩ := h
  obtain ⟨W, hW, hkW, hb, hr⟩ := frame2 w k nm lv hd d
  have h1W := h.kp0 (hkW.mono (fun _ _ q => q.elim))
  have HO0 := Lib.hid (h.new (Nat.le_refl w.heap.size))
  have HO1 := Lib.hid (h.new (Nat.le_succ w.heap.size))
  have HW1 := Lib.hid h1W
  have HB := Lib.hid hb
  have HR := Lib.hid hr
  have HK := Lib.hid hkW
  have HWF := Lib.hid hw
  have hl1 : ¬ lv < 1 := by omega
  have hl2 : ¬ 3 < lv := by omega
  have hl3 : ¬ (12 : Int) < (nm.size : Int) := by omega
  have b1 : W.cell? ⟨w.heap.size, 1, none⟩ = some (.string nm) := by rw [cell_of hb]; rfl
  have e0 := h1W.cells.1
  have e1 := h1W.cells.2.1
  have e0w := e0
  have e1w := e1
  rw [hW] at e0w e1w
  have hne := nonempty_of hn
  have CP := Lib.hid (pin_any X.S hw.S (hw.pns hN) nm W.drew (h1W.kp0 ((Kp.refl _ _).drew)).hsh)
  unfold PinPost at CP
  obtain ⟨S1, id, dict, er, hpin⟩ : ∃ S1 id dict er, X.S.pin nm = (S1, id, dict, er) := ⟨_, _, _, _, rfl⟩
  rw [hpin] at CP hp ⊢
  have hp : er ≠ 0 := hp
  have hpd : (er == 0) = false := by simpa using hp
  show Calls _ _ _ _ (AnsP own w p ({ X with S := S1 }, ⟨er, 0, []⟩))
  clear h h1W hb hr hkW hw hpin
  go_enter Tryz.func31, Tryz.ntmps31
  go_wp2_with fail
  rw [← hW]
  clear hW e0w e1w
  go_region_law ((go_simp; go_at_call 49; refine CP.out.mono ?_; rintro e V ⟨a, c, rfl, g1, g2, g3, g4⟩; have G1 := Lib.hid g1; have G2 := Lib.hid g2; clear g1 g2 g3 g4))
  all_goals
    obtain ⟨own', q1, q2⟩ : ∃ own', PX own' V p { X with S := S1 } ∧ Stp own own' W V := by
      obtain ⟨q1, q2⟩ := (HW1.out.kp0 ((Kp.refl _ _).drew)).shelf G2.out G1.out (fun k q => .inl q)
      exact ⟨_, ⟨pu, sh, ms, ml, L, q1⟩, (Stp.kp0 (Kp.refl _ _).drew).trans q2⟩
    have HXV := Lib.hid q1
    have HSV := Lib.hid q2
    clear q1 q2
    obtain ⟨hVa, h6, hX6, hS6, _⟩ := ans_fin HK.out HR.out (Nat.le_succ _) HO1.out HXV.out HSV.out (er) (0) (.slice none 0 0)
    have f0 : ∀ i, V.frozen? ⟨w.heap.size + 1, i, none⟩ = false := free_of hVa
    have c0 : V.cell? ⟨w.heap.size + 1, 0, none⟩ = some (.int .i64 0) := by rw [cell_of hVa]; rfl
    have c1 : V.cell? ⟨w.heap.size + 1, 1, none⟩ = some (.int .i64 0) := by rw [cell_of hVa]; rfl
    have c2 : V.cell? ⟨w.heap.size + 1, 2, none⟩ = some (.slice none 0 0) := by rw [cell_of hVa]; rfl
    have H6 := Lib.hid h6
    have HX6 := Lib.hid hX6
    have HS6 := Lib.hid hS6
    clear hVa h6 hX6 hS6
    go_wp2_with fail
    have y0 := cell_of H6.out 0
    have y1 := cell_of H6.out 1
    have y2 := cell_of H6.out 2
    refine bodyPost_ret (v := .agg #[.int .i64 (er), .int .i64 (0), .slice none 0 0]) ?_ rfl ?_
    · rw [results_cell1 rfl]
      simp [go_sem, y0, y1, y2]
    · exact ⟨none, 0, own', rfl, RowM.nil _ _ _, HX6.out, HS6.out, fun b hb => by cases hb⟩
set_option maxRecDepth 100000 in
set_option maxHeartbeats 4000000 in
theorem open_plain_no (own : Nat → Int) (w : World) (p : Nat) (X : Pls) (N : Nat) (h : PX own w p X) (hw : X.Wf N) (hN : N ≤ 30000) (cl k : Int) (nm : ByteArray) (lv hd : Int) (d : Value) (hl : 1 ≤ lv ∧ lv ≤ 3 ∧ nm.size ≤ 12) (hn : nm.size = 0) (hh : ¬ X.P.has cl 2500) : Calls Tryz.prog 31 #[.pointer (some ⟨p, 0, none⟩), .int .i64 cl, .agg #[.int .i64 k, .string nm, .int .i64 lv, .int .i64 hd, d]] w (AnsP own w p (X.opens cl lv 0 [])) := by
  obtain rfl : nm = .empty := by
    have h0 : nm.data = #[] := Array.eq_empty_of_size_eq_zero hn
    cases nm; simp at h0; subst h0; rfl
  obtain ⟨pu, sh, ms, ml, L, h⟩ := h
  obtain ⟨W, hW, hkW, hb, hr⟩ := frame2 w k .empty lv hd d
  have h1W := h.kp0 (hkW.mono (fun _ _ q => q.elim))
  have HO0 := Lib.hid (h.new (Nat.le_refl w.heap.size))
  have HO1 := Lib.hid (h.new (Nat.le_succ w.heap.size))
  have HW1 := Lib.hid h1W
  have HB := Lib.hid hb
  have HR := Lib.hid hr
  have HK := Lib.hid hkW
  have HWF := Lib.hid hw
  have hl1 : ¬ lv < 1 := by omega
  have hl2 : ¬ 3 < lv := by omega
  have e0 := h1W.cells.1
  have e1 := h1W.cells.2.1
  have e0w := e0
  have e1w := e1
  rw [hW] at e0w e1w
  obtain ⟨X1, hX1⟩ : ∃ X1 : Pls, X1 = X := ⟨_, rfl⟩
  obtain ⟨n, hn0⟩ : ∃ n : Nat, n = 0 := ⟨_, rfl⟩
  have hPO : X1.P.Ok := by rw [hX1]; exact hw.P
  have hla : X1.last ≤ N := by rw [hX1]; exact hw.last
  have hse : ∀ q ∈ X1.L, q.1 ≤ (X1.last : Int) := by rw [hX1]; exact fun q hq => (hw.ses q hq).2.1
  have HPN : Hid (Pns X1) := Lib.hid (by rw [hX1]; exact hw.pns hN)
  have HX1 := Lib.hid hX1
  rw [← hX1] at hh HW1 ⊢
  have HE : Hid (X1.opens cl lv 0 [] = (X1.unpins 0, ⟨6, 0, []⟩)) := Lib.hid (if_neg hh)
  have HPO := Lib.hid hPO
  have HLA := Lib.hid hla
  have HSE := Lib.hid hse
  have HH := Lib.hid (decide_eq_false hh)
  clear h h1W hb hr hkW hw hPO hla hse hh hX1
  go_enter Tryz.func31, Tryz.ntmps31
  go_wp2_with fail
  rw [← hW]
  clear hW e0w e1w
  have V0W : ∃ V0, V0 = W := ⟨_, rfl⟩
  obtain ⟨V0, hV0⟩ := V0W
  have Q1 : Hid (PlRaw own V0 p pu sh ms ml X1 L) := Lib.hid (by rw [hV0]; exact HW1.out)
  have Q2 : Hid (Stp own own W V0) := Lib.hid (by rw [hV0]; exact Stp.refl _ _)
  obtain ⟨own1', ho1⟩ : ∃ own1', own1' = own := ⟨_, rfl⟩
  rw [← hV0]
  rw [← hV0] at e0
  have Q1 : Hid (PlRaw own1' V0 p pu sh ms ml X1 L) := by rw [ho1]; exact Q1
  have Q2 : Hid (Stp own own1' W V0) := by rw [ho1]; exact Q2
  clear ho1 e1 hV0
  have CT := Lib.hid (take_p Q1.out.hpu HPO.out cl 2500)
  unfold TakePost at CT
  rw [HH.out] at CT
  go_wp2_with fail
  refine CT.out.mono ?_
  rintro e V1 ⟨rfl, t1, t2⟩
  obtain ⟨r1, r2⟩ := Q1.out.purse t2 t1
  have R2 := Lib.hid (Q2.out.trans r2)
  have R3 := Lib.hid r2
  have R1 := Lib.hid r1
  clear t1 t2 r1 r2 CT
  have ET : Hid (X1.P.take cl 2500 = X1.P) := Lib.hid (if_neg (of_decide_eq_false HH.out))
  have CU := Lib.hid (unpins_p (w := V1) (p := p) (X := X1) (own := own1') ⟨pu, sh, ms, ml, L, by have := R1.out; rw [ET.out] at this; exact this⟩ HPO.out HPN.out 0)
  go_wp2_with fail
  refine CU.out.mono ?_
  rintro e V ⟨rfl, own', u1, u2⟩
  have HXV := Lib.hid u1
  have HSV := Lib.hid (R2.out.trans u2)
  clear u1 u2 CU
  obtain ⟨hVa, h6, hX6, hS6, _⟩ := ans_fin HK.out HR.out (Nat.le_succ _) HO1.out HXV.out HSV.out (6) (0) (.slice none 0 0)
  have f0 : ∀ i, V.frozen? ⟨w.heap.size + 1, i, none⟩ = false := free_of hVa
  have c0 : V.cell? ⟨w.heap.size + 1, 0, none⟩ = some (.int .i64 0) := by rw [cell_of hVa]; rfl
  have c1 : V.cell? ⟨w.heap.size + 1, 1, none⟩ = some (.int .i64 0) := by rw [cell_of hVa]; rfl
  have c2 : V.cell? ⟨w.heap.size + 1, 2, none⟩ = some (.slice none 0 0) := by rw [cell_of hVa]; rfl
  have H6 := Lib.hid h6
  have HX6 := Lib.hid hX6
  have HS6 := Lib.hid hS6
  clear hVa h6 hX6 hS6
  go_wp2_with fail
  have y0 := cell_of H6.out 0
  have y1 := cell_of H6.out 1
  have y2 := cell_of H6.out 2
  refine bodyPost_ret (v := .agg #[.int .i64 (6), .int .i64 (0), .slice none 0 0]) ?_ rfl ?_
  · rw [results_cell1 rfl]
    simp [go_sem, y0, y1, y2]
  · rw [HE.out]
    exact ⟨none, 0, own', rfl, RowM.nil _ _ _, HX6.out, HS6.out, fun b hb => by cases hb⟩
set_option maxRecDepth 100000 in
set_option maxHeartbeats 4000000 in
theorem open_plain_go (own : Nat → Int) (w : World) (p : Nat) (X : Pls) (N : Nat) (h : PX own w p X) (hw : X.Wf N) (hN : N ≤ 30000) (cl k : Int) (nm : ByteArray) (lv hd : Int) (d : Value) (hl : 1 ≤ lv ∧ lv ≤ 3 ∧ nm.size ≤ 12) (hn : nm.size = 0) (hh : X.P.has cl 2500) : Calls Tryz.prog 31 #[.pointer (some ⟨p, 0, none⟩), .int .i64 cl, .agg #[.int .i64 k, .string nm, .int .i64 lv, .int .i64 hd, d]] w (AnsP own w p (X.opens cl lv 0 [])) := by
  obtain rfl : nm = .empty := by
    have h0 : nm.data = #[] := Array.eq_empty_of_size_eq_zero hn
    cases nm; simp at h0; subst h0; rfl
  obtain ⟨pu, sh, ms, ml, L, h⟩ := h
  obtain ⟨W, hW, hkW, hb, hr⟩ := frame2 w k .empty lv hd d
  have h1W := h.kp0 (hkW.mono (fun _ _ q => q.elim))
  have HO0 := Lib.hid (h.new (Nat.le_refl w.heap.size))
  have HO1 := Lib.hid (h.new (Nat.le_succ w.heap.size))
  have HW1 := Lib.hid h1W
  have HB := Lib.hid hb
  have HR := Lib.hid hr
  have HK := Lib.hid hkW
  have HWF := Lib.hid hw
  have hl1 : ¬ lv < 1 := by omega
  have hl2 : ¬ 3 < lv := by omega
  have e0 := h1W.cells.1
  have e1 := h1W.cells.2.1
  have e0w := e0
  have e1w := e1
  rw [hW] at e0w e1w
  obtain ⟨X1, hX1⟩ : ∃ X1 : Pls, X1 = X := ⟨_, rfl⟩
  obtain ⟨n, hn0⟩ : ∃ n : Nat, n = 0 := ⟨_, rfl⟩
  have hPO : X1.P.Ok := by rw [hX1]; exact hw.P
  have hla : X1.last ≤ N := by rw [hX1]; exact hw.last
  have hse : ∀ q ∈ X1.L, q.1 ≤ (X1.last : Int) := by rw [hX1]; exact fun q hq => (hw.ses q hq).2.1
  have HPN : Hid (Pns X1) := Lib.hid (by rw [hX1]; exact hw.pns hN)
  have HX1 := Lib.hid hX1
  rw [← hX1] at hh HW1 ⊢
  have HE : Hid (X1.opens cl lv 0 [] = ({ X1 with P := X1.P.take cl 2500, L := AL.put X1.L (((X1.last + 1 : Nat)) : Int) ⟨cl, 0, S0 0 (dep lv).toNat []⟩, last := X1.last + 1 }, ⟨0, ((X1.last + 1 : Nat) : Int), []⟩)) := Lib.hid (if_pos hh)
  have HPO := Lib.hid hPO
  have HLA := Lib.hid hla
  have HSE := Lib.hid hse
  have HH := Lib.hid (decide_eq_true hh)
  clear h h1W hb hr hkW hw hPO hla hse hh hX1
  go_enter Tryz.func31, Tryz.ntmps31
  go_wp2_with fail
  rw [← hW]
  clear hW e0w e1w
  have V0W : ∃ V0, V0 = W := ⟨_, rfl⟩
  obtain ⟨V0, hV0⟩ := V0W
  have Q1 : Hid (PlRaw own V0 p pu sh ms ml X1 L) := Lib.hid (by rw [hV0]; exact HW1.out)
  have Q2 : Hid (Stp own own W V0) := Lib.hid (by rw [hV0]; exact Stp.refl _ _)
  obtain ⟨own1', ho1⟩ : ∃ own1', own1' = own := ⟨_, rfl⟩
  rw [← hV0]
  rw [← hV0] at e0
  have Q1 : Hid (PlRaw own1' V0 p pu sh ms ml X1 L) := by rw [ho1]; exact Q1
  have Q2 : Hid (Stp own own1' W V0) := by rw [ho1]; exact Q2
  clear ho1 e1 hV0
  have CT := Lib.hid (take_p Q1.out.hpu HPO.out cl 2500)
  unfold TakePost at CT
  rw [HH.out] at CT
  go_wp2_with fail
  refine CT.out.mono ?_
  rintro e V1 ⟨rfl, t1, t2⟩
  obtain ⟨r1, r2⟩ := Q1.out.purse t2 t1
  have R2 := Lib.hid (Q2.out.trans r2)
  have R3 := Lib.hid r2
  have R1 := Lib.hid r1
  clear t1 t2 r1 r2 CT
  obtain ⟨s1, s2⟩ := R1.out.lastPut (X1.last + 1)
  have x4 := R1.out.cells.2.2.2.2
  have x4f : V1.frozen? ⟨p, 4, none⟩ = false := free_of R1.out.hp 4
  have S1' := Lib.hid s1
  have S2' := Lib.hid (R2.out.trans s2)
  have S3' := Lib.hid (R3.out.trans s2)
  have hwr : IntKind.i64.wrap ((X1.last : Int) + 1) = (X1.last : Int) + 1 := by have := HLA.out; rw [IntKind.wrap_i64]; omega
  have EC : Hid (((X1.last + 1 : Nat) : Int) = (X1.last : Int) + 1) := Lib.hid (by omega)
  rw [EC.out] at S1' S2' S3'
  clear s1 s2 e0
  go_wp2_with fail
  generalize V1.setCell ⟨p, 4, none⟩ (.int .i64 ((X1.last : Int) + 1)) = Y at S1' S2' S3' ⊢
  clear x4 x4f hwr
  have x2 := S1'.out.cells.2.2.1
  have x4 := S1'.out.cells.2.2.2.2
  simp only at x4
  rw [EC.out] at x4
  have hBY := S2'.out.k.at_ HB.out (fun q => q HO0.out)
  have xb : Y.cell? ⟨w.heap.size, 2, none⟩ = some (.int .i64 lv) := by rw [cell_of hBY]; rfl
  have lb : w.heap.size < Y.heap.size := lt_of_at hBY
  have lp : p < Y.heap.size := lt_of_at S1'.out.hp
  obtain ⟨dl, hdl, hd1⟩ : ∃ dl : Nat, dep lv = (dl : Nat) ∧ 0 < dl := dep_pos hl.1 hl.2.1
  have hdt : (dep lv).toNat = dl := by rw [hdl]; rfl
  rw [hdt] at HE
  have SN := Lib.hid (fun (V : World) (hV : Kp (fun _ => False) Y V) => new_r V [] none 0 0 lv dl hdl (SlR.nil _ _) hd1 (by decide) (by decide))
  unfold NewRPost at SN
  have HNO := Lib.hid (fun (q : Int × Se) (hq : q ∈ L) => (show q.1 ≠ ((X1.last + 1 : Nat) : Int) from fun e => by
    have := HSE.out (q.1, ⟨q.2.cl, q.2.id, q.2.S⟩) (by have := S1'.out.abs; simp only at this; rw [this]; exact List.mem_map.2 ⟨q, hq, rfl⟩)
    simp only at this
    omega))
  clear hdl hd1 hBY hdt
  go_region_law ((go_simp; go_at_call 52; refine (SN.out _ ((Kp.refl _ _).drew)).mono ?_; rintro e V2 ⟨st, F', rfl, n1, n2, n3, n4⟩; obtain ⟨own2, o1, o2, o3, o4⟩ : ∃ own2, PlRaw own2 V2 p pu sh ms ml { { X1 with P := X1.P.take cl 2500 } with last := X1.last + 1 } L ∧ Stp own1' own2 Y V2 ∧ SeAt (fun k => own2 k = ((X1.last + 1 : Nat) : Int)) V2 st (S0 0 dl []) ∧ Kp (fun _ => False) Y V2 := (by obtain ⟨o1, o2, o3⟩ := (S1'.out.kp0 ((Kp.refl _ _).drew)).newSt n3 n1 n2 n4 (by omega) HNO.out; exact ⟨_, o1, (Stp.kp0 (Kp.refl _ _).drew).trans o2, o3, (Kp.refl _ _).drew.trans n3⟩); have O1 := Lib.hid o1; have O2 := Lib.hid o2; have O3 := Lib.hid o3; obtain ⟨V, hrun, z1, z2, z3⟩ := MapAt.store (P := Tryz.prog) o1.hms key_int Tryz.underlying63 Tryz.underlying3 (((X1.last + 1 : Nat)) : Int) (⟨cl, st, 0, S0 0 dl []⟩ : Se); simp only [sev] at hrun; rw [EC.out] at hrun; have Z1 := Lib.hid z1; have Z2 := Lib.hid z2; have y2 := (o4.cell (p := ⟨p, 2, none⟩) lp (fun q => q)).trans x2; have y4 := (o4.cell (p := ⟨p, 4, none⟩) lp (fun q => q)).trans x4; have yb := (o4.cell (p := ⟨w.heap.size, 2, none⟩) lb (fun q => q)).trans xb; clear n1 n2 n3 n4 o1 o2 o3 o4 z1 z2 z3))
  all_goals
    obtain ⟨f1, f2⟩ := O1.out.sess Z2.out Z1.out (fun q hq => by
      rcases mem_put hq with hq | rfl
      · exact .inl hq
      · exact .inr ⟨by simp only; omega, O3.out⟩)
    have HXV : Hid (PX own2 V p { X1 with P := X1.P.take cl 2500, L := AL.put X1.L (((X1.last + 1 : Nat)) : Int) ⟨cl, 0, S0 0 dl []⟩, last := X1.last + 1 }) := Lib.hid ⟨pu, sh, ms, ml, _, by
      have e1 := S1'.out.abs
      simp only at e1
      rw [e1, abs_put _ _ (⟨cl, st, 0, S0 0 dl []⟩ : Se)]
      exact f1⟩
    have HSV := Lib.hid ((S2'.out.trans O2.out).trans f2)
    have v4 := f1.cells.2.2.2.2
    simp only at v4
    rw [EC.out] at v4
    clear f1 f2 hrun y2 y4 yb x2 x4 xb SN
    obtain ⟨hVa, h6, hX6, hS6, _⟩ := ans_fin HK.out HR.out (Nat.le_succ _) HO1.out HXV.out HSV.out (0) ((X1.last : Int) + 1) (.slice none 0 0)
    have f0 : ∀ i, V.frozen? ⟨w.heap.size + 1, i, none⟩ = false := free_of hVa
    have c0 : V.cell? ⟨w.heap.size + 1, 0, none⟩ = some (.int .i64 0) := by rw [cell_of hVa]; rfl
    have c1 : V.cell? ⟨w.heap.size + 1, 1, none⟩ = some (.int .i64 0) := by rw [cell_of hVa]; rfl
    have c2 : V.cell? ⟨w.heap.size + 1, 2, none⟩ = some (.slice none 0 0) := by rw [cell_of hVa]; rfl
    have H6 := Lib.hid h6
    have HX6 := Lib.hid hX6
    have HS6 := Lib.hid hS6
    clear hVa h6 hX6 hS6
    go_wp2_with fail
    have y0 := cell_of H6.out 0
    have y1 := cell_of H6.out 1
    have y2 := cell_of H6.out 2
    refine bodyPost_ret (v := .agg #[.int .i64 (0), .int .i64 ((X1.last : Int) + 1), .slice none 0 0]) ?_ rfl ?_
    · rw [results_cell1 rfl]
      simp [go_sem, y0, y1, y2]
    · rw [HE.out]
      exact ⟨none, 0, own2, rfl, RowM.nil _ _ _, HX6.out, HS6.out, fun b hb => by cases hb⟩
set_option maxRecDepth 100000 in
set_option maxHeartbeats 4000000 in
theorem open_named_no (own : Nat → Int) (w : World) (p : Nat) (X : Pls) (N : Nat) (h : PX own w p X) (hw : X.Wf N) (hN : N ≤ 30000) (cl k : Int) (nm : ByteArray) (lv hd : Int) (d : Value) (hl : 1 ≤ lv ∧ lv ≤ 3 ∧ nm.size ≤ 12) (hn : nm.size ≠ 0) (hp : (X.S.pin nm).2.2.2 = 0) (hh : ¬ X.P.has cl 2500) : Calls Tryz.prog 31 #[.pointer (some ⟨p, 0, none⟩), .int .i64 cl, .agg #[.int .i64 k, .string nm, .int .i64 lv, .int .i64 hd, d]] w (AnsP own w p (({ X with S := (X.S.pin nm).1 } : Pls).opens cl lv (X.S.pin nm).2.1 (X.S.pin nm).2.2.1)) := by
  obtain ⟨pu, sh, ms, ml, L, h⟩ := h
  obtain ⟨W, hW, hkW, hb, hr⟩ := frame2 w k nm lv hd d
  have h1W := h.kp0 (hkW.mono (fun _ _ q => q.elim))
  have HO0 := Lib.hid (h.new (Nat.le_refl w.heap.size))
  have HO1 := Lib.hid (h.new (Nat.le_succ w.heap.size))
  have HW1 := Lib.hid h1W
  have HB := Lib.hid hb
  have HR := Lib.hid hr
  have HK := Lib.hid hkW
  have HWF := Lib.hid hw
  have hl1 : ¬ lv < 1 := by omega
  have hl2 : ¬ 3 < lv := by omega
  have hl3 : ¬ (12 : Int) < (nm.size : Int) := by omega
  have b1 : W.cell? ⟨w.heap.size, 1, none⟩ = some (.string nm) := by rw [cell_of hb]; rfl
  have e0 := h1W.cells.1
  have e1 := h1W.cells.2.1
  have e0w := e0
  have e1w := e1
  rw [hW] at e0w e1w
  have hne := nonempty_of hn
  have CP := Lib.hid (pin_any X.S hw.S (hw.pns hN) nm W.drew (h1W.kp0 ((Kp.refl _ _).drew)).hsh)
  unfold PinPost at CP
  have hid : 0 ≤ (X.S.pin nm).2.1 ∧ (X.S.pin nm).2.1 ≤ 2147483647 ∧ (X.S.pin nm).2.2.1.length ≤ 2000 := pin_sizes hw hN nm
  have HPN : Hid (Pns { X with S := (X.S.pin nm).1 }) := Lib.hid (pin_pns hw hN nm)
  obtain ⟨S1, id, dict, er, hpin⟩ : ∃ S1 id dict er, X.S.pin nm = (S1, id, dict, er) := ⟨_, _, _, _, rfl⟩
  rw [hpin] at CP hp hid HPN ⊢
  have hp : er = 0 := hp
  subst hp
  obtain ⟨n, rfl⟩ : ∃ n : Nat, id = n := ⟨id.toNat, by have := hid.1; simp only at this; omega⟩
  have HID := Lib.hid (show n ≤ 2147483647 ∧ dict.length ≤ 2000 from ⟨by have := hid.2.1; simp only at this; omega, hid.2.2⟩)
  obtain ⟨X1, hX1⟩ : ∃ X1 : Pls, X1 = { X with S := S1 } := ⟨_, rfl⟩
  have HX1 := Lib.hid hX1
  show Calls _ _ _ _ (AnsP own w p (({ X with S := S1 } : Pls).opens cl lv (n : Nat) dict))
  rw [← hX1]
  have hh : ¬ X1.P.has cl 2500 := by rw [hX1]; exact hh
  have hPO : X1.P.Ok := by rw [hX1]; exact hw.P
  have hla : X1.last ≤ N := by rw [hX1]; exact hw.last
  have hse : ∀ q ∈ X1.L, q.1 ≤ (X1.last : Int) := by rw [hX1]; exact fun q hq => (hw.ses q hq).2.1
  have HPN : Hid (Pns X1) := by rw [hX1]; exact HPN
  have HE : Hid (X1.opens cl lv (n : Nat) dict = (X1.unpins (n : Nat), ⟨6, 0, []⟩)) := Lib.hid (if_neg hh)
  have HPO := Lib.hid hPO
  have HLA := Lib.hid hla
  have HSE := Lib.hid hse
  have HH := Lib.hid (decide_eq_false hh)
  clear h h1W hb hr hkW hw hPO hla hse hh hX1 hpin hid
  go_enter Tryz.func31, Tryz.ntmps31
  go_wp2_with fail
  rw [← hW]
  clear hW e0w e1w
  go_region_law ((go_simp; go_at_call 49; refine CP.out.mono ?_; rintro e V0 ⟨a, c, rfl, g1, g2, g3, g4⟩; have G1 := Lib.hid g1; have G2 := Lib.hid g2; have G3 := Lib.hid g3; have G4 := Lib.hid g4; clear g1 g2 g3 g4))
  all_goals
    obtain ⟨own1', q1, q2, q3⟩ : ∃ own1', PlRaw own1' V0 p pu sh ms ml X1 L ∧ Stp own own1' W V0 ∧ ∀ b, (Value.slice a dict.length c).ownBlock = some b → own1' b = 0 := by
      rw [HX1.out]
      obtain ⟨q1, q2⟩ := (HW1.out.kp0 ((Kp.refl _ _).drew)).shelf G2.out G1.out (fun k q => .inl q)
      refine ⟨_, q1, (Stp.kp0 (Kp.refl _ _).drew).trans q2, fun b hb => ?_⟩
      have hb1 := G4.out b hb
      have : own b = 0 := HW1.out.new hb1
      exact (own1_no (by rw [this]; decide)).trans this
    have Q1 := Lib.hid q1
    have Q2 := Lib.hid q2
    have Q3 := Lib.hid q3
    have DR := Lib.hid (G3.out.sl)
    have e0 := q1.cells.1
    clear q1 q2 q3 e1 CP
    have CT := Lib.hid (take_p Q1.out.hpu HPO.out cl 2500)
    unfold TakePost at CT
    rw [HH.out] at CT
    go_wp2_with fail
    refine CT.out.mono ?_
    rintro e V1 ⟨rfl, t1, t2⟩
    obtain ⟨r1, r2⟩ := Q1.out.purse t2 t1
    have R2 := Lib.hid (Q2.out.trans r2)
    have R3 := Lib.hid r2
    have R1 := Lib.hid r1
    clear t1 t2 r1 r2 CT
    have ET : Hid (X1.P.take cl 2500 = X1.P) := Lib.hid (if_neg (of_decide_eq_false HH.out))
    have CU := Lib.hid (unpins_p (w := V1) (p := p) (X := X1) (own := own1') ⟨pu, sh, ms, ml, L, by have := R1.out; rw [ET.out] at this; exact this⟩ HPO.out HPN.out (n : Nat))
    go_wp2_with fail
    refine CU.out.mono ?_
    rintro e V ⟨rfl, own', u1, u2⟩
    have HXV := Lib.hid u1
    have HSV := Lib.hid (R2.out.trans u2)
    clear u1 u2 CU
    obtain ⟨hVa, h6, hX6, hS6, _⟩ := ans_fin HK.out HR.out (Nat.le_succ _) HO1.out HXV.out HSV.out (6) (0) (.slice none 0 0)
    have f0 : ∀ i, V.frozen? ⟨w.heap.size + 1, i, none⟩ = false := free_of hVa
    have c0 : V.cell? ⟨w.heap.size + 1, 0, none⟩ = some (.int .i64 0) := by rw [cell_of hVa]; rfl
    have c1 : V.cell? ⟨w.heap.size + 1, 1, none⟩ = some (.int .i64 0) := by rw [cell_of hVa]; rfl
    have c2 : V.cell? ⟨w.heap.size + 1, 2, none⟩ = some (.slice none 0 0) := by rw [cell_of hVa]; rfl
    have H6 := Lib.hid h6
    have HX6 := Lib.hid hX6
    have HS6 := Lib.hid hS6
    clear hVa h6 hX6 hS6
    go_wp2_with fail
    have y0 := cell_of H6.out 0
    have y1 := cell_of H6.out 1
    have y2 := cell_of H6.out 2
    refine bodyPost_ret (v := .agg #[.int .i64 (6), .int .i64 (0), .slice none 0 0]) ?_ rfl ?_
    · rw [results_cell1 rfl]
      simp [go_sem, y0, y1, y2]
    · rw [HE.out]
      exact ⟨none, 0, own', rfl, RowM.nil _ _ _, HX6.out, HS6.out, fun b hb => by cases hb⟩
set_option maxRecDepth 100000 in
set_option maxHeartbeats 4000000 in
theorem open_named_go (own : Nat → Int) (w : World) (p : Nat) (X : Pls) (N : Nat) (h : PX own w p X) (hw : X.Wf N) (hN : N ≤ 30000) (cl k : Int) (nm : ByteArray) (lv hd : Int) (d : Value) (hl : 1 ≤ lv ∧ lv ≤ 3 ∧ nm.size ≤ 12) (hn : nm.size ≠ 0) (hp : (X.S.pin nm).2.2.2 = 0) (hh : X.P.has cl 2500) : Calls Tryz.prog 31 #[.pointer (some ⟨p, 0, none⟩), .int .i64 cl, .agg #[.int .i64 k, .string nm, .int .i64 lv, .int .i64 hd, d]] w (AnsP own w p (({ X with S := (X.S.pin nm).1 } : Pls).opens cl lv (X.S.pin nm).2.1 (X.S.pin nm).2.2.1)) := by
  obtain ⟨pu, sh, ms, ml, L, h⟩ := h
  obtain ⟨W, hW, hkW, hb, hr⟩ := frame2 w k nm lv hd d
  have h1W := h.kp0 (hkW.mono (fun _ _ q => q.elim))
  have HO0 := Lib.hid (h.new (Nat.le_refl w.heap.size))
  have HO1 := Lib.hid (h.new (Nat.le_succ w.heap.size))
  have HW1 := Lib.hid h1W
  have HB := Lib.hid hb
  have HR := Lib.hid hr
  have HK := Lib.hid hkW
  have HWF := Lib.hid hw
  have hl1 : ¬ lv < 1 := by omega
  have hl2 : ¬ 3 < lv := by omega
  have hl3 : ¬ (12 : Int) < (nm.size : Int) := by omega
  have b1 : W.cell? ⟨w.heap.size, 1, none⟩ = some (.string nm) := by rw [cell_of hb]; rfl
  have e0 := h1W.cells.1
  have e1 := h1W.cells.2.1
  have e0w := e0
  have e1w := e1
  rw [hW] at e0w e1w
  have hne := nonempty_of hn
  have CP := Lib.hid (pin_any X.S hw.S (hw.pns hN) nm W.drew (h1W.kp0 ((Kp.refl _ _).drew)).hsh)
  unfold PinPost at CP
  have hid : 0 ≤ (X.S.pin nm).2.1 ∧ (X.S.pin nm).2.1 ≤ 2147483647 ∧ (X.S.pin nm).2.2.1.length ≤ 2000 := pin_sizes hw hN nm
  have HPN : Hid (Pns { X with S := (X.S.pin nm).1 }) := Lib.hid (pin_pns hw hN nm)
  obtain ⟨S1, id, dict, er, hpin⟩ : ∃ S1 id dict er, X.S.pin nm = (S1, id, dict, er) := ⟨_, _, _, _, rfl⟩
  rw [hpin] at CP hp hid HPN ⊢
  have hp : er = 0 := hp
  subst hp
  obtain ⟨n, rfl⟩ : ∃ n : Nat, id = n := ⟨id.toNat, by have := hid.1; simp only at this; omega⟩
  have HID := Lib.hid (show n ≤ 2147483647 ∧ dict.length ≤ 2000 from ⟨by have := hid.2.1; simp only at this; omega, hid.2.2⟩)
  obtain ⟨X1, hX1⟩ : ∃ X1 : Pls, X1 = { X with S := S1 } := ⟨_, rfl⟩
  have HX1 := Lib.hid hX1
  show Calls _ _ _ _ (AnsP own w p (({ X with S := S1 } : Pls).opens cl lv (n : Nat) dict))
  rw [← hX1]
  have hh : X1.P.has cl 2500 := by rw [hX1]; exact hh
  have hPO : X1.P.Ok := by rw [hX1]; exact hw.P
  have hla : X1.last ≤ N := by rw [hX1]; exact hw.last
  have hse : ∀ q ∈ X1.L, q.1 ≤ (X1.last : Int) := by rw [hX1]; exact fun q hq => (hw.ses q hq).2.1
  have HPN : Hid (Pns X1) := by rw [hX1]; exact HPN
  have HE : Hid (X1.opens cl lv (n : Nat) dict = ({ X1 with P := X1.P.take cl 2500, L := AL.put X1.L (((X1.last + 1 : Nat)) : Int) ⟨cl, (n : Nat), S0 n (dep lv).toNat dict⟩, last := X1.last + 1 }, ⟨0, ((X1.last + 1 : Nat) : Int), []⟩)) := Lib.hid (if_pos hh)
  have HPO := Lib.hid hPO
  have HLA := Lib.hid hla
  have HSE := Lib.hid hse
  have HH := Lib.hid (decide_eq_true hh)
  clear h h1W hb hr hkW hw hPO hla hse hh hX1 hpin hid
  go_enter Tryz.func31, Tryz.ntmps31
  go_wp2_with fail
  rw [← hW]
  clear hW e0w e1w
  go_region_law ((go_simp; go_at_call 49; refine CP.out.mono ?_; rintro e V0 ⟨a, c, rfl, g1, g2, g3, g4⟩; have G1 := Lib.hid g1; have G2 := Lib.hid g2; have G3 := Lib.hid g3; have G4 := Lib.hid g4; clear g1 g2 g3 g4))
  all_goals
    obtain ⟨own1', q1, q2, q3⟩ : ∃ own1', PlRaw own1' V0 p pu sh ms ml X1 L ∧ Stp own own1' W V0 ∧ ∀ b, (Value.slice a dict.length c).ownBlock = some b → own1' b = 0 := by
      rw [HX1.out]
      obtain ⟨q1, q2⟩ := (HW1.out.kp0 ((Kp.refl _ _).drew)).shelf G2.out G1.out (fun k q => .inl q)
      refine ⟨_, q1, (Stp.kp0 (Kp.refl _ _).drew).trans q2, fun b hb => ?_⟩
      have hb1 := G4.out b hb
      have : own b = 0 := HW1.out.new hb1
      exact (own1_no (by rw [this]; decide)).trans this
    have Q1 := Lib.hid q1
    have Q2 := Lib.hid q2
    have Q3 := Lib.hid q3
    have DR := Lib.hid (G3.out.sl)
    have e0 := q1.cells.1
    clear q1 q2 q3 e1 CP
    have CT := Lib.hid (take_p Q1.out.hpu HPO.out cl 2500)
    unfold TakePost at CT
    rw [HH.out] at CT
    go_wp2_with fail
    refine CT.out.mono ?_
    rintro e V1 ⟨rfl, t1, t2⟩
    obtain ⟨r1, r2⟩ := Q1.out.purse t2 t1
    have R2 := Lib.hid (Q2.out.trans r2)
    have R3 := Lib.hid r2
    have R1 := Lib.hid r1
    clear t1 t2 r1 r2 CT
    obtain ⟨s1, s2⟩ := R1.out.lastPut (X1.last + 1)
    have x4 := R1.out.cells.2.2.2.2
    have x4f : V1.frozen? ⟨p, 4, none⟩ = false := free_of R1.out.hp 4
    have S1' := Lib.hid s1
    have S2' := Lib.hid (R2.out.trans s2)
    have S3' := Lib.hid (R3.out.trans s2)
    have hwr : IntKind.i64.wrap ((X1.last : Int) + 1) = (X1.last : Int) + 1 := by have := HLA.out; rw [IntKind.wrap_i64]; omega
    have EC : Hid (((X1.last + 1 : Nat) : Int) = (X1.last : Int) + 1) := Lib.hid (by omega)
    rw [EC.out] at S1' S2' S3'
    clear s1 s2 e0
    go_wp2_with fail
    generalize V1.setCell ⟨p, 4, none⟩ (.int .i64 ((X1.last : Int) + 1)) = Y at S1' S2' S3' ⊢
    clear x4 x4f hwr
    have x2 := S1'.out.cells.2.2.1
    have x4 := S1'.out.cells.2.2.2.2
    simp only at x4
    rw [EC.out] at x4
    have hBY := S2'.out.k.at_ HB.out (fun q => q HO0.out)
    have xb : Y.cell? ⟨w.heap.size, 2, none⟩ = some (.int .i64 lv) := by rw [cell_of hBY]; rfl
    have lb : w.heap.size < Y.heap.size := lt_of_at hBY
    have lp : p < Y.heap.size := lt_of_at S1'.out.hp
    obtain ⟨dl, hdl, hd1⟩ : ∃ dl : Nat, dep lv = (dl : Nat) ∧ 0 < dl := dep_pos hl.1 hl.2.1
    have hdt : (dep lv).toNat = dl := by rw [hdl]; rfl
    rw [hdt] at HE
    have DY : Hid (SlR Y 1 (.slice a dict.length c) dict.length (dict.map u8c)) := Lib.hid (DR.out.kp S3'.out.k (fun b hb q => q (Q3.out b hb)))
    have SN := Lib.hid (fun (V : World) (hV : Kp (fun _ => False) Y V) => new_r V dict a c n lv dl hdl (DY.out.kp hV (fun _ _ q => q)) hd1 HID.out.1 HID.out.2)
    unfold NewRPost at SN
    have HNO := Lib.hid (fun (q : Int × Se) (hq : q ∈ L) => (show q.1 ≠ ((X1.last + 1 : Nat) : Int) from fun e => by
      have := HSE.out (q.1, ⟨q.2.cl, q.2.id, q.2.S⟩) (by have := S1'.out.abs; simp only at this; rw [this]; exact List.mem_map.2 ⟨q, hq, rfl⟩)
      simp only at this
      omega))
    clear hdl hd1 hBY hdt
    go_region_law ((go_simp; go_at_call 52; refine (SN.out _ ((Kp.refl _ _).drew)).mono ?_; rintro e V2 ⟨st, F', rfl, n1, n2, n3, n4⟩; obtain ⟨own2, o1, o2, o3, o4⟩ : ∃ own2, PlRaw own2 V2 p pu sh ms ml { { X1 with P := X1.P.take cl 2500 } with last := X1.last + 1 } L ∧ Stp own1' own2 Y V2 ∧ SeAt (fun k => own2 k = ((X1.last + 1 : Nat) : Int)) V2 st (S0 n dl dict) ∧ Kp (fun _ => False) Y V2 := (by obtain ⟨o1, o2, o3⟩ := (S1'.out.kp0 ((Kp.refl _ _).drew)).newSt n3 n1 n2 n4 (by omega) HNO.out; exact ⟨_, o1, (Stp.kp0 (Kp.refl _ _).drew).trans o2, o3, (Kp.refl _ _).drew.trans n3⟩); have O1 := Lib.hid o1; have O2 := Lib.hid o2; have O3 := Lib.hid o3; obtain ⟨V, hrun, z1, z2, z3⟩ := MapAt.store (P := Tryz.prog) o1.hms key_int Tryz.underlying63 Tryz.underlying3 (((X1.last + 1 : Nat)) : Int) (⟨cl, st, ((n : Nat) : Int), S0 n dl dict⟩ : Se); simp only [sev] at hrun; rw [EC.out] at hrun; have Z1 := Lib.hid z1; have Z2 := Lib.hid z2; have y2 := (o4.cell (p := ⟨p, 2, none⟩) lp (fun q => q)).trans x2; have y4 := (o4.cell (p := ⟨p, 4, none⟩) lp (fun q => q)).trans x4; have yb := (o4.cell (p := ⟨w.heap.size, 2, none⟩) lb (fun q => q)).trans xb; clear n1 n2 n3 n4 o1 o2 o3 o4 z1 z2 z3))
    all_goals
      obtain ⟨f1, f2⟩ := O1.out.sess Z2.out Z1.out (fun q hq => by
        rcases mem_put hq with hq | rfl
        · exact .inl hq
        · exact .inr ⟨by simp only; omega, O3.out⟩)
      have HXV : Hid (PX own2 V p { X1 with P := X1.P.take cl 2500, L := AL.put X1.L (((X1.last + 1 : Nat)) : Int) ⟨cl, ((n : Nat) : Int), S0 n dl dict⟩, last := X1.last + 1 }) := Lib.hid ⟨pu, sh, ms, ml, _, by
        have e1 := S1'.out.abs
        simp only at e1
        rw [e1, abs_put _ _ (⟨cl, st, ((n : Nat) : Int), S0 n dl dict⟩ : Se)]
        exact f1⟩
      have HSV := Lib.hid ((S2'.out.trans O2.out).trans f2)
      have v4 := f1.cells.2.2.2.2
      simp only at v4
      rw [EC.out] at v4
      clear f1 f2 hrun y2 y4 yb x2 x4 xb SN
      obtain ⟨hVa, h6, hX6, hS6, _⟩ := ans_fin HK.out HR.out (Nat.le_succ _) HO1.out HXV.out HSV.out (0) ((X1.last : Int) + 1) (.slice none 0 0)
      have f0 : ∀ i, V.frozen? ⟨w.heap.size + 1, i, none⟩ = false := free_of hVa
      have c0 : V.cell? ⟨w.heap.size + 1, 0, none⟩ = some (.int .i64 0) := by rw [cell_of hVa]; rfl
      have c1 : V.cell? ⟨w.heap.size + 1, 1, none⟩ = some (.int .i64 0) := by rw [cell_of hVa]; rfl
      have c2 : V.cell? ⟨w.heap.size + 1, 2, none⟩ = some (.slice none 0 0) := by rw [cell_of hVa]; rfl
      have H6 := Lib.hid h6
      have HX6 := Lib.hid hX6
      have HS6 := Lib.hid hS6
      clear hVa h6 hX6 hS6
      go_wp2_with fail
      have y0 := cell_of H6.out 0
      have y1 := cell_of H6.out 1
      have y2 := cell_of H6.out 2
      refine bodyPost_ret (v := .agg #[.int .i64 (0), .int .i64 ((X1.last : Int) + 1), .slice none 0 0]) ?_ rfl ?_
      · rw [results_cell1 rfl]
        simp [go_sem, y0, y1, y2]
      · rw [HE.out]
        exact ⟨none, 0, own2, rfl, RowM.nil _ _ _, HX6.out, HS6.out, fun b hb => by cases hb⟩
end Go.Proofs.YtmioiaeiflbmhaaGreat.Pl
namespace Go.Proofs.YtmioiaeiflbmhaaGreat.Pl
open Go Go.RowKit Go.ChangeMaps Go.MapKept Go.Mg Go.Proofs.YtmioiaeiflbmhaaGreat.No Go.Proofs.YtmioiaeiflbmhaaGreat.Sh Go.Proofs.YtmioiaeiflbmhaaGreat.Str Go.Proofs.YtmioiaeiflbmhaaGreat.Bk Go.Proofs.YtmioiaeiflbmhaaGreat.Ma
section
variable {F : Nat → Prop} {w : World} {s : Nat} {S : Str}
theorem flush_any (h : StAt F w s S) (he : S.ended = false) (hz : Sz S 90000) : Calls Tryz.prog 53 #[.pointer (some ⟨s, 0, none⟩)] w (OutPost F w s (fO S) (fS S)) := by
  have en : ¬ S.ended = true := by rw [he]; decide
  have e1 : fO S = flO S := if_neg en
  have e2 : fS S = flS S := if_neg en
  rw [e1, e2]
  unfold flO flS
  by_cases h0 : S.kept.length = 0
  · rw [if_pos h0, if_pos h0]
    refine (flush_no h (.inr h0)).mono ?_
    rintro e w' ⟨rfl, rfl⟩
    exact ⟨none, 0, F, rfl, RowM.nil _ _ _, fun b hb => (by cases hb), h, Kp.refl _ _, fun k q => .inl q, fun k q => .inl q⟩
  · rw [if_neg h0, if_neg h0]
    have := hz.kept
    exact flush_go h he (by omega) (by omega) (hz.wf.mono (by omega))
theorem end_any (h : StAt F w s S) (he : S.ended = false) (hz : Sz S 90000) : Calls Tryz.prog 55 #[.pointer (some ⟨s, 0, none⟩)] w (OutPost F w s (eO S) (eS S)) := by
  unfold eO eS
  rw [if_neg (by rw [he]; decide), if_neg (by rw [he]; decide)]
  have := hz.kept
  exact end_go h he (by omega) (hz.wf.mono (by omega))
theorem write_any (h : StAt F w s S) (he : S.ended = false) (hz : Sz S 40000) (p : List UInt8) (ap : Option Addr) (cp : Nat) (hp : SlR w 1 (.slice ap p.length cp) p.length (p.map u8c)) (hpF : 0 < p.length → ∀ b, (Value.slice ap p.length cp).ownBlock = some b → ¬ F b) (hpl : p.length ≤ 40000) :
    Calls Tryz.prog 56 #[.pointer (some ⟨s, 0, none⟩), .slice ap p.length cp] w (OutPost F w s (wO S p) (wS S p)) := by
  unfold wO wS
  rw [if_neg (by rw [he]; decide), if_neg (by rw [he]; decide)]
  exact write_go h he p ap cp hp hpF hz.wf hpl
end
theorem RowM.kpo {α : Type} {e : TypeId} {enc : α → Value} {B : Nat} {w w' : World} {v : Value} {l : List α} {G : Nat → Prop} (h : RowM e enc B w v l) (hk : Kp G w w') (hG : ∀ b, v.ownBlock = some b → ¬ G b) : RowM e enc B w' v l := by
  obtain ⟨a, c, q, h1, h2⟩ := h
  exact ⟨a, c, q, h1.kp hk hG, h2⟩
def SesPost (own : Nat → Int) (w : World) (p pu sh ms ml : Nat) (X : Pls) (hd : Int) (e : Se) (O : List UInt8) (S' : Str) (en : Ending) (w' : World) : Prop :=
  ∃ (a : Option Addr) (c : Nat) (own' : Nat → Int) (L' : List (Int × Se)), en = .returned (.slice a O.length c) ∧ RowB w.heap.size w' (.slice a O.length c) O ∧ PlRaw own' w' p pu sh ms ml (X.puts hd ⟨e.cl, e.id, e.S⟩ S') L' ∧ Stp own own' w w' ∧
    (∀ b, (Value.slice a O.length c).ownBlock = some b → own' b = 0) ∧ AL.get L' hd = some { e with S := S' }
section
variable {own : Nat → Int} {w : World} {p pu sh ms ml : Nat} {X : Pls} {L : List (Int × Se)}
theorem SesPost.of (h : PlRaw own w p pu sh ms ml X L) {hd : Int} {e : Se} (hq : AL.get L hd = some e) {F : Nat → Prop} (hF : ∀ k, F k → own k = hd) (hr : ∀ k, rd w e.sp k → own k = hd) {O : List UInt8} {S' : Str} {en : Ending} {w' : World} (ho : OutPost F w e.sp O S' en w') : SesPost own w p pu sh ms ml X hd e O S' en w' := by
  obtain ⟨a, c, F', rfl, g1, g2, g3, g4, g5, g6⟩ := ho
  obtain ⟨L1, L2, hL, hno, hput⟩ := al_split (h.hms.nodup key_int) hq
  have hhd := (h.each (hd, e) (AL.get_mem hq)).1
  obtain ⟨q1, q2⟩ := h.stream (S' := S') hL hno g4 hF g3 g5 (fun k q => (g6 k q).imp (hr k) id) hhd
  have e1 : { X with L := absL (L1 ++ (hd, { e with S := S' }) :: L2) } = X.puts hd ⟨e.cl, e.id, e.S⟩ S' := by
    unfold Pls.puts
    rw [← hput, h.abs]
    congr 1
    exact (abs_put L hd { e with S := S' }).symm
  rw [e1] at q1
  refine ⟨a, c, _, _, rfl, g1, q1, q2, fun b hb => ?_, ?_⟩
  · have hb1 := (RowM.lt g1 hb).1
    have h0 := h.new hb1
    exact (own1_no (fun q => (g2 b hb).elim (fun z1 z2 => q.elim z1 z2))).trans h0
  · rw [← hput, AL.get_put, if_pos rfl]
theorem flush_x (h : PlRaw own w p pu sh ms ml X L) {N : Nat} (hw : X.Wf N) (hN : N ≤ 30000) {hd : Int} {e : Se} (hq : AL.get L hd = some e) :
    Calls Tryz.prog 53 #[.pointer (some ⟨e.sp, 0, none⟩)] w (SesPost own w p pu sh ms ml X hd e (fO e.S) (fS e.S)) := by
  obtain ⟨_, F, h1, h2, h3⟩ := h.each (hd, e) (AL.get_mem hq)
  have hm : (hd, (⟨e.cl, e.id, e.S⟩ : Sp)) ∈ X.L := by rw [h.abs]; exact List.mem_map.2 ⟨_, AL.get_mem hq, rfl⟩
  obtain ⟨_, _, _, _, hz, he, _⟩ := hw.ses _ hm
  exact (flush_any h1 he ⟨hz.wf.mono (by omega), hz.kept⟩).mono (fun _ _ q => SesPost.of h hq h2 h3 q)
theorem end_x (h : PlRaw own w p pu sh ms ml X L) {N : Nat} (hw : X.Wf N) (hN : N ≤ 30000) {hd : Int} {e : Se} (hq : AL.get L hd = some e) :
    Calls Tryz.prog 55 #[.pointer (some ⟨e.sp, 0, none⟩)] w (SesPost own w p pu sh ms ml X hd e (eO e.S) (eS e.S)) := by
  obtain ⟨_, F, h1, h2, h3⟩ := h.each (hd, e) (AL.get_mem hq)
  have hm : (hd, (⟨e.cl, e.id, e.S⟩ : Sp)) ∈ X.L := by rw [h.abs]; exact List.mem_map.2 ⟨_, AL.get_mem hq, rfl⟩
  obtain ⟨_, _, _, _, hz, he, _⟩ := hw.ses _ hm
  exact (end_any h1 he ⟨hz.wf.mono (by omega), hz.kept⟩).mono (fun _ _ q => SesPost.of h hq h2 h3 q)
theorem write_x (h : PlRaw own w p pu sh ms ml X L) {N : Nat} (hw : X.Wf N) (hN : N ≤ 30000) {hd : Int} {e : Se} (hq : AL.get L hd = some e) (l : List UInt8) (a : Option Addr) (c : Nat) (hl : SlR w 1 (.slice a l.length c) l.length (l.map u8c)) (hlo : ∀ b, (Value.slice a l.length c).ownBlock = some b → own b = 0) (hll : l.length ≤ 40000) :
    Calls Tryz.prog 56 #[.pointer (some ⟨e.sp, 0, none⟩), .slice a l.length c] w (SesPost own w p pu sh ms ml X hd e (wO e.S l) (wS e.S l)) := by
  obtain ⟨h0, F, h1, h2, h3⟩ := h.each (hd, e) (AL.get_mem hq)
  have hm : (hd, (⟨e.cl, e.id, e.S⟩ : Sp)) ∈ X.L := by rw [h.abs]; exact List.mem_map.2 ⟨_, AL.get_mem hq, rfl⟩
  obtain ⟨_, _, _, _, hz, he, _⟩ := hw.ses _ hm
  exact (write_any h1 he ⟨hz.wf.mono (by omega), hz.kept⟩ l a c hl (fun _ b hb q => by have e1 : own b = hd := h2 b q; rw [hlo b hb] at e1; simp only at h0; omega) hll).mono (fun _ _ q => SesPost.of h hq h2 h3 q)
end
theorem ends_puts (X : Pls) (hd : Int) (e : Sp) (S' : Str) : (X.puts hd e S').ends hd { e with S := S' } = X.ends hd e := by
  have h : AL.del (AL.put X.L hd { e with S := S' }) hd = AL.del X.L hd := by
    unfold AL.put
    split
    · unfold AL.del
      rw [List.filter_map]
      have h1 : ((fun p : Int × Sp => decide (p.1 ≠ hd)) ∘ fun p => if p.1 = hd then (hd, { e with S := S' }) else p) = fun p => decide (p.1 ≠ hd) := by
        funext p
        simp only [Function.comp_apply]
        split
        · rename_i h2
          simp [h2]
        · rfl
      rw [h1]
      conv => rhs; rw [← List.map_id (List.filter _ X.L)]
      apply List.map_congr_left
      intro q hq
      have := (List.mem_filter.1 hq).2
      rw [if_neg (by simpa using this)]
      rfl
    · unfold AL.del
      rw [List.filter_append]
      simp
  unfold Pls.puts Pls.ends
  simp only
  rw [h]
end Go.Proofs.YtmioiaeiflbmhaaGreat.Pl
set_option linter.unusedVariables false
namespace Go.Proofs.YtmioiaeiflbmhaaGreat.Pl
open Go Go.RowKit Go.ChangeMaps Go.MapKept Go.Mg Go.Proofs.YtmioiaeiflbmhaaGreat.No Go.Proofs.YtmioiaeiflbmhaaGreat.Sh Go.Proofs.YtmioiaeiflbmhaaGreat.Str Go.Proofs.YtmioiaeiflbmhaaGreat.Bk Go.Proofs.YtmioiaeiflbmhaaGreat.Ma
def SesAt (W : World) (c : Int) (v : Value) (i : Int) (f : Bool) (s7 s8 : Value) (wx : World) : Prop :=
  s7 = .pointer (some ⟨W.heap.size, 0, none⟩) ∧ s8 = .bool f ∧ wx.heap[W.heap.size]? = some (.cells #[.int .i64 c, v, .int .i64 i] 99 (0, 0)) ∧ Kp (fun _ => False) W wx
theorem SesAt.put {W X : World} {c i c0 i0 : Int} {v v0 : Value} {f : Bool} (hx : X.heap[W.heap.size]? = some (.cells #[.int .i64 c0, v0, .int .i64 i0] 99 (0, 0))) (hk : Kp (fun _ => False) W X) :
    SesAt W c v i f (.pointer (some ⟨W.heap.size, 0, none⟩)) (.bool f) (((X.setCell ⟨W.heap.size, 0, none⟩ (.int .i64 c)).setCell ⟨W.heap.size, 1, none⟩ v).setCell ⟨W.heap.size, 2, none⟩ (.int .i64 i)) := by
  refine ⟨rfl, rfl, ?_, ((hk.setCell (p := ⟨W.heap.size, 0, none⟩) (fun q => by simp only at q; omega) _).setCell (p := ⟨W.heap.size, 1, none⟩) (fun q => by simp only at q; omega) _).setCell (p := ⟨W.heap.size, 2, none⟩) (fun q => by simp only at q; omega) _⟩
  have := setCell_at (i := 2) (setCell_at (i := 1) (setCell_at (i := 0) hx (.int .i64 c)) v) (.int .i64 i)
  simpa using this
set_option maxRecDepth 100000 in
set_option maxHeartbeats 4000000 in
theorem ses_none (own : Nat → Int) (w : World) (p : Nat) (X : Pls) (N : Nat) (h : PX own w p X) (hw : X.Wf N) (hN : N ≤ 30000) (cl k : Int) (nm : ByteArray) (lv hd : Int) (d : Value) (hg : AL.get X.L hd = none) : Calls Tryz.prog 32 #[.pointer (some ⟨p, 0, none⟩), .int .i64 cl, .agg #[.int .i64 k, .string nm, .int .i64 lv, .int .i64 hd, d]] w (AnsP own w p (X, ⟨7, 0, []⟩)) := by
  obtain ⟨pu, sh, ms, ml, L, h⟩ := h
  obtain ⟨W, hW, hkW, hb, hr⟩ := frame2 w k nm lv hd d
  have h1W := h.kp0 (hkW.mono (fun _ _ q => q.elim))
  have HO0 := Lib.hid (h.new (Nat.le_refl w.heap.size))
  have HO1 := Lib.hid (h.new (Nat.le_succ w.heap.size))
  have HW1 := Lib.hid h1W
  have HB := Lib.hid hb
  have HR := Lib.hid hr
  have HK := Lib.hid hkW
  have HWF := Lib.hid hw
  have LWW := Lib.hid (lt_of_at hr)
  have d0 : W.cell? ⟨p, 2, none⟩ = some (.map (some ms)) := h1W.cells.2.2.1
  have d1 : W.cell? ⟨w.heap.size, 3, none⟩ = some (.int .i64 hd) := by rw [cell_of hb]; rfl
  have LK : Hid (∀ V, MapAt V (.int .i64) (Value.int .i64) sev ms L → (Instr.lookup 63 (.map (some ms)) (.int .i64 hd) true).run Tryz.prog V = .ok (.tuple #[.agg #[.int .i64 0, .pointer none, .int .i64 0], .bool false]) V) := Lib.hid (fun V hm => by
    have hg' : AL.get L hd = none := by rw [h.abs, abs_get] at hg; simpa using hg
    have := hm.look (P := Tryz.prog) key_int Tryz.underlying63 Tryz.underlying3 (zeroSe V) hd true
    rw [this, hg']; rfl)
  clear h h1W hb hr hkW hw hg hN
  go_enter Tryz.func32, Tryz.ntmps32
  go_wp2_with fail
  rw [← hW]
  clear hW
  have hl1 : (Instr.lookup 63 (.map (some ms)) (.int .i64 hd) true).run Tryz.prog W.drew = .ok (.tuple #[.agg #[.int .i64 0, .pointer none, .int .i64 0], .bool false]) W.drew := LK.out W.drew HW1.out.hms
  have hl2 : (Instr.lookup 63 (.map (some ms)) (.int .i64 hd) true).run Tryz.prog (W.alloc (.cells #[.int .i64 0, .pointer none, .int .i64 0] 99)).drew = .ok (.tuple #[.agg #[.int .i64 0, .pointer none, .int .i64 0], .bool false]) (W.alloc (.cells #[.int .i64 0, .pointer none, .int .i64 0] 99)).drew := LK.out _ (HW1.out.hms.kp kp_new.drew (fun q => q))
  have lt1 : p < W.heap.size := World.block_lt_of_cell? W _ d0
  have lt2 : w.heap.size < W.heap.size := World.block_lt_of_cell? W _ d1
  have e0 := ((kp_new (w := W) (o := .cells #[.int .i64 0, .pointer none, .int .i64 0] 99)).cell (p := ⟨p, 2, none⟩) lt1 (fun q => q)).trans d0
  have e1 := ((kp_new (w := W) (o := .cells #[.int .i64 0, .pointer none, .int .i64 0] 99)).cell (p := ⟨w.heap.size, 3, none⟩) lt2 (fun q => q)).trans d1
  go_cut [7, 8] (fun s7 s8 wx => SesAt W 0 (.pointer none) 0 false s7 s8 wx)
  case first =>
    go_region_law (fail)
    all_goals
      go_wp2_with fail
      go_meet
      first
        | exact ⟨rfl, rfl, alloc_at W _, kp_new.drew⟩
        | exact SesAt.put (alloc_at W _) kp_new.drew
  case rest =>
    obtain ⟨rfl, rfl, hx, hkc⟩ := hcut
    have x0 : wc.cell? ⟨W.heap.size, 0, none⟩ = some (.int .i64 0) := by rw [cell_of hx]; rfl
    have x1 : wc.cell? ⟨W.heap.size, 1, none⟩ = some ((.pointer none)) := by rw [cell_of hx]; rfl
    have HC1 := Lib.hid (HW1.out.kp0 (hkc.mono (fun _ _ q => q.elim)))
    have HCS := Lib.hid (Stp.kp0 (own := own) hkc)
    have HBC := Lib.hid (hkc.at_ HB.out (fun q => q))
    have LW := Lib.hid (show w.heap.size + 1 < wc.heap.size from Nat.lt_of_lt_of_le LWW.out hkc.size)
    clear hx hkc d0 d1 e0 e1 hl1 hl2 lt1 lt2
    have HXV := Lib.hid (show PX own wc p X from ⟨pu, sh, ms, ml, L, HC1.out⟩)
    have HSV := HCS
    obtain ⟨hVa, h6, hX6, hS6, kr6⟩ := ans_fin HK.out HR.out (Nat.le_succ _) HO1.out HXV.out HSV.out (7) (0) (.slice none 0 0)
    have f0 : ∀ i, wc.frozen? ⟨w.heap.size + 1, i, none⟩ = false := free_of hVa
    have c0 : wc.cell? ⟨w.heap.size + 1, 0, none⟩ = some (.int .i64 0) := by rw [cell_of hVa]; rfl
    have c1 : wc.cell? ⟨w.heap.size + 1, 1, none⟩ = some (.int .i64 0) := by rw [cell_of hVa]; rfl
    have c2 : wc.cell? ⟨w.heap.size + 1, 2, none⟩ = some (.slice none 0 0) := by rw [cell_of hVa]; rfl
    have H6 := Lib.hid h6
    have HX6 := Lib.hid hX6
    have HS6 := Lib.hid hS6
    have KR6 := Lib.hid kr6
    clear hVa h6 hX6 hS6 kr6
    go_wp2_with fail
    have y0 := cell_of H6.out 0
    have y1 := cell_of H6.out 1
    have y2 := cell_of H6.out 2
    refine bodyPost_ret (v := .agg #[.int .i64 (7), .int .i64 (0), .slice none 0 0]) ?_ rfl ?_
    · rw [results_cell1 rfl]
      simp [go_sem, y0, y1, y2]
    · exact ⟨none, 0, _, rfl, RowM.nil _ _ _, HX6.out, HS6.out, fun b hb => by cases hb⟩
set_option maxRecDepth 100000 in
set_option maxHeartbeats 4000000 in
theorem ses_other (own : Nat → Int) (w : World) (p : Nat) (X : Pls) (N : Nat) (h : PX own w p X) (hw : X.Wf N) (hN : N ≤ 30000) (cl k : Int) (nm : ByteArray) (lv hd : Int) (d : Value) (e : Sp) (hg : AL.get X.L hd = some e) (hc : e.cl ≠ cl) : Calls Tryz.prog 32 #[.pointer (some ⟨p, 0, none⟩), .int .i64 cl, .agg #[.int .i64 k, .string nm, .int .i64 lv, .int .i64 hd, d]] w (AnsP own w p (X, ⟨7, 0, []⟩)) := by
  obtain ⟨pu, sh, ms, ml, L, h⟩ := h
  obtain ⟨W, hW, hkW, hb, hr⟩ := frame2 w k nm lv hd d
  have h1W := h.kp0 (hkW.mono (fun _ _ q => q.elim))
  have HO0 := Lib.hid (h.new (Nat.le_refl w.heap.size))
  have HO1 := Lib.hid (h.new (Nat.le_succ w.heap.size))
  have HW1 := Lib.hid h1W
  have HB := Lib.hid hb
  have HR := Lib.hid hr
  have HK := Lib.hid hkW
  have HWF := Lib.hid hw
  have LWW := Lib.hid (lt_of_at hr)
  have d0 : W.cell? ⟨p, 2, none⟩ = some (.map (some ms)) := h1W.cells.2.2.1
  have d1 : W.cell? ⟨w.heap.size, 3, none⟩ = some (.int .i64 hd) := by rw [cell_of hb]; rfl
  obtain ⟨q, hq, rfl⟩ : ∃ q : Se, AL.get L hd = some q ∧ e = ⟨q.cl, q.id, q.S⟩ := by
    rw [h.abs, abs_get] at hg
    cases hgg : AL.get L hd with
    | none => rw [hgg] at hg; cases hg
    | some q => rw [hgg] at hg; exact ⟨q, rfl, by simpa using hg.symm⟩
  have HQ := Lib.hid hq
  have HG := Lib.hid hg
  obtain ⟨ecl, sp, eid, S⟩ := q
  have LK : Hid (∀ V, MapAt V (.int .i64) (Value.int .i64) sev ms L → (Instr.lookup 63 (.map (some ms)) (.int .i64 hd) true).run Tryz.prog V = .ok (.tuple #[.agg #[.int .i64 ecl, .pointer (some ⟨sp, 0, none⟩), .int .i64 eid], .bool true]) V) := Lib.hid (fun V hm => by
    have := hm.look (P := Tryz.prog) key_int Tryz.underlying63 Tryz.underlying3 (zeroSe V) hd true
    rw [this, HQ.out]; rfl)
  simp only at hc
  have hcc : (ecl == cl) = false := by simpa using hc
  have HN := Lib.hid hN
  clear h h1W hb hr hkW hw hg hq hN
  go_enter Tryz.func32, Tryz.ntmps32
  go_wp2_with fail
  rw [← hW]
  clear hW
  have hl1 : (Instr.lookup 63 (.map (some ms)) (.int .i64 hd) true).run Tryz.prog W.drew = .ok (.tuple #[.agg #[.int .i64 ecl, .pointer (some ⟨sp, 0, none⟩), .int .i64 eid], .bool true]) W.drew := LK.out W.drew HW1.out.hms
  have hl2 : (Instr.lookup 63 (.map (some ms)) (.int .i64 hd) true).run Tryz.prog (W.alloc (.cells #[.int .i64 0, .pointer none, .int .i64 0] 99)).drew = .ok (.tuple #[.agg #[.int .i64 ecl, .pointer (some ⟨sp, 0, none⟩), .int .i64 eid], .bool true]) (W.alloc (.cells #[.int .i64 0, .pointer none, .int .i64 0] 99)).drew := LK.out _ (HW1.out.hms.kp kp_new.drew (fun q => q))
  have lt1 : p < W.heap.size := World.block_lt_of_cell? W _ d0
  have lt2 : w.heap.size < W.heap.size := World.block_lt_of_cell? W _ d1
  have e0 := ((kp_new (w := W) (o := .cells #[.int .i64 0, .pointer none, .int .i64 0] 99)).cell (p := ⟨p, 2, none⟩) lt1 (fun q => q)).trans d0
  have e1 := ((kp_new (w := W) (o := .cells #[.int .i64 0, .pointer none, .int .i64 0] 99)).cell (p := ⟨w.heap.size, 3, none⟩) lt2 (fun q => q)).trans d1
  go_cut [7, 8] (fun s7 s8 wx => SesAt W ecl (.pointer (some ⟨sp, 0, none⟩)) eid true s7 s8 wx)
  case first =>
    go_region_law (fail)
    all_goals
      go_wp2_with fail
      go_meet
      first
        | exact ⟨rfl, rfl, alloc_at W _, kp_new.drew⟩
        | exact SesAt.put (alloc_at W _) kp_new.drew
  case rest =>
    obtain ⟨rfl, rfl, hx, hkc⟩ := hcut
    have x0 : wc.cell? ⟨W.heap.size, 0, none⟩ = some (.int .i64 ecl) := by rw [cell_of hx]; rfl
    have x1 : wc.cell? ⟨W.heap.size, 1, none⟩ = some ((.pointer (some ⟨sp, 0, none⟩))) := by rw [cell_of hx]; rfl
    have HC1 := Lib.hid (HW1.out.kp0 (hkc.mono (fun _ _ q => q.elim)))
    have HCS := Lib.hid (Stp.kp0 (own := own) hkc)
    have HBC := Lib.hid (hkc.at_ HB.out (fun q => q))
    have LW := Lib.hid (show w.heap.size + 1 < wc.heap.size from Nat.lt_of_lt_of_le LWW.out hkc.size)
    clear hx hkc d0 d1 e0 e1 hl1 hl2 lt1 lt2
    have HXV := Lib.hid (show PX own wc p X from ⟨pu, sh, ms, ml, L, HC1.out⟩)
    have HSV := HCS
    obtain ⟨hVa, h6, hX6, hS6, kr6⟩ := ans_fin HK.out HR.out (Nat.le_succ _) HO1.out HXV.out HSV.out (7) (0) (.slice none 0 0)
    have f0 : ∀ i, wc.frozen? ⟨w.heap.size + 1, i, none⟩ = false := free_of hVa
    have c0 : wc.cell? ⟨w.heap.size + 1, 0, none⟩ = some (.int .i64 0) := by rw [cell_of hVa]; rfl
    have c1 : wc.cell? ⟨w.heap.size + 1, 1, none⟩ = some (.int .i64 0) := by rw [cell_of hVa]; rfl
    have c2 : wc.cell? ⟨w.heap.size + 1, 2, none⟩ = some (.slice none 0 0) := by rw [cell_of hVa]; rfl
    have H6 := Lib.hid h6
    have HX6 := Lib.hid hX6
    have HS6 := Lib.hid hS6
    have KR6 := Lib.hid kr6
    clear hVa h6 hX6 hS6 kr6
    go_wp2_with fail
    have y0 := cell_of H6.out 0
    have y1 := cell_of H6.out 1
    have y2 := cell_of H6.out 2
    refine bodyPost_ret (v := .agg #[.int .i64 (7), .int .i64 (0), .slice none 0 0]) ?_ rfl ?_
    · rw [results_cell1 rfl]
      simp [go_sem, y0, y1, y2]
    · exact ⟨none, 0, _, rfl, RowM.nil _ _ _, HX6.out, HS6.out, fun b hb => by cases hb⟩
set_option maxRecDepth 100000 in
set_option maxHeartbeats 4000000 in
theorem ses_flush (own : Nat → Int) (w : World) (p : Nat) (X : Pls) (N : Nat) (h : PX own w p X) (hw : X.Wf N) (hN : N ≤ 30000) (cl k : Int) (nm : ByteArray) (lv hd : Int) (d : Value) (e : Sp) (hg : AL.get X.L hd = some e) (hc : e.cl = cl) (hk : k = 3) : Calls Tryz.prog 32 #[.pointer (some ⟨p, 0, none⟩), .int .i64 cl, .agg #[.int .i64 k, .string nm, .int .i64 lv, .int .i64 hd, d]] w (AnsP own w p (X.puts hd e (fS e.S), ⟨0, 0, fO e.S⟩)) := by
  obtain ⟨pu, sh, ms, ml, L, h⟩ := h
  obtain ⟨W, hW, hkW, hb, hr⟩ := frame2 w k nm lv hd d
  have h1W := h.kp0 (hkW.mono (fun _ _ q => q.elim))
  have HO0 := Lib.hid (h.new (Nat.le_refl w.heap.size))
  have HO1 := Lib.hid (h.new (Nat.le_succ w.heap.size))
  have HW1 := Lib.hid h1W
  have HB := Lib.hid hb
  have HR := Lib.hid hr
  have HK := Lib.hid hkW
  have HWF := Lib.hid hw
  have LWW := Lib.hid (lt_of_at hr)
  have d0 : W.cell? ⟨p, 2, none⟩ = some (.map (some ms)) := h1W.cells.2.2.1
  have d1 : W.cell? ⟨w.heap.size, 3, none⟩ = some (.int .i64 hd) := by rw [cell_of hb]; rfl
  obtain ⟨q, hq, rfl⟩ : ∃ q : Se, AL.get L hd = some q ∧ e = ⟨q.cl, q.id, q.S⟩ := by
    rw [h.abs, abs_get] at hg
    cases hgg : AL.get L hd with
    | none => rw [hgg] at hg; cases hg
    | some q => rw [hgg] at hg; exact ⟨q, rfl, by simpa using hg.symm⟩
  have HQ := Lib.hid hq
  have HG := Lib.hid hg
  obtain ⟨ecl, sp, eid, S⟩ := q
  have LK : Hid (∀ V, MapAt V (.int .i64) (Value.int .i64) sev ms L → (Instr.lookup 63 (.map (some ms)) (.int .i64 hd) true).run Tryz.prog V = .ok (.tuple #[.agg #[.int .i64 ecl, .pointer (some ⟨sp, 0, none⟩), .int .i64 eid], .bool true]) V) := Lib.hid (fun V hm => by
    have := hm.look (P := Tryz.prog) key_int Tryz.underlying63 Tryz.underlying3 (zeroSe V) hd true
    rw [this, HQ.out]; rfl)
  simp only at hc
  subst hc
  obtain rfl : k = 3 := hk
  have HN := Lib.hid hN
  clear h h1W hb hr hkW hw hg hq hN
  go_enter Tryz.func32, Tryz.ntmps32
  go_wp2_with fail
  rw [← hW]
  clear hW
  have hl1 : (Instr.lookup 63 (.map (some ms)) (.int .i64 hd) true).run Tryz.prog W.drew = .ok (.tuple #[.agg #[.int .i64 ecl, .pointer (some ⟨sp, 0, none⟩), .int .i64 eid], .bool true]) W.drew := LK.out W.drew HW1.out.hms
  have hl2 : (Instr.lookup 63 (.map (some ms)) (.int .i64 hd) true).run Tryz.prog (W.alloc (.cells #[.int .i64 0, .pointer none, .int .i64 0] 99)).drew = .ok (.tuple #[.agg #[.int .i64 ecl, .pointer (some ⟨sp, 0, none⟩), .int .i64 eid], .bool true]) (W.alloc (.cells #[.int .i64 0, .pointer none, .int .i64 0] 99)).drew := LK.out _ (HW1.out.hms.kp kp_new.drew (fun q => q))
  have lt1 : p < W.heap.size := World.block_lt_of_cell? W _ d0
  have lt2 : w.heap.size < W.heap.size := World.block_lt_of_cell? W _ d1
  have e0 := ((kp_new (w := W) (o := .cells #[.int .i64 0, .pointer none, .int .i64 0] 99)).cell (p := ⟨p, 2, none⟩) lt1 (fun q => q)).trans d0
  have e1 := ((kp_new (w := W) (o := .cells #[.int .i64 0, .pointer none, .int .i64 0] 99)).cell (p := ⟨w.heap.size, 3, none⟩) lt2 (fun q => q)).trans d1
  go_cut [7, 8] (fun s7 s8 wx => SesAt W ecl (.pointer (some ⟨sp, 0, none⟩)) eid true s7 s8 wx)
  case first =>
    go_region_law (fail)
    all_goals
      go_wp2_with fail
      go_meet
      first
        | exact ⟨rfl, rfl, alloc_at W _, kp_new.drew⟩
        | exact SesAt.put (alloc_at W _) kp_new.drew
  case rest =>
    obtain ⟨rfl, rfl, hx, hkc⟩ := hcut
    have x0 : wc.cell? ⟨W.heap.size, 0, none⟩ = some (.int .i64 ecl) := by rw [cell_of hx]; rfl
    have x1 : wc.cell? ⟨W.heap.size, 1, none⟩ = some ((.pointer (some ⟨sp, 0, none⟩))) := by rw [cell_of hx]; rfl
    have HC1 := Lib.hid (HW1.out.kp0 (hkc.mono (fun _ _ q => q.elim)))
    have HCS := Lib.hid (Stp.kp0 (own := own) hkc)
    have HBC := Lib.hid (hkc.at_ HB.out (fun q => q))
    have LW := Lib.hid (show w.heap.size + 1 < wc.heap.size from Nat.lt_of_lt_of_le LWW.out hkc.size)
    clear hx hkc d0 d1 e0 e1 hl1 hl2 lt1 lt2
    have z0 : wc.cell? ⟨w.heap.size, 0, none⟩ = some (.int .i64 3) := by rw [cell_of HBC.out]; rfl
    have z3 : wc.cell? ⟨w.heap.size, 3, none⟩ = some (.int .i64 hd) := by rw [cell_of HBC.out]; rfl
    have CC := Lib.hid (flush_x HC1.out HWF.out HN.out HQ.out)
    unfold SesPost at CC
    obtain ⟨O, hO⟩ : ∃ O, O = fO S := ⟨_, rfl⟩
    obtain ⟨S1, hS1⟩ : ∃ S1, S1 = fS S := ⟨_, rfl⟩
    rw [← hO, ← hS1] at CC
    obtain ⟨on, hon⟩ : ∃ on, on = O.length := ⟨_, rfl⟩
    have HON := Lib.hid hon
    have HOO := Lib.hid hO
    have HSS := Lib.hid hS1
    rw [← hon] at CC
    clear hon hO hS1
    go_wp2_with fail
    refine CC.out.mono ?_
    rintro e Z0 ⟨a, c, own1, L1, rfl, g1, g2, g3, g4, g5⟩
    have RW0 := Lib.hid g1
    have X1 := Lib.hid g2
    have S1' := Lib.hid (HCS.out.trans g3)
    have OB0 := Lib.hid g4
    have G5 := Lib.hid g5
    clear g1 g2 g3 g4 g5 CC
    have HXV := Lib.hid (show PX own1 Z0 p (X.puts hd ⟨ecl, eid, S⟩ S1) from ⟨pu, sh, ms, ml, L1, X1.out⟩)
    have HSV := S1'
    have RW := RW0
    have OB := OB0
    obtain ⟨hVa, h6, hX6, hS6, kr6⟩ := ans_fin HK.out HR.out (Nat.le_succ _) HO1.out HXV.out HSV.out (0) (0) (.slice a on c)
    have f0 : ∀ i, Z0.frozen? ⟨w.heap.size + 1, i, none⟩ = false := free_of hVa
    have c0 : Z0.cell? ⟨w.heap.size + 1, 0, none⟩ = some (.int .i64 0) := by rw [cell_of hVa]; rfl
    have c1 : Z0.cell? ⟨w.heap.size + 1, 1, none⟩ = some (.int .i64 0) := by rw [cell_of hVa]; rfl
    have c2 : Z0.cell? ⟨w.heap.size + 1, 2, none⟩ = some (.slice none 0 0) := by rw [cell_of hVa]; rfl
    have H6 := Lib.hid h6
    have HX6 := Lib.hid hX6
    have HS6 := Lib.hid hS6
    have KR6 := Lib.hid kr6
    clear hVa h6 hX6 hS6 kr6
    go_wp2_with fail
    have y0 := cell_of H6.out 0
    have y1 := cell_of H6.out 1
    have y2 := cell_of H6.out 2
    refine bodyPost_ret (v := .agg #[.int .i64 (0), .int .i64 (0), .slice a on c]) ?_ rfl ?_
    · rw [results_cell1 rfl]
      simp [go_sem, y0, y1, y2]
    · rw [← HOO.out, ← HSS.out]
      refine ⟨a, c, _, ?_, ?_, HX6.out, HS6.out, ?_⟩
      · show _ = Ending.returned (.agg #[.int .i64 0, .int .i64 0, .slice a O.length c])
        rw [← HON.out]
      · show RowB w.heap.size _ (.slice a O.length c) O
        rw [← HON.out]
        exact (RowM.kpo RW.out KR6.out (fun b hb e => by have h1 := (RowM.lt RW.out hb).1; have h2 := LW.out; have e2 : b = w.heap.size + 1 := e; omega)).low (by have h2 := LW.out; omega)
      · show ∀ b, (Value.slice a O.length c).ownBlock = some b → _
        rw [← HON.out]
        exact OB.out
set_option maxRecDepth 100000 in
set_option maxHeartbeats 4000000 in
theorem ses_abort (own : Nat → Int) (w : World) (p : Nat) (X : Pls) (N : Nat) (h : PX own w p X) (hw : X.Wf N) (hN : N ≤ 30000) (cl k : Int) (nm : ByteArray) (lv hd : Int) (d : Value) (e : Sp) (hg : AL.get X.L hd = some e) (hc : e.cl = cl) (hk : k = 5) : Calls Tryz.prog 32 #[.pointer (some ⟨p, 0, none⟩), .int .i64 cl, .agg #[.int .i64 k, .string nm, .int .i64 lv, .int .i64 hd, d]] w (AnsP own w p (X.ends hd e, ⟨0, 0, []⟩)) := by
  obtain ⟨pu, sh, ms, ml, L, h⟩ := h
  obtain ⟨W, hW, hkW, hb, hr⟩ := frame2 w k nm lv hd d
  have h1W := h.kp0 (hkW.mono (fun _ _ q => q.elim))
  have HO0 := Lib.hid (h.new (Nat.le_refl w.heap.size))
  have HO1 := Lib.hid (h.new (Nat.le_succ w.heap.size))
  have HW1 := Lib.hid h1W
  have HB := Lib.hid hb
  have HR := Lib.hid hr
  have HK := Lib.hid hkW
  have HWF := Lib.hid hw
  have LWW := Lib.hid (lt_of_at hr)
  have d0 : W.cell? ⟨p, 2, none⟩ = some (.map (some ms)) := h1W.cells.2.2.1
  have d1 : W.cell? ⟨w.heap.size, 3, none⟩ = some (.int .i64 hd) := by rw [cell_of hb]; rfl
  obtain ⟨q, hq, rfl⟩ : ∃ q : Se, AL.get L hd = some q ∧ e = ⟨q.cl, q.id, q.S⟩ := by
    rw [h.abs, abs_get] at hg
    cases hgg : AL.get L hd with
    | none => rw [hgg] at hg; cases hg
    | some q => rw [hgg] at hg; exact ⟨q, rfl, by simpa using hg.symm⟩
  have HQ := Lib.hid hq
  have HG := Lib.hid hg
  obtain ⟨ecl, sp, eid, S⟩ := q
  have LK : Hid (∀ V, MapAt V (.int .i64) (Value.int .i64) sev ms L → (Instr.lookup 63 (.map (some ms)) (.int .i64 hd) true).run Tryz.prog V = .ok (.tuple #[.agg #[.int .i64 ecl, .pointer (some ⟨sp, 0, none⟩), .int .i64 eid], .bool true]) V) := Lib.hid (fun V hm => by
    have := hm.look (P := Tryz.prog) key_int Tryz.underlying63 Tryz.underlying3 (zeroSe V) hd true
    rw [this, HQ.out]; rfl)
  simp only at hc
  subst hc
  obtain rfl : k = 5 := hk
  have HN := Lib.hid hN
  clear h h1W hb hr hkW hw hg hq hN
  go_enter Tryz.func32, Tryz.ntmps32
  go_wp2_with fail
  rw [← hW]
  clear hW
  have hl1 : (Instr.lookup 63 (.map (some ms)) (.int .i64 hd) true).run Tryz.prog W.drew = .ok (.tuple #[.agg #[.int .i64 ecl, .pointer (some ⟨sp, 0, none⟩), .int .i64 eid], .bool true]) W.drew := LK.out W.drew HW1.out.hms
  have hl2 : (Instr.lookup 63 (.map (some ms)) (.int .i64 hd) true).run Tryz.prog (W.alloc (.cells #[.int .i64 0, .pointer none, .int .i64 0] 99)).drew = .ok (.tuple #[.agg #[.int .i64 ecl, .pointer (some ⟨sp, 0, none⟩), .int .i64 eid], .bool true]) (W.alloc (.cells #[.int .i64 0, .pointer none, .int .i64 0] 99)).drew := LK.out _ (HW1.out.hms.kp kp_new.drew (fun q => q))
  have lt1 : p < W.heap.size := World.block_lt_of_cell? W _ d0
  have lt2 : w.heap.size < W.heap.size := World.block_lt_of_cell? W _ d1
  have e0 := ((kp_new (w := W) (o := .cells #[.int .i64 0, .pointer none, .int .i64 0] 99)).cell (p := ⟨p, 2, none⟩) lt1 (fun q => q)).trans d0
  have e1 := ((kp_new (w := W) (o := .cells #[.int .i64 0, .pointer none, .int .i64 0] 99)).cell (p := ⟨w.heap.size, 3, none⟩) lt2 (fun q => q)).trans d1
  go_cut [7, 8] (fun s7 s8 wx => SesAt W ecl (.pointer (some ⟨sp, 0, none⟩)) eid true s7 s8 wx)
  case first =>
    go_region_law (fail)
    all_goals
      go_wp2_with fail
      go_meet
      first
        | exact ⟨rfl, rfl, alloc_at W _, kp_new.drew⟩
        | exact SesAt.put (alloc_at W _) kp_new.drew
  case rest =>
    obtain ⟨rfl, rfl, hx, hkc⟩ := hcut
    have x0 : wc.cell? ⟨W.heap.size, 0, none⟩ = some (.int .i64 ecl) := by rw [cell_of hx]; rfl
    have x1 : wc.cell? ⟨W.heap.size, 1, none⟩ = some ((.pointer (some ⟨sp, 0, none⟩))) := by rw [cell_of hx]; rfl
    have HC1 := Lib.hid (HW1.out.kp0 (hkc.mono (fun _ _ q => q.elim)))
    have HCS := Lib.hid (Stp.kp0 (own := own) hkc)
    have HBC := Lib.hid (hkc.at_ HB.out (fun q => q))
    have LW := Lib.hid (show w.heap.size + 1 < wc.heap.size from Nat.lt_of_lt_of_le LWW.out hkc.size)
    clear hx hkc d0 d1 e0 e1 hl1 hl2 lt1 lt2
    have z0 : wc.cell? ⟨w.heap.size, 0, none⟩ = some (.int .i64 5) := by rw [cell_of HBC.out]; rfl
    have z3 : wc.cell? ⟨w.heap.size, 3, none⟩ = some (.int .i64 hd) := by rw [cell_of HBC.out]; rfl
    have CE := Lib.hid (ends_p (w := wc) (own := own) (p := p) (X := X) ⟨pu, sh, ms, ml, L, HC1.out⟩ HWF.out.P (HWF.out.pns HN.out) hd ⟨ecl, eid, S⟩ HG.out)
    unfold GoPost at CE
    go_wp2_with fail
    refine CE.out.mono ?_
    rintro e Z ⟨rfl, own2, u1, u2⟩
    have HXV := Lib.hid u1
    have HSV := Lib.hid (HCS.out.trans u2)
    clear u1 u2 CE x0 x1 z0 z3
    obtain ⟨hVa, h6, hX6, hS6, kr6⟩ := ans_fin HK.out HR.out (Nat.le_succ _) HO1.out HXV.out HSV.out (0) (0) (.slice none 0 0)
    have f0 : ∀ i, Z.frozen? ⟨w.heap.size + 1, i, none⟩ = false := free_of hVa
    have c0 : Z.cell? ⟨w.heap.size + 1, 0, none⟩ = some (.int .i64 0) := by rw [cell_of hVa]; rfl
    have c1 : Z.cell? ⟨w.heap.size + 1, 1, none⟩ = some (.int .i64 0) := by rw [cell_of hVa]; rfl
    have c2 : Z.cell? ⟨w.heap.size + 1, 2, none⟩ = some (.slice none 0 0) := by rw [cell_of hVa]; rfl
    have H6 := Lib.hid h6
    have HX6 := Lib.hid hX6
    have HS6 := Lib.hid hS6
    have KR6 := Lib.hid kr6
    clear hVa h6 hX6 hS6 kr6
    go_wp2_with fail
    have y0 := cell_of H6.out 0
    have y1 := cell_of H6.out 1
    have y2 := cell_of H6.out 2
    refine bodyPost_ret (v := .agg #[.int .i64 (0), .int .i64 (0), .slice none 0 0]) ?_ rfl ?_
    · rw [results_cell1 rfl]
      simp [go_sem, y0, y1, y2]
    · exact ⟨none, 0, _, rfl, RowM.nil _ _ _, HX6.out, HS6.out, fun b hb => by cases hb⟩
set_option maxRecDepth 100000 in
set_option maxHeartbeats 4000000 in
theorem ses_close (own : Nat → Int) (w : World) (p : Nat) (X : Pls) (N : Nat) (h : PX own w p X) (hw : X.Wf N) (hN : N ≤ 30000) (cl k : Int) (nm : ByteArray) (lv hd : Int) (d : Value) (e : Sp) (hg : AL.get X.L hd = some e) (hc : e.cl = cl) (hk : k = 4) : Calls Tryz.prog 32 #[.pointer (some ⟨p, 0, none⟩), .int .i64 cl, .agg #[.int .i64 k, .string nm, .int .i64 lv, .int .i64 hd, d]] w (AnsP own w p (X.ends hd e, ⟨0, 0, eO e.S⟩)) := by
  obtain ⟨pu, sh, ms, ml, L, h⟩ := h
  obtain ⟨W, hW, hkW, hb, hr⟩ := frame2 w k nm lv hd d
  have h1W := h.kp0 (hkW.mono (fun _ _ q => q.elim))
  have HO0 := Lib.hid (h.new (Nat.le_refl w.heap.size))
  have HO1 := Lib.hid (h.new (Nat.le_succ w.heap.size))
  have HW1 := Lib.hid h1W
  have HB := Lib.hid hb
  have HR := Lib.hid hr
  have HK := Lib.hid hkW
  have HWF := Lib.hid hw
  have LWW := Lib.hid (lt_of_at hr)
  have d0 : W.cell? ⟨p, 2, none⟩ = some (.map (some ms)) := h1W.cells.2.2.1
  have d1 : W.cell? ⟨w.heap.size, 3, none⟩ = some (.int .i64 hd) := by rw [cell_of hb]; rfl
  obtain ⟨q, hq, rfl⟩ : ∃ q : Se, AL.get L hd = some q ∧ e = ⟨q.cl, q.id, q.S⟩ := by
    rw [h.abs, abs_get] at hg
    cases hgg : AL.get L hd with
    | none => rw [hgg] at hg; cases hg
    | some q => rw [hgg] at hg; exact ⟨q, rfl, by simpa using hg.symm⟩
  have HQ := Lib.hid hq
  have HG := Lib.hid hg
  obtain ⟨ecl, sp, eid, S⟩ := q
  have LK : Hid (∀ V, MapAt V (.int .i64) (Value.int .i64) sev ms L → (Instr.lookup 63 (.map (some ms)) (.int .i64 hd) true).run Tryz.prog V = .ok (.tuple #[.agg #[.int .i64 ecl, .pointer (some ⟨sp, 0, none⟩), .int .i64 eid], .bool true]) V) := Lib.hid (fun V hm => by
    have := hm.look (P := Tryz.prog) key_int Tryz.underlying63 Tryz.underlying3 (zeroSe V) hd true
    rw [this, HQ.out]; rfl)
  simp only at hc
  subst hc
  obtain rfl : k = 4 := hk
  have HN := Lib.hid hN
  clear h h1W hb hr hkW hw hg hq hN
  go_enter Tryz.func32, Tryz.ntmps32
  go_wp2_with fail
  rw [← hW]
  clear hW
  have hl1 : (Instr.lookup 63 (.map (some ms)) (.int .i64 hd) true).run Tryz.prog W.drew = .ok (.tuple #[.agg #[.int .i64 ecl, .pointer (some ⟨sp, 0, none⟩), .int .i64 eid], .bool true]) W.drew := LK.out W.drew HW1.out.hms
  have hl2 : (Instr.lookup 63 (.map (some ms)) (.int .i64 hd) true).run Tryz.prog (W.alloc (.cells #[.int .i64 0, .pointer none, .int .i64 0] 99)).drew = .ok (.tuple #[.agg #[.int .i64 ecl, .pointer (some ⟨sp, 0, none⟩), .int .i64 eid], .bool true]) (W.alloc (.cells #[.int .i64 0, .pointer none, .int .i64 0] 99)).drew := LK.out _ (HW1.out.hms.kp kp_new.drew (fun q => q))
  have lt1 : p < W.heap.size := World.block_lt_of_cell? W _ d0
  have lt2 : w.heap.size < W.heap.size := World.block_lt_of_cell? W _ d1
  have e0 := ((kp_new (w := W) (o := .cells #[.int .i64 0, .pointer none, .int .i64 0] 99)).cell (p := ⟨p, 2, none⟩) lt1 (fun q => q)).trans d0
  have e1 := ((kp_new (w := W) (o := .cells #[.int .i64 0, .pointer none, .int .i64 0] 99)).cell (p := ⟨w.heap.size, 3, none⟩) lt2 (fun q => q)).trans d1
  go_cut [7, 8] (fun s7 s8 wx => SesAt W ecl (.pointer (some ⟨sp, 0, none⟩)) eid true s7 s8 wx)
  case first =>
    go_region_law (fail)
    all_goals
      go_wp2_with fail
      go_meet
      first
        | exact ⟨rfl, rfl, alloc_at W _, kp_new.drew⟩
        | exact SesAt.put (alloc_at W _) kp_new.drew
  case rest =>
    obtain ⟨rfl, rfl, hx, hkc⟩ := hcut
    have x0 : wc.cell? ⟨W.heap.size, 0, none⟩ = some (.int .i64 ecl) := by rw [cell_of hx]; rfl
    have x1 : wc.cell? ⟨W.heap.size, 1, none⟩ = some ((.pointer (some ⟨sp, 0, none⟩))) := by rw [cell_of hx]; rfl
    have HC1 := Lib.hid (HW1.out.kp0 (hkc.mono (fun _ _ q => q.elim)))
    have HCS := Lib.hid (Stp.kp0 (own := own) hkc)
    have HBC := Lib.hid (hkc.at_ HB.out (fun q => q))
    have LW := Lib.hid (show w.heap.size + 1 < wc.heap.size from Nat.lt_of_lt_of_le LWW.out hkc.size)
    clear hx hkc d0 d1 e0 e1 hl1 hl2 lt1 lt2
    have z0 : wc.cell? ⟨w.heap.size, 0, none⟩ = some (.int .i64 4) := by rw [cell_of HBC.out]; rfl
    have z3 : wc.cell? ⟨w.heap.size, 3, none⟩ = some (.int .i64 hd) := by rw [cell_of HBC.out]; rfl
    have CC := Lib.hid (end_x HC1.out HWF.out HN.out HQ.out)
    unfold SesPost at CC
    obtain ⟨O, hO⟩ : ∃ O, O = eO S := ⟨_, rfl⟩
    obtain ⟨S1, hS1⟩ : ∃ S1, S1 = eS S := ⟨_, rfl⟩
    rw [← hO, ← hS1] at CC
    obtain ⟨on, hon⟩ : ∃ on, on = O.length := ⟨_, rfl⟩
    have HON := Lib.hid hon
    have HOO := Lib.hid hO
    have HSS := Lib.hid hS1
    rw [← hon] at CC
    clear hon hO hS1
    go_wp2_with fail
    refine CC.out.mono ?_
    rintro e Z0 ⟨a, c, own1, L1, rfl, g1, g2, g3, g4, g5⟩
    have RW0 := Lib.hid g1
    have X1 := Lib.hid g2
    have S1' := Lib.hid (HCS.out.trans g3)
    have OB0 := Lib.hid g4
    have G5 := Lib.hid g5
    clear g1 g2 g3 g4 g5 CC
    have z3 : Z0.cell? ⟨w.heap.size, 3, none⟩ = some (.int .i64 hd) := by rw [cell_of (S1'.out.k.at_ HB.out (fun q => q HO0.out))]; rfl
    have CE := Lib.hid (ends_p (w := Z0) (own := own1) (p := p) (X := X.puts hd ⟨ecl, eid, S⟩ S1) ⟨pu, sh, ms, ml, L1, X1.out⟩ HWF.out.P (HWF.out.pns HN.out) hd ⟨ecl, eid, S1⟩ (by rw [X1.out.abs, abs_get, G5.out]; rfl))
    unfold GoPost at CE
    rw [ends_puts X hd ⟨ecl, eid, S⟩ S1] at CE
    clear x0 x1 z0
    go_wp2_with fail
    refine CE.out.mono ?_
    rintro e Z ⟨rfl, own2, u1, u2⟩
    have HXV := Lib.hid u1
    have HSV := Lib.hid (S1'.out.trans u2)
    have RW := Lib.hid (RowM.kpo RW0.out u2.k (fun b hb q => q (OB0.out b hb)))
    have OB := Lib.hid (fun b hb => (u2.o b (RowM.lt RW0.out hb).2).trans (OB0.out b hb))
    clear u1 u2 CE
    obtain ⟨hVa, h6, hX6, hS6, kr6⟩ := ans_fin HK.out HR.out (Nat.le_succ _) HO1.out HXV.out HSV.out (0) (0) (.slice a on c)
    have f0 : ∀ i, Z.frozen? ⟨w.heap.size + 1, i, none⟩ = false := free_of hVa
    have c0 : Z.cell? ⟨w.heap.size + 1, 0, none⟩ = some (.int .i64 0) := by rw [cell_of hVa]; rfl
    have c1 : Z.cell? ⟨w.heap.size + 1, 1, none⟩ = some (.int .i64 0) := by rw [cell_of hVa]; rfl
    have c2 : Z.cell? ⟨w.heap.size + 1, 2, none⟩ = some (.slice none 0 0) := by rw [cell_of hVa]; rfl
    have H6 := Lib.hid h6
    have HX6 := Lib.hid hX6
    have HS6 := Lib.hid hS6
    have KR6 := Lib.hid kr6
    clear hVa h6 hX6 hS6 kr6
    go_wp2_with fail
    have y0 := cell_of H6.out 0
    have y1 := cell_of H6.out 1
    have y2 := cell_of H6.out 2
    refine bodyPost_ret (v := .agg #[.int .i64 (0), .int .i64 (0), .slice a on c]) ?_ rfl ?_
    · rw [results_cell1 rfl]
      simp [go_sem, y0, y1, y2]
    · rw [← HOO.out]
      refine ⟨a, c, _, ?_, ?_, HX6.out, HS6.out, ?_⟩
      · show _ = Ending.returned (.agg #[.int .i64 0, .int .i64 0, .slice a O.length c])
        rw [← HON.out]
      · show RowB w.heap.size _ (.slice a O.length c) O
        rw [← HON.out]
        exact (RowM.kpo RW.out KR6.out (fun b hb e => by have h1 := (RowM.lt RW.out hb).1; have h2 := LW.out; have e2 : b = w.heap.size + 1 := e; omega)).low (by have h2 := LW.out; omega)
      · show ∀ b, (Value.slice a O.length c).ownBlock = some b → _
        rw [← HON.out]
        exact OB.out
set_option maxRecDepth 100000 in
set_option maxHeartbeats 4000000 in
theorem ses_long (own : Nat → Int) (w : World) (p : Nat) (X : Pls) (N : Nat) (h : PX own w p X) (hw : X.Wf N) (hN : N ≤ 30000) (cl k : Int) (nm : ByteArray) (lv hd : Int) (ad : Option Addr) (cd : Nat) (ld : List UInt8) (e : Sp) (hg : AL.get X.L hd = some e) (hc : e.cl = cl) (hk : k ≠ 3 ∧ k ≠ 4 ∧ k ≠ 5) (hl : SlR w 1 (.slice ad ld.length cd) ld.length (ld.map u8c)) (hlo : ∀ b, (Value.slice ad ld.length cd).ownBlock = some b → own b = 0) (hll : 3000 < ld.length) : Calls Tryz.prog 32 #[.pointer (some ⟨p, 0, none⟩), .int .i64 cl, .agg #[.int .i64 k, .string nm, .int .i64 lv, .int .i64 hd, (.slice ad ld.length cd)]] w (AnsP own w p (X, ⟨1, 0, []⟩)) := by
  obtain ⟨pu, sh, ms, ml, L, h⟩ := h
  obtain ⟨W, hW, hkW, hb, hr⟩ := frame2 w k nm lv hd (.slice ad ld.length cd)
  have h1W := h.kp0 (hkW.mono (fun _ _ q => q.elim))
  have HO0 := Lib.hid (h.new (Nat.le_refl w.heap.size))
  have HO1 := Lib.hid (h.new (Nat.le_succ w.heap.size))
  have HW1 := Lib.hid h1W
  have HB := Lib.hid hb
  have HR := Lib.hid hr
  have HK := Lib.hid hkW
  have HWF := Lib.hid hw
  have LWW := Lib.hid (lt_of_at hr)
  have d0 : W.cell? ⟨p, 2, none⟩ = some (.map (some ms)) := h1W.cells.2.2.1
  have d1 : W.cell? ⟨w.heap.size, 3, none⟩ = some (.int .i64 hd) := by rw [cell_of hb]; rfl
  obtain ⟨q, hq, rfl⟩ : ∃ q : Se, AL.get L hd = some q ∧ e = ⟨q.cl, q.id, q.S⟩ := by
    rw [h.abs, abs_get] at hg
    cases hgg : AL.get L hd with
    | none => rw [hgg] at hg; cases hg
    | some q => rw [hgg] at hg; exact ⟨q, rfl, by simpa using hg.symm⟩
  have HQ := Lib.hid hq
  have HG := Lib.hid hg
  obtain ⟨ecl, sp, eid, S⟩ := q
  have LK : Hid (∀ V, MapAt V (.int .i64) (Value.int .i64) sev ms L → (Instr.lookup 63 (.map (some ms)) (.int .i64 hd) true).run Tryz.prog V = .ok (.tuple #[.agg #[.int .i64 ecl, .pointer (some ⟨sp, 0, none⟩), .int .i64 eid], .bool true]) V) := Lib.hid (fun V hm => by
    have := hm.look (P := Tryz.prog) key_int Tryz.underlying63 Tryz.underlying3 (zeroSe V) hd true
    rw [this, HQ.out]; rfl)
  simp only at hc
  subst hc
  have HL := Lib.hid (hl.kp hkW (fun _ _ q => q))
  have HLO := Lib.hid hlo
  have k3 : (k == 3) = false := by simp; omega
  have k5 : (k == 5) = false := by simp; omega
  have k4 : (k == 4) = false := by simp; omega
  have HN := Lib.hid hN
  clear h h1W hb hr hkW hw hg hq hN hl hlo hk
  go_enter Tryz.func32, Tryz.ntmps32
  go_wp2_with fail
  rw [← hW]
  clear hW
  have hl1 : (Instr.lookup 63 (.map (some ms)) (.int .i64 hd) true).run Tryz.prog W.drew = .ok (.tuple #[.agg #[.int .i64 ecl, .pointer (some ⟨sp, 0, none⟩), .int .i64 eid], .bool true]) W.drew := LK.out W.drew HW1.out.hms
  have hl2 : (Instr.lookup 63 (.map (some ms)) (.int .i64 hd) true).run Tryz.prog (W.alloc (.cells #[.int .i64 0, .pointer none, .int .i64 0] 99)).drew = .ok (.tuple #[.agg #[.int .i64 ecl, .pointer (some ⟨sp, 0, none⟩), .int .i64 eid], .bool true]) (W.alloc (.cells #[.int .i64 0, .pointer none, .int .i64 0] 99)).drew := LK.out _ (HW1.out.hms.kp kp_new.drew (fun q => q))
  have lt1 : p < W.heap.size := World.block_lt_of_cell? W _ d0
  have lt2 : w.heap.size < W.heap.size := World.block_lt_of_cell? W _ d1
  have e0 := ((kp_new (w := W) (o := .cells #[.int .i64 0, .pointer none, .int .i64 0] 99)).cell (p := ⟨p, 2, none⟩) lt1 (fun q => q)).trans d0
  have e1 := ((kp_new (w := W) (o := .cells #[.int .i64 0, .pointer none, .int .i64 0] 99)).cell (p := ⟨w.heap.size, 3, none⟩) lt2 (fun q => q)).trans d1
  go_cut [7, 8] (fun s7 s8 wx => SesAt W ecl (.pointer (some ⟨sp, 0, none⟩)) eid true s7 s8 wx)
  case first =>
    go_region_law (fail)
    all_goals
      go_wp2_with fail
      go_meet
      first
        | exact ⟨rfl, rfl, alloc_at W _, kp_new.drew⟩
        | exact SesAt.put (alloc_at W _) kp_new.drew
  case rest =>
    obtain ⟨rfl, rfl, hx, hkc⟩ := hcut
    have x0 : wc.cell? ⟨W.heap.size, 0, none⟩ = some (.int .i64 ecl) := by rw [cell_of hx]; rfl
    have x1 : wc.cell? ⟨W.heap.size, 1, none⟩ = some ((.pointer (some ⟨sp, 0, none⟩))) := by rw [cell_of hx]; rfl
    have HC1 := Lib.hid (HW1.out.kp0 (hkc.mono (fun _ _ q => q.elim)))
    have HCS := Lib.hid (Stp.kp0 (own := own) hkc)
    have HBC := Lib.hid (hkc.at_ HB.out (fun q => q))
    have LW := Lib.hid (show w.heap.size + 1 < wc.heap.size from Nat.lt_of_lt_of_le LWW.out hkc.size)
    clear hx hkc d0 d1 e0 e1 hl1 hl2 lt1 lt2
    have z0 : wc.cell? ⟨w.heap.size, 0, none⟩ = some (.int .i64 k) := by rw [cell_of HBC.out]; rfl
    have z3 : wc.cell? ⟨w.heap.size, 3, none⟩ = some (.int .i64 hd) := by rw [cell_of HBC.out]; rfl
    have z4 : wc.cell? ⟨w.heap.size, 4, none⟩ = some (.slice ad ld.length cd) := by rw [cell_of HBC.out]; rfl
    have hlen : (3000 : Int) < (ld.length : Int) := by omega
    have hlen2 : decide ((3000 : Int) < (ld.length : Int)) = true := decide_eq_true hlen
    have HXV := Lib.hid (show PX own wc p X from ⟨pu, sh, ms, ml, L, HC1.out⟩)
    have HSV := HCS
    obtain ⟨hVa, h6, hX6, hS6, kr6⟩ := ans_fin HK.out HR.out (Nat.le_succ _) HO1.out HXV.out HSV.out (1) (0) (.slice none 0 0)
    have f0 : ∀ i, wc.frozen? ⟨w.heap.size + 1, i, none⟩ = false := free_of hVa
    have c0 : wc.cell? ⟨w.heap.size + 1, 0, none⟩ = some (.int .i64 0) := by rw [cell_of hVa]; rfl
    have c1 : wc.cell? ⟨w.heap.size + 1, 1, none⟩ = some (.int .i64 0) := by rw [cell_of hVa]; rfl
    have c2 : wc.cell? ⟨w.heap.size + 1, 2, none⟩ = some (.slice none 0 0) := by rw [cell_of hVa]; rfl
    have H6 := Lib.hid h6
    have HX6 := Lib.hid hX6
    have HS6 := Lib.hid hS6
    have KR6 := Lib.hid kr6
    clear hVa h6 hX6 hS6 kr6
    go_wp2_with fail
    have y0 := cell_of H6.out 0
    have y1 := cell_of H6.out 1
    have y2 := cell_of H6.out 2
    refine bodyPost_ret (v := .agg #[.int .i64 (1), .int .i64 (0), .slice none 0 0]) ?_ rfl ?_
    · rw [results_cell1 rfl]
      simp [go_sem, y0, y1, y2]
    · exact ⟨none, 0, _, rfl, RowM.nil _ _ _, HX6.out, HS6.out, fun b hb => by cases hb⟩
set_option maxRecDepth 100000 in
set_option maxHeartbeats 4000000 in
theorem ses_write (own : Nat → Int) (w : World) (p : Nat) (X : Pls) (N : Nat) (h : PX own w p X) (hw : X.Wf N) (hN : N ≤ 30000) (cl k : Int) (nm : ByteArray) (lv hd : Int) (ad : Option Addr) (cd : Nat) (ld : List UInt8) (e : Sp) (hg : AL.get X.L hd = some e) (hc : e.cl = cl) (hk : k ≠ 3 ∧ k ≠ 4 ∧ k ≠ 5) (hl : SlR w 1 (.slice ad ld.length cd) ld.length (ld.map u8c)) (hlo : ∀ b, (Value.slice ad ld.length cd).ownBlock = some b → own b = 0) (hll : ld.length ≤ 3000) : Calls Tryz.prog 32 #[.pointer (some ⟨p, 0, none⟩), .int .i64 cl, .agg #[.int .i64 k, .string nm, .int .i64 lv, .int .i64 hd, (.slice ad ld.length cd)]] w (AnsP own w p (X.puts hd e (wS e.S ld), ⟨0, 0, wO e.S ld⟩)) := by
  obtain ⟨pu, sh, ms, ml, L, h⟩ := h
  obtain ⟨W, hW, hkW, hb, hr⟩ := frame2 w k nm lv hd (.slice ad ld.length cd)
  have h1W := h.kp0 (hkW.mono (fun _ _ q => q.elim))
  have HO0 := Lib.hid (h.new (Nat.le_refl w.heap.size))
  have HO1 := Lib.hid (h.new (Nat.le_succ w.heap.size))
  have HW1 := Lib.hid h1W
  have HB := Lib.hid hb
  have HR := Lib.hid hr
  have HK := Lib.hid hkW
  have HWF := Lib.hid hw
  have LWW := Lib.hid (lt_of_at hr)
  have d0 : W.cell? ⟨p, 2, none⟩ = some (.map (some ms)) := h1W.cells.2.2.1
  have d1 : W.cell? ⟨w.heap.size, 3, none⟩ = some (.int .i64 hd) := by rw [cell_of hb]; rfl
  obtain ⟨q, hq, rfl⟩ : ∃ q : Se, AL.get L hd = some q ∧ e = ⟨q.cl, q.id, q.S⟩ := by
    rw [h.abs, abs_get] at hg
    cases hgg : AL.get L hd with
    | none => rw [hgg] at hg; cases hg
    | some q => rw [hgg] at hg; exact ⟨q, rfl, by simpa using hg.symm⟩
  have HQ := Lib.hid hq
  have HG := Lib.hid hg
  obtain ⟨ecl, sp, eid, S⟩ := q
  have LK : Hid (∀ V, MapAt V (.int .i64) (Value.int .i64) sev ms L → (Instr.lookup 63 (.map (some ms)) (.int .i64 hd) true).run Tryz.prog V = .ok (.tuple #[.agg #[.int .i64 ecl, .pointer (some ⟨sp, 0, none⟩), .int .i64 eid], .bool true]) V) := Lib.hid (fun V hm => by
    have := hm.look (P := Tryz.prog) key_int Tryz.underlying63 Tryz.underlying3 (zeroSe V) hd true
    rw [this, HQ.out]; rfl)
  simp only at hc
  subst hc
  have HL := Lib.hid (hl.kp hkW (fun _ _ q => q))
  have HLO := Lib.hid hlo
  have k3 : (k == 3) = false := by simp; omega
  have k5 : (k == 5) = false := by simp; omega
  have k4 : (k == 4) = false := by simp; omega
  have HN := Lib.hid hN
  clear h h1W hb hr hkW hw hg hq hN hl hlo hk
  go_enter Tryz.func32, Tryz.ntmps32
  go_wp2_with fail
  rw [← hW]
  clear hW
  have hl1 : (Instr.lookup 63 (.map (some ms)) (.int .i64 hd) true).run Tryz.prog W.drew = .ok (.tuple #[.agg #[.int .i64 ecl, .pointer (some ⟨sp, 0, none⟩), .int .i64 eid], .bool true]) W.drew := LK.out W.drew HW1.out.hms
  have hl2 : (Instr.lookup 63 (.map (some ms)) (.int .i64 hd) true).run Tryz.prog (W.alloc (.cells #[.int .i64 0, .pointer none, .int .i64 0] 99)).drew = .ok (.tuple #[.agg #[.int .i64 ecl, .pointer (some ⟨sp, 0, none⟩), .int .i64 eid], .bool true]) (W.alloc (.cells #[.int .i64 0, .pointer none, .int .i64 0] 99)).drew := LK.out _ (HW1.out.hms.kp kp_new.drew (fun q => q))
  have lt1 : p < W.heap.size := World.block_lt_of_cell? W _ d0
  have lt2 : w.heap.size < W.heap.size := World.block_lt_of_cell? W _ d1
  have e0 := ((kp_new (w := W) (o := .cells #[.int .i64 0, .pointer none, .int .i64 0] 99)).cell (p := ⟨p, 2, none⟩) lt1 (fun q => q)).trans d0
  have e1 := ((kp_new (w := W) (o := .cells #[.int .i64 0, .pointer none, .int .i64 0] 99)).cell (p := ⟨w.heap.size, 3, none⟩) lt2 (fun q => q)).trans d1
  go_cut [7, 8] (fun s7 s8 wx => SesAt W ecl (.pointer (some ⟨sp, 0, none⟩)) eid true s7 s8 wx)
  case first =>
    go_region_law (fail)
    all_goals
      go_wp2_with fail
      go_meet
      first
        | exact ⟨rfl, rfl, alloc_at W _, kp_new.drew⟩
        | exact SesAt.put (alloc_at W _) kp_new.drew
  case rest =>
    obtain ⟨rfl, rfl, hx, hkc⟩ := hcut
    have x0 : wc.cell? ⟨W.heap.size, 0, none⟩ = some (.int .i64 ecl) := by rw [cell_of hx]; rfl
    have x1 : wc.cell? ⟨W.heap.size, 1, none⟩ = some ((.pointer (some ⟨sp, 0, none⟩))) := by rw [cell_of hx]; rfl
    have HC1 := Lib.hid (HW1.out.kp0 (hkc.mono (fun _ _ q => q.elim)))
    have HCS := Lib.hid (Stp.kp0 (own := own) hkc)
    have HBC := Lib.hid (hkc.at_ HB.out (fun q => q))
    have LW := Lib.hid (show w.heap.size + 1 < wc.heap.size from Nat.lt_of_lt_of_le LWW.out hkc.size)
    clear hx hkc d0 d1 e0 e1 hl1 hl2 lt1 lt2
    have z0 : wc.cell? ⟨w.heap.size, 0, none⟩ = some (.int .i64 k) := by rw [cell_of HBC.out]; rfl
    have z3 : wc.cell? ⟨w.heap.size, 3, none⟩ = some (.int .i64 hd) := by rw [cell_of HBC.out]; rfl
    have z4 : wc.cell? ⟨w.heap.size, 4, none⟩ = some (.slice ad ld.length cd) := by rw [cell_of HBC.out]; rfl
    have HLC := Lib.hid (HL.out.kp HCS.out.k (fun b hb q => q (HLO.out b hb)))
    have hlen : (ld.length : Int) ≤ 3000 := by omega
    have hlen2 : decide ((3000 : Int) < (ld.length : Int)) = false := decide_eq_false (by omega)
    have CC := Lib.hid (write_x HC1.out HWF.out HN.out HQ.out ld ad cd HLC.out HLO.out (by omega))
    unfold SesPost at CC
    obtain ⟨O, hO⟩ : ∃ O, O = wO S ld := ⟨_, rfl⟩
    obtain ⟨S1, hS1⟩ : ∃ S1, S1 = wS S ld := ⟨_, rfl⟩
    rw [← hO, ← hS1] at CC
    obtain ⟨on, hon⟩ : ∃ on, on = O.length := ⟨_, rfl⟩
    have HON := Lib.hid hon
    have HOO := Lib.hid hO
    have HSS := Lib.hid hS1
    rw [← hon] at CC
    clear hon hO hS1
    go_wp2_with fail
    refine CC.out.mono ?_
    rintro e Z0 ⟨a, c, own1, L1, rfl, g1, g2, g3, g4, g5⟩
    have RW0 := Lib.hid g1
    have X1 := Lib.hid g2
    have S1' := Lib.hid (HCS.out.trans g3)
    have OB0 := Lib.hid g4
    have G5 := Lib.hid g5
    clear g1 g2 g3 g4 g5 CC
    have HXV := Lib.hid (show PX own1 Z0 p (X.puts hd ⟨ecl, eid, S⟩ S1) from ⟨pu, sh, ms, ml, L1, X1.out⟩)
    have HSV := S1'
    have RW := RW0
    have OB := OB0
    obtain ⟨hVa, h6, hX6, hS6, kr6⟩ := ans_fin HK.out HR.out (Nat.le_succ _) HO1.out HXV.out HSV.out (0) (0) (.slice a on c)
    have f0 : ∀ i, Z0.frozen? ⟨w.heap.size + 1, i, none⟩ = false := free_of hVa
    have c0 : Z0.cell? ⟨w.heap.size + 1, 0, none⟩ = some (.int .i64 0) := by rw [cell_of hVa]; rfl
    have c1 : Z0.cell? ⟨w.heap.size + 1, 1, none⟩ = some (.int .i64 0) := by rw [cell_of hVa]; rfl
    have c2 : Z0.cell? ⟨w.heap.size + 1, 2, none⟩ = some (.slice none 0 0) := by rw [cell_of hVa]; rfl
    have H6 := Lib.hid h6
    have HX6 := Lib.hid hX6
    have HS6 := Lib.hid hS6
    have KR6 := Lib.hid kr6
    clear hVa h6 hX6 hS6 kr6
    go_wp2_with fail
    have y0 := cell_of H6.out 0
    have y1 := cell_of H6.out 1
    have y2 := cell_of H6.out 2
    refine bodyPost_ret (v := .agg #[.int .i64 (0), .int .i64 (0), .slice a on c]) ?_ rfl ?_
    · rw [results_cell1 rfl]
      simp [go_sem, y0, y1, y2]
    · rw [← HOO.out, ← HSS.out]
      refine ⟨a, c, _, ?_, ?_, HX6.out, HS6.out, ?_⟩
      · show _ = Ending.returned (.agg #[.int .i64 0, .int .i64 0, .slice a O.length c])
        rw [← HON.out]
      · show RowB w.heap.size _ (.slice a O.length c) O
        rw [← HON.out]
        exact (RowM.kpo RW.out KR6.out (fun b hb e => by have h1 := (RowM.lt RW.out hb).1; have h2 := LW.out; have e2 : b = w.heap.size + 1 := e; omega)).low (by have h2 := LW.out; omega)
      · show ∀ b, (Value.slice a O.length c).ownBlock = some b → _
        rw [← HON.out]
        exact OB.out
end Go.Proofs.YtmioiaeiflbmhaaGreat.Pl
namespace Go.Proofs.YtmioiaeiflbmhaaGreat.Sh
open Go Go.Mg
theorem retire_ok {S : Shs} (h : S.Ok) (n : ByteArray) : (S.retire n).1.Ok := by
  unfold Shs.retire
  split
  · exact h
  · exact retires_ok h n
theorem put_ok {S : Shs} (h : S.Ok) {id : Int} {k k' : Bk} (hk : AL.get S.books id = some k) (hc : k'.cur = k.cur) : ({ S with books := AL.put S.books id k' } : Shs).Ok := by
  refine ⟨fun n id' hg => ?_, h.one, fun id' k'' hg => ?_⟩
  · obtain ⟨k0, h0, h1⟩ := h.nm n id' hg
    show ∃ k, AL.get (AL.put S.books id k') id' = some k ∧ _
    rw [AL.get_put]
    by_cases e : id' = id
    · subst e; rw [hk] at h0; cases h0; exact ⟨k', if_pos rfl, by rw [hc]; exact h1⟩
    · exact ⟨k0, by rw [if_neg e]; exact h0, h1⟩
  · have h1 : AL.get (AL.put S.books id k') id' = some k'' := hg
    rw [AL.get_put] at h1
    split at h1
    · rename_i e; subst e; exact h.pos _ _ hk
    · exact h.pos _ _ h1
theorem pin_ok {S : Shs} (h : S.Ok) (n : ByteArray) : (S.pin n).1.Ok := by
  unfold Shs.pin
  split
  · exact h
  · split
    · exact h
    · rename_i hk; exact put_ok h hk rfl
theorem unpin_ok {S : Shs} (h : S.Ok) (id : Int) : (S.unpin id).1.Ok := by
  unfold Shs.unpin
  split
  · exact h
  · rename_i k hk
    split
    · exact h
    · exact lets_ok (put_ok h hk rfl) (fun _ _ _ => .inr trivial)
def Les (S S' : Shs) (m : Nat) : Prop := S'.last = S.last ∧ ∀ id k', AL.get S'.books id = some k' → ∃ k, AL.get S.books id = some k ∧ k'.pins ≤ k.pins + m ∧ k'.data = k.data
theorem Les.refl (S : Shs) (m : Nat) : Les S S m := ⟨rfl, fun _ k' h => ⟨k', h, by omega, rfl⟩⟩
theorem lets_les (S : Shs) (id : Int) : Les S (S.lets id).1 0 := by
  unfold Shs.lets
  split
  · exact Les.refl _ _
  · split
    · exact Les.refl _ _
    · refine ⟨rfl, fun i k' h => ?_⟩
      have h1 : AL.get (AL.del S.books id) i = some k' := h
      rw [AL.get_del] at h1
      split at h1
      · cases h1
      · exact ⟨k', h1, by omega, rfl⟩
theorem put_les {S : Shs} {id : Int} {k k1 : Bk} (hk : AL.get S.books id = some k) (m : Nat) (h1 : k1.pins ≤ k.pins + m) (h2 : k1.data = k.data) (names : List (ByteArray × Int)) : Les S { S with names := names, books := AL.put S.books id k1 } m := by
  refine ⟨rfl, fun i k' h => ?_⟩
  have h3 : AL.get (AL.put S.books id k1) i = some k' := h
  rw [AL.get_put] at h3
  split at h3
  · rename_i e
    subst e
    cases h3
    exact ⟨k, hk, h1, h2⟩
  · exact ⟨k', h3, by omega, rfl⟩
theorem Les.trans0 {S S1 S2 : Shs} {m : Nat} (h : Les S S1 m) (h2 : Les S1 S2 0) : Les S S2 m := by
  refine ⟨h2.1.trans h.1, fun i k' e => ?_⟩
  obtain ⟨k1, e1, p1, d1⟩ := h2.2 i k' e
  obtain ⟨k, e2, p2, d2⟩ := h.2 i k1 e1
  exact ⟨k, e2, by omega, d1.trans d2⟩
theorem pin_les (S : Shs) (n : ByteArray) : Les S (S.pin n).1 1 := by
  unfold Shs.pin
  split
  · exact Les.refl _ _
  · split
    · exact Les.refl _ _
    · rename_i k hk
      exact put_les (k1 := { k with pins := k.pins + 1 }) hk 1 (by simp) rfl S.names
theorem unpin_les (S : Shs) (id : Int) : Les S (S.unpin id).1 0 := by
  unfold Shs.unpin
  split
  · exact Les.refl _ _
  · rename_i k hk
    split
    · exact Les.refl _ _
    · exact (put_les (k1 := { k with pins := k.pins - 1 }) hk 0 (by simp) rfl S.names).trans0 (lets_les _ id)
theorem retires_les (S : Shs) (n : ByteArray) : Les S (S.retires n).1 0 := by
  unfold Shs.retires
  split
  · exact Les.refl _ _
  · rename_i id _
    split
    · exact Les.refl _ _
    · rename_i k hk
      exact (put_les (k1 := { k with cur := false }) hk 0 (by simp) rfl (AL.del S.names n)).trans0 (lets_les _ id)
theorem retire_les (S : Shs) (n : ByteArray) : Les S (S.retire n).1 0 := by
  unfold Shs.retire
  split
  · exact Les.refl _ _
  · exact retires_les S n
end Go.Proofs.YtmioiaeiflbmhaaGreat.Sh
