/- plan, in plain words: what all calls keep. plan's load and retire. plan's Do. A Plan in a law: New, Do, Used, Of, Sessions, Refs; what the laws know. -/
import Derived.Test.YtmioiaeiflbmhaaGreatX30
import Derived.Test.YtmioiaeiflbmhaaGreatX31
namespace Go.Proofs.YtmioiaeiflbmhaaGreat.Pl
open Go Go.Mg Go.Proofs.YtmioiaeiflbmhaaGreat.Sh Go.Proofs.YtmioiaeiflbmhaaGreat.Str
theorem Sz.mono {S : Str} {n m : Nat} (h : Sz S n) (hm : n ≤ m) : Sz S m := ⟨h.wf.mono hm, h.kept⟩
theorem Pls.Wf.mono {X : Pls} {N M : Nat} (h : X.Wf N) (hm : N ≤ M) : X.Wf M :=
  ⟨h.P, h.S, Nat.le_trans h.sl hm, fun id k hk => ⟨Nat.le_trans (h.bk id k hk).1 hm, (h.bk id k hk).2⟩, fun q hq => by obtain ⟨h1, h2, h3, h4, h5, h6⟩ := h.ses q hq; exact ⟨h1, h2, h3, h4, Sz.mono h5 hm, h6⟩, h.nd, Nat.le_trans h.last hm, h.ld⟩
theorem Pls.Wf.shelf {X : Pls} {N m : Nat} (h : X.Wf N) {S' : Shs} (hs : S'.Ok) (hl : Les X.S S' m) : ({ X with S := S' } : Pls).Wf (N + m) := by
  have h' := h.mono (Nat.le_add_right N m)
  refine ⟨h.P, hs, by have h1 := hl.1; have h2 := h'.sl; show S'.last ≤ _; omega, fun id k hk => ?_, h'.ses, h.nd, h'.last, h.ld⟩
  obtain ⟨k0, e, p, d⟩ := hl.2 id k hk
  have := h.bk id k0 e
  exact ⟨by omega, by rw [d]; exact this.2⟩
theorem gone_wf {X : Pls} {N : Nat} (h : X.Wf N) (id : Int) : (X.gone id).Wf N :=
  ⟨h.P.give _ _, h.S, h.sl, h.bk, h.ses, h.nd, h.last, fun q hq => h.ld q ((List.mem_filter.1 hq).1)⟩
theorem unpins_wf {X : Pls} {N : Nat} (h : X.Wf N) (id : Int) : (X.unpins id).Wf N := by
  have h1 := h.shelf (m := 0) (unpin_ok h.S id) (unpin_les X.S id)
  unfold Pls.unpins
  split
  · exact gone_wf h1 id
  · exact h1
theorem S0_sz {id dl : Nat} {dict : List UInt8} (h1 : 1 ≤ dl) (h2 : dl ≤ 32) (h3 : id ≤ 2147483647) (h4 : dict.length ≤ 2000) (n : Nat) : Sz (S0 id dl dict) n := ⟨⟨h1, h2, h3, h4, Nat.zero_le _, Nat.zero_le _⟩, by show (0 : Nat) < 500; omega⟩
theorem opens_wf {X : Pls} {N : Nat} (h : X.Wf N) {cl lv id : Int} (hc : 0 ≤ cl ∧ cl < 4) (hl : 1 ≤ lv ∧ lv ≤ 3) {dict : List UInt8} (hid : 0 ≤ id ∧ id ≤ 2147483647) (hd : dict.length ≤ 2000) : (X.opens cl lv id dict).1.Wf (N + 1) := by
  have h' := h.mono (Nat.le_succ N)
  unfold Pls.opens
  split
  · have hno : AL.get X.L (((X.last + 1 : Nat)) : Int) = none := AL.get_none.2 (fun q hq => by have := (h.ses q hq).2.1; omega)
    refine ⟨h.P.take _ _, h.S, h'.sl, h'.bk, fun q hq => ?_, AL.nodup_put h.nd _ _, by have := h.last; show X.last + 1 ≤ _; omega, h.ld⟩
    have hq : q ∈ AL.put X.L (((X.last + 1 : Nat)) : Int) ⟨cl, id, S0 id.toNat (dep lv).toNat dict⟩ := hq
    rw [AL.put_of_none _ hno] at hq
    show 0 < q.1 ∧ q.1 ≤ (((X.last + 1 : Nat)) : Int) ∧ _
    rcases List.mem_append.1 hq with hq | hq
    · obtain ⟨h1, h2, h3⟩ := h'.ses q hq
      exact ⟨h1, by omega, h3⟩
    · rw [List.mem_singleton] at hq
      subst hq
      have hdl : 1 ≤ (dep lv).toNat ∧ (dep lv).toNat ≤ 32 := by
        have : lv = 1 ∨ lv = 2 ∨ lv = 3 := by omega
        rcases this with rfl | rfl | rfl <;> decide
      exact ⟨by simp only; omega, by simp only; omega, hc.1, hc.2, S0_sz hdl.1 hdl.2 (by omega) hd _, rfl, hid.1⟩
  · exact unpins_wf h' id
theorem pin_sizes' {X : Pls} {N : Nat} (hw : X.Wf N) (hN : N ≤ 2000000) (nm : ByteArray) : 0 ≤ (X.S.pin nm).2.1 ∧ (X.S.pin nm).2.1 ≤ 2147483647 ∧ (X.S.pin nm).2.2.1.length ≤ 2000 := by
  unfold Shs.pin
  cases AL.get X.S.names nm with
  | none => simp
  | some id =>
    simp only
    cases hk : AL.get X.S.books id with
    | none => simp
    | some k =>
      have h1 := hw.S.pos id k hk
      have h2 := hw.sl
      have h3 := (hw.bk id k hk).2
      exact ⟨by simp only; omega, by simp only; omega, h3⟩
theorem opn_wf {X : Pls} {N : Nat} (h : X.Wf N) (hN : N ≤ 1000000) {cl : Int} (hc : 0 ≤ cl ∧ cl < 4) (c : Cl) : (X.opn cl c).1.Wf (N + 2) := by
  have h' := h.mono (Nat.le_add_right N 2)
  unfold Pls.opn
  split
  · exact h'
  · rename_i hb
    have hl : 1 ≤ c.lv ∧ c.lv ≤ 3 := by omega
    split
    · exact (opens_wf h hc hl (by decide) (by simp)).mono (by omega)
    · have h1 := h.shelf (m := 1) (pin_ok h.S c.nm) (pin_les X.S c.nm)
      split
      · have hs := pin_sizes' h (by omega) c.nm
        exact opens_wf h1 hc hl ⟨hs.1, hs.2.1⟩ hs.2.2
      · exact h1.mono (by omega)
theorem ends_wf {X : Pls} {N : Nat} (h : X.Wf N) (hd : Int) (e : Sp) : (X.ends hd e).Wf N := by
  have h1 : ({ X with L := AL.del X.L hd } : Pls).Wf N := ⟨h.P, h.S, h.sl, h.bk, fun q hq => h.ses q ((List.mem_filter.1 hq).1), by
    show ((AL.del X.L hd).map (·.1)).Nodup
    exact h.nd.sublist (List.Sublist.map _ List.filter_sublist), h.last, h.ld⟩
  have h2 := unpins_wf h1 e.id
  exact ⟨h2.P.give _ _, h2.S, h2.sl, h2.bk, h2.ses, h2.nd, h2.last, h2.ld⟩
theorem puts_wf {X : Pls} {N M : Nat} (h : X.Wf N) (hm : N ≤ M) {hd : Int} {e : Sp} (he : AL.get X.L hd = some e) {S' : Str} (hs : Sz S' M) (hn : S'.ended = false) : (X.puts hd e S').Wf M := by
  have h' := h.mono hm
  refine ⟨h.P, h.S, h'.sl, h'.bk, fun q hq => ?_, AL.nodup_put h.nd _ _, h'.last, h.ld⟩
  obtain ⟨L1, L2, hL, _, hput⟩ := al_split h.nd he
  have hq : q ∈ AL.put X.L hd { e with S := S' } := hq
  rw [hput] at hq
  have hm1 : ∀ z, z ∈ L1 ∨ z ∈ L2 → z ∈ X.L := fun z hz => by rw [hL]; simp only [List.mem_append, List.mem_cons]; rcases hz with hz | hz; exact .inl hz; exact .inr (.inr hz)
  simp only [List.mem_append, List.mem_cons] at hq
  rcases hq with hq | rfl | hq
  · exact h'.ses q (hm1 q (.inl hq))
  · obtain ⟨h1, h2, h3, h4, h5, h6, h7⟩ := h.ses (hd, e) (AL.get_mem he)
    exact ⟨h1, h2, h3, h4, hs, hn, h7⟩
  · exact h'.ses q (hm1 q (.inr hq))
theorem wS_ended {S : Str} (h : S.ended = false) (p : List UInt8) : (wS S p).ended = false := by unfold wS; rw [if_neg (by rw [h]; decide), wrS_ended, h]
theorem fS_ended {S : Str} (h : S.ended = false) : (fS S).ended = false := by unfold fS; rw [if_neg (by rw [h]; decide), flS_ended, h]
theorem session_wf {X : Pls} {N : Nat} (h : X.Wf N) (cl : Int) (c : Cl) : (X.session cl c).1.Wf (N + c.d.length) := by
  have h' := h.mono (Nat.le_add_right N c.d.length)
  unfold Pls.session
  split
  · exact h'
  · rename_i e he
    obtain ⟨_, _, _, _, hz, hn, _⟩ := h.ses (c.hd, e) (AL.get_mem he)
    split
    · unfold Pls.does
      split
      · exact puts_wf h (Nat.le_add_right _ _) he (Sz.mono hz.f (Nat.le_add_right _ _)) (fS_ended hn)
      · split
        · exact ends_wf h' c.hd e
        · split
          · exact ends_wf h' c.hd e
          · split
            · exact h'
            · exact puts_wf h (Nat.le_add_right _ _) he (hz.w c.d) (wS_ended hn c.d)
    · exact h'
theorem load_wf {X : Pls} {N : Nat} (h : X.Wf N) {cl : Int} (hc : 0 ≤ cl ∧ cl < 4) (c : Cl) : (X.load cl c).1.Wf (N + 1) := by
  have h' := h.mono (Nat.le_succ N)
  unfold Pls.load
  split
  · rename_i hi
    have hl := len_of_is hi
    split
    · refine gone_wf ?_ _
      have hle := retires_les X.S c.nm
      refine ⟨h.P.take _ _, load_ok h.S c.nm c.d, ?_, fun id k hk => ?_, h'.ses, h.nd, h'.last, fun q hq => ?_⟩
      · show (X.S.load c.nm c.d).1.last ≤ _
        unfold Shs.load
        rw [if_pos hi]
        have h1 := hle.1; have h2 := h.sl
        show (X.S.retires c.nm).1.last + 1 ≤ _
        omega
      · have hk : AL.get (X.S.load c.nm c.d).1.books id = some k := hk
        unfold Shs.load at hk
        rw [if_pos hi] at hk
        have hk : AL.get (AL.put (X.S.retires c.nm).1.books ((X.S.retires c.nm).1.last + 1) ⟨c.d.drop 4, true, 0⟩) id = some k := hk
        rw [AL.get_put] at hk
        split at hk
        · cases hk
          exact ⟨Nat.zero_le _, by simp only [List.length_drop]; omega⟩
        · obtain ⟨k0, e, p, d⟩ := hle.2 id k hk
          have := h.bk id k0 e
          exact ⟨by omega, by rw [d]; exact this.2⟩
      · have hq : q ∈ AL.put X.l (X.S.load c.nm c.d).2.1 (cl, c.d.length - 4) := hq
        rcases mem_put hq with hq | rfl
        · exact h.ld q hq
        · exact ⟨hc.1, hc.2, by simp only; omega⟩
    · exact h'
  · exact h'
theorem retire_wf {X : Pls} {N : Nat} (h : X.Wf N) (c : Cl) : (X.retire c).1.Wf N :=
  gone_wf (h.shelf (m := 0) (retire_ok h.S c.nm) (retire_les X.S c.nm)) _
theorem act_wf {X : Pls} {N : Nat} (h : X.Wf N) (hN : N ≤ 1000000) (cl : Int) (c : Cl) : (X.act cl c).1.Wf (N + 2 + c.d.length) := by
  have h' := h.mono (show N ≤ N + 2 + c.d.length by omega)
  unfold Pls.act
  split
  · exact h'
  · rename_i hc
    have hc : 0 ≤ cl ∧ cl < 4 := by omega
    split
    · exact (opn_wf h hN hc c).mono (by omega)
    · split
      · exact (session_wf h cl c).mono (by omega)
      · split
        · exact (load_wf h hc c).mono (by omega)
        · split
          · exact (retire_wf h c).mono (by omega)
          · exact h'
def pl0 (all each : Int) : Pls := ⟨pu0 all each, ⟨0, [], []⟩, [], [], 0⟩
theorem pl0_wf (all each : Int) : (pl0 all each).Wf 0 :=
  ⟨pu0_ok all each, ⟨(fun _ _ h => by cases h), (fun _ _ _ h => by cases h), (fun _ _ h => by cases h)⟩, Nat.le_refl _, (fun _ _ h => by cases h), (fun _ h => by cases h), List.nodup_nil, Nat.le_refl _, (fun _ h => by cases h)⟩
end Go.Proofs.YtmioiaeiflbmhaaGreat.Pl
set_option linter.unusedVariables false
namespace Go.Proofs.YtmioiaeiflbmhaaGreat.Pl
open Go Go.RowKit Go.ChangeMaps Go.MapKept Go.Mg Go.Proofs.YtmioiaeiflbmhaaGreat.No Go.Proofs.YtmioiaeiflbmhaaGreat.Sh Go.Proofs.YtmioiaeiflbmhaaGreat.Str Go.Proofs.YtmioiaeiflbmhaaGreat.Bk Go.Proofs.YtmioiaeiflbmhaaGreat.Ma
set_option maxRecDepth 100000 in
set_option maxHeartbeats 4000000 in
theorem ld_is (own : Nat → Int) (w : World) (p : Nat) (X : Pls) (N : Nat) (h : PX own w p X) (hw : X.Wf N) (hN : N ≤ 30000) (cl k : Int) (nm : ByteArray) (lv hd : Int) (ad : Option Addr) (cd : Nat) (ld : List UInt8) (hl : SlR w 1 (.slice ad ld.length cd) ld.length (ld.map u8c)) (hlo : ∀ b, (Value.slice ad ld.length cd).ownBlock = some b → own b = 0) (hnm : nm.size ≤ 9223372036854775807) (hll : ld.length ≤ 100000) (hi : isS nm ld ≠ 0) : Calls Tryz.prog 33 #[.pointer (some ⟨p, 0, none⟩), .int .i64 cl, .agg #[.int .i64 k, .string nm, .int .i64 lv, .int .i64 hd, (.slice ad ld.length cd)]] w (AnsP own w p (X, ⟨isS nm ld, 0, []⟩)) := by
  obtain ⟨pu, sh, ms, ml, L, h⟩ := h
  obtain ⟨W, hW, hkW, hb, hr⟩ := frame2 w k nm lv hd (.slice ad ld.length cd)
  have h1W := h.kp0 (hkW.mono (fun _ _ q => q.elim))
  have HO0 := Lib.hid (h.new (Nat.le_refl w.heap.size))
  have HO1 := Lib.hid (h.new (Nat.le_succ w.heap.size))
  have HW1 := Lib.hid h1W
  have HB := Lib.hid hb
  have HR := Lib.hid hr
  have HK := Lib.hid hkW
  have HWF := Lib.hid hw
  have HN := Lib.hid hN
  have LWW := Lib.hid (lt_of_at hr)
  have HL := Lib.hid (hl.kp hkW (fun _ _ q => q))
  have HLO := Lib.hid hlo
  have b1 : W.cell? ⟨w.heap.size, 1, none⟩ = some (.string nm) := by rw [cell_of hb]; rfl
  have b4 : W.cell? ⟨w.heap.size, 4, none⟩ = some (.slice ad ld.length cd) := by rw [cell_of hb]; rfl
  have CI := Lib.hid (is_any nm ad cd ld W HL.out hnm (by omega))
  have HNM := Lib.hid hnm
  have HLL := Lib.hid hll
  obtain ⟨r, hr0⟩ : ∃ r, r = isS nm ld := ⟨_, rfl⟩
  rw [← hr0] at hi CI ⊢
  have hrd : (r == 0) = false := by simpa using hi
  clear h h1W hb hr hkW hw hl hlo hnm hN hll hr0 hi
  have CI : Hid (Calls Tryz.prog 57 #[.string nm, .slice ad ld.length cd] W fun e w' => e = .returned (.int .i64 r) ∧ W = w') := CI
  go_enter Tryz.func33, Tryz.ntmps33
  go_wp2_with fail
  rw [← hW]
  clear hW
  refine CI.out.mono ?_
  rintro e w1 ⟨rfl, rfl⟩
  have HXV := Lib.hid (show PX own W p X from ⟨pu, sh, ms, ml, L, HW1.out⟩)
  have HSV := Lib.hid (Stp.refl own W)
  clear CI
  obtain ⟨hVa, h6, hX6, hS6, kr6⟩ := ans_fin HK.out HR.out (Nat.le_succ _) HO1.out HXV.out HSV.out (r) (0) (.slice none 0 0)
  have f0 : ∀ i, W.frozen? ⟨w.heap.size + 1, i, none⟩ = false := free_of hVa
  have c0 : W.cell? ⟨w.heap.size + 1, 0, none⟩ = some (.int .i64 0) := by rw [cell_of hVa]; rfl
  have c1 : W.cell? ⟨w.heap.size + 1, 1, none⟩ = some (.int .i64 0) := by rw [cell_of hVa]; rfl
  have c2 : W.cell? ⟨w.heap.size + 1, 2, none⟩ = some (.slice none 0 0) := by rw [cell_of hVa]; rfl
  have H6 := Lib.hid h6
  have HX6 := Lib.hid hX6
  have HS6 := Lib.hid hS6
  have KR6 := Lib.hid kr6
  clear hVa h6 hX6 hS6 kr6
  go_wp2_with fail
  have y0 := cell_of H6.out 0
  have y1 := cell_of H6.out 1
  have y2 := cell_of H6.out 2
  refine bodyPost_ret (v := .agg #[.int .i64 (r), .int .i64 (0), .slice none 0 0]) ?_ rfl ?_
  · rw [results_cell1 rfl]
    simp [go_sem, y0, y1, y2]
  · exact ⟨none, 0, _, rfl, RowM.nil _ _ _, HX6.out, HS6.out, fun b hb => by cases hb⟩
set_option maxRecDepth 100000 in
set_option maxHeartbeats 4000000 in
theorem ld_no (own : Nat → Int) (w : World) (p : Nat) (X : Pls) (N : Nat) (h : PX own w p X) (hw : X.Wf N) (hN : N ≤ 30000) (cl k : Int) (nm : ByteArray) (lv hd : Int) (ad : Option Addr) (cd : Nat) (ld : List UInt8) (hl : SlR w 1 (.slice ad ld.length cd) ld.length (ld.map u8c)) (hlo : ∀ b, (Value.slice ad ld.length cd).ownBlock = some b → own b = 0) (hnm : nm.size ≤ 9223372036854775807) (hll : ld.length ≤ 100000) (hi : isS nm ld = 0) (hh : ¬ X.P.has cl ((ld.length : Int) - 4)) : Calls Tryz.prog 33 #[.pointer (some ⟨p, 0, none⟩), .int .i64 cl, .agg #[.int .i64 k, .string nm, .int .i64 lv, .int .i64 hd, (.slice ad ld.length cd)]] w (AnsP own w p (X, ⟨6, 0, []⟩)) := by
  obtain ⟨pu, sh, ms, ml, L, h⟩ := h
  obtain ⟨W, hW, hkW, hb, hr⟩ := frame2 w k nm lv hd (.slice ad ld.length cd)
  have h1W := h.kp0 (hkW.mono (fun _ _ q => q.elim))
  have HO0 := Lib.hid (h.new (Nat.le_refl w.heap.size))
  have HO1 := Lib.hid (h.new (Nat.le_succ w.heap.size))
  have HW1 := Lib.hid h1W
  have HB := Lib.hid hb
  have HR := Lib.hid hr
  have HK := Lib.hid hkW
  have HWF := Lib.hid hw
  have HN := Lib.hid hN
  have LWW := Lib.hid (lt_of_at hr)
  have HL := Lib.hid (hl.kp hkW (fun _ _ q => q))
  have HLO := Lib.hid hlo
  have b1 : W.cell? ⟨w.heap.size, 1, none⟩ = some (.string nm) := by rw [cell_of hb]; rfl
  have b4 : W.cell? ⟨w.heap.size, 4, none⟩ = some (.slice ad ld.length cd) := by rw [cell_of hb]; rfl
  have CI := Lib.hid (is_any nm ad cd ld W HL.out hnm (by omega))
  have HNM := Lib.hid hnm
  have HLL := Lib.hid hll
  have h5 := (len_of_is hi).1
  rw [hi] at CI
  have hwn : IntKind.i64.wrap ((ld.length : Int) - 4) = (ld.length : Int) - 4 := by rw [IntKind.wrap_i64]; omega
  have CT := Lib.hid (take_p h1W.hpu hw.P cl ((ld.length : Int) - 4))
  unfold TakePost at CT
  rw [decide_eq_false hh] at CT
  have e0 := h1W.cells.1
  have ET : Hid (X.P.take cl ((ld.length : Int) - 4) = X.P) := Lib.hid (if_neg hh)
  clear h h1W hb hr hkW hw hl hlo hnm hN hll hi hh
  go_enter Tryz.func33, Tryz.ntmps33
  go_wp2_with fail
  rw [← hW]
  clear hW
  refine CI.out.mono ?_
  rintro e w1 ⟨rfl, rfl⟩
  clear CI
  go_wp2_with fail
  refine CT.out.mono ?_
  rintro e V1 ⟨rfl, t1, t2⟩
  obtain ⟨r1, r2⟩ := HW1.out.purse t2 t1
  have R1 := Lib.hid r1
  have R2 := Lib.hid r2
  clear t1 t2 r1 r2 CT b1 b4 e0
  rw [ET.out] at R1
  have HXV := Lib.hid (show PX own V1 p X from ⟨pu, sh, ms, ml, L, R1.out⟩)
  have HSV := R2
  clear h5 hwn
  obtain ⟨hVa, h6, hX6, hS6, kr6⟩ := ans_fin HK.out HR.out (Nat.le_succ _) HO1.out HXV.out HSV.out (6) (0) (.slice none 0 0)
  have f0 : ∀ i, V1.frozen? ⟨w.heap.size + 1, i, none⟩ = false := free_of hVa
  have c0 : V1.cell? ⟨w.heap.size + 1, 0, none⟩ = some (.int .i64 0) := by rw [cell_of hVa]; rfl
  have c1 : V1.cell? ⟨w.heap.size + 1, 1, none⟩ = some (.int .i64 0) := by rw [cell_of hVa]; rfl
  have c2 : V1.cell? ⟨w.heap.size + 1, 2, none⟩ = some (.slice none 0 0) := by rw [cell_of hVa]; rfl
  have H6 := Lib.hid h6
  have HX6 := Lib.hid hX6
  have HS6 := Lib.hid hS6
  have KR6 := Lib.hid kr6
  clear hVa h6 hX6 hS6 kr6
  go_wp2_with fail
  have y0 := cell_of H6.out 0
  have y1 := cell_of H6.out 1
  have y2 := cell_of H6.out 2
  refine bodyPost_ret (v := .agg #[.int .i64 (6), .int .i64 (0), .slice none 0 0]) ?_ rfl ?_
  · rw [results_cell1 rfl]
    simp [go_sem, y0, y1, y2]
  · exact ⟨none, 0, _, rfl, RowM.nil _ _ _, HX6.out, HS6.out, fun b hb => by cases hb⟩
set_option maxRecDepth 100000 in
set_option maxHeartbeats 4000000 in
theorem ld_go (own : Nat → Int) (w : World) (p : Nat) (X : Pls) (N : Nat) (h : PX own w p X) (hw : X.Wf N) (hN : N ≤ 30000) (cl k : Int) (nm : ByteArray) (lv hd : Int) (ad : Option Addr) (cd : Nat) (ld : List UInt8) (hl : SlR w 1 (.slice ad ld.length cd) ld.length (ld.map u8c)) (hlo : ∀ b, (Value.slice ad ld.length cd).ownBlock = some b → own b = 0) (hnm : nm.size ≤ 9223372036854775807) (hll : ld.length ≤ 100000) (hi : isS nm ld = 0) (hh : X.P.has cl ((ld.length : Int) - 4)) : Calls Tryz.prog 33 #[.pointer (some ⟨p, 0, none⟩), .int .i64 cl, .agg #[.int .i64 k, .string nm, .int .i64 lv, .int .i64 hd, (.slice ad ld.length cd)]] w (AnsP own w p (({ X with P := X.P.take cl ((ld.length : Int) - 4), S := (X.S.load nm ld).1, l := AL.put X.l (X.S.load nm ld).2.1 (cl, ld.length - 4) } : Pls).gone (X.S.load nm ld).2.2.1, ⟨0, (X.S.load nm ld).2.1, []⟩)) := by
  obtain ⟨pu, sh, ms, ml, L, h⟩ := h
  obtain ⟨W, hW, hkW, hb, hr⟩ := frame2 w k nm lv hd (.slice ad ld.length cd)
  have h1W := h.kp0 (hkW.mono (fun _ _ q => q.elim))
  have HO0 := Lib.hid (h.new (Nat.le_refl w.heap.size))
  have HO1 := Lib.hid (h.new (Nat.le_succ w.heap.size))
  have HW1 := Lib.hid h1W
  have HB := Lib.hid hb
  have HR := Lib.hid hr
  have HK := Lib.hid hkW
  have HWF := Lib.hid hw
  have HN := Lib.hid hN
  have LWW := Lib.hid (lt_of_at hr)
  have HL := Lib.hid (hl.kp hkW (fun _ _ q => q))
  have HLO := Lib.hid hlo
  have b1 : W.cell? ⟨w.heap.size, 1, none⟩ = some (.string nm) := by rw [cell_of hb]; rfl
  have b4 : W.cell? ⟨w.heap.size, 4, none⟩ = some (.slice ad ld.length cd) := by rw [cell_of hb]; rfl
  have CI := Lib.hid (is_any nm ad cd ld W HL.out hnm (by omega))
  have HNM := Lib.hid hnm
  have HLL := Lib.hid hll
  have h5 := (len_of_is hi).1
  rw [hi] at CI
  have hwn : IntKind.i64.wrap ((ld.length : Int) - 4) = (ld.length : Int) - 4 := by rw [IntKind.wrap_i64]; omega
  have CT := Lib.hid (take_p h1W.hpu hw.P cl ((ld.length : Int) - 4))
  unfold TakePost at CT
  rw [decide_eq_true hh] at CT
  have e0 := h1W.cells.1
  have EC : Hid (((ld.length - 4 : Nat) : Int) = (ld.length : Int) - 4) := Lib.hid (by omega)
  have HI := Lib.hid hi
  obtain ⟨S1, id, fr, er, hld⟩ : ∃ S1 id fr er, X.S.load nm ld = (S1, id, fr, er) := ⟨_, _, _, _, rfl⟩
  have HLD := Lib.hid hld
  have hPO := hw.P.take cl ((ld.length : Int) - 4)
  have HPO := Lib.hid hPO
  rw [hld]
  show Calls _ _ _ _ (AnsP own w p (({ X with P := X.P.take cl ((ld.length : Int) - 4), S := S1, l := AL.put X.l id (cl, ld.length - 4) } : Pls).gone fr, ⟨0, id, []⟩))
  obtain ⟨P1, hP1⟩ : ∃ P1, P1 = X.P.take cl ((ld.length : Int) - 4) := ⟨_, rfl⟩
  rw [← hP1] at CT HPO ⊢
  clear hld hPO hP1
  clear h h1W hb hr hkW hw hl hlo hnm hN hll hi hh
  go_enter Tryz.func33, Tryz.ntmps33
  go_wp2_with fail
  rw [← hW]
  clear hW
  refine CI.out.mono ?_
  rintro e w1 ⟨rfl, rfl⟩
  clear CI
  go_wp2_with fail
  refine CT.out.mono ?_
  rintro e V1 ⟨rfl, t1, t2⟩
  obtain ⟨r1, r2⟩ := HW1.out.purse t2 t1
  have R1 := Lib.hid r1
  have R2 := Lib.hid r2
  clear t1 t2 r1 r2 CT b1 b4 e0
  have hB1 := R2.out.k.at_ HB.out (fun q => q HO0.out)
  have e1 := R1.out.cells.2.1
  have b1 : V1.cell? ⟨w.heap.size, 1, none⟩ = some (.string nm) := by rw [cell_of hB1]; rfl
  have b4 : V1.cell? ⟨w.heap.size, 4, none⟩ = some (.slice ad ld.length cd) := by rw [cell_of hB1]; rfl
  have CL := Lib.hid (load_any X.S HWF.out.S (by have := HWF.out.sl; have := HN.out; omega) nm ad cd ld V1.drew (R1.out.kp0 ((Kp.refl _ _).drew)).hsh (HL.out.kp (R2.out.trans (Stp.kp0 (Kp.refl _ _).drew)).k (fun b hb q => q (HLO.out b hb))) (fun b hb q => by have := HLO.out b hb; rw [q] at this; cases this) HNM.out (by have := HLL.out; omega))
  unfold LoadPost at CL
  rw [HLD.out] at CL
  have her : Hid (er = 0) := Lib.hid (by
    have h1 : (X.S.load nm ld).2.2.2 = 0 := by unfold Shs.load; rw [if_pos HI.out]
    rw [HLD.out] at h1
    exact h1)
  rw [her.out] at CL
  clear hB1
  go_wp2_with fail
  go_region_law ((go_simp; go_at_call 58; refine CL.out.mono ?_; rintro e V2 ⟨rfl, F', g1, g2, g3⟩; have G1 := Lib.hid g1; have G2 := Lib.hid g2; have G3 := Lib.hid g3; clear g1 g2 g3))
  all_goals
    obtain ⟨own1, q1, q2⟩ : ∃ own1, PlRaw own1 V2 p pu sh ms ml { X with P := P1, S := S1 } L ∧ Stp own own1 W V2 := by
      obtain ⟨q1, q2⟩ := (R1.out.kp0 ((Kp.refl _ _).drew)).shelf G2.out G1.out G3.out
      exact ⟨_, q1, (R2.out.trans (Stp.kp0 (Kp.refl _ _).drew)).trans q2⟩
    have Q1 := Lib.hid q1
    have Q2 := Lib.hid q2
    obtain ⟨V3, hrun, z1, z2, z3⟩ := MapAt.store (P := Tryz.prog) q1.hml key_int Tryz.underlying64 Tryz.underlying3 id ((cl, ld.length - 4) : Int × Nat)
    simp only [lov] at hrun
    rw [EC.out] at hrun
    have y3 := q1.cells.2.2.2.1
    have Z1 := Lib.hid z1
    have Z2 := Lib.hid z2
    clear q1 q2 z1 z2 z3 e1 b1 b4 CL
    obtain ⟨u1, u2⟩ := Q1.out.loads Z2.out Z1.out
    have CG := Lib.hid (gone_p (w := V3) (own := own1) (p := p) ⟨pu, sh, ms, ml, L, u1⟩ HPO.out fr)
    unfold GoPost at CG
    have U2 := Lib.hid (Q2.out.trans u2)
    clear u1 u2
    go_wp2_with fail
    refine CG.out.mono ?_
    rintro e Z ⟨rfl, own2, v1, v2⟩
    have HXV := Lib.hid v1
    have HSV := Lib.hid (U2.out.trans v2)
    clear v1 v2 CG hrun y3 h5 hwn
    obtain ⟨hVa, h6, hX6, hS6, kr6⟩ := ans_fin HK.out HR.out (Nat.le_succ _) HO1.out HXV.out HSV.out (0) (id) (.slice none 0 0)
    have f0 : ∀ i, Z.frozen? ⟨w.heap.size + 1, i, none⟩ = false := free_of hVa
    have c0 : Z.cell? ⟨w.heap.size + 1, 0, none⟩ = some (.int .i64 0) := by rw [cell_of hVa]; rfl
    have c1 : Z.cell? ⟨w.heap.size + 1, 1, none⟩ = some (.int .i64 0) := by rw [cell_of hVa]; rfl
    have c2 : Z.cell? ⟨w.heap.size + 1, 2, none⟩ = some (.slice none 0 0) := by rw [cell_of hVa]; rfl
    have H6 := Lib.hid h6
    have HX6 := Lib.hid hX6
    have HS6 := Lib.hid hS6
    have KR6 := Lib.hid kr6
    clear hVa h6 hX6 hS6 kr6
    go_wp2_with fail
    have y0 := cell_of H6.out 0
    have y1 := cell_of H6.out 1
    have y2 := cell_of H6.out 2
    refine bodyPost_ret (v := .agg #[.int .i64 (0), .int .i64 (id), .slice none 0 0]) ?_ rfl ?_
    · rw [results_cell1 rfl]
      simp [go_sem, y0, y1, y2]
    · exact ⟨none, 0, _, rfl, RowM.nil _ _ _, HX6.out, HS6.out, fun b hb => by cases hb⟩
set_option maxRecDepth 100000 in
set_option maxHeartbeats 4000000 in
theorem retire_p (own : Nat → Int) (w : World) (p : Nat) (X : Pls) (N : Nat) (h : PX own w p X) (hw : X.Wf N) (hN : N ≤ 30000) (k : Int) (nm : ByteArray) (lv hd : Int) (d : Value) : Calls Tryz.prog 34 #[.pointer (some ⟨p, 0, none⟩), .agg #[.int .i64 k, .string nm, .int .i64 lv, .int .i64 hd, d]] w (AnsP own w p (X.retire ⟨k, nm, lv, hd, []⟩)) := by
  obtain ⟨pu, sh, ms, ml, L, h⟩ := h
  obtain ⟨W, hW, hkW, hb, hr⟩ := frame2 w k nm lv hd d
  have h1W := h.kp0 (hkW.mono (fun _ _ q => q.elim))
  have HO0 := Lib.hid (h.new (Nat.le_refl w.heap.size))
  have HO1 := Lib.hid (h.new (Nat.le_succ w.heap.size))
  have HW1 := Lib.hid h1W
  have HB := Lib.hid hb
  have HR := Lib.hid hr
  have HK := Lib.hid hkW
  have HWF := Lib.hid hw
  have HN := Lib.hid hN
  have LWW := Lib.hid (lt_of_at hr)
  have b1 : W.cell? ⟨w.heap.size, 1, none⟩ = some (.string nm) := by rw [cell_of hb]; rfl
  have e1 := h1W.cells.2.1
  have CR := Lib.hid (retire_any X.S hw.S nm W.drew (h1W.kp0 ((Kp.refl _ _).drew)).hsh)
  unfold RetirePost at CR
  have HRE : Hid (X.retire ⟨k, nm, lv, hd, []⟩ = (({ X with S := (X.S.retire nm).1 } : Pls).gone (X.S.retire nm).2.1, ⟨(X.S.retire nm).2.2, 0, []⟩)) := Lib.hid rfl
  obtain ⟨S1, fr, er, hre⟩ : ∃ S1 fr er, X.S.retire nm = (S1, fr, er) := ⟨_, _, _, rfl⟩
  rw [hre] at CR HRE
  have HRE : Hid (X.retire ⟨k, nm, lv, hd, []⟩ = (({ X with S := S1 } : Pls).gone fr, ⟨er, 0, []⟩)) := HRE
  clear h h1W hb hr hkW hw hN hre
  go_enter Tryz.func34, Tryz.ntmps34
  go_wp2_with fail
  rw [← hW]
  clear hW
  go_region_law ((go_simp; go_at_call 60; refine CR.out.mono ?_; rintro e V2 ⟨rfl, g1, g2⟩; have G1 := Lib.hid g1; have G2 := Lib.hid g2; clear g1 g2))
  all_goals
    obtain ⟨own1, q1, q2⟩ : ∃ own1, PlRaw own1 V2 p pu sh ms ml { X with S := S1 } L ∧ Stp own own1 W V2 := by
      obtain ⟨q1, q2⟩ := (HW1.out.kp0 ((Kp.refl _ _).drew)).shelf G2.out G1.out (fun k q => .inl q)
      exact ⟨_, q1, (Stp.kp0 (Kp.refl _ _).drew).trans q2⟩
    have Q2 := Lib.hid q2
    have CG := Lib.hid (gone_p (w := V2) (own := own1) (p := p) ⟨pu, sh, ms, ml, L, q1⟩ HWF.out.P fr)
    unfold GoPost at CG
    clear q1 q2 CR e1 b1
    go_wp2_with fail
    refine CG.out.mono ?_
    rintro e Z ⟨rfl, own2, v1, v2⟩
    have HXV := Lib.hid v1
    have HSV := Lib.hid (Q2.out.trans v2)
    clear v1 v2 CG
    obtain ⟨hVa, h6, hX6, hS6, kr6⟩ := ans_fin HK.out HR.out (Nat.le_succ _) HO1.out HXV.out HSV.out (er) (0) (.slice none 0 0)
    have f0 : ∀ i, Z.frozen? ⟨w.heap.size + 1, i, none⟩ = false := free_of hVa
    have c0 : Z.cell? ⟨w.heap.size + 1, 0, none⟩ = some (.int .i64 0) := by rw [cell_of hVa]; rfl
    have c1 : Z.cell? ⟨w.heap.size + 1, 1, none⟩ = some (.int .i64 0) := by rw [cell_of hVa]; rfl
    have c2 : Z.cell? ⟨w.heap.size + 1, 2, none⟩ = some (.slice none 0 0) := by rw [cell_of hVa]; rfl
    have H6 := Lib.hid h6
    have HX6 := Lib.hid hX6
    have HS6 := Lib.hid hS6
    have KR6 := Lib.hid kr6
    clear hVa h6 hX6 hS6 kr6
    go_wp2_with fail
    have y0 := cell_of H6.out 0
    have y1 := cell_of H6.out 1
    have y2 := cell_of H6.out 2
    refine bodyPost_ret (v := .agg #[.int .i64 (er), .int .i64 (0), .slice none 0 0]) ?_ rfl ?_
    · rw [results_cell1 rfl]
      simp [go_sem, y0, y1, y2]
    · rw [HRE.out]
      exact ⟨none, 0, _, rfl, RowM.nil _ _ _, HX6.out, HS6.out, fun b hb => by cases hb⟩
end Go.Proofs.YtmioiaeiflbmhaaGreat.Pl
set_option linter.unusedVariables false
namespace Go.Proofs.YtmioiaeiflbmhaaGreat.Pl
open Go Go.RowKit Go.ChangeMaps Go.MapKept Go.Mg Go.Proofs.YtmioiaeiflbmhaaGreat.No Go.Proofs.YtmioiaeiflbmhaaGreat.Sh Go.Proofs.YtmioiaeiflbmhaaGreat.Str Go.Proofs.YtmioiaeiflbmhaaGreat.Bk Go.Proofs.YtmioiaeiflbmhaaGreat.Ma
section
variable (own : Nat → Int) (w : World) (p : Nat) (X : Pls) (N : Nat) (h : PX own w p X) (hw : X.Wf N) (hN : N ≤ 30000) (cl k : Int) (nm : ByteArray) (lv hd : Int) (ad : Option Addr) (cd : Nat) (ld : List UInt8)
include h hw hN in
theorem open_p (hnm : nm.size ≤ 9223372036854775807) : Calls Tryz.prog 31 #[.pointer (some ⟨p, 0, none⟩), .int .i64 cl, .agg #[.int .i64 k, .string nm, .int .i64 lv, .int .i64 hd, (.slice ad ld.length cd)]] w (AnsP own w p (X.opn cl ⟨k, nm, lv, hd, ld⟩)) := by
  unfold Pls.opn
  simp only
  by_cases hb : lv < 1 ∨ 3 < lv ∨ 12 < nm.size
  · rw [if_pos hb]; exact open_bad own w p X N h hw hN cl k nm lv hd _ hb
  · rw [if_neg hb]
    have hl : 1 ≤ lv ∧ lv ≤ 3 ∧ nm.size ≤ 12 := by omega
    by_cases hn : nm.size = 0
    · rw [if_pos hn]
      by_cases hh : X.P.has cl 2500
      · exact open_plain_go own w p X N h hw hN cl k nm lv hd _ hl hn hh
      · exact open_plain_no own w p X N h hw hN cl k nm lv hd _ hl hn hh
    · rw [if_neg hn]
      by_cases hp : (X.S.pin nm).2.2.2 = 0
      · rw [if_pos hp]
        by_cases hh : X.P.has cl 2500
        · exact open_named_go own w p X N h hw hN cl k nm lv hd _ hl hn hp hh
        · exact open_named_no own w p X N h hw hN cl k nm lv hd _ hl hn hp hh
      · rw [if_neg hp]; exact open_none own w p X N h hw hN cl k nm lv hd _ hl hn hp
include h hw hN in
theorem session_p (hk : 2 ≤ k ∧ k ≤ 5) (hl : SlR w 1 (.slice ad ld.length cd) ld.length (ld.map u8c)) (hlo : ∀ b, (Value.slice ad ld.length cd).ownBlock = some b → own b = 0) :
    Calls Tryz.prog 32 #[.pointer (some ⟨p, 0, none⟩), .int .i64 cl, .agg #[.int .i64 k, .string nm, .int .i64 lv, .int .i64 hd, (.slice ad ld.length cd)]] w (AnsP own w p (X.session cl ⟨k, nm, lv, hd, ld⟩)) := by
  unfold Pls.session
  simp only
  cases hg : AL.get X.L hd with
  | none => exact ses_none own w p X N h hw hN cl k nm lv hd _ hg
  | some e =>
    simp only
    by_cases hc : e.cl = cl
    · rw [if_pos hc]
      unfold Pls.does
      simp only
      by_cases k3 : k = 3
      · rw [if_pos k3]; exact ses_flush own w p X N h hw hN cl k nm lv hd _ e hg hc k3
      · rw [if_neg k3]
        by_cases k5 : k = 5
        · rw [if_pos k5]; exact ses_abort own w p X N h hw hN cl k nm lv hd _ e hg hc k5
        · rw [if_neg k5]
          by_cases k4 : k = 4
          · rw [if_pos k4]; exact ses_close own w p X N h hw hN cl k nm lv hd _ e hg hc k4
          · rw [if_neg k4]
            by_cases hll : 3000 < ld.length
            · rw [if_pos hll]; exact ses_long own w p X N h hw hN cl k nm lv hd ad cd ld e hg hc ⟨k3, k4, k5⟩ hl hlo hll
            · rw [if_neg hll]; exact ses_write own w p X N h hw hN cl k nm lv hd ad cd ld e hg hc ⟨k3, k4, k5⟩ hl hlo (by omega)
    · rw [if_neg hc]; exact ses_other own w p X N h hw hN cl k nm lv hd _ e hg hc
include h hw hN in
theorem load_p (hl : SlR w 1 (.slice ad ld.length cd) ld.length (ld.map u8c)) (hlo : ∀ b, (Value.slice ad ld.length cd).ownBlock = some b → own b = 0) (hnm : nm.size ≤ 9223372036854775807) (hll : ld.length ≤ 100000) :
    Calls Tryz.prog 33 #[.pointer (some ⟨p, 0, none⟩), .int .i64 cl, .agg #[.int .i64 k, .string nm, .int .i64 lv, .int .i64 hd, (.slice ad ld.length cd)]] w (AnsP own w p (X.load cl ⟨k, nm, lv, hd, ld⟩)) := by
  unfold Pls.load
  simp only
  by_cases hi : isS nm ld = 0
  · rw [if_pos hi]
    by_cases hh : X.P.has cl ((ld.length : Int) - 4)
    · rw [if_pos hh]; exact ld_go own w p X N h hw hN cl k nm lv hd ad cd ld hl hlo hnm hll hi hh
    · rw [if_neg hh]; exact ld_no own w p X N h hw hN cl k nm lv hd ad cd ld hl hlo hnm hll hi hh
  · rw [if_neg hi]; exact ld_is own w p X N h hw hN cl k nm lv hd ad cd ld hl hlo hnm hll hi
end
set_option maxRecDepth 100000 in
set_option maxHeartbeats 4000000 in
theorem do_bad (own : Nat → Int) (w : World) (p : Nat) (X : Pls) (N : Nat) (h : PX own w p X) (hw : X.Wf N) (hN : N ≤ 30000) (cl k : Int) (nm : ByteArray) (lv hd : Int) (ad : Option Addr) (cd : Nat) (ld : List UInt8) (hl : SlR w 1 (.slice ad ld.length cd) ld.length (ld.map u8c)) (hlo : ∀ b, (Value.slice ad ld.length cd).ownBlock = some b → own b = 0) (hnm : nm.size ≤ 9223372036854775807) (hll : ld.length ≤ 100000) (hb : cl < 0 ∨ 4 ≤ cl) : Calls Tryz.prog 15 #[.pointer (some ⟨p, 0, none⟩), .int .i64 cl, .agg #[.int .i64 k, .string nm, .int .i64 lv, .int .i64 hd, (.slice ad ld.length cd)]] w (AnsP own w p (X, ⟨1, 0, []⟩)) := by
  have H := Lib.hid h
  clear h hw hN hl hlo hnm hll
  by_cases h1 : cl < 0
  · clear hb
    go_enter Tryz.func15, Tryz.ntmps15
    go_wp2_with fail
    have hr := alloc_at (w.alloc (.cells #[.int .i64 k, .string nm, .int .i64 lv, .int .i64 hd, (.slice ad ld.length cd)] 25)) (.cells #[.int .i64 1, .int .i64 0, .slice none 0 0] 35)
    rw [World.size_alloc] at hr
    have y0 := cell_of hr 0
    have y1 := cell_of hr 1
    have y2 := cell_of hr 2
    have kk : Kp (fun _ => False) w ((w.alloc (.cells #[.int .i64 k, .string nm, .int .i64 lv, .int .i64 hd, (.slice ad ld.length cd)] 25)).alloc (.cells #[.int .i64 1, .int .i64 0, .slice none 0 0] 35)) := kp_new.trans kp_new
    refine bodyPost_ret (v := .agg #[.int .i64 1, .int .i64 0, .slice none 0 0]) ?_ rfl ⟨none, 0, own, rfl, RowM.nil _ _ _, H.out.kp0 (kk.mono (fun _ _ q => q.elim)), Stp.kp0 kk, fun b hb => by cases hb⟩
    rw [results_cell1 rfl]
    simp [go_sem, y0, y1, y2]
  · have h2 : 4 ≤ cl := by omega
    clear hb
    go_enter Tryz.func15, Tryz.ntmps15
    go_wp2_with fail
    have hr := alloc_at (w.alloc (.cells #[.int .i64 k, .string nm, .int .i64 lv, .int .i64 hd, (.slice ad ld.length cd)] 25)) (.cells #[.int .i64 1, .int .i64 0, .slice none 0 0] 35)
    rw [World.size_alloc] at hr
    have y0 := cell_of hr 0
    have y1 := cell_of hr 1
    have y2 := cell_of hr 2
    have kk : Kp (fun _ => False) w ((w.alloc (.cells #[.int .i64 k, .string nm, .int .i64 lv, .int .i64 hd, (.slice ad ld.length cd)] 25)).alloc (.cells #[.int .i64 1, .int .i64 0, .slice none 0 0] 35)) := kp_new.trans kp_new
    refine bodyPost_ret (v := .agg #[.int .i64 1, .int .i64 0, .slice none 0 0]) ?_ rfl ⟨none, 0, own, rfl, RowM.nil _ _ _, H.out.kp0 (kk.mono (fun _ _ q => q.elim)), Stp.kp0 kk, fun b hb => by cases hb⟩
    rw [results_cell1 rfl]
    simp [go_sem, y0, y1, y2]
set_option maxRecDepth 100000 in
set_option maxHeartbeats 4000000 in
theorem do_other (own : Nat → Int) (w : World) (p : Nat) (X : Pls) (N : Nat) (h : PX own w p X) (hw : X.Wf N) (hN : N ≤ 30000) (cl k : Int) (nm : ByteArray) (lv hd : Int) (ad : Option Addr) (cd : Nat) (ld : List UInt8) (hl : SlR w 1 (.slice ad ld.length cd) ld.length (ld.map u8c)) (hlo : ∀ b, (Value.slice ad ld.length cd).ownBlock = some b → own b = 0) (hnm : nm.size ≤ 9223372036854775807) (hll : ld.length ≤ 100000) (hc : 0 ≤ cl ∧ cl < 4) (hk : k < 1 ∨ 7 < k) : Calls Tryz.prog 15 #[.pointer (some ⟨p, 0, none⟩), .int .i64 cl, .agg #[.int .i64 k, .string nm, .int .i64 lv, .int .i64 hd, (.slice ad ld.length cd)]] w (AnsP own w p (X, ⟨1, 0, []⟩)) := by
  have H := Lib.hid h
  clear h hw hN hl hlo hnm hll
  have c0 : ¬ cl < 0 := by omega
  have c4 : ¬ 4 ≤ cl := by omega
  have q1 : (k == 1) = false := by simp; omega
  have q2 : (k == 2) = false := by simp; omega
  have q3 : (k == 3) = false := by simp; omega
  have q4 : (k == 4) = false := by simp; omega
  have q5 : (k == 5) = false := by simp; omega
  have q6 : (k == 6) = false := by simp; omega
  have q7 : (k == 7) = false := by simp; omega
  clear hc hk
  go_enter Tryz.func15, Tryz.ntmps15
  go_wp2_with fail
  have hr := alloc_at (w.alloc (.cells #[.int .i64 k, .string nm, .int .i64 lv, .int .i64 hd, (.slice ad ld.length cd)] 25)) (.cells #[.int .i64 1, .int .i64 0, .slice none 0 0] 35)
  rw [World.size_alloc] at hr
  have y0 := cell_of hr 0
  have y1 := cell_of hr 1
  have y2 := cell_of hr 2
  have kk : Kp (fun _ => False) w ((w.alloc (.cells #[.int .i64 k, .string nm, .int .i64 lv, .int .i64 hd, (.slice ad ld.length cd)] 25)).alloc (.cells #[.int .i64 1, .int .i64 0, .slice none 0 0] 35)) := kp_new.trans kp_new
  refine bodyPost_ret (v := .agg #[.int .i64 1, .int .i64 0, .slice none 0 0]) ?_ rfl ⟨none, 0, own, rfl, RowM.nil _ _ _, H.out.kp0 (kk.mono (fun _ _ q => q.elim)), Stp.kp0 kk, fun b hb => by cases hb⟩
  rw [results_cell1 rfl]
  simp [go_sem, y0, y1, y2]
set_option maxRecDepth 100000 in
set_option maxHeartbeats 4000000 in
theorem do_open (own : Nat → Int) (w : World) (p : Nat) (X : Pls) (N : Nat) (h : PX own w p X) (hw : X.Wf N) (hN : N ≤ 30000) (cl k : Int) (nm : ByteArray) (lv hd : Int) (ad : Option Addr) (cd : Nat) (ld : List UInt8) (hl : SlR w 1 (.slice ad ld.length cd) ld.length (ld.map u8c)) (hlo : ∀ b, (Value.slice ad ld.length cd).ownBlock = some b → own b = 0) (hnm : nm.size ≤ 9223372036854775807) (hll : ld.length ≤ 100000) (hc : 0 ≤ cl ∧ cl < 4) (hk : k = 1) : Calls Tryz.prog 15 #[.pointer (some ⟨p, 0, none⟩), .int .i64 cl, .agg #[.int .i64 k, .string nm, .int .i64 lv, .int .i64 hd, (.slice ad ld.length cd)]] w (AnsP own w p (X.opn cl ⟨k, nm, lv, hd, ld⟩)) := by
  have h' := h
  obtain ⟨pu, sh, ms, ml, L, h⟩ := h
  obtain ⟨W, hW, hkW, hb, hr⟩ := frame2 w k nm lv hd (.slice ad ld.length cd)
  have HO1 := Lib.hid (h.new (Nat.le_succ w.heap.size))
  have HR := Lib.hid hr
  have HK := Lib.hid hkW
  have LWW := Lib.hid (lt_of_at hr)
  have b0 : W.cell? ⟨w.heap.size, 0, none⟩ = some (.int .i64 k) := by rw [cell_of hb]; rfl
  have b1 : W.cell? ⟨w.heap.size, 1, none⟩ = some (.string nm) := by rw [cell_of hb]; rfl
  have b2 : W.cell? ⟨w.heap.size, 2, none⟩ = some (.int .i64 lv) := by rw [cell_of hb]; rfl
  have b3 : W.cell? ⟨w.heap.size, 3, none⟩ = some (.int .i64 hd) := by rw [cell_of hb]; rfl
  have b4 : W.cell? ⟨w.heap.size, 4, none⟩ = some (.slice ad ld.length cd) := by rw [cell_of hb]; rfl
  have CC := Lib.hid (open_p own W p X N (h'.kp0 (hkW.mono (fun _ _ q => q.elim))) hw hN cl k nm lv hd ad cd ld hnm)
  unfold AnsP at CC
  obtain ⟨r, hr0⟩ : ∃ r, r = X.opn cl ⟨k, nm, lv, hd, ld⟩ := ⟨_, rfl⟩
  have HE := Lib.hid hr0.symm
  rw [← hr0] at CC
  obtain ⟨X1, er, an, O⟩ := r
  obtain ⟨on, hon⟩ : ∃ on, on = O.length := ⟨_, rfl⟩
  have HON := Lib.hid hon
  simp only at CC
  rw [← hon] at CC
  have h0 : ¬ cl < 0 := by omega
  have h4 : ¬ 4 ≤ cl := by omega
  have q1 : (k == 1) = true := by simpa using hk
  clear h h' hb hr hkW hw hl hlo hnm hN hll hr0 hon hc hk
  go_enter Tryz.func15, Tryz.ntmps15
  go_wp2_with fail
  rw [← hW]
  clear hW
  go_wp2_with fail
  refine CC.out.mono ?_
  rintro e V ⟨a, c, own1, rfl, g1, g2, g3, g4⟩
  have RW := Lib.hid g1
  have HXV := Lib.hid g2
  have HSV := Lib.hid g3
  have OB := Lib.hid g4
  clear g1 g2 g3 g4 CC
  obtain ⟨hVa, h6, hX6, hS6, kr6⟩ := ans_fin HK.out HR.out (Nat.le_succ _) HO1.out HXV.out HSV.out (er) (an) (.slice a on c)
  have f0 : ∀ i, V.frozen? ⟨w.heap.size + 1, i, none⟩ = false := free_of hVa
  have c0 : V.cell? ⟨w.heap.size + 1, 0, none⟩ = some (.int .i64 0) := by rw [cell_of hVa]; rfl
  have c1 : V.cell? ⟨w.heap.size + 1, 1, none⟩ = some (.int .i64 0) := by rw [cell_of hVa]; rfl
  have c2 : V.cell? ⟨w.heap.size + 1, 2, none⟩ = some (.slice none 0 0) := by rw [cell_of hVa]; rfl
  have H6 := Lib.hid h6
  have HX6 := Lib.hid hX6
  have HS6 := Lib.hid hS6
  have KR6 := Lib.hid kr6
  clear hVa h6 hX6 hS6 kr6
  go_wp2_with fail
  have y0 := cell_of H6.out 0
  have y1 := cell_of H6.out 1
  have y2 := cell_of H6.out 2
  refine bodyPost_ret (v := .agg #[.int .i64 (er), .int .i64 (an), .slice a on c]) ?_ rfl ?_
  · rw [results_cell1 rfl]
    simp [go_sem, y0, y1, y2]
  · rw [HE.out]
    refine ⟨a, c, _, ?_, ?_, HX6.out, HS6.out, ?_⟩
    · show _ = Ending.returned (.agg #[.int .i64 er, .int .i64 an, .slice a O.length c])
      rw [← HON.out]
    · show RowB w.heap.size _ (.slice a O.length c) O
      rw [← HON.out]
      exact (RowM.kpo RW.out KR6.out (fun b hb e => by have h1 := (RowM.lt RW.out hb).1; have h2 := LWW.out; have e2 : b = w.heap.size + 1 := e; omega)).low (by have h2 := LWW.out; omega)
    · show ∀ b, (Value.slice a O.length c).ownBlock = some b → _
      rw [← HON.out]
      exact OB.out
set_option maxRecDepth 100000 in
set_option maxHeartbeats 4000000 in
theorem do_ses2 (own : Nat → Int) (w : World) (p : Nat) (X : Pls) (N : Nat) (h : PX own w p X) (hw : X.Wf N) (hN : N ≤ 30000) (cl k : Int) (nm : ByteArray) (lv hd : Int) (ad : Option Addr) (cd : Nat) (ld : List UInt8) (hl : SlR w 1 (.slice ad ld.length cd) ld.length (ld.map u8c)) (hlo : ∀ b, (Value.slice ad ld.length cd).ownBlock = some b → own b = 0) (hnm : nm.size ≤ 9223372036854775807) (hll : ld.length ≤ 100000) (hc : 0 ≤ cl ∧ cl < 4) (hk : k = 2) : Calls Tryz.prog 15 #[.pointer (some ⟨p, 0, none⟩), .int .i64 cl, .agg #[.int .i64 k, .string nm, .int .i64 lv, .int .i64 hd, (.slice ad ld.length cd)]] w (AnsP own w p (X.session cl ⟨k, nm, lv, hd, ld⟩)) := by
  have h' := h
  obtain ⟨pu, sh, ms, ml, L, h⟩ := h
  obtain ⟨W, hW, hkW, hb, hr⟩ := frame2 w k nm lv hd (.slice ad ld.length cd)
  have HO1 := Lib.hid (h.new (Nat.le_succ w.heap.size))
  have HR := Lib.hid hr
  have HK := Lib.hid hkW
  have LWW := Lib.hid (lt_of_at hr)
  have b0 : W.cell? ⟨w.heap.size, 0, none⟩ = some (.int .i64 k) := by rw [cell_of hb]; rfl
  have b1 : W.cell? ⟨w.heap.size, 1, none⟩ = some (.string nm) := by rw [cell_of hb]; rfl
  have b2 : W.cell? ⟨w.heap.size, 2, none⟩ = some (.int .i64 lv) := by rw [cell_of hb]; rfl
  have b3 : W.cell? ⟨w.heap.size, 3, none⟩ = some (.int .i64 hd) := by rw [cell_of hb]; rfl
  have b4 : W.cell? ⟨w.heap.size, 4, none⟩ = some (.slice ad ld.length cd) := by rw [cell_of hb]; rfl
  have CC := Lib.hid (session_p own W p X N (h'.kp0 (hkW.mono (fun _ _ q => q.elim))) hw hN cl k nm lv hd ad cd ld (by omega) (hl.kp hkW (fun _ _ q => q)) hlo)
  unfold AnsP at CC
  obtain ⟨r, hr0⟩ : ∃ r, r = X.session cl ⟨k, nm, lv, hd, ld⟩ := ⟨_, rfl⟩
  have HE := Lib.hid hr0.symm
  rw [← hr0] at CC
  obtain ⟨X1, er, an, O⟩ := r
  obtain ⟨on, hon⟩ : ∃ on, on = O.length := ⟨_, rfl⟩
  have HON := Lib.hid hon
  simp only at CC
  rw [← hon] at CC
  have h0 : ¬ cl < 0 := by omega
  have h4 : ¬ 4 ≤ cl := by omega
  have q1 : (k == 1) = false := by simp; omega
  have q2 : (k == 2) = true := by simpa using hk
  clear h h' hb hr hkW hw hl hlo hnm hN hll hr0 hon hc hk
  go_enter Tryz.func15, Tryz.ntmps15
  go_wp2_with fail
  rw [← hW]
  clear hW
  go_wp2_with fail
  refine CC.out.mono ?_
  rintro e V ⟨a, c, own1, rfl, g1, g2, g3, g4⟩
  have RW := Lib.hid g1
  have HXV := Lib.hid g2
  have HSV := Lib.hid g3
  have OB := Lib.hid g4
  clear g1 g2 g3 g4 CC
  obtain ⟨hVa, h6, hX6, hS6, kr6⟩ := ans_fin HK.out HR.out (Nat.le_succ _) HO1.out HXV.out HSV.out (er) (an) (.slice a on c)
  have f0 : ∀ i, V.frozen? ⟨w.heap.size + 1, i, none⟩ = false := free_of hVa
  have c0 : V.cell? ⟨w.heap.size + 1, 0, none⟩ = some (.int .i64 0) := by rw [cell_of hVa]; rfl
  have c1 : V.cell? ⟨w.heap.size + 1, 1, none⟩ = some (.int .i64 0) := by rw [cell_of hVa]; rfl
  have c2 : V.cell? ⟨w.heap.size + 1, 2, none⟩ = some (.slice none 0 0) := by rw [cell_of hVa]; rfl
  have H6 := Lib.hid h6
  have HX6 := Lib.hid hX6
  have HS6 := Lib.hid hS6
  have KR6 := Lib.hid kr6
  clear hVa h6 hX6 hS6 kr6
  go_wp2_with fail
  have y0 := cell_of H6.out 0
  have y1 := cell_of H6.out 1
  have y2 := cell_of H6.out 2
  refine bodyPost_ret (v := .agg #[.int .i64 (er), .int .i64 (an), .slice a on c]) ?_ rfl ?_
  · rw [results_cell1 rfl]
    simp [go_sem, y0, y1, y2]
  · rw [HE.out]
    refine ⟨a, c, _, ?_, ?_, HX6.out, HS6.out, ?_⟩
    · show _ = Ending.returned (.agg #[.int .i64 er, .int .i64 an, .slice a O.length c])
      rw [← HON.out]
    · show RowB w.heap.size _ (.slice a O.length c) O
      rw [← HON.out]
      exact (RowM.kpo RW.out KR6.out (fun b hb e => by have h1 := (RowM.lt RW.out hb).1; have h2 := LWW.out; have e2 : b = w.heap.size + 1 := e; omega)).low (by have h2 := LWW.out; omega)
    · show ∀ b, (Value.slice a O.length c).ownBlock = some b → _
      rw [← HON.out]
      exact OB.out
set_option maxRecDepth 100000 in
set_option maxHeartbeats 4000000 in
theorem do_ses3 (own : Nat → Int) (w : World) (p : Nat) (X : Pls) (N : Nat) (h : PX own w p X) (hw : X.Wf N) (hN : N ≤ 30000) (cl k : Int) (nm : ByteArray) (lv hd : Int) (ad : Option Addr) (cd : Nat) (ld : List UInt8) (hl : SlR w 1 (.slice ad ld.length cd) ld.length (ld.map u8c)) (hlo : ∀ b, (Value.slice ad ld.length cd).ownBlock = some b → own b = 0) (hnm : nm.size ≤ 9223372036854775807) (hll : ld.length ≤ 100000) (hc : 0 ≤ cl ∧ cl < 4) (hk : k = 3) : Calls Tryz.prog 15 #[.pointer (some ⟨p, 0, none⟩), .int .i64 cl, .agg #[.int .i64 k, .string nm, .int .i64 lv, .int .i64 hd, (.slice ad ld.length cd)]] w (AnsP own w p (X.session cl ⟨k, nm, lv, hd, ld⟩)) := by
  have h' := h
  obtain ⟨pu, sh, ms, ml, L, h⟩ := h
  obtain ⟨W, hW, hkW, hb, hr⟩ := frame2 w k nm lv hd (.slice ad ld.length cd)
  have HO1 := Lib.hid (h.new (Nat.le_succ w.heap.size))
  have HR := Lib.hid hr
  have HK := Lib.hid hkW
  have LWW := Lib.hid (lt_of_at hr)
  have b0 : W.cell? ⟨w.heap.size, 0, none⟩ = some (.int .i64 k) := by rw [cell_of hb]; rfl
  have b1 : W.cell? ⟨w.heap.size, 1, none⟩ = some (.string nm) := by rw [cell_of hb]; rfl
  have b2 : W.cell? ⟨w.heap.size, 2, none⟩ = some (.int .i64 lv) := by rw [cell_of hb]; rfl
  have b3 : W.cell? ⟨w.heap.size, 3, none⟩ = some (.int .i64 hd) := by rw [cell_of hb]; rfl
  have b4 : W.cell? ⟨w.heap.size, 4, none⟩ = some (.slice ad ld.length cd) := by rw [cell_of hb]; rfl
  have CC := Lib.hid (session_p own W p X N (h'.kp0 (hkW.mono (fun _ _ q => q.elim))) hw hN cl k nm lv hd ad cd ld (by omega) (hl.kp hkW (fun _ _ q => q)) hlo)
  unfold AnsP at CC
  obtain ⟨r, hr0⟩ : ∃ r, r = X.session cl ⟨k, nm, lv, hd, ld⟩ := ⟨_, rfl⟩
  have HE := Lib.hid hr0.symm
  rw [← hr0] at CC
  obtain ⟨X1, er, an, O⟩ := r
  obtain ⟨on, hon⟩ : ∃ on, on = O.length := ⟨_, rfl⟩
  have HON := Lib.hid hon
  simp only at CC
  rw [← hon] at CC
  have h0 : ¬ cl < 0 := by omega
  have h4 : ¬ 4 ≤ cl := by omega
  have q1 : (k == 1) = false := by simp; omega
  have q2 : (k == 2) = false := by simp; omega
  have q3 : (k == 3) = true := by simpa using hk
  clear h h' hb hr hkW hw hl hlo hnm hN hll hr0 hon hc hk
  go_enter Tryz.func15, Tryz.ntmps15
  go_wp2_with fail
  rw [← hW]
  clear hW
  go_wp2_with fail
  refine CC.out.mono ?_
  rintro e V ⟨a, c, own1, rfl, g1, g2, g3, g4⟩
  have RW := Lib.hid g1
  have HXV := Lib.hid g2
  have HSV := Lib.hid g3
  have OB := Lib.hid g4
  clear g1 g2 g3 g4 CC
  obtain ⟨hVa, h6, hX6, hS6, kr6⟩ := ans_fin HK.out HR.out (Nat.le_succ _) HO1.out HXV.out HSV.out (er) (an) (.slice a on c)
  have f0 : ∀ i, V.frozen? ⟨w.heap.size + 1, i, none⟩ = false := free_of hVa
  have c0 : V.cell? ⟨w.heap.size + 1, 0, none⟩ = some (.int .i64 0) := by rw [cell_of hVa]; rfl
  have c1 : V.cell? ⟨w.heap.size + 1, 1, none⟩ = some (.int .i64 0) := by rw [cell_of hVa]; rfl
  have c2 : V.cell? ⟨w.heap.size + 1, 2, none⟩ = some (.slice none 0 0) := by rw [cell_of hVa]; rfl
  have H6 := Lib.hid h6
  have HX6 := Lib.hid hX6
  have HS6 := Lib.hid hS6
  have KR6 := Lib.hid kr6
  clear hVa h6 hX6 hS6 kr6
  go_wp2_with fail
  have y0 := cell_of H6.out 0
  have y1 := cell_of H6.out 1
  have y2 := cell_of H6.out 2
  refine bodyPost_ret (v := .agg #[.int .i64 (er), .int .i64 (an), .slice a on c]) ?_ rfl ?_
  · rw [results_cell1 rfl]
    simp [go_sem, y0, y1, y2]
  · rw [HE.out]
    refine ⟨a, c, _, ?_, ?_, HX6.out, HS6.out, ?_⟩
    · show _ = Ending.returned (.agg #[.int .i64 er, .int .i64 an, .slice a O.length c])
      rw [← HON.out]
    · show RowB w.heap.size _ (.slice a O.length c) O
      rw [← HON.out]
      exact (RowM.kpo RW.out KR6.out (fun b hb e => by have h1 := (RowM.lt RW.out hb).1; have h2 := LWW.out; have e2 : b = w.heap.size + 1 := e; omega)).low (by have h2 := LWW.out; omega)
    · show ∀ b, (Value.slice a O.length c).ownBlock = some b → _
      rw [← HON.out]
      exact OB.out
set_option maxRecDepth 100000 in
set_option maxHeartbeats 4000000 in
theorem do_ses4 (own : Nat → Int) (w : World) (p : Nat) (X : Pls) (N : Nat) (h : PX own w p X) (hw : X.Wf N) (hN : N ≤ 30000) (cl k : Int) (nm : ByteArray) (lv hd : Int) (ad : Option Addr) (cd : Nat) (ld : List UInt8) (hl : SlR w 1 (.slice ad ld.length cd) ld.length (ld.map u8c)) (hlo : ∀ b, (Value.slice ad ld.length cd).ownBlock = some b → own b = 0) (hnm : nm.size ≤ 9223372036854775807) (hll : ld.length ≤ 100000) (hc : 0 ≤ cl ∧ cl < 4) (hk : k = 4) : Calls Tryz.prog 15 #[.pointer (some ⟨p, 0, none⟩), .int .i64 cl, .agg #[.int .i64 k, .string nm, .int .i64 lv, .int .i64 hd, (.slice ad ld.length cd)]] w (AnsP own w p (X.session cl ⟨k, nm, lv, hd, ld⟩)) := by
  have h' := h
  obtain ⟨pu, sh, ms, ml, L, h⟩ := h
  obtain ⟨W, hW, hkW, hb, hr⟩ := frame2 w k nm lv hd (.slice ad ld.length cd)
  have HO1 := Lib.hid (h.new (Nat.le_succ w.heap.size))
  have HR := Lib.hid hr
  have HK := Lib.hid hkW
  have LWW := Lib.hid (lt_of_at hr)
  have b0 : W.cell? ⟨w.heap.size, 0, none⟩ = some (.int .i64 k) := by rw [cell_of hb]; rfl
  have b1 : W.cell? ⟨w.heap.size, 1, none⟩ = some (.string nm) := by rw [cell_of hb]; rfl
  have b2 : W.cell? ⟨w.heap.size, 2, none⟩ = some (.int .i64 lv) := by rw [cell_of hb]; rfl
  have b3 : W.cell? ⟨w.heap.size, 3, none⟩ = some (.int .i64 hd) := by rw [cell_of hb]; rfl
  have b4 : W.cell? ⟨w.heap.size, 4, none⟩ = some (.slice ad ld.length cd) := by rw [cell_of hb]; rfl
  have CC := Lib.hid (session_p own W p X N (h'.kp0 (hkW.mono (fun _ _ q => q.elim))) hw hN cl k nm lv hd ad cd ld (by omega) (hl.kp hkW (fun _ _ q => q)) hlo)
  unfold AnsP at CC
  obtain ⟨r, hr0⟩ : ∃ r, r = X.session cl ⟨k, nm, lv, hd, ld⟩ := ⟨_, rfl⟩
  have HE := Lib.hid hr0.symm
  rw [← hr0] at CC
  obtain ⟨X1, er, an, O⟩ := r
  obtain ⟨on, hon⟩ : ∃ on, on = O.length := ⟨_, rfl⟩
  have HON := Lib.hid hon
  simp only at CC
  rw [← hon] at CC
  have h0 : ¬ cl < 0 := by omega
  have h4 : ¬ 4 ≤ cl := by omega
  have q1 : (k == 1) = false := by simp; omega
  have q2 : (k == 2) = false := by simp; omega
  have q3 : (k == 3) = false := by simp; omega
  have q4 : (k == 4) = true := by simpa using hk
  clear h h' hb hr hkW hw hl hlo hnm hN hll hr0 hon hc hk
  go_enter Tryz.func15, Tryz.ntmps15
  go_wp2_with fail
  rw [← hW]
  clear hW
  go_wp2_with fail
  refine CC.out.mono ?_
  rintro e V ⟨a, c, own1, rfl, g1, g2, g3, g4⟩
  have RW := Lib.hid g1
  have HXV := Lib.hid g2
  have HSV := Lib.hid g3
  have OB := Lib.hid g4
  clear g1 g2 g3 g4 CC
  obtain ⟨hVa, h6, hX6, hS6, kr6⟩ := ans_fin HK.out HR.out (Nat.le_succ _) HO1.out HXV.out HSV.out (er) (an) (.slice a on c)
  have f0 : ∀ i, V.frozen? ⟨w.heap.size + 1, i, none⟩ = false := free_of hVa
  have c0 : V.cell? ⟨w.heap.size + 1, 0, none⟩ = some (.int .i64 0) := by rw [cell_of hVa]; rfl
  have c1 : V.cell? ⟨w.heap.size + 1, 1, none⟩ = some (.int .i64 0) := by rw [cell_of hVa]; rfl
  have c2 : V.cell? ⟨w.heap.size + 1, 2, none⟩ = some (.slice none 0 0) := by rw [cell_of hVa]; rfl
  have H6 := Lib.hid h6
  have HX6 := Lib.hid hX6
  have HS6 := Lib.hid hS6
  have KR6 := Lib.hid kr6
  clear hVa h6 hX6 hS6 kr6
  go_wp2_with fail
  have y0 := cell_of H6.out 0
  have y1 := cell_of H6.out 1
  have y2 := cell_of H6.out 2
  refine bodyPost_ret (v := .agg #[.int .i64 (er), .int .i64 (an), .slice a on c]) ?_ rfl ?_
  · rw [results_cell1 rfl]
    simp [go_sem, y0, y1, y2]
  · rw [HE.out]
    refine ⟨a, c, _, ?_, ?_, HX6.out, HS6.out, ?_⟩
    · show _ = Ending.returned (.agg #[.int .i64 er, .int .i64 an, .slice a O.length c])
      rw [← HON.out]
    · show RowB w.heap.size _ (.slice a O.length c) O
      rw [← HON.out]
      exact (RowM.kpo RW.out KR6.out (fun b hb e => by have h1 := (RowM.lt RW.out hb).1; have h2 := LWW.out; have e2 : b = w.heap.size + 1 := e; omega)).low (by have h2 := LWW.out; omega)
    · show ∀ b, (Value.slice a O.length c).ownBlock = some b → _
      rw [← HON.out]
      exact OB.out
set_option maxRecDepth 100000 in
set_option maxHeartbeats 4000000 in
theorem do_ses5 (own : Nat → Int) (w : World) (p : Nat) (X : Pls) (N : Nat) (h : PX own w p X) (hw : X.Wf N) (hN : N ≤ 30000) (cl k : Int) (nm : ByteArray) (lv hd : Int) (ad : Option Addr) (cd : Nat) (ld : List UInt8) (hl : SlR w 1 (.slice ad ld.length cd) ld.length (ld.map u8c)) (hlo : ∀ b, (Value.slice ad ld.length cd).ownBlock = some b → own b = 0) (hnm : nm.size ≤ 9223372036854775807) (hll : ld.length ≤ 100000) (hc : 0 ≤ cl ∧ cl < 4) (hk : k = 5) : Calls Tryz.prog 15 #[.pointer (some ⟨p, 0, none⟩), .int .i64 cl, .agg #[.int .i64 k, .string nm, .int .i64 lv, .int .i64 hd, (.slice ad ld.length cd)]] w (AnsP own w p (X.session cl ⟨k, nm, lv, hd, ld⟩)) := by
  have h' := h
  obtain ⟨pu, sh, ms, ml, L, h⟩ := h
  obtain ⟨W, hW, hkW, hb, hr⟩ := frame2 w k nm lv hd (.slice ad ld.length cd)
  have HO1 := Lib.hid (h.new (Nat.le_succ w.heap.size))
  have HR := Lib.hid hr
  have HK := Lib.hid hkW
  have LWW := Lib.hid (lt_of_at hr)
  have b0 : W.cell? ⟨w.heap.size, 0, none⟩ = some (.int .i64 k) := by rw [cell_of hb]; rfl
  have b1 : W.cell? ⟨w.heap.size, 1, none⟩ = some (.string nm) := by rw [cell_of hb]; rfl
  have b2 : W.cell? ⟨w.heap.size, 2, none⟩ = some (.int .i64 lv) := by rw [cell_of hb]; rfl
  have b3 : W.cell? ⟨w.heap.size, 3, none⟩ = some (.int .i64 hd) := by rw [cell_of hb]; rfl
  have b4 : W.cell? ⟨w.heap.size, 4, none⟩ = some (.slice ad ld.length cd) := by rw [cell_of hb]; rfl
  have CC := Lib.hid (session_p own W p X N (h'.kp0 (hkW.mono (fun _ _ q => q.elim))) hw hN cl k nm lv hd ad cd ld (by omega) (hl.kp hkW (fun _ _ q => q)) hlo)
  unfold AnsP at CC
  obtain ⟨r, hr0⟩ : ∃ r, r = X.session cl ⟨k, nm, lv, hd, ld⟩ := ⟨_, rfl⟩
  have HE := Lib.hid hr0.symm
  rw [← hr0] at CC
  obtain ⟨X1, er, an, O⟩ := r
  obtain ⟨on, hon⟩ : ∃ on, on = O.length := ⟨_, rfl⟩
  have HON := Lib.hid hon
  simp only at CC
  rw [← hon] at CC
  have h0 : ¬ cl < 0 := by omega
  have h4 : ¬ 4 ≤ cl := by omega
  have q1 : (k == 1) = false := by simp; omega
  have q2 : (k == 2) = false := by simp; omega
  have q3 : (k == 3) = false := by simp; omega
  have q4 : (k == 4) = false := by simp; omega
  have q5 : (k == 5) = true := by simpa using hk
  clear h h' hb hr hkW hw hl hlo hnm hN hll hr0 hon hc hk
  go_enter Tryz.func15, Tryz.ntmps15
  go_wp2_with fail
  rw [← hW]
  clear hW
  go_wp2_with fail
  refine CC.out.mono ?_
  rintro e V ⟨a, c, own1, rfl, g1, g2, g3, g4⟩
  have RW := Lib.hid g1
  have HXV := Lib.hid g2
  have HSV := Lib.hid g3
  have OB := Lib.hid g4
  clear g1 g2 g3 g4 CC
  obtain ⟨hVa, h6, hX6, hS6, kr6⟩ := ans_fin HK.out HR.out (Nat.le_succ _) HO1.out HXV.out HSV.out (er) (an) (.slice a on c)
  have f0 : ∀ i, V.frozen? ⟨w.heap.size + 1, i, none⟩ = false := free_of hVa
  have c0 : V.cell? ⟨w.heap.size + 1, 0, none⟩ = some (.int .i64 0) := by rw [cell_of hVa]; rfl
  have c1 : V.cell? ⟨w.heap.size + 1, 1, none⟩ = some (.int .i64 0) := by rw [cell_of hVa]; rfl
  have c2 : V.cell? ⟨w.heap.size + 1, 2, none⟩ = some (.slice none 0 0) := by rw [cell_of hVa]; rfl
  have H6 := Lib.hid h6
  have HX6 := Lib.hid hX6
  have HS6 := Lib.hid hS6
  have KR6 := Lib.hid kr6
  clear hVa h6 hX6 hS6 kr6
  go_wp2_with fail
  have y0 := cell_of H6.out 0
  have y1 := cell_of H6.out 1
  have y2 := cell_of H6.out 2
  refine bodyPost_ret (v := .agg #[.int .i64 (er), .int .i64 (an), .slice a on c]) ?_ rfl ?_
  · rw [results_cell1 rfl]
    simp [go_sem, y0, y1, y2]
  · rw [HE.out]
    refine ⟨a, c, _, ?_, ?_, HX6.out, HS6.out, ?_⟩
    · show _ = Ending.returned (.agg #[.int .i64 er, .int .i64 an, .slice a O.length c])
      rw [← HON.out]
    · show RowB w.heap.size _ (.slice a O.length c) O
      rw [← HON.out]
      exact (RowM.kpo RW.out KR6.out (fun b hb e => by have h1 := (RowM.lt RW.out hb).1; have h2 := LWW.out; have e2 : b = w.heap.size + 1 := e; omega)).low (by have h2 := LWW.out; omega)
    · show ∀ b, (Value.slice a O.length c).ownBlock = some b → _
      rw [← HON.out]
      exact OB.out
set_option maxRecDepth 100000 in
set_option maxHeartbeats 4000000 in
theorem do_load (own : Nat → Int) (w : World) (p : Nat) (X : Pls) (N : Nat) (h : PX own w p X) (hw : X.Wf N) (hN : N ≤ 30000) (cl k : Int) (nm : ByteArray) (lv hd : Int) (ad : Option Addr) (cd : Nat) (ld : List UInt8) (hl : SlR w 1 (.slice ad ld.length cd) ld.length (ld.map u8c)) (hlo : ∀ b, (Value.slice ad ld.length cd).ownBlock = some b → own b = 0) (hnm : nm.size ≤ 9223372036854775807) (hll : ld.length ≤ 100000) (hc : 0 ≤ cl ∧ cl < 4) (hk : k = 6) : Calls Tryz.prog 15 #[.pointer (some ⟨p, 0, none⟩), .int .i64 cl, .agg #[.int .i64 k, .string nm, .int .i64 lv, .int .i64 hd, (.slice ad ld.length cd)]] w (AnsP own w p (X.load cl ⟨k, nm, lv, hd, ld⟩)) := by
  have h' := h
  obtain ⟨pu, sh, ms, ml, L, h⟩ := h
  obtain ⟨W, hW, hkW, hb, hr⟩ := frame2 w k nm lv hd (.slice ad ld.length cd)
  have HO1 := Lib.hid (h.new (Nat.le_succ w.heap.size))
  have HR := Lib.hid hr
  have HK := Lib.hid hkW
  have LWW := Lib.hid (lt_of_at hr)
  have b0 : W.cell? ⟨w.heap.size, 0, none⟩ = some (.int .i64 k) := by rw [cell_of hb]; rfl
  have b1 : W.cell? ⟨w.heap.size, 1, none⟩ = some (.string nm) := by rw [cell_of hb]; rfl
  have b2 : W.cell? ⟨w.heap.size, 2, none⟩ = some (.int .i64 lv) := by rw [cell_of hb]; rfl
  have b3 : W.cell? ⟨w.heap.size, 3, none⟩ = some (.int .i64 hd) := by rw [cell_of hb]; rfl
  have b4 : W.cell? ⟨w.heap.size, 4, none⟩ = some (.slice ad ld.length cd) := by rw [cell_of hb]; rfl
  have CC := Lib.hid (load_p own W p X N (h'.kp0 (hkW.mono (fun _ _ q => q.elim))) hw hN cl k nm lv hd ad cd ld (hl.kp hkW (fun _ _ q => q)) hlo hnm hll)
  unfold AnsP at CC
  obtain ⟨r, hr0⟩ : ∃ r, r = X.load cl ⟨k, nm, lv, hd, ld⟩ := ⟨_, rfl⟩
  have HE := Lib.hid hr0.symm
  rw [← hr0] at CC
  obtain ⟨X1, er, an, O⟩ := r
  obtain ⟨on, hon⟩ : ∃ on, on = O.length := ⟨_, rfl⟩
  have HON := Lib.hid hon
  simp only at CC
  rw [← hon] at CC
  have h0 : ¬ cl < 0 := by omega
  have h4 : ¬ 4 ≤ cl := by omega
  have q1 : (k == 1) = false := by simp; omega
  have q2 : (k == 2) = false := by simp; omega
  have q3 : (k == 3) = false := by simp; omega
  have q4 : (k == 4) = false := by simp; omega
  have q5 : (k == 5) = false := by simp; omega
  have q6 : (k == 6) = true := by simpa using hk
  clear h h' hb hr hkW hw hl hlo hnm hN hll hr0 hon hc hk
  go_enter Tryz.func15, Tryz.ntmps15
  go_wp2_with fail
  rw [← hW]
  clear hW
  go_wp2_with fail
  refine CC.out.mono ?_
  rintro e V ⟨a, c, own1, rfl, g1, g2, g3, g4⟩
  have RW := Lib.hid g1
  have HXV := Lib.hid g2
  have HSV := Lib.hid g3
  have OB := Lib.hid g4
  clear g1 g2 g3 g4 CC
  obtain ⟨hVa, h6, hX6, hS6, kr6⟩ := ans_fin HK.out HR.out (Nat.le_succ _) HO1.out HXV.out HSV.out (er) (an) (.slice a on c)
  have f0 : ∀ i, V.frozen? ⟨w.heap.size + 1, i, none⟩ = false := free_of hVa
  have c0 : V.cell? ⟨w.heap.size + 1, 0, none⟩ = some (.int .i64 0) := by rw [cell_of hVa]; rfl
  have c1 : V.cell? ⟨w.heap.size + 1, 1, none⟩ = some (.int .i64 0) := by rw [cell_of hVa]; rfl
  have c2 : V.cell? ⟨w.heap.size + 1, 2, none⟩ = some (.slice none 0 0) := by rw [cell_of hVa]; rfl
  have H6 := Lib.hid h6
  have HX6 := Lib.hid hX6
  have HS6 := Lib.hid hS6
  have KR6 := Lib.hid kr6
  clear hVa h6 hX6 hS6 kr6
  go_wp2_with fail
  have y0 := cell_of H6.out 0
  have y1 := cell_of H6.out 1
  have y2 := cell_of H6.out 2
  refine bodyPost_ret (v := .agg #[.int .i64 (er), .int .i64 (an), .slice a on c]) ?_ rfl ?_
  · rw [results_cell1 rfl]
    simp [go_sem, y0, y1, y2]
  · rw [HE.out]
    refine ⟨a, c, _, ?_, ?_, HX6.out, HS6.out, ?_⟩
    · show _ = Ending.returned (.agg #[.int .i64 er, .int .i64 an, .slice a O.length c])
      rw [← HON.out]
    · show RowB w.heap.size _ (.slice a O.length c) O
      rw [← HON.out]
      exact (RowM.kpo RW.out KR6.out (fun b hb e => by have h1 := (RowM.lt RW.out hb).1; have h2 := LWW.out; have e2 : b = w.heap.size + 1 := e; omega)).low (by have h2 := LWW.out; omega)
    · show ∀ b, (Value.slice a O.length c).ownBlock = some b → _
      rw [← HON.out]
      exact OB.out
set_option maxRecDepth 100000 in
set_option maxHeartbeats 4000000 in
theorem do_retire (own : Nat → Int) (w : World) (p : Nat) (X : Pls) (N : Nat) (h : PX own w p X) (hw : X.Wf N) (hN : N ≤ 30000) (cl k : Int) (nm : ByteArray) (lv hd : Int) (ad : Option Addr) (cd : Nat) (ld : List UInt8) (hl : SlR w 1 (.slice ad ld.length cd) ld.length (ld.map u8c)) (hlo : ∀ b, (Value.slice ad ld.length cd).ownBlock = some b → own b = 0) (hnm : nm.size ≤ 9223372036854775807) (hll : ld.length ≤ 100000) (hc : 0 ≤ cl ∧ cl < 4) (hk : k = 7) : Calls Tryz.prog 15 #[.pointer (some ⟨p, 0, none⟩), .int .i64 cl, .agg #[.int .i64 k, .string nm, .int .i64 lv, .int .i64 hd, (.slice ad ld.length cd)]] w (AnsP own w p (X.retire ⟨k, nm, lv, hd, ld⟩)) := by
  have h' := h
  obtain ⟨pu, sh, ms, ml, L, h⟩ := h
  obtain ⟨W, hW, hkW, hb, hr⟩ := frame2 w k nm lv hd (.slice ad ld.length cd)
  have HO1 := Lib.hid (h.new (Nat.le_succ w.heap.size))
  have HR := Lib.hid hr
  have HK := Lib.hid hkW
  have LWW := Lib.hid (lt_of_at hr)
  have b0 : W.cell? ⟨w.heap.size, 0, none⟩ = some (.int .i64 k) := by rw [cell_of hb]; rfl
  have b1 : W.cell? ⟨w.heap.size, 1, none⟩ = some (.string nm) := by rw [cell_of hb]; rfl
  have b2 : W.cell? ⟨w.heap.size, 2, none⟩ = some (.int .i64 lv) := by rw [cell_of hb]; rfl
  have b3 : W.cell? ⟨w.heap.size, 3, none⟩ = some (.int .i64 hd) := by rw [cell_of hb]; rfl
  have b4 : W.cell? ⟨w.heap.size, 4, none⟩ = some (.slice ad ld.length cd) := by rw [cell_of hb]; rfl
  have CC := Lib.hid (show Calls Tryz.prog 34 #[.pointer (some ⟨p, 0, none⟩), .agg #[.int .i64 k, .string nm, .int .i64 lv, .int .i64 hd, (.slice ad ld.length cd)]] W (AnsP own W p (X.retire ⟨k, nm, lv, hd, ld⟩)) from retire_p own W p X N (h'.kp0 (hkW.mono (fun _ _ q => q.elim))) hw hN k nm lv hd _)
  unfold AnsP at CC
  obtain ⟨r, hr0⟩ : ∃ r, r = X.retire ⟨k, nm, lv, hd, ld⟩ := ⟨_, rfl⟩
  have HE := Lib.hid hr0.symm
  rw [← hr0] at CC
  obtain ⟨X1, er, an, O⟩ := r
  obtain ⟨on, hon⟩ : ∃ on, on = O.length := ⟨_, rfl⟩
  have HON := Lib.hid hon
  simp only at CC
  rw [← hon] at CC
  have h0 : ¬ cl < 0 := by omega
  have h4 : ¬ 4 ≤ cl := by omega
  have q1 : (k == 1) = false := by simp; omega
  have q2 : (k == 2) = false := by simp; omega
  have q3 : (k == 3) = false := by simp; omega
  have q4 : (k == 4) = false := by simp; omega
  have q5 : (k == 5) = false := by simp; omega
  have q6 : (k == 6) = false := by simp; omega
  have q7 : (k == 7) = true := by simpa using hk
  clear h h' hb hr hkW hw hl hlo hnm hN hll hr0 hon hc hk
  go_enter Tryz.func15, Tryz.ntmps15
  go_wp2_with fail
  rw [← hW]
  clear hW
  go_wp2_with fail
  refine CC.out.mono ?_
  rintro e V ⟨a, c, own1, rfl, g1, g2, g3, g4⟩
  have RW := Lib.hid g1
  have HXV := Lib.hid g2
  have HSV := Lib.hid g3
  have OB := Lib.hid g4
  clear g1 g2 g3 g4 CC
  obtain ⟨hVa, h6, hX6, hS6, kr6⟩ := ans_fin HK.out HR.out (Nat.le_succ _) HO1.out HXV.out HSV.out (er) (an) (.slice a on c)
  have f0 : ∀ i, V.frozen? ⟨w.heap.size + 1, i, none⟩ = false := free_of hVa
  have c0 : V.cell? ⟨w.heap.size + 1, 0, none⟩ = some (.int .i64 0) := by rw [cell_of hVa]; rfl
  have c1 : V.cell? ⟨w.heap.size + 1, 1, none⟩ = some (.int .i64 0) := by rw [cell_of hVa]; rfl
  have c2 : V.cell? ⟨w.heap.size + 1, 2, none⟩ = some (.slice none 0 0) := by rw [cell_of hVa]; rfl
  have H6 := Lib.hid h6
  have HX6 := Lib.hid hX6
  have HS6 := Lib.hid hS6
  have KR6 := Lib.hid kr6
  clear hVa h6 hX6 hS6 kr6
  go_wp2_with fail
  have y0 := cell_of H6.out 0
  have y1 := cell_of H6.out 1
  have y2 := cell_of H6.out 2
  refine bodyPost_ret (v := .agg #[.int .i64 (er), .int .i64 (an), .slice a on c]) ?_ rfl ?_
  · rw [results_cell1 rfl]
    simp [go_sem, y0, y1, y2]
  · rw [HE.out]
    refine ⟨a, c, _, ?_, ?_, HX6.out, HS6.out, ?_⟩
    · show _ = Ending.returned (.agg #[.int .i64 er, .int .i64 an, .slice a O.length c])
      rw [← HON.out]
    · show RowB w.heap.size _ (.slice a O.length c) O
      rw [← HON.out]
      exact (RowM.kpo RW.out KR6.out (fun b hb e => by have h1 := (RowM.lt RW.out hb).1; have h2 := LWW.out; have e2 : b = w.heap.size + 1 := e; omega)).low (by have h2 := LWW.out; omega)
    · show ∀ b, (Value.slice a O.length c).ownBlock = some b → _
      rw [← HON.out]
      exact OB.out
theorem do_p (own : Nat → Int) (w : World) (p : Nat) (X : Pls) (N : Nat) (h : PX own w p X) (hw : X.Wf N) (hN : N ≤ 30000) (cl k : Int) (nm : ByteArray) (lv hd : Int) (ad : Option Addr) (cd : Nat) (ld : List UInt8) (hl : SlR w 1 (.slice ad ld.length cd) ld.length (ld.map u8c)) (hlo : ∀ b, (Value.slice ad ld.length cd).ownBlock = some b → own b = 0) (hnm : nm.size ≤ 9223372036854775807) (hll : ld.length ≤ 100000) : Calls Tryz.prog 15 #[.pointer (some ⟨p, 0, none⟩), .int .i64 cl, .agg #[.int .i64 k, .string nm, .int .i64 lv, .int .i64 hd, (.slice ad ld.length cd)]] w (AnsP own w p (X.act cl ⟨k, nm, lv, hd, ld⟩)) := by
  unfold Pls.act
  simp only
  by_cases hb : cl < 0 ∨ 4 ≤ cl
  · rw [if_pos hb]; exact do_bad own w p X N h hw hN cl k nm lv hd ad cd ld hl hlo hnm hll hb
  · rw [if_neg hb]
    have hc : 0 ≤ cl ∧ cl < 4 := by omega
    by_cases k1 : k = 1
    · rw [if_pos k1]; exact do_open own w p X N h hw hN cl k nm lv hd ad cd ld hl hlo hnm hll hc k1
    · rw [if_neg k1]
      by_cases ks : 2 ≤ k ∧ k ≤ 5
      · rw [if_pos ks]
        have : k = 2 ∨ k = 3 ∨ k = 4 ∨ k = 5 := by omega
        rcases this with q | q | q | q
        · exact do_ses2 own w p X N h hw hN cl k nm lv hd ad cd ld hl hlo hnm hll hc q
        · exact do_ses3 own w p X N h hw hN cl k nm lv hd ad cd ld hl hlo hnm hll hc q
        · exact do_ses4 own w p X N h hw hN cl k nm lv hd ad cd ld hl hlo hnm hll hc q
        · exact do_ses5 own w p X N h hw hN cl k nm lv hd ad cd ld hl hlo hnm hll hc q
      · rw [if_neg ks]
        by_cases k6 : k = 6
        · rw [if_pos k6]; exact do_load own w p X N h hw hN cl k nm lv hd ad cd ld hl hlo hnm hll hc k6
        · rw [if_neg k6]
          by_cases k7 : k = 7
          · rw [if_pos k7]; exact do_retire own w p X N h hw hN cl k nm lv hd ad cd ld hl hlo hnm hll hc k7
          · rw [if_neg k7]; exact do_other own w p X N h hw hN cl k nm lv hd ad cd ld hl hlo hnm hll hc (by omega)
end Go.Proofs.YtmioiaeiflbmhaaGreat.Pl
set_option linter.unusedVariables false
namespace Go.Proofs.YtmioiaeiflbmhaaGreat.Pl
open Go Go.RowKit Go.ChangeMaps Go.MapKept Go.Mg Go.Proofs.YtmioiaeiflbmhaaGreat.No Go.Proofs.YtmioiaeiflbmhaaGreat.Sh Go.Proofs.YtmioiaeiflbmhaaGreat.Str Go.Proofs.YtmioiaeiflbmhaaGreat.Bk Go.Proofs.YtmioiaeiflbmhaaGreat.Ma
structure PlL (G : Nat → Prop) (w0 w : World) (p : Nat) (X : Pls) : Prop where
  ex : ∃ own, PX own w p X ∧ ∀ k, own k ≠ 0 → w0.heap.size ≤ k ∧ ¬ G k
  lt : ∀ k, G k → k < w.heap.size
  kp : Kp (fun _ => False) w0 w
theorem PlL.kp0 {G : Nat → Prop} {w0 w w' : World} {p : Nat} {X : Pls} (h : PlL G w0 w p X) (hk : Kp (fun _ => False) w w') : PlL G w0 w' p X := by
  obtain ⟨own, h1, h2⟩ := h.ex
  exact ⟨⟨own, h1.kp0 (hk.mono (fun _ _ q => q.elim)), h2⟩, fun k q => Nat.lt_of_lt_of_le (h.lt k q) hk.size, h.kp.trans hk⟩
theorem PlL.since {G : Nat → Prop} {w0 w w' : World} {p : Nat} {X : Pls} (h : PlL G w0 w p X) (hk : Kp (fun _ => False) w w') : PlL (fun k => G k ∨ (w.heap.size ≤ k ∧ k < w'.heap.size)) w0 w' p X := by
  obtain ⟨own, ⟨pu, sh, ms, ml, L, h1⟩, h2⟩ := h.ex
  refine ⟨⟨own, ⟨pu, sh, ms, ml, L, h1.kp0 (hk.mono (fun _ _ q => q.elim))⟩, fun k q => ⟨(h2 k q).1, fun z => ?_⟩⟩, fun k q => ?_, h.kp.trans hk⟩
  · rcases z with z | z
    · exact (h2 k q).2 z
    · exact q (h1.new z.1)
  · rcases q with q | q
    · exact Nat.lt_of_lt_of_le (h.lt k q) hk.size
    · exact q.2
theorem PlL.less {G G' : Nat → Prop} {w0 w : World} {p : Nat} {X : Pls} (h : PlL G w0 w p X) (hG : ∀ k, G' k → G k) : PlL G' w0 w p X := by
  obtain ⟨own, h1, h2⟩ := h.ex
  exact ⟨⟨own, h1, fun k q => ⟨(h2 k q).1, fun z => (h2 k q).2 (hG k z)⟩⟩, fun k q => h.lt k (hG k q), h.kp⟩
def DoL (G : Nat → Prop) (w0 w : World) (p : Nat) (r : Pls × An) (e : Ending) (w' : World) : Prop := ∃ (a : Option Addr) (c : Nat), e = .returned (.agg #[.int .i64 r.2.err, .int .i64 r.2.n, .slice a r.2.out.length c]) ∧
  RowB w.heap.size w' (.slice a r.2.out.length c) r.2.out ∧ PlL (fun k => G k ∨ (Value.slice a r.2.out.length c).ownBlock = some k) w0 w' p r.1 ∧ Kp (fun k => w0.heap.size ≤ k ∧ ¬ G k) w w'
theorem do_l {G : Nat → Prop} {w0 w : World} {p : Nat} {X : Pls} (h : PlL G w0 w p X) {N : Nat} (hw : X.Wf N) (hN : N ≤ 30000) (cl k : Int) (nm : ByteArray) (lv hd : Int) (ad : Option Addr) (cd : Nat) (ld : List UInt8)
    (hl : SlR w 1 (.slice ad ld.length cd) ld.length (ld.map u8c)) (hG : ∀ b, (Value.slice ad ld.length cd).ownBlock = some b → G b ∨ b < w0.heap.size) (hnm : nm.size ≤ 9223372036854775807) (hll : ld.length ≤ 100000) :
    Calls Tryz.prog 15 #[.pointer (some ⟨p, 0, none⟩), .int .i64 cl, .agg #[.int .i64 k, .string nm, .int .i64 lv, .int .i64 hd, (.slice ad ld.length cd)]] w (DoL G w0 w p (X.act cl ⟨k, nm, lv, hd, ld⟩)) := by
  obtain ⟨own, h1, h2⟩ := h.ex
  have hlo : ∀ b, (Value.slice ad ld.length cd).ownBlock = some b → own b = 0 := fun b hb => by
    by_cases e : own b = 0
    · exact e
    · obtain ⟨e1, e2⟩ := h2 b e
      rcases hG b hb with q | q
      · exact absurd q e2
      · omega
  refine (do_p own w p X N h1 hw hN cl k nm lv hd ad cd ld hl hlo hnm hll).mono ?_
  rintro e w' ⟨a, c, own', rfl, g1, g2, g3, g4⟩
  have hs := h.kp.size
  refine ⟨a, c, rfl, g1, ⟨⟨own', g2, fun k q => ?_⟩, fun k q => ?_, ?_⟩, g3.k.mono (fun k _ q => h2 k q)⟩
  · by_cases hk : k < w.heap.size
    · rw [g3.o k hk] at q
      refine ⟨(h2 k q).1, fun z => ?_⟩
      rcases z with z | z
      · exact (h2 k q).2 z
      · have := (RowM.lt g1 z).1; omega
    · refine ⟨by omega, fun z => ?_⟩
      rcases z with z | z
      · exact hk (h.lt k z)
      · exact q (g4 k z)
  · rcases q with q | q
    · exact Nat.lt_of_lt_of_le (h.lt k q) g3.k.size
    · exact (RowM.lt g1 q).2
  · exact h.kp.trans2 g3.k (fun i hi q => by have := (h2 i q).1; omega)
section
variable {G : Nat → Prop} {w0 w : World} {p : Nat} {X : Pls}
theorem used_l (h : PlL G w0 w p X) (ho : X.P.Ok) : Calls Tryz.prog 18 #[.pointer (some ⟨p, 0, none⟩)] w fun e w' => e = .returned (.int .i64 (X.P.used : Nat)) ∧ w' = w := by
  obtain ⟨own, ⟨pu, sh, ms, ml, L, h⟩, _⟩ := h.ex
  have d0 := h.cells.1
  have C1 := Lib.hid (used_p h.hpu ho)
  clear h ho
  go_enter Tryz.func18, Tryz.ntmps18
  go_wp2_with fail
  refine C1.out.mono ?_
  rintro e w1 ⟨rfl, rfl⟩
  go_wp2_with fail
  go_ret
  exact ⟨rfl, rfl⟩
theorem of_l (h : PlL G w0 w p X) (c : Int) : Calls Tryz.prog 23 #[.pointer (some ⟨p, 0, none⟩), .int .i64 c] w fun e w' => e = .returned (.int .i64 (X.P.of c : Nat)) ∧ w' = w := by
  obtain ⟨own, ⟨pu, sh, ms, ml, L, h⟩, _⟩ := h.ex
  have d0 := h.cells.1
  have C1 := Lib.hid (of_p h.hpu c)
  clear h
  go_enter Tryz.func23, Tryz.ntmps23
  go_wp2_with fail
  refine C1.out.mono ?_
  rintro e w1 ⟨rfl, rfl⟩
  go_wp2_with fail
  go_ret
  exact ⟨rfl, rfl⟩
theorem refs_l (h : PlL G w0 w p X) (id : Int) : Calls Tryz.prog 24 #[.pointer (some ⟨p, 0, none⟩), .int .i64 id] w fun e w' => e = .returned (.int .i64 (X.S.refs id)) ∧ w' = w := by
  obtain ⟨own, ⟨pu, sh, ms, ml, L, h⟩, _⟩ := h.ex
  have d0 := h.cells.2.1
  have C1 := Lib.hid (refs_any X.S id w h.hsh)
  clear h
  go_enter Tryz.func24, Tryz.ntmps24
  go_wp2_with fail
  refine C1.out.mono ?_
  rintro e w1 ⟨rfl, rfl⟩
  go_wp2_with fail
  go_ret
  exact ⟨rfl, rfl⟩
theorem sess_l (h : PlL G w0 w p X) : Calls Tryz.prog 21 #[.pointer (some ⟨p, 0, none⟩)] w fun e w' => e = .returned (.int .i64 (X.L.length : Nat)) ∧ w' = w := by
  obtain ⟨own, ⟨pu, sh, ms, ml, L, h⟩, _⟩ := h.ex
  have d0 := h.cells.2.2.1
  have hlen := fun ty => h.hms.len (P := Tryz.prog) Tryz.underlying63 ty
  have HE : Hid (X.L.length = L.length) := Lib.hid (by rw [h.abs]; unfold absL; rw [List.length_map])
  clear h
  go_enter Tryz.func21, Tryz.ntmps21
  go_wp2_with fail
  go_ret
  exact ⟨by rw [HE.out]; rfl, rfl⟩
end
open Classical in
noncomputable def own0 (p pu ms ml : Nat) (F : Nat → Prop) : Nat → Int := fun k => if k = p then -1 else if k = pu then -2 else if k = ms then -3 else if k = ml then -4 else if F k then -5 else 0
set_option maxRecDepth 100000 in
set_option maxHeartbeats 2000000 in
theorem new_l {w0 w : World} (hk0 : Kp (fun _ => False) w0 w) (all each : Int) : Calls Tryz.prog 13 #[.int .i64 all, .int .i64 each] w fun e w' => ∃ p, e = .returned (.pointer (some ⟨p, 0, none⟩)) ∧ PlL (fun _ => False) w0 w' p (pl0 all each) := by
  have C1 := Lib.hid (purse_p all each w)
  have hmm := @run_makeMap Tryz.prog
  have HK0 := Lib.hid hk0
  clear hk0
  go_enter Tryz.func13, Tryz.ntmps13
  go_wp2_with fail
  refine C1.out.mono ?_
  rintro e w1 ⟨rfl, h1, k1⟩
  have H1 := Lib.hid h1
  have K1 := Lib.hid k1
  clear h1 k1 C1
  go_wp2_with fail
  refine (new_any w1).mono ?_
  rintro e w2 ⟨sh, rfl, h2, k2⟩
  have H2 := Lib.hid h2
  have K2 := Lib.hid k2
  clear h2 k2
  go_wp2_with fail
  go_ret
  have s1 := K1.out.size
  have s1' : w.heap.size < w1.heap.size := lt_of_at H1.out
  have s2 := K2.out.size
  obtain ⟨w3, hw3⟩ : ∃ w3, w3 = w2.alloc (.map #[] 0) := ⟨_, rfl⟩
  have z3 : w3.heap.size = w2.heap.size + 1 := by rw [hw3]; simp
  obtain ⟨w4, hw4⟩ : ∃ w4, w4 = w3.alloc (.map #[] 0) := ⟨_, rfl⟩
  have z4 : w4.heap.size = w2.heap.size + 2 := by rw [hw4, World.size_alloc, z3]
  obtain ⟨w5, hw5⟩ : ∃ w5, w5 = w4.alloc (.cells #[.pointer (some ⟨w.heap.size, 0, none⟩), .pointer (some ⟨sh, 0, none⟩), .map (some w2.heap.size), .map (some (w2.heap.size + 1)), .int .i64 0] 66) := ⟨_, rfl⟩
  have z5 : w5.heap.size = w2.heap.size + 3 := by rw [hw5, World.size_alloc, z4]
  have k23 : Kp (fun _ => False) w2 w3 := by rw [hw3]; exact kp_new
  have k34 : Kp (fun _ => False) w3 w4 := by rw [hw4]; exact kp_new
  have k45 : Kp (fun _ => False) w4 w5 := by rw [hw5]; exact kp_new
  have k25 := (k23.trans k34).trans k45
  have hF : ∀ k, k = w2.heap.size + 2 ∨ k = w.heap.size ∨ k = w2.heap.size ∨ k = w2.heap.size + 1 → ¬ (w1.heap.size ≤ k ∧ k < w2.heap.size) := fun k q => by omega
  have e5 : ∀ k, (w1.heap.size ≤ k ∧ k < w2.heap.size) → own0 (w2.heap.size + 2) w.heap.size w2.heap.size (w2.heap.size + 1) (fun k => w1.heap.size ≤ k ∧ k < w2.heap.size) k = -5 := fun k q => by
    unfold own0
    rw [if_neg (by omega), if_neg (by omega), if_neg (by omega), if_neg (by omega), if_pos q]
  have hle : w.heap.size ≤ w2.heap.size := Nat.le_trans s1 s2
  have hlt : ∀ k, own0 (w2.heap.size + 2) w.heap.size w2.heap.size (w2.heap.size + 1) (fun k => w1.heap.size ≤ k ∧ k < w2.heap.size) k ≠ 0 → w.heap.size ≤ k ∧ k < w2.heap.size + 3 := fun k q => by
    unfold own0 at q
    split at q
    · omega
    · split at q
      · omega
      · split at q
        · omega
        · split at q
          · omega
          · split at q
            · rename_i z; omega
            · exact absurd rfl q
  refine ⟨w2.heap.size + 2, ?_, ⟨own0 (w2.heap.size + 2) w.heap.size w2.heap.size (w2.heap.size + 1) (fun k => w1.heap.size ≤ k ∧ k < w2.heap.size), ⟨w.heap.size, sh, w2.heap.size, w2.heap.size + 1, [], ?_⟩, fun k q => ⟨by have := (hlt k q).1; have := HK0.out.size; omega, fun z => z⟩⟩, fun k q => q.elim, ?_⟩
  · first | rfl | (simp) | (simp; omega)
  · have hp5 : w5.heap[w2.heap.size + 2]? = some (.cells #[.pointer (some ⟨w.heap.size, 0, none⟩), .pointer (some ⟨sh, 0, none⟩), .map (some w2.heap.size), .map (some (w2.heap.size + 1)), .int .i64 0] 66 (0, 0)) := by
      have := alloc_at w4 (.cells #[.pointer (some ⟨w.heap.size, 0, none⟩), .pointer (some ⟨sh, 0, none⟩), .map (some w2.heap.size), .map (some (w2.heap.size + 1)), .int .i64 0] 66)
      rw [z4, ← hw5] at this
      exact this
    have goal : PlRaw (own0 (w2.heap.size + 2) w.heap.size w2.heap.size (w2.heap.size + 1) (fun k => w1.heap.size ≤ k ∧ k < w2.heap.size)) w5 (w2.heap.size + 2) w.heap.size sh w2.heap.size (w2.heap.size + 1) (pl0 all each) [] := by
      refine ⟨hp5, (H1.out.kp K2.out (fun q => q)).kp k25 (fun q => q), ?_, ?_, ?_, rfl, (fun q hq => by cases hq), ?_, ?_, ?_, ?_, fun k q => by have := (hlt k q).2; omega⟩
      · exact shelf_more (H2.out.kp k25 (fun _ _ q => q)) (fun k q => e5 k ⟨q.1, H2.out.fin k q⟩) (fun k q => by have := (hlt k (by rw [q]; decide)).2; omega)
      · have := (MapAt.made w2 (.int .i64) (Value.int .i64) sev).kp (w' := w5) (by rw [← hw3]; exact k34.trans k45) (fun q => q)
        exact this
      · have := (MapAt.made w3 (.int .i64) (Value.int .i64) lov).kp (w' := w5) (by rw [← hw4]; exact k45) (fun q => q)
        rw [z3] at this
        exact this
      · unfold own0; rw [if_pos rfl]
      · unfold own0; rw [if_neg (by omega), if_pos rfl]
      · unfold own0; rw [if_neg (by omega), if_neg (by omega), if_pos rfl]
      · unfold own0; rw [if_neg (by omega), if_neg (by omega), if_neg (by omega), if_pos rfl]
    rw [hw5, hw4, hw3] at goal
    exact goal
  · have := ((HK0.out.trans K1.out).trans K2.out).trans k25
    rw [hw5, hw4, hw3] at this
    exact this
end Go.Proofs.YtmioiaeiflbmhaaGreat.Pl
