/- One act on both Shelves. -/
import Derived.Test.YtnjkchbombjemaaActs
import Derived.BigQuiet
import Derived.Deep.QuietTactic
import Derived.Deep.RegionLaw
namespace Go.Proofs.Ytnjkchbombjemaa.Rf
open Go Go.RowKit Go.ChangeMaps Go.MapKept Go.Mg Go.Proofs.Ytnjkchbombjemaa.Sh Go.Proofs.Ytnjkchbombjemaa.Op
variable {w0 w : World} {s : Nat} {S : Shs} {x : Nat} {last : Int} {R : List It}
def sAct (S : Shs) (y : Ac) : Shs := if y.kind = 1 then (S.load y.nm y.data).1 else if y.kind = 2 then (S.retire y.nm).1 else if y.kind = 3 then (S.pin y.nm).1 else (S.unpin y.id).1
/-- What bounds the document's Shelf after k acts. -/
structure Bd (k : Nat) (last : Int) (R : List It) : Prop where
  l0 : 0 ≤ last
  l1 : last ≤ k
  len : R.length ≤ k
  it : ∀ y, y ∈ R → 0 ≤ y.refs ∧ y.refs ≤ k ∧ y.data.length ≤ 2000
def StepPost (w0 : World) (s : Nat) (S : Shs) (x : Nat) (last : Int) (R : List It) (k : Nat) (y : Ac) (e : Ending) (w' : World) : Prop :=
  ∃ b last' R', e = .returned (.bool b) ∧ Two w0 w' s (sAct S y) x last' R' ∧ Bd (k + 1) last' R' ∧ (Rel S last R → b = true ∧ Rel (sAct S y) last' R')
theorem far_data {F : Nat → Prop} {v : Value} (hF : ∀ i, F i → w0.heap.size ≤ i) (hv : ∀ b, v.ownBlock = some b → b < w0.heap.size) : ∀ b, v.ownBlock = some b → ¬ F b := fun b hb hf => by
  have := hF b hf; have := hv b hb; omega
structure Both (F G : Nat → Prop) (w0 w : World) (s : Nat) (S : Shs) (x : Nat) (last : Int) (R : List It) : Prop where
  sh : ShelfAt F w s S
  rf : RefAt G w x last R
  dj : ∀ i, F i → ¬ G i
  lf : ∀ i, F i → w0.heap.size ≤ i
  lg : ∀ i, G i → w0.heap.size ≤ i
  kp : Kp (fun _ => False) w0 w
  ok : S.Ok
theorem Two.both (h : Two w0 w s S x last R) : ∃ F G, Both F G w0 w s S x last R := by
  obtain ⟨F, G, h1, h2, h3, h4, h5⟩ := h.at_
  exact ⟨F, G, h1, h2, h3, h4, h5, h.kp, h.ok⟩
theorem Both.two {F G : Nat → Prop} (h : Both F G w0 w s S x last R) : Two w0 w s S x last R := ⟨⟨F, G, h.sh, h.rf, h.dj, h.lf, h.lg⟩, h.kp, h.ok⟩
theorem Both.new {F G : Nat → Prop} {w' : World} (h : Both F G w0 w s S x last R) (hk : Kp (fun _ => False) w w') : Both F G w0 w' s S x last R :=
  ⟨h.sh.kp hk (fun _ _ q => q), h.rf.kp hk (fun _ _ q => q), h.dj, h.lf, h.lg, h.kp.trans hk, h.ok⟩
theorem Both.ofS {F G F' : Nat → Prop} {w' : World} {S' : Shs} (h : Both F G w0 w s S x last R) (g1 : ShelfAt F' w' s S') (g2 : Kp F w w') (g3 : ∀ i, F' i → F i ∨ w.heap.size ≤ i) (g4 : S'.Ok) : Both F' G w0 w' s S' x last R := by
  refine ⟨g1, h.rf.kp g2 (fun i hi q => h.dj i q hi), fun i hi q => ?_, fun i hi => ?_, h.lg, h.kp.trans2 g2 (fun i hi q => by have := h.lf i q; omega), g4⟩
  · rcases g3 i hi with e | e
    · exact h.dj i e q
    · have := h.rf.fin i q; omega
  · rcases g3 i hi with e | e
    · exact h.lf i e
    · have := h.kp.size; omega
theorem Both.ofR {F G G' : Nat → Prop} {w' : World} {last' : Int} {R' : List It} (h : Both F G w0 w s S x last R) (g1 : RefAt G' w' x last' R') (g2 : Kp G w w') (g3 : ∀ i, G' i → G i ∨ w.heap.size ≤ i) : Both F G' w0 w' s S x last' R' := by
  refine ⟨h.sh.kp g2 (fun i hi q => h.dj i hi q), g1, fun i hi q => ?_, h.lf, fun i hi => ?_, h.kp.trans2 g2 (fun i hi q => by have := h.lg i q; omega), h.ok⟩
  · rcases g3 i q with e | e
    · exact h.dj i hi e
    · have := h.sh.fin i hi; omega
  · rcases g3 i hi with e | e
    · exact h.lg i e
    · have := h.kp.size; omega
theorem rload_len {n : ByteArray} {l : List UInt8} (hi : isS n l ≠ 0) : S.load n l = (S, 0, 0, isS n l) := by unfold Shs.load; rw [if_neg hi]
theorem Bd.retire {k : Nat} (h : Bd k last R) (n : ByteArray) : Bd k last (rRetire R n).1 := by
  have hd : ∀ (R : List It) (j : Nat) (y : It), R.length ≤ k → (∀ y, y ∈ R → 0 ≤ y.refs ∧ y.refs ≤ k ∧ y.data.length ≤ 2000) → (rDrop R j y).1.length ≤ k ∧ ∀ z, z ∈ (rDrop R j y).1 → 0 ≤ z.refs ∧ z.refs ≤ k ∧ z.data.length ≤ 2000 := by
    intro R j y h1 h2
    unfold rDrop
    split
    · exact ⟨h1, h2⟩
    · have hs : (R.eraseIdx j).Sublist R := List.eraseIdx_sublist R j
      exact ⟨Nat.le_trans hs.length_le h1, fun z hz => h2 z (hs.subset hz)⟩
  unfold rRetire
  split
  · exact h
  · split
    · exact h
    · rename_i y hy
      obtain ⟨h1, h2⟩ := hd (R.set (ix (isCur n) R).toNat { y with cur := false }) (ix (isCur n) R).toNat { y with cur := false } (by rw [List.length_set]; exact h.len) (fun z hz => by
        rcases List.mem_or_eq_of_mem_set hz with q | rfl
        · exact h.it z q
        · exact h.it y (List.mem_of_getElem? hy))
      exact ⟨h.l0, h.l1, h1, h2⟩
theorem Bd.up {k : Nat} (h : Bd k last R) : Bd (k + 1) last R := ⟨h.l0, by have := h.l1; omega, by have := h.len; omega, fun y hy => by have := h.it y hy; omega⟩
theorem Bd.load {k : Nat} (h : Bd k last R) {n : ByteArray} {l : List UInt8} (hi : isS n l = 0) (da : Option Addr) (dc : Nat) : Bd (k + 1) (last + 1) ((rRetire R n).1 ++ [⟨last + 1, n, l.drop 4, true, 0, da, dc⟩]) := by
  have h1 := h.retire n
  have hl := len_of_is hi
  refine ⟨by have := h.l0; omega, by have := h.l1; omega, by have := h1.len; simp; omega, fun y hy => ?_⟩
  rcases List.mem_append.1 hy with q | q
  · have := h1.it y q; omega
  · rw [List.mem_singleton] at q; subst q
    exact ⟨Int.le_refl _, by show (0 : Int) ≤ _; omega, by simp; omega⟩
theorem far_new {F : Nat → Prop} {W : World} {v : Value} (h : ShelfAt F W s S) (h2 : v.ownBlock = (Value.slice (some ⟨W.heap.size, 0, none⟩) 0 0).ownBlock ∨ v.ownBlock = some (W.drew.alloc (.cells #[] 5)).heap.size) : ∀ b, v.ownBlock = some b → ¬ F b := fun b hb hf => by
  have := h.fin b hf
  rcases h2 with q | q
  · rw [hb] at q; have := own_b q.symm; omega
  · rw [hb] at q; simp at q; omega
set_option maxRecDepth 100000 in
set_option maxHeartbeats 400000 in
theorem step1 (h : Two w0 w s S x last R) {k : Nat} (hk : k ≤ 1000) (hb : Bd k last R) (hS : S.last ≤ 1000 + k) (y : Ac) (hg : GoodA w0 y) (hs1 : y.nm.size ≤ 50) (hs2 : y.data.length ≤ 2100) (h1 : y.kind = 1) :
    Calls Try.prog 22 #[.pointer (some ⟨s, 0, none⟩), .pointer (some ⟨x, 0, none⟩), .agg #[.int .i64 y.kind, .string y.nm, .slice y.da y.data.length y.dc, .int .i64 y.id]] w (StepPost w0 s S x last R k y) := by
  obtain ⟨i0, hi0, hz0, hz1, hz2⟩ := info_parts info5
  obtain ⟨W, hW⟩ : ∃ W, W = w.alloc (.cells #[.int .i64 1, .string y.nm, .slice y.da y.data.length y.dc, .int .i64 y.id] 51) := ⟨_, rfl⟩
  have kW : Kp (fun _ => False) w W := by rw [hW]; exact kp_lit _ _
  have hT := h.new kW
  have hWh := alloc_at w (.cells #[.int .i64 1, .string y.nm, .slice y.da y.data.length y.dc, .int .i64 y.id] 51)
  rw [← hW] at hWh
  have hwW : w.heap.size < W.heap.size := by rw [hW]; simp
  have c1 : W.cell? ⟨w.heap.size, 1, none⟩ = some (.string y.nm) := by rw [cell_of hWh]; rfl
  have c2 : W.cell? ⟨w.heap.size, 2, none⟩ = some (.slice y.da y.data.length y.dc) := by rw [cell_of hWh]; rfl
  obtain ⟨F, G, hB⟩ := h.both
  have hFw : ¬ F w.heap.size := fun q => by have := hB.sh.fin _ q; omega
  have hGw : ¬ G w.heap.size := fun q => by have := hB.rf.fin _ q; omega
  have hB := hB.new kW
  have hDW : Byt W (.slice y.da y.data.length y.dc) y.data := hg.data.kp hT.kp (fun _ _ q => q)
  have hdb : 0 < y.data.length → ∀ b, (Value.slice y.da y.data.length y.dc).ownBlock = some b → b < w0.heap.size := by
    obtain ⟨_, a, c, e, _, _, hnone, hc⟩ := hg.data
    intro h0 b hb
    simp only [Value.slice.injEq, true_and] at e
    obtain ⟨g, off, e2, hg2, _⟩ := hc h0
    rw [e.1, e2] at hb
    have := own_b hb
    omega
  have kd : Kp (fun _ => False) W (W.drew.alloc (.cells #[] 5)) := ((Kp.refl _ _).drew).alloc _
  have HN := Lib.hid (own_none W.drew 5 1)
  have HD := Lib.hid (hDW.kp kd (fun _ _ q => q))
  have q1 := (kd.cell (p := ⟨w.heap.size, 1, none⟩) hwW (fun q => q)).trans c1
  have q2 := (kd.cell (p := ⟨w.heap.size, 2, none⟩) hwW (fun q => q)).trans c2
  have HB := Lib.hid hB
  have KD := Lib.hid kd
  have HDB := Lib.hid hdb
  clear hT hB hDW hdb kd hWh kW
  go_enter Try.func22, Try.ntmps22
  go_wp2_with fail
  rw [← hW]
  clear hW h
  go_region_held3 (fun w' => w'.cell? ⟨w.heap.size, 1, none⟩ = some (.string y.nm) ∧ w'.cell? ⟨w.heap.size, 2, none⟩ = some (.slice y.da y.data.length y.dc)) (go_keep) ((first
    | (go_simp; go_at_call 15; refine (load_n S HB.out.ok (by omega) y.nm b1 y.data.length d1 y.data w3 (HB.out.new KK.out).sh G1.out.sl (far_new HB.out.sh G3.out) (by omega) (by omega)).mono ?_; rintro e w4 ⟨rfl, F', p1, p2, p3⟩; have B4 := Lib.hid ((HB.out.new KK.out).ofS p1 p2 p3 (load_ok HB.out.ok y.nm y.data)); have hw4 : w.heap.size < w4.heap.size := (by have := p2.size; omega); have s1 := (p2.cell (p := ⟨w.heap.size, 1, none⟩) hw3 hFw).trans r1; have s2 := (p2.cell (p := ⟨w.heap.size, 2, none⟩) hw3 hFw).trans r2; clear p1 p2 p3)
    | (refine step_app (W.drew.alloc (.cells #[] 5)) rfl (.tmp 31) (.tmp 33) 22 rfl 5 i0 _ 1 1 Try.underlying22 hi0 hz0 hz1 hz2 rfl (by decide) (by decide) (.slice (some ⟨W.heap.size, 0, none⟩) 0 0) 0 [] (by simp [Act.eval]) HN.out (.slice y.da y.data.length y.dc) y.data.length _ (by simp [Act.eval]) HD.out (u8c_one _) (by omega) ?_; intro v1 w3 g1 g2 g3 g4 g5; obtain ⟨b1, d1, rfl⟩ := g1.form; have kk : Kp (fun _ => False) W w3 := KD.out.up g2 (fun i e => (by have := own_b e; omega)); have r1 := (kk.cell (p := ⟨w.heap.size, 1, none⟩) hwW (fun q => q)).trans c1; have r2 := (kk.cell (p := ⟨w.heap.size, 2, none⟩) hwW (fun q => q)).trans c2; rw [Nat.zero_add] at g1 g3; have G1 := Lib.hid g1; have G3 := Lib.hid g3; have hw3 : w.heap.size < w3.heap.size := (by have := kk.size; omega); have KK := Lib.hid kk; clear g1 g2 g3 g4 g5 kk)))
  go_wp2_with fail
  have hB4 := B4.out
  have hD4 : Byt w4 (.slice y.da y.data.length y.dc) y.data := hg.data.kp hB4.kp (fun _ _ q => q)
  refine (load_r hB4.rf (by have := hb.len; omega) ⟨hb.l0, by have := hb.l1; omega⟩ y.nm y.da y.dc y.data hD4 (fun h0 b hb' hg' => by have := hB4.lg b hg'; have := HDB.out h0 b hb'; omega) (by omega) (by omega)).mono ?_
  rintro e w5 (⟨hi, rfl, G', p1, p2, p3⟩ | ⟨hi, rfl, da, dc, G', p1, p2, p3⟩)
  · have B5 := Lib.hid (hB4.ofR p1 p2 p3)
    have t1 := (p2.cell (p := ⟨w.heap.size, 1, none⟩) hw4 hGw).trans s1
    have t2 := (p2.cell (p := ⟨w.heap.size, 2, none⟩) hw4 hGw).trans s2
    have HL := Lib.hid (rload_len (S := S) hi)
    clear p1 p2 p3 hB4 hD4 hi
    rw [HL.out]
    go_wp2_with fail
    have hD5 : ∀ n, Byt (w5.drewN n) (.slice y.da y.data.length y.dc) y.data := fun n => (hg.data.kp B5.out.kp (fun _ _ q => q)).drewN n
    have HD5 := Lib.hid hD5
    clear hD5
    go_quiet (first | (go_at_call 12; refine Calls.quiet_of_same ((is_any y.nm y.da y.dc y.data _ (HD5.out _) (by omega) (by omega)).mono (fun _ _ h => ⟨h.1, h.2.symm⟩))) | (go_at_call 34; refine Calls.quiet_of_same ((is_r y.nm y.da y.dc y.data _ (HD5.out _) (by omega) (by omega)).mono (fun _ _ h => ⟨h.1, h.2.symm⟩))))
    go_wp2_with fail
    go_ret
    have hsa : sAct S y = S := by unfold sAct; rw [if_pos h1, HL.out]
    refine ⟨true, last, R, rfl, ?_, hb.up, fun hr => ⟨rfl, by rw [hsa]; exact hr⟩⟩
    rw [hsa]
    have hB := B5.out
    rw [HL.out] at hB
    exact (hB.new ((Kp.refl _ _).drewN _)).two
  · have B5 := Lib.hid (hB4.ofR p1 p2 p3)
    have t1 := (p2.cell (p := ⟨w.heap.size, 1, none⟩) hw4 hGw).trans s1
    have t2 := (p2.cell (p := ⟨w.heap.size, 2, none⟩) hw4 hGw).trans s2
    have hsa : sAct S y = (S.load y.nm y.data).1 := by unfold sAct; rw [if_pos h1]
    have hc : (S.load y.nm y.data).2.2.2 = 0 := by unfold Shs.load; rw [if_pos hi]; try exact hi
    have hbd := hb.load hi da dc
    have fin : ∀ (b : Bool) (m : Nat), (Rel S last R → b = true) → StepPost w0 s S x last R k y (.returned (.bool b)) (w5.drewN m) := fun b m hq => ⟨b, last + 1, _, rfl, by rw [hsa]; exact (B5.out.new ((Kp.refl _ _).drewN _)).two, hbd, fun hr => ⟨hq hr, by rw [hsa]; exact (hr.load hi da dc).2⟩⟩
    have FIN := Lib.hid fin
    have hrel : Rel S last R → (S.load y.nm y.data).2.1 = last + 1 ∧ (S.load y.nm y.data).2.2.1 = (rRetire R y.nm).2.1 := fun hr => by
      have := (hr.load hi da dc).1
      rw [this]; exact ⟨rfl, rfl⟩
    have HREL := Lib.hid hrel
    have HSA := Lib.hid hsa
    clear p1 p2 p3 hB4 hD4 hi hbd fin hrel hsa
    have hD5 : ∀ n, Byt (w5.drewN n) (.slice y.da y.data.length y.dc) y.data := fun n => (hg.data.kp B5.out.kp (fun _ _ q => q)).drewN n
    have HD5 := Lib.hid hD5
    clear hD5
    have HC := Lib.hid hc
    rw [hc]
    clear hc
    generalize (S.load y.nm y.data).2.1 = i1 at HREL ⊢
    generalize (S.load y.nm y.data).2.2.1 = i2 at HREL ⊢
    generalize (rRetire R y.nm).2.1 = i3 at HREL ⊢
    by_cases hA : i1 = last + 1
    · by_cases hB : i2 = i3
      · have hA' : (i1 == last + 1) = true := by simpa using hA
        have hB' : (i2 == i3) = true := by simpa using hB
        clear hA hB
        go_wp2_with fail
        go_quiet (first | (go_at_call 12; refine Calls.quiet_of_same ((is_any y.nm y.da y.dc y.data _ (HD5.out _) (by omega) (by omega)).mono (fun _ _ h => ⟨h.1, h.2.symm⟩))) | (go_at_call 34; refine Calls.quiet_of_same ((is_r y.nm y.da y.dc y.data _ (HD5.out _) (by omega) (by omega)).mono (fun _ _ h => ⟨h.1, h.2.symm⟩))))
        go_wp2_with fail
        go_ret
        exact FIN.out true _ (fun _ => rfl)
      · have hA' : (i1 == last + 1) = true := by simpa using hA
        have hB' : (i2 == i3) = false := by simpa using hB
        have HN := Lib.hid hB
        clear hA hB
        go_wp2_with fail
        go_quiet (first | (go_at_call 12; refine Calls.quiet_of_same ((is_any y.nm y.da y.dc y.data _ (HD5.out _) (by omega) (by omega)).mono (fun _ _ h => ⟨h.1, h.2.symm⟩))) | (go_at_call 34; refine Calls.quiet_of_same ((is_r y.nm y.da y.dc y.data _ (HD5.out _) (by omega) (by omega)).mono (fun _ _ h => ⟨h.1, h.2.symm⟩))))
        go_wp2_with fail
        go_ret
        exact FIN.out false _ (fun hr => absurd (HREL.out hr).2 HN.out)
    · have hA' : (i1 == last + 1) = false := by simpa using hA
      have HN := Lib.hid hA
      clear hA
      go_wp2_with fail
      go_quiet (first | (go_at_call 12; refine Calls.quiet_of_same ((is_any y.nm y.da y.dc y.data _ (HD5.out _) (by omega) (by omega)).mono (fun _ _ h => ⟨h.1, h.2.symm⟩))) | (go_at_call 34; refine Calls.quiet_of_same ((is_r y.nm y.da y.dc y.data _ (HD5.out _) (by omega) (by omega)).mono (fun _ _ h => ⟨h.1, h.2.symm⟩))))
      go_wp2_with fail
      go_ret
      exact FIN.out false _ (fun hr => absurd (HREL.out hr).1 HN.out)
end Go.Proofs.Ytnjkchbombjemaa.Rf
