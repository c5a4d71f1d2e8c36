/- stream: Streams in a law, with rows that none of them touches. Bytes as a string. The walk of StreamTwo. -/
import Derived.Deep.RegionHeld3
import Derived.Deep.RegionLaw
import Derived.Deep.DeepCutAuto
import Derived.Lib.SlBytesConst
import Derived.Test.YtbakhpakdaflkaaGreatL01
namespace Go.Proofs.YtbakhpakdaflkaaGreat.Str
open Go Go.RowKit Go.ChangeMaps Go.MapKept Go.Mg Go.Mt Go.Proofs.YtbakhpakdaflkaaGreat.Hu Go.Proofs.YtbakhpakdaflkaaGreat.Sq Go.Proofs.YtbakhpakdaflkaaGreat.Bk Go.Proofs.YtbakhpakdaflkaaGreat.Ma Go.Proofs.YtbakhpakdaflkaaGreat.Op

/-! ### parted writes -/
theorem take_take (S : Str) (p q : List UInt8) : take (take S p) q = take S (p ++ q) := by
  unfold take; simp only [List.append_assoc]
theorem enc_take {S : Str} {n : Nat} (h : n ≤ S.kept.length) (q : List UInt8) : enc (take S q) n = enc S n := by
  unfold enc take
  simp only [List.take_append_of_le_length h]
theorem blkO_take {S : Str} {n : Nat} (h : n ≤ S.kept.length) (q : List UInt8) (z : UInt8) : blkO (take S q) n z = blkO S n z := by
  unfold blkO
  rw [enc_take h]
  rfl
theorem blkS_take {S : Str} {n : Nat} (h : n ≤ S.kept.length) (q : List UInt8) : blkS (take S q) n = take (blkS S n) q := by
  have e := enc_take h q
  unfold blkS
  rw [e]
  unfold take
  simp only [List.take_append_of_le_length h, List.drop_append_of_le_length h]
theorem take_kept (S : Str) (p : List UInt8) : (take S p).kept.length = S.kept.length + p.length := by simp [take]
theorem run_take (q : List UInt8) : ∀ f (S : Str), S.kept.length ≤ f → ∀ g, S.kept.length + q.length ≤ g → runO g (take S q) = runO f S ++ wrO (runS f S) q ∧ runS g (take S q) = wrS (runS f S) q := by
  intro f
  induction f with
  | zero =>
    intro S h g hg
    have hs : ¬ 500 ≤ S.kept.length := by omega
    have := run_fuel g (S.kept.length + q.length) (take S q) (by rw [take_kept]; exact hg) (by rw [take_kept]; exact Nat.le_refl _)
    rw [(run_stop hs).1, (run_stop hs).2, this.1, this.2, List.nil_append]
    exact ⟨rfl, rfl⟩
  | succ f ih =>
    intro S h g hg
    by_cases hs : 500 ≤ S.kept.length
    · obtain ⟨g', rfl⟩ : ∃ g', g = g' + 1 := ⟨g - 1, by omega⟩
      have hst : 500 ≤ (take S q).kept.length := by rw [take_kept]; omega
      have hbk := blk_kept S 500
      have := ih (blkS S 500) (by omega) g' (by omega)
      simp only [runO, runS, if_pos hs, if_pos hst]
      rw [blkO_take hs, blkS_take hs, this.1, this.2, List.append_assoc]
      exact ⟨rfl, rfl⟩
    · have := run_fuel g (S.kept.length + q.length) (take S q) (by rw [take_kept]; exact hg) (by rw [take_kept]; exact Nat.le_refl _)
      rw [(run_stop hs).1, (run_stop hs).2, this.1, this.2, List.nil_append]
      exact ⟨rfl, rfl⟩
/-- How bytes are parted does not matter. -/
theorem wr_app (S : Str) (p q : List UInt8) : wrO S (p ++ q) = wrO S p ++ wrO (wrS S p) q ∧ wrS S (p ++ q) = wrS (wrS S p) q := by
  have := run_take q (S.kept.length + p.length) (take S p) (by rw [take_kept]; exact Nat.le_refl _) (S.kept.length + (p ++ q).length) (by rw [take_kept, List.length_append]; omega)
  rw [take_take] at this
  exact this
theorem wr_nil {S : Str} (h : S.kept.length < 500) : wrO S [] = [] ∧ wrS S [] = S := by
  have e : take S [] = S := by unfold take; simp only [List.append_nil]
  unfold wrO wrS
  rw [e]
  exact run_stop (by omega)

/-! ### one, two Streams -/
structure L1 (G : Nat → Prop) (w wx : World) (s : Nat) (S : Str) : Prop where
  ex : ∃ F, StAt F wx s S ∧ (∀ k, F k → w.heap.size ≤ k) ∧ ∀ k, G k → k < wx.heap.size ∧ ¬ (F k ∨ rd wx s k)
  kp : Kp (fun _ => False) w wx
structure L2 (G : Nat → Prop) (w wx : World) (s1 s2 : Nat) (S1 S2 : Str) : Prop where
  ex : ∃ F1 F2, StAt F1 wx s1 S1 ∧ StAt F2 wx s2 S2 ∧ (∀ k, F1 k → w.heap.size ≤ k) ∧ (∀ k, F2 k → w.heap.size ≤ k) ∧ (∀ k, F1 k ∨ rd wx s1 k → ¬ (F2 k ∨ rd wx s2 k)) ∧ ∀ k, G k → k < wx.heap.size ∧ ¬ (F1 k ∨ rd wx s1 k) ∧ ¬ (F2 k ∨ rd wx s2 k)
  kp : Kp (fun _ => False) w wx
theorem L2.swap {G : Nat → Prop} {w wx : World} {s1 s2 : Nat} {S1 S2 : Str} (h : L2 G w wx s1 s2 S1 S2) : L2 G w wx s2 s1 S2 S1 := by
  obtain ⟨⟨F1, F2, h1, h2, h3, h4, h5, h6⟩, h7⟩ := h
  exact ⟨⟨F2, F1, h2, h1, h4, h3, fun k q1 q2 => h5 k q2 q1, fun k q => ⟨(h6 k q).1, (h6 k q).2.2, (h6 k q).2.1⟩⟩, h7⟩
theorem L2.mono {G G' : Nat → Prop} {w wx : World} {s1 s2 : Nat} {S1 S2 : Str} (h : L2 G w wx s1 s2 S1 S2) (hG : ∀ k, G' k → G k) : L2 G' w wx s1 s2 S1 S2 := by
  obtain ⟨⟨F1, F2, h1, h2, h3, h4, h5, h6⟩, h7⟩ := h
  exact ⟨⟨F1, F2, h1, h2, h3, h4, h5, fun k q => h6 k (hG k q)⟩, h7⟩
theorem L1.mono {G G' : Nat → Prop} {w wx : World} {s : Nat} {S : Str} (h : L1 G w wx s S) (hG : ∀ k, G' k → G k) : L1 G' w wx s S := by
  obtain ⟨⟨F1, h1, h2, h3⟩, h7⟩ := h
  exact ⟨⟨F1, h1, h2, fun k q => h3 k (hG k q)⟩, h7⟩
theorem L2.kp0 {G : Nat → Prop} {w wx w' : World} {s1 s2 : Nat} {S1 S2 : Str} (h : L2 G w wx s1 s2 S1 S2) (hk : Kp (fun _ => False) wx w') : L2 G w w' s1 s2 S1 S2 := by
  obtain ⟨⟨F1, F2, h1, h2, h3, h4, h5, h6⟩, h7⟩ := h
  have hz := hk.size
  refine ⟨⟨F1, F2, h1.kp0 hk, h2.kp0 hk, h3, h4, fun k => ?_, fun k q => ?_⟩, h7.trans hk⟩
  · rw [rd_kp hk h1.lt (fun q => q), rd_kp hk h2.lt (fun q => q)]; exact h5 k
  · rw [rd_kp hk h1.lt (fun q => q), rd_kp hk h2.lt (fun q => q)]; exact ⟨by have := (h6 k q).1; omega, (h6 k q).2⟩
theorem L1.kp0 {G : Nat → Prop} {w wx w' : World} {s : Nat} {S : Str} (h : L1 G w wx s S) (hk : Kp (fun _ => False) wx w') : L1 G w w' s S := by
  obtain ⟨⟨F1, h1, h2, h3⟩, h7⟩ := h
  have hz := hk.size
  refine ⟨⟨F1, h1.kp0 hk, h2, fun k q => ?_⟩, h7.trans hk⟩
  rw [rd_kp hk h1.lt (fun q => q)]; exact ⟨by have := (h3 k q).1; omega, (h3 k q).2⟩
theorem L1.of_new {w wx w' : World} {S : Str} {e : Ending} (hk : Kp (fun _ => False) w wx) (G : Nat → Prop) (hG : ∀ k, G k → k < wx.heap.size) (h : NewRPost wx S e w') : ∃ s, e = .returned (.pointer (some ⟨s, 0, none⟩)) ∧ L1 G w w' s S := by
  obtain ⟨s, F, rfl, h1, h2, h3, h4⟩ := h
  have hz := hk.size
  have hz2 := h3.size
  refine ⟨s, rfl, ⟨F, h1, fun k q => by have := h2 k q; omega, fun k q => ⟨by have := hG k q; omega, fun q2 => ?_⟩⟩, hk.trans h3⟩
  have := hG k q
  rcases q2 with q2 | q2
  · have := h2 k q2; omega
  · have := h4 k q2; omega
theorem L2.of_new {G : Nat → Prop} {w wx w' : World} {s : Nat} {S1 S : Str} {e : Ending} (h0 : L1 G w wx s S1) (h : NewRPost wx S e w') : ∃ s', e = .returned (.pointer (some ⟨s', 0, none⟩)) ∧ L2 G w w' s s' S1 S := by
  obtain ⟨s', F, rfl, h1, h2, h3, h4⟩ := h
  obtain ⟨⟨F1, g1, g2, g3⟩, g4⟩ := h0
  have hz := g4.size
  have hz2 := h3.size
  have hlt : ∀ k, F k ∨ rd w' s' k → wx.heap.size ≤ k := fun k q => q.elim (h2 k) (h4 k)
  refine ⟨s', rfl, ⟨F1, F, g1.kp0 h3, h1, g2, fun k q => by have := h2 k q; omega, fun k q1 q2 => ?_, fun k q => ⟨by have := (g3 k q).1; omega, fun q1 => ?_, fun q2 => ?_⟩⟩, g4.trans h3⟩
  · rw [rd_kp h3 g1.lt (fun q => q)] at q1
    have := hlt k q2
    rcases q1 with q1 | q1
    · have := g1.fl k q1; omega
    · have := (g1.rd_lt q1).1; omega
  · rw [rd_kp h3 g1.lt (fun q => q)] at q1
    exact (g3 k q).2 q1
  · have := hlt k q2; have := (g3 k q).1; omega
/-- What a step of one leaves. -/
def Out1 (G : Nat → Prop) (w wx : World) (s : Nat) (O : List UInt8) (S' : Str) (e : Ending) (w' : World) : Prop :=
  ∃ a c, e = .returned (.slice a O.length c) ∧ RowB wx.heap.size w' (.slice a O.length c) O ∧ L1 (fun k => G k ∨ (Value.slice a O.length c).ownBlock = some k) w w' s S' ∧ Kp (fun k => w.heap.size ≤ k ∧ ¬ G k) wx w'
def Out2 (G : Nat → Prop) (w wx : World) (s1 s2 : Nat) (O : List UInt8) (S1 S2 : Str) (e : Ending) (w' : World) : Prop :=
  ∃ a c, e = .returned (.slice a O.length c) ∧ RowB wx.heap.size w' (.slice a O.length c) O ∧ L2 (fun k => G k ∨ (Value.slice a O.length c).ownBlock = some k) w w' s1 s2 S1 S2 ∧ Kp (fun k => w.heap.size ≤ k ∧ ¬ G k) wx w'
theorem row_lt {n : Nat} {w : World} {a : Option Addr} {k c : Nat} {O : List UInt8} (h : RowB n w (.slice a k c) O) {b : Nat} (hb : (Value.slice a k c).ownBlock = some b) : n ≤ b ∧ b < w.heap.size := by
  obtain ⟨_, _, e, h1, h2⟩ := h
  rw [e] at hb
  exact ⟨h2 b (by rw [e]; exact hb), h1.lt (by rw [e]; exact hb)⟩
theorem L1.step {G : Nat → Prop} {w wx w' : World} {s : Nat} {S S' : Str} {O : List UInt8} {e : Ending} {F : Nat → Prop} (_ : StAt F wx s S) (h2 : ∀ k, F k → w.heap.size ≤ k) (h3 : ∀ k, G k → k < wx.heap.size ∧ ¬ (F k ∨ rd wx s k)) (h4 : Kp (fun _ => False) w wx) (h : OutPost F wx s O S' e w') : Out1 G w wx s O S' e w' := by
  obtain ⟨a, c, F', rfl, q1, q2, q3, q4, q5, q6⟩ := h
  have hz := h4.size
  have hz2 := q4.size
  refine ⟨a, c, rfl, q1, ⟨⟨F', q3, fun k q => ?_, fun k q => ?_⟩, h4.trans2 q4 (fun i hi q => by have := h2 i q; omega)⟩, q4.mono fun k _ q => ⟨h2 k q, fun g => (h3 k g).2 (.inl q)⟩⟩
  · rcases q5 k q with q | q
    · exact h2 k q
    · omega
  · rcases q with q | q
    · have := h3 k q
      refine ⟨by omega, fun q8 => ?_⟩
      rcases q8 with q8 | q8
      · rcases q5 k q8 with q9 | q9
        · exact this.2 (.inl q9)
        · omega
      · rcases q6 k q8 with q9 | q9
        · exact this.2 (.inr q9)
        · omega
    · refine ⟨(row_lt q1 q).2, fun q8 => ?_⟩
      rcases q8 with q8 | q8
      · exact (q2 k q).1 q8
      · exact (q2 k q).2 q8
theorem L2.step {G : Nat → Prop} {w wx w' : World} {s s2 : Nat} {S S' S2 : Str} {O : List UInt8} {e : Ending} {F F2 : Nat → Prop} (_ : StAt F wx s S) (g1 : StAt F2 wx s2 S2) (h2 : ∀ k, F k → w.heap.size ≤ k) (g2 : ∀ k, F2 k → w.heap.size ≤ k) (hd : ∀ k, F k ∨ rd wx s k → ¬ (F2 k ∨ rd wx s2 k))
    (h3 : ∀ k, G k → k < wx.heap.size ∧ ¬ (F k ∨ rd wx s k) ∧ ¬ (F2 k ∨ rd wx s2 k)) (h4 : Kp (fun _ => False) w wx) (h : OutPost F wx s O S' e w') : Out2 G w wx s s2 O S' S2 e w' := by
  obtain ⟨a, c, F', rfl, q1, q2, q3, q4, q5, q6⟩ := h
  have hz := h4.size
  have hz2 := q4.size
  have g1' := g1.kpR q4 (fun k a b => hd k (.inl b) (.inl a)) (fun k a b => hd k (.inl b) (.inr a))
  have hs2 : ¬ F s2 := fun q => hd s2 (.inl q) (.inl g1.fs)
  have hrd : ∀ k, rd w' s2 k ↔ rd wx s2 k := fun k => rd_kp q4 g1.lt hs2
  have hl2 : ∀ k, F2 k ∨ rd w' s2 k → k < wx.heap.size ∧ (F2 k ∨ rd wx s2 k) := fun k q => by
    rw [hrd] at q
    rcases q with q | q
    · exact ⟨g1.fl k q, .inl q⟩
    · exact ⟨(g1.rd_lt q).1, .inr q⟩
  have hn : ∀ k, F' k ∨ rd w' s k → (F k ∨ rd wx s k) ∨ wx.heap.size ≤ k := fun k q => by
    rcases q with q | q
    · rcases q5 k q with q | q
      · exact .inl (.inl q)
      · exact .inr q
    · rcases q6 k q with q | q
      · exact .inl (.inr q)
      · exact .inr q
  refine ⟨a, c, rfl, q1, ⟨⟨F', F2, q3, g1', fun k q => ?_, g2, fun k q r => ?_, fun k q => ?_⟩, h4.trans2 q4 (fun i hi q => by have := h2 i q; omega)⟩, q4.mono fun k _ q => ⟨h2 k q, fun g => (h3 k g).2.1 (.inl q)⟩⟩
  · rcases q5 k q with q | q
    · exact h2 k q
    · omega
  · have := hl2 k r
    rcases hn k q with q | q
    · exact hd k q this.2
    · omega
  · rcases q with q | q
    · have := h3 k q
      refine ⟨by omega, fun q8 => ?_, fun q8 => this.2.2 (hl2 k q8).2⟩
      rcases hn k q8 with q9 | q9
      · exact this.2.1 q9
      · omega
    · have h9 := row_lt q1 q
      refine ⟨h9.2, fun q8 => ?_, fun q8 => by have := hl2 k q8; omega⟩
      rcases q8 with q8 | q8
      · exact (q2 k q).1 q8
      · exact (q2 k q).2 q8
/-- A row is appended to. -/
theorem L2.app {G : Nat → Prop} {w w2 w3 : World} {s1 s2 : Nat} {S1 S2 : Str} {v v' : Value} {n : Nat} {xs : List Value} (h : L2 G w w2 s1 s2 S1 S2) (hv : ∀ k, v.ownBlock = some k → G k ∧ w.heap.size ≤ k) (hk : Kp (fun k => v.ownBlock = some k) w2 w3) (h1 : OwnR w3 5 1 v' n xs) (h2 : v'.ownBlock = v.ownBlock ∨ v'.ownBlock = some w2.heap.size) :
    L2 (fun k => G k ∨ v'.ownBlock = some k) w w3 s1 s2 S1 S2 := by
  obtain ⟨⟨F1, F2, a1, a2, a3, a4, a5, a6⟩, a7⟩ := h
  have hz := hk.size
  have n1 : ∀ k, F1 k ∨ rd w2 s1 k → ¬ v.ownBlock = some k := fun k q r => (a6 k (hv k r).1).2.1 q
  have n2 : ∀ k, F2 k ∨ rd w2 s2 k → ¬ v.ownBlock = some k := fun k q r => (a6 k (hv k r).1).2.2 q
  have r1 : ∀ k, rd w3 s1 k ↔ rd w2 s1 k := fun k => rd_kp hk a1.lt (n1 _ (.inl a1.fs))
  have r2 : ∀ k, rd w3 s2 k ↔ rd w2 s2 k := fun k => rd_kp hk a2.lt (n2 _ (.inl a2.fs))
  refine ⟨⟨F1, F2, a1.kpR hk (fun k q => n1 k (.inl q)) (fun k q => n1 k (.inr q)), a2.kpR hk (fun k q => n2 k (.inl q)) (fun k q => n2 k (.inr q)), a3, a4, fun k => ?_, fun k q => ?_⟩, a7.trans2 hk (fun i hi q => by have := (hv i q).2; omega)⟩
  · rw [r1, r2]; exact a5 k
  · rw [r1, r2]
    have hG : ∀ k, G k → k < w3.heap.size ∧ ¬ (F1 k ∨ rd w2 s1 k) ∧ ¬ (F2 k ∨ rd w2 s2 k) := fun k q => ⟨by have := (a6 k q).1; omega, (a6 k q).2⟩
    rcases q with q | q
    · exact hG k q
    · rcases h2 with e | e
      · exact hG k (hv k (e.symm.trans q)).1
      · rw [q] at e
        simp only [Option.some.injEq] at e
        subst e
        refine ⟨h1.lt q, fun r => ?_, fun r => ?_⟩
        · rcases r with r | r
          · exact Nat.lt_irrefl _ (a1.fl _ r)
          · exact Nat.lt_irrefl _ (a1.rd_lt r).1
        · rcases r with r | r
          · exact Nat.lt_irrefl _ (a2.fl _ r)
          · exact Nat.lt_irrefl _ (a2.rd_lt r).1
/-! ### calls -/
section
variable {G : Nat → Prop} {w wx : World} {s s2 : Nat} {S S2 : Str}
theorem write1 (h : L1 G w wx s S) (he : S.ended = false) (p : List UInt8) (ap : Option Addr) (cp : Nat) (hp : SlR w 1 (.slice ap p.length cp) p.length (p.map u8c)) (hw : S.Wf 40000) (hpl : p.length ≤ 40000) :
    Calls Tryz.prog 13 #[.pointer (some ⟨s, 0, none⟩), .slice ap p.length cp] wx (Out1 G w wx s (wrO S p) (wrS S p)) := by
  obtain ⟨⟨F, h1, h2, h3⟩, h4⟩ := h
  exact (write_go h1 he p ap cp (hp.kp h4 (fun _ _ q => q)) (fun h0 b hb q => by have := sl_lt hp h0 hb; have := h2 b q; omega) hw hpl).mono (fun e w' q => L1.step h1 h2 h3 h4 q)
theorem end1 (h : L1 G w wx s S) (he : S.ended = false) (hk5 : S.kept.length ≤ 500) (hw : S.Wf 100000) :
    Calls Tryz.prog 18 #[.pointer (some ⟨s, 0, none⟩)] wx (Out1 G w wx s (endO S) (endS' S)) := by
  obtain ⟨⟨F, h1, h2, h3⟩, h4⟩ := h
  exact (end_go h1 he hk5 hw).mono (fun e w' q => L1.step h1 h2 h3 h4 q)
theorem row_nil (n : Nat) (w : World) : RowB n w (.slice none 0 0) [] := RowM.nil _ _ _
theorem flush1 (h : L1 G w wx s S) (he : S.ended = false) (hk5 : S.kept.length ≤ 500) (hw : S.Wf 100000) :
    Calls Tryz.prog 14 #[.pointer (some ⟨s, 0, none⟩)] wx (Out1 G w wx s (flO S) (flS S)) := by
  have h' := h
  obtain ⟨⟨F, h1, h2, h3⟩, h4⟩ := h
  by_cases h0 : S.kept.length = 0
  · refine (flush_no h1 (.inr h0)).mono ?_
    rintro e w' ⟨rfl, rfl⟩
    unfold flO flS
    rw [if_pos h0, if_pos h0]
    exact ⟨none, 0, rfl, RowM.nil _ _ _, h'.mono (fun k q => q.elim id (fun q => by cases q)), (Kp.refl _ _)⟩
  · unfold flO flS
    rw [if_neg h0, if_neg h0]
    exact (flush_go h1 he (by omega) hk5 hw).mono (fun e w' q => L1.step h1 h2 h3 h4 q)
theorem write2 (h : L2 G w wx s s2 S S2) (he : S.ended = false) (p : List UInt8) (ap : Option Addr) (cp : Nat) (hp : SlR w 1 (.slice ap p.length cp) p.length (p.map u8c)) (hw : S.Wf 40000) (hpl : p.length ≤ 40000) :
    Calls Tryz.prog 13 #[.pointer (some ⟨s, 0, none⟩), .slice ap p.length cp] wx (Out2 G w wx s s2 (wrO S p) (wrS S p) S2) := by
  obtain ⟨⟨F1, F2, h1, h2, h3, h4, h5, h6⟩, h7⟩ := h
  exact (write_go h1 he p ap cp (hp.kp h7 (fun _ _ q => q)) (fun h0 b hb q => by have := sl_lt hp h0 hb; have := h3 b q; omega) hw hpl).mono (fun e w' q => L2.step h1 h2 h3 h4 h5 h6 h7 q)
theorem end2 (h : L2 G w wx s s2 S S2) (he : S.ended = false) (hk5 : S.kept.length ≤ 500) (hw : S.Wf 100000) :
    Calls Tryz.prog 18 #[.pointer (some ⟨s, 0, none⟩)] wx (Out2 G w wx s s2 (endO S) (endS' S) S2) := by
  obtain ⟨⟨F1, F2, h1, h2, h3, h4, h5, h6⟩, h7⟩ := h
  exact (end_go h1 he hk5 hw).mono (fun e w' q => L2.step h1 h2 h3 h4 h5 h6 h7 q)
theorem flush2 (h : L2 G w wx s s2 S S2) (he : S.ended = false) (hk5 : S.kept.length ≤ 500) (hw : S.Wf 100000) :
    Calls Tryz.prog 14 #[.pointer (some ⟨s, 0, none⟩)] wx (Out2 G w wx s s2 (flO S) (flS S) S2) := by
  have h' := h
  obtain ⟨⟨F1, F2, h1, h2, h3, h4, h5, h6⟩, h7⟩ := h
  by_cases h0 : S.kept.length = 0
  · refine (flush_no h1 (.inr h0)).mono ?_
    rintro e w' ⟨rfl, rfl⟩
    unfold flO flS
    rw [if_pos h0, if_pos h0]
    exact ⟨none, 0, rfl, RowM.nil _ _ _, h'.mono (fun k q => q.elim id (fun q => by cases q)), (Kp.refl _ _)⟩
  · unfold flO flS
    rw [if_neg h0, if_neg h0]
    exact (flush_go h1 he (by omega) hk5 hw).mono (fun e w' q => L2.step h1 h2 h3 h4 h5 h6 h7 q)
theorem Out2.swap {O : List UInt8} {S1 : Str} {e : Ending} {w' : World} (h : Out2 G w wx s s2 O S1 S2 e w') : ∃ a c, e = .returned (.slice a O.length c) ∧ RowB wx.heap.size w' (.slice a O.length c) O ∧ L2 (fun k => G k ∨ (Value.slice a O.length c).ownBlock = some k) w w' s2 s S2 S1 ∧ Kp (fun k => w.heap.size ≤ k ∧ ¬ G k) wx w' := by
  obtain ⟨a, c, h1, h2, h3, h4⟩ := h
  exact ⟨a, c, h1, h2, h3.swap, h4⟩
end
/-- A new Stream of level lv; what it reads is new too. -/
theorem new_lvR (w : World) (dict : List UInt8) (a : Option Addr) (c : Nat) (id : Nat) (lv : Int) (dl : Nat) (h1 : 1 ≤ lv) (h2 : lv ≤ 3) (hd : dep lv = (dl : Nat)) (h : SlR w 1 (.slice a dict.length c) dict.length (dict.map u8c)) (h3 : id ≤ 2147483647) (h4 : dict.length ≤ 2000) :
    Calls Tryz.prog 12 #[.slice a dict.length c, .int .i64 (id : Nat), .int .i64 lv] w (NewRPost w (S0 id dl dict)) := by
  have hd1 : 1 ≤ dl ∧ dl ≤ 32 := by
    have : lv = 1 ∨ lv = 2 ∨ lv = 3 := by omega
    rcases this with rfl | rfl | rfl
    · rw [show dep 1 = ((1 : Nat) : Int) from rfl] at hd; omega
    · rw [show dep 2 = ((8 : Nat) : Int) from rfl] at hd; omega
    · rw [show dep 3 = ((32 : Nat) : Int) from rfl] at hd; omega
  exact new_r w dict a c id lv dl hd h (by omega) h3 h4
theorem dep_lv {lv : Int} (h1 : 1 ≤ lv) (h2 : lv ≤ 3) : ∃ dl : Nat, (1 ≤ dl ∧ dl ≤ 32) ∧ dep lv = (dl : Nat) := by
  have : lv = 1 ∨ lv = 2 ∨ lv = 3 := by omega
  rcases this with rfl | rfl | rfl
  · exact ⟨1, by omega, rfl⟩
  · exact ⟨8, by omega, rfl⟩
  · exact ⟨32, by omega, rfl⟩
end Go.Proofs.YtbakhpakdaflkaaGreat.Str
namespace Go.Proofs.YtbakhpakdaflkaaGreat.He
open Go Go.RowKit Go.ChangeMaps Go.MapKept Go.Mg Go.Hf Go.Sort Go.Proofs.YtbakhpakdaflkaaGreat.Hu Go.Proofs.YtbakhpakdaflkaaGreat.Bw

set_option maxRecDepth 100000 in
theorem strOf {w : World} {a : Option Addr} {n cap : Nat} {l : List UInt8} (h : SlR w 1 (.slice a n cap) l.length (l.map u8c)) : (convert 24 9 (.slice a n cap)).run Tryz.prog w = .ok (.string ⟨l.toArray⟩) w := by
  obtain ⟨h0, a', c', e, h1, h2, h3, h4⟩ := h
  simp only [Value.slice.injEq] at e
  obtain ⟨rfl, rfl, rfl⟩ := e
  by_cases hl : 0 < l.length
  · obtain ⟨g, off, rfl, hg, hc⟩ := h4 hl
    have := run_convert_bytes_arg (P := Tryz.prog) w 24 5 Tryz.underlying24 Tryz.underlying5 g off l.length cap (l.map fun b => (b.toNat : Int)) (by simp) (fun i hi => by
      rw [hc i (u8c l[i]) (by simp [hi])]
      simp [u8c, List.getD, hi]) 9 Tryz.underlying9
    rw [this]
    simp only [strOfNums, List.map_map]
    congr 3
    have : ((fun n : Int => UInt8.ofNat n.toNat) ∘ fun b : UInt8 => (b.toNat : Int)) = id := by funext b; simp
    rw [this, List.map_id]
  · have : l = [] := List.eq_nil_of_length_eq_zero (by omega)
    subst this
    cases a with
    | none => exact run_convert_bytes_nil (P := Tryz.prog) w 24 5 Tryz.underlying24 Tryz.underlying5 _ _ 9 Tryz.underlying9
    | some ad =>
      rw [run_convert_bytes_string w 24 9 5 (some ad) _ cap Tryz.underlying24 Tryz.underlying5 Tryz.underlying9]
      simp [Conv.bytesToString, loadCells, loadCellsFrom]
      rfl

end Go.Proofs.YtbakhpakdaflkaaGreat.He
namespace Go.Proofs.YtbakhpakdaflkaaGreat.streamTwo
open Go Go.RowKit Go.ChangeMaps Go.MapKept Go.Mg Go.Mt Go.Proofs.YtbakhpakdaflkaaGreat.Hu Go.Proofs.YtbakhpakdaflkaaGreat.Sq Go.Proofs.YtbakhpakdaflkaaGreat.Bk Go.Proofs.YtbakhpakdaflkaaGreat.Ma Go.Proofs.YtbakhpakdaflkaaGreat.Str Go.Proofs.YtbakhpakdaflkaaGreat.Op Go.Proofs.YtbakhpakdaflkaaGreat.He

def dict4 : List UInt8 := [100, 105, 99, 116]
theorem dict_row (w : World) : SlR (w.alloc (.cells #[.int .u8 100, .int .u8 105, .int .u8 99, .int .u8 116] 5 (4, 5))) 1 (.slice (some ⟨w.heap.size, 0, none⟩) 4 4) 4 (dict4.map u8c) := by
  have h : OwnR (w.alloc (.cells #[.int .u8 100, .int .u8 105, .int .u8 99, .int .u8 116] 5 (4, 5))) 5 1 (.slice (some ⟨w.heap.size, 0, none⟩) 4 4) 4 (dict4.map u8c) :=
    ⟨by simp [dict4], .inr ⟨w.heap.size, 4, #[.int .u8 100, .int .u8 105, .int .u8 99, .int .u8 116], (4, 5), rfl, alloc_at w _, .inr (by decide), by decide, by unfold maxLen; omega, rfl, rfl⟩⟩
  exact h.sl
/-- A row that no Stream touches is as it was. -/
theorem row_kept {n : Nat} {wx w' : World} {G : Nat → Prop} {a : Option Addr} {c : Nat} {O : List UInt8} (h : SlR wx 1 (.slice a O.length c) O.length (O.map u8c)) (hk : Kp (fun k => n ≤ k ∧ ¬ G k) wx w') (hG : ∀ b, (Value.slice a O.length c).ownBlock = some b → G b) : SlR w' 1 (.slice a O.length c) O.length (O.map u8c) :=
  h.kp hk (fun b hb q => q.2 (hG b hb))
theorem rowB_sl {n : Nat} {w : World} {a : Option Addr} {c : Nat} {O : List UInt8} (h : RowB n w (.slice a O.length c) O) : SlR w 1 (.slice a O.length c) O.length (O.map u8c) := by
  obtain ⟨_, _, _, h1, _⟩ := h
  exact h1.sl
theorem str_size (l : List UInt8) : (⟨l.toArray⟩ : ByteArray).size = l.length := rfl
set_option maxRecDepth 100000 in
set_option maxHeartbeats 4000000 in
theorem full (w : World) (lv : Int) (p q : List UInt8) (ap aq : Option Addr) (cp cq : Nat) (hp : SlR w 1 (.slice ap p.length cp) p.length (p.map u8c)) (hq : SlR w 1 (.slice aq q.length cq) q.length (q.map u8c)) (h1 : 1 ≤ lv) (h2 : lv ≤ 3) (h3 : p.length ≤ 800) (h4 : q.length ≤ 800) :
    Calls Tryz.prog 6 #[.int .i64 lv, .slice ap p.length cp, .slice aq q.length cq] w (LawPost w) := by
  obtain ⟨dl, hdl, hd⟩ := dep_lv h1 h2
  have NW := fun V => new_lvR V [] none 0 0 lv dl h1 h2 hd (SlR.nil _ _) (by omega) (by simp)
  have NW : ∀ V, Calls Tryz.prog 12 #[.slice none 0 0, .int .i64 0, .int .i64 lv] V (NewRPost V (S0 0 dl [])) := NW
  have NW := Lib.hid NW
  have ND := Lib.hid (fun V a c (h : SlR V 1 (.slice a 4 c) 4 (dict4.map u8c)) => new_lvR V dict4 a c 9 3 32 (by omega) (by omega) rfl h (by omega) (by simp [dict4]))
  have b0 : decide (lv < 1) = false := decide_eq_false (by omega)
  have b1 : decide (3 < lv) = false := decide_eq_false (by omega)
  have b2 : decide ((800 : Int) < (p.length : Int)) = false := decide_eq_false (by omega)
  have b3 : decide ((800 : Int) < (q.length : Int)) = false := decide_eq_false (by omega)
  have WF0 := s0_wf (id := 0) (d := dl) (dict := []) hdl.1 hdl.2 (by omega) (by simp) 0
  have WFB := s0_wf (id := 9) (d := 32) (dict := dict4) (by omega) (by omega) (by omega) (by simp [dict4]) 0
  have WF1 := wrS_wf (p := p) WF0
  have WFB1 := wrS_wf (p := q) WFB
  have K1 := wrS_kept (S0 0 dl []) p
  have KB := wrS_kept (S0 9 32 dict4) q
  have E1 : (wrS (S0 0 dl []) p).ended = false := wrS_ended _ _
  have E2 := (flS_ended (wrS (S0 0 dl []) p)).trans E1
  have EB : (wrS (S0 9 32 dict4) q).ended = false := wrS_ended _ _
  have K2 := flS_kept (wrS (S0 0 dl []) p)
  -- one alone
  have W1 := Lib.hid (fun G wx s (h : L1 G w wx s (S0 0 dl [])) => write1 h rfl p ap cp hp (WF0.mono (by omega)) (by omega))
  have F1 := Lib.hid (fun G wx s (h : L1 G w wx s (wrS (S0 0 dl []) p)) => flush1 h E1 (by omega) (WF1.mono (by omega)))
  have N1 := Lib.hid (fun G wx s (h : L1 G w wx s (flS (wrS (S0 0 dl []) p))) => end1 h E2 (by omega) ((flS_wf WF1).mono (by omega)))
  -- one beside another
  have W2 := Lib.hid (fun G wx s s2 S2 (h : L2 G w wx s s2 (S0 0 dl []) S2) => write2 h rfl p ap cp hp (WF0.mono (by omega)) (by omega))
  have F2 := Lib.hid (fun G wx s s2 S2 (h : L2 G w wx s s2 (wrS (S0 0 dl []) p) S2) => flush2 h E1 (by omega) (WF1.mono (by omega)))
  have N2 := Lib.hid (fun G wx s s2 S2 (h : L2 G w wx s s2 (flS (wrS (S0 0 dl []) p)) S2) => end2 h E2 (by omega) ((flS_wf WF1).mono (by omega)))
  have WB := Lib.hid (fun G wx s s2 S2 (h : L2 G w wx s s2 S2 (S0 9 32 dict4)) => write2 h.swap rfl q aq cq hq (WFB.mono (by omega)) (by omega))
  have NB := Lib.hid (fun G wx s s2 S2 (h : L2 G w wx s s2 S2 (wrS (S0 9 32 dict4) q)) => end2 h.swap EB (by omega) (WFB1.mono (by omega)))
  have L1' : (wrO (S0 0 dl []) p).length ≤ 1600 := by have := wrO_le (S0 0 dl []) p; have e : (S0 0 dl []).kept.length = 0 := rfl; omega
  have L2' : (flO (wrS (S0 0 dl []) p)).length ≤ 600 := by have := flO_le (wrS (S0 0 dl []) p); omega
  have L3' : (endO (flS (wrS (S0 0 dl []) p))).length ≤ 600 := by have := endO_le (flS (wrS (S0 0 dl []) p)); omega
  obtain ⟨Z0, hZ0⟩ : ∃ Z, Z = S0 0 dl [] := ⟨_, rfl⟩
  obtain ⟨O1, hO1⟩ : ∃ O, O = wrO (S0 0 dl []) p := ⟨_, rfl⟩
  obtain ⟨O2, hO2⟩ : ∃ O, O = flO (wrS (S0 0 dl []) p) := ⟨_, rfl⟩
  obtain ⟨O3, hO3⟩ : ∃ O, O = endO (flS (wrS (S0 0 dl []) p)) := ⟨_, rfl⟩
  obtain ⟨Z3, hZ3⟩ : ∃ Z, Z = endS' (flS (wrS (S0 0 dl []) p)) := ⟨_, rfl⟩
  obtain ⟨Z2, hZ2⟩ : ∃ Z, Z = flS (wrS (S0 0 dl []) p) := ⟨_, rfl⟩
  obtain ⟨Z1, hZ1⟩ : ∃ Z, Z = wrS (S0 0 dl []) p := ⟨_, rfl⟩
  obtain ⟨OB, hOB⟩ : ∃ O, O = wrO (S0 9 32 dict4) q := ⟨_, rfl⟩
  obtain ⟨OC, hOC⟩ : ∃ O, O = endO (wrS (S0 9 32 dict4) q) := ⟨_, rfl⟩
  obtain ⟨B2, hB2⟩ : ∃ Z, Z = endS' (wrS (S0 9 32 dict4) q) := ⟨_, rfl⟩
  obtain ⟨B1, hB1⟩ : ∃ Z, Z = wrS (S0 9 32 dict4) q := ⟨_, rfl⟩
  obtain ⟨B0, hB0⟩ : ∃ Z, Z = S0 9 32 dict4 := ⟨_, rfl⟩
  rw [← hO1, ← hZ1, ← hZ0] at W1 W2
  rw [← hO2, ← hZ2, ← hZ1] at F1 F2
  rw [← hO3, ← hZ3, ← hZ2] at N1 N2
  rw [← hOB, ← hB1, ← hB0] at WB
  rw [← hOC, ← hB2, ← hB1] at NB
  rw [← hZ0] at NW
  rw [← hB0] at ND
  rw [← hO1] at L1'
  rw [← hO2] at L2'
  rw [← hO3] at L3'
  obtain ⟨n, hn⟩ : ∃ n, n = p.length := ⟨_, rfl⟩
  obtain ⟨m, hm⟩ : ∃ m, m = q.length := ⟨_, rfl⟩
  rw [← hn] at W1 W2 b2 ⊢
  rw [← hm] at WB b3 ⊢
  obtain ⟨X1, hX1⟩ : ∃ X : ByteArray, X = ⟨O1.toArray⟩ := ⟨_, rfl⟩
  obtain ⟨X2, hX2⟩ : ∃ X : ByteArray, X = ⟨O2.toArray⟩ := ⟨_, rfl⟩
  obtain ⟨X3, hX3⟩ : ∃ X : ByteArray, X = ⟨O3.toArray⟩ := ⟨_, rfl⟩
  have ST1 := Lib.hid (fun V a c (h : SlR V 1 (.slice a O1.length c) O1.length (O1.map u8c)) => strOf h)
  have ST2 := Lib.hid (fun V a c (h : SlR V 1 (.slice a O2.length c) O2.length (O2.map u8c)) => strOf h)
  have ST3 := Lib.hid (fun V a c (h : SlR V 1 (.slice a O3.length c) O3.length (O3.map u8c)) => strOf h)
  rw [← hX1] at ST1
  rw [← hX2] at ST2
  rw [← hX3] at ST3
  have sz1 : X1.size ≤ 1600 := by rw [hX1]; exact L1'
  have sz2 : X2.size ≤ 600 := by rw [hX2]; exact L2'
  have sz3 : X3.size ≤ 600 := by rw [hX3]; exact L3'
  have ad1 : ¬ (9223372036854775807 < X1.size + X2.size) := by omega
  have ad2 : ¬ (9223372036854775807 < (X1 ++ X2).size + X3.size) := by rw [ByteArray.size_append]; omega
  have ad3 : ¬ (9223372036854775807 < X1.size + X2.size + X3.size) := by omega
  have kc := fun (w : World) (C : Array Value) (n c : Nat) => Lib.run_convert_bytes_const (P := Tryz.prog) w 24 5 C n c Tryz.underlying24 Tryz.underlying5
  have DR := Lib.hid dict_row
  clear hp hq h1 h2 h3 h4 hd hdl WF0 WFB WF1 WFB1 K1 KB E1 E2 EB K2 L1' L2' L3' hO1 hO2 hO3 hZ0 hZ1 hZ2 hZ3 hOB hOC hB0 hB1 hB2 hX1 hX2 hX3 hn hm sz1 sz2 sz3
  go_enter Tryz.func6, Tryz.ntmps6
  go_wp2_with fail
  refine (NW.out _).mono ?_
  intro e w1 he
  obtain ⟨s, rfl, l1⟩ := L1.of_new (Kp.refl _ w) (fun _ => False) (fun _ q => q.elim) he
  have LL := Lib.hid (l1.kp0 (Kp.refl (fun _ => False) w1).drew)
  clear l1 he
  go_upto_region 6 with fail
  go_cut [8] (fun v wx => v = .string (X1 ++ X2 ++ X3) ∧ Kp (fun _ => False) w wx)
  case first =>
    go_region_law (first
      | (go_simp; go_at_call 13; refine Calls.mono (W1.out _ _ _ LL.out) ?_; rintro e w2 ⟨a1, c1, rfl, r1, l2, k2⟩
         have v1 := ST1.out w2 a1 c1 (rowB_sl r1)
         have R1 := Lib.hid (rowB_sl r1)
         have LW := Lib.hid l2
         clear r1 l2 k2)
      | (go_simp; go_at_call 14; refine Calls.mono (F1.out _ _ _ LW.out) ?_; rintro e w3 ⟨a2, c2, rfl, r2, l3, k3⟩
         have LF := Lib.hid l3
         have R1' := row_kept R1.out k3 (fun b hb => .inr hb)
         have R3 := Lib.hid R1'
         have v1 := ST1.out w3 a1 c1 R1'
         have v2 := ST2.out w3 a2 c2 (rowB_sl r2)
         have R2 := Lib.hid (rowB_sl r2)
         clear r2 l3 k3)
      | (go_simp; go_at_call 18; refine Calls.mono (N1.out _ _ _ LF.out) ?_; rintro e w4 ⟨a3, c3, rfl, r4, l4, k4⟩
         have v1 := ST1.out w4 a1 c1 (row_kept R3.out k4 (fun b hb => .inl (.inr hb)))
         have v2 := ST2.out w4 a2 c2 (row_kept R2.out k4 (fun b hb => .inr hb))
         have v3 := ST3.out w4 a3 c3 (rowB_sl r4)
         have KK := Lib.hid l4.kp
         clear r4 l4 k4))
    all_goals (go_wp2_with fail; go_meet; exact ⟨rfl, KK.out⟩)
  case rest =>
    obtain ⟨rfl, kx⟩ := hcut
    obtain ⟨wa, hwa⟩ : ∃ wa : World, wa = wc := ⟨_, rfl⟩
    rw [← hwa] at kx ⊢
    have KX := Lib.hid kx
    clear hwa kx LL W1 F1 N1
    go_wp2_with fail
    refine (NW.out _).mono ?_
    intro e w2 he
    obtain ⟨sa, rfl, l1⟩ := L1.of_new KX.out (fun _ => False) (fun _ q => q.elim) he
    have LD := Lib.hid (l1.kp0 (kp_alloc w2 (.cells #[.int .u8 100, .int .u8 105, .int .u8 99, .int .u8 116] 5 (4, 5))))
    clear l1 he
    go_wp2_with fail
    refine (ND.out _ _ _ (DR.out _)).mono ?_
    intro e w3 he
    obtain ⟨sb, rfl, l2⟩ := L2.of_new LD.out he
    have LL := Lib.hid l2
    clear l2 he
    go_wp2_with fail
    refine Calls.mono (W2.out _ _ _ _ _ LL.out) ?_
    rintro e w4 ⟨a1, c1, rfl, r1, l3, _⟩
    have v1 := ST1.out w4 a1 c1 (rowB_sl r1)
    have LW := Lib.hid l3
    clear r1 l3
    go_wp2_with fail
    refine Calls.mono (WB.out _ _ _ _ _ LW.out) ?_
    intro e w5 h5
    obtain ⟨a2, c2, rfl, _, l4, _⟩ := Out2.swap h5
    have L4 := Lib.hid l4
    clear l4 h5 v1
    go_wp2_with fail
    refine Calls.mono (F2.out _ _ _ _ _ L4.out) ?_
    rintro e w6 ⟨a3, c3, rfl, r3, l5, _⟩
    have v2 := ST2.out w6 a3 c3 (rowB_sl r3)
    have L5 := Lib.hid l5
    clear r3 l5
    go_wp2_with fail
    refine Calls.mono (NB.out _ _ _ _ _ L5.out) ?_
    intro e w7 h7
    obtain ⟨a4, c4, rfl, _, l6, _⟩ := Out2.swap h7
    have L6 := Lib.hid l6
    clear l6 h7 v2
    go_wp2_with fail
    refine Calls.mono (N2.out _ _ _ _ _ L6.out) ?_
    rintro e w8 ⟨a5, c5, rfl, r5, l7, _⟩
    have v3 := ST3.out w8 a5 c5 (rowB_sl r5)
    have K8 := Lib.hid l7.kp
    clear r5 l7
    go_wp2_with fail
    refine (known9_c _).mono ?_
    rintro e w9 ⟨rfl, k9⟩
    have K9 := Lib.hid (K8.out.trans k9)
    clear k9
    go_wp2_with fail
    go_ret
    exact ⟨rfl, K9.out.below⟩
set_option maxRecDepth 100000 in
set_option maxHeartbeats 1000000 in
theorem walk (lv : Int) (_ : (Lit.int .i64 lv).wf = true) (w : World) (ap : Option Addr) (cp : Nat) (p : List UInt8) (hp : SlR w 1 (.slice ap p.length cp) p.length (p.map u8c)) (aq : Option Addr) (cq : Nat) (q : List UInt8) (hq : SlR w 1 (.slice aq q.length cq) q.length (q.map u8c)) :
    Calls Tryz.prog 6 #[.int .i64 lv, .slice ap p.length cp, .slice aq q.length cq] w (LawPost w) := by
  by_cases h : (1 ≤ lv ∧ lv ≤ 3) ∧ p.length ≤ 800 ∧ q.length ≤ 800
  · exact full w lv p q ap aq cp cq hp hq h.1.1 h.1.2 h.2.1 h.2.2
  · obtain ⟨n, hn⟩ : ∃ n, n = p.length := ⟨_, rfl⟩
    obtain ⟨m, hm⟩ : ∃ m, m = q.length := ⟨_, rfl⟩
    rw [← hn, ← hm] at h ⊢
    clear hn hm hp hq
    by_cases h1 : lv < 1
    · have b0 : decide (lv < 1) = true := decide_eq_true h1
      clear h
      go_enter Tryz.func6, Tryz.ntmps6
      go_wp2_with fail
      go_ret
      exact ⟨rfl, Below.refl _ _⟩
    · have b0 : decide (lv < 1) = false := decide_eq_false h1
      by_cases h2 : 3 < lv
      · have b1 : decide (3 < lv) = true := decide_eq_true h2
        clear h
        go_enter Tryz.func6, Tryz.ntmps6
        go_wp2_with fail
        go_ret
        exact ⟨rfl, Below.refl _ _⟩
      · have b1 : decide (3 < lv) = false := decide_eq_false h2
        by_cases h3 : 800 < n
        · have b2 : decide ((800 : Int) < (n : Int)) = true := decide_eq_true (by omega)
          clear h
          go_enter Tryz.func6, Tryz.ntmps6
          go_wp2_with fail
          go_ret
          exact ⟨rfl, Below.refl _ _⟩
        · have b2 : decide ((800 : Int) < (n : Int)) = false := decide_eq_false (by omega)
          have b3 : decide ((800 : Int) < (m : Int)) = true := decide_eq_true (by omega)
          clear h
          go_enter Tryz.func6, Tryz.ntmps6
          go_wp2_with fail
          go_ret
          exact ⟨rfl, Below.refl _ _⟩
end Go.Proofs.YtbakhpakdaflkaaGreat.streamTwo
