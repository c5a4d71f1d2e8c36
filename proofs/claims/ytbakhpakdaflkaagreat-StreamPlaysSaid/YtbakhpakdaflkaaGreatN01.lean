/- stream: Streams in a law, with rows that none of them touches. the document's frame: four, Head, Window. the document's hash: left, stir, word. the document's hash: Sum. the document's frame: Sum. -/
import Derived.Deep.QuietTactic
import Derived.BigQuiet
import Derived.Test.YtbakhpakdaflkaaGreatL01
namespace Go.Proofs.YtbakhpakdaflkaaGreat.Str
open Go Go.RowKit Go.ChangeMaps Go.MapKept Go.Mg Go.Mt Go.Proofs.YtbakhpakdaflkaaGreat.Hu Go.Proofs.YtbakhpakdaflkaaGreat.Sq Go.Proofs.YtbakhpakdaflkaaGreat.Bk Go.Proofs.YtbakhpakdaflkaaGreat.Ma Go.Proofs.YtbakhpakdaflkaaGreat.Op

/-! ### parted writes -/
theorem take_take (S : Str) (p q : List UInt8) : take (take S p) q = take S (p ++ q) := by
  unfold take; simp only [List.append_assoc]
theorem enc_take {S : Str} {n : Nat} (h : n ≤ S.kept.length) (q : List UInt8) : enc (take S q) n = enc S n := by
  unfold enc take
  simp only [List.take_append_of_le_length h]
theorem blkO_take {S : Str} {n : Nat} (h : n ≤ S.kept.length) (q : List UInt8) (z : UInt8) : blkO (take S q) n z = blkO S n z := by
  unfold blkO
  rw [enc_take h]
  rfl
theorem blkS_take {S : Str} {n : Nat} (h : n ≤ S.kept.length) (q : List UInt8) : blkS (take S q) n = take (blkS S n) q := by
  have e := enc_take h q
  unfold blkS
  rw [e]
  unfold take
  simp only [List.take_append_of_le_length h, List.drop_append_of_le_length h]
theorem take_kept (S : Str) (p : List UInt8) : (take S p).kept.length = S.kept.length + p.length := by simp [take]
theorem run_take (q : List UInt8) : ∀ f (S : Str), S.kept.length ≤ f → ∀ g, S.kept.length + q.length ≤ g → runO g (take S q) = runO f S ++ wrO (runS f S) q ∧ runS g (take S q) = wrS (runS f S) q := by
  intro f
  induction f with
  | zero =>
    intro S h g hg
    have hs : ¬ 500 ≤ S.kept.length := by omega
    have := run_fuel g (S.kept.length + q.length) (take S q) (by rw [take_kept]; exact hg) (by rw [take_kept]; exact Nat.le_refl _)
    rw [(run_stop hs).1, (run_stop hs).2, this.1, this.2, List.nil_append]
    exact ⟨rfl, rfl⟩
  | succ f ih =>
    intro S h g hg
    by_cases hs : 500 ≤ S.kept.length
    · obtain ⟨g', rfl⟩ : ∃ g', g = g' + 1 := ⟨g - 1, by omega⟩
      have hst : 500 ≤ (take S q).kept.length := by rw [take_kept]; omega
      have hbk := blk_kept S 500
      have := ih (blkS S 500) (by omega) g' (by omega)
      simp only [runO, runS, if_pos hs, if_pos hst]
      rw [blkO_take hs, blkS_take hs, this.1, this.2, List.append_assoc]
      exact ⟨rfl, rfl⟩
    · have := run_fuel g (S.kept.length + q.length) (take S q) (by rw [take_kept]; exact hg) (by rw [take_kept]; exact Nat.le_refl _)
      rw [(run_stop hs).1, (run_stop hs).2, this.1, this.2, List.nil_append]
      exact ⟨rfl, rfl⟩
/-- How bytes are parted does not matter. -/
theorem wr_app (S : Str) (p q : List UInt8) : wrO S (p ++ q) = wrO S p ++ wrO (wrS S p) q ∧ wrS S (p ++ q) = wrS (wrS S p) q := by
  have := run_take q (S.kept.length + p.length) (take S p) (by rw [take_kept]; exact Nat.le_refl _) (S.kept.length + (p ++ q).length) (by rw [take_kept, List.length_append]; omega)
  rw [take_take] at this
  exact this
theorem wr_nil {S : Str} (h : S.kept.length < 500) : wrO S [] = [] ∧ wrS S [] = S := by
  have e : take S [] = S := by unfold take; simp only [List.append_nil]
  unfold wrO wrS
  rw [e]
  exact run_stop (by omega)

/-! ### one, two Streams -/
structure L1 (G : Nat → Prop) (w wx : World) (s : Nat) (S : Str) : Prop where
  ex : ∃ F, StAt F wx s S ∧ (∀ k, F k → w.heap.size ≤ k) ∧ ∀ k, G k → k < wx.heap.size ∧ ¬ (F k ∨ rd wx s k)
  kp : Kp (fun _ => False) w wx
structure L2 (G : Nat → Prop) (w wx : World) (s1 s2 : Nat) (S1 S2 : Str) : Prop where
  ex : ∃ F1 F2, StAt F1 wx s1 S1 ∧ StAt F2 wx s2 S2 ∧ (∀ k, F1 k → w.heap.size ≤ k) ∧ (∀ k, F2 k → w.heap.size ≤ k) ∧ (∀ k, F1 k ∨ rd wx s1 k → ¬ (F2 k ∨ rd wx s2 k)) ∧ ∀ k, G k → k < wx.heap.size ∧ ¬ (F1 k ∨ rd wx s1 k) ∧ ¬ (F2 k ∨ rd wx s2 k)
  kp : Kp (fun _ => False) w wx
theorem L2.swap {G : Nat → Prop} {w wx : World} {s1 s2 : Nat} {S1 S2 : Str} (h : L2 G w wx s1 s2 S1 S2) : L2 G w wx s2 s1 S2 S1 := by
  obtain ⟨⟨F1, F2, h1, h2, h3, h4, h5, h6⟩, h7⟩ := h
  exact ⟨⟨F2, F1, h2, h1, h4, h3, fun k q1 q2 => h5 k q2 q1, fun k q => ⟨(h6 k q).1, (h6 k q).2.2, (h6 k q).2.1⟩⟩, h7⟩
theorem L2.mono {G G' : Nat → Prop} {w wx : World} {s1 s2 : Nat} {S1 S2 : Str} (h : L2 G w wx s1 s2 S1 S2) (hG : ∀ k, G' k → G k) : L2 G' w wx s1 s2 S1 S2 := by
  obtain ⟨⟨F1, F2, h1, h2, h3, h4, h5, h6⟩, h7⟩ := h
  exact ⟨⟨F1, F2, h1, h2, h3, h4, h5, fun k q => h6 k (hG k q)⟩, h7⟩
theorem L1.mono {G G' : Nat → Prop} {w wx : World} {s : Nat} {S : Str} (h : L1 G w wx s S) (hG : ∀ k, G' k → G k) : L1 G' w wx s S := by
  obtain ⟨⟨F1, h1, h2, h3⟩, h7⟩ := h
  exact ⟨⟨F1, h1, h2, fun k q => h3 k (hG k q)⟩, h7⟩
theorem L2.kp0 {G : Nat → Prop} {w wx w' : World} {s1 s2 : Nat} {S1 S2 : Str} (h : L2 G w wx s1 s2 S1 S2) (hk : Kp (fun _ => False) wx w') : L2 G w w' s1 s2 S1 S2 := by
  obtain ⟨⟨F1, F2, h1, h2, h3, h4, h5, h6⟩, h7⟩ := h
  have hz := hk.size
  refine ⟨⟨F1, F2, h1.kp0 hk, h2.kp0 hk, h3, h4, fun k => ?_, fun k q => ?_⟩, h7.trans hk⟩
  · rw [rd_kp hk h1.lt (fun q => q), rd_kp hk h2.lt (fun q => q)]; exact h5 k
  · rw [rd_kp hk h1.lt (fun q => q), rd_kp hk h2.lt (fun q => q)]; exact ⟨by have := (h6 k q).1; omega, (h6 k q).2⟩
theorem L1.kp0 {G : Nat → Prop} {w wx w' : World} {s : Nat} {S : Str} (h : L1 G w wx s S) (hk : Kp (fun _ => False) wx w') : L1 G w w' s S := by
  obtain ⟨⟨F1, h1, h2, h3⟩, h7⟩ := h
  have hz := hk.size
  refine ⟨⟨F1, h1.kp0 hk, h2, fun k q => ?_⟩, h7.trans hk⟩
  rw [rd_kp hk h1.lt (fun q => q)]; exact ⟨by have := (h3 k q).1; omega, (h3 k q).2⟩
theorem L1.of_new {w wx w' : World} {S : Str} {e : Ending} (hk : Kp (fun _ => False) w wx) (G : Nat → Prop) (hG : ∀ k, G k → k < wx.heap.size) (h : NewRPost wx S e w') : ∃ s, e = .returned (.pointer (some ⟨s, 0, none⟩)) ∧ L1 G w w' s S := by
  obtain ⟨s, F, rfl, h1, h2, h3, h4⟩ := h
  have hz := hk.size
  have hz2 := h3.size
  refine ⟨s, rfl, ⟨F, h1, fun k q => by have := h2 k q; omega, fun k q => ⟨by have := hG k q; omega, fun q2 => ?_⟩⟩, hk.trans h3⟩
  have := hG k q
  rcases q2 with q2 | q2
  · have := h2 k q2; omega
  · have := h4 k q2; omega
theorem L2.of_new {G : Nat → Prop} {w wx w' : World} {s : Nat} {S1 S : Str} {e : Ending} (h0 : L1 G w wx s S1) (h : NewRPost wx S e w') : ∃ s', e = .returned (.pointer (some ⟨s', 0, none⟩)) ∧ L2 G w w' s s' S1 S := by
  obtain ⟨s', F, rfl, h1, h2, h3, h4⟩ := h
  obtain ⟨⟨F1, g1, g2, g3⟩, g4⟩ := h0
  have hz := g4.size
  have hz2 := h3.size
  have hlt : ∀ k, F k ∨ rd w' s' k → wx.heap.size ≤ k := fun k q => q.elim (h2 k) (h4 k)
  refine ⟨s', rfl, ⟨F1, F, g1.kp0 h3, h1, g2, fun k q => by have := h2 k q; omega, fun k q1 q2 => ?_, fun k q => ⟨by have := (g3 k q).1; omega, fun q1 => ?_, fun q2 => ?_⟩⟩, g4.trans h3⟩
  · rw [rd_kp h3 g1.lt (fun q => q)] at q1
    have := hlt k q2
    rcases q1 with q1 | q1
    · have := g1.fl k q1; omega
    · have := (g1.rd_lt q1).1; omega
  · rw [rd_kp h3 g1.lt (fun q => q)] at q1
    exact (g3 k q).2 q1
  · have := hlt k q2; have := (g3 k q).1; omega
/-- What a step of one leaves. -/
def Out1 (G : Nat → Prop) (w wx : World) (s : Nat) (O : List UInt8) (S' : Str) (e : Ending) (w' : World) : Prop :=
  ∃ a c, e = .returned (.slice a O.length c) ∧ RowB wx.heap.size w' (.slice a O.length c) O ∧ L1 (fun k => G k ∨ (Value.slice a O.length c).ownBlock = some k) w w' s S' ∧ Kp (fun k => w.heap.size ≤ k ∧ ¬ G k) wx w'
def Out2 (G : Nat → Prop) (w wx : World) (s1 s2 : Nat) (O : List UInt8) (S1 S2 : Str) (e : Ending) (w' : World) : Prop :=
  ∃ a c, e = .returned (.slice a O.length c) ∧ RowB wx.heap.size w' (.slice a O.length c) O ∧ L2 (fun k => G k ∨ (Value.slice a O.length c).ownBlock = some k) w w' s1 s2 S1 S2 ∧ Kp (fun k => w.heap.size ≤ k ∧ ¬ G k) wx w'
theorem row_lt {n : Nat} {w : World} {a : Option Addr} {k c : Nat} {O : List UInt8} (h : RowB n w (.slice a k c) O) {b : Nat} (hb : (Value.slice a k c).ownBlock = some b) : n ≤ b ∧ b < w.heap.size := by
  obtain ⟨_, _, e, h1, h2⟩ := h
  rw [e] at hb
  exact ⟨h2 b (by rw [e]; exact hb), h1.lt (by rw [e]; exact hb)⟩
theorem L1.step {G : Nat → Prop} {w wx w' : World} {s : Nat} {S S' : Str} {O : List UInt8} {e : Ending} {F : Nat → Prop} (_ : StAt F wx s S) (h2 : ∀ k, F k → w.heap.size ≤ k) (h3 : ∀ k, G k → k < wx.heap.size ∧ ¬ (F k ∨ rd wx s k)) (h4 : Kp (fun _ => False) w wx) (h : OutPost F wx s O S' e w') : Out1 G w wx s O S' e w' := by
  obtain ⟨a, c, F', rfl, q1, q2, q3, q4, q5, q6⟩ := h
  have hz := h4.size
  have hz2 := q4.size
  refine ⟨a, c, rfl, q1, ⟨⟨F', q3, fun k q => ?_, fun k q => ?_⟩, h4.trans2 q4 (fun i hi q => by have := h2 i q; omega)⟩, q4.mono fun k _ q => ⟨h2 k q, fun g => (h3 k g).2 (.inl q)⟩⟩
  · rcases q5 k q with q | q
    · exact h2 k q
    · omega
  · rcases q with q | q
    · have := h3 k q
      refine ⟨by omega, fun q8 => ?_⟩
      rcases q8 with q8 | q8
      · rcases q5 k q8 with q9 | q9
        · exact this.2 (.inl q9)
        · omega
      · rcases q6 k q8 with q9 | q9
        · exact this.2 (.inr q9)
        · omega
    · refine ⟨(row_lt q1 q).2, fun q8 => ?_⟩
      rcases q8 with q8 | q8
      · exact (q2 k q).1 q8
      · exact (q2 k q).2 q8
theorem L2.step {G : Nat → Prop} {w wx w' : World} {s s2 : Nat} {S S' S2 : Str} {O : List UInt8} {e : Ending} {F F2 : Nat → Prop} (_ : StAt F wx s S) (g1 : StAt F2 wx s2 S2) (h2 : ∀ k, F k → w.heap.size ≤ k) (g2 : ∀ k, F2 k → w.heap.size ≤ k) (hd : ∀ k, F k ∨ rd wx s k → ¬ (F2 k ∨ rd wx s2 k))
    (h3 : ∀ k, G k → k < wx.heap.size ∧ ¬ (F k ∨ rd wx s k) ∧ ¬ (F2 k ∨ rd wx s2 k)) (h4 : Kp (fun _ => False) w wx) (h : OutPost F wx s O S' e w') : Out2 G w wx s s2 O S' S2 e w' := by
  obtain ⟨a, c, F', rfl, q1, q2, q3, q4, q5, q6⟩ := h
  have hz := h4.size
  have hz2 := q4.size
  have g1' := g1.kpR q4 (fun k a b => hd k (.inl b) (.inl a)) (fun k a b => hd k (.inl b) (.inr a))
  have hs2 : ¬ F s2 := fun q => hd s2 (.inl q) (.inl g1.fs)
  have hrd : ∀ k, rd w' s2 k ↔ rd wx s2 k := fun k => rd_kp q4 g1.lt hs2
  have hl2 : ∀ k, F2 k ∨ rd w' s2 k → k < wx.heap.size ∧ (F2 k ∨ rd wx s2 k) := fun k q => by
    rw [hrd] at q
    rcases q with q | q
    · exact ⟨g1.fl k q, .inl q⟩
    · exact ⟨(g1.rd_lt q).1, .inr q⟩
  have hn : ∀ k, F' k ∨ rd w' s k → (F k ∨ rd wx s k) ∨ wx.heap.size ≤ k := fun k q => by
    rcases q with q | q
    · rcases q5 k q with q | q
      · exact .inl (.inl q)
      · exact .inr q
    · rcases q6 k q with q | q
      · exact .inl (.inr q)
      · exact .inr q
  refine ⟨a, c, rfl, q1, ⟨⟨F', F2, q3, g1', fun k q => ?_, g2, fun k q r => ?_, fun k q => ?_⟩, h4.trans2 q4 (fun i hi q => by have := h2 i q; omega)⟩, q4.mono fun k _ q => ⟨h2 k q, fun g => (h3 k g).2.1 (.inl q)⟩⟩
  · rcases q5 k q with q | q
    · exact h2 k q
    · omega
  · have := hl2 k r
    rcases hn k q with q | q
    · exact hd k q this.2
    · omega
  · rcases q with q | q
    · have := h3 k q
      refine ⟨by omega, fun q8 => ?_, fun q8 => this.2.2 (hl2 k q8).2⟩
      rcases hn k q8 with q9 | q9
      · exact this.2.1 q9
      · omega
    · have h9 := row_lt q1 q
      refine ⟨h9.2, fun q8 => ?_, fun q8 => by have := hl2 k q8; omega⟩
      rcases q8 with q8 | q8
      · exact (q2 k q).1 q8
      · exact (q2 k q).2 q8
/-- A row is appended to. -/
theorem L2.app {G : Nat → Prop} {w w2 w3 : World} {s1 s2 : Nat} {S1 S2 : Str} {v v' : Value} {n : Nat} {xs : List Value} (h : L2 G w w2 s1 s2 S1 S2) (hv : ∀ k, v.ownBlock = some k → G k ∧ w.heap.size ≤ k) (hk : Kp (fun k => v.ownBlock = some k) w2 w3) (h1 : OwnR w3 5 1 v' n xs) (h2 : v'.ownBlock = v.ownBlock ∨ v'.ownBlock = some w2.heap.size) :
    L2 (fun k => G k ∨ v'.ownBlock = some k) w w3 s1 s2 S1 S2 := by
  obtain ⟨⟨F1, F2, a1, a2, a3, a4, a5, a6⟩, a7⟩ := h
  have hz := hk.size
  have n1 : ∀ k, F1 k ∨ rd w2 s1 k → ¬ v.ownBlock = some k := fun k q r => (a6 k (hv k r).1).2.1 q
  have n2 : ∀ k, F2 k ∨ rd w2 s2 k → ¬ v.ownBlock = some k := fun k q r => (a6 k (hv k r).1).2.2 q
  have r1 : ∀ k, rd w3 s1 k ↔ rd w2 s1 k := fun k => rd_kp hk a1.lt (n1 _ (.inl a1.fs))
  have r2 : ∀ k, rd w3 s2 k ↔ rd w2 s2 k := fun k => rd_kp hk a2.lt (n2 _ (.inl a2.fs))
  refine ⟨⟨F1, F2, a1.kpR hk (fun k q => n1 k (.inl q)) (fun k q => n1 k (.inr q)), a2.kpR hk (fun k q => n2 k (.inl q)) (fun k q => n2 k (.inr q)), a3, a4, fun k => ?_, fun k q => ?_⟩, a7.trans2 hk (fun i hi q => by have := (hv i q).2; omega)⟩
  · rw [r1, r2]; exact a5 k
  · rw [r1, r2]
    have hG : ∀ k, G k → k < w3.heap.size ∧ ¬ (F1 k ∨ rd w2 s1 k) ∧ ¬ (F2 k ∨ rd w2 s2 k) := fun k q => ⟨by have := (a6 k q).1; omega, (a6 k q).2⟩
    rcases q with q | q
    · exact hG k q
    · rcases h2 with e | e
      · exact hG k (hv k (e.symm.trans q)).1
      · rw [q] at e
        simp only [Option.some.injEq] at e
        subst e
        refine ⟨h1.lt q, fun r => ?_, fun r => ?_⟩
        · rcases r with r | r
          · exact Nat.lt_irrefl _ (a1.fl _ r)
          · exact Nat.lt_irrefl _ (a1.rd_lt r).1
        · rcases r with r | r
          · exact Nat.lt_irrefl _ (a2.fl _ r)
          · exact Nat.lt_irrefl _ (a2.rd_lt r).1
/-! ### calls -/
section
variable {G : Nat → Prop} {w wx : World} {s s2 : Nat} {S S2 : Str}
theorem write1 (h : L1 G w wx s S) (he : S.ended = false) (p : List UInt8) (ap : Option Addr) (cp : Nat) (hp : SlR w 1 (.slice ap p.length cp) p.length (p.map u8c)) (hw : S.Wf 40000) (hpl : p.length ≤ 40000) :
    Calls Tryz.prog 13 #[.pointer (some ⟨s, 0, none⟩), .slice ap p.length cp] wx (Out1 G w wx s (wrO S p) (wrS S p)) := by
  obtain ⟨⟨F, h1, h2, h3⟩, h4⟩ := h
  exact (write_go h1 he p ap cp (hp.kp h4 (fun _ _ q => q)) (fun h0 b hb q => by have := sl_lt hp h0 hb; have := h2 b q; omega) hw hpl).mono (fun e w' q => L1.step h1 h2 h3 h4 q)
theorem end1 (h : L1 G w wx s S) (he : S.ended = false) (hk5 : S.kept.length ≤ 500) (hw : S.Wf 100000) :
    Calls Tryz.prog 18 #[.pointer (some ⟨s, 0, none⟩)] wx (Out1 G w wx s (endO S) (endS' S)) := by
  obtain ⟨⟨F, h1, h2, h3⟩, h4⟩ := h
  exact (end_go h1 he hk5 hw).mono (fun e w' q => L1.step h1 h2 h3 h4 q)
theorem row_nil (n : Nat) (w : World) : RowB n w (.slice none 0 0) [] := RowM.nil _ _ _
theorem flush1 (h : L1 G w wx s S) (he : S.ended = false) (hk5 : S.kept.length ≤ 500) (hw : S.Wf 100000) :
    Calls Tryz.prog 14 #[.pointer (some ⟨s, 0, none⟩)] wx (Out1 G w wx s (flO S) (flS S)) := by
  have h' := h
  obtain ⟨⟨F, h1, h2, h3⟩, h4⟩ := h
  by_cases h0 : S.kept.length = 0
  · refine (flush_no h1 (.inr h0)).mono ?_
    rintro e w' ⟨rfl, rfl⟩
    unfold flO flS
    rw [if_pos h0, if_pos h0]
    exact ⟨none, 0, rfl, RowM.nil _ _ _, h'.mono (fun k q => q.elim id (fun q => by cases q)), (Kp.refl _ _)⟩
  · unfold flO flS
    rw [if_neg h0, if_neg h0]
    exact (flush_go h1 he (by omega) hk5 hw).mono (fun e w' q => L1.step h1 h2 h3 h4 q)
theorem write2 (h : L2 G w wx s s2 S S2) (he : S.ended = false) (p : List UInt8) (ap : Option Addr) (cp : Nat) (hp : SlR w 1 (.slice ap p.length cp) p.length (p.map u8c)) (hw : S.Wf 40000) (hpl : p.length ≤ 40000) :
    Calls Tryz.prog 13 #[.pointer (some ⟨s, 0, none⟩), .slice ap p.length cp] wx (Out2 G w wx s s2 (wrO S p) (wrS S p) S2) := by
  obtain ⟨⟨F1, F2, h1, h2, h3, h4, h5, h6⟩, h7⟩ := h
  exact (write_go h1 he p ap cp (hp.kp h7 (fun _ _ q => q)) (fun h0 b hb q => by have := sl_lt hp h0 hb; have := h3 b q; omega) hw hpl).mono (fun e w' q => L2.step h1 h2 h3 h4 h5 h6 h7 q)
theorem end2 (h : L2 G w wx s s2 S S2) (he : S.ended = false) (hk5 : S.kept.length ≤ 500) (hw : S.Wf 100000) :
    Calls Tryz.prog 18 #[.pointer (some ⟨s, 0, none⟩)] wx (Out2 G w wx s s2 (endO S) (endS' S) S2) := by
  obtain ⟨⟨F1, F2, h1, h2, h3, h4, h5, h6⟩, h7⟩ := h
  exact (end_go h1 he hk5 hw).mono (fun e w' q => L2.step h1 h2 h3 h4 h5 h6 h7 q)
theorem flush2 (h : L2 G w wx s s2 S S2) (he : S.ended = false) (hk5 : S.kept.length ≤ 500) (hw : S.Wf 100000) :
    Calls Tryz.prog 14 #[.pointer (some ⟨s, 0, none⟩)] wx (Out2 G w wx s s2 (flO S) (flS S) S2) := by
  have h' := h
  obtain ⟨⟨F1, F2, h1, h2, h3, h4, h5, h6⟩, h7⟩ := h
  by_cases h0 : S.kept.length = 0
  · refine (flush_no h1 (.inr h0)).mono ?_
    rintro e w' ⟨rfl, rfl⟩
    unfold flO flS
    rw [if_pos h0, if_pos h0]
    exact ⟨none, 0, rfl, RowM.nil _ _ _, h'.mono (fun k q => q.elim id (fun q => by cases q)), (Kp.refl _ _)⟩
  · unfold flO flS
    rw [if_neg h0, if_neg h0]
    exact (flush_go h1 he (by omega) hk5 hw).mono (fun e w' q => L2.step h1 h2 h3 h4 h5 h6 h7 q)
theorem Out2.swap {O : List UInt8} {S1 : Str} {e : Ending} {w' : World} (h : Out2 G w wx s s2 O S1 S2 e w') : ∃ a c, e = .returned (.slice a O.length c) ∧ RowB wx.heap.size w' (.slice a O.length c) O ∧ L2 (fun k => G k ∨ (Value.slice a O.length c).ownBlock = some k) w w' s2 s S2 S1 ∧ Kp (fun k => w.heap.size ≤ k ∧ ¬ G k) wx w' := by
  obtain ⟨a, c, h1, h2, h3, h4⟩ := h
  exact ⟨a, c, h1, h2, h3.swap, h4⟩
end
/-- A new Stream of level lv; what it reads is new too. -/
theorem new_lvR (w : World) (dict : List UInt8) (a : Option Addr) (c : Nat) (id : Nat) (lv : Int) (dl : Nat) (h1 : 1 ≤ lv) (h2 : lv ≤ 3) (hd : dep lv = (dl : Nat)) (h : SlR w 1 (.slice a dict.length c) dict.length (dict.map u8c)) (h3 : id ≤ 2147483647) (h4 : dict.length ≤ 2000) :
    Calls Tryz.prog 12 #[.slice a dict.length c, .int .i64 (id : Nat), .int .i64 lv] w (NewRPost w (S0 id dl dict)) := by
  have hd1 : 1 ≤ dl ∧ dl ≤ 32 := by
    have : lv = 1 ∨ lv = 2 ∨ lv = 3 := by omega
    rcases this with rfl | rfl | rfl
    · rw [show dep 1 = ((1 : Nat) : Int) from rfl] at hd; omega
    · rw [show dep 2 = ((8 : Nat) : Int) from rfl] at hd; omega
    · rw [show dep 3 = ((32 : Nat) : Int) from rfl] at hd; omega
  exact new_r w dict a c id lv dl hd h (by omega) h3 h4
theorem dep_lv {lv : Int} (h1 : 1 ≤ lv) (h2 : lv ≤ 3) : ∃ dl : Nat, (1 ≤ dl ∧ dl ≤ 32) ∧ dep lv = (dl : Nat) := by
  have : lv = 1 ∨ lv = 2 ∨ lv = 3 := by omega
  rcases this with rfl | rfl | rfl
  · exact ⟨1, by omega, rfl⟩
  · exact ⟨8, by omega, rfl⟩
  · exact ⟨32, by omega, rfl⟩
end Go.Proofs.YtbakhpakdaflkaaGreat.Str
namespace Go.Proofs.YtbakhpakdaflkaaGreat.Str
open Go Go.RowKit Go.ChangeMaps Go.MapKept Go.Mg Go.Mt Go.Proofs.YtbakhpakdaflkaaGreat.Ma

theorem four_row (w : World) (n : Nat) : RowM 5 u8c w.heap.size (w.alloc (.cells #[.int .u8 ((n : Int) % 256), .int .u8 ((n : Int) / 256 % 256), .int .u8 ((n : Int) / 65536 % 256), .int .u8 ((n : Int) / 16777216 % 256)] 5)) (.slice (some ⟨w.heap.size, 0, none⟩) 4 4) (lowB n) := by
  have e : (lowB n).map u8c = [.int .u8 ((n : Int) % 256), .int .u8 ((n : Int) / 256 % 256), .int .u8 ((n : Int) / 65536 % 256), .int .u8 ((n : Int) / 16777216 % 256)] := by
    have h := low_val n
    have h0 := h 0
    have h1 := h 1
    have h2 := h 2
    have h3 := h 3
    simp only [Nat.mul_zero, Int.pow_zero, Int.ediv_one] at h0
    have hl : lowB n = [UInt8.ofNat (n / 2 ^ (8 * 0)), UInt8.ofNat (n / 2 ^ (8 * 1)), UInt8.ofNat (n / 2 ^ (8 * 2)), UInt8.ofNat (n / 2 ^ (8 * 3))] := rfl
    rw [hl]
    simp only [List.map_cons, List.map_nil]
    rw [h0, h1, h2, h3]
    rfl
  refine ⟨_, _, by rw [lowB_len], ?_, fun k hk => by have := own_b hk; omega⟩
  rw [lowB_len, e]
  exact ⟨by simp, .inr ⟨w.heap.size, 4, _, (0, 0), rfl, alloc_at w _, .inl rfl, by decide, by unfold maxLen; omega, rfl, rfl⟩⟩
set_option maxRecDepth 100000 in
set_option maxHeartbeats 1000000 in
theorem four_d (w : World) (n : Nat) (_ : n < 9223372036854775808) : Calls Tryz.prog 33 #[.int .i64 (n : Nat)] w (LowPost w n) := by
  have HR := Lib.hid (four_row w n)
  go_enter Tryz.func33, Tryz.ntmps33
  go_wp2_with fail
  go_ret
  exact ⟨_, _, rfl, HR.out, kp_alloc _ _⟩
set_option maxRecDepth 100000 in
set_option maxHeartbeats 1000000 in
theorem head_d (w : World) (id : Nat) (hid : id ≤ 2147483647) : Calls Tryz.prog 16 #[.int .i64 (id : Nat)] w (HeadPost w id) := by
  obtain ⟨j0, hj0, hy0, hy1, hy2⟩ := info_parts infoU8c
  have LO := Lib.hid (fun V => four_d V id (by omega))
  have TI := Lib.hid (title_row w)
  have KA := Lib.hid (kp_alloc w (.cells #[.int .u8 77, .int .u8 78, .int .u8 71, .int .u8 76] 5 (4, 5)))
  have kc := fun (w : World) (C : Array Value) (n c : Nat) => Lib.run_convert_bytes_const (P := Tryz.prog) w 24 5 C n c Tryz.underlying24 Tryz.underlying5
  have HH : Hid (headB id = [77, 78, 71, 76] ++ lowB id) := Lib.hid rfl
  have HL := Lib.hid (lowB_len id)
  clear hid
  go_enter Tryz.func16, Tryz.ntmps16
  go_wp2_with fail
  refine (LO.out _).mono ?_
  rintro e w1 ⟨a1, c1, rfl, p1, p2⟩
  have TI1 := Lib.hid (TI.out.kp p2 (fun _ q => q.elim))
  have K1 := Lib.hid (KA.out.trans p2)
  obtain ⟨_, _, e1, p3, _⟩ := p1
  simp only [Value.slice.injEq] at e1
  obtain ⟨rfl, _, rfl⟩ := e1
  have P3 := Lib.hid p3.sl
  rw [HL.out] at P3
  clear p2 p3
  go_wp2_with (at_builtin; refine wpList_appM (w0 := w) _ rfl _ _ 24 rfl 5 j0 _ 1 Tryz.underlying24 hj0 hy0 hy1 hy2 rfl (by decide) (by decide) u8c_1c (.slice (some ⟨w.heap.size, 0, none⟩) 4 4) [77, 78, 71, 76] rfl TI1.out (.slice a1 4 c1) 4 (lowB id) rfl P3.out HL.out K1.out 8 rfl (by omega) ?_; intro a5 c5 w5 g1 g2 _; have G1 := Lib.hid g1; have G2 := Lib.hid g2; clear g1 g2)
  go_ret
  exact ⟨a5, c5, rfl, by rw [HH.out]; exact G1.out, G2.out⟩
theorem nilB_row (w : World) : RowM 5 u8c w.heap.size (w.alloc (.cells #[] 5)) (.slice (some ⟨w.heap.size, 0, none⟩) 0 0) [] :=
  ⟨_, _, rfl, own_none w 5 1, fun k hk => by have := own_b hk; omega⟩
set_option maxRecDepth 100000 in
set_option maxHeartbeats 1000000 in
theorem window_d (w : World) (p d : List UInt8) (ap : Option Addr) (cp : Nat) (hp : SlR w 1 (.slice ap p.length cp) p.length (p.map u8c)) (ad : Option Addr) (cd : Nat) (hd : SlR w 1 (.slice ad d.length cd) d.length (d.map u8c)) (hl : p.length + d.length ≤ 100000) :
    Calls Tryz.prog 52 #[.slice ap p.length cp, .slice ad d.length cd] w (WinPost w (win p d)) := by
  obtain ⟨j0, hj0, hy0, hy1, hy2⟩ := info_parts infoU8c
  have ka := kp_alloc w (.cells #[] 5)
  have HP := Lib.hid (hp.kp ka (fun _ _ q => q))
  have HD := Lib.hid hd
  have HN := Lib.hid (nilB_row w)
  have KA := Lib.hid ka
  have HW : Hid (win p d = (p ++ d).drop ((p ++ d).length - 2000)) := Lib.hid rfl
  obtain ⟨pn, hpn⟩ : ∃ n, n = p.length := ⟨_, rfl⟩
  obtain ⟨dn, hdn⟩ : ∃ n, n = d.length := ⟨_, rfl⟩
  have HPN := Lib.hid hpn
  have HDN := Lib.hid hdn
  rw [← hpn] at HP hl ⊢
  rw [← hdn] at HD hl ⊢
  obtain ⟨l, hll⟩ : ∃ l, l = p ++ d := ⟨_, rfl⟩
  have HLL := Lib.hid hll
  have HLN : Hid (l.length = pn + dn) := Lib.hid (by rw [hll, List.length_append, hpn, hdn])
  rw [← hll] at HW
  obtain ⟨r, hr⟩ : ∃ r, r = win p d := ⟨_, rfl⟩
  rw [← hr] at HW ⊢
  clear hp hd ka hll hr hpn hdn
  go_enter Tryz.func52, Tryz.ntmps52
  go_upto_region 2 with (at_builtin; first
    | (refine wpList_appM (w0 := w) _ rfl (.tmp 6) (.tmp 7) 24 rfl 5 j0 _ 1 Tryz.underlying24 hj0 hy0 hy1 hy2 rfl (by decide) (by decide) u8c_1c (.slice (some ⟨w.heap.size, 0, none⟩) 0 0) [] rfl HN.out (.slice ap pn cp) pn p rfl HP.out HPN.out.symm KA.out pn (by simp) (by omega) ?_; intro a5 c5 w5 g1 g2 g3; rw [List.nil_append] at g1; have G1 := Lib.hid g1; have HD1 := Lib.hid (HD.out.kp g2 (fun _ _ q => q)); have G2 := Lib.hid g2; clear g1 g2 g3)
    | (refine wpList_appM (w0 := w) _ rfl (.tmp 8) (.tmp 9) 24 rfl 5 j0 _ 1 Tryz.underlying24 hj0 hy0 hy1 hy2 rfl (by decide) (by decide) u8c_1c (.slice a5 pn c5) p rfl G1.out (.slice ad dn cd) dn d rfl HD1.out HDN.out.symm G2.out (pn + dn) (by rw [HPN.out]) (by omega) ?_; intro a6 c6 w6 g1 g2 g3; rw [← HLL.out] at g1; have G6 := Lib.hid g1; have K6 := Lib.hid g2; clear g1 g2 g3))
  obtain ⟨n, hn⟩ : ∃ n, n = pn + dn := ⟨_, rfl⟩
  have HB := Lib.hid (fun (b : Nat) (hb : (Value.slice a6 (pn + dn) c6).ownBlock = some b) => RowM.lt G6.out hb)
  have HS := Lib.hid (RowM.sl G6.out).1
  rw [HLN.out] at HS
  rw [← hn] at HB HS HLN ⊢
  obtain ⟨a2, c2, h1, h2, h3⟩ := HS.out.from_ Tryz.underlying24 u8size (k := n - 2000) (by omega)
  have HB2 := Lib.hid h3
  have HS2 := Lib.hid h2
  obtain ⟨k, hk⟩ : ∃ k, k = n - 2000 := ⟨_, rfl⟩
  rw [← hk] at h1 HB2 HS2
  have hw1 : IntKind.i64.wrap ((n : Int) - 2000) = (n : Int) - 2000 := by rw [IntKind.wrap_i64]; omega
  have HW2 : Hid (r = l.drop k) := Lib.hid (by rw [HW.out, HLN.out, hk])
  have HRL : Hid (n - k = r.length) := Lib.hid (by rw [HW2.out, List.length_drop, HLN.out])
  have hmx : max (0 : Int) ((n : Int) - 2000) = ((k : Nat) : Int) := by omega
  clear h2 h3 hk hn G6 G1 HD1
  go_wp2_with fail
  go_ret
  have HRL := HRL.out
  have HS2 := HS2.out
  rw [HRL] at HS2
  refine ⟨a2, c2, by rw [← HRL]; rfl, ?_, fun b hb => ?_, K6.out⟩
  · rw [HW2.out]
    rw [HW2.out] at HS2
    simpa using HS2
  · have h1 := HB2.out b (by rw [HRL]; exact hb)
    exact HB.out b h1
end Go.Proofs.YtbakhpakdaflkaaGreat.Str
namespace Go.Proofs.YtbakhpakdaflkaaGreat.Str
open Go Go.RowKit Go.ChangeMaps Go.MapKept Go.Mg Go.Mt Go.Proofs.YtbakhpakdaflkaaGreat.Ma

set_option maxRecDepth 100000 in
theorem left_d (w : World) (x : Int) (k : Nat) (hk : Turn k) :
    Calls Tryz.prog 48 #[.int .u64 x, .int .u64 (k : Nat)] w fun e w' => e = .returned (.int .u64 (rl x k)) ∧ w' = w := by
  rcases hk with rfl | rfl | rfl | rfl | rfl | rfl | rfl | rfl
  all_goals (
    go_enter Tryz.func48, Tryz.ntmps48
    go_wp2_with fail
    go_ret
    refine ⟨?_, rfl⟩
    rfl)
set_option maxRecDepth 100000 in
theorem stir_d (w : World) (x v : Int) :
    Calls Tryz.prog 46 #[.int .u64 x, .int .u64 v] w fun e w' => e = .returned (.int .u64 (stirI x v)) ∧ w' = w := by
  have R := Lib.hid (fun y => left_d w y 31 (by unfold Turn; omega))
  go_enter Tryz.func46, Tryz.ntmps46
  go_wp2_with fail
  refine (R.out _).mono ?_
  rintro e w1 ⟨rfl, rfl⟩
  go_wp2_with fail
  go_ret
  exact ⟨rfl, rfl⟩
theorem numN_cons (l : List UInt8) : ∀ k, numN l (k + 1) = byt l 0 + 256 * numN (l.drop 1) k
  | 0 => by simp [numN]
  | k + 1 => by
    have ih := numN_cons l k
    have e : byt (l.drop 1) k = byt l (k + 1) := by simp [byt]
    have h1 : numN l (k + 1 + 1) = numN l (k + 1) + byt l (k + 1) * 256 ^ (k + 1) := rfl
    have h2 : numN (l.drop 1) (k + 1) = numN (l.drop 1) k + byt (l.drop 1) k * 256 ^ k := rfl
    rw [h1, h2, ih, e, Nat.pow_succ, Nat.mul_add, Nat.add_assoc]
    congr 2
    rw [← Nat.mul_assoc, Nat.mul_comm]
theorem numN_drop (l : List UInt8) (j k : Nat) : numN (l.drop j) (k + 1) = byt l j + 256 * numN (l.drop (j + 1)) k := by
  rw [numN_cons, List.drop_drop]
  congr 1
  simp [byt]
theorem or_num_d (l : List UInt8) (j k : Nat) (hk : k < 8) : bits .or .u64 (IntKind.u64.wrap (((numN (l.drop (j + 1)) k : Nat) : Int) * 256)) (byt l j : Nat) = (numN (l.drop j) (k + 1) : Nat) := by
  have h1 := numN_lt (l.drop (j + 1)) k
  have h2 := byt_lt l j
  have hp : (256 : Nat) ^ k ≤ 256 ^ 7 := Nat.pow_le_pow_right (by omega) (by omega)
  generalize hm : numN (l.drop (j + 1)) k = m at *
  generalize hb : byt l j = b at *
  have hm2 : m * 256 < 2 ^ 64 := by omega
  have ew : IntKind.u64.wrap ((m : Int) * 256) = ((m * 256 : Nat) : Int) := by
    have ec : ((m : Int) * 256) = ((m * 256 : Nat) : Int) := (Int.natCast_mul m 256).symm
    rw [ec]
    exact wraps_u64 _ (by omega) (by exact_mod_cast hm2)
  rw [ew]
  have := (bits_nat .u64 64 (by decide) wraps_u64 (m * 256) b hm2 (by omega)).2
  rw [this, numN_drop, hm, hb, Nat.mul_comm m 256, show (256 : Nat) = 2 ^ 8 from rfl, ← Nat.two_pow_add_eq_or_of_lt (i := 8) (by omega) m]
  congr 1
  omega
set_option maxRecDepth 100000 in
set_option maxHeartbeats 1000000 in
theorem word_d (w : World) (l : List UInt8) (a : Option Addr) (c : Nat) (h : SlR w 1 (.slice a l.length c) l.length (l.map u8c)) (n : Nat) (h0 : 0 < n) (hl : n ≤ 8) (hn : n ≤ l.length) :
    Calls Tryz.prog 47 #[.slice a l.length c, .int .i64 (n : Nat)] w fun e w' => e = .returned (.int .u64 (numN l n : Nat)) ∧ w' = w := by
  obtain ⟨g, o, rfl, hg, hcap, hc⟩ := byts_at h (by omega)
  have HC := Lib.hid hc
  have HO := Lib.hid (fun j k hk => or_num_d l j k hk)
  have HL := Lib.hid (byt_lt l)
  obtain ⟨N, hN⟩ : ∃ N : Nat → Nat → Nat, N = fun j k => numN (l.drop j) k := ⟨_, rfl⟩
  have HZ : Hid (∀ j, N j 0 = 0) := Lib.hid (by rw [hN]; intro j; rfl)
  have HE : Hid (numN l n = N 0 n) := Lib.hid (by rw [hN]; rfl)
  have HO : Hid (∀ j k, k < 8 → bits .or .u64 (IntKind.u64.wrap (((N (j + 1) k : Nat) : Int) * 256)) (byt l j : Nat) = (N j (k + 1) : Nat)) := Lib.hid (by rw [hN]; exact HO.out)
  obtain ⟨A, hA⟩ : ∃ A, A = byt l := ⟨_, rfl⟩
  obtain ⟨m, hm⟩ : ∃ m, m = l.length := ⟨_, rfl⟩
  rw [← hA, ← hm] at HC
  rw [← hA] at HO
  rw [← hA] at HL
  rw [HE.out, ← hm]
  rw [← hm] at hn hcap
  clear h hc hN hA hm HE
  have hn1 : IntKind.i64.wrap ((n : Int) - 1) = (n : Int) - 1 := by rw [IntKind.wrap_i64]; omega
  go_enter Tryz.func47, Tryz.ntmps47
  go_wp2_with fail
  go_loopw [5, 6] (fun x i wr => ∃ j : Nat, j ≤ n ∧ i = .int .i64 ((j : Int) - 1) ∧ x = .int .u64 (N j (n - j) : Nat) ∧ wr = w) (fun _ i _ => (intOf i + 1).toNat)
  case atStart => exact ⟨n, Nat.le_refl _, rfl, by rw [Nat.sub_self, HZ.out]; rfl, rfl⟩
  case round =>
    obtain ⟨j, hj, rfl, rfl, hwr⟩ := hrel
    obtain rfl := hwr
    by_cases hlt : 0 < j
    · obtain ⟨k, rfl⟩ : ∃ k, j = k + 1 := ⟨j - 1, by omega⟩
      have d0 := HC.out k (by omega)
      have ho := Lib.hid (HO.out k (n - (k + 1)) (by omega))
      have hx := HL.out k
      have he : n - (k + 1) + 1 = n - k := by omega
      have hkk : (((k + 1 : Nat) : Int) - 1) = (k : Int) := by omega
      rw [hkk]
      generalize A k = x at *
      have hge : decide ((0 : Int) ≤ (k : Int)) = true := decide_eq_true (by omega)
      have hge0 : (0 : Int) ≤ (k : Int) := by omega
      have hux : IntKind.u64.wrap (x : Int) = (x : Int) := wraps_u64 _ (by omega) (by omega)
      have hk1 : IntKind.i64.wrap ((k : Int) - 1) = (k : Int) - 1 := by rw [IntKind.wrap_i64]; omega
      have hkm : (k : Int) < (m : Int) := by omega
      go_wp2_with fail
      exact ⟨⟨k, by omega, rfl, by rw [← he, ← ho.out], trivial⟩, by simp [intOf]⟩
    · obtain rfl : j = 0 := by omega
      have hge : decide ((0 : Int) ≤ (((0 : Nat) : Int) - 1)) = false := by decide
      go_wp2_with fail
      go_ret
      exact ⟨rfl, rfl⟩
end Go.Proofs.YtbakhpakdaflkaaGreat.Str
namespace Go.Proofs.YtbakhpakdaflkaaGreat.Str
open Go Go.RowKit Go.ChangeMaps Go.MapKept Go.Mg Go.Mt Go.Proofs.YtbakhpakdaflkaaGreat.Ma

def LaneD (w : World) (g : Nat) (L : Nat → Int) : Prop := w.heap[g]? = some (.cells #[.int .u64 (L 0), .int .u64 (L 1), .int .u64 (L 2), .int .u64 (L 3)] 58 (0, 0))
theorem LaneD.kp {F : Nat → Prop} {w w' : World} {g : Nat} {L : Nat → Int} (h : LaneD w g L) (hk : Kp F w w') (hF : ¬ F g) : LaneD w' g L := hk.at_ h hF
theorem LaneD.cell {w : World} {g : Nat} {L : Nat → Int} (h : LaneD w g L) {i : Nat} (hi : i < 4) : w.cell? ⟨g, i, none⟩ = some (.int .u64 (L i)) := by
  rw [cell_of h]
  have : i = 0 ∨ i = 1 ∨ i = 2 ∨ i = 3 := by omega
  rcases this with rfl | rfl | rfl | rfl <;> rfl
theorem LaneD.set {w : World} {g : Nat} {L : Nat → Int} (h : LaneD w g L) {i : Nat} (hi : i < 4) (v : Int) : LaneD (w.setCell ⟨g, i, none⟩ (.int .u64 v)) g (fun j => if j = i then v else L j) := by
  unfold LaneD
  rw [setCell_at h]
  have : i = 0 ∨ i = 1 ∨ i = 2 ∨ i = 3 := by omega
  rcases this with rfl | rfl | rfl | rfl <;> rfl
theorem LaneD.congr {w : World} {g : Nat} {L M : Nat → Int} (h : LaneD w g L) (e : ∀ j, j < 4 → L j = M j) : LaneD w g M := by
  unfold LaneD at h ⊢
  rw [h, e 0 (by omega), e 1 (by omega), e 2 (by omega), e 3 (by omega)]
theorem wrap_wrap (n : Int) : IntKind.u64.wrap (IntKind.u64.wrap n) = IntKind.u64.wrap n := by
  have h : ∀ n : Int, IntKind.u64.wrap n = n % 18446744073709551616 := fun n => by simp [IntKind.wrap, IntKind.bits, IntKind.signed]
  rw [h, h]; omega
theorem rl_wrap (x : Int) (k : Nat) : IntKind.u64.wrap (0 + rl x k) = rl x k := by
  rw [Int.zero_add]
  unfold rl
  exact wrap_wrap _
theorem addL4 (L : Nat → Int) : addL L 4 = IntKind.u64.wrap (IntKind.u64.wrap (IntKind.u64.wrap (rl (L 0) 1 + rl (L 1) 7) + rl (L 2) 12) + rl (L 3) 18) := by
  have h : addL L 4 = IntKind.u64.wrap (IntKind.u64.wrap (IntKind.u64.wrap (IntKind.u64.wrap (0 + rl (L 0) 1) + rl (L 1) 7) + rl (L 2) 12) + rl (L 3) 18) := rfl
  rw [h, rl_wrap]
def TurnI (k : Int) : Prop := k = 1 ∨ k = 7 ∨ k = 12 ∨ k = 18
theorem left_i (x k : Int) (hk : TurnI k) (w : World) : Calls Tryz.prog 48 #[.int .u64 x, .int .u64 k] w fun e w' => e = .returned (.int .u64 (rl x k.toNat)) ∧ w' = w := by
  rcases hk with rfl | rfl | rfl | rfl
  · exact left_d w x 1 (by unfold Turn; omega)
  · exact left_d w x 7 (by unfold Turn; omega)
  · exact left_d w x 12 (by unfold Turn; omega)
  · exact left_d w x 18 (by unfold Turn; omega)
/-- What is left of a row, from the place k on. -/
theorem from_d (w : World) (r : List UInt8) (a : Option Addr) (c : Nat) (h : SlR w 1 (.slice a r.length c) r.length (r.map u8c)) (k : Nat) (hk : k ≤ r.length) :
    ∃ a' c', (∀ w', (Instr.slice 24 (.slice a r.length c) (some (.int .i64 (k : Nat))) none none).run Tryz.prog w' = .ok (.slice a' (r.length - k) c') w') ∧
      SlR w 1 (.slice a' (r.drop k).length c') (r.drop k).length ((r.drop k).map u8c) := by
  obtain ⟨a', c', hr2, hs2, _⟩ := h.from_ Tryz.underlying24 u8size hk
  refine ⟨a', c', hr2, ?_⟩
  simp only [Nat.mul_one, ← List.map_drop] at hs2
  rw [List.length_drop]
  exact hs2
def BegD (w : World) (l : List UInt8) (b h : Value) (wx : World) : Prop := ∃ (a : Option Addr) (c : Nat), h = .int .u64 (begH l) ∧ b = .slice a (begR l).length c ∧ SlR wx 1 (.slice a (begR l).length c) (begR l).length ((begR l).map u8c) ∧ Kp (fun _ => False) w wx
set_option maxRecDepth 100000 in
set_option maxHeartbeats 1000000 in
theorem sum_d (w : World) (l : List UInt8) (a : Option Addr) (c : Nat) (h : SlR w 1 (.slice a l.length c) l.length (l.map u8c)) (hl : l.length ≤ 100000) :
    Calls Tryz.prog 34 #[.int .u64 0, .slice a l.length c] w (SumPost w l) := by
  have HS : Hid (sumI l = endS (four4 (words l.length (IntKind.u64.wrap (begH l + (l.length : Nat))) (begR l)))) := Lib.hid rfl
  have BL := Lib.hid (begR_len l)
  have HGO : Hid (32 ≤ l.length → begH l = mixAll (eat l.length lanes0 l).1 (addL (eat l.length lanes0 l).1 4) 4 ∧ begR l = (eat l.length lanes0 l).2) := Lib.hid (fun q => by unfold begH begR; rw [if_pos q, if_pos q]; exact ⟨rfl, rfl⟩)
  have HNO : Hid (¬ 32 ≤ l.length → begH l = 2870177450012600261 ∧ begR l = l) := Lib.hid (fun q => by unfold begH begR; rw [if_neg q, if_neg q]; exact ⟨rfl, rfl⟩)
  have H := Lib.hid h
  obtain ⟨n, hn⟩ : ∃ n, n = l.length := ⟨_, rfl⟩
  rw [← hn] at BL HS HGO HNO hl ⊢
  have HN := Lib.hid hn
  have hwn : IntKind.u64.wrap (n : Int) = (n : Int) := wraps_u64 _ (by omega) (by omega)
  clear h hn
  go_enter Tryz.func34, Tryz.ntmps34
  go_upto_if 19 with fail
  go_cut [1, 6] (fun b h wx => BegD w l b h wx)
  case first =>
    by_cases h32 : 32 ≤ n
    · obtain ⟨hg1, hg2⟩ := HGO.out h32
      obtain ⟨E, hE⟩ : ∃ E, E = eat n lanes0 l := ⟨_, rfl⟩
      rw [← hE] at hg1 hg2
      have HE := Lib.hid hg1
      have HR := Lib.hid hg2
      have HLE := Lib.hid hE.symm
      have h32' : decide ((32 : Int) ≤ (n : Int)) = true := decide_eq_true (by omega)
      clear hg1 hg2 hE HGO HNO
      rw [h32']
      go_wp2_with fail
      have K0 := Lib.hid (kp_alloc w (.cells #[.int .u64 (IntKind.u64.wrap 25430182151971714518), .int .u64 14029467366897019727, .int .u64 0, .int .u64 (IntKind.u64.wrap (-11400714785074694791))] 58))
      have L0 := Lib.hid (show LaneD (w.alloc (.cells #[.int .u64 (IntKind.u64.wrap 25430182151971714518), .int .u64 14029467366897019727, .int .u64 0, .int .u64 (IntKind.u64.wrap (-11400714785074694791))] 58)) w.heap.size lanes0 from alloc_at w _)
      go_loopw [1, 9] (fun v _ wr => ∃ (f : Nat) (L : Nat → Int) (r : List UInt8) (ab : Option Addr) (cb : Nat), v = .slice ab r.length cb ∧ SlR w 1 v r.length (r.map u8c) ∧ LaneD wr w.heap.size L ∧ eat f L r = E ∧ r.length ≤ f ∧ r.length ≤ n ∧ Kp (fun _ => False) w wr) (fun v _ _ => match v with | .slice _ k _ => k | _ => 0)
      case atStart => exact ⟨n, lanes0, l, a, c, by rw [HN.out], by rw [HN.out]; exact H.out, L0.out, HLE.out, Nat.le_of_eq HN.out.symm, Nat.le_of_eq HN.out.symm, K0.out⟩
      case round =>
        obtain ⟨f, L, r, ab, cb, rfl, hr, hL, he, hf, hrn, hk⟩ := hrel
        have HRW := Lib.hid hr
        have HLA := Lib.hid hL
        have HEE := Lib.hid he
        have HK := Lib.hid hk
        obtain ⟨m, hm⟩ : ∃ m, m = r.length := ⟨_, rfl⟩
        rw [← hm] at hrn ⊢
        have HM := Lib.hid hm
        have HF := Lib.hid hf
        clear hr hL he hk hm hf L0 K0 HLE H
        by_cases hge : 32 ≤ m
        · have hge' : decide ((32 : Int) ≤ (m : Int)) = true := decide_eq_true (by omega)
          obtain ⟨wo, rfl⟩ : ∃ wo : World, wo = wr := ⟨_, rfl⟩
          go_wp2_with fail
          go_loopw [9] (fun i wx => ∃ j : Nat, j ≤ 4 ∧ i = .int .i64 j ∧ LaneD wx w.heap.size (part L (rnd L r) j) ∧ Kp (fun _ => False) w wx) (fun i _ => 4 - (intOf i).toNat)
          case atStart => exact ⟨0, by omega, rfl, by rw [part_zero]; exact HLA.out, HK.out⟩
          case round =>
            obtain ⟨j, hj, rfl, hlj, hkj⟩ := hrel
            have HLJ := Lib.hid hlj
            have HKJ := Lib.hid hkj
            clear hlj hkj
            by_cases hj4 : j < 4
            · have d0 : wr.cell? ⟨w.heap.size, j, none⟩ = some (.int .u64 (L j)) := by rw [HLJ.out.cell hj4, part_at]
              have d1 : wr.drew.cell? ⟨w.heap.size, j, none⟩ = some (.int .u64 (L j)) := d0
              have f0 : wr.frozen? ⟨w.heap.size, j, none⟩ = false := free_of HLJ.out _
              have f1 : wr.drew.frozen? ⟨w.heap.size, j, none⟩ = false := f0
              obtain ⟨a8, c8, hrun, hs8⟩ := from_d w r ab cb HRW.out (8 * j) (by rw [← HM.out]; omega)
              have hdl : (r.drop (8 * j)).length = m - 8 * j := by rw [List.length_drop, HM.out]
              have NU := Lib.hid (fun V (kV : Kp (fun _ => False) w V) => word_d V (r.drop (8 * j)) a8 c8 (hs8.kp kV (fun _ _ q => q)) 8 (by omega) (by omega) (by rw [hdl]; omega))
              rw [hdl] at NU
              have e1 : ((8 * j : Nat) : Int) = 8 * (j : Int) := by push_cast; rfl
              rw [e1, ← HM.out] at hrun
              have hsh : IntKind.i64.wrap (8 * (j : Int)) = 8 * (j : Int) := by rw [IntKind.wrap_i64]; omega
              have hj1 : IntKind.i64.wrap ((j : Int) + 1) = (j : Int) + 1 := by rw [IntKind.wrap_i64]; omega
              have hj0 : (0 : Int) ≤ (j : Int) := by omega
              have hj4' : (j : Int) < 4 := by omega
              have ST := Lib.hid (fun V x v => stir_d V x v)
              have HV : Hid (rnd L r j = stirI (L j) (numN (r.drop (8 * j)) 8 : Nat)) := Lib.hid rfl
              generalize numN (r.drop (8 * j)) 8 = nv at NU HV
              generalize m - 8 * j = mj at NU hrun
              clear e1 hs8 hdl
              go_wp2_with fail
              go_region_law (first
                | (go_simp; go_at_call 47; refine (NU.out _ HKJ.out.drew).mono ?_; rintro e w2 ⟨rfl, rfl⟩)
                | (go_simp; go_at_call 46; refine (ST.out _ _ _).mono ?_; rintro e w2 ⟨rfl, rfl⟩))
              all_goals (go_wp2_with fail)
              all_goals exact ⟨⟨j + 1, by omega, by go_num, by rw [← part_set, HV.out]; exact HLJ.out.set hj4 _, (HKJ.out.setCell (fun q => absurd q (Nat.lt_irrefl _)) _).drew⟩, by simp [intOf]; omega⟩
            · obtain rfl : j = 4 := by omega
              obtain ⟨a9, c9, hfr, hs9⟩ := from_d w r ab cb HRW.out 32 (by rw [← HM.out]; exact hge)
              rw [show ((32 : Nat) : Int) = 32 from rfl, ← HM.out] at hfr
              go_wp2_with fail
              obtain ⟨f', rfl⟩ : ∃ f', f = f' + 1 := ⟨f - 1, by have := HF.out; rw [← HM.out] at this; omega⟩
              have h32r : 32 ≤ r.length := by rw [← HM.out]; exact hge
              have hdl : (r.drop 32).length = m - 32 := by rw [List.length_drop, HM.out]
              have hEE := HEE.out
              rw [eat_go h32r] at hEE
              refine ⟨⟨f', rnd L r, r.drop 32, a9, c9, by rw [hdl], ?_, HLJ.out.congr (fun j hj => part_four _ _ hj), hEE, ?_, ?_, HKJ.out⟩, ?_⟩
              · rw [← hdl]; exact hs9
              · rw [hdl]; have := HF.out; rw [← HM.out] at this; omega
              · rw [hdl]; omega
              · simp; omega
        · have hge' : decide ((32 : Int) ≤ (m : Int)) = false := decide_eq_false (by omega)
          obtain ⟨wo, rfl⟩ : ∃ wo : World, wo = wr := ⟨_, rfl⟩
          have HEQ : Hid (E = (L, r)) := Lib.hid (by rw [← HEE.out]; exact eat_stop (by rw [← HM.out]; exact hge))
          have c0 := HLA.out.cell (i := 0) (by omega)
          have c1 := HLA.out.cell (i := 1) (by omega)
          have c2 := HLA.out.cell (i := 2) (by omega)
          have c3 := HLA.out.cell (i := 3) (by omega)
          have LQ := Lib.hid (fun x k hk w => left_i x k hk w)
          have HA4 := Lib.hid (addL4 L)
          go_wp2_with fail
          go_quiet ((go_at_call 48; refine Calls.quiet_of_same (LQ.out _ _ (by unfold TurnI; omega) _)))
          rw [← HA4.out]
          have LW : Hid (LaneD (wo.drewN nq) w.heap.size L) := Lib.hid HLA.out
          have KW : Hid (Kp (fun _ => False) w (wo.drewN nq)) := Lib.hid (by obtain ⟨a, b, c, d, e⟩ := HK.out; exact ⟨a, b, c, d, e⟩)
          generalize wo.drewN nq = W at LW KW ⊢
          clear c0 c1 c2 c3 LQ HA4 HLA HK
          go_wp2_with fail
          go_loopw [6, 10] (fun h i wx => ∃ j : Nat, j ≤ 4 ∧ i = .int .i64 j ∧ h = .int .u64 (mixAll L (addL L 4) j) ∧ wx = W) (fun _ i _ => 4 - (intOf i).toNat)
          case atStart => exact ⟨0, by omega, rfl, rfl, rfl⟩
          case round =>
            obtain ⟨j, hj, rfl, rfl, hwr⟩ := hrel
            obtain rfl := hwr
            have ST := Lib.hid (fun V x v => stir_d V x v)
            by_cases hj4 : j < 4
            · have d1 := LW.out.cell hj4
              have hj0 : (0 : Int) ≤ (j : Int) := by omega
              have hj4' : (j : Int) < 4 := by omega
              have hj1 : IntKind.i64.wrap ((j : Int) + 1) = (j : Int) + 1 := by rw [IntKind.wrap_i64]; omega
              have HMX : Hid (mixAll L (addL L 4) (j + 1) = mixL (mixAll L (addL L 4) j) (L j)) := Lib.hid rfl
              go_wp2_with fail
              refine (ST.out _ _ _).mono ?_
              rintro e w2 ⟨rfl, rfl⟩
              go_wp2_with fail
              refine ⟨⟨_, _, _, _, _, _, _, _, _, _, _, _, _, _, _, ⟨j + 1, by omega, ?_, ?_, trivial⟩, rfl⟩, ?_⟩
              · show Value.int .i64 ((j : Int) + 1) = _
                go_num
              · rw [HMX.out]; rfl
              · show 4 - (intOf (.int .i64 ((j : Int) + 1))).toNat < 4 - (intOf (.int .i64 (j : Nat))).toNat
                simp [intOf]; omega
            · obtain rfl : j = 4 := by omega
              obtain ⟨wo2, rfl⟩ : ∃ wo2 : World, wo2 = wr := ⟨_, rfl⟩
              go_wp2_with fail
              go_meet
              exact ⟨ab, cb, by rw [HE.out, HEQ.out], by rw [HR.out, HEQ.out, HM.out], by rw [HR.out, HEQ.out]; exact HRW.out.kp KW.out (fun _ _ q => q), KW.out⟩
    · obtain ⟨hg1, hg2⟩ := HNO.out h32
      have h32' : decide ((32 : Int) ≤ (n : Int)) = false := decide_eq_false (by omega)
      have HE := Lib.hid hg1
      have HR := Lib.hid hg2
      clear hg1 hg2 HGO HNO
      rw [h32']
      go_wp2_with fail
      go_meet
      exact ⟨a, c, by rw [HE.out], by rw [HR.out, HN.out], by rw [HR.out]; exact H.out, Kp.refl _ _⟩
  case rest =>
    obtain ⟨a2, c2, rfl, rfl, q1, q2⟩ := hcut
    obtain ⟨w2, hw2⟩ : ∃ w2, w2 = wc := ⟨_, rfl⟩
    rw [← hw2] at q1 q2 ⊢
    clear hw2
    have K2 := Lib.hid q2
    have Q1 := Lib.hid q1
    obtain ⟨r0, hr0⟩ : ∃ r0, r0 = begR l := ⟨_, rfl⟩
    obtain ⟨h0, hh0⟩ : ∃ h0, h0 = begH l := ⟨_, rfl⟩
    rw [← hr0] at Q1 HS BL ⊢
    rw [← hh0] at HS ⊢
    obtain ⟨E, hE⟩ : ∃ E, E = words n (IntKind.u64.wrap (h0 + (n : Nat))) r0 := ⟨_, rfl⟩
    rw [← hE] at HS
    have HE := Lib.hid hE.symm
    obtain ⟨m0, hm0⟩ : ∃ m0, m0 = r0.length := ⟨_, rfl⟩
    rw [← hm0] at BL ⊢
    have HM0 := Lib.hid hm0
    clear q1 q2 hr0 hh0 hE hm0 HGO HNO H
    go_wp2_with fail
    go_loopw [1, 6] (fun v hv wx => ∃ (f : Nat) (h : Int) (r : List UInt8) (ab : Option Addr) (cb : Nat), hv = .int .u64 h ∧ v = .slice ab r.length cb ∧ SlR w2 1 v r.length (r.map u8c) ∧ words f h r = E ∧ r.length ≤ f ∧ r.length ≤ n ∧ wx = w2) (fun v _ _ => match v with | .slice _ k _ => k | _ => 0)
    case atStart => exact ⟨n, _, r0, a2, c2, rfl, by rw [HM0.out], by rw [HM0.out]; exact Q1.out, HE.out, by rw [← HM0.out]; exact BL.out, by rw [← HM0.out]; exact BL.out, rfl⟩
    case round =>
      obtain ⟨f, h, r, ab, cb, rfl, rfl, hr, he, hf, hrn, hwr⟩ := hrel
      obtain rfl := hwr
      have HRW := Lib.hid hr
      have HEE := Lib.hid he
      obtain ⟨m, hm⟩ : ∃ m, m = r.length := ⟨_, rfl⟩
      rw [← hm] at hrn ⊢
      have HM := Lib.hid hm
      have HF := Lib.hid hf
      clear hr he hm hf HE Q1
      by_cases hge : 8 ≤ m
      · have hge' : decide ((8 : Int) ≤ (m : Int)) = true := decide_eq_true (by omega)
        obtain ⟨a9, c9, h3, h4⟩ := from_d wr r ab cb HRW.out 8 (by rw [← HM.out]; exact hge)
        rw [show ((8 : Nat) : Int) = 8 from rfl, ← HM.out] at h3
        have N8 := word_d wr r ab cb HRW.out 8 (by omega) (by omega) (by rw [← HM.out]; exact hge)
        rw [← HM.out] at N8
        have N8 := Lib.hid N8
        have H4 := Lib.hid h4
        have ST := Lib.hid (fun x v => stir_d wr x v)
        have RO := Lib.hid (fun x => left_d wr x 27 (by unfold Turn; omega))
        have HX : Hid (mixW h (numN r 8) = IntKind.u64.wrap (IntKind.u64.wrap (rl (bits .xor .u64 h (stirI 0 (numN r 8 : Nat))) 27 * 11400714785074694791) + 9650029242287828579)) := Lib.hid rfl
        generalize hnv : numN r 8 = nv at N8 HX
        have HNV := Lib.hid hnv
        clear h4 hnv
        go_wp2_with fail
        refine N8.out.mono ?_
        rintro e w3 ⟨rfl, rfl⟩
        go_wp2_with fail
        refine (ST.out _ _).mono ?_
        rintro e w4 ⟨rfl, rfl⟩
        go_wp2_with fail
        refine (RO.out _).mono ?_
        rintro e w5 ⟨rfl, rfl⟩
        go_wp2_with fail
        obtain ⟨f', rfl⟩ : ∃ f', f = f' + 1 := ⟨f - 1, by have := HF.out; rw [← HM.out] at this; omega⟩
        have h8r : 8 ≤ r.length := by rw [← HM.out]; exact hge
        have hdl : (r.drop 8).length = m - 8 := by rw [List.length_drop, HM.out]
        have hEE := HEE.out
        rw [words_go h8r, HNV.out] at hEE
        refine ⟨⟨f', _, r.drop 8, a9, c9, by rw [← HX.out], by rw [hdl], ?_, hEE, ?_, ?_, trivial⟩, ?_⟩
        · rw [← hdl]; exact H4.out
        · rw [hdl]; have := HF.out; rw [← HM.out] at this; omega
        · rw [hdl]; omega
        · simp; omega
      · have hge' : decide ((8 : Int) ≤ (m : Int)) = false := decide_eq_false (by omega)
        obtain ⟨wo, rfl⟩ : ∃ wo : World, wo = wr := ⟨_, rfl⟩
        have HEQ : Hid (E = (h, r)) := Lib.hid (by rw [← HEE.out]; exact words_stop (by rw [← HM.out]; exact hge))
        go_upto_if 102 with fail
        go_cut [1, 6] (fun v hv wx => ∃ (y : Int) (t : List UInt8) (at_ : Option Addr) (ct : Nat), hv = .int .u64 y ∧ v = .slice at_ t.length ct ∧ SlR wo 1 v t.length (t.map u8c) ∧ four4 (h, r) = (y, t) ∧ t.length ≤ n ∧ wx = wo)
        case first =>
          by_cases h4 : 4 ≤ m
          · have h4' : decide ((4 : Int) ≤ (m : Int)) = true := decide_eq_true (by omega)
            obtain ⟨a9, c9, h3, h5⟩ := from_d wo r ab cb HRW.out 4 (by rw [← HM.out]; exact h4)
            rw [show ((4 : Nat) : Int) = 4 from rfl, ← HM.out] at h3
            have N4 := word_d wo r ab cb HRW.out 4 (by omega) (by omega) (by rw [← HM.out]; exact h4)
            rw [← HM.out] at N4
            have N4 := Lib.hid N4
            have HT := Lib.hid h5
            have RO := Lib.hid (fun x => left_d wo x 23 (by unfold Turn; omega))
            have HF4 : Hid (four4 (h, r) = (mix4 h (numN r 4), r.drop 4)) := Lib.hid (by unfold four4; rw [if_pos (by rw [← HM.out]; exact h4)])
            have HX : Hid (mix4 h (numN r 4) = IntKind.u64.wrap (IntKind.u64.wrap (rl (bits .xor .u64 h (IntKind.u64.wrap (((numN r 4 : Nat) : Int) * 11400714785074694791))) 23 * 14029467366897019727) + 1609587929392839161)) := Lib.hid rfl
            have hdl : (r.drop 4).length = m - 4 := by rw [List.length_drop, HM.out]
            have HDL := Lib.hid hdl
            generalize hnv : numN r 4 = nv at N4 HX HF4
            clear h5 hnv hdl
            rw [h4']
            go_wp2_with fail
            refine N4.out.mono ?_
            rintro e w3 ⟨rfl, rfl⟩
            go_wp2_with fail
            refine (RO.out _).mono ?_
            rintro e w5 ⟨rfl, rfl⟩
            go_wp2_with fail
            go_meet
            exact ⟨_, r.drop 4, a9, c9, by rw [← HX.out], by rw [HDL.out], by rw [← HDL.out]; exact HT.out, HF4.out, by rw [HDL.out]; omega, rfl⟩
          · have h4' : decide ((4 : Int) ≤ (m : Int)) = false := decide_eq_false (by omega)
            have HF4 : Hid (four4 (h, r) = (h, r)) := Lib.hid (by unfold four4; rw [if_neg (by rw [← HM.out]; exact h4)])
            rw [h4']
            go_wp2_with fail
            go_meet
            exact ⟨h, r, ab, cb, rfl, by rw [HM.out], by rw [HM.out]; exact HRW.out, HF4.out, by rw [← HM.out]; exact hrn, rfl⟩
        case rest =>
          obtain ⟨y, t, at_, ct, rfl, rfl, ht, hf4, htn, hwc⟩ := hcut
          obtain rfl := hwc
          obtain ⟨wo, rfl⟩ : ∃ wo : World, wo = wc := ⟨_, rfl⟩
          have HT := Lib.hid ht
          have HF4 := Lib.hid hf4
          obtain ⟨x, hx⟩ : ∃ x, x = t.length := ⟨_, rfl⟩
          have HTL := Lib.hid hx
          rw [← hx] at htn ⊢
          have hxm : x ≤ 100000 := by omega
          clear ht hf4 hx HRW
          go_wp2_with fail
          go_loopw [6, 11] (fun hv i wx => ∃ j : Nat, j ≤ x ∧ i = .int .i64 j ∧ hv = .int .u64 (byteS y t j) ∧ wx = wo) (fun _ i _ => x - (intOf i).toNat)
          case atStart => exact ⟨0, Nat.zero_le _, rfl, rfl, rfl⟩
          case round =>
            obtain ⟨j, hj, rfl, rfl, hwr⟩ := hrel
            obtain rfl := hwr
            by_cases hlt : j < x
            · obtain ⟨gg, oo, ea, hgg, _, hcc⟩ := byts_at HT.out (by rw [← HTL.out]; omega)
              have d0 := hcc j (by rw [← HTL.out]; exact hlt)
              have hlt' : (j : Int) < (x : Int) := by omega
              have hb := byt_lt t j
              have HB : Hid (byteS y t (j + 1) = mixB (byteS y t j) (byt t j)) := Lib.hid rfl
              generalize byt t j = bv at d0 hb HB
              have hub : IntKind.u64.wrap (bv : Int) = (bv : Int) := wraps_u64 _ (by omega) (by omega)
              have RO := Lib.hid (fun x => left_d wr x 11 (by unfold Turn; omega))
              clear hcc
              subst ea
              go_wp2_with fail
              refine (RO.out _).mono ?_
              rintro e w5 ⟨rfl, rfl⟩
              go_wp2_with fail
              exact ⟨⟨j + 1, by omega, by go_num, by rw [HB.out]; rfl, trivial⟩, by simp [intOf]; omega⟩
            · obtain rfl : j = x := by omega
              obtain ⟨wo2, rfl⟩ : ∃ wo2 : World, wo2 = wr := ⟨_, rfl⟩
              go_wp2_with fail
              go_ret
              refine ⟨?_, K2.out⟩
              rw [HS.out, HEQ.out, HF4.out]
              unfold endS
              rw [← HTL.out]
              rfl
end Go.Proofs.YtbakhpakdaflkaaGreat.Str
namespace Go.Proofs.YtbakhpakdaflkaaGreat.Str
open Go Go.RowKit Go.ChangeMaps Go.MapKept Go.Mg Go.Mt Go.Proofs.YtbakhpakdaflkaaGreat.Ma

theorem lowB_mod (n : Nat) : lowB (n % 4294967296) = lowB n := by
  unfold lowB
  refine List.map_congr_left fun i hi => ?_
  have hi4 : i < 4 := List.mem_range.1 hi
  apply UInt8.toNat.inj
  rw [UInt8.toNat_ofNat', UInt8.toNat_ofNat']
  have : i = 0 ∨ i = 1 ∨ i = 2 ∨ i = 3 := by omega
  rcases this with rfl | rfl | rfl | rfl <;> simp <;> omega
theorem xor_lt (a b : Int) : bits .xor .u64 a b < 18446744073709551616 := by
  have h : ∀ n : Int, IntKind.u64.wrap n < 18446744073709551616 := fun n => by
    have : IntKind.u64.wrap n = n % 18446744073709551616 := by simp [IntKind.wrap, IntKind.bits, IntKind.signed]
    rw [this]; omega
  exact h _
theorem sumN_lt (l : List UInt8) : sumN l < 18446744073709551616 := by
  have h := sumN_eq l
  have h2 : sumI l < 18446744073709551616 := xor_lt _ _
  omega
theorem sum_mask (l : List UInt8) : bits .and .u64 ((sumN l : Nat) : Int) 4294967295 = ((sumN l % 4294967296 : Nat) : Int) := by
  have h := sumN_lt l
  have := bits_mask .u64 64 (by decide) wraps_u64 32 (by decide) ((sumN l : Nat) : Int) (by omega) (by omega)
  rw [show ((2 : Int) ^ 32 - 1) = 4294967295 from rfl, show ((2 : Int) ^ 32) = 4294967296 from rfl] at this
  rw [this]
  omega
set_option maxRecDepth 100000 in
set_option maxHeartbeats 1000000 in
theorem sumF_d (w : World) (l : List UInt8) (a : Option Addr) (c : Nat) (h : SlR w 1 (.slice a l.length c) l.length (l.map u8c)) (hl : l.length ≤ 100000) :
    Calls Tryz.prog 17 #[.slice a l.length c] w (SumFPost w l) := by
  have SU := sum_d w l a c h hl
  unfold SumPost at SU
  rw [← sumN_eq] at SU
  have SU := Lib.hid SU
  have hm := sum_mask l
  have hq : sumN l % 4294967296 < 4294967296 := Nat.mod_lt _ (by omega)
  have HLO := Lib.hid (lowB_mod (sumN l))
  obtain ⟨q, hqq⟩ : ∃ q, q = sumN l % 4294967296 := ⟨_, rfl⟩
  rw [← hqq] at hm hq HLO
  have FO := Lib.hid (fun V => four_d V q (by omega))
  have hw : IntKind.i64.wrap (q : Int) = (q : Int) := by rw [IntKind.wrap_i64]; omega
  have HSN : Hid (∃ s, s = sumN l) := Lib.hid ⟨_, rfl⟩
  obtain ⟨s, hs⟩ := HSN.out
  have HSS := Lib.hid hs
  rw [← hs] at SU hm HLO
  clear h hqq hs HSN
  go_enter Tryz.func17, Tryz.ntmps17
  go_wp2_with fail
  refine SU.out.mono ?_
  rintro e w1 ⟨rfl, k1⟩
  have K1 := Lib.hid k1
  clear k1
  go_wp2_with fail
  refine (FO.out w1).mono ?_
  rintro e w2 ⟨a2, c2, rfl, p1, p2⟩
  have P1 := Lib.hid p1
  have K2 := Lib.hid (K1.out.trans p2)
  clear p1 p2
  go_wp2_with fail
  go_ret
  exact ⟨a2, c2, rfl, by rw [← HSS.out, ← HLO.out]; exact P1.out.low (by have := K1.out.size; omega), K2.out⟩
end Go.Proofs.YtbakhpakdaflkaaGreat.Str
