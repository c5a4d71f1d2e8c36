/- stream: Streams in a law, with rows that none of them touches. Bytes as a string. The walk of StreamParts. -/
import Derived.Deep.RegionHeld3
import Derived.Deep.RegionLaw
import Derived.Deep.DeepCutAuto
import Derived.Test.YtbakhpakdaflkaaGreatL01
namespace Go.Proofs.YtbakhpakdaflkaaGreat.Str
open Go Go.RowKit Go.ChangeMaps Go.MapKept Go.Mg Go.Mt Go.Proofs.YtbakhpakdaflkaaGreat.Hu Go.Proofs.YtbakhpakdaflkaaGreat.Sq Go.Proofs.YtbakhpakdaflkaaGreat.Bk Go.Proofs.YtbakhpakdaflkaaGreat.Ma Go.Proofs.YtbakhpakdaflkaaGreat.Op

/-! ### parted writes -/
theorem take_take (S : Str) (p q : List UInt8) : take (take S p) q = take S (p ++ q) := by
  unfold take; simp only [List.append_assoc]
theorem enc_take {S : Str} {n : Nat} (h : n ≤ S.kept.length) (q : List UInt8) : enc (take S q) n = enc S n := by
  unfold enc take
  simp only [List.take_append_of_le_length h]
theorem blkO_take {S : Str} {n : Nat} (h : n ≤ S.kept.length) (q : List UInt8) (z : UInt8) : blkO (take S q) n z = blkO S n z := by
  unfold blkO
  rw [enc_take h]
  rfl
theorem blkS_take {S : Str} {n : Nat} (h : n ≤ S.kept.length) (q : List UInt8) : blkS (take S q) n = take (blkS S n) q := by
  have e := enc_take h q
  unfold blkS
  rw [e]
  unfold take
  simp only [List.take_append_of_le_length h, List.drop_append_of_le_length h]
theorem take_kept (S : Str) (p : List UInt8) : (take S p).kept.length = S.kept.length + p.length := by simp [take]
theorem run_take (q : List UInt8) : ∀ f (S : Str), S.kept.length ≤ f → ∀ g, S.kept.length + q.length ≤ g → runO g (take S q) = runO f S ++ wrO (runS f S) q ∧ runS g (take S q) = wrS (runS f S) q := by
  intro f
  induction f with
  | zero =>
    intro S h g hg
    have hs : ¬ 500 ≤ S.kept.length := by omega
    have := run_fuel g (S.kept.length + q.length) (take S q) (by rw [take_kept]; exact hg) (by rw [take_kept]; exact Nat.le_refl _)
    rw [(run_stop hs).1, (run_stop hs).2, this.1, this.2, List.nil_append]
    exact ⟨rfl, rfl⟩
  | succ f ih =>
    intro S h g hg
    by_cases hs : 500 ≤ S.kept.length
    · obtain ⟨g', rfl⟩ : ∃ g', g = g' + 1 := ⟨g - 1, by omega⟩
      have hst : 500 ≤ (take S q).kept.length := by rw [take_kept]; omega
      have hbk := blk_kept S 500
      have := ih (blkS S 500) (by omega) g' (by omega)
      simp only [runO, runS, if_pos hs, if_pos hst]
      rw [blkO_take hs, blkS_take hs, this.1, this.2, List.append_assoc]
      exact ⟨rfl, rfl⟩
    · have := run_fuel g (S.kept.length + q.length) (take S q) (by rw [take_kept]; exact hg) (by rw [take_kept]; exact Nat.le_refl _)
      rw [(run_stop hs).1, (run_stop hs).2, this.1, this.2, List.nil_append]
      exact ⟨rfl, rfl⟩
/-- How bytes are parted does not matter. -/
theorem wr_app (S : Str) (p q : List UInt8) : wrO S (p ++ q) = wrO S p ++ wrO (wrS S p) q ∧ wrS S (p ++ q) = wrS (wrS S p) q := by
  have := run_take q (S.kept.length + p.length) (take S p) (by rw [take_kept]; exact Nat.le_refl _) (S.kept.length + (p ++ q).length) (by rw [take_kept, List.length_append]; omega)
  rw [take_take] at this
  exact this
theorem wr_nil {S : Str} (h : S.kept.length < 500) : wrO S [] = [] ∧ wrS S [] = S := by
  have e : take S [] = S := by unfold take; simp only [List.append_nil]
  unfold wrO wrS
  rw [e]
  exact run_stop (by omega)

/-! ### one, two Streams -/
structure L1 (G : Nat → Prop) (w wx : World) (s : Nat) (S : Str) : Prop where
  ex : ∃ F, StAt F wx s S ∧ (∀ k, F k → w.heap.size ≤ k) ∧ ∀ k, G k → k < wx.heap.size ∧ ¬ (F k ∨ rd wx s k)
  kp : Kp (fun _ => False) w wx
structure L2 (G : Nat → Prop) (w wx : World) (s1 s2 : Nat) (S1 S2 : Str) : Prop where
  ex : ∃ F1 F2, StAt F1 wx s1 S1 ∧ StAt F2 wx s2 S2 ∧ (∀ k, F1 k → w.heap.size ≤ k) ∧ (∀ k, F2 k → w.heap.size ≤ k) ∧ (∀ k, F1 k ∨ rd wx s1 k → ¬ (F2 k ∨ rd wx s2 k)) ∧ ∀ k, G k → k < wx.heap.size ∧ ¬ (F1 k ∨ rd wx s1 k) ∧ ¬ (F2 k ∨ rd wx s2 k)
  kp : Kp (fun _ => False) w wx
theorem L2.swap {G : Nat → Prop} {w wx : World} {s1 s2 : Nat} {S1 S2 : Str} (h : L2 G w wx s1 s2 S1 S2) : L2 G w wx s2 s1 S2 S1 := by
  obtain ⟨⟨F1, F2, h1, h2, h3, h4, h5, h6⟩, h7⟩ := h
  exact ⟨⟨F2, F1, h2, h1, h4, h3, fun k q1 q2 => h5 k q2 q1, fun k q => ⟨(h6 k q).1, (h6 k q).2.2, (h6 k q).2.1⟩⟩, h7⟩
theorem L2.mono {G G' : Nat → Prop} {w wx : World} {s1 s2 : Nat} {S1 S2 : Str} (h : L2 G w wx s1 s2 S1 S2) (hG : ∀ k, G' k → G k) : L2 G' w wx s1 s2 S1 S2 := by
  obtain ⟨⟨F1, F2, h1, h2, h3, h4, h5, h6⟩, h7⟩ := h
  exact ⟨⟨F1, F2, h1, h2, h3, h4, h5, fun k q => h6 k (hG k q)⟩, h7⟩
theorem L1.mono {G G' : Nat → Prop} {w wx : World} {s : Nat} {S : Str} (h : L1 G w wx s S) (hG : ∀ k, G' k → G k) : L1 G' w wx s S := by
  obtain ⟨⟨F1, h1, h2, h3⟩, h7⟩ := h
  exact ⟨⟨F1, h1, h2, fun k q => h3 k (hG k q)⟩, h7⟩
theorem L2.kp0 {G : Nat → Prop} {w wx w' : World} {s1 s2 : Nat} {S1 S2 : Str} (h : L2 G w wx s1 s2 S1 S2) (hk : Kp (fun _ => False) wx w') : L2 G w w' s1 s2 S1 S2 := by
  obtain ⟨⟨F1, F2, h1, h2, h3, h4, h5, h6⟩, h7⟩ := h
  have hz := hk.size
  refine ⟨⟨F1, F2, h1.kp0 hk, h2.kp0 hk, h3, h4, fun k => ?_, fun k q => ?_⟩, h7.trans hk⟩
  · rw [rd_kp hk h1.lt (fun q => q), rd_kp hk h2.lt (fun q => q)]; exact h5 k
  · rw [rd_kp hk h1.lt (fun q => q), rd_kp hk h2.lt (fun q => q)]; exact ⟨by have := (h6 k q).1; omega, (h6 k q).2⟩
theorem L1.kp0 {G : Nat → Prop} {w wx w' : World} {s : Nat} {S : Str} (h : L1 G w wx s S) (hk : Kp (fun _ => False) wx w') : L1 G w w' s S := by
  obtain ⟨⟨F1, h1, h2, h3⟩, h7⟩ := h
  have hz := hk.size
  refine ⟨⟨F1, h1.kp0 hk, h2, fun k q => ?_⟩, h7.trans hk⟩
  rw [rd_kp hk h1.lt (fun q => q)]; exact ⟨by have := (h3 k q).1; omega, (h3 k q).2⟩
theorem L1.of_new {w wx w' : World} {S : Str} {e : Ending} (hk : Kp (fun _ => False) w wx) (G : Nat → Prop) (hG : ∀ k, G k → k < wx.heap.size) (h : NewRPost wx S e w') : ∃ s, e = .returned (.pointer (some ⟨s, 0, none⟩)) ∧ L1 G w w' s S := by
  obtain ⟨s, F, rfl, h1, h2, h3, h4⟩ := h
  have hz := hk.size
  have hz2 := h3.size
  refine ⟨s, rfl, ⟨F, h1, fun k q => by have := h2 k q; omega, fun k q => ⟨by have := hG k q; omega, fun q2 => ?_⟩⟩, hk.trans h3⟩
  have := hG k q
  rcases q2 with q2 | q2
  · have := h2 k q2; omega
  · have := h4 k q2; omega
theorem L2.of_new {G : Nat → Prop} {w wx w' : World} {s : Nat} {S1 S : Str} {e : Ending} (h0 : L1 G w wx s S1) (h : NewRPost wx S e w') : ∃ s', e = .returned (.pointer (some ⟨s', 0, none⟩)) ∧ L2 G w w' s s' S1 S := by
  obtain ⟨s', F, rfl, h1, h2, h3, h4⟩ := h
  obtain ⟨⟨F1, g1, g2, g3⟩, g4⟩ := h0
  have hz := g4.size
  have hz2 := h3.size
  have hlt : ∀ k, F k ∨ rd w' s' k → wx.heap.size ≤ k := fun k q => q.elim (h2 k) (h4 k)
  refine ⟨s', rfl, ⟨F1, F, g1.kp0 h3, h1, g2, fun k q => by have := h2 k q; omega, fun k q1 q2 => ?_, fun k q => ⟨by have := (g3 k q).1; omega, fun q1 => ?_, fun q2 => ?_⟩⟩, g4.trans h3⟩
  · rw [rd_kp h3 g1.lt (fun q => q)] at q1
    have := hlt k q2
    rcases q1 with q1 | q1
    · have := g1.fl k q1; omega
    · have := (g1.rd_lt q1).1; omega
  · rw [rd_kp h3 g1.lt (fun q => q)] at q1
    exact (g3 k q).2 q1
  · have := hlt k q2; have := (g3 k q).1; omega
/-- What a step of one leaves. -/
def Out1 (G : Nat → Prop) (w wx : World) (s : Nat) (O : List UInt8) (S' : Str) (e : Ending) (w' : World) : Prop :=
  ∃ a c, e = .returned (.slice a O.length c) ∧ RowB wx.heap.size w' (.slice a O.length c) O ∧ L1 (fun k => G k ∨ (Value.slice a O.length c).ownBlock = some k) w w' s S' ∧ Kp (fun k => w.heap.size ≤ k ∧ ¬ G k) wx w'
def Out2 (G : Nat → Prop) (w wx : World) (s1 s2 : Nat) (O : List UInt8) (S1 S2 : Str) (e : Ending) (w' : World) : Prop :=
  ∃ a c, e = .returned (.slice a O.length c) ∧ RowB wx.heap.size w' (.slice a O.length c) O ∧ L2 (fun k => G k ∨ (Value.slice a O.length c).ownBlock = some k) w w' s1 s2 S1 S2 ∧ Kp (fun k => w.heap.size ≤ k ∧ ¬ G k) wx w'
theorem row_lt {n : Nat} {w : World} {a : Option Addr} {k c : Nat} {O : List UInt8} (h : RowB n w (.slice a k c) O) {b : Nat} (hb : (Value.slice a k c).ownBlock = some b) : n ≤ b ∧ b < w.heap.size := by
  obtain ⟨_, _, e, h1, h2⟩ := h
  rw [e] at hb
  exact ⟨h2 b (by rw [e]; exact hb), h1.lt (by rw [e]; exact hb)⟩
theorem L1.step {G : Nat → Prop} {w wx w' : World} {s : Nat} {S S' : Str} {O : List UInt8} {e : Ending} {F : Nat → Prop} (_ : StAt F wx s S) (h2 : ∀ k, F k → w.heap.size ≤ k) (h3 : ∀ k, G k → k < wx.heap.size ∧ ¬ (F k ∨ rd wx s k)) (h4 : Kp (fun _ => False) w wx) (h : OutPost F wx s O S' e w') : Out1 G w wx s O S' e w' := by
  obtain ⟨a, c, F', rfl, q1, q2, q3, q4, q5, q6⟩ := h
  have hz := h4.size
  have hz2 := q4.size
  refine ⟨a, c, rfl, q1, ⟨⟨F', q3, fun k q => ?_, fun k q => ?_⟩, h4.trans2 q4 (fun i hi q => by have := h2 i q; omega)⟩, q4.mono fun k _ q => ⟨h2 k q, fun g => (h3 k g).2 (.inl q)⟩⟩
  · rcases q5 k q with q | q
    · exact h2 k q
    · omega
  · rcases q with q | q
    · have := h3 k q
      refine ⟨by omega, fun q8 => ?_⟩
      rcases q8 with q8 | q8
      · rcases q5 k q8 with q9 | q9
        · exact this.2 (.inl q9)
        · omega
      · rcases q6 k q8 with q9 | q9
        · exact this.2 (.inr q9)
        · omega
    · refine ⟨(row_lt q1 q).2, fun q8 => ?_⟩
      rcases q8 with q8 | q8
      · exact (q2 k q).1 q8
      · exact (q2 k q).2 q8
theorem L2.step {G : Nat → Prop} {w wx w' : World} {s s2 : Nat} {S S' S2 : Str} {O : List UInt8} {e : Ending} {F F2 : Nat → Prop} (_ : StAt F wx s S) (g1 : StAt F2 wx s2 S2) (h2 : ∀ k, F k → w.heap.size ≤ k) (g2 : ∀ k, F2 k → w.heap.size ≤ k) (hd : ∀ k, F k ∨ rd wx s k → ¬ (F2 k ∨ rd wx s2 k))
    (h3 : ∀ k, G k → k < wx.heap.size ∧ ¬ (F k ∨ rd wx s k) ∧ ¬ (F2 k ∨ rd wx s2 k)) (h4 : Kp (fun _ => False) w wx) (h : OutPost F wx s O S' e w') : Out2 G w wx s s2 O S' S2 e w' := by
  obtain ⟨a, c, F', rfl, q1, q2, q3, q4, q5, q6⟩ := h
  have hz := h4.size
  have hz2 := q4.size
  have g1' := g1.kpR q4 (fun k a b => hd k (.inl b) (.inl a)) (fun k a b => hd k (.inl b) (.inr a))
  have hs2 : ¬ F s2 := fun q => hd s2 (.inl q) (.inl g1.fs)
  have hrd : ∀ k, rd w' s2 k ↔ rd wx s2 k := fun k => rd_kp q4 g1.lt hs2
  have hl2 : ∀ k, F2 k ∨ rd w' s2 k → k < wx.heap.size ∧ (F2 k ∨ rd wx s2 k) := fun k q => by
    rw [hrd] at q
    rcases q with q | q
    · exact ⟨g1.fl k q, .inl q⟩
    · exact ⟨(g1.rd_lt q).1, .inr q⟩
  have hn : ∀ k, F' k ∨ rd w' s k → (F k ∨ rd wx s k) ∨ wx.heap.size ≤ k := fun k q => by
    rcases q with q | q
    · rcases q5 k q with q | q
      · exact .inl (.inl q)
      · exact .inr q
    · rcases q6 k q with q | q
      · exact .inl (.inr q)
      · exact .inr q
  refine ⟨a, c, rfl, q1, ⟨⟨F', F2, q3, g1', fun k q => ?_, g2, fun k q r => ?_, fun k q => ?_⟩, h4.trans2 q4 (fun i hi q => by have := h2 i q; omega)⟩, q4.mono fun k _ q => ⟨h2 k q, fun g => (h3 k g).2.1 (.inl q)⟩⟩
  · rcases q5 k q with q | q
    · exact h2 k q
    · omega
  · have := hl2 k r
    rcases hn k q with q | q
    · exact hd k q this.2
    · omega
  · rcases q with q | q
    · have := h3 k q
      refine ⟨by omega, fun q8 => ?_, fun q8 => this.2.2 (hl2 k q8).2⟩
      rcases hn k q8 with q9 | q9
      · exact this.2.1 q9
      · omega
    · have h9 := row_lt q1 q
      refine ⟨h9.2, fun q8 => ?_, fun q8 => by have := hl2 k q8; omega⟩
      rcases q8 with q8 | q8
      · exact (q2 k q).1 q8
      · exact (q2 k q).2 q8
/-- A row is appended to. -/
theorem L2.app {G : Nat → Prop} {w w2 w3 : World} {s1 s2 : Nat} {S1 S2 : Str} {v v' : Value} {n : Nat} {xs : List Value} (h : L2 G w w2 s1 s2 S1 S2) (hv : ∀ k, v.ownBlock = some k → G k ∧ w.heap.size ≤ k) (hk : Kp (fun k => v.ownBlock = some k) w2 w3) (h1 : OwnR w3 5 1 v' n xs) (h2 : v'.ownBlock = v.ownBlock ∨ v'.ownBlock = some w2.heap.size) :
    L2 (fun k => G k ∨ v'.ownBlock = some k) w w3 s1 s2 S1 S2 := by
  obtain ⟨⟨F1, F2, a1, a2, a3, a4, a5, a6⟩, a7⟩ := h
  have hz := hk.size
  have n1 : ∀ k, F1 k ∨ rd w2 s1 k → ¬ v.ownBlock = some k := fun k q r => (a6 k (hv k r).1).2.1 q
  have n2 : ∀ k, F2 k ∨ rd w2 s2 k → ¬ v.ownBlock = some k := fun k q r => (a6 k (hv k r).1).2.2 q
  have r1 : ∀ k, rd w3 s1 k ↔ rd w2 s1 k := fun k => rd_kp hk a1.lt (n1 _ (.inl a1.fs))
  have r2 : ∀ k, rd w3 s2 k ↔ rd w2 s2 k := fun k => rd_kp hk a2.lt (n2 _ (.inl a2.fs))
  refine ⟨⟨F1, F2, a1.kpR hk (fun k q => n1 k (.inl q)) (fun k q => n1 k (.inr q)), a2.kpR hk (fun k q => n2 k (.inl q)) (fun k q => n2 k (.inr q)), a3, a4, fun k => ?_, fun k q => ?_⟩, a7.trans2 hk (fun i hi q => by have := (hv i q).2; omega)⟩
  · rw [r1, r2]; exact a5 k
  · rw [r1, r2]
    have hG : ∀ k, G k → k < w3.heap.size ∧ ¬ (F1 k ∨ rd w2 s1 k) ∧ ¬ (F2 k ∨ rd w2 s2 k) := fun k q => ⟨by have := (a6 k q).1; omega, (a6 k q).2⟩
    rcases q with q | q
    · exact hG k q
    · rcases h2 with e | e
      · exact hG k (hv k (e.symm.trans q)).1
      · rw [q] at e
        simp only [Option.some.injEq] at e
        subst e
        refine ⟨h1.lt q, fun r => ?_, fun r => ?_⟩
        · rcases r with r | r
          · exact Nat.lt_irrefl _ (a1.fl _ r)
          · exact Nat.lt_irrefl _ (a1.rd_lt r).1
        · rcases r with r | r
          · exact Nat.lt_irrefl _ (a2.fl _ r)
          · exact Nat.lt_irrefl _ (a2.rd_lt r).1
/-! ### calls -/
section
variable {G : Nat → Prop} {w wx : World} {s s2 : Nat} {S S2 : Str}
theorem write1 (h : L1 G w wx s S) (he : S.ended = false) (p : List UInt8) (ap : Option Addr) (cp : Nat) (hp : SlR w 1 (.slice ap p.length cp) p.length (p.map u8c)) (hw : S.Wf 40000) (hpl : p.length ≤ 40000) :
    Calls Tryz.prog 13 #[.pointer (some ⟨s, 0, none⟩), .slice ap p.length cp] wx (Out1 G w wx s (wrO S p) (wrS S p)) := by
  obtain ⟨⟨F, h1, h2, h3⟩, h4⟩ := h
  exact (write_go h1 he p ap cp (hp.kp h4 (fun _ _ q => q)) (fun h0 b hb q => by have := sl_lt hp h0 hb; have := h2 b q; omega) hw hpl).mono (fun e w' q => L1.step h1 h2 h3 h4 q)
theorem end1 (h : L1 G w wx s S) (he : S.ended = false) (hk5 : S.kept.length ≤ 500) (hw : S.Wf 100000) :
    Calls Tryz.prog 18 #[.pointer (some ⟨s, 0, none⟩)] wx (Out1 G w wx s (endO S) (endS' S)) := by
  obtain ⟨⟨F, h1, h2, h3⟩, h4⟩ := h
  exact (end_go h1 he hk5 hw).mono (fun e w' q => L1.step h1 h2 h3 h4 q)
theorem row_nil (n : Nat) (w : World) : RowB n w (.slice none 0 0) [] := RowM.nil _ _ _
theorem flush1 (h : L1 G w wx s S) (he : S.ended = false) (hk5 : S.kept.length ≤ 500) (hw : S.Wf 100000) :
    Calls Tryz.prog 14 #[.pointer (some ⟨s, 0, none⟩)] wx (Out1 G w wx s (flO S) (flS S)) := by
  have h' := h
  obtain ⟨⟨F, h1, h2, h3⟩, h4⟩ := h
  by_cases h0 : S.kept.length = 0
  · refine (flush_no h1 (.inr h0)).mono ?_
    rintro e w' ⟨rfl, rfl⟩
    unfold flO flS
    rw [if_pos h0, if_pos h0]
    exact ⟨none, 0, rfl, RowM.nil _ _ _, h'.mono (fun k q => q.elim id (fun q => by cases q)), (Kp.refl _ _)⟩
  · unfold flO flS
    rw [if_neg h0, if_neg h0]
    exact (flush_go h1 he (by omega) hk5 hw).mono (fun e w' q => L1.step h1 h2 h3 h4 q)
theorem write2 (h : L2 G w wx s s2 S S2) (he : S.ended = false) (p : List UInt8) (ap : Option Addr) (cp : Nat) (hp : SlR w 1 (.slice ap p.length cp) p.length (p.map u8c)) (hw : S.Wf 40000) (hpl : p.length ≤ 40000) :
    Calls Tryz.prog 13 #[.pointer (some ⟨s, 0, none⟩), .slice ap p.length cp] wx (Out2 G w wx s s2 (wrO S p) (wrS S p) S2) := by
  obtain ⟨⟨F1, F2, h1, h2, h3, h4, h5, h6⟩, h7⟩ := h
  exact (write_go h1 he p ap cp (hp.kp h7 (fun _ _ q => q)) (fun h0 b hb q => by have := sl_lt hp h0 hb; have := h3 b q; omega) hw hpl).mono (fun e w' q => L2.step h1 h2 h3 h4 h5 h6 h7 q)
theorem end2 (h : L2 G w wx s s2 S S2) (he : S.ended = false) (hk5 : S.kept.length ≤ 500) (hw : S.Wf 100000) :
    Calls Tryz.prog 18 #[.pointer (some ⟨s, 0, none⟩)] wx (Out2 G w wx s s2 (endO S) (endS' S) S2) := by
  obtain ⟨⟨F1, F2, h1, h2, h3, h4, h5, h6⟩, h7⟩ := h
  exact (end_go h1 he hk5 hw).mono (fun e w' q => L2.step h1 h2 h3 h4 h5 h6 h7 q)
theorem flush2 (h : L2 G w wx s s2 S S2) (he : S.ended = false) (hk5 : S.kept.length ≤ 500) (hw : S.Wf 100000) :
    Calls Tryz.prog 14 #[.pointer (some ⟨s, 0, none⟩)] wx (Out2 G w wx s s2 (flO S) (flS S) S2) := by
  have h' := h
  obtain ⟨⟨F1, F2, h1, h2, h3, h4, h5, h6⟩, h7⟩ := h
  by_cases h0 : S.kept.length = 0
  · refine (flush_no h1 (.inr h0)).mono ?_
    rintro e w' ⟨rfl, rfl⟩
    unfold flO flS
    rw [if_pos h0, if_pos h0]
    exact ⟨none, 0, rfl, RowM.nil _ _ _, h'.mono (fun k q => q.elim id (fun q => by cases q)), (Kp.refl _ _)⟩
  · unfold flO flS
    rw [if_neg h0, if_neg h0]
    exact (flush_go h1 he (by omega) hk5 hw).mono (fun e w' q => L2.step h1 h2 h3 h4 h5 h6 h7 q)
theorem Out2.swap {O : List UInt8} {S1 : Str} {e : Ending} {w' : World} (h : Out2 G w wx s s2 O S1 S2 e w') : ∃ a c, e = .returned (.slice a O.length c) ∧ RowB wx.heap.size w' (.slice a O.length c) O ∧ L2 (fun k => G k ∨ (Value.slice a O.length c).ownBlock = some k) w w' s2 s S2 S1 ∧ Kp (fun k => w.heap.size ≤ k ∧ ¬ G k) wx w' := by
  obtain ⟨a, c, h1, h2, h3, h4⟩ := h
  exact ⟨a, c, h1, h2, h3.swap, h4⟩
end
/-- A new Stream of level lv; what it reads is new too. -/
theorem new_lvR (w : World) (dict : List UInt8) (a : Option Addr) (c : Nat) (id : Nat) (lv : Int) (dl : Nat) (h1 : 1 ≤ lv) (h2 : lv ≤ 3) (hd : dep lv = (dl : Nat)) (h : SlR w 1 (.slice a dict.length c) dict.length (dict.map u8c)) (h3 : id ≤ 2147483647) (h4 : dict.length ≤ 2000) :
    Calls Tryz.prog 12 #[.slice a dict.length c, .int .i64 (id : Nat), .int .i64 lv] w (NewRPost w (S0 id dl dict)) := by
  have hd1 : 1 ≤ dl ∧ dl ≤ 32 := by
    have : lv = 1 ∨ lv = 2 ∨ lv = 3 := by omega
    rcases this with rfl | rfl | rfl
    · rw [show dep 1 = ((1 : Nat) : Int) from rfl] at hd; omega
    · rw [show dep 2 = ((8 : Nat) : Int) from rfl] at hd; omega
    · rw [show dep 3 = ((32 : Nat) : Int) from rfl] at hd; omega
  exact new_r w dict a c id lv dl hd h (by omega) h3 h4
theorem dep_lv {lv : Int} (h1 : 1 ≤ lv) (h2 : lv ≤ 3) : ∃ dl : Nat, (1 ≤ dl ∧ dl ≤ 32) ∧ dep lv = (dl : Nat) := by
  have : lv = 1 ∨ lv = 2 ∨ lv = 3 := by omega
  rcases this with rfl | rfl | rfl
  · exact ⟨1, by omega, rfl⟩
  · exact ⟨8, by omega, rfl⟩
  · exact ⟨32, by omega, rfl⟩
end Go.Proofs.YtbakhpakdaflkaaGreat.Str
namespace Go.Proofs.YtbakhpakdaflkaaGreat.He
open Go Go.RowKit Go.ChangeMaps Go.MapKept Go.Mg Go.Hf Go.Sort Go.Proofs.YtbakhpakdaflkaaGreat.Hu Go.Proofs.YtbakhpakdaflkaaGreat.Bw

set_option maxRecDepth 100000 in
theorem strOf {w : World} {a : Option Addr} {n cap : Nat} {l : List UInt8} (h : SlR w 1 (.slice a n cap) l.length (l.map u8c)) : (convert 24 9 (.slice a n cap)).run Tryz.prog w = .ok (.string ⟨l.toArray⟩) w := by
  obtain ⟨h0, a', c', e, h1, h2, h3, h4⟩ := h
  simp only [Value.slice.injEq] at e
  obtain ⟨rfl, rfl, rfl⟩ := e
  by_cases hl : 0 < l.length
  · obtain ⟨g, off, rfl, hg, hc⟩ := h4 hl
    have := run_convert_bytes_arg (P := Tryz.prog) w 24 5 Tryz.underlying24 Tryz.underlying5 g off l.length cap (l.map fun b => (b.toNat : Int)) (by simp) (fun i hi => by
      rw [hc i (u8c l[i]) (by simp [hi])]
      simp [u8c, List.getD, hi]) 9 Tryz.underlying9
    rw [this]
    simp only [strOfNums, List.map_map]
    congr 3
    have : ((fun n : Int => UInt8.ofNat n.toNat) ∘ fun b : UInt8 => (b.toNat : Int)) = id := by funext b; simp
    rw [this, List.map_id]
  · have : l = [] := List.eq_nil_of_length_eq_zero (by omega)
    subst this
    cases a with
    | none => exact run_convert_bytes_nil (P := Tryz.prog) w 24 5 Tryz.underlying24 Tryz.underlying5 _ _ 9 Tryz.underlying9
    | some ad =>
      rw [run_convert_bytes_string w 24 9 5 (some ad) _ cap Tryz.underlying24 Tryz.underlying5 Tryz.underlying9]
      simp [Conv.bytesToString, loadCells, loadCellsFrom]
      rfl

end Go.Proofs.YtbakhpakdaflkaaGreat.He
namespace Go.Proofs.YtbakhpakdaflkaaGreat.streamParts
open Go Go.RowKit Go.ChangeMaps Go.MapKept Go.Mg Go.Mt Go.Proofs.YtbakhpakdaflkaaGreat.Hu Go.Proofs.YtbakhpakdaflkaaGreat.Sq Go.Proofs.YtbakhpakdaflkaaGreat.Bk Go.Proofs.YtbakhpakdaflkaaGreat.Ma Go.Proofs.YtbakhpakdaflkaaGreat.Str Go.Proofs.YtbakhpakdaflkaaGreat.Op Go.Proofs.YtbakhpakdaflkaaGreat.He

/-- What the loop keeps: what was written, what is left, what came out. -/
def PI (w wx : World) (sa sb : Nat) (SA Z0 : Str) (p : List UInt8) (xv : Value) (OX : List UInt8) (yv rv : Value) (r : List UInt8) (o : List UInt8) : Prop :=
  ∃ dn, p = dn ++ r ∧ o = wrO Z0 dn ∧ (∃ a c, yv = .slice a o.length c) ∧ (∃ a c, rv = .slice a r.length c) ∧ OwnR wx 5 1 yv o.length (o.map u8c) ∧ SlR w 1 rv r.length (r.map u8c) ∧ SlR wx 1 xv OX.length (OX.map u8c) ∧
    (∀ b, yv.ownBlock = some b → w.heap.size ≤ b ∧ ¬ xv.ownBlock = some b) ∧ L2 (fun b => xv.ownBlock = some b ∨ yv.ownBlock = some b) w wx sa sb SA (wrS Z0 dn)
/-- What a Write leaves, and what is so once it is appended. -/
def PW (w : World) (sa sb : Nat) (SA Z0 : Str) (p : List UInt8) (xv : Value) (OX : List UInt8) (yv : Value) (r o : List UInt8) (k : Nat) (e : Ending) (w' : World) : Prop :=
  ∃ a c Q, e = .returned (.slice a Q.length c) ∧ Q.length ≤ 10000 ∧ SlR w' 1 (.slice a Q.length c) Q.length (Q.map u8c) ∧ OwnR w' 5 1 yv o.length (o.map u8c) ∧
    ∀ w'' v' rv', OwnR w'' 5 1 v' (o.length + Q.length) (o.map u8c ++ Q.map u8c) → Kp (fun b => yv.ownBlock = some b) w' w'' → (v'.ownBlock = yv.ownBlock ∨ v'.ownBlock = some w'.heap.size) →
      (∃ a c, rv' = .slice a (r.drop k).length c) → SlR w 1 rv' (r.drop k).length ((r.drop k).map u8c) → PI w w'' sa sb SA Z0 p xv OX v' rv' (r.drop k) (o ++ Q)
theorem PI.write {w wx : World} {sa sb : Nat} {SA Z0 : Str} {p OX r o : List UInt8} {xv yv : Value} {ar : Option Addr} {cr : Nat} (h : PI w wx sa sb SA Z0 p xv OX yv (.slice ar r.length cr) r o) (he : Z0.ended = false) (hw : Z0.Wf 0) (hp : p.length ≤ 2000) (k : Nat) (hk : k ≤ r.length) (hsl : SlR w 1 (.slice ar k cr) k ((r.take k).map u8c)) :
    Calls Tryz.prog 13 #[.pointer (some ⟨sb, 0, none⟩), .slice ar k cr] wx (PW w sa sb SA Z0 p xv OX yv r o k) := by
  obtain ⟨dn, h1, h2, ⟨ay, cy, h3⟩, ⟨ar', cr', h4⟩, h5, h6, h7, h8, h9⟩ := h
  have ht : (r.take k).length = k := pre_len hk
  have hl : p.length = dn.length + r.length := by rw [h1, List.length_append]
  have hdn : dn.length ≤ 2000 := by omega
  have hwf := wrS_wf (p := dn) hw
  have hke : (wrS Z0 dn).kept.length < 500 := wrS_kept _ _
  have W := write2 h9.swap ((wrS_ended _ _).trans he) (r.take k) ar cr (by rw [ht]; exact hsl) (hwf.mono (by omega)) (by rw [ht]; omega)
  rw [ht] at W
  refine W.mono ?_
  rintro e w' ⟨a, c, rfl, q1, q2, q3⟩
  have hq := wr_app Z0 dn (r.take k)
  have hQ : (wrO (wrS Z0 dn) (r.take k)).length ≤ 10000 := by
    have := wrO_le (wrS Z0 dn) (r.take k)
    rw [ht] at this
    omega
  have q2' := q2.swap
  have hY := h5.kp q3 (fun b hb q => q.2 (.inr hb))
  have hX := h7.kp q3 (fun b hb q => q.2 (.inl hb))
  obtain ⟨_, _, e5, q5, q6⟩ := q1
  simp only [Value.slice.injEq, true_and] at e5
  obtain ⟨rfl, rfl⟩ := e5
  refine ⟨a, c, _, rfl, hQ, q5.sl, hY, fun w'' v' rv' g1 g2 g3 g4 g5 => ?_⟩
  have hXlt : ∀ b, xv.ownBlock = some b → b < w'.heap.size := fun b hb => by
    obtain ⟨_, _, _, _, _, _, _, h⟩ := q2'.ex
    exact (h b (.inl (.inl hb))).1
  have L := q2'.app (v := yv) (v' := v') (fun b hb => ⟨.inl (.inr hb), (h8 b hb).1⟩) g2 g1 g3
  refine ⟨dn ++ r.take k, ?_, ?_, ?_, g4, ?_, g5, hX.kp g2 (fun b hb q => (h8 b q).2 hb), fun b hb => ?_, ?_⟩
  · rw [List.append_assoc, List.take_append_drop]; exact h1
  · rw [hq.1, ← h2]
  · obtain ⟨b1, d1, rfl⟩ := g1.form
    exact ⟨b1, d1, by rw [List.length_append]⟩
  · rw [List.map_append, List.length_append]; exact g1
  · rcases g3 with e | e
    · exact h8 b (e.symm.trans hb)
    · rw [e] at hb
      simp only [Option.some.injEq] at hb
      subst hb
      refine ⟨?_, fun q => Nat.lt_irrefl _ (hXlt _ q)⟩
      have := q2'.kp.size
      omega
  · rw [hq.2]
    exact L.mono (fun b q => q.elim (fun q => .inl (.inl (.inl q))) .inr)
/-- Both are ended alike. -/
theorem PI.whole {w wx : World} {sa sb : Nat} {SA Z0 : Str} {p OX o : List UInt8} {xv yv rv : Value} {r : List UInt8} (h : PI w wx sa sb SA Z0 p xv OX yv rv r o) (hr : r = []) : o = wrO Z0 p ∧ OwnR wx 5 1 yv o.length (o.map u8c) ∧ SlR wx 1 xv OX.length (OX.map u8c) ∧ L2 (fun b => xv.ownBlock = some b ∨ yv.ownBlock = some b) w wx sa sb SA (wrS Z0 p) := by
  subst hr
  obtain ⟨dn, h1, h2, _, _, h5, _, h7, _, h9⟩ := h
  rw [List.append_nil] at h1
  subst h1
  exact ⟨h2, h5, h7, h9⟩
theorem ints_at {w : World} {a : Option Addr} {c : Nat} {l : List Int} (h : SlR w 1 (.slice a l.length c) l.length (l.map (Value.int .i64))) {i : Nat} (hi : i < l.length) :
    ∃ g o, a = some ⟨g, o, none⟩ ∧ g < w.heap.size ∧ w.cell? ⟨g, o + i, none⟩ = some (.int .i64 l[i]) := by
  obtain ⟨_, a0, c0, e0, _, _, _, hc⟩ := h
  simp only [Value.slice.injEq, true_and] at e0
  obtain ⟨rfl, rfl⟩ := e0
  obtain ⟨g, off, rfl, hg, hc⟩ := hc (by omega)
  exact ⟨g, off, rfl, hg, hc i _ (by rw [List.getElem?_map, List.getElem?_eq_getElem hi]; rfl)⟩
theorem and_mask (z : Int) : ∃ m : Nat, bits .and .i64 z 65535 = (m : Int) ∧ m ≤ 65535 := by
  have h : (BitVec.ofInt 64 z).toNat &&& 65535 ≤ 65535 := Nat.and_le_right
  refine ⟨(BitVec.ofInt 64 z).toNat &&& 65535, ?_, h⟩
  show IntKind.i64.wrap ((BitVec.ofInt 64 z &&& BitVec.ofInt 64 65535).toNat : Int) = _
  rw [BitVec.toNat_and, show (BitVec.ofInt 64 65535).toNat = 65535 from by decide]
  rw [IntKind.wrap_i64]; omega
set_option maxRecDepth 100000 in
set_option maxHeartbeats 1000000 in
theorem full (w : World) (lv : Int) (p : List UInt8) (cs : List Int) (ap ac : Option Addr) (cp cc : Nat) (hp : SlR w 1 (.slice ap p.length cp) p.length (p.map u8c)) (hc : SlR w 1 (.slice ac cs.length cc) cs.length (cs.map (Value.int .i64))) (h1 : 1 ≤ lv) (h2 : lv ≤ 3) (h3 : p.length ≤ 2000) (h4 : cs.length ≤ 30) :
    Calls Tryz.prog 5 #[.int .i64 lv, .slice ap p.length cp, .slice ac cs.length cc] w (LawPost w) := by
  obtain ⟨dl, hdl, hd⟩ := dep_lv h1 h2
  have NW := fun V => new_lvR V [] none 0 5 lv dl h1 h2 hd (SlR.nil _ _) (by omega) (by simp)
  have NW : ∀ V, Calls Tryz.prog 12 #[.slice none 0 0, .int .i64 5, .int .i64 lv] V (NewRPost V (S0 5 dl [])) := NW
  have NW := Lib.hid NW
  have b0 : decide (lv < 1) = false := decide_eq_false (by omega)
  have b1 : decide (3 < lv) = false := decide_eq_false (by omega)
  have b2 : decide ((2000 : Int) < (p.length : Int)) = false := decide_eq_false (by omega)
  have b3 : decide ((30 : Int) < (cs.length : Int)) = false := decide_eq_false (by omega)
  have WF0 := Lib.hid (s0_wf (id := 5) (d := dl) (dict := []) hdl.1 hdl.2 (by omega) (by simp) 0)
  have WF1 := wrS_wf (p := p) WF0.out
  have K1 := wrS_kept (S0 5 dl []) p
  have E1 : (wrS (S0 5 dl []) p).ended = false := wrS_ended _ _
  have W2 := Lib.hid (fun G wx s s2 S2 (h : L2 G w wx s s2 (S0 5 dl []) S2) => write2 h rfl p ap cp hp (WF0.out.mono (by omega)) (by omega))
  have N2 := Lib.hid (fun G wx s s2 S2 (h : L2 G w wx s s2 (wrS (S0 5 dl []) p) S2) => end2 h E1 (by omega) (WF1.mono (by omega)))
  have HP := Lib.hid hp
  have HIX := Lib.hid (fun i (hi : i < cs.length) => ints_at hc hi)
  have HE0 : Hid ((S0 5 dl []).ended = false) := Lib.hid rfl
  have HW0 : Hid (wrS (S0 5 dl []) [] = S0 5 dl [] ∧ wrO (S0 5 dl []) [] = []) := Lib.hid ⟨(wr_nil (by show (0 : Nat) < 500; omega)).2, (wr_nil (by show (0 : Nat) < 500; omega)).1⟩
  obtain ⟨Z0, hZ0⟩ : ∃ Z, Z = S0 5 dl [] := ⟨_, rfl⟩
  rw [← hZ0] at NW WF0 W2 N2 HE0 HW0
  obtain ⟨Z1, hZ1⟩ : ∃ Z, Z = wrS Z0 p := ⟨_, rfl⟩
  have HZ1 := Lib.hid hZ1
  obtain ⟨OX, hOX⟩ : ∃ O, O = wrO Z0 p := ⟨_, rfl⟩
  have HOX := Lib.hid hOX
  rw [← hZ1, ← hOX] at W2
  rw [← hZ1] at N2
  obtain ⟨OE, hOE⟩ : ∃ O, O = endO Z1 := ⟨_, rfl⟩
  obtain ⟨Z2, hZ2⟩ : ∃ Z, Z = endS' Z1 := ⟨_, rfl⟩
  rw [← hOE, ← hZ2] at N2
  have ST1 := Lib.hid (fun V a c (h : SlR V 1 (.slice a OX.length c) OX.length (OX.map u8c)) => strOf h)
  have ST2 := Lib.hid (fun V a c (h : SlR V 1 (.slice a OE.length c) OE.length (OE.map u8c)) => strOf h)
  obtain ⟨X1, hX1⟩ : ∃ X : ByteArray, X = ⟨OX.toArray⟩ := ⟨_, rfl⟩
  obtain ⟨X2, hX2⟩ : ∃ X : ByteArray, X = ⟨OE.toArray⟩ := ⟨_, rfl⟩
  rw [← hX1] at ST1
  rw [← hX2] at ST2
  obtain ⟨n, hn⟩ : ∃ n, n = p.length := ⟨_, rfl⟩
  obtain ⟨m, hm⟩ : ∃ m, m = cs.length := ⟨_, rfl⟩
  have HN := Lib.hid hn
  have HM := Lib.hid hm
  rw [← hn] at W2 b2 h3 ⊢
  rw [← hm] at b3 h4 ⊢
  clear hp hc h1 h2 hd hdl WF1 K1 E1 hZ0 hZ1 hZ2 hOX hOE hX1 hX2 hn hm
  go_enter Tryz.func5, Tryz.ntmps5
  go_wp2_with fail
  refine (NW.out _).mono ?_
  intro e w1 he
  obtain ⟨sa, rfl, l1⟩ := L1.of_new (Kp.refl _ w) (fun _ => False) (fun _ q => q.elim) he
  have LL := Lib.hid l1
  clear l1 he
  go_wp2_with fail
  refine (NW.out _).mono ?_
  intro e w2 he
  obtain ⟨sb, rfl, l2⟩ := L2.of_new LL.out he
  have LL := Lib.hid l2
  clear l2 he
  go_wp2_with fail
  refine Calls.mono (W2.out _ _ _ _ _ LL.out) ?_
  rintro e w3 ⟨ax, cx, rfl, r1, l3, _⟩
  have R1 := Lib.hid (show SlR w3 1 (.slice ax OX.length cx) OX.length (OX.map u8c) by obtain ⟨_, _, _, q, _⟩ := r1; exact q.sl)
  have I0 : Hid (PI w w3 sa sb Z1 Z0 p (.slice ax OX.length cx) OX (.slice none 0 0) (.slice ap n cp) p []) := Lib.hid (by
    refine ⟨[], rfl, HW0.out.2.symm, ⟨none, 0, rfl⟩, ⟨ap, cp, by rw [HN.out]⟩, OwnR.nil _ _ _, by rw [HN.out]; exact HP.out, R1.out, fun b hb => (by cases hb), ?_⟩
    rw [HW0.out.1]
    exact l3.mono (fun b q => q.elim (fun q => .inr q) (fun q => by cases q)))
  clear r1 l3 W2 R1 HW0
  go_wp2_with fail
  go_loopw [10, 11, 12] (fun yv rv i wx => ∃ (k : Nat) (r o : List UInt8) (ar : Option Addr) (cr : Nat) (ay : Option Addr) (cy : Nat), k ≤ m ∧ i = .int .i64 k ∧ yv = .slice ay o.length cy ∧ rv = .slice ar r.length cr ∧ r.length ≤ n ∧ o.length ≤ 100000 + 10000 * k ∧ PI w wx sa sb Z1 Z0 p (.slice ax OX.length cx) OX yv rv r o) (fun _ _ i _ => m - (intOf i).toNat)
  case atStart => exact ⟨0, p, [], ap, cp, none, 0, Nat.zero_le _, rfl, rfl, by rw [HN.out], by rw [HN.out]; exact Nat.le_refl _, by simp, I0.out⟩
  case round =>
    clear I0
    obtain ⟨k, r, o, ar, cr, ay, cy, hk, rfl, rfl, rfl, hrn, hon, pi⟩ := hrel
    have PIH := Lib.hid pi
    have HRS : Hid (SlR w 1 (.slice ar r.length cr) r.length (r.map u8c)) := Lib.hid (by obtain ⟨_, _, _, _, _, _, q, _⟩ := pi; exact q)
    obtain ⟨rl, hrl⟩ : ∃ rl, rl = r.length := ⟨_, rfl⟩
    obtain ⟨ol, hol⟩ : ∃ ol, ol = o.length := ⟨_, rfl⟩
    have HRL := Lib.hid hrl
    have HOL := Lib.hid hol
    rw [← hrl] at hrn ⊢
    rw [← hol] at hon ⊢
    have HON := Lib.hid hon
    obtain ⟨j0, hj0, hy0, hy1, hy2⟩ := info_parts infoU8c
    by_cases hlt : k < m
    · obtain ⟨g, oo, ea, hgg, d0⟩ := HIX.out k (by rw [← HM.out]; exact hlt)
      have KW : Kp (fun _ => False) w wr := by obtain ⟨_, _, _, _, _, _, _, _, _, q⟩ := PIH.out; exact q.kp
      have d1 : wr.cell? ⟨g, oo + k, none⟩ = some (.int .i64 (cs[k]'(by rw [← HM.out]; exact hlt))) := (KW.cell (p := ⟨g, oo + k, none⟩) hgg (fun q => q)).trans d0
      generalize cs[k]'(by rw [← HM.out]; exact hlt) = z at d1
      clear d0 KW pi
      subst ea
      obtain ⟨mz, hmz, hmz2⟩ := and_mask z
      obtain ⟨q, hq⟩ : ∃ q, q = mz % (rl + 1) := ⟨_, rfl⟩
      have hql : q ≤ rl := by have := Nat.mod_lt mz (show 0 < rl + 1 by omega); omega
      have hrem : (mz : Int).tmod ((rl : Int) + 1) = (q : Int) := by
        rw [Int.tmod_eq_emod_of_nonneg (by omega), hq]
        rw [Int.natCast_emod]; rfl
      have hs1 : IntKind.i64.wrap ((rl : Int) + 1) = (rl : Int) + 1 := by rw [IntKind.wrap_i64]; omega
      have hs2 : ((rl : Int) + 1 == 0) = false := by rw [beq_eq_false_iff_ne]; omega
      have hs3 : IntKind.i64.wrap (q : Int) = (q : Int) := by rw [IntKind.wrap_i64]; omega
      have hk1 : IntKind.i64.wrap ((k : Int) + 1) = (k : Int) + 1 := by rw [IntKind.wrap_i64]; omega
      have hkm : (k : Int) < (m : Int) := by omega
      have hrs := HRS.out
      rw [← HRL.out] at hrs
      obtain ⟨hu1, hu2⟩ := hrs.upto Tryz.underlying24 (by kernel_rfl) (k := q) hql
      obtain ⟨a9, c9, hf1, hf2, _⟩ := hrs.from_ Tryz.underlying24 (by kernel_rfl) (k := q) hql
      simp only [Nat.mul_one, ← List.map_take] at hu2
      simp only [Nat.mul_one, ← List.map_drop] at hf2
      have hdl : (r.drop q).length = rl - q := by rw [List.length_drop, HRL.out]
      have HDL := Lib.hid hdl
      have HF2 : Hid (SlR w 1 (.slice a9 (r.drop q).length c9) (r.drop q).length ((r.drop q).map u8c)) := Lib.hid (by rw [hdl]; exact hf2)
      have WR := Lib.hid (PI.write PIH.out HE0.out WF0.out (by rw [← HN.out]; exact h3) q (by rw [← HRL.out]; exact hql) hu2)
      have hqn : mz % (rl + 1) = q := hq.symm
      clear hq hu2 hf2 hrs hdl HRS hrl hol
      go_wp2_with fail
      refine Calls.mono WR.out ?_
      rintro e w4 ⟨a4, c4, Q, rfl, hQ, q1, q2, q3⟩
      have Q1 := Lib.hid q1
      have Q2 := Lib.hid q2
      have Q3 := Lib.hid q3
      have HQ := Lib.hid hQ
      obtain ⟨ql, hqll⟩ : ∃ ql, ql = Q.length := ⟨_, rfl⟩
      have HQL := Lib.hid hqll
      rw [← hqll] at Q1 HQ Q3 ⊢
      rw [← HOL.out] at Q2 Q3
      clear q1 q2 q3 hQ hqll WR
      go_wp2_with (at_builtin; refine wpList_app w4 rfl (.tmp 59) (.tmp 64) 24 rfl 5 j0 _ 1 1 Tryz.underlying24 hj0 hy0 hy1 hy2 rfl (by decide) (by decide) (.slice ay ol cy) ol (o.map u8c) rfl Q2.out (.slice a4 ql c4) ql (Q.map u8c) rfl Q1.out (u8c_one _) (by have := HON.out; have := HQ.out; omega) ?_; intro v7 w7 g1 g2 g3 _ _; obtain ⟨a7, c7, rfl⟩ := g1.form; have A7 := Lib.hid (Q3.out w7 _ (.slice a9 (r.drop q).length c9) g1 g2 g3 ⟨a9, c9, rfl⟩ HF2.out); clear g1 g2 g3)
      have hol2 : (o ++ Q).length = ol + ql := by rw [List.length_append, HOL.out, HQL.out]
      have h7 := HQ.out
      have h8 := HON.out
      refine ⟨⟨k + 1, r.drop q, o ++ Q, a9, c9, a7, c7, by omega, by go_num, by rw [hol2], by rw [HDL.out], by rw [HDL.out]; omega, by rw [hol2]; omega, ?_⟩, by simp [intOf]; omega⟩
      have := A7.out
      rw [HDL.out] at this
      exact this
    · obtain rfl : k = m := by omega
      obtain ⟨wo, rfl⟩ : ∃ wo : World, wo = wr := ⟨_, rfl⟩
      have hkm : decide ((k : Int) < (k : Int)) = false := decide_eq_false (by omega)
      have HT : Hid (SlR w 1 (.slice ar r.length cr) r.length ((r.take r.length).map u8c)) := Lib.hid (by rw [List.take_length]; exact HRS.out)
      have WR := PI.write PIH.out HE0.out WF0.out (by rw [← HN.out]; exact h3) r.length (Nat.le_refl _) HT.out
      rw [← HRL.out] at WR
      have WR := Lib.hid WR
      clear pi HRS hrl hol
      go_wp2_with fail
      refine Calls.mono WR.out ?_
      rintro e w4 ⟨a4, c4, Q, rfl, hQ, q1, q2, q3⟩
      have Q1 := Lib.hid q1
      have Q2 := Lib.hid q2
      have Q3 := Lib.hid q3
      have HQ := Lib.hid hQ
      obtain ⟨ql, hqll⟩ : ∃ ql, ql = Q.length := ⟨_, rfl⟩
      have HQL := Lib.hid hqll
      rw [← hqll] at Q1 HQ Q3 ⊢
      rw [← HOL.out] at Q2 Q3
      have HRN : Hid (r.drop rl = []) := Lib.hid (by rw [HRL.out, List.drop_length])
      clear q1 q2 q3 hQ hqll WR
      go_upto_region 16 with (at_builtin; refine wpList_app w4 rfl (.tmp 69) (.tmp 72) 24 rfl 5 j0 _ 1 1 Tryz.underlying24 hj0 hy0 hy1 hy2 rfl (by decide) (by decide) (.slice ay ol cy) ol (o.map u8c) rfl Q2.out (.slice a4 ql c4) ql (Q.map u8c) rfl Q1.out (u8c_one _) (by have := HON.out; have := HQ.out; omega) ?_; intro v7 w7 g1 g2 g3 _ _; obtain ⟨a7, c7, rfl⟩ := g1.form; have A7 := Lib.hid (Q3.out w7 _ (.slice none (r.drop rl).length 0) g1 g2 g3 ⟨none, 0, rfl⟩ (by rw [HRN.out]; exact SlR.nil _ _)); clear g1 g2 g3)
      obtain ⟨e7, y7, x7, l7⟩ := A7.out.whole HRN.out
      have hol2 : (o ++ Q).length = ol + ql := by rw [List.length_append, HOL.out, HQL.out]
      rw [hol2] at y7
      rw [e7, ← HOX.out] at y7
      have hoxl : ol + ql = OX.length := by rw [← hol2, e7, ← HOX.out]
      have KD := Lib.hid ((Kp.refl (fun _ => False) w7).drew)
      have v1 := ST1.out w7.drew ax cx (x7.kp KD.out (fun _ _ q => q))
      have v2 := ST1.out w7.drew a7 c7 (by have q := y7.sl.kp KD.out (fun _ _ q => q); rw [hoxl] at q; exact q)
      rw [← hoxl] at v2
      have EA := Lib.hid (N2.out _ _ _ _ _ (by rw [← HZ1.out] at l7; exact l7.kp0 KD.out))
      have HB := Lib.hid (fun G V (q : L2 G w V sa sb Z2 Z1) => N2.out _ _ _ _ _ q.swap)
      clear y7 x7 l7 e7 hol2 hoxl PIH
      go_region_law (first
        | (go_simp; go_at_call 18; apply Calls.mono; (with_reducible exact EA.out); rintro e w5 ⟨a5, c5, rfl, r5, l5, k5⟩
           have u1 := ST2.out w5 a5 c5 (by obtain ⟨_, _, _, q, _⟩ := r5; exact q.sl)
           have R5 : Hid (SlR w5 1 (.slice a5 OE.length c5) OE.length (OE.map u8c)) := Lib.hid (by obtain ⟨_, _, _, q, _⟩ := r5; exact q.sl)
           have LB := Lib.hid (HB.out _ _ l5)
           clear r5 l5 k5)
        | (go_simp; go_at_call 18; apply Calls.mono; (with_reducible exact LB.out); rintro e w6 ⟨a6, c6, rfl, r6, l6, k6⟩
           have u1 := ST2.out w6 a5 c5 (R5.out.kp k6 (fun b hb q => q.2 (.inr hb)))
           have u2 := ST2.out w6 a6 c6 (by obtain ⟨_, _, _, q, _⟩ := r6; exact q.sl)
           have KK := Lib.hid l6.kp
           clear r6 l6 k6)
        | (go_simp; go_at_call 15; refine (known9_c _).mono ?_; rintro e w8 ⟨rfl, k8⟩
           have KK := Lib.hid (KK.out.trans k8)
           clear k8))
      all_goals (go_wp2_with fail; go_ret; exact ⟨rfl, KK.out.below⟩)
set_option maxRecDepth 100000 in
set_option maxHeartbeats 1000000 in
theorem walk (lv : Int) (_ : (Lit.int .i64 lv).wf = true) (w : World) (ap : Option Addr) (cp : Nat) (p : List UInt8) (hp : SlR w 1 (.slice ap p.length cp) p.length (p.map u8c)) (ac : Option Addr) (cc : Nat) (cs : List Int) (hc : SlR w 1 (.slice ac cs.length cc) cs.length (cs.map (Value.int .i64))) (_ : ∀ x ∈ cs, (Lit.int .i64 x).wf = true) :
    Calls Tryz.prog 5 #[.int .i64 lv, .slice ap p.length cp, .slice ac cs.length cc] w (LawPost w) := by
  by_cases h : (1 ≤ lv ∧ lv ≤ 3) ∧ p.length ≤ 2000 ∧ cs.length ≤ 30
  · exact full w lv p cs ap ac cp cc hp hc h.1.1 h.1.2 h.2.1 h.2.2
  · obtain ⟨n, hn⟩ : ∃ n, n = p.length := ⟨_, rfl⟩
    obtain ⟨m, hm⟩ : ∃ m, m = cs.length := ⟨_, rfl⟩
    rw [← hn, ← hm] at h ⊢
    clear hn hm hp hc
    by_cases h1 : lv < 1
    · have b0 : decide (lv < 1) = true := decide_eq_true h1
      clear h
      go_enter Tryz.func5, Tryz.ntmps5
      go_wp2_with fail
      go_ret
      exact ⟨rfl, Below.refl _ _⟩
    · have b0 : decide (lv < 1) = false := decide_eq_false h1
      by_cases h2 : 3 < lv
      · have b1 : decide (3 < lv) = true := decide_eq_true h2
        clear h
        go_enter Tryz.func5, Tryz.ntmps5
        go_wp2_with fail
        go_ret
        exact ⟨rfl, Below.refl _ _⟩
      · have b1 : decide (3 < lv) = false := decide_eq_false h2
        by_cases h3 : 2000 < n
        · have b2 : decide ((2000 : Int) < (n : Int)) = true := decide_eq_true (by omega)
          clear h
          go_enter Tryz.func5, Tryz.ntmps5
          go_wp2_with fail
          go_ret
          exact ⟨rfl, Below.refl _ _⟩
        · have b2 : decide ((2000 : Int) < (n : Int)) = false := decide_eq_false (by omega)
          have b3 : decide ((30 : Int) < (m : Int)) = true := decide_eq_true (by omega)
          clear h
          go_enter Tryz.func5, Tryz.ntmps5
          go_wp2_with fail
          go_ret
          exact ⟨rfl, Below.refl _ _⟩
end Go.Proofs.YtbakhpakdaflkaaGreat.streamParts
