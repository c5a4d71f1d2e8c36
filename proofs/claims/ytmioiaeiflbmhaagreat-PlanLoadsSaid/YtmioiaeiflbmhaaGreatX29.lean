/- stream: Write. stream: End; a Write of an ended one. stream: what the laws know; one byte written. stream: one Stream in a law. -/
import Derived.Test.YtmioiaeiflbmhaaGreatX28
import Derived.Test.YtmioiaeiflbmhaaGreatX09
namespace Go.Proofs.YtmioiaeiflbmhaaGreat.Str
open Go Go.RowKit Go.ChangeMaps Go.MapKept Go.Mg Go.Mt Go.Proofs.YtmioiaeiflbmhaaGreat.Hu Go.Proofs.YtmioiaeiflbmhaaGreat.Sq Go.Proofs.YtmioiaeiflbmhaaGreat.Bk Go.Proofs.YtmioiaeiflbmhaaGreat.Ma
theorem SlR.kpN {F : Nat → Prop} {w w' : World} {a : Option Addr} {n c : Nat} {xs : List Value} (h : SlR w 1 (.slice a n c) n xs) (hk : Kp F w w') (hn : 0 < n → ∀ b, (Value.slice a n c).ownBlock = some b → ¬ F b) : SlR w' 1 (.slice a n c) n xs := by
  by_cases h0 : 0 < n
  · exact h.kp hk (hn h0)
  · obtain ⟨h1, a', c', e, h2, h3, h4, _⟩ := h
    exact ⟨h1, a', c', e, h2, h3, h4, fun q => absurd q h0⟩
structure Acc (F F' : Nat → Prop) (w wx : World) (s : Nat) (S' : Str) (v : Value) (n : Nat) (o : List UInt8) : Prop where
  own : OwnR wx 5 1 v n (o.map u8c)
  len : n = o.length
  out : ∀ b, v.ownBlock = some b → w.heap.size ≤ b ∧ ¬ F' b ∧ ¬ rd wx s b
  st : StAt F' wx s S'
  kp : Kp F w wx
  hF : ∀ k, F' k → F k ∨ w.heap.size ≤ k
  hR : ∀ k, rd wx s k → rd w s k ∨ w.heap.size ≤ k
theorem Acc.step {F F1 F2 : Nat → Prop} {w wx w2 w3 : World} {s : Nat} {S1 S2 : Str} {v v' : Value} {n n' : Nat} {o r : List UInt8} (h : Acc F F1 w wx s S1 v n o)
    (q3 : StAt F2 w2 s S2) (q4 : Kp F1 wx w2) (q5 : ∀ k, F2 k → F1 k ∨ wx.heap.size ≤ k) (q6 : ∀ k, rd w2 s k → rd wx s k ∨ wx.heap.size ≤ k)
    (g1 : OwnR w3 5 1 v' n' (o.map u8c ++ r.map u8c)) (hn : n' = n + r.length) (g2 : Kp (fun k => v.ownBlock = some k) w2 w3) (g3 : v'.ownBlock = v.ownBlock ∨ v'.ownBlock = some w2.heap.size) : Acc F F2 w w3 s S2 v' n' (o ++ r) := by
  have hz := h.kp.size
  have hz2 := q4.size
  have hF2 : ∀ b, v.ownBlock = some b → ¬ F2 b := fun b hb q => by
    rcases q5 b q with q | q
    · exact (h.out b hb).2.1 q
    · have := h.own.lt hb; omega
  have hR2 : ∀ b, v.ownBlock = some b → ¬ rd w2 s b := fun b hb q => by
    rcases q6 b q with q | q
    · exact (h.out b hb).2.2 q
    · have := h.own.lt hb; omega
  have hs : s < w2.heap.size := q3.lt
  have hsG : ¬ v.ownBlock = some s := fun q => hF2 s q q3.fs
  refine ⟨by rw [List.map_append]; exact g1, by rw [hn, h.len]; simp, fun b hb => ?_, q3.kpR g2 (fun k hk q => hF2 k q hk) (fun k hk q => hR2 k q hk), ?_, ?_, ?_⟩
  · rw [rd_kp g2 hs hsG]
    rcases g3 with e | e
    · have hb' := e.symm.trans hb
      exact ⟨(h.out b hb').1, hF2 b hb', hR2 b hb'⟩
    · rw [hb] at e
      simp only [Option.some.injEq] at e
      subst e
      exact ⟨by omega, fun q => Nat.lt_irrefl _ (q3.fl _ q), fun q => Nat.lt_irrefl _ (q3.rd_lt q).1⟩
  · exact (h.kp.trans2 q4 (fun i hi q => (h.hF i q).resolve_right (by omega))).trans2 g2 (fun i hi q => by have := (h.out i q).1; omega)
  · intro k hk
    rcases q5 k hk with q | q
    · exact h.hF k q
    · exact .inr (by omega)
  · intro k hk
    rw [rd_kp g2 hs hsG] at hk
    rcases q6 k hk with q | q
    · exact h.hR k q
    · exact .inr (by omega)
theorem Acc.post {F F' : Nat → Prop} {w wx : World} {s : Nat} {S' : Str} {a : Option Addr} {c : Nat} {o : List UInt8} (h : Acc F F' w wx s S' (.slice a o.length c) o.length o) : OutPost F w s o S' (.returned (.slice a o.length c)) wx :=
  ⟨a, c, F', rfl, ⟨a, c, rfl, h.own, fun b hb => (h.out b hb).1⟩, fun b hb => (h.out b hb).2, h.st, h.kp, h.hF, h.hR⟩
theorem runO_go {f : Nat} {S : Str} (h : 500 ≤ S.kept.length) : runO (f + 1) S = blkO S 500 0 ++ runO f (blkS S 500) ∧ runS (f + 1) S = runS f (blkS S 500) := by
  constructor <;> simp only [runO, runS, if_pos h]
def keptN (w : World) (s : Nat) : Nat := match w.cell? ⟨s, 4, none⟩ with | some (.slice _ k _) => k | _ => 0
theorem StAt.keptN {F : Nat → Prop} {w : World} {s : Nat} {S : Str} (h : StAt F w s S) : Str.keptN w s = S.kept.length := by
  obtain ⟨ka, kc, h4⟩ := h.cell4
  unfold Str.keptN
  rw [h4]
theorem kept_app {F1 : Nat → Prop} {X w5 : World} {s : Nat} {S : Str} {ka a5 : Option Addr} {kc c5 kl n : Nat} {L : List UInt8} (st : StAt F1 X s S) (x4 : X.cell? ⟨s, 4, none⟩ = some (.slice ka kl kc)) (hL : L.length = n) (g1 : RowM 5 u8c X.heap.size w5 (.slice a5 n c5) L) (g2 : Kp (fun _ => False) X w5) :
    w5.cell? ⟨s, 4, none⟩ = some (.slice ka kl kc) ∧ w5.frozen? ⟨s, 4, none⟩ = false ∧ StAt F1 (w5.setCell ⟨s, 4, none⟩ (.slice a5 n c5)) s { S with kept := L } ∧ Kp (· = s) w5 (w5.setCell ⟨s, 4, none⟩ (.slice a5 n c5)) ∧ ∀ k, rd (w5.setCell ⟨s, 4, none⟩ (.slice a5 n c5)) s k → rd X s k ∨ X.heap.size ≤ k := by
  subst hL
  obtain ⟨_, _, e6, o6, l6⟩ := g1
  have KP := kept_put (st.kp0 g2) o6.sl (fun b hb => ⟨fun q => by have h1 := l6 b hb; have h2 := st.fl b q; omega, o6.lt hb⟩)
  refine ⟨(g2.cell (p := ⟨s, 4, none⟩) st.lt (fun q => q)).trans x4, KP.1, KP.2.1, KP.2.2.1, fun k hk => ?_⟩
  rcases KP.2.2.2 k hk with q | q
  · rw [rd_kp g2 st.lt (fun q => q)] at q; exact .inl q
  · exact .inr (l6 k q)
set_option maxRecDepth 100000 in
set_option maxHeartbeats 4000000 in
theorem write_go {F : Nat → Prop} {w : World} {s : Nat} {S : Str} (h : StAt F w s S) (he : S.ended = false) (p : List UInt8) (ap : Option Addr) (cp : Nat) (hp : SlR w 1 (.slice ap p.length cp) p.length (p.map u8c)) (hpF : 0 < p.length → ∀ b, (Value.slice ap p.length cp).ownBlock = some b → ¬ F b) (hw : S.Wf 40000) (hpl : p.length ≤ 40000) :
    Calls Tryz.prog 56 #[.pointer (some ⟨s, 0, none⟩), .slice ap p.length cp] w (OutPost F w s (wrO S p) (wrS S p)) := by
  have EN := Lib.hid (ended_p h)
  rw [he] at EN
  obtain ⟨aa, ac, d3, oa⟩ := h.cell3
  have H := Lib.hid h
  have HP := Lib.hid hp
  have HPF := Lib.hid hpF
  have HW := Lib.hid hw
  have HAP := Lib.hid (fun (w' : World) (aa' : Option Addr) (ac' n' : Nat) hn g1 g2 g3 => all_put (w' := w') (aa' := aa') (ac' := ac') (n' := n') (l := p) h d3 hn g1 g2 g3)
  have HAL : Hid (S.all.length ≤ 40000) := Lib.hid hw.all
  have OA := Lib.hid oa
  obtain ⟨j0, hj0, hy0, hy1, hy2⟩ := info_parts infoU8c
  have HO : Hid (wrO S p = runO (S.kept.length + p.length) (take S p) ∧ wrS S p = runS (S.kept.length + p.length) (take S p)) := Lib.hid ⟨rfl, rfl⟩
  obtain ⟨n, hn⟩ : ∃ n, n = p.length := ⟨_, rfl⟩
  have HN := Lib.hid hn
  rw [← hn] at HP HPF hpl HAP ⊢
  obtain ⟨an, han⟩ : ∃ an, an = S.all.length := ⟨_, rfl⟩
  have HAN := Lib.hid han
  rw [← han] at HAL OA HAP d3
  clear h hp hpF oa hn han hw
  go_enter Tryz.func56, Tryz.ntmps56
  go_wp2_with fail
  refine EN.out.mono ?_
  rintro e w1 ⟨rfl, rfl⟩
  go_upto_region 4 with (at_builtin; refine wpList_app _ rfl (.tmp 12) (.tmp 13) 23 rfl 5 j0 _ 1 1 Tryz.underlying23 hj0 hy0 hy1 hy2 rfl (by decide) (by decide) (.slice aa an ac) an (S.all.map u8c) rfl OA.out (.slice ap n cp) n (p.map u8c) rfl HP.out (u8c_one _) (by have := HAL.out; omega) ?_; intro v1 w2 g1 g2 g3 _ _; obtain ⟨aa1, ac1, rfl⟩ := g1.form; obtain ⟨f3, c3, AP⟩ := HAP.out w2 aa1 ac1 (an + n) rfl g1 g2 g3; have AP := Lib.hid AP; clear g1 g2 g3)
  generalize w2.setCell ⟨s, 3, none⟩ (.slice aa1 (an + n) ac1) = X at AP ⊢
  obtain ⟨F1, st, kx, u1, u2⟩ := AP.out
  obtain ⟨ka, kc, x40, sk0⟩ := st.kept4
  have x4 : X.cell? ⟨s, 4, none⟩ = some (.slice ka S.kept.length kc) := x40
  have sk : SlR X 1 (.slice ka S.kept.length kc) S.kept.length (S.kept.map u8c) := sk0
  clear x40 sk0
  have CL := Lib.hid (cloneU_p X S.kept ka kc sk (by have := HW.out.kept; omega))
  have PX := Lib.hid (SlR.kpN HP.out kx HPF.out)
  obtain ⟨kl, hkl⟩ : ∃ kl, kl = S.kept.length := ⟨_, rfl⟩
  have HKL := Lib.hid hkl
  have hk4 : kl ≤ 40000 := by rw [hkl]; exact HW.out.kept
  rw [← hkl] at x4 CL
  have ST := Lib.hid st
  have KX := Lib.hid kx
  have U1 := Lib.hid u1
  have U2 := Lib.hid u2
  clear st kx u1 u2 sk hkl AP f3 c3 d3 HAP
  go_wp2_with fail
  refine CL.out.mono ?_
  rintro e w3 ⟨a3, c3, rfl, rc, kb⟩
  have RC := Lib.hid rc
  have KB := Lib.hid kb
  have P3 := Lib.hid (PX.out.kp kb (fun _ _ q => q))
  clear rc kb
  go_upto_region 5 with (at_builtin; refine wpList_appM (w0 := X) w3 rfl (.tmp 22) (.tmp 23) 23 rfl 5 j0 _ 1 Tryz.underlying23 hj0 hy0 hy1 hy2 rfl (by decide) (by decide) u8c_1c (.slice a3 kl c3) S.kept rfl RC.out (.slice ap n cp) n p rfl P3.out HN.out.symm KB.out (kl + n) (by rw [HKL.out]) (by omega) ?_; intro a5 c5 w5 g1 g2 _; obtain ⟨y4, y5, KP⟩ := kept_app ST.out x4 (by rw [List.length_append, ← HKL.out, ← HN.out]) g1 g2; have KP := Lib.hid KP; have G2 := Lib.hid g2; clear g1 g2)
  generalize w5.setCell ⟨s, 4, none⟩ (.slice a5 (kl + n) c5) = X5 at KP ⊢
  have AC : Hid (Acc F F1 w1 X5 s (take S p) (.slice none 0 0) 0 []) := Lib.hid ⟨OwnR.nil _ _ _, rfl, (fun b hb => by cases hb), KP.out.1, (KX.out.trans (G2.out.mono (fun _ _ q => q.elim))).trans (KP.out.2.1.mono (fun k _ q => by rw [q]; exact H.out.fs)), U1.out, fun k hk => by
    have hz := KX.out.size
    rcases KP.out.2.2 k hk with q | q
    · exact .inl ((U2.out k).1 q)
    · exact .inr (by omega)⟩
  have W0 : Hid ((take S p).Wf 100000 ∧ (take S p).kept.length = kl + n) := Lib.hid ⟨(take_wf HW.out).mono (by rw [← HN.out]; omega), by unfold take; simp only [List.length_append]; rw [← HKL.out, ← HN.out]⟩
  obtain ⟨O, hO⟩ : ∃ O, O = wrO S p := ⟨_, rfl⟩
  obtain ⟨SF, hSF⟩ : ∃ SF, SF = wrS S p := ⟨_, rfl⟩
  rw [← hO, ← hSF] at HO
  have HOE := Lib.hid (And.intro hO.symm hSF.symm)
  have HFU : Hid (runO (kl + n) (take S p) = O ∧ runS (kl + n) (take S p) = SF) := Lib.hid (by rw [HKL.out, HN.out]; exact ⟨HO.out.1.symm, HO.out.2.symm⟩)
  clear hO hSF y4 y5 x4 CL P3 RC KB HO
  go_wp2_with fail
  go_loopw [5] (fun v wx => ∃ (f : Nat) (S' : Str) (F' : Nat → Prop) (o : List UInt8) (a : Option Addr) (c : Nat), v = .slice a o.length c ∧ Acc F F' w1 wx s S' v o.length o ∧ o ++ runO f S' = O ∧ runS f S' = SF ∧ S'.kept.length ≤ f ∧ S'.Wf 100000 ∧ o.length + 2 * S'.kept.length ≤ 2 * (kl + n)) (fun _ wx => keptN wx s)
  case atStart => exact ⟨kl + n, take S p, F1, [], none, 0, rfl, AC.out, by rw [List.nil_append]; exact HFU.out.1, HFU.out.2, by rw [W0.out.2]; omega, W0.out.1, by rw [W0.out.2]; simp⟩
  case round =>
    obtain ⟨f, S', F', o, a, c, rfl, ac', ho, hs, hf, hw', hlen⟩ := hrel
    obtain ⟨ka', kc', z4⟩ := ac'.st.cell4
    have HM : Hid (keptN wr s = S'.kept.length) := Lib.hid ac'.st.keptN
    have ACC := Lib.hid ac'
    have HOO := Lib.hid ho
    have HSS := Lib.hid hs
    have HFF := Lib.hid hf
    have HWW := Lib.hid hw'
    have BL := Lib.hid (fun (h : 500 ≤ S'.kept.length) => blockA ac'.st 500 0 h (Nat.le_refl _) hw')
    obtain ⟨k, hk⟩ : ∃ k, k = S'.kept.length := ⟨_, rfl⟩
    obtain ⟨m, hm⟩ : ∃ m, m = o.length := ⟨_, rfl⟩
    rw [← hk] at z4 BL HM hlen HFF
    rw [← hm] at hlen ACC ⊢
    have HK := Lib.hid hk
    have HMO := Lib.hid hm
    clear ac' ho hs hf hw' hk hm AC HFU W0
    by_cases hge : 500 ≤ k
    · have hge' : decide ((500 : Int) ≤ (k : Int)) = true := decide_eq_true (by omega)
      have BL2 := Lib.hid (BL.out hge)
      clear BL
      go_wp2_with fail
      refine Calls.mono BL2.out ?_
      rintro e w6 ⟨a6, c6, F6, rfl, r1, r2, r3, r4, r5, r6⟩
      have OW := Lib.hid (ACC.out.own.kp r4 (fun b hb q => (ACC.out.out b hb).2.1 q))
      obtain ⟨_, _, e6, o6, l6⟩ := r1
      simp only [Value.slice.injEq, true_and] at e6
      obtain ⟨rfl, rfl⟩ := e6
      have O6 := Lib.hid o6.sl
      have R3 := Lib.hid r3
      have R4 := Lib.hid r4
      have R5 := Lib.hid r5
      have R6 := Lib.hid r6
      have HBL := Lib.hid (blkO_le S' 500 0)
      obtain ⟨B, hB⟩ : ∃ B, B = blkO S' 500 0 := ⟨_, rfl⟩
      rw [← hB] at O6 HBL ⊢
      have HB := Lib.hid hB
      obtain ⟨bl, hbl⟩ : ∃ bl, bl = B.length := ⟨_, rfl⟩
      rw [← hbl] at O6 HBL ⊢
      have HL := Lib.hid hbl
      clear r2 r3 r4 r5 r6 o6 l6 hB hbl
      go_wp2_with (at_builtin; refine wpList_app w6 rfl (.tmp 33) (.tmp 35) 23 rfl 5 j0 _ 1 1 Tryz.underlying23 hj0 hy0 hy1 hy2 rfl (by decide) (by decide) (.slice a m c) m (o.map u8c) rfl OW.out (.slice a6 bl c6) bl (B.map u8c) rfl O6.out (u8c_one _) (by have := HBL.out; omega) ?_; intro v7 w7 g1 g2 g3 _ _; obtain ⟨a7, c7, rfl⟩ := g1.form; have A7 := Lib.hid (Acc.step ACC.out R3.out R4.out R5.out R6.out g1 (by rw [HL.out]) g2 g3); clear g1 g2 g3)
      obtain ⟨f', rfl⟩ : ∃ f', f = f' + 1 := ⟨f - 1, by have := HFF.out; omega⟩
      have hrun := runO_go (f := f') (S := S') (by rw [← HK.out]; exact hge)
      have hol : (o ++ B).length = m + bl := by rw [List.length_append, ← HMO.out, ← HL.out]
      have hbk := blk_kept S' 500
      have hff := HFF.out
      have hbb := HBL.out
      rw [← HK.out] at hbk
      refine ⟨⟨f', blkS S' 500, F6, o ++ B, a7, c7, by rw [hol], by rw [hol]; exact A7.out, ?_, ?_, ?_, blk_wf HWW.out, ?_⟩, ?_⟩
      · rw [← HOO.out, hrun.1, ← HB.out, List.append_assoc]
      · rw [← HSS.out, hrun.2]
      · rw [hbk]; omega
      · rw [hol, hbk]; omega
      · show keptN w7 s < keptN wr s
        rw [A7.out.st.keptN, HM.out, hbk]; omega
    · have hge' : decide ((500 : Int) ≤ (k : Int)) = false := decide_eq_false (by omega)
      go_wp2_with fail
      go_ret
      have hst := run_stop (f := f) (S := S') (by rw [← HK.out]; exact hge)
      have hO : O = o := by rw [← HOO.out, hst.1, List.append_nil]
      have hS : SF = S' := by rw [← HSS.out, hst.2]
      rw [HOE.out.1, HOE.out.2, hO, hS]
      have A9 := ACC.out
      rw [HMO.out] at A9
      rw [HMO.out]
      exact A9.post
end Go.Proofs.YtmioiaeiflbmhaaGreat.Str
namespace Go.Proofs.YtmioiaeiflbmhaaGreat.Str
open Go Go.RowKit Go.ChangeMaps Go.MapKept Go.Mg Go.Mt Go.Proofs.YtmioiaeiflbmhaaGreat.Hu Go.Proofs.YtmioiaeiflbmhaaGreat.Sq Go.Proofs.YtmioiaeiflbmhaaGreat.Bk Go.Proofs.YtmioiaeiflbmhaaGreat.Ma
noncomputable def endO (S : Str) : List UInt8 := blkO S S.kept.length 1 ++ lowB (sumN S.all)
noncomputable def endS' (S : Str) : Str := { blkS S S.kept.length with ended := true }
theorem Acc.of {F F' : Nat → Prop} {w wx : World} {s : Nat} {S' : Str} {a : Option Addr} {c : Nat} {o : List UInt8} (r1 : RowB w.heap.size wx (.slice a o.length c) o) (r2 : ∀ b, (Value.slice a o.length c).ownBlock = some b → ¬ F' b ∧ ¬ rd wx s b) (r3 : StAt F' wx s S') (r4 : Kp F w wx) (r5 : ∀ k, F' k → F k ∨ w.heap.size ≤ k) (r6 : ∀ k, rd wx s k → rd w s k ∨ w.heap.size ≤ k) : Acc F F' w wx s S' (.slice a o.length c) o.length o := by
  obtain ⟨_, _, e, o6, l6⟩ := r1
  simp only [Value.slice.injEq, true_and] at e
  obtain ⟨rfl, rfl⟩ := e
  exact ⟨o6, rfl, fun b hb => ⟨l6 b hb, r2 b hb⟩, r3, r4, r5, r6⟩
theorem Acc.ended {F F' : Nat → Prop} {w wx : World} {s : Nat} {S' : Str} {v : Value} {n : Nat} {o : List UInt8} (h : Acc F F' w wx s S' v n o) (hs : F s) : Acc F F' w (wx.setCell ⟨s, 9, none⟩ (.bool true)) s { S' with ended := true } v n o := by
  obtain ⟨p1, p2, p3, _⟩ := ended_put h.st
  refine ⟨h.own.kp p2 (fun b hb q => ?_), h.len, fun b hb => ⟨(h.out b hb).1, (h.out b hb).2.1, fun q => (h.out b hb).2.2 ((p3 b).1 q)⟩, p1, h.kp.trans (p2.mono (fun k _ q => by rw [q]; exact hs)), h.hF, fun k hk => h.hR k ((p3 k).1 hk)⟩
  exact (h.out b hb).2.1 (by rw [q]; exact h.st.fs)
set_option maxRecDepth 100000 in
set_option maxHeartbeats 2000000 in
theorem end_go {F : Nat → Prop} {w : World} {s : Nat} {S : Str} (h : StAt F w s S) (he : S.ended = false) (hk5 : S.kept.length ≤ 500) (hw : S.Wf 100000) :
    Calls Tryz.prog 55 #[.pointer (some ⟨s, 0, none⟩)] w (OutPost F w s (endO S) (endS' S)) := by
  have EN := Lib.hid (ended_p h)
  rw [he] at EN
  obtain ⟨ka, kc, d4⟩ := h.cell4
  have BL := Lib.hid (blockA h S.kept.length 1 (Nat.le_refl _) hk5 hw)
  have HFS := Lib.hid h.fs
  obtain ⟨B, hB⟩ : ∃ B, B = blkO S S.kept.length 1 := ⟨_, rfl⟩
  obtain ⟨S2, hS2⟩ : ∃ S2, S2 = blkS S S.kept.length := ⟨_, rfl⟩
  have HBL := Lib.hid (blkO_le S S.kept.length 1)
  rw [← hB] at BL HBL
  rw [← hS2] at BL
  have HE : Hid (endO S = B ++ lowB (sumN S.all) ∧ endS' S = { S2 with ended := true }) := Lib.hid (by rw [hB, hS2]; exact ⟨rfl, rfl⟩)
  have HAL : Hid (S2.all = S.all ∧ S.all.length ≤ 100000) := Lib.hid ⟨by rw [hS2]; exact blk_all _ _, hw.all⟩
  obtain ⟨n, hn⟩ : ∃ n, n = S.kept.length := ⟨_, rfl⟩
  rw [← hn] at BL d4 hk5 HBL
  obtain ⟨j0, hj0, hy0, hy1, hy2⟩ := info_parts infoU8c
  obtain ⟨bl, hbl⟩ : ∃ bl, bl = B.length := ⟨_, rfl⟩
  have HLB := Lib.hid hbl
  clear h hn hB hS2 hbl hw
  go_enter Tryz.func55, Tryz.ntmps55
  go_wp2_with fail
  refine EN.out.mono ?_
  rintro e w1 ⟨rfl, rfl⟩
  go_wp2_with fail
  refine Calls.mono BL.out ?_
  rintro e w2 ⟨a, c, F2, rfl, r1, r2, r3, r4, r5, r6⟩
  have AC := Lib.hid (Acc.of r1 r2 r3 r4 r5 r6)
  have ep := ended_put r3
  have f9 := ep.2.2.2
  have c9 := r3.cell9
  have AE := Lib.hid (AC.out.ended HFS.out)
  rw [← HLB.out] at AC AE HBL ⊢
  clear r1 r2 r3 r4 r5 r6 ep
  go_upto_region 5 with fail
  generalize w2.setCell ⟨s, 9, none⟩ (.bool true) = X at AE ⊢
  obtain ⟨aa, ac, d30, oa⟩ := AE.out.st.cell3
  have d3 : X.cell? ⟨s, 3, none⟩ = some (.slice aa S2.all.length ac) := d30
  rw [HAL.out.1] at d3
  have SU := Lib.hid (sum_f X S.all aa ac (by
    have := oa.sl
    have e : S2.all = S.all := HAL.out.1
    show SlR X 1 (.slice aa S.all.length ac) S.all.length (S.all.map u8c)
    rw [← e]; exact this) HAL.out.2)
  obtain ⟨an, han⟩ : ∃ an, an = S.all.length := ⟨_, rfl⟩
  rw [← han] at SU d3
  clear oa han f9 c9 d30
  go_wp2_with fail
  refine Calls.mono SU.out ?_
  rintro e w3 ⟨a4, c4, rfl, r1, r2⟩
  have OW := Lib.hid (AE.out.own.kp r2 (fun _ _ q => q))
  have ST3 := Lib.hid (AE.out.st.kp0 r2)
  have HLS := AE.out.st.lt
  have R2 := Lib.hid r2
  obtain ⟨_, _, e6, o6, l6⟩ := r1
  simp only [Value.slice.injEq] at e6
  obtain ⟨rfl, _, rfl⟩ := e6
  have hl4 : (lowB (sumN S.all)).length = 4 := lowB_len _
  rw [hl4] at o6
  have O6 := Lib.hid o6.sl
  obtain ⟨L, hL⟩ : ∃ L, L = lowB (sumN S.all) := ⟨_, rfl⟩
  rw [← hL] at O6 hl4 HE
  have HL4 := Lib.hid hl4
  clear r2 o6 l6 hl4 hL d3
  go_wp2_with (at_builtin; refine wpList_app w3 rfl (.tmp 16) (.tmp 21) 23 rfl 5 j0 _ 1 1 Tryz.underlying23 hj0 hy0 hy1 hy2 rfl (by decide) (by decide) (.slice a bl c) bl (B.map u8c) rfl OW.out (.slice a4 4 c4) 4 (L.map u8c) rfl O6.out (u8c_one _) (by have := HBL.out; omega) ?_; intro v7 w7 g1 g2 g3 _ _; obtain ⟨a7, c7, rfl⟩ := g1.form; have A7 := Lib.hid (Acc.step AE.out ST3.out (R2.out.mono (fun _ _ q => q.elim)) (fun k q => .inl q) (fun k q => .inl ((rd_kp R2.out HLS (fun q => q)).1 q)) g1 (by rw [HL4.out]) g2 g3); clear g1 g2 g3)
  go_ret
  rw [HE.out.1, HE.out.2]
  have hlen : (B ++ L).length = bl + 4 := by rw [List.length_append, ← HLB.out, HL4.out]
  have A9 := A7.out
  rw [← hlen] at A9
  have := A9.post
  rw [hlen] at this
  exact this
end Go.Proofs.YtmioiaeiflbmhaaGreat.Str
namespace Go.Proofs.YtmioiaeiflbmhaaGreat.Str
open Go Go.RowKit Go.ChangeMaps Go.MapKept Go.Mg Go.Mt Go.Proofs.YtmioiaeiflbmhaaGreat.Hu Go.Proofs.YtmioiaeiflbmhaaGreat.Sq Go.Proofs.YtmioiaeiflbmhaaGreat.Bk Go.Proofs.YtmioiaeiflbmhaaGreat.Ma
theorem runS_ended : ∀ f (S : Str), (runS f S).ended = S.ended
  | 0, _ => rfl
  | f + 1, S => by
    simp only [runS]
    split
    · rw [runS_ended f]; simp only [blkS]
    · rfl
theorem wrS_ended (S : Str) (p : List UInt8) : (wrS S p).ended = S.ended := runS_ended _ _
theorem wrS_wf {S : Str} {p : List UInt8} {n : Nat} (h : S.Wf n) : (wrS S p).Wf (n + p.length) := runS_wf _ (take_wf h)
theorem wrS_kept (S : Str) (p : List UInt8) : (wrS S p).kept.length < 500 := runS_kept _ (by unfold take; simp)
end Go.Proofs.YtmioiaeiflbmhaaGreat.Str
namespace Go.Proofs.YtmioiaeiflbmhaaGreat.Str
open Go Go.RowKit Go.ChangeMaps Go.MapKept Go.Mg Go.Mt Go.Proofs.YtmioiaeiflbmhaaGreat.Hu Go.Proofs.YtmioiaeiflbmhaaGreat.Sq Go.Proofs.YtmioiaeiflbmhaaGreat.Bk Go.Proofs.YtmioiaeiflbmhaaGreat.Ma Go.Proofs.YtmioiaeiflbmhaaGreat.Op
def Lv (w wx : World) (s : Nat) (S : Str) : Prop := ∃ F, StAt F wx s S ∧ (∀ k, F k → w.heap.size ≤ k) ∧ Kp (fun _ => False) w wx
theorem Lv.kp {w wx : World} {s : Nat} {S : Str} (h : Lv w wx s S) : Kp (fun _ => False) w wx := h.choose_spec.2.2
theorem Lv.kp0 {w wx w' : World} {s : Nat} {S : Str} (h : Lv w wx s S) (hk : Kp (fun _ => False) wx w') : Lv w w' s S := by
  obtain ⟨F, h1, h2, h3⟩ := h
  exact ⟨F, h1.kp0 hk, h2, h3.trans hk⟩
def LvPost (w wx : World) (s : Nat) (O : List UInt8) (S' : Str) (e : Ending) (w' : World) : Prop := ∃ a c, e = .returned (.slice a O.length c) ∧ RowB wx.heap.size w' (.slice a O.length c) O ∧ Lv w w' s S'
theorem LvPost.of {w wx : World} {s : Nat} {F : Nat → Prop} {O : List UInt8} {S' : Str} {e : Ending} {w' : World} (hF : ∀ k, F k → w.heap.size ≤ k) (hk : Kp (fun _ => False) w wx) (h : OutPost F wx s O S' e w') : LvPost w wx s O S' e w' := by
  obtain ⟨a, c, F', rfl, h1, _, h3, h4, h5, _⟩ := h
  have := hk.size
  refine ⟨a, c, rfl, h1, F', h3, fun k q => ?_, hk.trans2 h4 (fun i hi q => by have := hF i q; omega)⟩
  rcases h5 k q with q | q
  · exact hF k q
  · omega
noncomputable def flO (S : Str) : List UInt8 := if S.kept.length = 0 then [] else blkO S S.kept.length 0
noncomputable def flS (S : Str) : Str := if S.kept.length = 0 then S else blkS S S.kept.length
theorem flS_ended (S : Str) : (flS S).ended = S.ended := by
  unfold flS; split
  · rfl
  · simp only [blkS]
theorem flS_wf {S : Str} {n : Nat} (h : S.Wf n) : (flS S).Wf n := by
  unfold flS; split
  · exact h
  · exact blk_wf h
theorem flS_kept (S : Str) : (flS S).kept.length = 0 := by
  unfold flS; split
  · assumption
  · rw [blk_kept]; omega
end Go.Proofs.YtmioiaeiflbmhaaGreat.Str
