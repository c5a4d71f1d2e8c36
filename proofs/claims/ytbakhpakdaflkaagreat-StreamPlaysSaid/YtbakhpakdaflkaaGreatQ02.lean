/- stream, the document's: Write, Flush, End. stream, the document's: Write. stream, the document's: End. stream: the program's and the document's beside one another. -/
import Derived.Test.YtbakhpakdaflkaaGreatQ01
namespace Go.Proofs.YtbakhpakdaflkaaGreat.Str
open Go Go.RowKit Go.ChangeMaps Go.MapKept Go.Mg Go.Mt Go.Proofs.YtbakhpakdaflkaaGreat.Hu Go.Proofs.YtbakhpakdaflkaaGreat.Sq Go.Proofs.YtbakhpakdaflkaaGreat.Bk Go.Proofs.YtbakhpakdaflkaaGreat.Ma

/-- What a step of the document's Stream leaves. -/
def DPost (w : World) (x : Nat) (dict : List UInt8) (O : List UInt8) (S' : Str) (da aa : Option Addr) (dc ac an : Nat) (e : Ending) (w' : World) : Prop :=
  ∃ (a : Option Addr) (c out' : Nat) (aa' : Option Addr) (ac' : Nat), e = .returned (.slice a O.length c) ∧ RowB w.heap.size w' (.slice a O.length c) O ∧ DC w' x dict out' S' da aa' dc ac' ∧ DOk dict out' S' ∧ Kp (· = x) w w' ∧
    ∀ b, (Value.slice aa' S'.all.length ac').ownBlock = some b → (w.heap.size ≤ b ∧ b < w'.heap.size) ∨ (Value.slice aa an ac).ownBlock = some b
theorem DOut.post {w : World} {x out : Nat} {dict O : List UInt8} {S S' : Str} {da aa : Option Addr} {dc ac : Nat} {e : Ending} {w' : World} (h : DOut w x dict out O S' da aa dc ac e w') (ok : DOk dict out S') (hs : S'.all = S.all) : DPost w x dict O S' da aa dc ac S.all.length e w' := by
  obtain ⟨a, c, h1, h2, h3, h4⟩ := h
  exact ⟨a, c, out, aa, ac, h1, h2, h3, ok, h4, fun b hb => .inr (by rw [← hs]; exact hb)⟩
section
variable {w : World} {x out : Nat} {dict : List UInt8} {S : Str} {da aa : Option Addr} {dc ac : Nat}
set_option maxRecDepth 100000 in
set_option maxHeartbeats 1000000 in
theorem writeD_no (h : DC w x dict out S da aa dc ac) (he : S.ended = true) (v : Value) :
    Calls Tryz.prog 23 #[.pointer (some ⟨x, 0, none⟩), v] w fun e w' => e = .returned (.slice none 0 0) ∧ w' = w := by
  have c9 : w.cell? ⟨x, 9, none⟩ = some (.bool S.ended) := by rw [h.cell]; rfl
  rw [he] at c9
  clear h he
  go_enter Tryz.func23, Tryz.ntmps23
  go_wp2_with fail
  go_ret
  exact ⟨rfl, rfl⟩
set_option maxRecDepth 100000 in
set_option maxHeartbeats 1000000 in
theorem endD_no (h : DC w x dict out S da aa dc ac) (he : S.ended = true) :
    Calls Tryz.prog 25 #[.pointer (some ⟨x, 0, none⟩)] w fun e w' => e = .returned (.slice none 0 0) ∧ w' = w := by
  have c9 : w.cell? ⟨x, 9, none⟩ = some (.bool S.ended) := by rw [h.cell]; rfl
  rw [he] at c9
  clear h he
  go_enter Tryz.func25, Tryz.ntmps25
  go_wp2_with fail
  go_ret
  exact ⟨rfl, rfl⟩
set_option maxRecDepth 100000 in
set_option maxHeartbeats 1000000 in
theorem flushD_no (h : DC w x dict out S da aa dc ac) (ok : DOk dict out S) (he : S.ended = true ∨ S.kept.length = 0) :
    Calls Tryz.prog 24 #[.pointer (some ⟨x, 0, none⟩)] w fun e w' => e = .returned (.slice none 0 0) ∧ ∃ q, w' = w.drewN q := by
  have c9 : w.cell? ⟨x, 9, none⟩ = some (.bool S.ended) := by rw [h.cell]; rfl
  have c3 : w.cell? ⟨x, 3, none⟩ = some (.slice aa S.all.length ac) := by rw [h.cell]; rfl
  have c4 : w.cell? ⟨x, 4, none⟩ = some (.int .i64 (out : Nat)) := by rw [h.cell]; rfl
  have hl := ok.len
  cases hE : S.ended with
  | true =>
    rw [hE] at c9
    clear h he ok hl
    go_enter Tryz.func24, Tryz.ntmps24
    go_wp2_with fail
    go_quiet (fail)
    go_wp2_with fail
    go_ret
    exact ⟨rfl, _, rfl⟩
  | false =>
    have h0 : S.kept.length = 0 := he.resolve_left (by rw [hE]; decide)
    rw [hE] at c9
    have e : S.all.length = out := by omega
    rw [e] at c3
    clear h he ok hl h0 e
    go_enter Tryz.func24, Tryz.ntmps24
    go_wp2_with fail
    go_quiet (fail)
    go_wp2_with fail
    go_ret
    exact ⟨rfl, _, rfl⟩
set_option maxRecDepth 100000 in
set_option maxHeartbeats 2000000 in
theorem flushD_go (h : DC w x dict out S da aa dc ac) (ok : DOk dict out S) (he : S.ended = false) (h0 : S.kept.length ≠ 0) (hk : S.kept.length ≤ 500) (hw : S.Wf 90000) (hd : dict.length ≤ 2000) :
    Calls Tryz.prog 24 #[.pointer (some ⟨x, 0, none⟩)] w (DPost w x dict (blkO S S.kept.length 0) (blkS S S.kept.length) da aa dc ac S.all.length) := by
  have c9 : w.cell? ⟨x, 9, none⟩ = some (.bool S.ended) := by rw [h.cell]; rfl
  have c3 : w.cell? ⟨x, 3, none⟩ = some (.slice aa S.all.length ac) := by rw [h.cell]; rfl
  have c4 : w.cell? ⟨x, 4, none⟩ = some (.int .i64 (out : Nat)) := by rw [h.cell]; rfl
  have hl := ok.len
  rw [he] at c9
  have BL : Hid (∀ V, Kp (fun _ => False) w V → Calls Tryz.prog 37 #[.pointer (some ⟨x, 0, none⟩), .int .i64 (S.kept.length : Nat), .int .u8 0] V (DPost w x dict (blkO S S.kept.length 0) (blkS S S.kept.length) da aa dc ac S.all.length)) := Lib.hid (fun V hV => (block_d (h.kp0 hV) ok S.kept.length 0 (Nat.le_refl _) hk hw hd).mono (fun e w' q => by
    obtain ⟨a, c, r1, r2, r3, r4⟩ := q
    exact ⟨a, c, out + S.kept.length, aa, ac, r1, r2.low hV.size, r3, ok.blk (Nat.le_refl _), (hV.mono (fun _ _ q => q.elim)).trans r4, fun b hb => .inr (by rw [blk_all] at hb; exact hb)⟩))
  have hw90 := hw.all
  obtain ⟨an, han⟩ : ∃ an, an = S.all.length := ⟨_, rfl⟩
  obtain ⟨kn, hkn⟩ : ∃ kn, kn = S.kept.length := ⟨_, rfl⟩
  rw [← han] at c3 BL hl hw90 ⊢
  rw [← hkn] at BL hl h0 ⊢
  have hs : IntKind.i64.wrap ((an : Int) - (out : Int)) = (kn : Int) := by rw [IntKind.wrap_i64]; omega
  have hne : ((an : Int) == (out : Int)) = false := by rw [beq_eq_false_iff_ne]; omega
  have hdn : decide (an = out) = false := decide_eq_false (by omega)
  clear h ok he hk hw hd han hkn h0 hl
  go_enter Tryz.func24, Tryz.ntmps24
  go_wp2_with fail
  go_quiet (fail)
  have KQ : Hid (Kp (fun _ => False) w (w.drewN nq)) := Lib.hid ⟨rfl, rfl, rfl, Nat.le_refl _, fun _ _ _ => rfl⟩
  have d3 : (w.drewN nq).cell? ⟨x, 3, none⟩ = some (.slice aa an ac) := c3
  have d4 : (w.drewN nq).cell? ⟨x, 4, none⟩ = some (.int .i64 (out : Nat)) := c4
  generalize w.drewN nq = V at KQ d3 d4 ⊢
  clear c3 c4 c9
  go_wp2_with fail
  go_region_law (first
    | (go_simp; go_at_call 37; apply Calls.mono; (with_reducible exact BL.out _ KQ.out.drew); rintro e Y ⟨a2, c2, o2, aa2, ac2, rfl, q1, q2, q3, q4, q5⟩
       have FIN := Lib.hid (And.intro q1 (And.intro q2 (And.intro q3 (And.intro q4 q5))))
       clear q1 q2 q3 q4 q5))
  all_goals (go_wp2_with fail; go_ret; exact ⟨a2, c2, o2, aa2, ac2, rfl, FIN.out⟩)
end
end Go.Proofs.YtbakhpakdaflkaaGreat.Str
namespace Go.Proofs.YtbakhpakdaflkaaGreat.Str
open Go Go.RowKit Go.ChangeMaps Go.MapKept Go.Mg Go.Mt Go.Proofs.YtbakhpakdaflkaaGreat.Hu Go.Proofs.YtbakhpakdaflkaaGreat.Sq Go.Proofs.YtbakhpakdaflkaaGreat.Bk Go.Proofs.YtbakhpakdaflkaaGreat.Ma

/-- How much is out, as the cell tells it. -/
def outN (w : World) (x : Nat) : Nat := match w.cell? ⟨x, 4, none⟩ with | some (.int _ k) => k.toNat | _ => 0
section
variable {w : World} {x out : Nat} {dict : List UInt8} {S : Str} {da aa : Option Addr} {dc ac : Nat}
theorem DC.outN (h : DC w x dict out S da aa dc ac) : Str.outN w x = out := by
  have c4 : w.cell? ⟨x, 4, none⟩ = some (.int .i64 (out : Nat)) := by rw [h.cell]; rfl
  unfold Str.outN
  rw [c4]
  simp
theorem DC.take_put {w6 : World} {p : List UInt8} {a6 : Option Addr} {n6 c6 B : Nat} (h : DC w6 x dict out S da aa dc ac) (hx : x < B) (r : RowB B w6 (.slice a6 n6 c6) (S.all ++ p)) (hn : n6 = (S.all ++ p).length) :
    DC (w6.setCell ⟨x, 3, none⟩ (.slice a6 n6 c6)) x dict out (Str.take S p) da a6 dc c6 ∧ Kp (· = x) w6 (w6.setCell ⟨x, 3, none⟩ (.slice a6 n6 c6)) := by
  subst hn
  have hb := fun b hb => (row_lt' r (b := b) hb).1
  have hs := (row_own r).sl
  exact h.put (S' := Str.take S p) 3 (.slice a6 (S.all ++ p).length c6) rfl hs (fun _ b q => by have := hb b q; omega)
set_option maxRecDepth 100000 in
set_option maxHeartbeats 4000000 in
theorem writeD_go (h : DC w x dict out S da aa dc ac) (ok : DOk dict out S) (he : S.ended = false) (p : List UInt8) (ap : Option Addr) (cp : Nat) (hp : SlR w 1 (.slice ap p.length cp) p.length (p.map u8c)) (hw : S.Wf 40000) (hpl : p.length ≤ 40000) (hd : dict.length ≤ 2000) :
    Calls Tryz.prog 23 #[.pointer (some ⟨x, 0, none⟩), .slice ap p.length cp] w (DPost w x dict (wrO S p) (wrS S p) da aa dc ac S.all.length) := by
  obtain ⟨j0, hj0, hy0, hy1, hy2⟩ := info_parts infoU8c
  have c9 : w.cell? ⟨x, 9, none⟩ = some (.bool S.ended) := by rw [h.cell]; rfl
  have c3 : w.cell? ⟨x, 3, none⟩ = some (.slice aa S.all.length ac) := by rw [h.cell]; rfl
  have a3' : (w.alloc (.cells #[] 5)).cell? ⟨x, 3, none⟩ = some (.slice aa S.all.length ac) := ((kp_alloc w _).cell (p := ⟨x, 3, none⟩) h.lt (fun q => q)).trans c3
  rw [he] at c9
  have H := Lib.hid h
  have HLS := Lib.hid h.lt
  have HOK := Lib.hid ok
  have HW := Lib.hid hw
  have HDD := Lib.hid hd
  have HNL := Lib.hid (nilB_row w)
  have KA := Lib.hid (kp_alloc w (.cells #[] 5))
  have HSA := Lib.hid (h.all.kp (kp_alloc w (.cells #[] 5)) (fun _ _ q => q))
  have HPP := Lib.hid hp
  have HAL : Hid (S.all.length ≤ 40000) := Lib.hid hw.all
  have HKE : Hid (S.kept.length ≤ 40000) := Lib.hid hw.kept
  have HO : Hid (wrO S p = runO (S.kept.length + p.length) (Str.take S p) ∧ wrS S p = runS (S.kept.length + p.length) (Str.take S p)) := Lib.hid ⟨rfl, rfl⟩
  have HAS : Hid ((wrS S p).all = S.all ++ p) := Lib.hid (wrS_all _ _)
  obtain ⟨n, hn⟩ : ∃ n, n = p.length := ⟨_, rfl⟩
  have HN := Lib.hid hn
  rw [← hn] at HPP hpl HO ⊢
  obtain ⟨an, han⟩ : ∃ an, an = S.all.length := ⟨_, rfl⟩
  have HAN := Lib.hid han
  rw [← han] at HAL HSA c3 a3' ⊢
  clear h hp ok hw hd hn han he
  go_enter Tryz.func23, Tryz.ntmps23
  go_upto_region 4 with (at_builtin; first
    | (refine wpList_appM (w0 := w) _ rfl (.tmp 11) (.tmp 15) 24 rfl 5 j0 _ 1 Tryz.underlying24 hj0 hy0 hy1 hy2 rfl (by decide) (by decide) u8c_1c (.slice (some ⟨w.heap.size, 0, none⟩) 0 0) [] rfl HNL.out (.slice aa an ac) an S.all rfl HSA.out HAN.out.symm KA.out an (by simp) (by have := HAL.out; omega) ?_; intro a5 c5 w5 g1 g2 g3; rw [List.nil_append] at g1; have G5 := Lib.hid g1; have K5 := Lib.hid g2; have P5 := Lib.hid (HPP.out.kp g2 (fun _ _ q => q)); clear g1 g2 g3)
    | (refine wpList_appM (w0 := w) _ rfl (.tmp 16) (.tmp 17) 24 rfl 5 j0 _ 1 Tryz.underlying24 hj0 hy0 hy1 hy2 rfl (by decide) (by decide) u8c_1c (.slice a5 an c5) S.all rfl G5.out (.slice ap n cp) n p rfl P5.out HN.out.symm K5.out (an + n) (by rw [HAN.out]) (by have := HAL.out; omega) ?_; intro a6 c6 w6 g1 g2 g3; have G6 := Lib.hid g1; have K6 := Lib.hid g2
       have z3 : w6.cell? ⟨x, 3, none⟩ = some (.slice aa an ac) := (g2.cell (p := ⟨x, 3, none⟩) HLS.out (fun q => q)).trans c3
       have f3 : w6.frozen? ⟨x, 3, none⟩ = false := (H.out.kp0 g2).free 3
       have PT := Lib.hid ((H.out.kp0 g2).take_put HLS.out g1 (by rw [List.length_append, HAN.out, HN.out]))
       clear g1 g2 g3))
  generalize w6.setCell ⟨x, 3, none⟩ (.slice a6 (an + n) c6) = X at PT ⊢
  have hX6 : w.heap.size ≤ X.heap.size := by have := K6.out.size; have := PT.out.2.size; omega
  have HX6 := Lib.hid hX6
  have HA6 : Hid (∀ b, (Value.slice a6 (an + n) c6).ownBlock = some b → w.heap.size ≤ b ∧ b < X.heap.size) := Lib.hid (fun b hb => by
    have := row_lt' G6.out hb
    have := PT.out.2.size
    omega)
  have HDL : Hid (0 < dict.length → ∀ b, (Value.slice da dict.length dc).ownBlock = some b → b < w.heap.size) := Lib.hid (fun q b hb => sl_lt H.out.rowD q hb)
  have KX : Hid (Kp (· = x) w X) := Lib.hid ((K6.out.mono (fun _ _ q => q.elim)).trans PT.out.2)
  have W0 : Hid ((Str.take S p).Wf 90000 ∧ (Str.take S p).kept.length = S.kept.length + n) := Lib.hid ⟨(take_wf HW.out).mono (by rw [← HN.out]; omega), by unfold Str.take; simp only [List.length_append]; rw [← HN.out]⟩
  have D0 := Lib.hid PT.out.1
  have OK0 := Lib.hid (HOK.out.take p)
  obtain ⟨O, hO⟩ : ∃ O, O = wrO S p := ⟨_, rfl⟩
  obtain ⟨SF, hSF⟩ : ∃ SF, SF = wrS S p := ⟨_, rfl⟩
  rw [← hO, ← hSF] at HO
  rw [← hSF] at HAS
  have HOE := Lib.hid (And.intro hO.symm hSF.symm)
  have HTA : Hid ((Str.take S p).all = S.all ++ p) := Lib.hid rfl
  have HLN : Hid ((S.all ++ p).length = an + n) := Lib.hid (by rw [List.length_append, HAN.out, HN.out])
  obtain ⟨kn, hkn⟩ : ∃ kn, kn = S.kept.length + n := ⟨_, rfl⟩
  have HKN : Hid (kn ≤ 80000) := Lib.hid (by rw [hkn]; have := HKE.out; omega)
  rw [← hkn] at HO W0
  clear hO hSF z3 f3 c3 a3' c9 PT G5 G6 P5 K5 K6 HNL HSA KA HPP H hX6 hkn
  go_wp2_with fail
  go_loopw [5] (fun v wx => ∃ (f o' : Nat) (S' : Str) (o : List UInt8) (a : Option Addr) (c : Nat), v = .slice a o.length c ∧ RowB X.heap.size wx v o ∧ DC wx x dict o' S' da a6 dc c6 ∧ DOk dict o' S' ∧ S'.all = S.all ++ p ∧ o ++ runO f S' = O ∧ runS f S' = SF ∧ S'.kept.length ≤ f ∧ S'.Wf 90000 ∧ o.length + 2 * S'.kept.length ≤ 2 * kn ∧ Kp (· = x) w wx ∧ X.heap.size ≤ wx.heap.size) (fun _ wx => an + n - Str.outN wx x)
  case atStart => exact ⟨kn, out, Str.take S p, [], none, 0, rfl, RowM.nil _ _ _, D0.out, OK0.out, HTA.out, by rw [List.nil_append]; exact HO.out.1.symm, HO.out.2.symm, by rw [W0.out.2]; exact Nat.le_refl _, W0.out.1, by rw [W0.out.2]; simp, KX.out, Nat.le_refl _⟩
  case round =>
    clear D0 OK0 HO W0 HTA KX
    obtain ⟨f, o', S', o, a, c, rfl, hr, hdc, hok, hall, ho, hs, hf, hw', hlen, hk, hxs⟩ := hrel
    have HXS := Lib.hid hxs
    have HR := Lib.hid hr
    have HDC := Lib.hid hdc
    have HO' := Lib.hid hok
    have HALL := Lib.hid hall
    have HOO := Lib.hid ho
    have HSS := Lib.hid hs
    have HFF := Lib.hid hf
    have HWW := Lib.hid hw'
    have HLE := Lib.hid hlen
    have HK := Lib.hid hk
    have hol := hok.len
    rw [hall, HLN.out] at hol
    have z3 : wr.cell? ⟨x, 3, none⟩ = some (.slice a6 (an + n) c6) := by rw [hdc.cell, ← HLN.out, ← hall]; rfl
    have z4 : wr.cell? ⟨x, 4, none⟩ = some (.int .i64 (o' : Nat)) := by rw [hdc.cell]; rfl
    have HMS : Hid (Str.outN wr x = o') := Lib.hid hdc.outN
    obtain ⟨k, hkk⟩ : ∃ k, k = S'.kept.length := ⟨_, rfl⟩
    have HKK := Lib.hid hkk
    rw [← hkk] at hol
    have hsub : IntKind.i64.wrap (((an + n : Nat) : Int) - (o' : Int)) = (k : Int) := by have := HAL.out; rw [IntKind.wrap_i64]; omega
    have hsub2 : IntKind.i64.wrap ((an : Int) + (n : Int) - (o' : Int)) = (k : Int) := by have := HAL.out; rw [IntKind.wrap_i64]; omega
    have HOL := Lib.hid hol
    clear hr hdc hok hall ho hs hf hw' hlen hk hkk hol hxs
    by_cases hge : 500 ≤ k
    · have hge' : decide ((500 : Int) ≤ (k : Int)) = true := decide_eq_true (by omega)
      have hgd : decide (500 ≤ k) = true := decide_eq_true hge
      go_wp2_with fail
      go_quiet (fail)
      have KQ : Hid (Kp (fun _ => False) wr (wr.drewN nq)) := Lib.hid ⟨rfl, rfl, rfl, Nat.le_refl _, fun _ _ _ => rfl⟩
      generalize wr.drewN nq = V at KQ ⊢
      have BL : Hid (Calls Tryz.prog 37 #[.pointer (some ⟨x, 0, none⟩), .int .i64 500, .int .u8 0] V (DOut V x dict (o' + 500) (blkO S' 500 0) (blkS S' 500) da a6 dc c6)) := Lib.hid (block_d (HDC.out.kp0 KQ.out) HO'.out 500 0 (by rw [← HKK.out]; exact hge) (Nat.le_refl _) HWW.out HDD.out)
      clear z3 z4
      go_wp2_with fail
      apply Calls.mono
      · with_reducible exact BL.out
      rintro e Y ⟨a7, c7, rfl, q1, q2, q3⟩
      have HYS : Hid (X.heap.size ≤ Y.heap.size) := Lib.hid (Nat.le_trans HXS.out (Nat.le_trans KQ.out.size q3.size))
      have RV := Lib.hid (HR.out.kp KQ.out (fun _ q => q.elim))
      have RY := Lib.hid (RV.out.kp q3 (fun b q => by subst q; have := HLS.out; have := HX6.out; omega))
      have HOW := Lib.hid (row_own RY.out)
      have HRB : Hid (∀ b, (Value.slice a o.length c).ownBlock = some b → X.heap.size ≤ b) := Lib.hid (fun b hb => (row_lt' RY.out hb).1)
      have Q1 := Lib.hid (row_own q1).sl
      have Q2 := Lib.hid q2
      have KY := Lib.hid ((HK.out.trans2 KQ.out (fun _ _ q => q.elim)).trans q3)
      have HBL := Lib.hid (blkO_le S' 500 0)
      have HBA : Hid ((blkS S' 500).all = S.all ++ p) := Lib.hid (by rw [blk_all]; exact HALL.out)
      obtain ⟨R, hR⟩ : ∃ R, R = blkO S' 500 0 := ⟨_, rfl⟩
      rw [← hR] at Q1 HBL ⊢
      have HRR := Lib.hid hR
      obtain ⟨rl, hrl⟩ : ∃ rl, rl = R.length := ⟨_, rfl⟩
      rw [← hrl] at Q1 HBL ⊢
      have HRL := Lib.hid hrl
      obtain ⟨m, hm⟩ : ∃ m, m = o.length := ⟨_, rfl⟩
      rw [← hm] at HOW HRB HLE ⊢
      have HM := Lib.hid hm
      clear q1 q2 q3 RV RY hR hrl hm BL
      go_wp2_with (first
        | (at_builtin; refine wpList_app Y rfl (.tmp 32) (.tmp 34) 24 rfl 5 j0 _ 1 1 Tryz.underlying24 hj0 hy0 hy1 hy2 rfl (by decide) (by decide) (.slice a m c) m (o.map u8c) rfl HOW.out (.slice a7 rl c7) rl (R.map u8c) rfl Q1.out (u8c_one _) (by have := HLE.out; have := HKN.out; have := HBL.out; omega) ?_; intro v8 w8 g1 g2 g3 _ _; obtain ⟨a8, c8, rfl⟩ := g1.form
           have D8 := Lib.hid (Q2.out.kp g2 (fun q => by have := HRB.out _ q; have := HLS.out; have := HX6.out; omega) (fun p0 b hb q => by have := HRB.out b q; have := HDL.out p0 b hb; have := HX6.out; omega) (fun p0 b hb q => by rw [HBA.out, HLN.out] at hb; have := HRB.out b q; have := (HA6.out b hb).2; omega))
           have K8 := Lib.hid (KY.out.trans2 g2 (fun i hi q => by have := HRB.out i q; have := HX6.out; omega))
           have R8 : Hid (RowB X.heap.size w8 (.slice a8 (m + rl) c8) (o ++ R)) := Lib.hid (by
             have hl : (o ++ R).length = m + rl := by rw [List.length_append, HM.out, HRL.out]
             refine ⟨a8, c8, by rw [hl], by rw [hl, List.map_append]; exact g1, fun b hb => ?_⟩
             rcases g3 with e | e
             · exact HRB.out b (e.symm.trans hb)
             · rw [e] at hb
               simp only [Option.some.injEq] at hb
               subst hb
               exact HYS.out)
           have H8 : Hid (X.heap.size ≤ w8.heap.size) := Lib.hid (Nat.le_trans HYS.out g2.size)
           clear g1 g2 g3))
      obtain ⟨f', rfl⟩ : ∃ f', f = f' + 1 := ⟨f - 1, by have := HFF.out; rw [← HKK.out] at this; omega⟩
      have hrun := runO_go (f := f') (S := S') (by rw [← HKK.out]; exact hge)
      have hl8 : (o ++ R).length = m + rl := by rw [List.length_append, HM.out, HRL.out]
      have hbk := blk_kept S' 500
      have hff := HFF.out
      have hll := HLE.out
      have hbb := HBL.out
      have hoo := HOL.out
      rw [← HKK.out] at hbk hff hll
      refine ⟨⟨f', o' + 500, blkS S' 500, o ++ R, a8, c8, by rw [hl8], R8.out, D8.out, HO'.out.blk (by rw [← HKK.out]; exact hge), HBA.out, ?_, ?_, ?_, blk_wf HWW.out, ?_, K8.out, H8.out⟩, ?_⟩
      · rw [← HOO.out, hrun.1, ← HRR.out, List.append_assoc]
      · rw [← HSS.out, hrun.2]
      · rw [hbk]; omega
      · rw [hl8, hbk]; omega
      · show an + n - Str.outN w8 x < an + n - Str.outN wr x
        rw [D8.out.outN, HMS.out]
        omega
    · have hge' : decide ((500 : Int) ≤ (k : Int)) = false := decide_eq_false (by omega)
      have hgd : decide (500 ≤ k) = false := decide_eq_false hge
      go_wp2_with fail
      go_quiet (fail)
      have KQ : Hid (Kp (fun _ => False) wr (wr.drewN nq)) := Lib.hid ⟨rfl, rfl, rfl, Nat.le_refl _, fun _ _ _ => rfl⟩
      generalize wr.drewN nq = V at KQ ⊢
      go_wp2_with fail
      go_ret
      have hst := run_stop (f := f) (S := S') (by rw [← HKK.out]; exact hge)
      have hOo : O = o := by rw [← HOO.out, hst.1, List.append_nil]
      have hSS : SF = S' := by rw [← HSS.out, hst.2]
      rw [HOE.out.1, HOE.out.2, hOo, hSS]
      refine ⟨a, c, o', a6, c6, rfl, (HR.out.kp KQ.out (fun _ q => q.elim)).low HX6.out, HDC.out.kp0 KQ.out, HO'.out, HK.out.trans2 KQ.out (fun _ _ q => q.elim), fun b hb => .inl ?_⟩
      rw [HALL.out, HLN.out] at hb
      exact ⟨(HA6.out b hb).1, Nat.lt_of_lt_of_le (HA6.out b hb).2 (Nat.le_trans HXS.out KQ.out.size)⟩
end
end Go.Proofs.YtbakhpakdaflkaaGreat.Str
namespace Go.Proofs.YtbakhpakdaflkaaGreat.Str
open Go Go.RowKit Go.ChangeMaps Go.MapKept Go.Mg Go.Mt Go.Proofs.YtbakhpakdaflkaaGreat.Hu Go.Proofs.YtbakhpakdaflkaaGreat.Sq Go.Proofs.YtbakhpakdaflkaaGreat.Bk Go.Proofs.YtbakhpakdaflkaaGreat.Ma

theorem blkO_end (S : Str) (n : Nat) (z : UInt8) : blkO { S with ended := true } n z = blkO S n z := by
  unfold blkO Str.enc; rfl
theorem blkS_end (S : Str) (n : Nat) : blkS { S with ended := true } n = { blkS S n with ended := true } := by
  simp only [blkS, Str.enc]
section
variable {w : World} {x out : Nat} {dict : List UInt8} {S : Str} {da aa : Option Addr} {dc ac : Nat}
set_option maxRecDepth 100000 in
set_option maxHeartbeats 2000000 in
theorem endD_go (h : DC w x dict out S da aa dc ac) (ok : DOk dict out S) (he : S.ended = false) (hk : S.kept.length ≤ 500) (hw : S.Wf 90000) (hd : dict.length ≤ 2000) :
    Calls Tryz.prog 25 #[.pointer (some ⟨x, 0, none⟩)] w (DPost w x dict (endO S) (endS' S) da aa dc ac S.all.length) := by
  obtain ⟨j0, hj0, hy0, hy1, hy2⟩ := info_parts infoU8c
  have c9 : w.cell? ⟨x, 9, none⟩ = some (.bool S.ended) := by rw [h.cell]; rfl
  have f9 : w.frozen? ⟨x, 9, none⟩ = false := h.free 9
  rw [he] at c9
  have hl := ok.len
  have PE := Lib.hid h.ended_put
  have HLS := Lib.hid h.lt
  have HLA := Lib.hid (fun (q : 0 < S.all.length) (b : Nat) hb => sl_lt h.all q (b := b) hb)
  have HLD := Lib.hid (fun (q : 0 < dict.length) (b : Nat) hb => sl_lt h.rowD q (b := b) hb)
  have HOK := Lib.hid ok
  have hwe : Str.Wf { S with ended := true } 90000 := ⟨hw.d1, hw.d2, hw.id, hw.seen, hw.all, hw.kept⟩
  have BL : Hid (∀ X V, DC X x dict out { S with ended := true } da aa dc ac → Kp (fun _ => False) X V → Calls Tryz.prog 37 #[.pointer (some ⟨x, 0, none⟩), .int .i64 (S.kept.length : Nat), .int .u8 1] V (DOut V x dict (out + S.kept.length) (blkO S S.kept.length 1) { blkS S S.kept.length with ended := true } da aa dc ac)) := Lib.hid (fun X V hX hV => by
    have := block_d (hX.kp0 hV) (ok.ended true) S.kept.length 1 (Nat.le_refl _) hk hwe hd
    rw [blkO_end, blkS_end] at this
    exact this)
  have HBL := Lib.hid (blkO_le S S.kept.length 1)
  have HAS : Hid ((endS' S).all = S.all) := Lib.hid (endS_all S)
  have HDK : Hid (DOk dict (out + S.kept.length) (endS' S)) := Lib.hid (by have := (ok.blk (Nat.le_refl S.kept.length)).ended true; exact this)
  have HEO : Hid (endO S = blkO S S.kept.length 1 ++ lowB (sumN S.all)) := Lib.hid rfl
  have SM := Lib.hid (fun V (q : SlR V 1 (.slice aa S.all.length ac) S.all.length (S.all.map u8c)) => sumF_d V S.all aa ac q (by have := hw.all; omega))
  have hw90 := hw.all
  obtain ⟨ES, hES⟩ : ∃ E, E = endS' S := ⟨_, rfl⟩
  have HES : Hid (ES = { blkS S S.kept.length with ended := true }) := Lib.hid (by rw [hES]; rfl)
  rw [← HES.out] at BL
  rw [← hES] at HAS HDK ⊢
  obtain ⟨B, hB⟩ : ∃ B, B = blkO S S.kept.length 1 := ⟨_, rfl⟩
  rw [← hB] at BL HBL HEO
  obtain ⟨an, han⟩ : ∃ an, an = S.all.length := ⟨_, rfl⟩
  have HAN := Lib.hid han
  obtain ⟨kn, hkn⟩ : ∃ kn, kn = S.kept.length := ⟨_, rfl⟩
  rw [← han] at SM hl hw90 HLA ⊢
  rw [← hkn] at BL hl HBL HDK hk
  have hs : IntKind.i64.wrap ((an : Int) - (out : Int)) = (kn : Int) := by rw [IntKind.wrap_i64]; omega
  have HKN : Hid (kn ≤ 500) := Lib.hid hk
  have HLL := Lib.hid (lowB_len (sumN S.all))
  obtain ⟨bl, hbl⟩ : ∃ bl, bl = B.length := ⟨_, rfl⟩
  have HB := Lib.hid hbl
  rw [← hbl] at HBL
  clear h ok he hk hw hd hwe hES hB han hkn hbl hl
  go_enter Tryz.func25, Tryz.ntmps25
  go_upto_region 4 with fail
  have PX := PE.out.1
  have KX := PE.out.2
  generalize w.setCell ⟨x, 9, none⟩ (.bool true) = X at PX KX ⊢
  have d3 : X.cell? ⟨x, 3, none⟩ = some (.slice aa an ac) := by rw [PX.cell, HAN.out]; rfl
  have d4 : X.cell? ⟨x, 4, none⟩ = some (.int .i64 (out : Nat)) := by rw [PX.cell]; rfl
  have KD := Lib.hid ((Kp.refl (fun _ => False) X).drew)
  have BX := Lib.hid (BL.out X _ PX KD.out)
  have KX0 := Lib.hid KX
  clear c9 f9 PX KX BL PE
  go_region_law (first
    | (go_simp; go_at_call 37; apply Calls.mono; (with_reducible exact BX.out); rintro e Y ⟨a2, c2, rfl, q1, q2, q3⟩
       have y3 : Y.cell? ⟨x, 3, none⟩ = some (.slice aa an ac) := by rw [q2.cell, HAN.out, ← HAS.out]; rfl
       have SY := Lib.hid (SM.out Y (by have q := q2.all; rw [HAS.out, ← HAN.out] at q; exact q))
       have Q1 : Hid (RowB X.heap.size Y (.slice a2 B.length c2) B) := Lib.hid (q1.low (by simp))
       have Q2 := Lib.hid q2
       have KY := Lib.hid (((KX0.out.trans2 KD.out (fun _ _ q => q.elim))).trans q3)
       have HSY := Lib.hid q3.size
       rw [← HB.out] at Q1 ⊢
       clear q1 q2 q3)
    | (go_simp; go_at_call 17; apply Calls.mono; (with_reducible exact SY.out); rintro e Z ⟨a3, c3', rfl, r1, r2⟩
       have z3 : Z.cell? ⟨x, 3, none⟩ = some (.slice aa an ac) := by rw [(Q2.out.kp0 r2).cell, HAN.out, ← HAS.out]; rfl
       have R1 : Hid (SlR Z 1 (.slice a3 4 c3') 4 ((lowB (sumN S.all)).map u8c)) := Lib.hid (by
         obtain ⟨_, _, e9, o9, _⟩ := r1
         have q := o9.sl
         rw [HLL.out] at q
         exact q)
       have QZ := Lib.hid (row_own (Q1.out.kp r2 (fun _ q => q.elim)))
       have QB : Hid (∀ b, (Value.slice a2 bl c2).ownBlock = some b → X.heap.size ≤ b) := Lib.hid (fun b hb => (row_lt' Q1.out hb).1)
       have DZ := Lib.hid (Q2.out.kp0 r2)
       have KZ := Lib.hid (KY.out.trans2 r2 (fun _ _ q => q.elim))
       rw [← HB.out] at QZ
       clear r1 r2)
    | (refine step_app _ rfl (.tmp 21) (.tmp 26) 24 rfl 5 j0 _ 1 1 Tryz.underlying24 hj0 hy0 hy1 hy2 rfl (by decide) (by decide) (.slice a2 bl c2) bl (B.map u8c) (by simp [Act.eval]) QZ.out (.slice a3 4 c3') 4 ((lowB (sumN S.all)).map u8c) (by simp [Act.eval]) R1.out (u8c_one _) (by have := HBL.out; have := HKN.out; omega) ?_; intro v5 w5 g1 g2 g3 _ _; obtain ⟨a5, c5, rfl⟩ := g1.form
       have hzx := KX0.out.size
       have G1 := Lib.hid g1
       have GB : Hid (∀ b, (Value.slice a5 (bl + 4) c5).ownBlock = some b → w.heap.size ≤ b) := Lib.hid (fun b hb => by
         rcases g3 with e | e
         · have := QB.out b (e.symm.trans hb); omega
         · rw [e] at hb; simp only [Option.some.injEq] at hb; have := KZ.out.size; omega)
       have DF := Lib.hid (DZ.out.kp g2 (fun q => by have := QB.out _ q; have := HLS.out; omega) (fun p0 b hb q => by have := QB.out b q; have := HLD.out p0 b hb; omega) (fun p0 b hb q => by rw [HAS.out] at p0; rw [HAS.out, ← HAN.out] at hb; have := QB.out b q; have := HLA.out (by rw [HAN.out]; exact p0) b hb; omega))
       have KF := Lib.hid (KZ.out.trans2 g2 (fun i hi q => by have := QB.out i q; omega))
       clear g1 g2 g3 hzx))
  all_goals (go_wp2_with fail; go_ret)
  all_goals
    have hlen : (endO S).length = bl + 4 := by rw [HEO.out, List.length_append, HLL.out, HB.out]
    refine ⟨a5, c5, out + kn, aa, ac, by rw [hlen]; rfl, ?_, DF.out, HDK.out, KF.out, fun b hb => .inr (by rw [HAS.out, ← HAN.out] at hb; exact hb)⟩
    rw [hlen]
    refine ⟨a5, c5, by rw [hlen], ?_, GB.out⟩
    rw [hlen, HEO.out, List.map_append]
    exact G1.out
end
end Go.Proofs.YtbakhpakdaflkaaGreat.Str
namespace Go.Proofs.YtbakhpakdaflkaaGreat.Str
open Go Go.RowKit Go.ChangeMaps Go.MapKept Go.Mg Go.Mt Go.Proofs.YtbakhpakdaflkaaGreat.Hu Go.Proofs.YtbakhpakdaflkaaGreat.Sq Go.Proofs.YtbakhpakdaflkaaGreat.Bk Go.Proofs.YtbakhpakdaflkaaGreat.Ma

noncomputable def wO (S : Str) (p : List UInt8) : List UInt8 := if S.ended = true then [] else wrO S p
noncomputable def wS (S : Str) (p : List UInt8) : Str := if S.ended = true then S else wrS S p
noncomputable def fO (S : Str) : List UInt8 := if S.ended = true then [] else flO S
noncomputable def fS (S : Str) : Str := if S.ended = true then S else flS S
noncomputable def eO (S : Str) : List UInt8 := if S.ended = true then [] else endO S
noncomputable def eS (S : Str) : Str := if S.ended = true then S else endS' S
/-- Sizes that a script keeps. -/
structure Sz (S : Str) (n : Nat) : Prop where
  wf : S.Wf n
  kept : S.kept.length < 500
theorem endS_wf {S : Str} {n : Nat} (h : S.Wf n) : (endS' S).Wf n := by
  have := blk_wf (k := S.kept.length) h
  unfold endS'
  generalize blkS S S.kept.length = X at this ⊢
  exact ⟨this.d1, this.d2, this.id, this.seen, this.all, this.kept⟩
theorem endS_kept (S : Str) : (endS' S).kept.length = 0 := by
  have := blk_kept S S.kept.length
  unfold endS'
  generalize blkS S S.kept.length = X at this ⊢
  show X.kept.length = 0
  omega
theorem Sz.w {S : Str} {n : Nat} (h : Sz S n) (p : List UInt8) : Sz (wS S p) (n + p.length) := by
  unfold wS
  split
  · exact ⟨h.wf.mono (by omega), h.kept⟩
  · exact ⟨wrS_wf h.wf, wrS_kept _ _⟩
theorem Sz.f {S : Str} {n : Nat} (h : Sz S n) : Sz (fS S) n := by
  unfold fS
  split
  · exact h
  · exact ⟨flS_wf h.wf, by rw [flS_kept]; omega⟩
theorem Sz.e {S : Str} {n : Nat} (h : Sz S n) : Sz (eS S) n := by
  unfold eS
  split
  · exact h
  · exact ⟨endS_wf h.wf, by rw [endS_kept]; omega⟩
section
variable {G : Nat → Prop} {w wx : World} {s : Nat} {S : Str}
theorem Out1.none (h : L1 G w wx s S) : Out1 G w wx s [] S (.returned (.slice none 0 0)) wx :=
  ⟨Option.none, 0, rfl, RowM.nil _ _ _, h.mono (fun k q => q.elim id (fun q => by cases q)), Kp.refl _ _⟩
theorem writeA (h : L1 G w wx s S) (p : List UInt8) (ap : Option Addr) (cp : Nat) (hp : SlR wx 1 (.slice ap p.length cp) p.length (p.map u8c)) (hpG : ∀ b, (Value.slice ap p.length cp).ownBlock = some b → G b) (hw : S.Wf 40000) (hpl : p.length ≤ 40000) :
    Calls Tryz.prog 13 #[.pointer (some ⟨s, 0, none⟩), .slice ap p.length cp] wx (Out1 G w wx s (wO S p) (wS S p)) := by
  have h' := h
  obtain ⟨⟨F, h1, h2, h3⟩, h4⟩ := h
  unfold wO wS
  by_cases he : S.ended = true
  · rw [if_pos he, if_pos he]
    refine (write_no h1 he _).mono ?_
    rintro e w' ⟨rfl, rfl⟩
    exact Out1.none h'
  · rw [if_neg he, if_neg he]
    exact (write_go h1 (by simpa using he) p ap cp hp (fun _ b hb q => (h3 b (hpG b hb)).2 (.inl q)) hw hpl).mono (fun e w' q => L1.step h1 h2 h3 h4 q)
theorem flushA (h : L1 G w wx s S) (hz : Sz S 90000) :
    Calls Tryz.prog 14 #[.pointer (some ⟨s, 0, none⟩)] wx (Out1 G w wx s (fO S) (fS S)) := by
  have h' := h
  have hk := hz.kept
  unfold fO fS
  by_cases he : S.ended = true
  · rw [if_pos he, if_pos he]
    obtain ⟨⟨F, h1, h2, h3⟩, h4⟩ := h
    refine (flush_no h1 (.inl he)).mono ?_
    rintro e w' ⟨rfl, rfl⟩
    exact Out1.none h'
  · rw [if_neg he, if_neg he]
    exact flush1 h (by simpa using he) (by omega) (hz.wf.mono (by omega))
theorem endA (h : L1 G w wx s S) (hz : Sz S 90000) :
    Calls Tryz.prog 18 #[.pointer (some ⟨s, 0, none⟩)] wx (Out1 G w wx s (eO S) (eS S)) := by
  have h' := h
  have hk := hz.kept
  unfold eO eS
  by_cases he : S.ended = true
  · rw [if_pos he, if_pos he]
    obtain ⟨⟨F, h1, h2, h3⟩, h4⟩ := h
    refine (end_no h1 he).mono ?_
    rintro e w' ⟨rfl, rfl⟩
    exact Out1.none h'
  · rw [if_neg he, if_neg he]
    exact end1 h (by simpa using he) (by omega) (hz.wf.mono (by omega))
end
section
variable {w : World} {x out : Nat} {dict : List UInt8} {S : Str} {da aa : Option Addr} {dc ac : Nat}
theorem DPost.none {w' : World} (h : DC w x dict out S da aa dc ac) (ok : DOk dict out S) (hk : Kp (fun _ => False) w w') : DPost w x dict [] S da aa dc ac S.all.length (.returned (.slice none 0 0)) w' :=
  ⟨Option.none, 0, out, aa, ac, rfl, RowM.nil _ _ _, h.kp0 hk, ok, hk.mono (fun _ _ q => q.elim), fun _ hb => .inr hb⟩
theorem writeDA (h : DC w x dict out S da aa dc ac) (ok : DOk dict out S) (p : List UInt8) (ap : Option Addr) (cp : Nat) (hp : SlR w 1 (.slice ap p.length cp) p.length (p.map u8c)) (hw : S.Wf 40000) (hpl : p.length ≤ 40000) (hd : dict.length ≤ 2000) :
    Calls Tryz.prog 23 #[.pointer (some ⟨x, 0, none⟩), .slice ap p.length cp] w (DPost w x dict (wO S p) (wS S p) da aa dc ac S.all.length) := by
  unfold wO wS
  by_cases he : S.ended = true
  · rw [if_pos he, if_pos he]
    refine (writeD_no h he _).mono ?_
    rintro e w' ⟨rfl, rfl⟩
    exact DPost.none h ok (Kp.refl _ _)
  · rw [if_neg he, if_neg he]
    exact writeD_go h ok (by simpa using he) p ap cp hp hw hpl hd
theorem flushDA (h : DC w x dict out S da aa dc ac) (ok : DOk dict out S) (hz : Sz S 90000) (hd : dict.length ≤ 2000) :
    Calls Tryz.prog 24 #[.pointer (some ⟨x, 0, none⟩)] w (DPost w x dict (fO S) (fS S) da aa dc ac S.all.length) := by
  have hk := hz.kept
  unfold fO fS flO flS
  by_cases he : S.ended = true
  · rw [if_pos he, if_pos he]
    refine (flushD_no h ok (.inl he)).mono ?_
    rintro e w' ⟨rfl, q, rfl⟩
    exact DPost.none h ok ⟨rfl, rfl, rfl, Nat.le_refl _, fun _ _ _ => rfl⟩
  · rw [if_neg he, if_neg he]
    by_cases h0 : S.kept.length = 0
    · rw [if_pos h0, if_pos h0]
      refine (flushD_no h ok (.inr h0)).mono ?_
      rintro e w' ⟨rfl, q, rfl⟩
      exact DPost.none h ok ⟨rfl, rfl, rfl, Nat.le_refl _, fun _ _ _ => rfl⟩
    · rw [if_neg h0, if_neg h0]
      exact flushD_go h ok (by simpa using he) h0 (by omega) hz.wf hd
theorem endDA (h : DC w x dict out S da aa dc ac) (ok : DOk dict out S) (hz : Sz S 90000) (hd : dict.length ≤ 2000) :
    Calls Tryz.prog 25 #[.pointer (some ⟨x, 0, none⟩)] w (DPost w x dict (eO S) (eS S) da aa dc ac S.all.length) := by
  have hk := hz.kept
  unfold eO eS
  by_cases he : S.ended = true
  · rw [if_pos he, if_pos he]
    refine (endD_no h he).mono ?_
    rintro e w' ⟨rfl, rfl⟩
    exact DPost.none h ok (Kp.refl _ _)
  · rw [if_neg he, if_neg he]
    exact endD_go h ok (by simpa using he) (by omega) hz.wf hd
end
/-- Both Streams, alike. -/
structure PL (w wx : World) (s x : Nat) (dict : List UInt8) (da : Option Addr) (dc : Nat) (S : Str) : Prop where
  ex : ∃ (out : Nat) (aa : Option Addr) (ac : Nat), DC wx x dict out S da aa dc ac ∧ DOk dict out S ∧ L1 (fun k => k = x ∨ (Value.slice aa S.all.length ac).ownBlock = some k) w wx s S
  hx : w.heap.size ≤ x
  dlt : 0 < dict.length → ∀ b, (Value.slice da dict.length dc).ownBlock = some b → b < w.heap.size
theorem PL.kp {w wx : World} {s x : Nat} {dict : List UInt8} {da : Option Addr} {dc : Nat} {S : Str} (h : PL w wx s x dict da dc S) : Kp (fun _ => False) w wx := by
  obtain ⟨_, _, _, _, _, q⟩ := h.ex
  exact q.kp
theorem PL.kp0 {w wx w' : World} {s x : Nat} {dict : List UInt8} {da : Option Addr} {dc : Nat} {S : Str} (h : PL w wx s x dict da dc S) (hk : Kp (fun _ => False) wx w') : PL w w' s x dict da dc S := by
  obtain ⟨out, aa, ac, h1, h2, h3⟩ := h.ex
  exact ⟨⟨out, aa, ac, h1.kp0 hk, h2, h3.kp0 hk⟩, h.hx, h.dlt⟩
theorem L1.doc {G G' : Nat → Prop} {w w' w2 : World} {s x : Nat} {S : Str} (h : L1 G w w' s S) (hk : Kp (· = x) w' w2) (hx : G x) (hwx : w.heap.size ≤ x) (hG : ∀ k, G' k → G k ∨ (w'.heap.size ≤ k ∧ k < w2.heap.size)) : L1 G' w w2 s S := by
  obtain ⟨⟨F, h1, h2, h3⟩, h4⟩ := h
  have hz := hk.size
  have hsx : ¬ s = x := fun q => (h3 x hx).2 (.inl (q ▸ h1.fs))
  refine ⟨⟨F, h1.kpR hk (fun k a b => by subst b; exact (h3 _ hx).2 (.inl a)) (fun k a b => by subst b; exact (h3 _ hx).2 (.inr a)), h2, fun k q => ?_⟩, h4.trans2 hk (fun i hi q => by omega)⟩
  rw [rd_kp hk h1.lt hsx]
  rcases hG k q with q | q
  · exact ⟨by have := (h3 k q).1; omega, (h3 k q).2⟩
  · refine ⟨q.2, fun r => ?_⟩
    rcases r with r | r
    · have := h1.fl k r; omega
    · have := (h1.rd_lt r).1; omega
/-- The document's Stream behind a step of the program's. -/
structure Mid (w wx w1 : World) (s x : Nat) (dict : List UInt8) (da : Option Addr) (dc : Nat) (S S' : Str) (row : Value) : Prop where
  ex : ∃ (out : Nat) (aa : Option Addr) (ac : Nat), DC w1 x dict out S da aa dc ac ∧ DOk dict out S ∧ L1 (fun k => (k = x ∨ (Value.slice aa S.all.length ac).ownBlock = some k) ∨ row.ownBlock = some k) w w1 s S'
  hx : w.heap.size ≤ x
  dlt : 0 < dict.length → ∀ b, (Value.slice da dict.length dc).ownBlock = some b → b < w.heap.size
theorem Mid.of {G : Nat → Prop} {w wx w1 : World} {s x out : Nat} {dict : List UInt8} {da aa : Option Addr} {dc ac : Nat} {S S' : Str} {O : List UInt8} {e : Ending} (h1 : DC wx x dict out S da aa dc ac) (h2 : DOk dict out S) (hx : w.heap.size ≤ x) (hdl : 0 < dict.length → ∀ b, (Value.slice da dict.length dc).ownBlock = some b → b < w.heap.size)
    (hG : ∀ k, (k = x ∨ (Value.slice aa S.all.length ac).ownBlock = some k) → G k) (h : Out1 G w wx s O S' e w1) : ∃ a c, e = .returned (.slice a O.length c) ∧ RowB wx.heap.size w1 (.slice a O.length c) O ∧ Mid w wx w1 s x dict da dc S S' (.slice a O.length c) := by
  obtain ⟨a, c, rfl, q1, q2, q3⟩ := h
  refine ⟨a, c, rfl, q1, ⟨⟨out, aa, ac, h1.kp q3 (fun q => q.2 (hG x (.inl rfl))) (fun p0 b hb q => by have := hdl p0 b hb; omega) (fun p0 b hb q => q.2 (hG b (.inr hb))), h2, q2.mono (fun k q => q.elim (fun q => .inl (hG k q)) .inr)⟩, hx, hdl⟩⟩
theorem Mid.kp {w wx w1 : World} {s x : Nat} {dict : List UInt8} {da : Option Addr} {dc : Nat} {S S' : Str} {row : Value} (h : Mid w wx w1 s x dict da dc S S' row) : Kp (fun _ => False) w w1 := by
  obtain ⟨_, _, _, _, _, q⟩ := h.ex
  exact q.kp
theorem Mid.done {w w1 w2 : World} {s x : Nat} {dict : List UInt8} {da aa : Option Addr} {dc ac : Nat} {S S' : Str} {row : Value} {O : List UInt8} {e : Ending} (hx : w.heap.size ≤ x) (hdl : 0 < dict.length → ∀ b, (Value.slice da dict.length dc).ownBlock = some b → b < w.heap.size)
    (h3 : L1 (fun k => (k = x ∨ (Value.slice aa S.all.length ac).ownBlock = some k) ∨ row.ownBlock = some k) w w1 s S') (h : DPost w1 x dict O S' da aa dc ac S.all.length e w2) :
    ∃ a c, e = .returned (.slice a O.length c) ∧ RowB w1.heap.size w2 (.slice a O.length c) O ∧ PL w w2 s x dict da dc S' ∧ Kp (· = x) w1 w2 := by
  obtain ⟨a, c, out', aa', ac', rfl, q1, q2, q3, q4, q5⟩ := h
  refine ⟨a, c, rfl, q1, ⟨⟨out', aa', ac', q2, q3, h3.doc q4 (.inl (.inl rfl)) hx (fun k q => ?_)⟩, hx, hdl⟩, q4⟩
  rcases q with q | q
  · exact .inl (.inl (.inl q))
  · rcases q5 k q with q | q
    · exact .inr q
    · exact .inl (.inl (.inr q))
end Go.Proofs.YtbakhpakdaflkaaGreat.Str
