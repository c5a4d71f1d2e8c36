/- block, the document's: packed. block, the program's reader: coded. block, the program's reader: coded, whole. block, the document's: Unrow. -/
import Derived.Test.YtphakpikalmghaaGreatU26
import Derived.Test.YtphakpikalmghaaGreatU06
import Derived.Test.YtphakpikalmghaaGreatU27
import Derived.Test.YtphakpikalmghaaGreatU08
namespace Go.Proofs.YtphakpikalmghaaGreat.Un
open Go Go.RowKit Go.ChangeMaps Go.MapKept Go.Mg Go.Hf Go.Mt Go.Proofs.YtphakpikalmghaaGreat.Hu Go.Proofs.YtphakpikalmghaaGreat.He Go.Proofs.YtphakpikalmghaaGreat.Rd Go.Proofs.YtphakpikalmghaaGreat.Bw Go.Proofs.YtphakpikalmghaaGreat.Ma

theorem w8 (n : Int) (h0 : 0 ≤ n) (h1 : n < 2 ^ 8) : IntKind.u8.wrap n = n := by
  have : IntKind.u8.wrap n = n % 256 := by simp [IntKind.wrap, IntKind.bits, IntKind.signed]
  rw [this]; omega
theorem low4 {x : Nat} (hx : x < 256) : bits .and .u8 (x : Int) 15 = ((x % 16 : Nat) : Int) := by
  have := bits_mask .u8 8 (by decide) w8 4 (by decide) (x : Int) (by omega) (by omega)
  rw [show ((2 : Int) ^ 4 - 1) = 15 from rfl, show ((2 : Int) ^ 4) = 16 from rfl] at this
  rw [this]; omega
def lenF (b : List UInt8) (i : Nat) : Int := ((byt b (i / 2) / 16 ^ (i % 2) % 16 : Nat) : Int)
def lenK (b : List UInt8) (k : Nat) : List Int := (List.range k).map (lenF b)
theorem lenK_len (b : List UInt8) (k : Nat) : (lenK b k).length = k := by simp [lenK]
theorem lenK_two (b : List UInt8) (k : Nat) : lenK b (2 * k + 2) = lenK b (2 * k) ++ [((byt b k % 16 : Nat) : Int), ((byt b k / 16 : Nat) : Int)] := by
  have hb := byt_lt b k
  have e1 : lenF b (2 * k) = ((byt b k % 16 : Nat) : Int) := by
    unfold lenF
    rw [show 2 * k / 2 = k by omega, show 2 * k % 2 = 0 by omega, Nat.pow_zero, Nat.div_one]
  have e2 : lenF b (2 * k + 1) = ((byt b k / 16 : Nat) : Int) := by
    unfold lenF
    rw [show (2 * k + 1) / 2 = k by omega, show (2 * k + 1) % 2 = 1 by omega, Nat.pow_one]
    congr 1
    omega
  unfold lenK
  rw [List.range_succ, List.range_succ, List.map_append, List.map_append, List.append_assoc, List.map_singleton, List.map_singleton, e1, e2]
  rfl
theorem lenK_all (b : List UInt8) : lenK b 256 = Bk.lenU b := rfl
def PkYes (r : List UInt8) (n : Nat) (s : List Nat) : Prop := 130 ≤ r.length ∧ 130 + Bk.numU r 128 ≤ r.length ∧ DecYes (Bk.lenU r) ((r.drop 130).take (Bk.numU r 128)) (n : Nat) s
def PkPost (w : World) (r : List UInt8) (n : Nat) (e : Ending) (w' : World) : Prop :=
  (∃ s a c a' c', PkYes r n s ∧ e = .returned (.tuple #[.slice a (ob s).length c, .slice a' (r.length - 130 - Bk.numU r 128) c', .bool true]) ∧ RowM 5 u8c w.heap.size w' (.slice a (ob s).length c) (ob s) ∧ Kp (fun _ => False) w w') ∨
  ((∀ s, ¬ PkYes r n s) ∧ ∃ v1 v2, e = .returned (.tuple #[v1, v2, .bool false]) ∧ Kp (fun _ => False) w w')
theorem int_1c (y : Int) : (Value.int .i64 y).oneCell' = true := rfl
theorem lit_two (w : World) (x y : Int) : SlR (w.alloc (.cells #[.int .i64 x, .int .i64 y] 3)) 1 (.slice (some ⟨w.heap.size, 0, none⟩) 2 2) 2 ([x, y].map (Value.int .i64)) :=
  lit_m w 3 [.int .i64 x, .int .i64 y] (n := 2) rfl (by omega)
set_option maxRecDepth 100000 in
set_option maxHeartbeats 1000000 in
theorem packed_d (w : World) (r : List UInt8) (a : Option Addr) (c : Nat) (h : SlR w 1 (.slice a r.length c) r.length (r.map u8c)) (hl : r.length ≤ 2000) (n : Nat) (hn : n ≤ 500) :
    Calls Tryz.prog 30 #[.slice a r.length c, .int .i64 (n : Nat)] w (PkPost w r n) := by
  obtain ⟨i0, hi0, hz0, hz1, hz2⟩ := info_parts infoI_
  by_cases h130 : 130 ≤ r.length
  · obtain ⟨a8, c8, hf8, hs8⟩ := from_u w r a c h 128 (by omega)
    rw [show ((128 : Nat) : Int) = 128 from rfl] at hf8
    have e8 : (r.drop 128).length = r.length - 128 := List.length_drop
    have CU := Lib.hid (fun V (k : Kp (fun _ => False) w V) => cut_d V (r.drop 128) a8 c8 (hs8.kp k (fun _ _ q => q)) (by rw [e8]; omega))
    rw [e8] at CU
    have HNU : Hid (Bk.numU (r.drop 128) 0 = Bk.numU r 128) := Lib.hid (by unfold Bk.numU; rw [Bk.byt_drop, Bk.byt_drop])
    have HDD : Hid ((r.drop 128).drop 2 = r.drop 130) := Lib.hid (by rw [List.drop_drop])
    have HDL : Hid ((r.drop 130).length = r.length - 130) := Lib.hid List.length_drop
    obtain ⟨g, o, rfl, hg, hcap, hc⟩ := byts_at h (by omega)
    have HC := Lib.hid hc
    have HBL := Lib.hid (byt_lt r)
    have HK2 := Lib.hid (fun k => lenK_two r k)
    have HKL := Lib.hid (fun k => lenK_len r k)
    have HG := Lib.hid hg
    obtain ⟨m, hm⟩ : ∃ m, m = r.length := ⟨_, rfl⟩
    rw [← hm] at HC hf8 CU HDL hcap hl ⊢
    have HM := Lib.hid hm
    have h130' : 130 ≤ m := by rw [hm]; exact h130
    have b0 : decide ((m : Int) < 130) = false := decide_eq_false (by omega)
    clear h hc hs8 e8 hm h130
    go_enter Tryz.func30, Tryz.ntmps30
    go_wp2_with fail
    go_loopw [7, 8] (fun v i wx => ∃ (k : Nat) (av : Option Addr) (cv : Nat), k ≤ 128 ∧ i = .int .i64 k ∧ v = .slice av (2 * k) cv ∧ RowM 3 (Value.int .i64) w.heap.size wx v (lenK r (2 * k)) ∧ Kp (fun _ => False) w wx) (fun _ i _ => 128 - (intOf i).toNat)
    case atStart => exact ⟨0, none, 0, by omega, rfl, rfl, RowM.nil _ _ _, Kp.refl _ _⟩
    case round =>
      obtain ⟨k, av, cv, hk, rfl, rfl, hr, hkp⟩ := hrel
      have HR := Lib.hid hr
      have HKP := Lib.hid hkp
      clear hr hkp
      by_cases hlt : k < 128
      · have d0 : wr.cell? ⟨g, o + k, none⟩ = some (.int .u8 (byt r k : Nat)) := (HKP.out.cell (p := ⟨g, o + k, none⟩) HG.out (fun q => q)).trans (HC.out k (by omega))
        have hb := HBL.out k
        have H2 := Lib.hid (HK2.out k)
        generalize byt r k = x at d0 hb H2
        have e1 : ((x % 16 : Nat) : Int) = (x : Int) % 16 := by omega
        have e2 : ((x / 16 : Nat) : Int) = (x : Int) / 16 := by omega
        rw [e1, e2] at H2
        have hl4 := low4 hb
        rw [e1] at hl4
        clear e1 e2
        have hk1 : IntKind.i64.wrap ((k : Int) + 1) = (k : Int) + 1 := by rw [IntKind.wrap_i64]; omega
        have hw1 : IntKind.i64.wrap ((x : Int) % 16) = (x : Int) % 16 := by rw [IntKind.wrap_i64]; omega
        have hw2 : IntKind.i64.wrap ((x : Int) / 16) = (x : Int) / 16 := by rw [IntKind.wrap_i64]; omega
        have hkm : (k : Int) < (m : Int) := by omega
        have hk0 : (0 : Int) ≤ (k : Int) := by omega
        have d128 : decide ((k : Int) < 128) = true := decide_eq_true (by omega)
        have HD0 : Hid (∀ V, Kp (fun _ => False) w V → V.cell? ⟨g, o + k, none⟩ = w.cell? ⟨g, o + k, none⟩) := Lib.hid (fun V hV => hV.cell (p := ⟨g, o + k, none⟩) HG.out (fun q => q))
        have RA := Lib.hid ((HR.out.kp0 (kp_alloc wr (.cells #[.int .i64 ((x : Int) % 16), .int .i64 ((x : Int) / 16)] 3))).kp0 (Kp.refl _ _).drew)
        have LI := Lib.hid ((lit_two wr ((x : Int) % 16) ((x : Int) / 16)).kp ((Kp.refl (fun _ => False) _).drew) (fun _ _ q => q))
        have KA := Lib.hid (HKP.out.trans (kp_alloc wr (.cells #[.int .i64 ((x : Int) % 16), .int .i64 ((x : Int) / 16)] 3)).drew)
        have D5 : Hid (∀ V, Kp (fun _ => False) w V → V.cell? ⟨g, o + k, none⟩ = some (.int .u8 (x : Nat))) := Lib.hid (fun V hV => (HD0.out V hV).trans ((HD0.out wr HKP.out).symm.trans d0))
        go_wp2_with fail
        have RA2 := Lib.hid (HR.out.kp0 ((Kp.refl (fun _ => False) wr).drew.alloc (.cells #[.int .i64 ((x : Int) % 16), .int .i64 ((x : Int) / 16)] 3)))
        have LI2 := Lib.hid (lit_two wr.drew ((x : Int) % 16) ((x : Int) / 16))
        have KA2 := Lib.hid (HKP.out.trans ((Kp.refl (fun _ => False) wr).drew.alloc (.cells #[.int .i64 ((x : Int) % 16), .int .i64 ((x : Int) / 16)] 3)))
        go_region_law (first | (refine step_appM (w0 := w) _ rfl (.tmp 21) (.tmp 34) 51 rfl 3 i0 _ 8 Tryz.underlying51 hi0 hz0 hz1 hz2 (by decide) (by decide) (by decide) int_1c (.slice av (2 * k) cv) (lenK r (2 * k)) (by simp [Act.eval]) (by first | exact RA.out | exact RA2.out) (.slice (some ⟨wr.heap.size, 0, none⟩) 2 2) 2 [((x : Int) % 16), ((x : Int) / 16)] (by simp [Act.eval]) (by first | exact LI.out | exact LI2.out) rfl (by first | exact KA.out | exact KA2.out) (2 * k + 2) (by rw [HKL.out]) (by omega) ?_; intro a5 c5 w5 g1 g2 g3; have G1 := Lib.hid g1; have G2 := Lib.hid g2; clear g1 g2 g3))
        all_goals (go_wp2_with fail; exact ⟨⟨k + 1, a5, c5, by omega, by go_num, rfl, by rw [show 2 * (k + 1) = 2 * k + 2 by omega, H2.out]; exact G1.out, G2.out⟩, by simp [intOf]; omega⟩)
      · obtain rfl : k = 128 := by omega
        obtain ⟨wo, rfl⟩ : ∃ wo : World, wo = wr := ⟨_, rfl⟩
        go_wp2_with fail
        refine (CU.out wo HKP.out).mono ?_
        rintro e w2 ⟨a9, c9, rfl, q1, q2⟩
        rw [HDD.out, HNU.out, HDL.out]
        rw [HDD.out] at q1
        have K2 := Lib.hid (HKP.out.trans q2)
        have HR2 := Lib.hid (HR.out.kp0 q2)
        have Q1 := Lib.hid q1
        obtain ⟨mm, hmm⟩ : ∃ mm, mm = Bk.numU r 128 := ⟨_, rfl⟩
        have HMM := Lib.hid hmm
        rw [← hmm]
        obtain ⟨x, hx⟩ : ∃ x, x = m - 130 := ⟨_, rfl⟩
        have HX : Hid (x = (r.drop 130).length) := Lib.hid (by rw [hx, HDL.out])
        have HXM : Hid (m = x + 130) := Lib.hid (by omega)
        have hxb : x ≤ 2000 := by omega
        rw [← hx]
        clear q1 q2 hmm hx CU
        by_cases hle : mm ≤ x
        · have b1 : decide ((x : Int) < (mm : Int)) = false := decide_eq_false (by omega)
          obtain ⟨hu1, hu2⟩ := upto_u w2 (r.drop 130) a9 c9 Q1.out mm (by rw [← HX.out]; exact hle)
          obtain ⟨a10, c10, hf1, _⟩ := from_u w2 (r.drop 130) a9 c9 Q1.out mm (by rw [← HX.out]; exact hle)
          rw [← HX.out] at hu1 hf1
          have htl : ((r.drop 130).take mm).length = mm := by rw [List.length_take, ← HX.out]; omega
          have DE := decode_d w2 (Bk.lenU r) av cv (by
            have q := HR2.out
            obtain ⟨_, _, e9, o9, _⟩ := q
            rw [show 2 * 128 = 256 from rfl, lenK_all] at o9
            have hll : (Bk.lenU r).length = 256 := by simp [Bk.lenU]
            unfold Nm
            rw [hll]
            rw [hll] at o9
            exact o9.sl) (by simp [Bk.lenU]) ((r.drop 130).take mm) a9 c9 hu2 (by rw [htl]; omega) (n : Nat) (by omega)
          rw [htl, show (Bk.lenU r).length = 256 by simp [Bk.lenU]] at DE
          have DE := Lib.hid DE
          clear hu2 htl
          go_wp2_with fail
          refine DE.out.mono ?_
          rintro e w3 (⟨os, hy, ⟨v, rfl, a11, c11, rfl, o11, l11⟩, k3⟩ | ⟨hno, rfl, k3⟩)
          · have HY := Lib.hid hy
            have O11 : Hid (RowM 5 u8c w2.heap.size w3 (.slice a11 (ob os).length c11) (ob os)) := Lib.hid ⟨a11, c11, rfl, o11, l11⟩
            have K3 := Lib.hid k3
            clear hy o11 l11 k3 DE
            go_wp2_with fail
            go_quiet (fail)
            go_wp2_with fail
            go_ret3
            have KN : Kp (fun _ => False) w3 (w3.drewN nq) := ⟨rfl, rfl, rfl, Nat.le_refl _, fun _ _ _ => rfl⟩
            exact .inl ⟨os, a11, c11, a10, c10, ⟨by rw [← HM.out]; omega, by rw [← HM.out, ← HMM.out, HXM.out]; omega, by rw [← HMM.out]; exact HY.out⟩, by rw [← HMM.out, ← HM.out, HXM.out]; simp, (O11.out.kp0 KN).low K2.out.size, (K2.out.trans K3.out).trans KN⟩
          · have HNO := Lib.hid hno
            have K3 := Lib.hid k3
            clear hno k3 DE
            go_wp2_with fail
            go_quiet (fail)
            go_wp2_with fail
            go_ret3
            have KN : Kp (fun _ => False) w3 (w3.drewN nq) := ⟨rfl, rfl, rfl, Nat.le_refl _, fun _ _ _ => rfl⟩
            exact .inr ⟨fun s q => HNO.out s (by have := q.2.2; rw [← HMM.out] at this; exact this), _, _, rfl, (K2.out.trans K3.out).trans KN⟩
        · have b1 : decide ((x : Int) < (mm : Int)) = true := decide_eq_true (by omega)
          go_wp2_with fail
          go_ret3
          exact .inr ⟨fun s q => by have := q.2.1; rw [← HMM.out, ← HM.out, HXM.out] at this; omega, _, _, rfl, K2.out⟩
  · obtain ⟨m, hm⟩ : ∃ m, m = r.length := ⟨_, rfl⟩
    have HM := Lib.hid hm
    rw [← hm] at h130 ⊢
    have b0 : decide ((m : Int) < 130) = true := decide_eq_true (by omega)
    clear h hm
    go_enter Tryz.func30, Tryz.ntmps30
    go_wp2_with fail
    go_ret3
    exact .inr ⟨fun s q => h130 (by rw [HM.out]; exact q.1), _, _, rfl, Kp.refl _ _⟩
end Go.Proofs.YtphakpikalmghaaGreat.Un
namespace Go.Proofs.YtphakpikalmghaaGreat.Un
open Go Go.RowKit Go.ChangeMaps Go.MapKept Go.Mg Go.Hf Go.Mt Go.Proofs.YtphakpikalmghaaGreat.Hu Go.Proofs.YtphakpikalmghaaGreat.He Go.Proofs.YtphakpikalmghaaGreat.Rd Go.Proofs.YtphakpikalmghaaGreat.Bw Go.Proofs.YtphakpikalmghaaGreat.Ma

theorem sl_ne {w : World} {a : Option Addr} {c gl N : Nat} {l : List UInt8} {f : Nat → Nat} (h : SlR w 1 (.slice a l.length c) l.length (l.map u8c)) (h0 : 0 < l.length) (hI : IAt 3 w gl N f) {b : Nat} (hb : (Value.slice a l.length c).ownBlock = some b) : b ≠ gl := by
  rintro rfl
  obtain ⟨g, o, rfl, hg, _, hc⟩ := byts_at h h0
  have := own_b hb
  subst this
  have d := hc 0 h0
  rw [Nat.add_zero, cell_of hI, List.getElem?_toArray, List.getElem?_map] at d
  cases hq : (List.range N)[o]? with
  | none => rw [hq] at d; cases d
  | some i => rw [hq] at d; simp at d
theorem Rdr.kpI {w w' : World} {x gl N : Nat} {l : List UInt8} {bad : Bool} {f : Nat → Nat} (h : Rdr w x l bad) (hI : IAt 3 w gl N f) (hk : Kp (· = gl) w w') (hx : x ≠ gl) : Rdr w' x l bad := by
  obtain ⟨a, c, h1, h2, h3⟩ := h.ex
  exact ⟨a, c, hk.at_ h1 hx, sl_kpN h2 hk (fun h0 b hb => sl_ne h2 h0 hI hb), h3⟩
def lfU (l : List UInt8) (k i : Nat) : Nat := if i < 2 * k then byt l (i / 2) / 16 ^ (i % 2) % 16 else 0
theorem lfU_two (l : List UInt8) (k : Nat) : Go.Fse.up (Go.Fse.up (lfU l k) (2 * k) (byt l k % 16)) (2 * k + 1) (byt l k / 16) = lfU l (k + 1) := by
  funext i
  have hb := byt_lt l k
  unfold Go.Fse.up lfU
  by_cases h1 : i = 2 * k + 1
  · subst h1
    rw [if_pos rfl, if_pos (by omega), show (2 * k + 1) / 2 = k by omega, show (2 * k + 1) % 2 = 1 by omega, Nat.pow_one]
    omega
  · rw [if_neg h1]
    by_cases h2 : i = 2 * k
    · subst h2
      rw [if_pos rfl, if_pos (by omega), show 2 * k / 2 = k by omega, show 2 * k % 2 = 0 by omega, Nat.pow_zero, Nat.div_one]
    · rw [if_neg h2]
      by_cases h3 : i < 2 * k
      · rw [if_pos h3, if_pos (by omega)]
      · rw [if_neg h3, if_neg (by omega)]
theorem lens_nmU {w : World} {gl : Nat} {l : List UInt8} (hI : IAt 3 w gl 256 (lfU l 128)) : Nm w (some ⟨gl, 0, none⟩) 256 (Bk.lenU l) := by
  have h := hI.rd (by omega)
  unfold IntsR at h
  have e : (Bk.lenU l).map (Value.int .i64) = (List.range 256).map fun i => Value.int .i64 (lfU l 128 i : Nat) := by
    unfold Bk.lenU
    rw [List.map_map]
    refine List.map_congr_left fun i hi => ?_
    have := List.mem_range.1 hi
    simp only [Function.comp, lfU]
    rw [if_pos (by omega)]
  have hl : (Bk.lenU l).length = 256 := by simp [Bk.lenU]
  unfold Nm
  rw [hl, e]
  exact h
def CdOk (l : List UInt8) (bad : Bool) (n : Nat) (o l' : List UInt8) : Prop :=
  bad = false ∧ 130 ≤ l.length ∧ 130 + Bk.numU l 128 ≤ l.length ∧ l' = l.drop (130 + Bk.numU l 128) ∧ ∃ s, DecYes (Bk.lenU l) ((l.drop 130).take (Bk.numU l 128)) (n : Nat) s ∧ o = ob s
end Go.Proofs.YtphakpikalmghaaGreat.Un
namespace Go.Proofs.YtphakpikalmghaaGreat.Un
open Go Go.RowKit Go.ChangeMaps Go.MapKept Go.Mg Go.Hf Go.Mt Go.Proofs.YtphakpikalmghaaGreat.Hu Go.Proofs.YtphakpikalmghaaGreat.He Go.Proofs.YtphakpikalmghaaGreat.Rd Go.Proofs.YtphakpikalmghaaGreat.Bw Go.Proofs.YtphakpikalmghaaGreat.Ma

theorem own_plain' (g o n c : Nat) : (Value.slice (some ⟨g, o, none⟩) n c).ownBlock = some g := rfl
def AnyPost (w : World) (e : Ending) (w' : World) : Prop := ∃ v b, e = .returned (.tuple #[v, .bool b]) ∧ Kp (fun _ => False) w w'
theorem dec_any (w : World) (xs : List Int) (a : Option Addr) (c : Nat) (h : Nm w a c xs) (hl : xs.length = 256) (n : Nat) (hn : n ≤ 500) :
    Calls Tryz.prog 93 #[.slice a 256 c, .slice none 0 0, .int .i64 (n : Nat)] w (AnyPost w) := by
  have d := decode_p w xs a c h (by omega) [] none 0 (SlR.nil _ _) (by simp) (n : Nat) (by omega)
  rw [hl] at d
  refine Calls.mono d ?_
  rintro e w' (⟨o, _, ⟨v, rfl, _⟩, k⟩ | ⟨_, rfl, k⟩)
  · exact ⟨_, _, rfl, k⟩
  · exact ⟨_, _, rfl, k⟩
theorem lens_nm0 {w : World} {gl : Nat} (hI : IAt 3 w gl 256 (fun _ => 0)) : Nm w (some ⟨gl, 0, none⟩) 256 (List.replicate 256 0) := by
  have h := hI.rd (by omega)
  unfold IntsR at h
  unfold Nm
  rw [List.length_replicate, List.map_replicate]
  have e : (List.range 256).map (fun _ => Value.int .i64 ((0 : Nat) : Int)) = List.replicate 256 (Value.int .i64 0) := by
    rw [List.map_const', List.length_range]; rfl
  rw [← e]
  exact h
theorem lenU_len (l : List UInt8) : (Bk.lenU l).length = 256 := by simp [Bk.lenU]
set_option maxRecDepth 100000 in
set_option maxHeartbeats 1000000 in
theorem coded_p {w : World} {x : Nat} {l : List UInt8} {bad : Bool} (h : Rdr w x l bad) (hl : l.length ≤ 10000) (n : Nat) (hn : n ≤ 500) :
    Calls Tryz.prog 61 #[.pointer (some ⟨x, 0, none⟩), .int .i64 (n : Nat)] w (RwPost w x (CdOk l bad n)) := by
  obtain ⟨W, hmk0, hI, hkW, hsz⟩ := made_i w 256 (by omega)
  have hmk : (Instr.makeSlice 51 (.int .i64 256) (.int .i64 256)).run Tryz.prog w = .ok (.slice (some ⟨w.heap.size, 0, none⟩) 256 256) W := hmk0
  have TK := Lib.hid (take_p (h.kp0 hkW) 128 (by omega))
  have HXL := Lib.hid h.lt
  have HI := Lib.hid hI
  have HKW := Lib.hid hkW
  clear h hmk0 hI hkW hsz
  go_enter Tryz.func61, Tryz.ntmps61
  go_wp2_with fail
  refine TK.out.mono ?_
  rintro e w2 (⟨h1, ⟨a, c, rfl, q1, _⟩, q3, q4⟩ | ⟨h1, rfl, q3, q4⟩)
  · have H1 := Lib.hid h1
    have hlen : (l.take 128).length = 128 := by rw [List.length_take]; omega
    have HI2 := Lib.hid (HI.out.kp q4 (by have := HXL.out; omega))
    obtain ⟨g, o, rfl, hg, _, hc⟩ := byts_at q1 (by omega)
    have hgl : g ≠ w.heap.size := sl_ne q1 (by omega) HI2.out (own_plain' g o (l.take 128).length c)
    have HC : Hid (∀ V, Kp (· = w.heap.size) w2 V → ∀ k, k < 128 → V.cell? ⟨g, o + k, none⟩ = some (.int .u8 (byt l k : Nat))) := Lib.hid (fun V hV k hk => by
      rw [hV.cell (p := ⟨g, o + k, none⟩) hg hgl, hc k (by rw [hlen]; exact hk), byt_take hk])
    have Q3 := Lib.hid q3
    have Q4 := Lib.hid q4
    have HBL := Lib.hid (byt_lt l)
    have HLF := Lib.hid (fun k => lfU_two l k)
    have HL0 : Hid (lfU l 0 = fun _ => 0) := Lib.hid (by funext i; simp [lfU])
    rw [hlen]
    obtain ⟨G, hG⟩ : ∃ G, G = w.heap.size := ⟨_, rfl⟩
    rw [← hG] at HI2 HC ⊢
    have HGE := Lib.hid hG
    clear q1 q3 q4 hc hg hlen h1 TK hgl hG HI hmk
    go_wp2_with fail
    go_loopw [14] (fun i wx => ∃ k : Nat, k ≤ 128 ∧ i = .int .i64 k ∧ IAt 3 wx G 256 (lfU l k) ∧ Kp (· = G) w2 wx) (fun i _ => 128 - (intOf i).toNat)
    case atStart => exact ⟨0, by omega, rfl, by rw [HL0.out]; exact HI2.out, Kp.refl _ _⟩
    case round =>
      obtain ⟨k, hk, rfl, hi, hkp⟩ := hrel
      have HIK := Lib.hid hi
      have HKP := Lib.hid hkp
      clear hi hkp
      by_cases hlt : k < 128
      · have d0 := HC.out wr HKP.out k hlt
        have hb := HBL.out k
        have HL2 := Lib.hid (HLF.out k)
        generalize byt l k = v at d0 hb HL2
        have e1 : ((v % 16 : Nat) : Int) = (v : Int) % 16 := by omega
        have hl4 := low4 hb
        rw [e1] at hl4
        have hw1 : IntKind.i64.wrap ((v : Int) % 16) = (v : Int) % 16 := by rw [IntKind.wrap_i64]; omega
        have hw2 : IntKind.i64.wrap ((v : Int) / 16) = (v : Int) / 16 := by rw [IntKind.wrap_i64]; omega
        have hk1 : IntKind.i64.wrap ((k : Int) + 1) = (k : Int) + 1 := by rw [IntKind.wrap_i64]; omega
        have hk2 : IntKind.i64.wrap (2 * (k : Int)) = 2 * (k : Int) := by rw [IntKind.wrap_i64]; omega
        have hk3 : IntKind.i64.wrap (2 * (k : Int) + 1) = 2 * (k : Int) + 1 := by rw [IntKind.wrap_i64]; omega
        have d128 : decide ((k : Int) < 128) = true := decide_eq_true (by omega)
        have S1 := HIK.out.set (i := 2 * k) (by omega) (v % 16)
        have S2 := S1.set (i := 2 * k + 1) (by omega) (v / 16)
        rw [HL2.out] at S2
        have f1 : wr.frozen? ⟨G, 2 * k, none⟩ = false := HIK.out.free _
        have x1 := HIK.out.cell (i := 2 * k) (by omega)
        have f2 := S1.free (2 * k + 1)
        have x2 := S1.cell (i := 2 * k + 1) (by omega)
        have e2 : ((v / 16 : Nat) : Int) = (v : Int) / 16 := by omega
        have K2 := ((HKP.out.setCell (p := ⟨G, 2 * k, none⟩) (fun _ => rfl) (.int .i64 ((v % 16 : Nat) : Int))).setCell (p := ⟨G, 2 * k + 1, none⟩) (fun _ => rfl) (.int .i64 ((v / 16 : Nat) : Int)))
        rw [e1] at f2 x2
        rw [e1, e2] at S2 K2
        have SS := Lib.hid S2
        have KK := Lib.hid K2
        clear S1 S2 K2 e1 e2
        go_wp2_with fail
        exact ⟨⟨k + 1, by omega, by go_num, SS.out, KK.out⟩, by simp [intOf]; omega⟩
      · obtain rfl : k = 128 := by omega
        obtain ⟨wo, rfl⟩ : ∃ wo : World, wo = wr := ⟨_, rfl⟩
        have HXG : Hid (x ≠ G) := Lib.hid (by have := HXL.out; have := HGE.out; omega)
        have RD := Lib.hid (Q3.out.kpI HI2.out HKP.out HXG.out)
        have HL1 : Hid ((l.drop 128).length ≤ 10000) := Lib.hid (by rw [List.length_drop]; omega)
        have KW : Hid (Kp (· = x) w wo) := Lib.hid (((HKW.out.mono (fun _ _ q => q.elim)).trans Q4.out).trans2 HKP.out (fun i hi e => by have := HGE.out; omega))
        have NM := Lib.hid (lens_nmU HIK.out)
        have HXL2 := Lib.hid (lenU_len l)
        have HNN := Lib.hid hn
        have HLX := HXL
        obtain ⟨l1, hl1⟩ : ∃ l1, l1 = l.drop 128 := ⟨_, rfl⟩
        obtain ⟨xs, hxs⟩ : ∃ xs, xs = Bk.lenU l := ⟨_, rfl⟩
        obtain ⟨b1, hb1⟩ : ∃ b1, b1 = false := ⟨_, rfl⟩
        have FIN : Hid (b1 = false → l1 = l.drop 128 ∧ xs = Bk.lenU l ∧ bad = false ∧ 128 ≤ l.length) := Lib.hid (fun _ => ⟨hl1, hxs, H1.out⟩)
        have NOF : Hid (b1 = true → ∀ o l', ¬ CdOk l bad n o l') := Lib.hid (fun q => by rw [hb1] at q; cases q)
        rw [← hl1] at HL1
        rw [← hl1, ← hb1] at RD
        rw [← hxs] at NM HXL2
        clear hl1 hxs hb1
        have TW := Lib.hid (two_p RD.out (by have := HL1.out; omega))
        go_wp2_with fail
        refine TW.out.mono ?_
        rintro e w3 (⟨h1, rfl, q3, q4⟩ | ⟨h1, rfl, q3, q4⟩)
        · have H1 := Lib.hid h1
          have F := Lib.hid (FIN.out h1.1)
          obtain ⟨mm, hmm⟩ : ∃ mm, mm = Bk.numU l1 0 := ⟨_, rfl⟩
          have HMM := Lib.hid hmm
          rw [← hmm]
          have TK2 := Lib.hid (take_p q3 mm (by have := HL1.out; rw [List.length_drop]; omega))
          have NM3 := Lib.hid (SlR.kp NM.out q4 (fun b hb q => HXG.out (by have := own_b hb; omega)))
          have K3 := Lib.hid (KW.out.trans q4)
          clear h1 q3 q4 TW hmm NM RD
          go_wp2_with fail
          refine TK2.out.mono ?_
          rintro e w4 (⟨h2, ⟨a4, c4, rfl, q1, _⟩, q3, q4⟩ | ⟨h2, rfl, q3, q4⟩)
          · have H2 := Lib.hid h2
            have NM4 := Lib.hid (SlR.kp NM3.out q4 (fun b hb q => HXG.out (by have := own_b hb; omega)))
            have K4 := Lib.hid (K3.out.trans q4)
            have DE := decode_p w4 xs (some ⟨G, 0, none⟩) 256 NM4.out (by have := HXL2.out; omega) ((l1.drop 2).take mm) a4 c4 q1 (by have := HL1.out; rw [List.length_take, List.length_drop]; omega) (n : Nat) (by have := HNN.out; omega)
            rw [HXL2.out] at DE
            obtain ⟨z, hz⟩ : ∃ z, z = ((l1.drop 2).take mm).length := ⟨_, rfl⟩
            rw [← hz] at DE ⊢
            clear hz
            have DE := Lib.hid DE
            have RD4 := Lib.hid q3
            clear h2 q1 q3 q4 TK2 NM3 NM4
            go_wp2_with fail
            refine DE.out.mono ?_
            rintro e w5 (⟨os, hy, ⟨v, rfl, a11, c11, rfl, o11, l11⟩, k5⟩ | ⟨hno, rfl, k5⟩)
            · have HY := Lib.hid hy
              have O11 := Lib.hid o11.sl
              have L11 := Lib.hid l11
              have K5 := Lib.hid k5
              obtain ⟨_, _, _, c5, _, f5⟩ := (RD4.out.kp0 k5).cells
              have QB := Lib.hid ((RD4.out.kp0 k5).bad_put false)
              clear hy o11 l11 k5 DE
              go_wp2_with fail
              go_ret
              refine .inl ⟨ob os, _, a11, c11, ⟨F.out.2.2.1, ?_, ?_, rfl, os, ?_, rfl⟩, rfl, O11.out.kp QB.out.2 (fun b hb q => ?_), fun b hb => ?_, ?_, (K4.out.trans2 K5.out (fun _ _ q => q.elim)).trans QB.out.2⟩
              · have h := H1.out.2
                rw [F.out.1, List.length_drop] at h
                have := F.out.2.2.2
                omega
              · have h := H2.out.2
                rw [HMM.out, F.out.1, List.length_drop, List.length_drop] at h
                have e : Bk.numU (l.drop 128) 0 = Bk.numU l 128 := by unfold Bk.numU; rw [Bk.byt_drop, Bk.byt_drop]
                rw [e] at h
                have h' := H1.out.2
                rw [F.out.1, List.length_drop] at h'
                have := F.out.2.2.2
                omega
              · have e : Bk.numU (l.drop 128) 0 = Bk.numU l 128 := by unfold Bk.numU; rw [Bk.byt_drop, Bk.byt_drop]
                have h := HY.out
                rw [HMM.out, F.out.1, F.out.2.1, e, List.drop_drop] at h
                exact h
              · have h1 := L11.out b hb
                have h2 := HLX.out
                have h3 := K4.out.size
                omega
              · have h1 := L11.out b hb
                have h3 := K4.out.size
                omega
              · have e : Bk.numU (l.drop 128) 0 = Bk.numU l 128 := by unfold Bk.numU; rw [Bk.byt_drop, Bk.byt_drop]
                have h := QB.out.1
                rw [HMM.out, F.out.1, e, List.drop_drop, List.drop_drop] at h
                rw [show 130 + Bk.numU l 128 = 128 + (2 + Bk.numU l 128) by omega]
                exact h
            · have HNO := Lib.hid hno
              have K5 := Lib.hid k5
              obtain ⟨_, _, _, c5, _, f5⟩ := (RD4.out.kp0 k5).cells
              have QB := Lib.hid ((RD4.out.kp0 k5).bad_put true)
              clear hno k5 DE
              go_wp2_with fail
              go_ret
              refine .inr ⟨fun o l' q => ?_, ⟨_, rfl⟩, ⟨_, QB.out.1⟩, (K4.out.trans2 K5.out (fun _ _ q => q.elim)).trans QB.out.2⟩
              obtain ⟨_, _, _, _, s, hs, _⟩ := q
              have e : Bk.numU (l.drop 128) 0 = Bk.numU l 128 := by unfold Bk.numU; rw [Bk.byt_drop, Bk.byt_drop]
              have h := HNO.out s
              rw [HMM.out, F.out.1, F.out.2.1, e, List.drop_drop] at h
              exact h hs
          · have NM4 := Lib.hid (SlR.kp NM3.out q4 (fun b hb q => HXG.out (by have := own_b hb; omega)))
            have K4 := Lib.hid (K3.out.trans q4)
            have RD4 := Lib.hid q3
            have NO : Hid (∀ o l', ¬ CdOk l bad n o l') := Lib.hid (fun o l' q => by
              obtain ⟨_, _, q, _⟩ := q
              refine h2 ⟨rfl, ?_⟩
              rw [HMM.out, F.out.1, List.length_drop, List.length_drop]
              have e : Bk.numU (l.drop 128) 0 = Bk.numU l 128 := by unfold Bk.numU; rw [Bk.byt_drop, Bk.byt_drop]
              rw [e]
              omega)
            clear h2 q3 q4 TK2 NM3
            have DA := Lib.hid (dec_any w4 xs (some ⟨G, 0, none⟩) 256 NM4.out HXL2.out n HNN.out)
            clear NM4
            go_wp2_with fail
            refine DA.out.mono ?_
            rintro e w5 ⟨v5, b5, rfl, k5⟩
            have K5 := Lib.hid k5
            obtain ⟨_, _, _, c5, _, f5⟩ := (RD4.out.kp0 k5).cells
            have QB := Lib.hid ((RD4.out.kp0 k5).bad_put true)
            clear k5 DA
            go_wp2_with fail
            go_ret
            exact .inr ⟨NO.out, ⟨_, rfl⟩, ⟨_, QB.out.1⟩, (K4.out.trans2 K5.out (fun _ _ q => q.elim)).trans QB.out.2⟩
        · have NO : Hid (∀ o l', ¬ CdOk l bad n o l') := Lib.hid (fun o l' q => by
            obtain ⟨q0, q1, _⟩ := q
            cases hb1 : b1 with
            | true => exact NOF.out hb1 o l' ⟨q0, q1, by assumption⟩
            | false =>
              have F := FIN.out hb1
              refine h1 ⟨hb1, ?_⟩
              rw [F.1, List.length_drop]
              omega)
          have TK2 := take_p q3 0 (by have := HL1.out; omega)
          rw [show ((0 : Nat) : Int) = 0 from rfl] at TK2
          have TK2 := Lib.hid TK2
          have NM3 := Lib.hid (SlR.kp NM.out q4 (fun b hb q => HXG.out (by have := own_b hb; omega)))
          have K3 := Lib.hid (KW.out.trans q4)
          clear h1 q3 q4 TW NM RD
          go_wp2_with fail
          refine TK2.out.mono ?_
          rintro e w4 (⟨h2, _⟩ | ⟨_, rfl, q3, q4⟩)
          · exact absurd h2.1 (by decide)
          · have NM4 := Lib.hid (SlR.kp NM3.out q4 (fun b hb q => HXG.out (by have := own_b hb; omega)))
            have K4 := Lib.hid (K3.out.trans q4)
            have RD4 := Lib.hid q3
            clear q3 q4 TK2 NM3
            have DA := Lib.hid (dec_any w4 xs (some ⟨G, 0, none⟩) 256 NM4.out HXL2.out n HNN.out)
            clear NM4
            go_wp2_with fail
            refine DA.out.mono ?_
            rintro e w5 ⟨v5, b5, rfl, k5⟩
            have K5 := Lib.hid k5
            obtain ⟨_, _, _, c5, _, f5⟩ := (RD4.out.kp0 k5).cells
            have QB := Lib.hid ((RD4.out.kp0 k5).bad_put true)
            clear k5 DA
            go_wp2_with fail
            go_ret
            exact .inr ⟨NO.out, ⟨_, rfl⟩, ⟨_, QB.out.1⟩, (K4.out.trans2 K5.out (fun _ _ q => q.elim)).trans QB.out.2⟩
  · obtain ⟨G, hG⟩ : ∃ G, G = w.heap.size := ⟨_, rfl⟩
    have HGE := Lib.hid hG
    have HXG : Hid (x ≠ G) := Lib.hid (by have := HXL.out; omega)
    have NM := Lib.hid (lens_nm0 (HI.out.kp q4 (by have := HXL.out; omega)))
    rw [← hG] at NM ⊢
    have RD := Lib.hid q3
    have KW : Hid (Kp (· = x) w w2) := Lib.hid ((HKW.out.mono (fun _ _ q => q.elim)).trans q4)
    have HNN := Lib.hid hn
    have HLX := HXL
    have HL1 : Hid (l.length ≤ 10000) := Lib.hid (by omega)
    obtain ⟨l1, hl1⟩ : ∃ l1, l1 = l := ⟨_, rfl⟩
    obtain ⟨xs, hxs⟩ : ∃ xs, xs = List.replicate 256 (0 : Int) := ⟨_, rfl⟩
    obtain ⟨b1, hb1⟩ : ∃ b1, b1 = true := ⟨_, rfl⟩
    have FIN : Hid (b1 = false → l1 = l.drop 128 ∧ xs = Bk.lenU l ∧ bad = false ∧ 128 ≤ l.length) := Lib.hid (fun q => by rw [hb1] at q; cases q)
    have NOF : Hid (b1 = true → ∀ o l', ¬ CdOk l bad n o l') := Lib.hid (fun _ o l' q => h1 ⟨q.1, by have := q.2.1; omega⟩)
    have HXL2 : Hid (xs.length = 256) := Lib.hid (by rw [hxs]; simp)
    rw [← hl1] at HL1
    rw [← hl1, ← hb1] at RD
    rw [← hxs] at NM
    clear hl1 hxs hb1 q3 q4 h1 HI hmk TK hG hn
    go_wp2_with fail
    go_loopw [14] (fun i wx => i = .int .i64 0 ∧ Kp (fun _ => False) w2 wx ∧ wx = w2) (fun _ _ => 0)
    case atStart => exact ⟨rfl, Kp.refl _ _, rfl⟩
    case round =>
      obtain ⟨rfl, _, rfl⟩ := hrel
      obtain ⟨wo, rfl⟩ : ∃ wo : World, wo = wr := ⟨_, rfl⟩
      have TW := Lib.hid (two_p RD.out (by have := HL1.out; omega))
      go_wp2_with fail
      refine TW.out.mono ?_
      rintro e w3 (⟨h1, rfl, q3, q4⟩ | ⟨h1, rfl, q3, q4⟩)
      · have H1 := Lib.hid h1
        have F := Lib.hid (FIN.out h1.1)
        obtain ⟨mm, hmm⟩ : ∃ mm, mm = Bk.numU l1 0 := ⟨_, rfl⟩
        have HMM := Lib.hid hmm
        rw [← hmm]
        have TK2 := Lib.hid (take_p q3 mm (by have := HL1.out; rw [List.length_drop]; omega))
        have NM3 := Lib.hid (SlR.kp NM.out q4 (fun b hb q => HXG.out (by have := own_b hb; omega)))
        have K3 := Lib.hid (KW.out.trans q4)
        clear h1 q3 q4 TW hmm NM RD
        go_wp2_with fail
        refine TK2.out.mono ?_
        rintro e w4 (⟨h2, ⟨a4, c4, rfl, q1, _⟩, q3, q4⟩ | ⟨h2, rfl, q3, q4⟩)
        · have H2 := Lib.hid h2
          have NM4 := Lib.hid (SlR.kp NM3.out q4 (fun b hb q => HXG.out (by have := own_b hb; omega)))
          have K4 := Lib.hid (K3.out.trans q4)
          have DE := decode_p w4 xs (some ⟨G, 0, none⟩) 256 NM4.out (by have := HXL2.out; omega) ((l1.drop 2).take mm) a4 c4 q1 (by have := HL1.out; rw [List.length_take, List.length_drop]; omega) (n : Nat) (by have := HNN.out; omega)
          rw [HXL2.out] at DE
          obtain ⟨z, hz⟩ : ∃ z, z = ((l1.drop 2).take mm).length := ⟨_, rfl⟩
          rw [← hz] at DE ⊢
          clear hz
          have DE := Lib.hid DE
          have RD4 := Lib.hid q3
          clear h2 q1 q3 q4 TK2 NM3 NM4
          go_wp2_with fail
          refine DE.out.mono ?_
          rintro e w5 (⟨os, hy, ⟨v, rfl, a11, c11, rfl, o11, l11⟩, k5⟩ | ⟨hno, rfl, k5⟩)
          · have HY := Lib.hid hy
            have O11 := Lib.hid o11.sl
            have L11 := Lib.hid l11
            have K5 := Lib.hid k5
            obtain ⟨_, _, _, c5, _, f5⟩ := (RD4.out.kp0 k5).cells
            have QB := Lib.hid ((RD4.out.kp0 k5).bad_put false)
            clear hy o11 l11 k5 DE
            go_wp2_with fail
            go_ret
            refine .inl ⟨ob os, _, a11, c11, ⟨F.out.2.2.1, ?_, ?_, rfl, os, ?_, rfl⟩, rfl, O11.out.kp QB.out.2 (fun b hb q => ?_), fun b hb => ?_, ?_, (K4.out.trans2 K5.out (fun _ _ q => q.elim)).trans QB.out.2⟩
            · have h := H1.out.2
              rw [F.out.1, List.length_drop] at h
              have := F.out.2.2.2
              omega
            · have h := H2.out.2
              rw [HMM.out, F.out.1, List.length_drop, List.length_drop] at h
              have e : Bk.numU (l.drop 128) 0 = Bk.numU l 128 := by unfold Bk.numU; rw [Bk.byt_drop, Bk.byt_drop]
              rw [e] at h
              have h' := H1.out.2
              rw [F.out.1, List.length_drop] at h'
              have := F.out.2.2.2
              omega
            · have e : Bk.numU (l.drop 128) 0 = Bk.numU l 128 := by unfold Bk.numU; rw [Bk.byt_drop, Bk.byt_drop]
              have h := HY.out
              rw [HMM.out, F.out.1, F.out.2.1, e, List.drop_drop] at h
              exact h
            · have h1 := L11.out b hb
              have h2 := HLX.out
              have h3 := K4.out.size
              omega
            · have h1 := L11.out b hb
              have h3 := K4.out.size
              omega
            · have e : Bk.numU (l.drop 128) 0 = Bk.numU l 128 := by unfold Bk.numU; rw [Bk.byt_drop, Bk.byt_drop]
              have h := QB.out.1
              rw [HMM.out, F.out.1, e, List.drop_drop, List.drop_drop] at h
              rw [show 130 + Bk.numU l 128 = 128 + (2 + Bk.numU l 128) by omega]
              exact h
          · have HNO := Lib.hid hno
            have K5 := Lib.hid k5
            obtain ⟨_, _, _, c5, _, f5⟩ := (RD4.out.kp0 k5).cells
            have QB := Lib.hid ((RD4.out.kp0 k5).bad_put true)
            clear hno k5 DE
            go_wp2_with fail
            go_ret
            refine .inr ⟨fun o l' q => ?_, ⟨_, rfl⟩, ⟨_, QB.out.1⟩, (K4.out.trans2 K5.out (fun _ _ q => q.elim)).trans QB.out.2⟩
            obtain ⟨_, _, _, _, s, hs, _⟩ := q
            have e : Bk.numU (l.drop 128) 0 = Bk.numU l 128 := by unfold Bk.numU; rw [Bk.byt_drop, Bk.byt_drop]
            have h := HNO.out s
            rw [HMM.out, F.out.1, F.out.2.1, e, List.drop_drop] at h
            exact h hs
        · have NM4 := Lib.hid (SlR.kp NM3.out q4 (fun b hb q => HXG.out (by have := own_b hb; omega)))
          have K4 := Lib.hid (K3.out.trans q4)
          have RD4 := Lib.hid q3
          have NO : Hid (∀ o l', ¬ CdOk l bad n o l') := Lib.hid (fun o l' q => by
            obtain ⟨_, _, q, _⟩ := q
            refine h2 ⟨rfl, ?_⟩
            rw [HMM.out, F.out.1, List.length_drop, List.length_drop]
            have e : Bk.numU (l.drop 128) 0 = Bk.numU l 128 := by unfold Bk.numU; rw [Bk.byt_drop, Bk.byt_drop]
            rw [e]
            omega)
          clear h2 q3 q4 TK2 NM3
          have DA := Lib.hid (dec_any w4 xs (some ⟨G, 0, none⟩) 256 NM4.out HXL2.out n HNN.out)
          clear NM4
          go_wp2_with fail
          refine DA.out.mono ?_
          rintro e w5 ⟨v5, b5, rfl, k5⟩
          have K5 := Lib.hid k5
          obtain ⟨_, _, _, c5, _, f5⟩ := (RD4.out.kp0 k5).cells
          have QB := Lib.hid ((RD4.out.kp0 k5).bad_put true)
          clear k5 DA
          go_wp2_with fail
          go_ret
          exact .inr ⟨NO.out, ⟨_, rfl⟩, ⟨_, QB.out.1⟩, (K4.out.trans2 K5.out (fun _ _ q => q.elim)).trans QB.out.2⟩
      · have NO : Hid (∀ o l', ¬ CdOk l bad n o l') := Lib.hid (fun o l' q => by
          obtain ⟨q0, q1, _⟩ := q
          cases hb1 : b1 with
          | true => exact NOF.out hb1 o l' ⟨q0, q1, by assumption⟩
          | false =>
            have F := FIN.out hb1
            refine h1 ⟨hb1, ?_⟩
            rw [F.1, List.length_drop]
            omega)
        have TK2 := take_p q3 0 (by have := HL1.out; omega)
        rw [show ((0 : Nat) : Int) = 0 from rfl] at TK2
        have TK2 := Lib.hid TK2
        have NM3 := Lib.hid (SlR.kp NM.out q4 (fun b hb q => HXG.out (by have := own_b hb; omega)))
        have K3 := Lib.hid (KW.out.trans q4)
        clear h1 q3 q4 TW NM RD
        go_wp2_with fail
        refine TK2.out.mono ?_
        rintro e w4 (⟨h2, _⟩ | ⟨_, rfl, q3, q4⟩)
        · exact absurd h2.1 (by decide)
        · have NM4 := Lib.hid (SlR.kp NM3.out q4 (fun b hb q => HXG.out (by have := own_b hb; omega)))
          have K4 := Lib.hid (K3.out.trans q4)
          have RD4 := Lib.hid q3
          clear q3 q4 TK2 NM3
          have DA := Lib.hid (dec_any w4 xs (some ⟨G, 0, none⟩) 256 NM4.out HXL2.out n HNN.out)
          clear NM4
          go_wp2_with fail
          refine DA.out.mono ?_
          rintro e w5 ⟨v5, b5, rfl, k5⟩
          have K5 := Lib.hid k5
          obtain ⟨_, _, _, c5, _, f5⟩ := (RD4.out.kp0 k5).cells
          have QB := Lib.hid ((RD4.out.kp0 k5).bad_put true)
          clear k5 DA
          go_wp2_with fail
          go_ret
          exact .inr ⟨NO.out, ⟨_, rfl⟩, ⟨_, QB.out.1⟩, (K4.out.trans2 K5.out (fun _ _ q => q.elim)).trans QB.out.2⟩
end Go.Proofs.YtphakpikalmghaaGreat.Un
namespace Go.Proofs.YtphakpikalmghaaGreat.Un
open Go Go.RowKit Go.ChangeMaps Go.MapKept Go.Mg Go.Hf Go.Mt Go.Proofs.YtphakpikalmghaaGreat.Hu Go.Proofs.YtphakpikalmghaaGreat.He Go.Proofs.YtphakpikalmghaaGreat.Rd Go.Proofs.YtphakpikalmghaaGreat.Bw Go.Proofs.YtphakpikalmghaaGreat.Ma

def UnPost (w : World) (b : List UInt8) (e : Ending) (w' : World) : Prop :=
  (∃ o m a c, Bk.UnYes b o m ∧ e = .returned (.tuple #[.slice a o.length c, .int .i64 (m : Nat), .bool true]) ∧ RowM 5 u8c w.heap.size w' (.slice a o.length c) o ∧ Kp (fun _ => False) w w') ∨
  ((∀ o m, ¬ Bk.UnYes b o m) ∧ e = .returned (.tuple #[.slice none 0 0, .int .i64 0, .bool false]) ∧ Kp (fun _ => False) w w')
theorem nil_row (w : World) : RowM 5 u8c w.heap.size (w.alloc (.cells #[] 5)) (.slice (some ⟨w.heap.size, 0, none⟩) 0 0) [] :=
  ⟨_, _, rfl, own_none w 5 1, fun k hk => by have := own_b hk; omega⟩
theorem numU_drop (b : List UInt8) : Bk.numU (b.drop 1) 0 = Bk.numU b 1 := by unfold Bk.numU; rw [Bk.byt_drop, Bk.byt_drop]
theorem numU_drop3 (b : List UInt8) : Bk.numU (b.drop 3) 128 = Bk.numU b 131 := by unfold Bk.numU; rw [Bk.byt_drop, Bk.byt_drop]
set_option maxRecDepth 100000 in
set_option maxHeartbeats 1000000 in
theorem unrow_d (w : World) (b : List UInt8) (a : Option Addr) (c : Nat) (h : SlR w 1 (.slice a b.length c) b.length (b.map u8c)) (hl : b.length ≤ 2000) :
    Calls Tryz.prog 14 #[.slice a b.length c] w (UnPost w b) := by
  obtain ⟨j0, hj0, hy0, hy1, hy2⟩ := info_parts infoU8c
  by_cases h3 : 3 ≤ b.length
  · obtain ⟨a1, c1, hf1, hs1⟩ := from_u w b a c h 1 (by omega)
    rw [show ((1 : Nat) : Int) = 1 from rfl] at hf1
    have e1 : (b.drop 1).length = b.length - 1 := List.length_drop
    have CU := cut_d w (b.drop 1) a1 c1 hs1 (by rw [e1]; omega)
    rw [e1] at CU
    have CU := Lib.hid CU
    have HNU := Lib.hid (numU_drop b)
    have HNU3 := Lib.hid (numU_drop3 b)
    have HDD : Hid ((b.drop 1).drop 2 = b.drop 3) := Lib.hid (by rw [List.drop_drop])
    have HDL : Hid ((b.drop 3).length = b.length - 3) := Lib.hid List.length_drop
    obtain ⟨g, o, rfl, hg, hcap, hc⟩ := byts_at h (by omega)
    have d0' := hc 0 (by omega)
    rw [Nat.add_zero] at d0'
    have HB3 : Hid (byt (b.drop 3) 0 = byt b 3) := Lib.hid (by rw [Bk.byt_drop])
    have HBG : Hid (UInt8.ofNat (byt b 3) = b[3]?.getD 0) := Lib.hid (by unfold byt; simp)
    have HX0 := Lib.hid (byt_lt b 0)
    have HX3 := Lib.hid (byt_lt b 3)
    have HG := Lib.hid hg
    obtain ⟨m, hm⟩ : ∃ m, m = b.length := ⟨_, rfl⟩
    have HM := Lib.hid hm
    rw [← hm] at hf1 CU HDL hcap hl h3 ⊢
    have b0 : decide ((m : Int) < 3) = false := decide_eq_false (by omega)
    have i0 : (0 : Int) < (m : Int) := by omega
    clear h hc hs1 e1 hm
    go_enter Tryz.func14, Tryz.ntmps14
    go_wp2_with fail
    refine CU.out.mono ?_
    rintro e w2 ⟨a9, c9, rfl, q1, q2⟩
    rw [HDD.out, HNU.out, HDL.out]
    rw [HDD.out] at q1
    have d0 : w2.cell? ⟨g, o, none⟩ = some (.int .u8 (byt b 0 : Nat)) := (q2.cell (p := ⟨g, o, none⟩) HG.out (fun q => q)).trans d0'
    have K2 := Lib.hid q2
    have Q1 := Lib.hid q1
    obtain ⟨n, hn⟩ : ∃ n, n = Bk.numU b 1 := ⟨_, rfl⟩
    have HN := Lib.hid hn
    rw [← hn]
    obtain ⟨x, hx⟩ : ∃ x, x = m - 3 := ⟨_, rfl⟩
    have HX : Hid (x = (b.drop 3).length) := Lib.hid (by rw [hx, HDL.out])
    have HXM : Hid (m = x + 3) := Lib.hid (by omega)
    have hx2 : x ≤ 2000 := by omega
    rw [← hx]
    obtain ⟨kd, hkd⟩ : ∃ kd, kd = byt b 0 := ⟨_, rfl⟩
    have HKD := Lib.hid hkd
    rw [← hkd] at d0 HX0
    clear q1 q2 hn hx hkd CU d0'
    by_cases h500 : n ≤ 500
    · have b1 : decide ((500 : Int) < (n : Int)) = false := decide_eq_false (by omega)
      by_cases k0 : kd = 0
      · subst k0
        by_cases hle : n ≤ x
        · have b2 : decide ((x : Int) < (n : Int)) = false := decide_eq_false (by omega)
          obtain ⟨hu1, hu2⟩ := upto_u w2 (b.drop 3) a9 c9 Q1.out n (by rw [← HX.out]; exact hle)
          rw [← HX.out] at hu1
          have htl : ((b.drop 3).take n).length = n := by rw [List.length_take, ← HX.out]; omega
          rw [htl] at hu2
          have HU := Lib.hid (hu2.kp (kp_alloc w2 (.cells #[] 5)) (fun _ _ q => q))
          have HTL := Lib.hid htl
          have NR := Lib.hid (nil_row w2)
          have KA := Lib.hid (kp_alloc w2 (.cells #[] 5))
          have hs3 : IntKind.i64.wrap (3 + (n : Int)) = 3 + (n : Int) := by rw [IntKind.wrap_i64]; omega
          clear hu2 htl
          go_wp2_with (at_builtin; refine wpList_appM (w0 := w2) _ rfl (.tmp 32) (.tmp 35) 22 rfl 5 j0 _ 1 Tryz.underlying22 hj0 hy0 hy1 hy2 rfl (by decide) (by decide) u8c_1c (.slice (some ⟨w2.heap.size, 0, none⟩) 0 0) [] rfl NR.out (.slice a9 n c9) n ((b.drop 3).take n) rfl HU.out HTL.out KA.out n (by simp) (by omega) ?_; intro a5 c5 w5 g1 g2 _; rw [List.nil_append] at g1; have G1 := Lib.hid g1; have G2 := Lib.hid g2; clear g1 g2)
          go_ret3
          exact .inl ⟨(b.drop 3).take n, 3 + n, a5, c5, ⟨by rw [← HM.out]; exact h3, by rw [← HN.out]; exact h500, .inl ⟨HKD.out.symm, by rw [← HN.out, ← HM.out, HXM.out]; omega, by rw [← HN.out], by rw [← HN.out]⟩⟩, by rw [HTL.out]; rfl, by rw [HTL.out]; exact G1.out.low K2.out.size, K2.out.trans G2.out⟩
        · have b2 : decide ((x : Int) < (n : Int)) = true := decide_eq_true (by omega)
          go_wp2_with fail
          go_ret3
          refine .inr ⟨fun o' m' q => ?_, rfl, K2.out⟩
          obtain ⟨_, _, q⟩ := q
          rw [← HKD.out, ← HN.out, ← HM.out, HXM.out] at q
          rcases q with ⟨_, q, _⟩ | ⟨q, _⟩ | ⟨q, _⟩ <;> omega
      · have k0' : ((kd : Int) == 0) = false := by rw [beq_eq_false_iff_ne]; omega
        have NOT : Hid (kd ≠ 0) := Lib.hid k0
        clear k0
        by_cases k1 : kd = 1
        · subst k1
          clear k0'
          by_cases hz : n = 0
          · subst hz
            go_wp2_with fail
            go_ret3
            refine .inr ⟨fun o' m' q => ?_, rfl, K2.out⟩
            obtain ⟨_, _, q⟩ := q
            rw [← HKD.out, ← HN.out] at q
            rcases q with ⟨q, _⟩ | ⟨_, q, _⟩ | ⟨q, _⟩ <;> omega
          · have z1 : ((n : Int) == 0) = false := by rw [beq_eq_false_iff_ne]; omega
            have HZ := Lib.hid hz
            clear hz
            by_cases hx0 : x = 0
            · subst hx0
              go_wp2_with fail
              go_ret3
              refine .inr ⟨fun o' m' q => ?_, rfl, K2.out⟩
              obtain ⟨_, _, q⟩ := q
              rw [← HKD.out, ← HN.out, ← HM.out, HXM.out] at q
              rcases q with ⟨q, _⟩ | ⟨_, _, q, _⟩ | ⟨q, _⟩ <;> omega
            · have z2 : ((x : Int) == 0) = false := by rw [beq_eq_false_iff_ne]; omega
              obtain ⟨g9, o9, rfl, hg9, _, hc9⟩ := byts_at Q1.out (by rw [← HX.out]; omega)
              have d9 := hc9 0 (by rw [← HX.out]; omega)
              rw [Nat.add_zero, HB3.out] at d9
              have i9 : (0 : Int) < (x : Int) := by omega
              have RU := Lib.hid (run_d w2 (byt b 3) n HX3.out h500)
              have HX4 : Hid (4 ≤ m) := Lib.hid (by rw [HXM.out]; omega)
              generalize byt b 3 = y at d9 RU HBG
              clear hc9 hg9 hx0
              go_wp2_with fail
              refine RU.out.mono ?_
              rintro e w3 ⟨a5, c5, rfl, r1, k3⟩
              have R1 := Lib.hid r1
              have K3 := Lib.hid k3
              clear r1 k3 RU
              go_wp2_with fail
              go_ret3
              refine .inl ⟨List.replicate n (b[3]?.getD 0), 4, a5, c5, ⟨by rw [← HM.out]; exact h3, by rw [← HN.out]; exact h500, .inr (.inl ⟨HKD.out.symm, by rw [← HN.out]; exact HZ.out, by rw [← HM.out]; exact HX4.out, by rw [← HN.out], rfl⟩)⟩, by rw [List.length_replicate]; rfl, ?_, K2.out.trans K3.out⟩
              rw [List.length_replicate, ← HBG.out]
              exact R1.out.low K2.out.size
        · have k1' : ((kd : Int) == 1) = false := by rw [beq_eq_false_iff_ne]; omega
          have NOT1 : Hid (kd ≠ 1) := Lib.hid k1
          clear k1
          by_cases k2 : kd = 2
          · subst k2
            clear k0' k1'
            have PK := packed_d w2 (b.drop 3) a9 c9 Q1.out (by rw [← HX.out]; exact hx2) n h500
            rw [← HX.out] at PK
            have PK := Lib.hid PK
            go_wp2_with fail
            refine PK.out.mono ?_
            rintro e w3 (⟨s, a5, c5, a6, c6, hy, rfl, r1, k3⟩ | ⟨hno, v1, v2, rfl, k3⟩)
            · have HY := Lib.hid hy
              have R1 := Lib.hid r1
              have K3 := Lib.hid k3
              rw [HNU3.out, ← HX.out]
              obtain ⟨mm, hmm⟩ : ∃ mm, mm = Bk.numU b 131 := ⟨_, rfl⟩
              have HMM := Lib.hid hmm
              rw [← hmm]
              have hle : 130 + mm ≤ x := by
                have := hy.2.1
                rw [HNU3.out, ← HX.out] at this
                rw [hmm]; exact this
              obtain ⟨z, hz⟩ : ∃ z, z = x - 130 - mm := ⟨_, rfl⟩
              rw [← hz]
              have hs3 : IntKind.i64.wrap ((m : Int) - (z : Int)) = ((133 + mm : Nat) : Int) := by rw [IntKind.wrap_i64]; have := HXM.out; omega
              have HLE : Hid (133 + mm ≤ m ∧ 133 ≤ m) := Lib.hid (by have := HXM.out; omega)
              clear hy r1 k3 hmm hz hle PK
              go_wp2_with fail
              go_ret3
              refine .inl ⟨ob s, 133 + mm, a5, c5, ⟨by rw [← HM.out]; exact h3, by rw [← HN.out]; exact h500, .inr (.inr ⟨HKD.out.symm, by rw [← HM.out]; exact HLE.out.2, by rw [← HMM.out, ← HM.out]; exact HLE.out.1, by rw [← HMM.out], s, ?_, rfl⟩)⟩, rfl, R1.out.low K2.out.size, K2.out.trans K3.out⟩
              have := HY.out.2.2
              rw [HNU3.out, List.drop_drop] at this
              rw [← HN.out]
              exact this
            · have HNO := Lib.hid hno
              have K3 := Lib.hid k3
              clear hno k3 PK
              go_wp2_with fail
              go_ret3
              refine .inr ⟨fun o' m' q => ?_, rfl, K2.out.trans K3.out⟩
              obtain ⟨_, _, q⟩ := q
              rw [← HKD.out] at q
              rcases q with ⟨q, _⟩ | ⟨q, _⟩ | ⟨_, q1, q2, _, s, q3, _⟩
              · omega
              · omega
              · refine HNO.out s ⟨?_, ?_, ?_⟩
                · rw [← HX.out]; rw [← HM.out, HXM.out] at q1; omega
                · rw [HNU3.out, ← HX.out]; rw [← HM.out, HXM.out] at q2; omega
                · rw [HNU3.out, List.drop_drop]; rw [← HN.out] at q3; exact q3
          · have k2' : ((kd : Int) == 2) = false := by rw [beq_eq_false_iff_ne]; omega
            have NOT2 : Hid (kd ≠ 2) := Lib.hid k2
            clear k2
            go_wp2_with fail
            go_ret3
            refine .inr ⟨fun o' m' q => ?_, rfl, K2.out⟩
            obtain ⟨_, _, q⟩ := q
            rw [← HKD.out] at q
            rcases q with ⟨q, _⟩ | ⟨q, _⟩ | ⟨q, _⟩
            · exact NOT.out q
            · exact NOT1.out q
            · exact NOT2.out q
    · have b1 : decide ((500 : Int) < (n : Int)) = true := decide_eq_true (by omega)
      go_wp2_with fail
      go_ret3
      exact .inr ⟨fun o' m' q => by have := q.2.1; rw [← HN.out] at this; omega, rfl, K2.out⟩
  · obtain ⟨m, hm⟩ : ∃ m, m = b.length := ⟨_, rfl⟩
    have HM := Lib.hid hm
    rw [← hm] at h3 ⊢
    have b0 : decide ((m : Int) < 3) = true := decide_eq_true (by omega)
    clear h hm
    go_enter Tryz.func14, Tryz.ntmps14
    go_wp2_with fail
    go_ret3
    exact .inr ⟨fun o' m' q => by have := q.1; rw [← HM.out] at this; omega, rfl, Kp.refl _ _⟩
end Go.Proofs.YtphakpikalmghaaGreat.Un
