/- The document's Decode. The program's Decode. What is put is read back. block: a row read, in plain words; a row comes back. block, the document's: cut, run, packed. -/
import Derived.WalkMore
import Derived.Deep.QuietTactic
import Derived.BigQuiet
import Derived.Deep.RegionHeld3
import Derived.Deep.RegionLaw
import Derived.Deep.DeepCutAuto
import Derived.Test.YtphakpikalmghaaGreatU25
import Derived.Test.YtphakpikalmghaaGreatU11
import Derived.Test.YtphakpikalmghaaGreatU17
import Derived.Test.YtphakpikalmghaaGreatU07
import Derived.Test.YtphakpikalmghaaGreatU04
namespace Go.Proofs.YtphakpikalmghaaGreat.Rd
open Go Go.RowKit Go.Shelf Go.ChangeMaps Go.MapKept Go.Mg Go.Hf Go.Sort Go.Proofs.YtphakpikalmghaaGreat.Hu Go.Proofs.YtphakpikalmghaaGreat.Bw Go.Proofs.YtphakpikalmghaaGreat.He

def ob (o : List Nat) : List UInt8 := o.map UInt8.ofNat
theorem ob_len (o : List Nat) : (ob o).length = o.length := by simp [ob]
theorem ob_snoc (o : List Nat) (s : Nat) : ob (o ++ [s]) = ob o ++ [UInt8.ofNat s] := by simp [ob]
theorem infoU : (Tryz.prog.info? 5).map (fun i => (i.zero, i.size, i.bytes)) = some (some (.int .u8 0), 1, 1) := by kernel_rfl
theorem lit_u (w : World) (s : Nat) (hs : s < 256) : SlR (w.alloc (.cells #[.int .u8 (s : Nat)] 5)) 1 (.slice (some ⟨w.heap.size, 0, none⟩) 1 1) 1 ([UInt8.ofNat s].map u8c) := by
  refine ⟨by simp, _, _, rfl, Nat.le_refl _, by unfold maxLen; omega, (fun h => by cases h), fun _ => ⟨w.heap.size, 0, rfl, by simp, fun i u hu => ?_⟩⟩
  rw [Nat.zero_add, cell_of (alloc_at w _)]
  have e : u8c (UInt8.ofNat s) = .int .u8 (s : Nat) := by
    unfold u8c
    rw [UInt8.toNat_ofNat']
    congr 2
    omega
  simp only [List.map_cons, List.map_nil, e] at hu
  simpa using hu
/-- A row of one's own of bytes, all of it beyond B. -/
def RowU (B : Nat) (w : World) (v : Value) (l : List UInt8) : Prop := ∃ a c, v = .slice a l.length c ∧ OwnR w 5 1 v l.length (l.map u8c) ∧ ∀ k, v.ownBlock = some k → B ≤ k
theorem RowU.nil (B : Nat) (w : World) : RowU B w (.slice none 0 0) [] := ⟨none, 0, rfl, OwnR.nil _ _ _, fun k h => by cases h⟩
def DecPost (w : World) (xs : List Int) (l : List UInt8) (n : Int) (e : Ending) (w' : World) : Prop :=
  (∃ o, DecYes xs l n o ∧ (∃ v, e = .returned (.tuple #[v, .bool true]) ∧ RowU w.heap.size w' v (ob o)) ∧ Kp (fun _ => False) w w') ∨
  ((∀ o, ¬ DecYes xs l n o) ∧ e = .returned (.tuple #[.slice none 0 0, .bool false]) ∧ Kp (fun _ => False) w w')
theorem RowU.kp {B : Nat} {F : Nat → Prop} {w w' : World} {v : Value} {l : List UInt8} (h : RowU B w v l) (hk : Kp F w w') (hF : ∀ k, F k → k < B) : RowU B w' v l := by
  obtain ⟨a, c, e, h1, h2⟩ := h
  exact ⟨a, c, e, h1.kp hk (fun k q r => by have := h2 k q; have := hF k r; omega), h2⟩
theorem many_step {xs : List Int} {f : Nat → Bool} {r0 k : Nat} {o : List Nat} {r s r' : Nat} (h : manyS xs f r0 k = some (o, r)) (h1 : oneS xs f 11 1 0 r = some (s, r')) : manyS xs f r0 (k + 1) = some (o ++ [s], r') := by
  simp only [manyS, h, h1]
theorem many_fail {xs : List Int} {f : Nat → Bool} {r0 k : Nat} {o : List Nat} {r : Nat} (h : manyS xs f r0 k = some (o, r)) (h1 : oneS xs f 11 1 0 r = none) : manyS xs f r0 (k + 1) = none := by
  simp only [manyS, h, h1]
/-- A byte more: what the append leaves. -/
theorem RowU.app {B p : Nat} {w3 wr w2 w5 : World} {a : Option Addr} {c : Nat} {l : List UInt8} {b : UInt8} (hw : Kp (· = p) w3 wr) (hB : w3.heap.size = B) (h2 : Kp (fun _ => False) wr w2) (ho : ∀ k, (Value.slice a l.length c).ownBlock = some k → B ≤ k)
    {a' : Option Addr} {c' : Nat} (g1 : OwnR w5 5 1 (.slice a' (l.length + 1) c') (l.length + 1) (l.map u8c ++ [b].map u8c)) (g2 : Kp (fun k => (Value.slice a l.length c).ownBlock = some k) w2 w5)
    (g3 : (Value.slice a' (l.length + 1) c').ownBlock = (Value.slice a l.length c).ownBlock ∨ (Value.slice a' (l.length + 1) c').ownBlock = some w2.heap.size) :
    RowU B w5 (.slice a' (l.length + 1) c') (l ++ [b]) ∧ Kp (· = p) w3 w5 ∧ Kp (fun k => B ≤ k) wr w5 := by
  have h3 : Kp (fun k => B ≤ k) wr w5 := (h2.mono (fun _ _ q => q.elim)).trans2 g2 (fun i _ q => ho i q)
  refine ⟨⟨a', c', by simp, by rw [List.length_append, List.map_append]; exact g1, fun k hk => ?_⟩, hw.trans2 h3 (fun i hi q => by omega), h3⟩
  rcases g3 with q | q
  · exact ho k (q.symm.trans hk)
  · rw [hk] at q
    cases q
    have := hw.size; have := h2.size; omega
theorem many_stop {xs : List Int} {f : Nat → Bool} {r k : Nat} (h : manyS xs f r k = none) : ∀ j, k ≤ j → manyS xs f r j = none
  | 0, hj => by have : k = 0 := by omega
                subst this; exact h
  | j + 1, hj => by
    by_cases e : k = j + 1
    · subst e; exact h
    · simp only [manyS, many_stop h j (by omega)]
set_option maxRecDepth 100000 in
set_option maxHeartbeats 4000000 in
theorem decode_d (w : World) (xs : List Int) (a : Option Addr) (c : Nat) (h : Nm w a c xs) (hl : xs.length ≤ 300) (l : List UInt8) (ab : Option Addr) (cb' : Nat) (hb : SlR w 1 (.slice ab l.length cb') l.length (l.map u8c)) (hlb : l.length ≤ 10000) (n : Int) (hn : n ≤ 2000) :
    Calls Tryz.prog 62 #[.slice a xs.length c, .slice ab l.length cb', .int .i64 n] w (DecPost w xs l n) := by
  obtain ⟨i0, hi0, hz0, hz1, hz2⟩ := info_parts infoU
  have D0 := Lib.hid (newr_d w l ab cb' hb (by omega))
  have R0 := Lib.hid h
  have RB := Lib.hid hb
  clear h hb
  go_enter Tryz.func62, Tryz.ntmps62
  go_wp2_with fail
  refine D0.out.mono ?_
  rintro e w1 (⟨hgb, p, rfl, hp, hrd, hk1⟩ | ⟨hno, rfl, hw1⟩)
  · have HGB := Lib.hid hgb
    have HRD := Lib.hid hrd
    have HK1 := Lib.hid hk1
    have D1 := Lib.hid (is_d w1 xs a c (R0.out.kp hk1) (by omega))
    clear hgb hrd hk1 D0
    go_wp2_with fail
    refine D1.out.mono ?_
    rintro e w' ⟨z, hz, rfl, hw'⟩
    obtain rfl := hw'
    cases z with
    | false =>
      have HZ := Lib.hid (show ∀ o, ¬ DecYes xs l n o from fun o q => by have := hz.2 q.2.1; cases this)
      clear hz D1
      go_wp2_with fail
      go_ret2
      exact .inr ⟨HZ.out, rfl, HK1.out⟩
    | true =>
      have hok : IsOk xs := hz.1 rfl
      have hpos : 0 < xs.length := by
        apply Nat.pos_of_ne_zero
        intro e
        have : xs = [] := List.eq_nil_of_length_eq_zero e
        subst this
        obtain ⟨_, _, h | h⟩ := hok <;> simp [isSt] at h
      have HOK := Lib.hid hok
      clear hz D1 hok
      by_cases hn0 : n < 0
      · have HZ := Lib.hid (show ∀ o, ¬ DecYes xs l n o from fun o q => by have := q.2.2.1; omega)
        go_wp2_with fail
        go_ret2
        exact .inr ⟨HZ.out, rfl, HK1.out⟩
      · obtain ⟨N, rfl⟩ : ∃ N : Nat, n = (N : Nat) := ⟨n.toNat, by omega⟩
        have hN : N ≤ 2000 := by omega
        have HDY : Hid (∀ o, DecYes xs l (N : Nat) o ↔ manyS xs (bb l) (top l) N = some (o, 0)) := Lib.hid (fun o => ⟨fun q => by have := q.2.2.2; simpa using this, fun q => ⟨HGB.out, HOK.out, by omega, by simpa using q⟩⟩)
        clear hn0 hn
        go_wp2_with fail
        refine (codes_d w' xs a c (R0.out.kp HK1.out) hpos hl).mono ?_
        rintro e w3 ⟨gc, rfl, p1, p2, p3⟩
        obtain ⟨g, o, rfl, hg, hcap, hc⟩ := R0.out.lf_ hpos
        have hgc : gc < w3.heap.size := lt_of_at p2
        have hk3 := HK1.out.trans p3
        have hs1 := HK1.out.size
        have hpw := lt_of_at HRD.out.hp
        have htab : Tab w3 xs g o gc := fun i hi => ⟨p2.cell hi, (hk3.cell (p := ⟨g, o + i, none⟩) hg (fun q => q)).trans (hc i hi)⟩
        have hrd3 : RdD w3 p (top l) ab cb' l := HRD.out.kp p3 (fun q => q) (fun _ _ q => q)
        have hgp : g ≠ p := by omega
        have hgcp : gc ≠ p := by omega
        have ONE := Lib.hid (fun V (hk : Kp (· = p) w3 V) r (hr : RdD V p r ab cb' l) => one_d V xs g o c gc hl hcap (htab.kp hk ⟨by omega, hgp⟩ ⟨hgc, hgcp⟩) (by have := hk.size; omega) (by have := hk.size; omega) hgp hgcp hr (by omega))
        have HRD3 := Lib.hid hrd3
        have HK3 := Lib.hid hk3
        have HPS : Hid (w.heap.size ≤ p ∧ w.heap.size ≤ w3.heap.size ∧ p < w3.heap.size) := Lib.hid ⟨hp, hk3.size, by have := p3.size; omega⟩
        have HONT := Lib.hid (fun r s r' (q : oneS xs (bb l) 11 1 0 r = some (s, r')) => Nat.lt_of_lt_of_le (oneS_lt q) (show xs.length ≤ 256 from HOK.out.1))
        have HBL : Hid (∀ b, (Value.slice ab l.length cb').ownBlock = some b → b < w.heap.size) := Lib.hid (fun b hb => by
          obtain ⟨g2, o2, e2, h2, _⟩ := bytes_at RB.out HGB.out.1
          rw [e2] at hb; cases hb; exact h2)
        have HSL := Lib.hid (fun V r (hr : RdD V p r ab cb' l) => show V.cell? ⟨p, 1, none⟩ = some (.int .i64 (r : Nat)) by rw [cell_of hr.hp]; rfl)
        have HTL : Hid (∀ r, manyS xs (bb l) (top l) N = some r → r.2 ≤ 100000) := Lib.hid (fun r q => by have := manyS_le _ _ _ _ _ _ q; have := (top_lt HGB.out).1; omega)
        have HST : Hid (∀ k o r s r', manyS xs (bb l) (top l) k = some (o, r) → oneS xs (bb l) 11 1 0 r = some (s, r') → manyS xs (bb l) (top l) (k + 1) = some (o ++ [s], r')) := Lib.hid (fun _ _ _ _ _ => many_step)
        have HSF : Hid (∀ k o r, k < N → manyS xs (bb l) (top l) k = some (o, r) → oneS xs (bb l) 11 1 0 r = none → ∀ o, ¬ DecYes xs l (N : Nat) o) := Lib.hid (fun k o r hk h1 h2 o2 q => by
          have := (HDY.out o2).1 q
          rw [many_stop (many_fail h1 h2) N (by omega)] at this
          cases this)
        have HS0 : Hid (manyS xs (bb l) (top l) 0 = some ([], top l)) := Lib.hid rfl
        obtain ⟨MS, hMS⟩ : ∃ MS, MS = manyS xs (bb l) (top l) := ⟨_, rfl⟩
        rw [← hMS] at HST HSF HS0 HTL HDY
        clear hMS p1 p2 p3 hc htab hrd3 hk3 hgp hgcp hs1 hpw
        go_wp2_with fail
        go_loopw [11, 12] (fun u i wr => ∃ k : Nat, k ≤ N ∧ i = .int .i64 k ∧ ∃ o r, MS k = some (o, r) ∧ o.length = k ∧ RdD wr p r ab cb' l ∧ Kp (· = p) w3 wr ∧ RowU w3.heap.size wr u (ob o)) (fun _ i _ => N - (intOf i).toNat)
        case atStart => exact ⟨0, Nat.zero_le _, rfl, [], _, HS0.out, rfl, HRD3.out, Kp.refl _ _, RowU.nil _ _⟩
        case round =>
          obtain ⟨k, hk, rfl, os, r, hms, hol, hrd, hkw, hrow⟩ := hrel
          have HMS := Lib.hid hms
          have HRDW := Lib.hid hrd
          have HKW := Lib.hid hkw
          have HROW := Lib.hid hrow
          have HOL := Lib.hid hol
          clear hms hol hkw hrow
          by_cases hkN : k < N
          · clear hrd
            go_wp2_with fail
            refine (ONE.out _ HKW.out _ HRDW.out).mono ?_
            rintro e w4 (⟨s, r', h1, rfl, h3, h4⟩ | ⟨h1, rfl, h4⟩)
            · have hs := HONT.out _ _ _ h1
              have HM1 := Lib.hid (HST.out _ _ _ _ _ HMS.out h1)
              have HRD4 := Lib.hid h3
              have HK4 := Lib.hid (HKW.out.trans h4)
              have hrow4 := HROW.out.kp h4 (fun q e => by have := HPS.out; omega)
              obtain ⟨av, cv, rfl, hown, hbeyond⟩ := hrow4
              have HB := Lib.hid hbeyond
              have hkA := (Kp.refl (fun _ => False) w4).alloc (.cells #[.int .u8 (s : Nat)] 5)
              have KA := Lib.hid hkA
              have HO := Lib.hid (hown.kp hkA (fun _ _ q => q))
              have T := Lib.hid (lit_u w4 s hs)
              have hL : (ob os).length = k := by rw [ob_len]; exact HOL.out
              have HL := Lib.hid hL
              rw [hL] at HO
              clear h1 h3 h4 hown hbeyond hkA hL HROW
              have hk2 : k ≤ 2000 := by omega
              have hw8 : IntKind.u8.wrap (s : Int) = (s : Int) := by rw [IntKind.wrap_u8]; omega
              rw [HL.out]
              go_wp2_with (at_builtin; refine wpList_app _ rfl _ _ 22 rfl 5 i0 _ 1 1 Tryz.underlying22 hi0 hz0 hz1 hz2 rfl (by decide) (by decide) (.slice av k cv) k _ rfl HO.out (.slice (some ⟨w4.heap.size, 0, none⟩) 1 1) 1 _ rfl T.out (u8c_one _) (by omega) ?_; intro v1 w5 g1 g2 g3 g4 g5; obtain ⟨b1, d1, rfl⟩ := g1.form; have G := Lib.hid (RowU.app (l := ob os) HK4.out rfl KA.out HB.out (by rw [HL.out]; exact g1) (by rw [HL.out]; exact g2) (by rw [HL.out]; exact g3)); clear g1 g2 g3 g4 g5)
              refine ⟨⟨k + 1, by omega, by go_num, os ++ [s], r', HM1.out, by simp [HOL.out], ?_, G.out.2.1, ?_⟩, by simp [intOf]; omega⟩
              · refine HRD4.out.kp G.out.2.2 (fun q => by have := HPS.out; omega) (fun b hb q => ?_)
                have := HBL.out b hb; have := HPS.out; omega
              · rw [ob_snoc]
                have := G.out.1
                rwa [HL.out] at this
            · have HZ := Lib.hid (HSF.out _ _ _ hkN HMS.out h1)
              have HK4 := Lib.hid (HK3.out.trans2 (HKW.out.trans h4) (fun i hi q => by have := HPS.out; omega))
              clear h1 h4
              go_wp2_with fail
              go_ret2
              exact .inr ⟨HZ.out, rfl, HK4.out⟩
          · obtain rfl : k = N := by omega
            have d1 := HSL.out _ _ hrd
            have HK4 := Lib.hid (HK3.out.trans2 HKW.out (fun i hi q => by have := HPS.out; omega))
            have hr5 := HTL.out _ HMS.out
            clear hrd
            by_cases hr0 : r = 0
            · have HY := Lib.hid ((HDY.out os).2 (by rw [HMS.out, hr0]))
              rw [hr0] at d1
              clear hr0 hr5
              go_wp2_with fail
              go_ret2
              exact .inl ⟨os, HY.out, ⟨_, rfl, by
                obtain ⟨a2, c2, e2, h1, h2⟩ := HROW.out
                exact ⟨a2, c2, e2, h1, fun k hk => by have := h2 k hk; have := HPS.out; omega⟩⟩, HK4.out⟩
            · have HZ := Lib.hid (show ∀ o, ¬ DecYes xs l (k : Nat) o from fun o q => by
                have := (HDY.out o).1 q
                rw [HMS.out] at this
                cases this
                exact hr0 rfl)
              have hr1 : 0 < r := by omega
              clear hr0
              go_wp2_with fail
              go_ret2
              exact .inr ⟨HZ.out, rfl, HK4.out⟩
  · obtain rfl := hw1
    have HZ := Lib.hid (show ∀ o, ¬ DecYes xs l n o from fun o q => hno q.1)
    clear D0 hno
    go_wp2_with fail
    go_ret2
    exact .inr ⟨HZ.out, rfl, Kp.refl _ _⟩
end Go.Proofs.YtphakpikalmghaaGreat.Rd

namespace Go.Proofs.YtphakpikalmghaaGreat.Rd
open Go Go.RowKit Go.Shelf Go.ChangeMaps Go.MapKept Go.Mg Go.Hf Go.Sort Go.Proofs.YtphakpikalmghaaGreat.Hu Go.Proofs.YtphakpikalmghaaGreat.Bw Go.Proofs.YtphakpikalmghaaGreat.He

set_option maxRecDepth 100000 in
set_option maxHeartbeats 4000000 in
theorem decode_p (w : World) (xs : List Int) (a : Option Addr) (c : Nat) (h : Nm w a c xs) (hl : xs.length ≤ 300) (l : List UInt8) (ab : Option Addr) (cb' : Nat) (hb : SlR w 1 (.slice ab l.length cb') l.length (l.map u8c)) (hlb : l.length ≤ 10000) (n : Int) (hn : n ≤ 2000) :
    Calls Tryz.prog 93 #[.slice a xs.length c, .slice ab l.length cb', .int .i64 n] w (DecPost w xs l n) := by
  obtain ⟨i0, hi0, hz0, hz1, hz2⟩ := info_parts infoU
  have D0 := Lib.hid (newr_p w l ab cb' hb (by omega))
  have R0 := Lib.hid h
  clear h hb
  go_enter Tryz.func93, Tryz.ntmps93
  go_wp2_with fail
  refine wp_scope_straight ?_
  go_wp2_with fail
  refine D0.out.mono ?_
  rintro e w1 (⟨hgb, p, rfl, hrd, hk1⟩ | ⟨hno, rfl, hw1⟩)
  · have HGB := Lib.hid hgb
    have HRD := Lib.hid hrd
    have HK1 := Lib.hid hk1
    have D1 := Lib.hid (is_p w1 xs a c (R0.out.kp hk1) (by omega))
    have hp : w.heap.size ≤ p ∧ p < w1.heap.size := by obtain ⟨_, _, q⟩ := hrd; exact q.fp
    clear hgb hrd hk1 D0
    go_wp2_with fail
    refine D1.out.mono ?_
    rintro e w' ⟨z, hz, rfl, hw'⟩
    obtain rfl := hw'
    cases z with
    | false =>
      have HZ := Lib.hid (show ∀ o, ¬ DecYes xs l n o from fun o q => by have := hz.2 q.2.1; cases this)
      clear hz D1
      go_wp2_with fail
      go_ret2
      exact .inr ⟨HZ.out, rfl, HK1.out⟩
    | true =>
      have hok : IsOk xs := hz.1 rfl
      have hpos : 0 < xs.length := by
        apply Nat.pos_of_ne_zero
        intro e
        have : xs = [] := List.eq_nil_of_length_eq_zero e
        subst this
        obtain ⟨_, _, h | h⟩ := hok <;> simp [isSt] at h
      have HOK := Lib.hid hok
      clear hz D1 hok
      by_cases hn0 : n < 0
      · have HZ := Lib.hid (show ∀ o, ¬ DecYes xs l n o from fun o q => by have := q.2.2.1; omega)
        go_wp2_with fail
        go_ret2
        exact .inr ⟨HZ.out, rfl, HK1.out⟩
      · obtain ⟨N, rfl⟩ : ∃ N : Nat, n = (N : Nat) := ⟨n.toNat, by omega⟩
        have hN : N ≤ 2000 := by omega
        have HDY : Hid (∀ o, DecYes xs l (N : Nat) o ↔ manyS xs (bb l) (top l) N = some (o, 0)) := Lib.hid (fun o => ⟨fun q => by have := q.2.2.2; simpa using this, fun q => ⟨HGB.out, HOK.out, by omega, by simpa using q⟩⟩)
        have hT8 := (top_lt HGB.out).1
        have LEFT := Lib.hid (left_p HRD.out)
        obtain ⟨T, hT⟩ : ∃ T, T = top l := ⟨_, rfl⟩
        rw [← hT] at LEFT HDY HRD hT8
        have hT5 : T ≤ 100000 := by omega
        clear hn0 hn hT8
        by_cases hNT : T < N
        · have HZ := Lib.hid (show ∀ o, ¬ DecYes xs l (N : Nat) o from fun o q => by
            have := (manyS_le _ _ _ _ _ _ ((HDY.out o).1 q)).1; omega)
          go_wp2_with fail
          refine LEFT.out.mono ?_
          rintro e w2 ⟨rfl, hw2⟩
          obtain rfl := hw2
          go_wp2_with fail
          go_ret2
          exact .inr ⟨HZ.out, rfl, HK1.out⟩
        · go_wp2_with fail
          refine LEFT.out.mono ?_
          rintro e w2 ⟨rfl, hw2⟩
          obtain rfl := hw2
          go_wp2_with fail
          refine (codes_p w2 xs a c (R0.out.kp HK1.out) hpos hl).mono ?_
          rintro e w3 ⟨gc, rfl, p1, p2, p3⟩
          obtain ⟨g, o, rfl, hg, hcap, hc⟩ := R0.out.lf_ hpos
          have hgc : gc < w3.heap.size := lt_of_at p2
          have hk3 := HK1.out.trans p3
          have hs3 := p3.size
          have htab : Tab w3 xs g o gc := fun i hi => ⟨p2.cell hi, (hk3.cell (p := ⟨g, o + i, none⟩) hg (fun q => q)).trans (hc i hi)⟩
          have hgp : g ≠ p := by omega
          have hgcp : gc ≠ p := by omega
          have HFD := Lib.hid (fun V (hk : Kp (· = p) w3 V) => found_p V xs g o c gc hl hcap (htab.kp hk ⟨by omega, hgp⟩ ⟨hgc, hgcp⟩))
          have HRD3 := Lib.hid (HRD.out.kp p3 (fun _ _ q => q))
          have HK3 := Lib.hid hk3
          have HPS : Hid (w.heap.size ≤ p ∧ w.heap.size ≤ w3.heap.size ∧ p < w2.heap.size ∧ w2.heap.size ≤ w3.heap.size) := Lib.hid ⟨hp.1, hk3.size, hp.2, hs3⟩
          have HBN := Lib.hid (fun k => bn_lt (bb l) k)
          have HONT := Lib.hid (fun r s r' (q : oneS xs (bb l) 11 1 0 r = some (s, r')) => Nat.lt_of_lt_of_le (oneS_lt q) (show xs.length ≤ 256 from HOK.out.1))
          have HTL : Hid (∀ k r, manyS xs (bb l) T k = some r → r.2 ≤ 100000) := Lib.hid (fun k r q => by have := manyS_le _ _ _ _ _ _ q; omega)
          have HST : Hid (∀ k o r s r', manyS xs (bb l) T k = some (o, r) → oneS xs (bb l) 11 1 0 r = some (s, r') → manyS xs (bb l) T (k + 1) = some (o ++ [s], r')) := Lib.hid (fun _ _ _ _ _ => many_step)
          have HSF : Hid (∀ k o r, k < N → manyS xs (bb l) T k = some (o, r) → oneS xs (bb l) 11 1 0 r = none → ∀ o, ¬ DecYes xs l (N : Nat) o) := Lib.hid (fun k o r hk h1 h2 o2 q => by
            have := (HDY.out o2).1 q
            rw [many_stop (many_fail h1 h2) N (by omega)] at this
            cases this)
          have HS0 : Hid (manyS xs (bb l) T 0 = some ([], T)) := Lib.hid rfl
          obtain ⟨MS, hMS⟩ : ∃ MS, MS = manyS xs (bb l) T := ⟨_, rfl⟩
          rw [← hMS] at HST HSF HS0 HTL HDY
          clear hMS p1 p2 p3 hc htab hk3 hgp hgcp hs3 LEFT hp hT
          go_wp2_with fail
          refine wp_label ?_
          go_wp2_with fail
          go_loopw [11, 42] (fun u i wr => ∃ k : Nat, k ≤ N ∧ i = .int .i64 k ∧ ∃ o r, MS k = some (o, r) ∧ o.length = k ∧ RdIn 175 (fun k => w.heap.size ≤ k ∧ k < w2.heap.size) wr p r (bb l) ∧ Kp (· = p) w3 wr ∧ RowU w3.heap.size wr u (ob o)) (fun _ i _ => N - (intOf i).toNat)
          case atStart => exact ⟨0, Nat.zero_le _, rfl, [], _, HS0.out, rfl, HRD3.out, Kp.refl _ _, RowU.nil _ _⟩
          case round =>
            obtain ⟨k, hk, rfl, os, r, hms, hol, hrd, hkw, hrow⟩ := hrel
            have HMS := Lib.hid hms
            have HRDW := Lib.hid hrd
            have HKW := Lib.hid hkw
            have HROW := Lib.hid hrow
            have HOL := Lib.hid hol
            have hr5 := HTL.out _ _ hms
            clear hms hol hkw hrow hrd
            by_cases hkN : k < N
            · obtain ⟨ONE, hONE⟩ : ∃ ONE, ONE = oneS xs (bb l) 11 1 0 r := ⟨_, rfl⟩
              have HONE := Lib.hid hONE
              clear hONE
              simp only at hr5
              obtain ⟨av, cv, rfl, hown, hbeyond⟩ := HROW.out
              have HB := Lib.hid hbeyond
              have HO := Lib.hid hown
              have hL : (ob os).length = k := by rw [ob_len]; exact HOL.out
              have HL := Lib.hid hL
              rw [hL] at HO ⊢
              clear hown hbeyond hL
              go_wp2_with fail
              go_loopw [11, 12, 13] (fun v u i wr2 => v = .slice av k cv ∧ ∃ n code r' : Nat, n ≤ 11 ∧ i = .int .i64 ((n : Nat) + 1) ∧ u = .int .i64 code ∧ code < 2 ^ n ∧ r' ≤ 100000 ∧ RdIn 175 (fun k => w.heap.size ≤ k ∧ k < w2.heap.size) wr2 p r' (bb l) ∧ Kp (· = p) wr wr2 ∧ ONE = oneS xs (bb l) (11 - n) (n + 1) code r') (fun _ _ i _ => 12 - (intOf i).toNat)
              case atStart => exact ⟨rfl, 0, 0, r, by omega, rfl, rfl, by omega, hr5, HRDW.out, Kp.refl _ _, HONE.out⟩
              case round =>
                obtain ⟨rfl, n, code, r', hn, rfl, rfl, hcode, hr5', hrd, hkr, hone⟩ := hrel
                have h11 : 2 ^ n ≤ 2 ^ 11 := Nat.pow_le_pow_right (by omega) hn
                have e11 : 2 ^ 11 = 2048 := rfl
                have hc2 : code ≤ 8388608 := by omega
                have hP : 2 ^ (n + 1) = 2 * 2 ^ n := by rw [Nat.pow_succ]; omega
                have HC1 := Lib.hid hcode
                have HP := Lib.hid hP
                have HKR := Lib.hid hkr
                have TK := Lib.hid (take_p hrd (by omega) 1 (by omega))
                have HE := Lib.hid hone
                clear hrd hkr hone h11 e11 hcode hP
                by_cases hn11 : n = 11
                · subst hn11
                  have HZ := Lib.hid (HSF.out _ _ _ hkN HMS.out (HONE.out.symm.trans HE.out))
                  have HK4 := Lib.hid (HK3.out.trans2 (HKW.out.trans HKR.out) (fun i hi q => by have := HPS.out; omega))
                  clear TK
                  go_wp2_with fail
                  go_ret2
                  exact .inr ⟨HZ.out, rfl, HK4.out⟩
                · have hn10 : n ≤ 10 := by omega
                  obtain ⟨m, hm⟩ : ∃ m, 11 - n = m + 1 := ⟨10 - n, by omega⟩
                  have HM := Lib.hid hm
                  clear hm hn11
                  go_wp2_with fail
                  refine TK.out.mono ?_
                  rintro e w4 (⟨hr1, rfl, hrd1, hk1⟩ | ⟨hr1, rfl, rfl⟩)
                  · obtain ⟨q, rfl⟩ : ∃ q, r' = q + 1 := ⟨r' - 1, by omega⟩
                    rw [Nat.add_one_sub_one] at hrd1
                    rw [Nat.add_one_sub_one, nv_one]
                    have hb2 := HBN.out q
                    have HHIT : Hid (∀ s, fd xs ((2 * code + bn (bb l) q : Nat) : Int) ((n : Int) + 1) xs.length = some s → ONE = some (s, q)) := Lib.hid (fun s hs => by
                      rw [HE.out, HM.out]; exact one_hit (n := n + 1) (by rw [Int.natCast_add n 1]; exact hs))
                    have HMISS : Hid (fd xs ((2 * code + bn (bb l) q : Nat) : Int) ((n : Int) + 1) xs.length = none → ONE = oneS xs (bb l) (11 - (n + 1)) (n + 1 + 1) (2 * code + bn (bb l) q) q) := Lib.hid (fun hs => by
                      rw [HE.out, HM.out, show 11 - (n + 1) = m by have := HM.out; omega]; exact one_miss (n := n + 1) (by rw [Int.natCast_add n 1]; exact hs))
                    have HRD1 := Lib.hid hrd1
                    have HK1' := Lib.hid (HKR.out.trans hk1)
                    have HSY := Lib.hid (HFD.out w4 (HKW.out.trans HK1'.out) ((2 * code + bn (bb l) q : Nat) : Int) ((n : Int) + 1))
                    obtain ⟨b, hb⟩ : ∃ b, b = bn (bb l) q := ⟨_, rfl⟩
                    rw [← hb] at hb2 HSY HHIT HMISS ⊢
                    obtain ⟨C, hC⟩ : ∃ C, C = 2 * code + b := ⟨_, rfl⟩
                    have hCi : (code : Int) * 2 + (b : Int) = (C : Nat) := by omega
                    rw [← hC] at HSY HHIT HMISS
                    have HCC := Lib.hid hC
                    clear TK hrd1 hk1 HE HM hb hr1 hC
                    go_wp2_with fail
                    refine HSY.out.mono ?_
                    rintro e w5 ⟨rfl, hw5⟩
                    obtain rfl := hw5
                    cases hfd : fd xs (C : Int) ((n : Int) + 1) xs.length with
                    | some s =>
                      have h1 := HHIT.out s hfd
                      rw [HONE.out] at h1
                      have hs := HONT.out _ _ _ h1
                      have HM1 := Lib.hid (HST.out _ _ _ _ _ HMS.out h1)
                      have hkA := (Kp.refl (fun _ => False) w5).alloc (.cells #[.int .u8 (s : Nat)] 5)
                      have KA := Lib.hid hkA
                      have HO5 := Lib.hid ((HO.out.kp HK1'.out (fun b hb e => by have := HB.out b (by rw [HL.out]; exact hb); have := HPS.out; omega)).kp hkA (fun _ _ q => q))
                      have T1 := Lib.hid (lit_u w5 s hs)
                      have HK5 := Lib.hid (HKW.out.trans HK1'.out)
                      clear hfd HSY HHIT HMISS h1 hkA
                      have hk2 : k ≤ 2000 := by omega
                      have hw8 : IntKind.u8.wrap (s : Int) = (s : Int) := by rw [IntKind.wrap_u8]; omega
                      simp only [fdv]
                      go_wp2_with (at_builtin; refine wpList_app _ rfl _ _ 22 rfl 5 i0 _ 1 1 Tryz.underlying22 hi0 hz0 hz1 hz2 rfl (by decide) (by decide) (.slice av k cv) k _ rfl HO5.out (.slice (some ⟨w5.heap.size, 0, none⟩) 1 1) 1 _ rfl T1.out (u8c_one _) (by omega) ?_; intro v1 w6 g1 g2 g3 g4 g5; obtain ⟨b1, d1, rfl⟩ := g1.form; have G := Lib.hid (RowU.app (l := ob os) HK5.out rfl KA.out HB.out (by rw [HL.out]; exact g1) (by rw [HL.out]; exact g2) (by rw [HL.out]; exact g3)); clear g1 g2 g3 g4 g5)
                      refine ⟨⟨k + 1, by omega, by go_num, os ++ [s], q, HM1.out, by simp [HOL.out], ?_, G.out.2.1, ?_⟩, by simp [intOf]; omega⟩
                      · exact HRD1.out.kp G.out.2.2 (fun b hb q => by have := HPS.out; omega)
                      · rw [ob_snoc]
                        have := G.out.1
                        rwa [HL.out] at this
                    | none =>
                      have HH := Lib.hid (HMISS.out hfd)
                      clear hfd HSY HHIT HMISS
                      simp only [fdv]
                      go_wp2_with fail
                      refine ⟨⟨by first | rfl | trivial, n + 1, C, q, by omega, by go_num, rfl, ?_, by omega, HRD1.out, HK1'.out, HH.out⟩, by simp [intOf]; omega⟩
                      have := HC1.out
                      have := HP.out
                      have := HCC.out
                      omega
                  · obtain rfl : r' = 0 := by omega
                    have HZ := Lib.hid (HSF.out _ _ _ hkN HMS.out (HONE.out.symm.trans (by rw [HE.out, HM.out]; exact one_dry)))
                    have HK4 := Lib.hid (HK3.out.trans2 (HKW.out.trans HKR.out) (fun i hi q => by have := HPS.out; omega))
                    clear TK HE HM
                    go_wp2_with fail
                    go_ret2
                    exact .inr ⟨HZ.out, rfl, HK4.out⟩
            · obtain rfl : k = N := by omega
              have LEFT := Lib.hid (left_p HRDW.out)
              have HK4 := Lib.hid (HK3.out.trans2 HKW.out (fun i hi q => by have := HPS.out; omega))
              simp only at hr5
              go_wp2_with fail
              refine LEFT.out.mono ?_
              rintro e w2 ⟨rfl, hw2⟩
              obtain rfl := hw2
              by_cases hr0 : r = 0
              · have HY := Lib.hid ((HDY.out os).2 (by rw [HMS.out, hr0]))
                subst hr0
                go_wp2_with fail
                go_ret2
                exact .inl ⟨os, HY.out, ⟨_, rfl, by
                  obtain ⟨a2, c2, e2, h1, h2⟩ := HROW.out
                  exact ⟨a2, c2, e2, h1, fun k hk => by have := h2 k hk; have := HPS.out; omega⟩⟩, HK4.out⟩
              · have HZ := Lib.hid (show ∀ o, ¬ DecYes xs l (k : Nat) o from fun o q => by
                  have := (HDY.out o).1 q
                  rw [HMS.out] at this
                  cases this
                  exact hr0 rfl)
                have hr1 : 0 < r := by omega
                clear hr0
                go_wp2_with fail
                go_ret2
                exact .inr ⟨HZ.out, rfl, HK4.out⟩
  · obtain rfl := hw1
    have HZ := Lib.hid (show ∀ o, ¬ DecYes xs l n o from fun o q => hno q.1)
    clear D0 hno
    go_wp2_with fail
    go_ret2
    exact .inr ⟨HZ.out, rfl, Kp.refl _ _⟩
end Go.Proofs.YtphakpikalmghaaGreat.Rd
namespace Go.Proofs.YtphakpikalmghaaGreat.Rd
open Go Go.RowKit Go.Hf Go.Proofs.YtphakpikalmghaaGreat.Bw Go.Proofs.YtphakpikalmghaaGreat.He

theorem pk_bit (B : Nat → Bool) (k j i : Nat) (hi : i < 8) : (pk B k j).testBit i = (decide (8 * j + i < k) && B (8 * j + i)) := by
  induction k with
  | zero => simp [pk]
  | succ k ih =>
    simp only [pk]
    split
    · rename_i h
      rw [Nat.testBit_or, ih, Nat.testBit_two_pow]
      obtain ⟨hb, hj⟩ := h
      by_cases e : k % 8 = i
      · have e2 : 8 * j + i = k := by omega
        rw [e2, hb]
        simp [e]
      · have e2 : (8 * j + i < k) = (8 * j + i < k + 1) := by
          apply propext
          constructor <;> intro h <;> omega
        simp [e, e2]
    · rename_i h
      rw [ih]
      by_cases e2 : 8 * j + i = k
      · have hb : B k = false := by
          cases hb : B k with
          | false => rfl
          | true => exact absurd ⟨hb, by omega⟩ h
        rw [e2, hb]; simp
      · have e3 : (8 * j + i < k) = (8 * j + i < k + 1) := by
          apply propext
          constructor <;> intro h <;> omega
        simp [e3]
theorem fin_bit (B : Nat → Bool) (n j i : Nat) (hi : i < 8) : (fin B n j).testBit i = (decide (8 * j + i = n) || (decide (8 * j + i < n) && B (8 * j + i))) := by
  unfold fin
  split
  · rename_i h
    rw [Nat.testBit_or, pk_bit B n j i hi, Nat.testBit_two_pow]
    have e : (n % 8 = i) = (8 * j + i = n) := by
      apply propext
      constructor <;> intro h <;> omega
    simp only [e]
    rw [Bool.or_comm]
  · rename_i h
    rw [pk_bit B n j i hi, decide_eq_false (show ¬ 8 * j + i = n by omega), Bool.false_or]
theorem pack_bit (B : List Bool) (k : Nat) (hk : k < 8 * (B.length / 8 + 1)) : bb (pack B) k = (decide (k = B.length) || (decide (k < B.length) && (B[k]?.getD false))) := by
  have h8 : k / 8 < B.length / 8 + 1 := by omega
  have e : (pack B)[k / 8]?.getD 0 = UInt8.ofNat (fin (fun i => B[i]?.getD false) B.length (k / 8)) := by
    simp [pack, h8]
  unfold bb
  have hm : fin (fun i => B[i]?.getD false) B.length (k / 8) % 2 ^ 8 = fin (fun i => B[i]?.getD false) B.length (k / 8) := Nat.mod_eq_of_lt (fin_lt _ _ _)
  rw [e, UInt8.toNat_ofNat', hm, ← Nat.testBit_eq_decide_div_mod_eq, fin_bit _ _ _ _ (by omega), show 8 * (k / 8) + k % 8 = k by omega]
theorem pack_good (B : List Bool) : Gb (pack B) := by
  have hl := pack_len B
  refine ⟨by omega, fun h => ?_⟩
  have := pack_bit B B.length (by omega)
  unfold bb at this
  rw [show B.length / 8 = (pack B).length - 1 by omega, h] at this
  simp at this
theorem pack_top (B : List Bool) : top (pack B) = B.length := by
  have hg := pack_good B
  have hl := pack_len B
  have h1 := top_lt hg
  rcases Nat.lt_trichotomy (top (pack B)) B.length with h | h | h
  · have := bb_above hg h (by omega)
    rw [pack_bit B _ (by omega)] at this
    simp at this
  · exact h
  · have := bb_top hg
    rw [pack_bit B _ (by omega), decide_eq_false (show ¬ top (pack B) = B.length by omega), decide_eq_false (show ¬ top (pack B) < B.length by omega)] at this
    cases this
theorem pack_at (B : List Bool) {k : Nat} (hk : k < B.length) : bb (pack B) k = B[k]?.getD false := by
  rw [pack_bit B k (by omega), decide_eq_false (show ¬ k = B.length by omega), decide_eq_true hk]
  rfl

/-! ### A code is read -/
theorem fd_own {xs : List Int} (h : IsOk xs) {s q L : Nat} (hs : s < xs.length) (h1 : codes xs s = (q : Nat)) (h2 : lf xs s = (L : Nat)) (h0 : 0 < L) : fd xs (q : Nat) (L : Nat) xs.length = some s := by
  cases hf : fd xs (q : Nat) (L : Nat) xs.length with
  | none => exact absurd ⟨h2, h1⟩ (fd_none hf s hs)
  | some t =>
    have ht := fd_lt hf
    obtain ⟨e1, e2⟩ := fd_some hf
    by_cases e : t = s
    · rw [e]
    · exfalso
      rw [lf_at ht] at e1
      rw [lf_at hs] at h2
      rcases codes_is h.2.1 ht with ⟨q0, _⟩ | ⟨n, hn, x1, x2⟩
      · omega
      · rcases codes_is h.2.1 hs with ⟨q0, _⟩ | ⟨m, hm, y1, y2⟩
        · omega
        · obtain rfl : n = m := by omega
          have := free ht hs e hn hm x1 y1 (Nat.le_refl _)
          rw [Nat.sub_self, Nat.pow_zero, Nat.div_one] at this
          omega
theorem fd_early {xs : List Int} (h : IsOk xs) {s q L d : Nat} (hs : s < xs.length) (h1 : codes xs s = (q : Nat)) (h2 : lf xs s = (L : Nat)) (hd0 : 0 < d) (hd : d < L) : fd xs ((q / 2 ^ d : Nat) : Int) ((L - d : Nat) : Int) xs.length = none := by
  cases hf : fd xs ((q / 2 ^ d : Nat) : Int) ((L - d : Nat) : Int) xs.length with
  | none => rfl
  | some t =>
    exfalso
    have ht := fd_lt hf
    obtain ⟨e1, e2⟩ := fd_some hf
    have e : t ≠ s := by intro e; rw [e, h2] at e1; omega
    rw [lf_at ht] at e1
    rw [lf_at hs] at h2
    rcases codes_is h.2.1 ht with ⟨q0, _⟩ | ⟨n, hn, x1, x2⟩
    · omega
    · rcases codes_is h.2.1 hs with ⟨q0, _⟩ | ⟨m, hm, y1, y2⟩
      · omega
      · have := free ht hs e hn hm x1 y1 (by omega)
        rw [show m - n = d by omega] at this
        have e3 : stc (lf xs) xs.length m s = q := by omega
        rw [e3] at this
        omega
theorem oneS_read {xs : List Int} (h : IsOk xs) {f : Nat → Bool} {s q L r : Nat} (hs : s < xs.length) (h1 : codes xs s = (q : Nat)) (h2 : lf xs s = (L : Nat)) (hL : L ≤ 11) (hq : q < 2 ^ L) (hf : ∀ i, i < L → f (r + i) = decide (q / 2 ^ i % 2 = 1)) :
    ∀ d, d < L → oneS xs f (11 - (L - (d + 1))) (L - (d + 1) + 1) (q / 2 ^ (d + 1)) (r + (d + 1)) = some (s, r)
  | 0, hd => by
    obtain ⟨k, hk⟩ : ∃ k, 11 - (L - (0 + 1)) = k + 1 := ⟨10 - (L - 1), by omega⟩
    rw [hk, show r + (0 + 1) = r + 1 by omega]
    simp only [oneS, Nat.add_one_sub_one]
    rw [if_neg (by omega)]
    have e := hf 0 hd
    rw [Nat.add_zero, Nat.pow_zero, Nat.div_one] at e
    have e2 : 2 * (q / 2 ^ (0 + 1)) + (if f r = true then 1 else 0) = q := by
      rw [e, Nat.zero_add, Nat.pow_one]
      by_cases h : q % 2 = 1
      · simp [h]; omega
      · simp [h]; omega
    rw [e2, show L - (0 + 1) + 1 = L by omega, fd_own h hs h1 h2 (by omega)]
  | d + 1, hd => by
    obtain ⟨k, hk⟩ : ∃ k, 11 - (L - (d + 1 + 1)) = k + 1 := ⟨10 - (L - (d + 2)), by omega⟩
    have ih := oneS_read h hs h1 h2 hL hq hf d (by omega)
    rw [hk, show r + (d + 1 + 1) = (r + (d + 1)) + 1 by omega]
    simp only [oneS, Nat.add_one_sub_one]
    rw [if_neg (by omega)]
    have e := hf (d + 1) hd
    have e2 : 2 * (q / 2 ^ (d + 1 + 1)) + (if f (r + (d + 1)) = true then 1 else 0) = q / 2 ^ (d + 1) := by
      rw [e, Nat.pow_succ 2 (d + 1), ← Nat.div_div_eq_div_mul]
      by_cases h : q / 2 ^ (d + 1) % 2 = 1
      · simp [h]; omega
      · simp [h]; omega
    rw [e2, show L - (d + 1 + 1) + 1 = L - (d + 1) by omega, fd_early h hs h1 h2 (by omega) (by omega)]
    rw [show 11 - (L - (d + 1)) = k by omega] at ih
    exact ih
theorem bt_pre (xs : List Int) (l : List UInt8) (m : Nat) : ∀ e, ∃ t, bt xs l (m + e) = bt xs l m ++ t
  | 0 => ⟨[], by simp⟩
  | e + 1 => by
    obtain ⟨t, ht⟩ := bt_pre xs l m e
    exact ⟨_, by rw [← Nat.add_assoc, bt, ht, List.append_assoc]⟩
/-- All symbols are read. -/
theorem many_read {xs : List Int} {l : List UInt8} (h : EncOk xs l) {f : Nat → Bool} (hf : ∀ k, k < (bt xs l l.length).length → f k = (bt xs l l.length)[k]?.getD false) :
    ∀ i, i ≤ l.length → manyS xs f (bt xs l l.length).length i = some ((List.range i).map (sym l), (bt xs l (l.length - i)).length)
  | 0, _ => by simp [manyS]
  | i + 1, hi => by
    have ih := many_read h hf i (by omega)
    obtain ⟨j, hj⟩ : ∃ j, l.length - i = j + 1 := ⟨l.length - i - 1, by omega⟩
    have hgd := h.2 i (by omega)
    obtain ⟨q, L, h1, h2, h0, h11, hq⟩ := code_nat h.1 hgd
    have hcb : cb xs (sym l i) = bitsOf q L := by unfold cb; rw [h1, h2]; simp
    have e1 : bt xs l (l.length - i) = bt xs l j ++ bitsOf q L := by
      rw [hj, bt, show l.length - 1 - j = i by omega, hcb]
    have e2 : (bt xs l (l.length - i)).length = (bt xs l j).length + L := by rw [e1, List.length_append, bitsOf_len]
    -- the bits of what is left lie where they lay
    have hpre : ∀ m, m ≤ l.length → ∃ t, bt xs l l.length = bt xs l m ++ t := by
      intro m hm
      have := bt_pre xs l m (l.length - m)
      rwa [show m + (l.length - m) = l.length by omega] at this
    have hread : ∀ t, t < L → f ((bt xs l j).length + t) = decide (q / 2 ^ t % 2 = 1) := by
      intro t ht
      obtain ⟨T, hT⟩ := hpre (l.length - i) (by omega)
      have hlen : (bt xs l l.length).length = (bt xs l j).length + L + T.length := by rw [hT, List.length_append, e2]
      rw [hf _ (by omega), hT, e1, List.getElem?_append_left (by rw [List.length_append, bitsOf_len]; omega), List.getElem?_append_right (by omega), Nat.add_sub_cancel_left]
      simp [bitsOf, ht]
    have ho := oneS_read h.1 hgd.1 h1 h2 h11 hq hread (L - 1) (by omega)
    rw [show L - (L - 1 + 1) = 0 by omega, show L - 1 + 1 = L by omega, Nat.div_eq_of_lt hq] at ho
    simp only [manyS, ih]
    rw [e2, ho]
    rw [List.range_succ, List.map_append, show l.length - (i + 1) = j by omega]
    rfl
theorem sym_map (l : List UInt8) : ob ((List.range l.length).map (sym l)) = l := by
  apply List.ext_getElem
  · simp [ob]
  · intro i h1 h2
    simp [ob, sym, h2]
theorem dec_enc {xs : List Int} {l : List UInt8} (h : EncOk xs l) : DecYes xs (pack (bt xs l l.length)) (l.length : Nat) ((List.range l.length).map (sym l)) := by
  refine ⟨pack_good _, h.1, by omega, ?_⟩
  have := many_read h (f := bb (pack (bt xs l l.length))) (fun k hk => pack_at _ hk) l.length (Nat.le_refl _)
  rw [Nat.sub_self] at this
  rw [pack_top, Int.toNat_natCast]
  exact this
theorem dec_less {xs : List Int} {l : List UInt8} (h : EncOk xs l) (h0 : 0 < l.length) (o : List Nat) : ¬ DecYes xs (pack (bt xs l l.length)) ((l.length : Nat) - 1 : Int) o := by
  intro q
  have := many_read h (f := bb (pack (bt xs l l.length))) (fun k hk => pack_at _ hk) (l.length - 1) (by omega)
  have q4 := q.2.2.2
  rw [pack_top, show ((l.length : Nat) - 1 : Int).toNat = l.length - 1 by omega, this, show l.length - (l.length - 1) = 0 + 1 by omega] at q4
  obtain ⟨q', L, h1, h2, hL, _, _⟩ := code_nat h.1 (h.2 (l.length - 1 - 0) (by omega))
  simp only [bt, cb, List.nil_append, bitsOf_len, h2, Int.toNat_natCast] at q4
  simp only [Option.some.injEq, Prod.mk.injEq] at q4
  omega
theorem dec_more {xs : List Int} {l : List UInt8} (h : EncOk xs l) (o : List Nat) : ¬ DecYes xs (pack (bt xs l l.length)) ((l.length : Nat) + 1 : Int) o := by
  intro q
  have := many_read h (f := bb (pack (bt xs l l.length))) (fun k hk => pack_at _ hk) l.length (Nat.le_refl _)
  have q4 := q.2.2.2
  rw [pack_top, show ((l.length : Nat) + 1 : Int).toNat = l.length + 1 by omega] at q4
  rw [Nat.sub_self] at this
  have e0 : (bt xs l 0).length = 0 := rfl
  simp only [manyS, this, e0] at q4
  simp [oneS] at q4
end Go.Proofs.YtphakpikalmghaaGreat.Rd
namespace Go.Proofs.YtphakpikalmghaaGreat.Bk
open Go Go.Hf Go.Mt Go.Proofs.YtphakpikalmghaaGreat.Ma Go.Proofs.YtphakpikalmghaaGreat.Hu Go.Proofs.YtphakpikalmghaaGreat.He Go.Proofs.YtphakpikalmghaaGreat.Rd Go.Proofs.YtphakpikalmghaaGreat.Sq Go.Proofs.YtphakpikalmghaaGreat.Bw

def numU (b : List UInt8) (k : Nat) : Nat := byt b k + 256 * byt b (k + 1)
/-- The lengths that 128 bytes tell. -/
def lenU (b : List UInt8) : List Int := (List.range 256).map fun i => ((byt b (i / 2) / 16 ^ (i % 2) % 16 : Nat) : Int)
/-- Bytes begin with a row: the row, how many bytes it is. -/
def UnYes (b o : List UInt8) (m : Nat) : Prop :=
  3 ≤ b.length ∧ numU b 1 ≤ 500 ∧
    ((byt b 0 = 0 ∧ 3 + numU b 1 ≤ b.length ∧ o = (b.drop 3).take (numU b 1) ∧ m = 3 + numU b 1) ∨
     (byt b 0 = 1 ∧ numU b 1 ≠ 0 ∧ 4 ≤ b.length ∧ o = List.replicate (numU b 1) (b[3]?.getD 0) ∧ m = 4) ∨
     (byt b 0 = 2 ∧ 133 ≤ b.length ∧ 133 + numU b 131 ≤ b.length ∧ m = 133 + numU b 131 ∧ ∃ s, DecYes (lenU (b.drop 3)) ((b.drop 133).take (numU b 131)) (numU b 1 : Nat) s ∧ o = ob s))
theorem UnYes.one {b o o' : List UInt8} {m m' : Nat} (h : UnYes b o m) (h' : UnYes b o' m') : o = o' ∧ m = m' := by
  obtain ⟨_, _, h⟩ := h
  obtain ⟨_, _, h'⟩ := h'
  rcases h with ⟨k, _, e1, e2⟩ | ⟨k, _, _, e1, e2⟩ | ⟨k, _, _, e2, s, d, e1⟩ <;> rcases h' with ⟨k', _, e1', e2'⟩ | ⟨k', _, _, e1', e2'⟩ | ⟨k', _, _, e2', s', d', e1'⟩
  all_goals first
    | (exfalso; omega)
    | exact ⟨e1.trans e1'.symm, e2.trans e2'.symm⟩
    | (refine ⟨?_, e2.trans e2'.symm⟩; rw [e1, e1', d.one d'])
theorem byt_of {l : List UInt8} {k : Nat} {x : UInt8} (h : l[k]? = some x) : byt l k = x.toNat := by simp [byt, h]
theorem numU_two (k : UInt8) (n : Nat) (hn : n < 65536) (rest : List UInt8) : numU (k :: (two n ++ rest)) 1 = n := by
  have h1 : byt (k :: (two n ++ rest)) 1 = n % 256 := by rw [byt_of (x := UInt8.ofNat n) rfl, UInt8.toNat_ofNat']
  have h2 : byt (k :: (two n ++ rest)) 2 = n / 256 % 256 := by rw [byt_of (x := UInt8.ofNat (n / 256)) rfl, UInt8.toNat_ofNat']
  unfold numU
  rw [h1, h2]
  omega
theorem byt_app_left {l m : List UInt8} {k : Nat} (h : k < l.length) : byt (l ++ m) k = byt l k := by simp [byt, List.getElem?_append_left h]
theorem byt_drop (l : List UInt8) (j k : Nat) : byt (l.drop j) k = byt l (j + k) := by simp [byt]
theorem byt_nib {L : Nat → Nat} {i : Nat} (hi : i < 128) (hL : ∀ i, i < 256 → L i ≤ 11) (rest : List UInt8) : byt (nib L ++ rest) i = L (2 * i) + 16 * L (2 * i + 1) := by
  rw [byt_app_left (by rw [nib_len]; exact hi)]
  have e : (nib L)[i]? = some (UInt8.ofNat (L (2 * i) + 16 * L (2 * i + 1))) := by simp [nib, hi]
  rw [byt_of e, UInt8.toNat_ofNat']
  have h1 := hL (2 * i) (by omega)
  have h2 := hL (2 * i + 1) (by omega)
  omega
theorem lenU_nib {L : Nat → Nat} (hL : ∀ i, i < 256 → L i ≤ 11) (rest : List UInt8) : lenU (nib L ++ rest) = lensOf 256 L := by
  unfold lenU lensOf
  refine List.map_congr_left fun i hi => ?_
  have hi2 : i < 256 := List.mem_range.1 hi
  rw [byt_nib (show i / 2 < 128 by omega) hL]
  have h1 := hL (2 * (i / 2)) (by omega)
  have h2 := hL (2 * (i / 2) + 1) (by omega)
  have hm : i % 2 = 0 ∨ i % 2 = 1 := by omega
  rcases hm with hm | hm
  · have e : i = 2 * (i / 2) := by omega
    rw [hm, Nat.pow_zero, Nat.div_one]
    have : (L (2 * (i / 2)) + 16 * L (2 * (i / 2) + 1)) % 16 = L i := by rw [← e] at h1 ⊢; omega
    rw [this]
  · have e : i = 2 * (i / 2) + 1 := by omega
    rw [hm, Nat.pow_one]
    have : (L (2 * (i / 2)) + 16 * L (2 * (i / 2) + 1)) / 16 % 16 = L i := by rw [← e] at h2 ⊢; omega
    rw [this]
theorem same_spec {b : List UInt8} (h : same b = true) : 0 < b.length ∧ b = List.replicate b.length (b[0]?.getD 0) := by
  unfold same at h
  simp only [Bool.and_eq_true, decide_eq_true_eq, List.all_eq_true, List.mem_range] at h
  refine ⟨h.1, ?_⟩
  apply List.ext_getElem?
  intro i
  by_cases hi : i < b.length
  · have := h.2 i hi
    rw [List.getElem?_eq_getElem hi, List.getElem?_replicate, if_pos hi]
    unfold sym at this
    rw [List.getElem?_eq_getElem hi, List.getElem?_eq_getElem h.1] at this
    rw [List.getElem?_eq_getElem h.1]
    simp only [Option.getD_some] at this ⊢
    rw [UInt8.toNat.inj this]
  · rw [List.getElem?_eq_none (by omega), List.getElem?_replicate, if_neg hi]
/-- A row comes back, whatever stands behind it. -/
theorem un_row {p more : List UInt8} (hp : p.length ≤ 500) (hL : 0 < p.length → ∃ L, IsLens (cts p) L) : UnYes (rowB p ++ more) p (rowB p).length := by
  unfold rowB
  split
  · rename_i hs
    obtain ⟨h0, he⟩ := same_spec hs
    have e : ([1] ++ two p.length ++ [p[0]?.getD 0] ++ more : List UInt8) = 1 :: (two p.length ++ (p[0]?.getD 0 :: more)) := by simp
    rw [e]
    have hn := numU_two 1 p.length (by omega) (p[0]?.getD 0 :: more)
    refine ⟨by simp [two], by rw [hn]; exact hp, .inr (.inl ⟨rfl, by rw [hn]; omega, by simp [two], ?_, by simp [two]⟩)⟩
    rw [hn]
    exact he
  · rename_i hs
    split
    · rename_i hc
      have h0 : 0 < p.length := by omega
      obtain ⟨L, hL⟩ := hL h0
      have hLB := lensB_eq hL
      have h11 : ∀ i, i < 256 → L i ≤ 11 := fun i hi => hL.le i (by rw [cts_len]; exact hi)
      have hcl : (codesB p).length ≤ 500 := by
        have : (codedB p).length = 128 + (2 + (codesB p).length) := by simp [codedB, nib_len, sized, two]; omega
        omega
      obtain ⟨C, hC⟩ : ∃ C, C = codesB p := ⟨_, rfl⟩
      have hCE : C = pack (bt (lensOf 256 L) p p.length) := by rw [hC]; unfold codesB; rw [if_neg (by omega), hLB]
      have e : ([2] ++ two p.length ++ codedB p ++ more : List UInt8) = 2 :: (two p.length ++ (nib L ++ (two C.length ++ (C ++ more)))) := by
        unfold codedB sized
        rw [hLB, ← hC]
        simp
      have el : ([2] ++ two p.length ++ codedB p : List UInt8).length = 133 + C.length := by
        rw [← hC] at hcl
        simp [codedB, nib_len, sized, two, ← hC]; omega
      rw [el, e]
      rw [← hC] at hcl
      have hn := numU_two 2 p.length (by omega) (nib L ++ (two C.length ++ (C ++ more)))
      have hd3 : (2 :: (two p.length ++ (nib L ++ (two C.length ++ (C ++ more)))) : List UInt8).drop 3 = nib L ++ (two C.length ++ (C ++ more)) := by simp [two]
      have hd131 : (2 :: (two p.length ++ (nib L ++ (two C.length ++ (C ++ more)))) : List UInt8).drop 131 = two C.length ++ (C ++ more) := by
        rw [show 131 = 3 + 128 from rfl, ← List.drop_drop, hd3, List.drop_append_of_le_length (by rw [nib_len]; exact Nat.le_refl _), List.drop_of_length_le (by rw [nib_len]; exact Nat.le_refl _), List.nil_append]
      have hd133 : (2 :: (two p.length ++ (nib L ++ (two C.length ++ (C ++ more)))) : List UInt8).drop 133 = C ++ more := by
        rw [show 133 = 131 + 2 from rfl, ← List.drop_drop, hd131]; simp [two]
      have hm : numU (2 :: (two p.length ++ (nib L ++ (two C.length ++ (C ++ more))))) 131 = C.length := by
        have h1 := byt_drop (2 :: (two p.length ++ (nib L ++ (two C.length ++ (C ++ more))))) 131 0
        have h2 := byt_drop (2 :: (two p.length ++ (nib L ++ (two C.length ++ (C ++ more))))) 131 1
        rw [hd131] at h1 h2
        have g1 : byt (two C.length ++ (C ++ more)) 0 = C.length % 256 := by rw [byt_of (x := UInt8.ofNat C.length) rfl, UInt8.toNat_ofNat']
        have g2 : byt (two C.length ++ (C ++ more)) 1 = C.length / 256 % 256 := by rw [byt_of (x := UInt8.ofNat (C.length / 256)) rfl, UInt8.toNat_ofNat']
        unfold numU
        rw [← h1, ← h2, g1, g2]
        omega
      refine ⟨by simp [two], by rw [hn]; exact hp, .inr (.inr ⟨rfl, ?_, ?_, by rw [hm], (List.range p.length).map (sym p), ?_, (sym_map p).symm⟩)⟩
      · simp [two, nib_len] <;> omega
      · rw [hm]; simp [two, nib_len] <;> omega
      · rw [hd3, lenU_nib h11, hd133, hm, List.take_append_of_le_length (Nat.le_refl _), List.take_length, hn, hCE]
        exact dec_enc (enc_ok h0 hL)
    · have e : ([0] ++ two p.length ++ p ++ more : List UInt8) = 0 :: (two p.length ++ (p ++ more)) := by simp
      have el : ([0] ++ two p.length ++ p : List UInt8).length = 3 + p.length := by simp [two]; omega
      rw [el, e]
      have hn := numU_two 0 p.length (by omega) (p ++ more)
      refine ⟨by simp [two], by rw [hn]; exact hp, .inl ⟨rfl, by rw [hn]; simp [two]; omega, ?_, by rw [hn]⟩⟩
      rw [hn]
      simp [two]
/-- How long a row is. -/
theorem row_le (p : List UInt8) : (rowB p).length ≤ 3 + max p.length 1 := by
  unfold rowB
  split
  · simp [two]; omega
  · split
    · rename_i h; simp [two]; omega
    · simp [two]; omega
end Go.Proofs.YtphakpikalmghaaGreat.Bk
namespace Go.Proofs.YtphakpikalmghaaGreat.Un
open Go Go.RowKit Go.ChangeMaps Go.MapKept Go.Mg Go.Hf Go.Mt Go.Proofs.YtphakpikalmghaaGreat.Hu Go.Proofs.YtphakpikalmghaaGreat.He Go.Proofs.YtphakpikalmghaaGreat.Rd Go.Proofs.YtphakpikalmghaaGreat.Bw Go.Proofs.YtphakpikalmghaaGreat.Ma

theorem u8sz : (Tryz.prog.info? 5).map (·.size) = some 1 := by kernel_rfl
theorem w64 (n : Int) (h0 : 0 ≤ n) (h1 : n < 2 ^ 63) : IntKind.i64.wrap n = n := by rw [IntKind.wrap_i64]; omega
theorem or_two {x y : Nat} (hx : x < 256) (hy : y < 256) : bits .or .i64 (x : Int) ((y : Int) * 256) = ((x + 256 * y : Nat) : Int) := by
  have e : ((y : Int) * 256) = ((y * 256 : Nat) : Int) := (Int.natCast_mul y 256).symm
  rw [e]
  have := (bits_nat .i64 63 (by decide) w64 x (y * 256) (by omega) (by omega)).2
  rw [this, Nat.or_comm, Nat.mul_comm, show (256 : Nat) = 2 ^ 8 from rfl, ← Nat.two_pow_add_eq_or_of_lt (i := 8) (by omega) y]
  congr 1
  omega
/-- What is left of a row, from the place k on. -/
theorem from_u (w : World) (r : List UInt8) (a : Option Addr) (c : Nat) (h : SlR w 1 (.slice a r.length c) r.length (r.map u8c)) (k : Nat) (hk : k ≤ r.length) :
    ∃ a' c', (∀ w', (Instr.slice 22 (.slice a r.length c) (some (.int .i64 (k : Nat))) none none).run Tryz.prog w' = .ok (.slice a' (r.length - k) c') w') ∧
      SlR w 1 (.slice a' (r.drop k).length c') (r.drop k).length ((r.drop k).map u8c) := by
  obtain ⟨a', c', hr2, hs2, _⟩ := h.from_ Tryz.underlying22 u8sz hk
  refine ⟨a', c', hr2, ?_⟩
  simp only [Nat.mul_one, ← List.map_drop] at hs2
  rw [List.length_drop]
  exact hs2
theorem upto_u (w : World) (r : List UInt8) (a : Option Addr) (c : Nat) (h : SlR w 1 (.slice a r.length c) r.length (r.map u8c)) (k : Nat) (hk : k ≤ r.length) :
    (∀ w', (Instr.slice 22 (.slice a r.length c) none (some (.int .i64 (k : Nat))) none).run Tryz.prog w' = .ok (.slice a k c) w') ∧ SlR w 1 (.slice a (r.take k).length c) (r.take k).length ((r.take k).map u8c) := by
  obtain ⟨h1, h2⟩ := h.upto Tryz.underlying22 u8sz hk
  refine ⟨h1, ?_⟩
  have e : (r.take k).length = k := by simp; omega
  rw [e]
  simp only [Nat.mul_one, ← List.map_take] at h2
  exact h2
def CutPost (w : World) (l : List UInt8) (e : Ending) (w' : World) : Prop :=
  ∃ a c, e = .returned (.tuple #[.int .i64 (Bk.numU l 0 : Nat), .slice a (l.drop 2).length c, .bool true]) ∧ SlR w' 1 (.slice a (l.drop 2).length c) (l.drop 2).length ((l.drop 2).map u8c) ∧ Kp (fun _ => False) w w'
set_option maxRecDepth 100000 in
set_option maxHeartbeats 1000000 in
theorem cut_d (w : World) (l : List UInt8) (a : Option Addr) (c : Nat) (h : SlR w 1 (.slice a l.length c) l.length (l.map u8c)) (h2 : 2 ≤ l.length) :
    Calls Tryz.prog 28 #[.slice a l.length c] w (CutPost w l) := by
  obtain ⟨a9, c9, hf, hs⟩ := from_u w l a c h 2 h2
  rw [show ((2 : Nat) : Int) = 2 from rfl] at hf
  obtain ⟨g, o, rfl, hg, hcap, hc⟩ := byts_at h (by omega)
  have d0 := hc 0 (by omega)
  have d1 := hc 1 (by omega)
  rw [Nat.add_zero] at d0
  have hx := byt_lt l 0
  have hy := byt_lt l 1
  have HN : Hid (Bk.numU l 0 = byt l 0 + 256 * byt l 1) := Lib.hid rfl
  have hdl : (l.drop 2).length = l.length - 2 := List.length_drop
  have HS := Lib.hid hs
  have HDL := Lib.hid hdl
  generalize byt l 0 = x at d0 hx HN
  generalize byt l 1 = y at d1 hy HN
  obtain ⟨n, hn⟩ : ∃ n, n = l.length := ⟨_, rfl⟩
  rw [← hn] at hf h2 hcap HDL ⊢
  have hor := or_two hx hy
  have hw1 : IntKind.i64.wrap ((y : Int) * 256) = (y : Int) * 256 := by rw [IntKind.wrap_i64]; omega
  have hw2 : IntKind.i64.wrap (y : Int) = (y : Int) := by rw [IntKind.wrap_i64]; omega
  have hw3 : IntKind.i64.wrap (x : Int) = (x : Int) := by rw [IntKind.wrap_i64]; omega
  have b0 : decide ((n : Int) < 2) = false := decide_eq_false (by omega)
  have i0 : (0 : Int) < (n : Int) := by omega
  have i1 : (1 : Int) < (n : Int) := by omega
  clear h hc hs hn hdl
  go_enter Tryz.func28, Tryz.ntmps28
  go_wp2_with fail
  go_quiet (fail)
  go_wp2_with fail
  go_ret3
  exact ⟨a9, c9, by rw [HDL.out, HN.out]; simp, HS.out.kp (show Kp (fun _ => False) w (w.drewN nq) from ⟨rfl, rfl, rfl, Nat.le_refl _, fun _ _ _ => rfl⟩) (fun _ _ q => q), ⟨rfl, rfl, rfl, Nat.le_refl _, fun _ _ _ => rfl⟩⟩
/-- A row of one byte, so many times. -/
theorem UAt.row {w : World} {g n x : Nat} (hx : x < 256) (h : UAt w g n (fun _ => x)) (hn : n ≤ 100000) : RowM 5 u8c g w (.slice (some ⟨g, 0, none⟩) n n) (List.replicate n (UInt8.ofNat x)) := by
  have e : (List.replicate n (UInt8.ofNat x)).map u8c = (List.range n).map fun _ => Value.int .u8 (x : Nat) := by
    rw [List.map_replicate]
    apply List.ext_getElem?
    intro i
    rw [List.getElem?_replicate, List.getElem?_map]
    by_cases hi : i < n
    · rw [if_pos hi, List.getElem?_range hi]
      simp only [Option.map_some, u8c, UInt8.toNat_ofNat']
      congr 3
      omega
    · rw [if_neg hi, List.getElem?_eq_none (by simp; omega)]; rfl
  refine ⟨_, _, by rw [List.length_replicate], ⟨by simp, .inr ⟨g, n, _, (0, 0), by rw [List.length_replicate], h, .inl rfl, by rw [List.length_replicate]; exact Nat.le_refl _, by unfold maxLen; omega, ?_, ?_⟩⟩, fun k hk => Nat.le_of_eq (own_b hk).symm⟩
  · simp
  · rw [e]
    simp only [Nat.mul_one]
    rw [List.length_replicate, List.take_of_length_le (by simp)]
def RunPost (w : World) (x n : Nat) (e : Ending) (w' : World) : Prop := ∃ a c, e = .returned (.slice a n c) ∧ RowM 5 u8c w.heap.size w' (.slice a n c) (List.replicate n (UInt8.ofNat x)) ∧ Kp (fun _ => False) w w'
set_option maxRecDepth 100000 in
set_option maxHeartbeats 1000000 in
theorem run_d (w : World) (x n : Nat) (hx : x < 256) (hn : n ≤ 500) : Calls Tryz.prog 29 #[.int .u8 (x : Nat), .int .i64 (n : Nat)] w (RunPost w x n) := by
  obtain ⟨cur, hcur, hmk⟩ := make_u8 w n (by omega)
  have U0 := UAt.made (w := w) hcur
  have KA := kp_alloc w (.cells cur 5)
  obtain ⟨W, hW⟩ : ∃ W, W = w.alloc (.cells cur 5) := ⟨_, rfl⟩
  rw [← hW] at U0 KA hmk
  have HU0 := Lib.hid U0
  have HKA := Lib.hid KA
  have HX := Lib.hid hx
  clear hW U0 KA hcur hx
  go_enter Tryz.func29, Tryz.ntmps29
  go_wp2_with fail
  go_loopw [6] (fun i wx => ∃ k : Nat, k ≤ n ∧ i = .int .i64 k ∧ UAt wx w.heap.size n (fun j => if j < k then x else 0) ∧ Kp (fun _ => False) w wx) (fun i _ => n - (intOf i).toNat)
  case atStart => exact ⟨0, Nat.zero_le _, rfl, by simpa using HU0.out, HKA.out⟩
  case round =>
    obtain ⟨k, hk, rfl, hu, hkp⟩ := hrel
    have HU := Lib.hid hu
    have HK := Lib.hid hkp
    clear hu hkp
    by_cases hlt : k < n
    · have d0 := HU.out.cell hlt
      rw [if_neg (Nat.lt_irrefl k)] at d0
      have f0 : wr.frozen? ⟨w.heap.size, k, none⟩ = false := free_of HU.out _
      have hkn : (k : Int) < (n : Int) := by omega
      have hk1 : IntKind.i64.wrap ((k : Int) + 1) = (k : Int) + 1 := by rw [IntKind.wrap_i64]; omega
      have US := Lib.hid (HU.out.set hlt x)
      have KS : Hid (Kp (fun _ => False) w (wr.setCell ⟨w.heap.size, k, none⟩ (.int .u8 (x : Nat)))) := Lib.hid (HK.out.setCell (fun q => absurd q (Nat.lt_irrefl _)) _)
      go_wp2_with fail
      refine ⟨⟨k + 1, by omega, by go_num, ?_, KS.out⟩, by simp [intOf]; omega⟩
      have := US.out
      refine (show (fun j => if j = k then x else if j < k then x else 0) = (fun j => if j < k + 1 then x else 0) from ?_) ▸ this
      funext j
      by_cases h1 : j = k
      · rw [if_pos h1, if_pos (by omega)]
      · by_cases h2 : j < k
        · rw [if_neg h1, if_pos h2, if_pos (by omega)]
        · rw [if_neg h1, if_neg h2, if_neg (by omega)]
    · obtain rfl : k = n := by omega
      obtain ⟨wo, rfl⟩ : ∃ wo : World, wo = wr := ⟨_, rfl⟩
      go_wp2_with fail
      go_ret
      have hu : UAt wo w.heap.size k (fun _ => x) := by
        have h := HU.out
        unfold UAt at h ⊢
        have e : ((List.range k).map fun i => Value.int .u8 (((fun j => if j < k then x else 0) i : Nat) : Int)) = ((List.range k).map fun i => Value.int .u8 (((fun _ => x) i : Nat) : Int)) := List.map_congr_left (fun i hi => by simp [List.mem_range.1 hi])
        rw [h, e]
      exact ⟨_, _, rfl, UAt.row HX.out hu (by omega), HK.out⟩
end Go.Proofs.YtphakpikalmghaaGreat.Un
