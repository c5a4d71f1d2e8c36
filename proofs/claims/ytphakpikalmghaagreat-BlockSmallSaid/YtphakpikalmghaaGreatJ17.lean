/- The document's Decode. The program's Decode. Lengths of counts may be; who has none has no length; who has more is not longer: in plain words. Counts of bytes, their lengths. block, in plain words: bytes as a row, data as a block. -/
import Derived.WalkMore
import Derived.Laws.MakeOwn
import Derived.Laws.Bits128
import Derived.Test.YtphakpikalmghaaGreatJ16
namespace Go.Proofs.YtphakpikalmghaaGreat.Rd
open Go Go.RowKit Go.Shelf Go.ChangeMaps Go.MapKept Go.Mg Go.Hf Go.Sort Go.Proofs.YtphakpikalmghaaGreat.Hu Go.Proofs.YtphakpikalmghaaGreat.Bw Go.Proofs.YtphakpikalmghaaGreat.He

def ob (o : List Nat) : List UInt8 := o.map UInt8.ofNat
theorem ob_len (o : List Nat) : (ob o).length = o.length := by simp [ob]
theorem ob_snoc (o : List Nat) (s : Nat) : ob (o ++ [s]) = ob o ++ [UInt8.ofNat s] := by simp [ob]
theorem infoU : (Tryz.prog.info? 5).map (fun i => (i.zero, i.size, i.bytes)) = some (some (.int .u8 0), 1, 1) := by kernel_rfl
theorem lit_u (w : World) (s : Nat) (hs : s < 256) : SlR (w.alloc (.cells #[.int .u8 (s : Nat)] 5)) 1 (.slice (some ⟨w.heap.size, 0, none⟩) 1 1) 1 ([UInt8.ofNat s].map u8c) := by
  refine ⟨by simp, _, _, rfl, Nat.le_refl _, by unfold maxLen; omega, (fun h => by cases h), fun _ => ⟨w.heap.size, 0, rfl, by simp, fun i u hu => ?_⟩⟩
  rw [Nat.zero_add, cell_of (alloc_at w _)]
  have e : u8c (UInt8.ofNat s) = .int .u8 (s : Nat) := by
    unfold u8c
    rw [UInt8.toNat_ofNat']
    congr 2
    omega
  simp only [List.map_cons, List.map_nil, e] at hu
  simpa using hu
/-- A row of one's own of bytes, all of it beyond B. -/
def RowU (B : Nat) (w : World) (v : Value) (l : List UInt8) : Prop := ∃ a c, v = .slice a l.length c ∧ OwnR w 5 1 v l.length (l.map u8c) ∧ ∀ k, v.ownBlock = some k → B ≤ k
theorem RowU.nil (B : Nat) (w : World) : RowU B w (.slice none 0 0) [] := ⟨none, 0, rfl, OwnR.nil _ _ _, fun k h => by cases h⟩
def DecPost (w : World) (xs : List Int) (l : List UInt8) (n : Int) (e : Ending) (w' : World) : Prop :=
  (∃ o, DecYes xs l n o ∧ (∃ v, e = .returned (.tuple #[v, .bool true]) ∧ RowU w.heap.size w' v (ob o)) ∧ Kp (fun _ => False) w w') ∨
  ((∀ o, ¬ DecYes xs l n o) ∧ e = .returned (.tuple #[.slice none 0 0, .bool false]) ∧ Kp (fun _ => False) w w')
theorem RowU.kp {B : Nat} {F : Nat → Prop} {w w' : World} {v : Value} {l : List UInt8} (h : RowU B w v l) (hk : Kp F w w') (hF : ∀ k, F k → k < B) : RowU B w' v l := by
  obtain ⟨a, c, e, h1, h2⟩ := h
  exact ⟨a, c, e, h1.kp hk (fun k q r => by have := h2 k q; have := hF k r; omega), h2⟩
theorem many_step {xs : List Int} {f : Nat → Bool} {r0 k : Nat} {o : List Nat} {r s r' : Nat} (h : manyS xs f r0 k = some (o, r)) (h1 : oneS xs f 11 1 0 r = some (s, r')) : manyS xs f r0 (k + 1) = some (o ++ [s], r') := by
  simp only [manyS, h, h1]
theorem many_fail {xs : List Int} {f : Nat → Bool} {r0 k : Nat} {o : List Nat} {r : Nat} (h : manyS xs f r0 k = some (o, r)) (h1 : oneS xs f 11 1 0 r = none) : manyS xs f r0 (k + 1) = none := by
  simp only [manyS, h, h1]
/-- A byte more: what the append leaves. -/
theorem RowU.app {B p : Nat} {w3 wr w2 w5 : World} {a : Option Addr} {c : Nat} {l : List UInt8} {b : UInt8} (hw : Kp (· = p) w3 wr) (hB : w3.heap.size = B) (h2 : Kp (fun _ => False) wr w2) (ho : ∀ k, (Value.slice a l.length c).ownBlock = some k → B ≤ k)
    {a' : Option Addr} {c' : Nat} (g1 : OwnR w5 5 1 (.slice a' (l.length + 1) c') (l.length + 1) (l.map u8c ++ [b].map u8c)) (g2 : Kp (fun k => (Value.slice a l.length c).ownBlock = some k) w2 w5)
    (g3 : (Value.slice a' (l.length + 1) c').ownBlock = (Value.slice a l.length c).ownBlock ∨ (Value.slice a' (l.length + 1) c').ownBlock = some w2.heap.size) :
    RowU B w5 (.slice a' (l.length + 1) c') (l ++ [b]) ∧ Kp (· = p) w3 w5 ∧ Kp (fun k => B ≤ k) wr w5 := by
  have h3 : Kp (fun k => B ≤ k) wr w5 := (h2.mono (fun _ _ q => q.elim)).trans2 g2 (fun i _ q => ho i q)
  refine ⟨⟨a', c', by simp, by rw [List.length_append, List.map_append]; exact g1, fun k hk => ?_⟩, hw.trans2 h3 (fun i hi q => by omega), h3⟩
  rcases g3 with q | q
  · exact ho k (q.symm.trans hk)
  · rw [hk] at q
    cases q
    have := hw.size; have := h2.size; omega
theorem many_stop {xs : List Int} {f : Nat → Bool} {r k : Nat} (h : manyS xs f r k = none) : ∀ j, k ≤ j → manyS xs f r j = none
  | 0, hj => by have : k = 0 := by omega
                subst this; exact h
  | j + 1, hj => by
    by_cases e : k = j + 1
    · subst e; exact h
    · simp only [manyS, many_stop h j (by omega)]
set_option maxRecDepth 100000 in
set_option maxHeartbeats 4000000 in
theorem decode_d (w : World) (xs : List Int) (a : Option Addr) (c : Nat) (h : Nm w a c xs) (hl : xs.length ≤ 300) (l : List UInt8) (ab : Option Addr) (cb' : Nat) (hb : SlR w 1 (.slice ab l.length cb') l.length (l.map u8c)) (hlb : l.length ≤ 10000) (n : Int) (hn : n ≤ 2000) :
    Calls Tryz.prog 62 #[.slice a xs.length c, .slice ab l.length cb', .int .i64 n] w (DecPost w xs l n) := by
  obtain ⟨i0, hi0, hz0, hz1, hz2⟩ := info_parts infoU
  have D0 := Lib.hid (newr_d w l ab cb' hb (by omega))
  have R0 := Lib.hid h
  have RB := Lib.hid hb
  clear h hb
  go_enter Tryz.func62, Tryz.ntmps62
  go_wp2_with fail
  refine D0.out.mono ?_
  rintro e w1 (⟨hgb, p, rfl, hp, hrd, hk1⟩ | ⟨hno, rfl, hw1⟩)
  · have HGB := Lib.hid hgb
    have HRD := Lib.hid hrd
    have HK1 := Lib.hid hk1
    have D1 := Lib.hid (is_d w1 xs a c (R0.out.kp hk1) (by omega))
    clear hgb hrd hk1 D0
    go_wp2_with fail
    refine D1.out.mono ?_
    rintro e w' ⟨z, hz, rfl, hw'⟩
    obtain rfl := hw'
    cases z with
    | false =>
      have HZ := Lib.hid (show ∀ o, ¬ DecYes xs l n o from fun o q => by have := hz.2 q.2.1; cases this)
      clear hz D1
      go_wp2_with fail
      go_ret2
      exact .inr ⟨HZ.out, rfl, HK1.out⟩
    | true =>
      have hok : IsOk xs := hz.1 rfl
      have hpos : 0 < xs.length := by
        apply Nat.pos_of_ne_zero
        intro e
        have : xs = [] := List.eq_nil_of_length_eq_zero e
        subst this
        obtain ⟨_, _, h | h⟩ := hok <;> simp [isSt] at h
      have HOK := Lib.hid hok
      clear hz D1 hok
      by_cases hn0 : n < 0
      · have HZ := Lib.hid (show ∀ o, ¬ DecYes xs l n o from fun o q => by have := q.2.2.1; omega)
        go_wp2_with fail
        go_ret2
        exact .inr ⟨HZ.out, rfl, HK1.out⟩
      · obtain ⟨N, rfl⟩ : ∃ N : Nat, n = (N : Nat) := ⟨n.toNat, by omega⟩
        have hN : N ≤ 2000 := by omega
        have HDY : Hid (∀ o, DecYes xs l (N : Nat) o ↔ manyS xs (bb l) (top l) N = some (o, 0)) := Lib.hid (fun o => ⟨fun q => by have := q.2.2.2; simpa using this, fun q => ⟨HGB.out, HOK.out, by omega, by simpa using q⟩⟩)
        clear hn0 hn
        go_wp2_with fail
        refine (codes_d w' xs a c (R0.out.kp HK1.out) hpos hl).mono ?_
        rintro e w3 ⟨gc, rfl, p1, p2, p3⟩
        obtain ⟨g, o, rfl, hg, hcap, hc⟩ := R0.out.lf_ hpos
        have hgc : gc < w3.heap.size := lt_of_at p2
        have hk3 := HK1.out.trans p3
        have hs1 := HK1.out.size
        have hpw := lt_of_at HRD.out.hp
        have htab : Tab w3 xs g o gc := fun i hi => ⟨p2.cell hi, (hk3.cell (p := ⟨g, o + i, none⟩) hg (fun q => q)).trans (hc i hi)⟩
        have hrd3 : RdD w3 p (top l) ab cb' l := HRD.out.kp p3 (fun q => q) (fun _ _ q => q)
        have hgp : g ≠ p := by omega
        have hgcp : gc ≠ p := by omega
        have ONE := Lib.hid (fun V (hk : Kp (· = p) w3 V) r (hr : RdD V p r ab cb' l) => one_d V xs g o c gc hl hcap (htab.kp hk ⟨by omega, hgp⟩ ⟨hgc, hgcp⟩) (by have := hk.size; omega) (by have := hk.size; omega) hgp hgcp hr (by omega))
        have HRD3 := Lib.hid hrd3
        have HK3 := Lib.hid hk3
        have HPS : Hid (w.heap.size ≤ p ∧ w.heap.size ≤ w3.heap.size ∧ p < w3.heap.size) := Lib.hid ⟨hp, hk3.size, by have := p3.size; omega⟩
        have HONT := Lib.hid (fun r s r' (q : oneS xs (bb l) 11 1 0 r = some (s, r')) => Nat.lt_of_lt_of_le (oneS_lt q) (show xs.length ≤ 256 from HOK.out.1))
        have HBL : Hid (∀ b, (Value.slice ab l.length cb').ownBlock = some b → b < w.heap.size) := Lib.hid (fun b hb => by
          obtain ⟨g2, o2, e2, h2, _⟩ := bytes_at RB.out HGB.out.1
          rw [e2] at hb; cases hb; exact h2)
        have HSL := Lib.hid (fun V r (hr : RdD V p r ab cb' l) => show V.cell? ⟨p, 1, none⟩ = some (.int .i64 (r : Nat)) by rw [cell_of hr.hp]; rfl)
        have HTL : Hid (∀ r, manyS xs (bb l) (top l) N = some r → r.2 ≤ 100000) := Lib.hid (fun r q => by have := manyS_le _ _ _ _ _ _ q; have := (top_lt HGB.out).1; omega)
        have HST : Hid (∀ k o r s r', manyS xs (bb l) (top l) k = some (o, r) → oneS xs (bb l) 11 1 0 r = some (s, r') → manyS xs (bb l) (top l) (k + 1) = some (o ++ [s], r')) := Lib.hid (fun _ _ _ _ _ => many_step)
        have HSF : Hid (∀ k o r, k < N → manyS xs (bb l) (top l) k = some (o, r) → oneS xs (bb l) 11 1 0 r = none → ∀ o, ¬ DecYes xs l (N : Nat) o) := Lib.hid (fun k o r hk h1 h2 o2 q => by
          have := (HDY.out o2).1 q
          rw [many_stop (many_fail h1 h2) N (by omega)] at this
          cases this)
        have HS0 : Hid (manyS xs (bb l) (top l) 0 = some ([], top l)) := Lib.hid rfl
        obtain ⟨MS, hMS⟩ : ∃ MS, MS = manyS xs (bb l) (top l) := ⟨_, rfl⟩
        rw [← hMS] at HST HSF HS0 HTL HDY
        clear hMS p1 p2 p3 hc htab hrd3 hk3 hgp hgcp hs1 hpw
        go_wp2_with fail
        go_loopw [11, 12] (fun u i wr => ∃ k : Nat, k ≤ N ∧ i = .int .i64 k ∧ ∃ o r, MS k = some (o, r) ∧ o.length = k ∧ RdD wr p r ab cb' l ∧ Kp (· = p) w3 wr ∧ RowU w3.heap.size wr u (ob o)) (fun _ i _ => N - (intOf i).toNat)
        case atStart => exact ⟨0, Nat.zero_le _, rfl, [], _, HS0.out, rfl, HRD3.out, Kp.refl _ _, RowU.nil _ _⟩
        case round =>
          obtain ⟨k, hk, rfl, os, r, hms, hol, hrd, hkw, hrow⟩ := hrel
          have HMS := Lib.hid hms
          have HRDW := Lib.hid hrd
          have HKW := Lib.hid hkw
          have HROW := Lib.hid hrow
          have HOL := Lib.hid hol
          clear hms hol hkw hrow
          by_cases hkN : k < N
          · clear hrd
            go_wp2_with fail
            refine (ONE.out _ HKW.out _ HRDW.out).mono ?_
            rintro e w4 (⟨s, r', h1, rfl, h3, h4⟩ | ⟨h1, rfl, h4⟩)
            · have hs := HONT.out _ _ _ h1
              have HM1 := Lib.hid (HST.out _ _ _ _ _ HMS.out h1)
              have HRD4 := Lib.hid h3
              have HK4 := Lib.hid (HKW.out.trans h4)
              have hrow4 := HROW.out.kp h4 (fun q e => by have := HPS.out; omega)
              obtain ⟨av, cv, rfl, hown, hbeyond⟩ := hrow4
              have HB := Lib.hid hbeyond
              have hkA := (Kp.refl (fun _ => False) w4).alloc (.cells #[.int .u8 (s : Nat)] 5)
              have KA := Lib.hid hkA
              have HO := Lib.hid (hown.kp hkA (fun _ _ q => q))
              have T := Lib.hid (lit_u w4 s hs)
              have hL : (ob os).length = k := by rw [ob_len]; exact HOL.out
              have HL := Lib.hid hL
              rw [hL] at HO
              clear h1 h3 h4 hown hbeyond hkA hL HROW
              have hk2 : k ≤ 2000 := by omega
              have hw8 : IntKind.u8.wrap (s : Int) = (s : Int) := by rw [IntKind.wrap_u8]; omega
              rw [HL.out]
              go_wp2_with (at_builtin; refine wpList_app _ rfl _ _ 22 rfl 5 i0 _ 1 1 Tryz.underlying22 hi0 hz0 hz1 hz2 rfl (by decide) (by decide) (.slice av k cv) k _ rfl HO.out (.slice (some ⟨w4.heap.size, 0, none⟩) 1 1) 1 _ rfl T.out (u8c_one _) (by omega) ?_; intro v1 w5 g1 g2 g3 g4 g5; obtain ⟨b1, d1, rfl⟩ := g1.form; have G := Lib.hid (RowU.app (l := ob os) HK4.out rfl KA.out HB.out (by rw [HL.out]; exact g1) (by rw [HL.out]; exact g2) (by rw [HL.out]; exact g3)); clear g1 g2 g3 g4 g5)
              refine ⟨⟨k + 1, by omega, by go_num, os ++ [s], r', HM1.out, by simp [HOL.out], ?_, G.out.2.1, ?_⟩, by simp [intOf]; omega⟩
              · refine HRD4.out.kp G.out.2.2 (fun q => by have := HPS.out; omega) (fun b hb q => ?_)
                have := HBL.out b hb; have := HPS.out; omega
              · rw [ob_snoc]
                have := G.out.1
                rwa [HL.out] at this
            · have HZ := Lib.hid (HSF.out _ _ _ hkN HMS.out h1)
              have HK4 := Lib.hid (HK3.out.trans2 (HKW.out.trans h4) (fun i hi q => by have := HPS.out; omega))
              clear h1 h4
              go_wp2_with fail
              go_ret2
              exact .inr ⟨HZ.out, rfl, HK4.out⟩
          · obtain rfl : k = N := by omega
            have d1 := HSL.out _ _ hrd
            have HK4 := Lib.hid (HK3.out.trans2 HKW.out (fun i hi q => by have := HPS.out; omega))
            have hr5 := HTL.out _ HMS.out
            clear hrd
            by_cases hr0 : r = 0
            · have HY := Lib.hid ((HDY.out os).2 (by rw [HMS.out, hr0]))
              rw [hr0] at d1
              clear hr0 hr5
              go_wp2_with fail
              go_ret2
              exact .inl ⟨os, HY.out, ⟨_, rfl, by
                obtain ⟨a2, c2, e2, h1, h2⟩ := HROW.out
                exact ⟨a2, c2, e2, h1, fun k hk => by have := h2 k hk; have := HPS.out; omega⟩⟩, HK4.out⟩
            · have HZ := Lib.hid (show ∀ o, ¬ DecYes xs l (k : Nat) o from fun o q => by
                have := (HDY.out o).1 q
                rw [HMS.out] at this
                cases this
                exact hr0 rfl)
              have hr1 : 0 < r := by omega
              clear hr0
              go_wp2_with fail
              go_ret2
              exact .inr ⟨HZ.out, rfl, HK4.out⟩
  · obtain rfl := hw1
    have HZ := Lib.hid (show ∀ o, ¬ DecYes xs l n o from fun o q => hno q.1)
    clear D0 hno
    go_wp2_with fail
    go_ret2
    exact .inr ⟨HZ.out, rfl, Kp.refl _ _⟩
end Go.Proofs.YtphakpikalmghaaGreat.Rd

namespace Go.Proofs.YtphakpikalmghaaGreat.Rd
open Go Go.RowKit Go.Shelf Go.ChangeMaps Go.MapKept Go.Mg Go.Hf Go.Sort Go.Proofs.YtphakpikalmghaaGreat.Hu Go.Proofs.YtphakpikalmghaaGreat.Bw Go.Proofs.YtphakpikalmghaaGreat.He

set_option maxRecDepth 100000 in
set_option maxHeartbeats 4000000 in
theorem decode_p (w : World) (xs : List Int) (a : Option Addr) (c : Nat) (h : Nm w a c xs) (hl : xs.length ≤ 300) (l : List UInt8) (ab : Option Addr) (cb' : Nat) (hb : SlR w 1 (.slice ab l.length cb') l.length (l.map u8c)) (hlb : l.length ≤ 10000) (n : Int) (hn : n ≤ 2000) :
    Calls Tryz.prog 93 #[.slice a xs.length c, .slice ab l.length cb', .int .i64 n] w (DecPost w xs l n) := by
  obtain ⟨i0, hi0, hz0, hz1, hz2⟩ := info_parts infoU
  have D0 := Lib.hid (newr_p w l ab cb' hb (by omega))
  have R0 := Lib.hid h
  clear h hb
  go_enter Tryz.func93, Tryz.ntmps93
  go_wp2_with fail
  refine wp_scope_straight ?_
  go_wp2_with fail
  refine D0.out.mono ?_
  rintro e w1 (⟨hgb, p, rfl, hrd, hk1⟩ | ⟨hno, rfl, hw1⟩)
  · have HGB := Lib.hid hgb
    have HRD := Lib.hid hrd
    have HK1 := Lib.hid hk1
    have D1 := Lib.hid (is_p w1 xs a c (R0.out.kp hk1) (by omega))
    have hp : w.heap.size ≤ p ∧ p < w1.heap.size := by obtain ⟨_, _, q⟩ := hrd; exact q.fp
    clear hgb hrd hk1 D0
    go_wp2_with fail
    refine D1.out.mono ?_
    rintro e w' ⟨z, hz, rfl, hw'⟩
    obtain rfl := hw'
    cases z with
    | false =>
      have HZ := Lib.hid (show ∀ o, ¬ DecYes xs l n o from fun o q => by have := hz.2 q.2.1; cases this)
      clear hz D1
      go_wp2_with fail
      go_ret2
      exact .inr ⟨HZ.out, rfl, HK1.out⟩
    | true =>
      have hok : IsOk xs := hz.1 rfl
      have hpos : 0 < xs.length := by
        apply Nat.pos_of_ne_zero
        intro e
        have : xs = [] := List.eq_nil_of_length_eq_zero e
        subst this
        obtain ⟨_, _, h | h⟩ := hok <;> simp [isSt] at h
      have HOK := Lib.hid hok
      clear hz D1 hok
      by_cases hn0 : n < 0
      · have HZ := Lib.hid (show ∀ o, ¬ DecYes xs l n o from fun o q => by have := q.2.2.1; omega)
        go_wp2_with fail
        go_ret2
        exact .inr ⟨HZ.out, rfl, HK1.out⟩
      · obtain ⟨N, rfl⟩ : ∃ N : Nat, n = (N : Nat) := ⟨n.toNat, by omega⟩
        have hN : N ≤ 2000 := by omega
        have HDY : Hid (∀ o, DecYes xs l (N : Nat) o ↔ manyS xs (bb l) (top l) N = some (o, 0)) := Lib.hid (fun o => ⟨fun q => by have := q.2.2.2; simpa using this, fun q => ⟨HGB.out, HOK.out, by omega, by simpa using q⟩⟩)
        have hT8 := (top_lt HGB.out).1
        have LEFT := Lib.hid (left_p HRD.out)
        obtain ⟨T, hT⟩ : ∃ T, T = top l := ⟨_, rfl⟩
        rw [← hT] at LEFT HDY HRD hT8
        have hT5 : T ≤ 100000 := by omega
        clear hn0 hn hT8
        by_cases hNT : T < N
        · have HZ := Lib.hid (show ∀ o, ¬ DecYes xs l (N : Nat) o from fun o q => by
            have := (manyS_le _ _ _ _ _ _ ((HDY.out o).1 q)).1; omega)
          go_wp2_with fail
          refine LEFT.out.mono ?_
          rintro e w2 ⟨rfl, hw2⟩
          obtain rfl := hw2
          go_wp2_with fail
          go_ret2
          exact .inr ⟨HZ.out, rfl, HK1.out⟩
        · go_wp2_with fail
          refine LEFT.out.mono ?_
          rintro e w2 ⟨rfl, hw2⟩
          obtain rfl := hw2
          go_wp2_with fail
          refine (codes_p w2 xs a c (R0.out.kp HK1.out) hpos hl).mono ?_
          rintro e w3 ⟨gc, rfl, p1, p2, p3⟩
          obtain ⟨g, o, rfl, hg, hcap, hc⟩ := R0.out.lf_ hpos
          have hgc : gc < w3.heap.size := lt_of_at p2
          have hk3 := HK1.out.trans p3
          have hs3 := p3.size
          have htab : Tab w3 xs g o gc := fun i hi => ⟨p2.cell hi, (hk3.cell (p := ⟨g, o + i, none⟩) hg (fun q => q)).trans (hc i hi)⟩
          have hgp : g ≠ p := by omega
          have hgcp : gc ≠ p := by omega
          have HFD := Lib.hid (fun V (hk : Kp (· = p) w3 V) => found_p V xs g o c gc hl hcap (htab.kp hk ⟨by omega, hgp⟩ ⟨hgc, hgcp⟩))
          have HRD3 := Lib.hid (HRD.out.kp p3 (fun _ _ q => q))
          have HK3 := Lib.hid hk3
          have HPS : Hid (w.heap.size ≤ p ∧ w.heap.size ≤ w3.heap.size ∧ p < w2.heap.size ∧ w2.heap.size ≤ w3.heap.size) := Lib.hid ⟨hp.1, hk3.size, hp.2, hs3⟩
          have HBN := Lib.hid (fun k => bn_lt (bb l) k)
          have HONT := Lib.hid (fun r s r' (q : oneS xs (bb l) 11 1 0 r = some (s, r')) => Nat.lt_of_lt_of_le (oneS_lt q) (show xs.length ≤ 256 from HOK.out.1))
          have HTL : Hid (∀ k r, manyS xs (bb l) T k = some r → r.2 ≤ 100000) := Lib.hid (fun k r q => by have := manyS_le _ _ _ _ _ _ q; omega)
          have HST : Hid (∀ k o r s r', manyS xs (bb l) T k = some (o, r) → oneS xs (bb l) 11 1 0 r = some (s, r') → manyS xs (bb l) T (k + 1) = some (o ++ [s], r')) := Lib.hid (fun _ _ _ _ _ => many_step)
          have HSF : Hid (∀ k o r, k < N → manyS xs (bb l) T k = some (o, r) → oneS xs (bb l) 11 1 0 r = none → ∀ o, ¬ DecYes xs l (N : Nat) o) := Lib.hid (fun k o r hk h1 h2 o2 q => by
            have := (HDY.out o2).1 q
            rw [many_stop (many_fail h1 h2) N (by omega)] at this
            cases this)
          have HS0 : Hid (manyS xs (bb l) T 0 = some ([], T)) := Lib.hid rfl
          obtain ⟨MS, hMS⟩ : ∃ MS, MS = manyS xs (bb l) T := ⟨_, rfl⟩
          rw [← hMS] at HST HSF HS0 HTL HDY
          clear hMS p1 p2 p3 hc htab hk3 hgp hgcp hs3 LEFT hp hT
          go_wp2_with fail
          refine wp_label ?_
          go_wp2_with fail
          go_loopw [11, 42] (fun u i wr => ∃ k : Nat, k ≤ N ∧ i = .int .i64 k ∧ ∃ o r, MS k = some (o, r) ∧ o.length = k ∧ RdIn 175 (fun k => w.heap.size ≤ k ∧ k < w2.heap.size) wr p r (bb l) ∧ Kp (· = p) w3 wr ∧ RowU w3.heap.size wr u (ob o)) (fun _ i _ => N - (intOf i).toNat)
          case atStart => exact ⟨0, Nat.zero_le _, rfl, [], _, HS0.out, rfl, HRD3.out, Kp.refl _ _, RowU.nil _ _⟩
          case round =>
            obtain ⟨k, hk, rfl, os, r, hms, hol, hrd, hkw, hrow⟩ := hrel
            have HMS := Lib.hid hms
            have HRDW := Lib.hid hrd
            have HKW := Lib.hid hkw
            have HROW := Lib.hid hrow
            have HOL := Lib.hid hol
            have hr5 := HTL.out _ _ hms
            clear hms hol hkw hrow hrd
            by_cases hkN : k < N
            · obtain ⟨ONE, hONE⟩ : ∃ ONE, ONE = oneS xs (bb l) 11 1 0 r := ⟨_, rfl⟩
              have HONE := Lib.hid hONE
              clear hONE
              simp only at hr5
              obtain ⟨av, cv, rfl, hown, hbeyond⟩ := HROW.out
              have HB := Lib.hid hbeyond
              have HO := Lib.hid hown
              have hL : (ob os).length = k := by rw [ob_len]; exact HOL.out
              have HL := Lib.hid hL
              rw [hL] at HO ⊢
              clear hown hbeyond hL
              go_wp2_with fail
              go_loopw [11, 12, 13] (fun v u i wr2 => v = .slice av k cv ∧ ∃ n code r' : Nat, n ≤ 11 ∧ i = .int .i64 ((n : Nat) + 1) ∧ u = .int .i64 code ∧ code < 2 ^ n ∧ r' ≤ 100000 ∧ RdIn 175 (fun k => w.heap.size ≤ k ∧ k < w2.heap.size) wr2 p r' (bb l) ∧ Kp (· = p) wr wr2 ∧ ONE = oneS xs (bb l) (11 - n) (n + 1) code r') (fun _ _ i _ => 12 - (intOf i).toNat)
              case atStart => exact ⟨rfl, 0, 0, r, by omega, rfl, rfl, by omega, hr5, HRDW.out, Kp.refl _ _, HONE.out⟩
              case round =>
                obtain ⟨rfl, n, code, r', hn, rfl, rfl, hcode, hr5', hrd, hkr, hone⟩ := hrel
                have h11 : 2 ^ n ≤ 2 ^ 11 := Nat.pow_le_pow_right (by omega) hn
                have e11 : 2 ^ 11 = 2048 := rfl
                have hc2 : code ≤ 8388608 := by omega
                have hP : 2 ^ (n + 1) = 2 * 2 ^ n := by rw [Nat.pow_succ]; omega
                have HC1 := Lib.hid hcode
                have HP := Lib.hid hP
                have HKR := Lib.hid hkr
                have TK := Lib.hid (take_p hrd (by omega) 1 (by omega))
                have HE := Lib.hid hone
                clear hrd hkr hone h11 e11 hcode hP
                by_cases hn11 : n = 11
                · subst hn11
                  have HZ := Lib.hid (HSF.out _ _ _ hkN HMS.out (HONE.out.symm.trans HE.out))
                  have HK4 := Lib.hid (HK3.out.trans2 (HKW.out.trans HKR.out) (fun i hi q => by have := HPS.out; omega))
                  clear TK
                  go_wp2_with fail
                  go_ret2
                  exact .inr ⟨HZ.out, rfl, HK4.out⟩
                · have hn10 : n ≤ 10 := by omega
                  obtain ⟨m, hm⟩ : ∃ m, 11 - n = m + 1 := ⟨10 - n, by omega⟩
                  have HM := Lib.hid hm
                  clear hm hn11
                  go_wp2_with fail
                  refine TK.out.mono ?_
                  rintro e w4 (⟨hr1, rfl, hrd1, hk1⟩ | ⟨hr1, rfl, rfl⟩)
                  · obtain ⟨q, rfl⟩ : ∃ q, r' = q + 1 := ⟨r' - 1, by omega⟩
                    rw [Nat.add_one_sub_one] at hrd1
                    rw [Nat.add_one_sub_one, nv_one]
                    have hb2 := HBN.out q
                    have HHIT : Hid (∀ s, fd xs ((2 * code + bn (bb l) q : Nat) : Int) ((n : Int) + 1) xs.length = some s → ONE = some (s, q)) := Lib.hid (fun s hs => by
                      rw [HE.out, HM.out]; exact one_hit (n := n + 1) (by rw [Int.natCast_add n 1]; exact hs))
                    have HMISS : Hid (fd xs ((2 * code + bn (bb l) q : Nat) : Int) ((n : Int) + 1) xs.length = none → ONE = oneS xs (bb l) (11 - (n + 1)) (n + 1 + 1) (2 * code + bn (bb l) q) q) := Lib.hid (fun hs => by
                      rw [HE.out, HM.out, show 11 - (n + 1) = m by have := HM.out; omega]; exact one_miss (n := n + 1) (by rw [Int.natCast_add n 1]; exact hs))
                    have HRD1 := Lib.hid hrd1
                    have HK1' := Lib.hid (HKR.out.trans hk1)
                    have HSY := Lib.hid (HFD.out w4 (HKW.out.trans HK1'.out) ((2 * code + bn (bb l) q : Nat) : Int) ((n : Int) + 1))
                    obtain ⟨b, hb⟩ : ∃ b, b = bn (bb l) q := ⟨_, rfl⟩
                    rw [← hb] at hb2 HSY HHIT HMISS ⊢
                    obtain ⟨C, hC⟩ : ∃ C, C = 2 * code + b := ⟨_, rfl⟩
                    have hCi : (code : Int) * 2 + (b : Int) = (C : Nat) := by omega
                    rw [← hC] at HSY HHIT HMISS
                    have HCC := Lib.hid hC
                    clear TK hrd1 hk1 HE HM hb hr1 hC
                    go_wp2_with fail
                    refine HSY.out.mono ?_
                    rintro e w5 ⟨rfl, hw5⟩
                    obtain rfl := hw5
                    cases hfd : fd xs (C : Int) ((n : Int) + 1) xs.length with
                    | some s =>
                      have h1 := HHIT.out s hfd
                      rw [HONE.out] at h1
                      have hs := HONT.out _ _ _ h1
                      have HM1 := Lib.hid (HST.out _ _ _ _ _ HMS.out h1)
                      have hkA := (Kp.refl (fun _ => False) w5).alloc (.cells #[.int .u8 (s : Nat)] 5)
                      have KA := Lib.hid hkA
                      have HO5 := Lib.hid ((HO.out.kp HK1'.out (fun b hb e => by have := HB.out b (by rw [HL.out]; exact hb); have := HPS.out; omega)).kp hkA (fun _ _ q => q))
                      have T1 := Lib.hid (lit_u w5 s hs)
                      have HK5 := Lib.hid (HKW.out.trans HK1'.out)
                      clear hfd HSY HHIT HMISS h1 hkA
                      have hk2 : k ≤ 2000 := by omega
                      have hw8 : IntKind.u8.wrap (s : Int) = (s : Int) := by rw [IntKind.wrap_u8]; omega
                      simp only [fdv]
                      go_wp2_with (at_builtin; refine wpList_app _ rfl _ _ 22 rfl 5 i0 _ 1 1 Tryz.underlying22 hi0 hz0 hz1 hz2 rfl (by decide) (by decide) (.slice av k cv) k _ rfl HO5.out (.slice (some ⟨w5.heap.size, 0, none⟩) 1 1) 1 _ rfl T1.out (u8c_one _) (by omega) ?_; intro v1 w6 g1 g2 g3 g4 g5; obtain ⟨b1, d1, rfl⟩ := g1.form; have G := Lib.hid (RowU.app (l := ob os) HK5.out rfl KA.out HB.out (by rw [HL.out]; exact g1) (by rw [HL.out]; exact g2) (by rw [HL.out]; exact g3)); clear g1 g2 g3 g4 g5)
                      refine ⟨⟨k + 1, by omega, by go_num, os ++ [s], q, HM1.out, by simp [HOL.out], ?_, G.out.2.1, ?_⟩, by simp [intOf]; omega⟩
                      · exact HRD1.out.kp G.out.2.2 (fun b hb q => by have := HPS.out; omega)
                      · rw [ob_snoc]
                        have := G.out.1
                        rwa [HL.out] at this
                    | none =>
                      have HH := Lib.hid (HMISS.out hfd)
                      clear hfd HSY HHIT HMISS
                      simp only [fdv]
                      go_wp2_with fail
                      refine ⟨⟨by first | rfl | trivial, n + 1, C, q, by omega, by go_num, rfl, ?_, by omega, HRD1.out, HK1'.out, HH.out⟩, by simp [intOf]; omega⟩
                      have := HC1.out
                      have := HP.out
                      have := HCC.out
                      omega
                  · obtain rfl : r' = 0 := by omega
                    have HZ := Lib.hid (HSF.out _ _ _ hkN HMS.out (HONE.out.symm.trans (by rw [HE.out, HM.out]; exact one_dry)))
                    have HK4 := Lib.hid (HK3.out.trans2 (HKW.out.trans HKR.out) (fun i hi q => by have := HPS.out; omega))
                    clear TK HE HM
                    go_wp2_with fail
                    go_ret2
                    exact .inr ⟨HZ.out, rfl, HK4.out⟩
            · obtain rfl : k = N := by omega
              have LEFT := Lib.hid (left_p HRDW.out)
              have HK4 := Lib.hid (HK3.out.trans2 HKW.out (fun i hi q => by have := HPS.out; omega))
              simp only at hr5
              go_wp2_with fail
              refine LEFT.out.mono ?_
              rintro e w2 ⟨rfl, hw2⟩
              obtain rfl := hw2
              by_cases hr0 : r = 0
              · have HY := Lib.hid ((HDY.out os).2 (by rw [HMS.out, hr0]))
                subst hr0
                go_wp2_with fail
                go_ret2
                exact .inl ⟨os, HY.out, ⟨_, rfl, by
                  obtain ⟨a2, c2, e2, h1, h2⟩ := HROW.out
                  exact ⟨a2, c2, e2, h1, fun k hk => by have := h2 k hk; have := HPS.out; omega⟩⟩, HK4.out⟩
              · have HZ := Lib.hid (show ∀ o, ¬ DecYes xs l (k : Nat) o from fun o q => by
                  have := (HDY.out o).1 q
                  rw [HMS.out] at this
                  cases this
                  exact hr0 rfl)
                have hr1 : 0 < r := by omega
                clear hr0
                go_wp2_with fail
                go_ret2
                exact .inr ⟨HZ.out, rfl, HK4.out⟩
  · obtain rfl := hw1
    have HZ := Lib.hid (show ∀ o, ¬ DecYes xs l n o from fun o q => hno q.1)
    clear D0 hno
    go_wp2_with fail
    go_ret2
    exact .inr ⟨HZ.out, rfl, Kp.refl _ _⟩
end Go.Proofs.YtphakpikalmghaaGreat.Rd
namespace Go.Hf
theorem mem_forest {cs : List Nat} {t : Tr} (h : t ∈ forest cs) : ∃ j, ∃ h : j < cs.length, t = leaf j cs[j] ∧ 0 < cs[j] := by
  obtain ⟨j, hj, e, h⟩ := mem_forestFrom h
  rw [Nat.zero_add] at e
  exact ⟨j, hj, e, h⟩
theorem forest_at {cs : List Nat} {j : Nat} (hj : j < cs.length) (h : 0 < cs[j]) : leaf j cs[j] ∈ forest cs := by
  have := forestFrom_at (k := 0) hj h
  rwa [Nat.zero_add] at this
/-- Who has a count has a length, and nobody else. -/
theorem Jd.pos {cs : List Nat} {L : Nat → Nat} (h : Jd cs L) (i : Nat) : 0 < L i ↔ ∃ h : i < cs.length, 0 < cs[i] := by
  rcases h with ⟨t, e, rfl⟩ | ⟨hn, hr⟩
  · obtain ⟨j, hj, et, hp⟩ := mem_forest (t := t) (by rw [e]; simp)
    have em : t.m = j := by rw [et]; rfl
    simp only
    constructor
    · intro q
      split at q
      · rename_i ei
        subst ei
        rw [em]
        exact ⟨hj, hp⟩
      · omega
    · rintro ⟨hi, hpi⟩
      have := forest_at hi hpi
      rw [e, List.mem_singleton] at this
      have : t.m = i := by rw [← this]; rfl
      rw [if_pos this.symm]
      omega
  · have hF := Fst.start cs
    obtain ⟨D, d1, d0, d2, _⟩ := hr.depths hF.nd hF.mem (fun t ht => by obtain ⟨j, hj, rfl, h⟩ := mem_forest ht; exact h)
    constructor
    · intro q
      apply Classical.byContradiction
      intro hno
      have := d0 i (fun t ht hi => by
        obtain ⟨j, hj, rfl, h⟩ := mem_forest ht
        simp only [leaf, List.mem_singleton] at hi
        subst hi
        exact hno ⟨hj, h⟩)
      omega
    · rintro ⟨hi, hpi⟩
      have ht := forest_at hi hpi
      have h2 : 2 ≤ (forest cs).length := by
        have := List.length_pos_of_mem ht
        omega
      have := d1 _ ht i (by simp [leaf])
      have := d2 h2 _ ht
      omega
theorem half_pos (c : Nat) : 0 < half c ↔ 0 < c := by unfold half; omega
theorem IsLens.pos {cs : List Nat} {L : Nat → Nat} (h : IsLens cs L) (i : Nat) : 0 < L i ↔ ∃ h : i < cs.length, 0 < cs[i] := by
  induction h with
  | done h _ => exact h.pos i
  | half _ _ _ ih =>
    rw [ih]
    constructor
    · rintro ⟨h, q⟩
      have h' := h
      rw [List.length_map] at h'
      refine ⟨h', ?_⟩
      rw [List.getElem_map, half_pos] at q
      exact q
    · rintro ⟨h, q⟩
      exact ⟨by rw [List.length_map]; exact h, by rw [List.getElem_map, half_pos]; exact q⟩
theorem IsLens.le {cs : List Nat} {L : Nat → Nat} (h : IsLens cs L) (i : Nat) (hi : i < cs.length) : L i ≤ 11 := by
  induction h with
  | done _ hs => exact hs i hi
  | half _ _ _ ih => exact ih (by rw [List.length_map]; exact hi)
/-- The sums of the trees. -/
def KR (F : List Tr) (L : Nat → Nat) : Prop := ∀ t, t ∈ F → ∀ M, (∀ i, i ∈ t.s → L i ≤ M) → (t.s.map fun i => 2 ^ (M - L i)).sum = 2 ^ M
theorem Run.kraft {F : List Tr} {L L' : Nat → Nat} (h : Run F L L') (hn : (F.flatMap Tr.s).Nodup) (hk : KR F L) (h0 : F ≠ []) : ∀ M, (∀ i, i ∈ F.flatMap Tr.s → L' i ≤ M) → ((F.flatMap Tr.s).map fun i => 2 ^ (M - L' i)).sum = 2 ^ M := by
  induction h with
  | stop hl =>
    rename_i F L
    intro M hM
    match F, hl, h0 with
    | [t], _, _ =>
      simp only [List.flatMap_cons, List.flatMap_nil, List.append_nil] at hM ⊢
      exact hk t (by simp) M hM
  | step hp ha hb hc hr hrun ih =>
    rename_i F L L' a b c r r'
    have hnd := ((hp.flatMap_right Tr.s).nodup_iff).1 hn
    rw [List.flatMap_cons, List.flatMap_cons] at hnd
    have hcr : (c.s ++ r.flatMap Tr.s).Perm (a.s ++ (b.s ++ r.flatMap Tr.s)) := by rw [← List.append_assoc]; exact hc.s.append_right _
    have hcn : (c.s ++ r.flatMap Tr.s).Nodup := (hcr.nodup_iff).2 hnd
    have hcs := (nodup_app.1 hcn).1
    have hFr : (F.flatMap Tr.s).Perm (r'.flatMap Tr.s) := by
      refine (hp.flatMap_right Tr.s).trans (List.Perm.trans ?_ (hr.flatMap_right Tr.s).symm)
      rw [List.flatMap_cons, List.flatMap_cons, List.flatMap_cons]
      exact hcr.symm
    have hcnt : ∀ i, i ∈ c.s → bump c.s L i = L i + 1 := fun i hi => by
      have := List.count_pos_iff.2 hi
      have := count_le_one hcs i
      unfold bump; omega
    have hnot : ∀ t, t ∈ r → ∀ i, i ∈ t.s → bump c.s L i = L i := fun t ht i hi => bump_not (fun hic => (nodup_app.1 hcn).2.2 i hic (List.mem_flatMap.2 ⟨t, ht, hi⟩)) L
    intro M hM
    have e := ih (((hr.flatMap_right Tr.s).nodup_iff).2 (by rw [List.flatMap_cons]; exact hcn)) ?_ (fun q => by have := hr.length_eq; rw [q] at this; simp at this) M (fun i hi => hM i (hFr.mem_iff.2 hi))
    · rw [sum_perm (hFr.map _)]; exact e
    · intro t ht M' hM'
      rcases List.mem_cons.1 (hr.mem_iff.1 ht) with rfl | ht
      · by_cases hs : t.s = []
        · exfalso
          have h1 := hk a (hp.mem_iff.2 (by simp)) 0 (fun i hi => by
            have := hc.mem_s.2 (.inl hi)
            rw [hs] at this; cases this)
          have h2 : a.s = [] := by
            cases h : a.s with
            | nil => rfl
            | cons x l => have := hc.mem_s.2 (.inl (by rw [h]; exact List.mem_cons_self)); rw [hs] at this; cases this
          rw [h2] at h1
          simp at h1
        · obtain ⟨x, hx⟩ := List.exists_mem_of_ne_nil _ hs
          have h1 := hM' x hx
          rw [hcnt x hx] at h1
          obtain ⟨M1, rfl⟩ : ∃ M1, M' = M1 + 1 := ⟨M' - 1, by omega⟩
          have hle : ∀ i, i ∈ t.s → L i ≤ M1 := fun i hi => by have := hM' i hi; rw [hcnt i hi] at this; omega
          have e1 : (t.s.map fun i => 2 ^ (M1 + 1 - bump t.s L i)) = t.s.map fun i => 2 ^ (M1 - L i) := List.map_congr_left (fun i hi => by rw [hcnt i hi]; congr 1; omega)
          rw [e1, sum_perm (hc.s.map _), List.map_append, List.sum_append, hk a (hp.mem_iff.2 (by simp)) M1 (fun i hi => hle i (hc.mem_s.2 (.inl hi))), hk b (hp.mem_iff.2 (by simp)) M1 (fun i hi => hle i (hc.mem_s.2 (.inr hi)))]
          rw [Nat.pow_succ]
          omega
      · have e1 : (t.s.map fun i => 2 ^ (M' - bump c.s L i)) = t.s.map fun i => 2 ^ (M' - L i) := List.map_congr_left (fun i hi => by rw [hnot t ht i hi])
        rw [e1]
        exact hk t (hp.mem_iff.2 (by simp [ht])) M' (fun i hi => by have := hM' i hi; rwa [hnot t ht i hi] at this)
theorem KR.start (cs : List Nat) : KR (forest cs) (fun _ => 0) := by
  intro t ht M _
  obtain ⟨j, hj, rfl, _⟩ := mem_forest ht
  simp [leaf]
/-- The lengths as numbers. -/
def lensOf (N : Nat) (L : Nat → Nat) : List Int := (List.range N).map fun i => (L i : Int)
theorem lensOf_succ (N : Nat) (L : Nat → Nat) : lensOf (N + 1) L = lensOf N L ++ [(L N : Int)] := by simp [lensOf, List.range_succ]
theorem isSt_lens (L : Nat → Nat) : ∀ (cs : List Nat), (∀ i (h : i < cs.length), 0 < L i ↔ 0 < cs[i]) → (isSt (lensOf cs.length L)).1 = ((forest cs).map fun t => 2 ^ (11 - L t.m)).sum ∧ (isSt (lensOf cs.length L)).2.1 = (forest cs).length := by
  intro cs
  have h : ∀ l : List Nat, (∀ i (h : i < l.reverse.length), 0 < L i ↔ 0 < l.reverse[i]) → (isSt (lensOf l.reverse.length L)).1 = ((forest l.reverse).map fun t => 2 ^ (11 - L t.m)).sum ∧ (isSt (lensOf l.reverse.length L)).2.1 = (forest l.reverse).length := by
    intro l
    induction l with
    | nil => intro _; simp [lensOf, isSt, forest, forestFrom]
    | cons c l ih =>
      intro hp
      rw [List.reverse_cons] at hp ⊢
      have hl : (l.reverse ++ [c]).length = l.reverse.length + 1 := by simp
      have ih := ih (fun i h => by
        have := hp i (by rw [hl]; omega)
        rwa [List.getElem_append_left h] at this)
      have hc := hp l.reverse.length (by rw [hl]; omega)
      rw [List.getElem_append_right (Nat.le_refl _)] at hc
      simp only [Nat.sub_self, List.getElem_cons_zero] at hc
      rw [hl, lensOf_succ, isSt_snoc, forest_snoc]
      unfold isStep
      by_cases q : 0 < c
      · have q2 := hc.2 q
        rw [if_pos (by omega), if_pos q]
        simp only [List.map_append, List.sum_append, List.length_append, List.map_cons, List.map_nil, List.sum_cons, List.sum_nil, List.length_cons, List.length_nil, leaf, Int.toNat_natCast]
        omega
      · have q2 : ¬ 0 < L l.reverse.length := fun z => q (hc.1 z)
        rw [if_neg (by omega), if_neg q]
        simpa using ih
  have := h cs.reverse
  rw [List.reverse_reverse] at this
  exact this
theorem forest_syms (cs : List Nat) : (forest cs).flatMap Tr.s = (forest cs).map Tr.m := forestFrom_syms
/-- Lengths of counts may be, where there is a count; else they may not. -/
theorem Jd.isOk {cs : List Nat} {L : Nat → Nat} (h : Jd cs L) (hl : cs.length ≤ 256) (hs : ∀ i, i < cs.length → L i ≤ 11) : IsOk (lensOf cs.length L) ↔ ∃ c, c ∈ cs ∧ 0 < c := by
  have hpos : ∀ i (h : i < cs.length), 0 < L i ↔ 0 < cs[i] := fun i hi => by rw [h.pos i]; exact ⟨fun ⟨_, q⟩ => q, fun q => ⟨hi, q⟩⟩
  obtain ⟨h1, h2⟩ := isSt_lens L cs hpos
  have hin : InR (lensOf cs.length L) := by
    intro x hx
    obtain ⟨i, hi, rfl⟩ := List.mem_map.1 hx
    have := hs i (List.mem_range.1 hi)
    omega
  have hlen : (lensOf cs.length L).length ≤ 256 := by simp [lensOf]; exact hl
  have hex : (∃ c, c ∈ cs ∧ 0 < c) ↔ forest cs ≠ [] := by
    constructor
    · rintro ⟨c, hc, hp⟩ e
      obtain ⟨j, hj, rfl⟩ := List.getElem_of_mem hc
      have := forest_at hj hp
      rw [e] at this; cases this
    · intro hne
      obtain ⟨t, ht⟩ := List.exists_mem_of_ne_nil _ hne
      obtain ⟨j, hj, _, hp⟩ := mem_forest ht
      exact ⟨_, List.getElem_mem hj, hp⟩
  rw [hex]
  constructor
  · rintro ⟨_, _, h | h⟩ e
    · rw [h2, e] at h; simp at h
    · rw [h1, e] at h; simp at h
  · intro hne
    refine ⟨hlen, hin, ?_⟩
    rcases h with ⟨t, e, rfl⟩ | ⟨hn, hr⟩
    · left
      rw [e] at h1 h2
      have h3 : (isSt (lensOf cs.length fun i => if i = t.m then 1 else 0)).1 = 2 ^ 10 := by rw [h1]; simp
      have h4 : (isSt (lensOf cs.length fun i => if i = t.m then 1 else 0)).2.1 = 1 := by rw [h2]; rfl
      obtain ⟨h5, h6⟩ := (isSt_one hin).2 h4
      refine ⟨h4, ?_⟩
      rw [h3] at h5
      apply Classical.byContradiction
      intro q
      have h7 : 2 ^ (11 - (isSt (lensOf cs.length fun i => if i = t.m then 1 else 0)).2.2.toNat) ≤ 2 ^ 9 := Nat.pow_le_pow_right (by omega) (by omega)
      have e9 : 2 ^ 9 = 512 := rfl
      have e10 : 2 ^ 10 = 1024 := rfl
      omega
    · right
      have hF := Fst.start cs
      have hk := hr.kraft hF.nd (KR.start cs) hne 11 (fun i hi => by
        obtain ⟨t, ht, hit⟩ := List.mem_flatMap.1 hi
        exact hs i (hF.lt t ht i hit))
      rw [forest_syms, List.map_map] at hk
      rw [h1]
      exact hk
theorem IsLens.isOk {cs : List Nat} {L : Nat → Nat} (h : IsLens cs L) (hl : cs.length ≤ 256) : IsOk (lensOf cs.length L) ↔ ∃ c, c ∈ cs ∧ 0 < c := by
  induction h with
  | done h hs => exact h.isOk hl hs
  | half _ _ _ ih =>
    have := ih (by rw [List.length_map]; exact hl)
    rw [List.length_map] at this
    rw [this]
    constructor
    · rintro ⟨c, hc, hp⟩
      obtain ⟨d, hd, rfl⟩ := List.mem_map.1 hc
      exact ⟨d, hd, (half_pos d).1 hp⟩
    · rintro ⟨c, hc, hp⟩
      exact ⟨_, List.mem_map.2 ⟨c, hc, rfl⟩, (half_pos c).2 hp⟩
/-- Who has more is not longer, where no count was halved. -/
theorem IsLens.more {cs : List Nat} {L : Nat → Nat} {lo : Nat} (h : IsLens cs L) (hlo : ∀ c, c ∈ cs → 0 < c → lo ≤ c) (hlo0 : 0 < lo) (hsum : cs.sum ≤ 144 * lo) {i k : Nat} (hi : i < cs.length) (hk : k < cs.length) (hpk : 0 < cs[k]) (hlt : cs[k] < cs[i]) : L i ≤ L k := by
  cases h with
  | half h hs _ =>
    obtain ⟨j, _, hj⟩ := hs
    exfalso
    have h2 := h.heights hlo (Nat.lt_trans (by decide : 1 < 11) hj)
    have h3 := fib_mono (Nat.add_le_add_right hj 2)
    have h4 := Nat.mul_le_mul_right lo h3
    have h5 : fib (11 + 1 + 2) = 377 := rfl
    rw [show Nat.succ 11 + 2 = 11 + 1 + 2 from rfl, h5] at h4
    omega
  | done h _ =>
    have hpi : 0 < cs[i] := by omega
    have ti := forest_at hi hpi
    have tk := forest_at hk hpk
    have hne : leaf k cs[k] ≠ leaf i cs[i] := fun e => by
      have : (leaf k cs[k]).n = (leaf i cs[i]).n := by rw [e]
      simp [leaf] at this
      omega
    obtain ⟨r, hr⟩ := perm_pick tk ti hne
    rcases h with ⟨t, e, rfl⟩ | ⟨hn, hrun⟩
    · have := hr.length_eq
      rw [e] at this
      simp at this
    · have hF := Fst.start cs
      obtain ⟨D, d1, _, _, dP, _⟩ := hrun.depths hF.nd hF.mem (fun t ht => by obtain ⟨j, hj, rfl, h⟩ := mem_forest ht; exact h)
      have e1 := d1 _ ti i (by simp [leaf])
      have e2 := d1 _ tk k (by simp [leaf])
      have := dP _ _ r hr hlt
      omega
end Go.Hf
namespace Go.Proofs.YtphakpikalmghaaGreat.Rd
open Go Go.RowKit Go.ChangeMaps Go.MapKept Go.Mg Go.Hf Go.Sort Go.Proofs.YtphakpikalmghaaGreat.Hu Go.Proofs.YtphakpikalmghaaGreat.Bw Go.Proofs.YtphakpikalmghaaGreat.He

theorem lens_row (n : Nat) (L : Nat → Nat) : ((List.range n).map fun i => Hu.nv (L i)) = (lensOf n L).map (Value.int .i64) := by
  rw [lensOf, List.map_map]; rfl
theorem lens_len (n : Nat) (L : Nat → Nat) : (lensOf n L).length = n := by simp [lensOf]
theorem made {w : World} {n : Nat} {cur : Array Value} (hc : cur.toList = List.replicate n (Hu.nv 0)) : CAt (w.alloc (.cells cur 3)) w.heap.size n (fun _ => 0) := by
  unfold CAt
  rw [alloc_at w _]
  congr 2
  apply Array.toList_inj.1
  rw [hc]
  apply List.ext_getElem
  · simp
  · intro i h1 h2
    simp [Hu.nv]
theorem lf_lens (N : Nat) (L : Nat → Nat) {i : Nat} (h : i < N) : lf (lensOf N L) i = (L i : Int) := by
  rw [lf_at (by simp [lensOf]; exact h)]
  simp [lensOf]
/-- The lengths' row, as the codes' walks want it. -/
theorem lens_nm {B : Nat} {w : World} {a : Option Addr} {c n : Nat} {L : Nat → Nat} (h : Lo B w (.slice a n c) n L) : Nm w a c (lensOf n L) := by
  have := h.row.sl
  rw [lens_row] at this
  unfold Nm
  rw [lens_len]
  exact this

/-! ### Counts -/
def cnt (l : List UInt8) : Nat → Nat → Nat
  | 0, _ => 0
  | k + 1, s => cnt l k s + (if s = sym l k then 1 else 0)
theorem cnt_le (l : List UInt8) (k s : Nat) : cnt l k s ≤ k := by
  induction k with
  | zero => simp [cnt]
  | succ k ih => simp only [cnt]; split <;> omega
theorem cnt_pos (l : List UInt8) {j : Nat} : ∀ {k}, j < k → 0 < cnt l k (sym l j)
  | 0, h => by omega
  | k + 1, h => by
    simp only [cnt]
    by_cases e : j = k
    · subst e; simp
    · have := cnt_pos l (show j < k by omega); omega
theorem cnt_set (l : List UInt8) (k : Nat) : (fun j => if j = sym l k then ((cnt l k (sym l k) : Nat) : Int) + 1 else ((cnt l k j : Nat) : Int)) = fun j => ((cnt l (k + 1) j : Nat) : Int) := by
  funext j
  simp only [cnt]
  by_cases e : j = sym l k
  · subst e; simp
  · simp [e]
def cts (l : List UInt8) : List Nat := (List.range 256).map (cnt l l.length)
theorem cts_len (l : List UInt8) : (cts l).length = 256 := by simp [cts]
theorem sum_le (f : Nat → Nat) (b : Nat) : ∀ n, (∀ i, f i ≤ b) → ((List.range n).map f).sum ≤ n * b
  | 0, _ => by simp
  | n + 1, h => by
    rw [List.range_succ, List.map_append, List.sum_append]
    have := sum_le f b n h
    have := h n
    rw [Nat.add_mul]
    simp
    omega
theorem cts_sum (l : List UInt8) : (cts l).sum ≤ 256 * l.length := sum_le _ _ _ (fun i => cnt_le l _ i)
theorem cts_row (l : List UInt8) : ((List.range 256).map fun i => Value.int .i64 ((cnt l l.length i : Nat) : Int)) = (cts l).map Hu.nv := by
  rw [cts, List.map_map]; rfl
theorem enc_ok {l : List UInt8} (h0 : 0 < l.length) {L : Nat → Nat} (h : IsLens (cts l) L) : EncOk (lensOf 256 L) l := by
  refine ⟨?_, fun j hj => ⟨by rw [lens_len]; exact sym_lt l j, ?_⟩⟩
  · have := (h.isOk (by rw [cts_len]; omega)).2 ⟨cnt l l.length (sym l 0), List.mem_map.2 ⟨sym l 0, List.mem_range.2 (sym_lt l 0), rfl⟩, cnt_pos l h0⟩
    rwa [cts_len] at this
  · rw [lf_lens 256 L (sym_lt l j)]
    have := (h.pos (sym l j)).2 ⟨by rw [cts_len]; exact sym_lt l j, by simp only [cts, List.getElem_map, List.getElem_range]; exact cnt_pos l hj⟩
    omega

/-! ### Bytes turned -/
theorem and_65535 (n : Int) : bits .and .i64 n 65535 = n % 65536 := by
  have h1 : (BitVec.ofInt 64 65535).toNat = 2 ^ 16 - 1 := by decide
  have key : (BitVec.ofInt 64 n &&& BitVec.ofInt 64 65535).toNat = (n % ((2 ^ 64 : Nat) : Int)).toNat % 2 ^ 16 := by
    rw [BitVec.toNat_and, BitVec.toNat_ofInt, h1, Nat.and_two_pow_sub_one_eq_mod]
  show IntKind.i64.wrap ((BitVec.ofInt 64 n &&& BitVec.ofInt 64 65535).toNat : Nat) = n % 65536
  rw [key, IntKind.wrap_i64]
  omega
def blist (N : Nat) (out : Nat → Nat) : List UInt8 := (List.range N).map fun i => UInt8.ofNat (out i)
theorem blist_sl {w : World} {g N : Nat} {out : Nat → Nat} (h : UAt w g N out) (hN : N ≤ 100000) (ho : ∀ i, out i < 256) :
    SlR w 1 (.slice (some ⟨g, 0, none⟩) (blist N out).length N) (blist N out).length ((blist N out).map u8c) := by
  have := h.sl hN
  have el : (blist N out).length = N := by simp [blist]
  rw [el]
  have e : (blist N out).map u8c = (List.range N).map fun i => Value.int .u8 (out i : Nat) := by
    unfold blist
    rw [List.map_map]
    apply List.map_congr_left
    intro i _
    have := ho i
    simp only [Function.comp, u8c]
    congr 1
    rw [UInt8.toNat_ofNat']
    omega
  rw [e]
  exact this
end Go.Proofs.YtphakpikalmghaaGreat.Rd
namespace Go.Proofs.YtphakpikalmghaaGreat.Bk
open Go Go.Hf Go.Mt Go.Proofs.YtphakpikalmghaaGreat.Hu Go.Proofs.YtphakpikalmghaaGreat.He Go.Proofs.YtphakpikalmghaaGreat.Rd Go.Proofs.YtphakpikalmghaaGreat.Sq

/-- Are there bytes, and all the same? -/
def same (b : List UInt8) : Bool := decide (0 < b.length) && (List.range b.length).all fun i => decide (sym b i = sym b 0)
/-- The lengths of bytes' own counts. -/
noncomputable def lensB (b : List UInt8) : Nat → Nat := by
  classical
  exact if h : ∃ L, IsLens (cts b) L then Classical.choose h else fun _ => 0
theorem lensB_eq {b : List UInt8} {L : Nat → Nat} (h : IsLens (cts b) L) : lensB b = L := by
  unfold lensB
  have he : ∃ L, IsLens (cts b) L := ⟨L, h⟩
  rw [dif_pos he]
  exact (Classical.choose_spec he).det h
def nib (L : Nat → Nat) : List UInt8 := (List.range 128).map fun i => UInt8.ofNat (L (2 * i) + 16 * L (2 * i + 1))
theorem nib_len (L : Nat → Nat) : (nib L).length = 128 := by simp [nib]
/-- Bytes as codes. -/
noncomputable def codesB (b : List UInt8) : List UInt8 := if b.length = 0 then [] else pack (bt (lensOf 256 (lensB b)) b b.length)
noncomputable def codedB (b : List UInt8) : List UInt8 := nib (lensB b) ++ sized (codesB b)
noncomputable def rowB (b : List UInt8) : List UInt8 :=
  if same b = true then [1] ++ two b.length ++ [b[0]?.getD 0]
  else if (codedB b).length < b.length then [2] ++ two b.length ++ codedB b else [0] ++ two b.length ++ b
def byte (l : List UInt8) (i : Nat) : Nat := sym l i
/-- The steps of data behind a prefix. -/
def stepsB (p d : List UInt8) (depth : Nat) : List Sq := rest (sym (p ++ d)) (p ++ d).length depth p.length 0
noncomputable def bodyB (p d : List UInt8) (depth : Nat) (h : H3) : List UInt8 := rowB (literals d (stepsB p d depth)) ++ packB (stepsB p d depth) h
noncomputable def encB (p d : List UInt8) (depth : Nat) (h : H3) : List UInt8 × H3 :=
  if same d = true then (two d.length ++ [1, d[0]?.getD 0], h)
  else if 2 + (bodyB p d depth h).length < d.length then (two d.length ++ [2] ++ two (bodyB p d depth h).length ++ bodyB p d depth h, hs (ofs (stepsB p d depth)) h (stepsB p d depth).length)
  else (two d.length ++ [0] ++ d, h)
theorem steps_may (p d : List UInt8) (depth : Nat) (hp : p.length ≤ 2000) (hd : d.length ≤ 500) : May (stepsB p d depth) ∧ tot (stepsB p d depth) ≤ d.length := by
  have hi : p.length ≤ (p ++ d).length := by rw [List.length_append]; omega
  have h1 := rest_tot (a := sym (p ++ d)) (depth := depth) hi
  have h2 := rest_each (a := sym (p ++ d)) (depth := depth) hi
  have e : (p ++ d).length - p.length = d.length := by rw [List.length_append]; omega
  rw [e] at h1 h2
  refine ⟨⟨?_, fun s hs => ?_⟩, h1.1⟩
  · have := h1.2; unfold stepsB; omega
  · have := h2 s hs
    rw [List.length_append] at this
    omega
end Go.Proofs.YtphakpikalmghaaGreat.Bk
