/- The document's Decode. The program's Decode. -/
import Derived.Test.YtcecnkmhhbncdaaRdM
import Derived.WalkMore
namespace Go.Proofs.Ytcecnkmhhbncdaa.Rd
open Go Go.RowKit Go.Shelf Go.ChangeMaps Go.MapKept Go.Mg Go.Hf Go.Sort Go.Proofs.Ytcecnkmhhbncdaa.Hu Go.Proofs.Ytcecnkmhhbncdaa.Bw Go.Proofs.Ytcecnkmhhbncdaa.He

def ob (o : List Nat) : List UInt8 := o.map UInt8.ofNat
theorem ob_len (o : List Nat) : (ob o).length = o.length := by simp [ob]
theorem ob_snoc (o : List Nat) (s : Nat) : ob (o ++ [s]) = ob o ++ [UInt8.ofNat s] := by simp [ob]
theorem infoU : (Try.prog.info? 5).map (fun i => (i.zero, i.size, i.bytes)) = some (some (.int .u8 0), 1, 1) := by kernel_rfl
theorem lit_u (w : World) (s : Nat) (hs : s < 256) : SlR (w.alloc (.cells #[.int .u8 (s : Nat)] 5)) 1 (.slice (some ⟨w.heap.size, 0, none⟩) 1 1) 1 ([UInt8.ofNat s].map u8c) := by
  refine ⟨by simp, _, _, rfl, Nat.le_refl _, by unfold maxLen; omega, (fun h => by cases h), fun _ => ⟨w.heap.size, 0, rfl, by simp, fun i u hu => ?_⟩⟩
  rw [Nat.zero_add, cell_of (alloc_at w _)]
  have e : u8c (UInt8.ofNat s) = .int .u8 (s : Nat) := by
    unfold u8c
    rw [UInt8.toNat_ofNat']
    congr 2
    omega
  simp only [List.map_cons, List.map_nil, e] at hu
  simpa using hu
/-- A row of one's own of bytes, all of it beyond B. -/
def RowU (B : Nat) (w : World) (v : Value) (l : List UInt8) : Prop := ∃ a c, v = .slice a l.length c ∧ OwnR w 5 1 v l.length (l.map u8c) ∧ ∀ k, v.ownBlock = some k → B ≤ k
theorem RowU.nil (B : Nat) (w : World) : RowU B w (.slice none 0 0) [] := ⟨none, 0, rfl, OwnR.nil _ _ _, fun k h => by cases h⟩
def DecPost (w : World) (xs : List Int) (l : List UInt8) (n : Int) (e : Ending) (w' : World) : Prop :=
  (∃ o, DecYes xs l n o ∧ (∃ v, e = .returned (.tuple #[v, .bool true]) ∧ RowU w.heap.size w' v (ob o)) ∧ Kp (fun _ => False) w w') ∨
  ((∀ o, ¬ DecYes xs l n o) ∧ e = .returned (.tuple #[.slice none 0 0, .bool false]) ∧ Kp (fun _ => False) w w')
theorem RowU.kp {B : Nat} {F : Nat → Prop} {w w' : World} {v : Value} {l : List UInt8} (h : RowU B w v l) (hk : Kp F w w') (hF : ∀ k, F k → k < B) : RowU B w' v l := by
  obtain ⟨a, c, e, h1, h2⟩ := h
  exact ⟨a, c, e, h1.kp hk (fun k q r => by have := h2 k q; have := hF k r; omega), h2⟩
theorem many_step {xs : List Int} {f : Nat → Bool} {r0 k : Nat} {o : List Nat} {r s r' : Nat} (h : manyS xs f r0 k = some (o, r)) (h1 : oneS xs f 11 1 0 r = some (s, r')) : manyS xs f r0 (k + 1) = some (o ++ [s], r') := by
  simp only [manyS, h, h1]
theorem many_fail {xs : List Int} {f : Nat → Bool} {r0 k : Nat} {o : List Nat} {r : Nat} (h : manyS xs f r0 k = some (o, r)) (h1 : oneS xs f 11 1 0 r = none) : manyS xs f r0 (k + 1) = none := by
  simp only [manyS, h, h1]
/-- A byte more: what the append leaves. -/
theorem RowU.app {B p : Nat} {w3 wr w2 w5 : World} {a : Option Addr} {c : Nat} {l : List UInt8} {b : UInt8} (hw : Kp (· = p) w3 wr) (hB : w3.heap.size = B) (h2 : Kp (fun _ => False) wr w2) (ho : ∀ k, (Value.slice a l.length c).ownBlock = some k → B ≤ k)
    {a' : Option Addr} {c' : Nat} (g1 : OwnR w5 5 1 (.slice a' (l.length + 1) c') (l.length + 1) (l.map u8c ++ [b].map u8c)) (g2 : Kp (fun k => (Value.slice a l.length c).ownBlock = some k) w2 w5)
    (g3 : (Value.slice a' (l.length + 1) c').ownBlock = (Value.slice a l.length c).ownBlock ∨ (Value.slice a' (l.length + 1) c').ownBlock = some w2.heap.size) :
    RowU B w5 (.slice a' (l.length + 1) c') (l ++ [b]) ∧ Kp (· = p) w3 w5 ∧ Kp (fun k => B ≤ k) wr w5 := by
  have h3 : Kp (fun k => B ≤ k) wr w5 := (h2.mono (fun _ _ q => q.elim)).trans2 g2 (fun i _ q => ho i q)
  refine ⟨⟨a', c', by simp, by rw [List.length_append, List.map_append]; exact g1, fun k hk => ?_⟩, hw.trans2 h3 (fun i hi q => by omega), h3⟩
  rcases g3 with q | q
  · exact ho k (q.symm.trans hk)
  · rw [hk] at q
    cases q
    have := hw.size; have := h2.size; omega
theorem many_stop {xs : List Int} {f : Nat → Bool} {r k : Nat} (h : manyS xs f r k = none) : ∀ j, k ≤ j → manyS xs f r j = none
  | 0, hj => by have : k = 0 := by omega
                subst this; exact h
  | j + 1, hj => by
    by_cases e : k = j + 1
    · subst e; exact h
    · simp only [manyS, many_stop h j (by omega)]
set_option maxRecDepth 100000 in
set_option maxHeartbeats 4000000 in
theorem decode_d (w : World) (xs : List Int) (a : Option Addr) (c : Nat) (h : Nm w a c xs) (hl : xs.length ≤ 300) (l : List UInt8) (ab : Option Addr) (cb' : Nat) (hb : SlR w 1 (.slice ab l.length cb') l.length (l.map u8c)) (hlb : l.length ≤ 10000) (n : Int) (hn : n ≤ 2000) :
    Calls Try.prog 28 #[.slice a xs.length c, .slice ab l.length cb', .int .i64 n] w (DecPost w xs l n) := by
  obtain ⟨i0, hi0, hz0, hz1, hz2⟩ := info_parts infoU
  have D0 := Lib.hid (newr_d w l ab cb' hb (by omega))
  have R0 := Lib.hid h
  have RB := Lib.hid hb
  clear h hb
  go_enter Try.func28, Try.ntmps28
  go_wp2_with fail
  refine D0.out.mono ?_
  rintro e w1 (⟨hgb, p, rfl, hp, hrd, hk1⟩ | ⟨hno, rfl, hw1⟩)
  · have HGB := Lib.hid hgb
    have HRD := Lib.hid hrd
    have HK1 := Lib.hid hk1
    have D1 := Lib.hid (is_d w1 xs a c (R0.out.kp hk1) (by omega))
    clear hgb hrd hk1 D0
    go_wp2_with fail
    refine D1.out.mono ?_
    rintro e w' ⟨z, hz, rfl, hw'⟩
    obtain rfl := hw'
    cases z with
    | false =>
      have HZ := Lib.hid (show ∀ o, ¬ DecYes xs l n o from fun o q => by have := hz.2 q.2.1; cases this)
      clear hz D1
      go_wp2_with fail
      go_ret2
      exact .inr ⟨HZ.out, rfl, HK1.out⟩
    | true =>
      have hok : IsOk xs := hz.1 rfl
      have hpos : 0 < xs.length := by
        apply Nat.pos_of_ne_zero
        intro e
        have : xs = [] := List.eq_nil_of_length_eq_zero e
        subst this
        obtain ⟨_, _, h | h⟩ := hok <;> simp [isSt] at h
      have HOK := Lib.hid hok
      clear hz D1 hok
      by_cases hn0 : n < 0
      · have HZ := Lib.hid (show ∀ o, ¬ DecYes xs l n o from fun o q => by have := q.2.2.1; omega)
        go_wp2_with fail
        go_ret2
        exact .inr ⟨HZ.out, rfl, HK1.out⟩
      · obtain ⟨N, rfl⟩ : ∃ N : Nat, n = (N : Nat) := ⟨n.toNat, by omega⟩
        have hN : N ≤ 2000 := by omega
        have HDY : Hid (∀ o, DecYes xs l (N : Nat) o ↔ manyS xs (bb l) (top l) N = some (o, 0)) := Lib.hid (fun o => ⟨fun q => by have := q.2.2.2; simpa using this, fun q => ⟨HGB.out, HOK.out, by omega, by simpa using q⟩⟩)
        clear hn0 hn
        go_wp2_with fail
        refine (codes_d w' xs a c (R0.out.kp HK1.out) hpos hl).mono ?_
        rintro e w3 ⟨gc, rfl, p1, p2, p3⟩
        obtain ⟨g, o, rfl, hg, hcap, hc⟩ := R0.out.lf_ hpos
        have hgc : gc < w3.heap.size := lt_of_at p2
        have hk3 := HK1.out.trans p3
        have hs1 := HK1.out.size
        have hpw := lt_of_at HRD.out.hp
        have htab : Tab w3 xs g o gc := fun i hi => ⟨p2.cell hi, (hk3.cell (p := ⟨g, o + i, none⟩) hg (fun q => q)).trans (hc i hi)⟩
        have hrd3 : RdD w3 p (top l) ab cb' l := HRD.out.kp p3 (fun q => q) (fun _ _ q => q)
        have hgp : g ≠ p := by omega
        have hgcp : gc ≠ p := by omega
        have ONE := Lib.hid (fun V (hk : Kp (· = p) w3 V) r (hr : RdD V p r ab cb' l) => one_d V xs g o c gc hl hcap (htab.kp hk ⟨by omega, hgp⟩ ⟨hgc, hgcp⟩) (by have := hk.size; omega) (by have := hk.size; omega) hgp hgcp hr (by omega))
        have HRD3 := Lib.hid hrd3
        have HK3 := Lib.hid hk3
        have HPS : Hid (w.heap.size ≤ p ∧ w.heap.size ≤ w3.heap.size ∧ p < w3.heap.size) := Lib.hid ⟨hp, hk3.size, by have := p3.size; omega⟩
        have HONT := Lib.hid (fun r s r' (q : oneS xs (bb l) 11 1 0 r = some (s, r')) => Nat.lt_of_lt_of_le (oneS_lt q) (show xs.length ≤ 256 from HOK.out.1))
        have HBL : Hid (∀ b, (Value.slice ab l.length cb').ownBlock = some b → b < w.heap.size) := Lib.hid (fun b hb => by
          obtain ⟨g2, o2, e2, h2, _⟩ := bytes_at RB.out HGB.out.1
          rw [e2] at hb; cases hb; exact h2)
        have HSL := Lib.hid (fun V r (hr : RdD V p r ab cb' l) => show V.cell? ⟨p, 1, none⟩ = some (.int .i64 (r : Nat)) by rw [cell_of hr.hp]; rfl)
        have HTL : Hid (∀ r, manyS xs (bb l) (top l) N = some r → r.2 ≤ 100000) := Lib.hid (fun r q => by have := manyS_le _ _ _ _ _ _ q; have := (top_lt HGB.out).1; omega)
        have HST : Hid (∀ k o r s r', manyS xs (bb l) (top l) k = some (o, r) → oneS xs (bb l) 11 1 0 r = some (s, r') → manyS xs (bb l) (top l) (k + 1) = some (o ++ [s], r')) := Lib.hid (fun _ _ _ _ _ => many_step)
        have HSF : Hid (∀ k o r, k < N → manyS xs (bb l) (top l) k = some (o, r) → oneS xs (bb l) 11 1 0 r = none → ∀ o, ¬ DecYes xs l (N : Nat) o) := Lib.hid (fun k o r hk h1 h2 o2 q => by
          have := (HDY.out o2).1 q
          rw [many_stop (many_fail h1 h2) N (by omega)] at this
          cases this)
        have HS0 : Hid (manyS xs (bb l) (top l) 0 = some ([], top l)) := Lib.hid rfl
        obtain ⟨MS, hMS⟩ : ∃ MS, MS = manyS xs (bb l) (top l) := ⟨_, rfl⟩
        rw [← hMS] at HST HSF HS0 HTL HDY
        clear hMS p1 p2 p3 hc htab hrd3 hk3 hgp hgcp hs1 hpw
        go_wp2_with fail
        go_loopw [11, 12] (fun u i wr => ∃ k : Nat, k ≤ N ∧ i = .int .i64 k ∧ ∃ o r, MS k = some (o, r) ∧ o.length = k ∧ RdD wr p r ab cb' l ∧ Kp (· = p) w3 wr ∧ RowU w3.heap.size wr u (ob o)) (fun _ i _ => N - (intOf i).toNat)
        case atStart => exact ⟨0, Nat.zero_le _, rfl, [], _, HS0.out, rfl, HRD3.out, Kp.refl _ _, RowU.nil _ _⟩
        case round =>
          obtain ⟨k, hk, rfl, os, r, hms, hol, hrd, hkw, hrow⟩ := hrel
          have HMS := Lib.hid hms
          have HRDW := Lib.hid hrd
          have HKW := Lib.hid hkw
          have HROW := Lib.hid hrow
          have HOL := Lib.hid hol
          clear hms hol hkw hrow
          by_cases hkN : k < N
          · clear hrd
            go_wp2_with fail
            refine (ONE.out _ HKW.out _ HRDW.out).mono ?_
            rintro e w4 (⟨s, r', h1, rfl, h3, h4⟩ | ⟨h1, rfl, h4⟩)
            · have hs := HONT.out _ _ _ h1
              have HM1 := Lib.hid (HST.out _ _ _ _ _ HMS.out h1)
              have HRD4 := Lib.hid h3
              have HK4 := Lib.hid (HKW.out.trans h4)
              have hrow4 := HROW.out.kp h4 (fun q e => by have := HPS.out; omega)
              obtain ⟨av, cv, rfl, hown, hbeyond⟩ := hrow4
              have HB := Lib.hid hbeyond
              have hkA := (Kp.refl (fun _ => False) w4).alloc (.cells #[.int .u8 (s : Nat)] 5)
              have KA := Lib.hid hkA
              have HO := Lib.hid (hown.kp hkA (fun _ _ q => q))
              have T := Lib.hid (lit_u w4 s hs)
              have hL : (ob os).length = k := by rw [ob_len]; exact HOL.out
              have HL := Lib.hid hL
              rw [hL] at HO
              clear h1 h3 h4 hown hbeyond hkA hL HROW
              have hk2 : k ≤ 2000 := by omega
              have hw8 : IntKind.u8.wrap (s : Int) = (s : Int) := by rw [IntKind.wrap_u8]; omega
              rw [HL.out]
              go_wp2_with (at_builtin; refine wpList_app _ rfl _ _ 30 rfl 5 i0 _ 1 1 Try.underlying30 hi0 hz0 hz1 hz2 rfl (by decide) (by decide) (.slice av k cv) k _ rfl HO.out (.slice (some ⟨w4.heap.size, 0, none⟩) 1 1) 1 _ rfl T.out (u8c_one _) (by omega) ?_; intro v1 w5 g1 g2 g3 g4 g5; obtain ⟨b1, d1, rfl⟩ := g1.form; have G := Lib.hid (RowU.app (l := ob os) HK4.out rfl KA.out HB.out (by rw [HL.out]; exact g1) (by rw [HL.out]; exact g2) (by rw [HL.out]; exact g3)); clear g1 g2 g3 g4 g5)
              refine ⟨⟨k + 1, by omega, by go_num, os ++ [s], r', HM1.out, by simp [HOL.out], ?_, G.out.2.1, ?_⟩, by simp [intOf]; omega⟩
              · refine HRD4.out.kp G.out.2.2 (fun q => by have := HPS.out; omega) (fun b hb q => ?_)
                have := HBL.out b hb; have := HPS.out; omega
              · rw [ob_snoc]
                have := G.out.1
                rwa [HL.out] at this
            · have HZ := Lib.hid (HSF.out _ _ _ hkN HMS.out h1)
              have HK4 := Lib.hid (HK3.out.trans2 (HKW.out.trans h4) (fun i hi q => by have := HPS.out; omega))
              clear h1 h4
              go_wp2_with fail
              go_ret2
              exact .inr ⟨HZ.out, rfl, HK4.out⟩
          · obtain rfl : k = N := by omega
            have d1 := HSL.out _ _ hrd
            have HK4 := Lib.hid (HK3.out.trans2 HKW.out (fun i hi q => by have := HPS.out; omega))
            have hr5 := HTL.out _ HMS.out
            clear hrd
            by_cases hr0 : r = 0
            · have HY := Lib.hid ((HDY.out os).2 (by rw [HMS.out, hr0]))
              rw [hr0] at d1
              clear hr0 hr5
              go_wp2_with fail
              go_ret2
              exact .inl ⟨os, HY.out, ⟨_, rfl, by
                obtain ⟨a2, c2, e2, h1, h2⟩ := HROW.out
                exact ⟨a2, c2, e2, h1, fun k hk => by have := h2 k hk; have := HPS.out; omega⟩⟩, HK4.out⟩
            · have HZ := Lib.hid (show ∀ o, ¬ DecYes xs l (k : Nat) o from fun o q => by
                have := (HDY.out o).1 q
                rw [HMS.out] at this
                cases this
                exact hr0 rfl)
              have hr1 : 0 < r := by omega
              clear hr0
              go_wp2_with fail
              go_ret2
              exact .inr ⟨HZ.out, rfl, HK4.out⟩
  · obtain rfl := hw1
    have HZ := Lib.hid (show ∀ o, ¬ DecYes xs l n o from fun o q => hno q.1)
    clear D0 hno
    go_wp2_with fail
    go_ret2
    exact .inr ⟨HZ.out, rfl, Kp.refl _ _⟩
end Go.Proofs.Ytcecnkmhhbncdaa.Rd

namespace Go.Proofs.Ytcecnkmhhbncdaa.Rd
open Go Go.RowKit Go.Shelf Go.ChangeMaps Go.MapKept Go.Mg Go.Hf Go.Sort Go.Proofs.Ytcecnkmhhbncdaa.Hu Go.Proofs.Ytcecnkmhhbncdaa.Bw Go.Proofs.Ytcecnkmhhbncdaa.He

set_option maxRecDepth 100000 in
set_option maxHeartbeats 4000000 in
theorem decode_p (w : World) (xs : List Int) (a : Option Addr) (c : Nat) (h : Nm w a c xs) (hl : xs.length ≤ 300) (l : List UInt8) (ab : Option Addr) (cb' : Nat) (hb : SlR w 1 (.slice ab l.length cb') l.length (l.map u8c)) (hlb : l.length ≤ 10000) (n : Int) (hn : n ≤ 2000) :
    Calls Try.prog 27 #[.slice a xs.length c, .slice ab l.length cb', .int .i64 n] w (DecPost w xs l n) := by
  obtain ⟨i0, hi0, hz0, hz1, hz2⟩ := info_parts infoU
  have D0 := Lib.hid (newr_p w l ab cb' hb (by omega))
  have R0 := Lib.hid h
  clear h hb
  go_enter Try.func27, Try.ntmps27
  go_wp2_with fail
  refine wp_scope_straight ?_
  go_wp2_with fail
  refine D0.out.mono ?_
  rintro e w1 (⟨hgb, p, rfl, hrd, hk1⟩ | ⟨hno, rfl, hw1⟩)
  · have HGB := Lib.hid hgb
    have HRD := Lib.hid hrd
    have HK1 := Lib.hid hk1
    have D1 := Lib.hid (is_p w1 xs a c (R0.out.kp hk1) (by omega))
    have hp : w.heap.size ≤ p ∧ p < w1.heap.size := by obtain ⟨_, _, q⟩ := hrd; exact q.fp
    clear hgb hrd hk1 D0
    go_wp2_with fail
    refine D1.out.mono ?_
    rintro e w' ⟨z, hz, rfl, hw'⟩
    obtain rfl := hw'
    cases z with
    | false =>
      have HZ := Lib.hid (show ∀ o, ¬ DecYes xs l n o from fun o q => by have := hz.2 q.2.1; cases this)
      clear hz D1
      go_wp2_with fail
      go_ret2
      exact .inr ⟨HZ.out, rfl, HK1.out⟩
    | true =>
      have hok : IsOk xs := hz.1 rfl
      have hpos : 0 < xs.length := by
        apply Nat.pos_of_ne_zero
        intro e
        have : xs = [] := List.eq_nil_of_length_eq_zero e
        subst this
        obtain ⟨_, _, h | h⟩ := hok <;> simp [isSt] at h
      have HOK := Lib.hid hok
      clear hz D1 hok
      by_cases hn0 : n < 0
      · have HZ := Lib.hid (show ∀ o, ¬ DecYes xs l n o from fun o q => by have := q.2.2.1; omega)
        go_wp2_with fail
        go_ret2
        exact .inr ⟨HZ.out, rfl, HK1.out⟩
      · obtain ⟨N, rfl⟩ : ∃ N : Nat, n = (N : Nat) := ⟨n.toNat, by omega⟩
        have hN : N ≤ 2000 := by omega
        have HDY : Hid (∀ o, DecYes xs l (N : Nat) o ↔ manyS xs (bb l) (top l) N = some (o, 0)) := Lib.hid (fun o => ⟨fun q => by have := q.2.2.2; simpa using this, fun q => ⟨HGB.out, HOK.out, by omega, by simpa using q⟩⟩)
        have hT8 := (top_lt HGB.out).1
        have LEFT := Lib.hid (left_p HRD.out)
        obtain ⟨T, hT⟩ : ∃ T, T = top l := ⟨_, rfl⟩
        rw [← hT] at LEFT HDY HRD hT8
        have hT5 : T ≤ 100000 := by omega
        clear hn0 hn hT8
        by_cases hNT : T < N
        · have HZ := Lib.hid (show ∀ o, ¬ DecYes xs l (N : Nat) o from fun o q => by
            have := (manyS_le _ _ _ _ _ _ ((HDY.out o).1 q)).1; omega)
          go_wp2_with fail
          refine LEFT.out.mono ?_
          rintro e w2 ⟨rfl, hw2⟩
          obtain rfl := hw2
          go_wp2_with fail
          go_ret2
          exact .inr ⟨HZ.out, rfl, HK1.out⟩
        · go_wp2_with fail
          refine LEFT.out.mono ?_
          rintro e w2 ⟨rfl, hw2⟩
          obtain rfl := hw2
          go_wp2_with fail
          refine (codes_p w2 xs a c (R0.out.kp HK1.out) hpos hl).mono ?_
          rintro e w3 ⟨gc, rfl, p1, p2, p3⟩
          obtain ⟨g, o, rfl, hg, hcap, hc⟩ := R0.out.lf_ hpos
          have hgc : gc < w3.heap.size := lt_of_at p2
          have hk3 := HK1.out.trans p3
          have hs3 := p3.size
          have htab : Tab w3 xs g o gc := fun i hi => ⟨p2.cell hi, (hk3.cell (p := ⟨g, o + i, none⟩) hg (fun q => q)).trans (hc i hi)⟩
          have hgp : g ≠ p := by omega
          have hgcp : gc ≠ p := by omega
          have HFD := Lib.hid (fun V (hk : Kp (· = p) w3 V) => found_p V xs g o c gc hl hcap (htab.kp hk ⟨by omega, hgp⟩ ⟨hgc, hgcp⟩))
          have HRD3 := Lib.hid (HRD.out.kp p3 (fun _ _ q => q))
          have HK3 := Lib.hid hk3
          have HPS : Hid (w.heap.size ≤ p ∧ w.heap.size ≤ w3.heap.size ∧ p < w2.heap.size ∧ w2.heap.size ≤ w3.heap.size) := Lib.hid ⟨hp.1, hk3.size, hp.2, hs3⟩
          have HBN := Lib.hid (fun k => bn_lt (bb l) k)
          have HONT := Lib.hid (fun r s r' (q : oneS xs (bb l) 11 1 0 r = some (s, r')) => Nat.lt_of_lt_of_le (oneS_lt q) (show xs.length ≤ 256 from HOK.out.1))
          have HTL : Hid (∀ k r, manyS xs (bb l) T k = some r → r.2 ≤ 100000) := Lib.hid (fun k r q => by have := manyS_le _ _ _ _ _ _ q; omega)
          have HST : Hid (∀ k o r s r', manyS xs (bb l) T k = some (o, r) → oneS xs (bb l) 11 1 0 r = some (s, r') → manyS xs (bb l) T (k + 1) = some (o ++ [s], r')) := Lib.hid (fun _ _ _ _ _ => many_step)
          have HSF : Hid (∀ k o r, k < N → manyS xs (bb l) T k = some (o, r) → oneS xs (bb l) 11 1 0 r = none → ∀ o, ¬ DecYes xs l (N : Nat) o) := Lib.hid (fun k o r hk h1 h2 o2 q => by
            have := (HDY.out o2).1 q
            rw [many_stop (many_fail h1 h2) N (by omega)] at this
            cases this)
          have HS0 : Hid (manyS xs (bb l) T 0 = some ([], T)) := Lib.hid rfl
          obtain ⟨MS, hMS⟩ : ∃ MS, MS = manyS xs (bb l) T := ⟨_, rfl⟩
          rw [← hMS] at HST HSF HS0 HTL HDY
          clear hMS p1 p2 p3 hc htab hk3 hgp hgcp hs3 LEFT hp hT
          go_wp2_with fail
          refine wp_label ?_
          go_wp2_with fail
          go_loopw [11, 42] (fun u i wr => ∃ k : Nat, k ≤ N ∧ i = .int .i64 k ∧ ∃ o r, MS k = some (o, r) ∧ o.length = k ∧ RdIn 89 (fun k => w.heap.size ≤ k ∧ k < w2.heap.size) wr p r (bb l) ∧ Kp (· = p) w3 wr ∧ RowU w3.heap.size wr u (ob o)) (fun _ i _ => N - (intOf i).toNat)
          case atStart => exact ⟨0, Nat.zero_le _, rfl, [], _, HS0.out, rfl, HRD3.out, Kp.refl _ _, RowU.nil _ _⟩
          case round =>
            obtain ⟨k, hk, rfl, os, r, hms, hol, hrd, hkw, hrow⟩ := hrel
            have HMS := Lib.hid hms
            have HRDW := Lib.hid hrd
            have HKW := Lib.hid hkw
            have HROW := Lib.hid hrow
            have HOL := Lib.hid hol
            have hr5 := HTL.out _ _ hms
            clear hms hol hkw hrow hrd
            by_cases hkN : k < N
            · obtain ⟨ONE, hONE⟩ : ∃ ONE, ONE = oneS xs (bb l) 11 1 0 r := ⟨_, rfl⟩
              have HONE := Lib.hid hONE
              clear hONE
              simp only at hr5
              obtain ⟨av, cv, rfl, hown, hbeyond⟩ := HROW.out
              have HB := Lib.hid hbeyond
              have HO := Lib.hid hown
              have hL : (ob os).length = k := by rw [ob_len]; exact HOL.out
              have HL := Lib.hid hL
              rw [hL] at HO ⊢
              clear hown hbeyond hL
              go_wp2_with fail
              go_loopw [11, 12, 13] (fun v u i wr2 => v = .slice av k cv ∧ ∃ n code r' : Nat, n ≤ 11 ∧ i = .int .i64 ((n : Nat) + 1) ∧ u = .int .i64 code ∧ code < 2 ^ n ∧ r' ≤ 100000 ∧ RdIn 89 (fun k => w.heap.size ≤ k ∧ k < w2.heap.size) wr2 p r' (bb l) ∧ Kp (· = p) wr wr2 ∧ ONE = oneS xs (bb l) (11 - n) (n + 1) code r') (fun _ _ i _ => 12 - (intOf i).toNat)
              case atStart => exact ⟨rfl, 0, 0, r, by omega, rfl, rfl, by omega, hr5, HRDW.out, Kp.refl _ _, HONE.out⟩
              case round =>
                obtain ⟨rfl, n, code, r', hn, rfl, rfl, hcode, hr5', hrd, hkr, hone⟩ := hrel
                have h11 : 2 ^ n ≤ 2 ^ 11 := Nat.pow_le_pow_right (by omega) hn
                have e11 : 2 ^ 11 = 2048 := rfl
                have hc2 : code ≤ 8388608 := by omega
                have hP : 2 ^ (n + 1) = 2 * 2 ^ n := by rw [Nat.pow_succ]; omega
                have HC1 := Lib.hid hcode
                have HP := Lib.hid hP
                have HKR := Lib.hid hkr
                have TK := Lib.hid (take_p hrd (by omega) 1 (by omega))
                have HE := Lib.hid hone
                clear hrd hkr hone h11 e11 hcode hP
                by_cases hn11 : n = 11
                · subst hn11
                  have HZ := Lib.hid (HSF.out _ _ _ hkN HMS.out (HONE.out.symm.trans HE.out))
                  have HK4 := Lib.hid (HK3.out.trans2 (HKW.out.trans HKR.out) (fun i hi q => by have := HPS.out; omega))
                  clear TK
                  go_wp2_with fail
                  go_ret2
                  exact .inr ⟨HZ.out, rfl, HK4.out⟩
                · have hn10 : n ≤ 10 := by omega
                  obtain ⟨m, hm⟩ : ∃ m, 11 - n = m + 1 := ⟨10 - n, by omega⟩
                  have HM := Lib.hid hm
                  clear hm hn11
                  go_wp2_with fail
                  refine TK.out.mono ?_
                  rintro e w4 (⟨hr1, rfl, hrd1, hk1⟩ | ⟨hr1, rfl, rfl⟩)
                  · obtain ⟨q, rfl⟩ : ∃ q, r' = q + 1 := ⟨r' - 1, by omega⟩
                    rw [Nat.add_one_sub_one] at hrd1
                    rw [Nat.add_one_sub_one, nv_one]
                    have hb2 := HBN.out q
                    have HHIT : Hid (∀ s, fd xs ((2 * code + bn (bb l) q : Nat) : Int) ((n : Int) + 1) xs.length = some s → ONE = some (s, q)) := Lib.hid (fun s hs => by
                      rw [HE.out, HM.out]; exact one_hit (n := n + 1) (by rw [Int.natCast_add n 1]; exact hs))
                    have HMISS : Hid (fd xs ((2 * code + bn (bb l) q : Nat) : Int) ((n : Int) + 1) xs.length = none → ONE = oneS xs (bb l) (11 - (n + 1)) (n + 1 + 1) (2 * code + bn (bb l) q) q) := Lib.hid (fun hs => by
                      rw [HE.out, HM.out, show 11 - (n + 1) = m by have := HM.out; omega]; exact one_miss (n := n + 1) (by rw [Int.natCast_add n 1]; exact hs))
                    have HRD1 := Lib.hid hrd1
                    have HK1' := Lib.hid (HKR.out.trans hk1)
                    have HSY := Lib.hid (HFD.out w4 (HKW.out.trans HK1'.out) ((2 * code + bn (bb l) q : Nat) : Int) ((n : Int) + 1))
                    obtain ⟨b, hb⟩ : ∃ b, b = bn (bb l) q := ⟨_, rfl⟩
                    rw [← hb] at hb2 HSY HHIT HMISS ⊢
                    obtain ⟨C, hC⟩ : ∃ C, C = 2 * code + b := ⟨_, rfl⟩
                    have hCi : (code : Int) * 2 + (b : Int) = (C : Nat) := by omega
                    rw [← hC] at HSY HHIT HMISS
                    have HCC := Lib.hid hC
                    clear TK hrd1 hk1 HE HM hb hr1 hC
                    go_wp2_with fail
                    refine HSY.out.mono ?_
                    rintro e w5 ⟨rfl, hw5⟩
                    obtain rfl := hw5
                    cases hfd : fd xs (C : Int) ((n : Int) + 1) xs.length with
                    | some s =>
                      have h1 := HHIT.out s hfd
                      rw [HONE.out] at h1
                      have hs := HONT.out _ _ _ h1
                      have HM1 := Lib.hid (HST.out _ _ _ _ _ HMS.out h1)
                      have hkA := (Kp.refl (fun _ => False) w5).alloc (.cells #[.int .u8 (s : Nat)] 5)
                      have KA := Lib.hid hkA
                      have HO5 := Lib.hid ((HO.out.kp HK1'.out (fun b hb e => by have := HB.out b (by rw [HL.out]; exact hb); have := HPS.out; omega)).kp hkA (fun _ _ q => q))
                      have T1 := Lib.hid (lit_u w5 s hs)
                      have HK5 := Lib.hid (HKW.out.trans HK1'.out)
                      clear hfd HSY HHIT HMISS h1 hkA
                      have hk2 : k ≤ 2000 := by omega
                      have hw8 : IntKind.u8.wrap (s : Int) = (s : Int) := by rw [IntKind.wrap_u8]; omega
                      simp only [fdv]
                      go_wp2_with (at_builtin; refine wpList_app _ rfl _ _ 30 rfl 5 i0 _ 1 1 Try.underlying30 hi0 hz0 hz1 hz2 rfl (by decide) (by decide) (.slice av k cv) k _ rfl HO5.out (.slice (some ⟨w5.heap.size, 0, none⟩) 1 1) 1 _ rfl T1.out (u8c_one _) (by omega) ?_; intro v1 w6 g1 g2 g3 g4 g5; obtain ⟨b1, d1, rfl⟩ := g1.form; have G := Lib.hid (RowU.app (l := ob os) HK5.out rfl KA.out HB.out (by rw [HL.out]; exact g1) (by rw [HL.out]; exact g2) (by rw [HL.out]; exact g3)); clear g1 g2 g3 g4 g5)
                      refine ⟨⟨k + 1, by omega, by go_num, os ++ [s], q, HM1.out, by simp [HOL.out], ?_, G.out.2.1, ?_⟩, by simp [intOf]; omega⟩
                      · exact HRD1.out.kp G.out.2.2 (fun b hb q => by have := HPS.out; omega)
                      · rw [ob_snoc]
                        have := G.out.1
                        rwa [HL.out] at this
                    | none =>
                      have HH := Lib.hid (HMISS.out hfd)
                      clear hfd HSY HHIT HMISS
                      simp only [fdv]
                      go_wp2_with fail
                      refine ⟨⟨by first | rfl | trivial, n + 1, C, q, by omega, by go_num, rfl, ?_, by omega, HRD1.out, HK1'.out, HH.out⟩, by simp [intOf]; omega⟩
                      have := HC1.out
                      have := HP.out
                      have := HCC.out
                      omega
                  · obtain rfl : r' = 0 := by omega
                    have HZ := Lib.hid (HSF.out _ _ _ hkN HMS.out (HONE.out.symm.trans (by rw [HE.out, HM.out]; exact one_dry)))
                    have HK4 := Lib.hid (HK3.out.trans2 (HKW.out.trans HKR.out) (fun i hi q => by have := HPS.out; omega))
                    clear TK HE HM
                    go_wp2_with fail
                    go_ret2
                    exact .inr ⟨HZ.out, rfl, HK4.out⟩
            · obtain rfl : k = N := by omega
              have LEFT := Lib.hid (left_p HRDW.out)
              have HK4 := Lib.hid (HK3.out.trans2 HKW.out (fun i hi q => by have := HPS.out; omega))
              simp only at hr5
              go_wp2_with fail
              refine LEFT.out.mono ?_
              rintro e w2 ⟨rfl, hw2⟩
              obtain rfl := hw2
              by_cases hr0 : r = 0
              · have HY := Lib.hid ((HDY.out os).2 (by rw [HMS.out, hr0]))
                subst hr0
                go_wp2_with fail
                go_ret2
                exact .inl ⟨os, HY.out, ⟨_, rfl, by
                  obtain ⟨a2, c2, e2, h1, h2⟩ := HROW.out
                  exact ⟨a2, c2, e2, h1, fun k hk => by have := h2 k hk; have := HPS.out; omega⟩⟩, HK4.out⟩
              · have HZ := Lib.hid (show ∀ o, ¬ DecYes xs l (k : Nat) o from fun o q => by
                  have := (HDY.out o).1 q
                  rw [HMS.out] at this
                  cases this
                  exact hr0 rfl)
                have hr1 : 0 < r := by omega
                clear hr0
                go_wp2_with fail
                go_ret2
                exact .inr ⟨HZ.out, rfl, HK4.out⟩
  · obtain rfl := hw1
    have HZ := Lib.hid (show ∀ o, ¬ DecYes xs l n o from fun o q => hno q.1)
    clear D0 hno
    go_wp2_with fail
    go_ret2
    exact .inr ⟨HZ.out, rfl, Kp.refl _ _⟩
end Go.Proofs.Ytcecnkmhhbncdaa.Rd
