/- block: the program's coded. block: the program's Row. block: the document's Encode of data whose bytes are not all the same. block: the program's Encode of data whose bytes are all the same. -/
import Derived.Test.YtmioiaeiflbmhaaGreatX19
import Derived.Test.YtmioiaeiflbmhaaGreatX20
import Derived.Test.YtmioiaeiflbmhaaGreatX24
import Derived.Test.YtmioiaeiflbmhaaGreatX12
import Derived.Test.YtmioiaeiflbmhaaGreatX10
namespace Go.Proofs.YtmioiaeiflbmhaaGreat.Ma
open Go Go.RowKit Go.ChangeMaps Go.MapKept Go.Mg Go.Mt Go.Hf Go.Proofs.YtmioiaeiflbmhaaGreat.Hu Go.Proofs.YtmioiaeiflbmhaaGreat.Bw Go.Proofs.YtmioiaeiflbmhaaGreat.He Go.Proofs.YtmioiaeiflbmhaaGreat.Rd Go.Proofs.YtmioiaeiflbmhaaGreat.Sq Go.Proofs.YtmioiaeiflbmhaaGreat.Bk
def nf (L : Nat → Nat) (s : Nat) : Nat → Nat := fun i => (if 2 * i < s then L (2 * i) else 0) + (if 2 * i + 1 < s then 16 * L (2 * i + 1) else 0)
theorem nf_zero (L : Nat → Nat) (i : Nat) : nf L 0 i = 0 := by simp [nf]
theorem nf_even (L : Nat → Nat) (i : Nat) : nf L (2 * i) i = 0 ∧ (fun j => if j = i then L (2 * i) else nf L (2 * i) j) = nf L (2 * i + 1) := by
  refine ⟨by unfold nf; rw [if_neg (by omega), if_neg (by omega)], ?_⟩
  funext j
  unfold nf
  by_cases e : j = i
  · subst e; rw [if_pos rfl, if_pos (by omega), if_neg (by omega), Nat.add_zero]
  · rw [if_neg e]
    by_cases h1 : 2 * j < 2 * i
    · rw [if_pos h1, if_pos (by omega), if_pos (by omega), if_pos (by omega)]
    · rw [if_neg h1, if_neg (by omega), if_neg (by omega), if_neg (by omega)]
theorem nf_odd (L : Nat → Nat) (i : Nat) : nf L (2 * i + 1) i = L (2 * i) ∧ (fun j => if j = i then L (2 * i) + 16 * L (2 * i + 1) else nf L (2 * i + 1) j) = nf L (2 * i + 1 + 1) := by
  refine ⟨by unfold nf; rw [if_pos (by omega), if_neg (by omega), Nat.add_zero], ?_⟩
  funext j
  unfold nf
  by_cases e : j = i
  · subst e; rw [if_pos rfl, if_pos (by omega), if_pos (by omega)]
  · rw [if_neg e]
    by_cases h1 : 2 * j < 2 * i + 1
    · rw [if_pos h1, if_pos (by omega), if_pos (by omega), if_pos (by omega)]
    · rw [if_neg h1, if_neg (by omega), if_neg (by omega), if_neg (by omega)]
theorem or_nib8 {x y : Nat} (hx : x < 16) (hy : y < 16) : Go.bits .or .u8 (x : Int) ((y : Int) * 16) = ((x + 16 * y : Nat) : Int) := by
  have := (bits_nat .u8 8 (by decide) wraps_u8 x (16 * y) (by omega) (by omega)).2
  have e : ((16 * y : Nat) : Int) = (y : Int) * 16 := by push_cast; omega
  rw [e] at this
  rw [this, Nat.or_comm]
  have h4 : 16 * y = 2 ^ 4 * y := rfl
  rw [h4, ← Nat.two_pow_add_eq_or_of_lt (i := 4) (by omega) y]
  simp [Nat.add_comm]
theorem or_zero8 {y : Nat} (hy : y < 256) : Go.bits .or .u8 (0 : Int) (y : Int) = (y : Int) := by
  have := (bits_nat .u8 8 (by decide) wraps_u8 0 y (by omega) (by omega)).2
  simpa using this
theorem nib_row {w : World} {g : Nat} {L : Nat → Nat} (h : UAt w g 128 (nf L 256)) (hL : ∀ i, i < 256 → L i ≤ 11) : RowM 5 u8c g w (.slice (some ⟨g, 0, none⟩) 128 128) (nib L) := by
  have hl := nib_len L
  have e : (nib L).map u8c = (List.range 128).map fun i => Value.int .u8 (nf L 256 i : Nat) := by
    unfold nib
    rw [List.map_map]
    apply List.map_congr_left
    intro i hi
    have hi := List.mem_range.1 hi
    have h1 := hL (2 * i) (by omega)
    have h2 := hL (2 * i + 1) (by omega)
    have e2 : nf L 256 i = L (2 * i) + 16 * L (2 * i + 1) := by
      unfold nf; rw [if_pos (by omega), if_pos (by omega)]
    simp only [Function.comp, u8c]
    congr 1
    rw [UInt8.toNat_ofNat', e2]
    omega
  refine ⟨_, _, by rw [hl], ⟨by simp, .inr ⟨g, 128, _, (0, 0), rfl, h, .inl rfl, by rw [hl]; omega, by unfold maxLen; omega, ?_, ?_⟩⟩, fun k hk => Nat.le_of_eq (own_b hk).symm⟩
  · simp
  · rw [e]
    simp only [Nat.mul_one]
    rw [hl, List.take_of_length_le (by simp)]
theorem enc_o {w : World} {b : List UInt8} {L : Nat → Nat} (hL : IsLens (cts b) L) (hl : b.length ≤ 1000) {e : Ending} {w' : World} (h : EncPost w (lensOf 256 L) b e w') :
    ∃ (PO : List UInt8) (pa : Option Addr) (pc : Nat) (z : Bool), e = .returned (.tuple #[.slice pa PO.length pc, .bool z]) ∧ RowB w.heap.size w' (.slice pa PO.length pc) PO ∧ Kp (fun _ => False) w w' ∧ PO.length ≤ 2000 ∧ (0 < b.length → PO = codesB b) := by
  rcases h with ⟨hok, g, rfl, h1, h2, h3⟩ | ⟨hno, rfl, h3⟩
  · have hbl := bt_len hok.1.2.1 b b.length
    have hp := pack_row h2 (by omega)
    have hpl := pack_len (bt (lensOf 256 L) b b.length)
    refine ⟨pack (bt (lensOf 256 L) b b.length), some ⟨g, 0, none⟩, _, true, by rw [hpl], ?_, h3, by rw [hpl]; omega, fun h0 => (codes_le h0 hL).1.symm⟩
    rw [hpl] at hp ⊢
    exact hp.low h1
  · exact ⟨[], none, 0, false, rfl, RowM.nil _ _ _, h3, by simp, fun h0 => absurd (enc_ok h0 hL) hno⟩
def CodedPost (w : World) (b : List UInt8) (e : Ending) (w' : World) : Prop := ∃ (q : List UInt8) (a : Option Addr) (c : Nat), e = .returned (.slice a q.length c) ∧ RowB w.heap.size w' (.slice a q.length c) q ∧ Kp (fun _ => False) w w' ∧ q.length ≤ 20000 ∧ (0 < b.length → q = codedB b)
set_option maxRecDepth 100000 in
set_option maxHeartbeats 4000000 in
theorem coded_p (W : World) (b : List UInt8) (a : Option Addr) (c : Nat) (h : SlR W 1 (.slice a b.length c) b.length (b.map u8c)) (hl : b.length ≤ 1000) :
    Calls Tryz.prog 154 #[.slice a b.length c] W (CodedPost W b) := by
  obtain ⟨j0, hj0, hy0, hy1, hy2⟩ := info_parts infoU8
  have H := Lib.hid h
  have HCE : Hid (codedB b = nib (lensB b) ++ (two (codesB b).length ++ codesB b)) := Lib.hid rfl
  have HLE := Lib.hid (fun L hh => lensB_eq (b := b) (L := L) hh)
  have HCTL := Lib.hid (cts_len b)
  have HCTS := Lib.hid (cts_sum b)
  have HCTR := Lib.hid (cts_row b)
  have HUP := Lib.hid (cnt_up b)
  have HC0 : Hid (∀ i, cnt b 0 i = 0) := Lib.hid (fun _ => rfl)
  have HCNL := Lib.hid (cnt_le b)
  have HAT := Lib.hid (fun h0 => byts_at h h0)
  have HENC := Lib.hid (fun w xs a' c' hx hy hz => encode_p w xs a' c' hx hy b a c hz hl)
  have HEO := Lib.hid (fun w L hL e w' hh => enc_o (w := w) (b := b) (L := L) hL hl (e := e) (w' := w') hh)
  have hbyt : byt b = sym b := rfl
  rw [hbyt] at HAT
  have HSY := Lib.hid (sym_lt b)
  unfold CodedPost
  obtain ⟨n, hn⟩ : ∃ n, n = b.length := ⟨_, rfl⟩
  have HN := Lib.hid hn
  rw [← hn] at HCTS HCTR H HAT HENC HEO hl ⊢
  obtain ⟨W2, hmk, hia, hkw, hws⟩ := made_i W 256 (by omega)
  have hmk2 : (Instr.makeSlice 179 (.int .i64 256) (.int .i64 256)).run Tryz.prog W = .ok (.slice (some ⟨W.heap.size, 0, none⟩) 256 256) W2 := hmk
  have HI0 : Hid (IAt 3 W2 W.heap.size 256 (cnt b 0)) := Lib.hid (hia.congr (fun i _ => (HC0.out i).symm))
  have HKW := Lib.hid hkw
  clear h hn hbyt hmk hia hkw
  go_enter Tryz.func154, Tryz.ntmps154
  go_wp2_with fail
  obtain ⟨G, hG⟩ : ∃ G, G = W.heap.size := ⟨_, rfl⟩
  rw [← hG] at HI0 hws ⊢
  have HGE := Lib.hid hG
  clear hG hmk2
  go_loopw [5, 15] (fun _ i wr => ∃ k : Nat, k ≤ n ∧ i = .int .i64 k ∧ IAt 3 wr G 256 (cnt b k) ∧ Kp (fun _ => False) W wr ∧ G < wr.heap.size) (fun _ i _ => n - (intOf i).toNat)
  case atStart => exact ⟨0, Nat.zero_le _, rfl, HI0.out, HKW.out, hws⟩
  case round =>
    clear HI0 hws
    obtain ⟨k, hk, rfl, hat, hkw, hsz⟩ := hrel
    have HA := Lib.hid hat
    have HKR := Lib.hid hkw
    have HSZ := Lib.hid hsz
    clear hat hkw hsz
    by_cases hlt : k < n
    · obtain ⟨g, o, rfl, hg, hcap, hcc⟩ := HAT.out (by omega)
      have d0 := (HKR.out.cell (p := ⟨g, o + k, none⟩) hg (fun q => q)).trans (hcc k hlt)
      have h256 := HSY.out k
      have hup := HUP.out k
      have hcn := HCNL.out k (sym b k)
      obtain ⟨x, hx⟩ : ∃ x, x = sym b k := ⟨_, rfl⟩
      rw [← hx] at d0 h256 hup hcn
      have c1 := IAt.cell HA.out (i := x) (by omega)
      have f1 := IAt.free HA.out x
      have hset := IAt.set HA.out (i := x) (by omega) (cnt b k x + 1)
      rw [hup] at hset
      obtain ⟨y, hy⟩ : ∃ y, y = cnt b k x := ⟨_, rfl⟩
      rw [← hy] at c1 hset hcn
      have hks : Kp (· = G) wr (wr.setCell ⟨G, x, none⟩ (.int .i64 (y + 1 : Nat))) := (Kp.refl (· = G) wr).setCell (p := ⟨G, x, none⟩) (fun _ => rfl) _
      have hkw2 : Kp (fun _ => False) W (wr.setCell ⟨G, x, none⟩ (.int .i64 (y + 1 : Nat))) := HKR.out.trans2 hks (fun i hi q => by have := HGE.out; omega)
      obtain ⟨V, hV⟩ : ∃ V, V = wr.setCell ⟨G, x, none⟩ (.int .i64 (y + 1 : Nat)) := ⟨_, rfl⟩
      have hVi : wr.setCell ⟨G, x, none⟩ (.int .i64 ((y : Int) + 1)) = V := by rw [hV]; rfl
      have hVs : V.heap.size = wr.heap.size := by rw [hV]; simp
      rw [← hV] at hset hkw2
      have HSET := Lib.hid hset
      have HKW2 := Lib.hid hkw2
      have HVS := Lib.hid hVs
      clear hset hks hkw2 hV hVs hx hy hup hcc hg
      go_wp2_with fail
      exact ⟨⟨k + 1, by omega, by go_num, HSET.out, HKW2.out, by rw [HVS.out]; exact HSZ.out⟩, by simp [intOf]; try omega⟩
    · obtain rfl : k = n := by omega
      clear hlt hk HSY HUP HCNL HC0 HAT
      obtain ⟨wo, rfl⟩ : ∃ wo : World, wo = wr := ⟨_, rfl⟩
      have LD : Hid (Calls Tryz.prog 179 #[.slice (some ⟨G, 0, none⟩) 256 256] wo (LensPost wo (cts b))) := Lib.hid (by
        have := lens_p wo (cts b) (some ⟨G, 0, none⟩) 256 (by
          have h1 := IAt.rd HA.out (by omega)
          unfold IntsR at h1
          rw [HCTR.out] at h1
          rw [HCTL.out]
          exact h1) (by rw [HCTL.out]; omega) (by have := HCTS.out; omega)
        rw [HCTL.out] at this
        exact this)
      go_wp2_with fail
      refine LD.out.mono ?_
      rintro e w8 ⟨L, la, lc, rfl, hL, hlo, hk8⟩
      rw [HCTL.out] at hlo ⊢
      have HNM := Lib.hid (lens_nm hlo)
      have HLI : Hid (IntsR w8 la lc 256 L) := Lib.hid hlo.row.sl
      have HL := Lib.hid hL
      have HL11 : Hid (∀ i, i < 256 → L i ≤ 11) := Lib.hid (fun i hi => hL.le i (by rw [HCTL.out]; exact hi))
      have KW8 := Lib.hid (HKR.out.trans hk8)
      obtain ⟨lg, lo, rfl, -, hlcap, hlcc⟩ := HLI.out.at_ (by omega)
      have LC := Lib.hid hlcc
      obtain ⟨cur, hcur, hmk⟩ := make_u8 w8 128 (by omega)
      have hmk2 : (Instr.makeSlice 23 (.int .i64 128) (.int .i64 128)).run Tryz.prog w8 = .ok (.slice (some ⟨w8.heap.size, 0, none⟩) 128 128) (w8.alloc (.cells cur 5)) := hmk
      have U0 : Hid (UAt (w8.alloc (.cells cur 5)) w8.heap.size 128 (nf L 0)) := Lib.hid (by
        have := UAt.made (w := w8) hcur
        have e : (fun _ => 0) = nf L 0 := by funext i; exact (nf_zero L i).symm
        rw [e] at this
        exact this)
      have K0 := Lib.hid (kp_alloc w8 (.cells cur 5))
      have HEV := Lib.hid (nf_even L)
      have HOD := Lib.hid (nf_odd L)
      have HNR := Lib.hid (fun w g hh hl => nib_row (w := w) (g := g) (L := L) hh hl)
      clear hL hlo hk8 LD hlcc hcur hmk
      go_wp2_with fail
      generalize hW : w8.alloc (.cells cur 5) = W8 at U0 K0 ⊢
      clear hmk2 hW
      go_loopw [8, 9, 31] (fun _ _ i wn => ∃ s : Nat, s ≤ 256 ∧ i = .int .i64 s ∧ UAt wn w8.heap.size 128 (nf L s) ∧ Kp (fun _ => False) w8 wn) (fun _ _ i _ => 256 - (intOf i).toNat)
      case atStart => exact ⟨0, Nat.zero_le _, rfl, U0.out, K0.out⟩
      case round =>
        clear U0 K0
        obtain ⟨s, hs, rfl, hu, hkp⟩ := hrel
        have HK := Lib.hid hkp
        have HU := Lib.hid hu
        have HS := Lib.hid hs
        clear hs
        by_cases hsn : s < 256
        · have d0 : ∀ j, (wr.drewN j).cell? ⟨lg, lo + s, none⟩ = some (.int .i64 (L s : Nat)) := fun j => LC.out _ (hkp.drewN j) s hsn
          have d1 := LC.out _ hkp s hsn
          have hy11 := HL11.out s hsn
          have HSN := Lib.hid hsn
          rcases (show s % 2 = 0 ∨ s % 2 = 1 by omega) with hp | hp
          · obtain ⟨i, hi⟩ : ∃ i, s = 2 * i := ⟨s / 2, by omega⟩
            have hi128 : i < 128 := by omega
            rw [hi] at hu
            have f1 := hu.cell hi128
            have f2 : wr.frozen? ⟨w8.heap.size, i, none⟩ = false := free_of hu i
            have HSET := Lib.hid (UAt.set (w := wr.drew) hu hi128 (L (2 * i)))
            obtain ⟨e1, e2⟩ := HEV.out i
            rw [e1] at f1
            rw [e2] at HSET
            rw [← hi] at HSET
            have hx11 := HL11.out (2 * i) (by omega)
            have HII := Lib.hid hi
            have HI128 := Lib.hid hi128
            have HDEC : decide ((s : Int) < 256) = true := decide_eq_true (by omega)
            have q0 : (s : Int) / 2 = (i : Nat) := by omega
            have q1 : IntKind.i64.wrap (i : Int) = (i : Int) := by rw [IntKind.wrap_i64]; omega
            have q2 : (0 : Int) ≤ (i : Int) := by omega
            have q3 : (i : Int) < 128 := by omega
            have q5 : (s : Int).tmod 2 = 0 := by rw [Int.tmod_eq_emod_of_nonneg (by omega)]; omega
            have q6 : (s : Int) % 2 = 0 := by omega
            have q7 : IntKind.i64.wrap 0 = 0 := by rw [IntKind.wrap_i64]; omega
            obtain ⟨y, hy⟩ : ∃ y, y = L s := ⟨_, rfl⟩
            rw [← hy] at d1 hy11 HSET
            have hor := or_zero8 (y := y) (by omega)
            have hwy : (y : Int) % 256 = (y : Int) := by omega
            have hw1 : IntKind.u8.wrap (y : Int) = (y : Int) := by rw [IntKind.wrap_u8]; omega
            have hw2 : IntKind.i64.wrap (y : Int) = (y : Int) := by rw [IntKind.wrap_i64]; omega
            clear hy d0 hp
            clear e1 e2 hu hi hkp hsn hi128
            go_wp2_with fail
            go_region_law (fail)
            all_goals
              have hs6 := HSN.out
              go_wp2_with fail
              refine ⟨⟨s + 1, by omega, by go_num, ?_, ?_⟩, by simp [intOf]; omega⟩
              · exact HSET.out
              · exact HK.out.drew.setCell (p := ⟨w8.heap.size, i, none⟩) (fun q => by simp only at q; omega) _
          · obtain ⟨i, hi⟩ : ∃ i, s = 2 * i + 1 := ⟨s / 2, by omega⟩
            have hi128 : i < 128 := by omega
            rw [hi] at hu
            have f1 := hu.cell hi128
            have f2 : wr.frozen? ⟨w8.heap.size, i, none⟩ = false := free_of hu i
            have HSET := Lib.hid (UAt.set (w := wr.drew) hu hi128 (L (2 * i) + 16 * L (2 * i + 1)))
            obtain ⟨e1, e2⟩ := HOD.out i
            rw [e1] at f1
            rw [e2] at HSET
            rw [← hi] at HSET
            have hx11 := HL11.out (2 * i) (by omega)
            have HII := Lib.hid hi
            have HI128 := Lib.hid hi128
            have HDEC : decide ((s : Int) < 256) = true := decide_eq_true (by omega)
            have q0 : (s : Int) / 2 = (i : Nat) := by omega
            have q1 : IntKind.i64.wrap (i : Int) = (i : Int) := by rw [IntKind.wrap_i64]; omega
            have q2 : (0 : Int) ≤ (i : Int) := by omega
            have q3 : (i : Int) < 128 := by omega
            have q5 : (s : Int).tmod 2 = 1 := by rw [Int.tmod_eq_emod_of_nonneg (by omega)]; omega
            have q6 : (s : Int) % 2 = 1 := by omega
            have q7 : IntKind.i64.wrap 4 = 4 := by rw [IntKind.wrap_i64]; omega
            obtain ⟨x, hx⟩ : ∃ x, x = L (2 * i) := ⟨_, rfl⟩
            obtain ⟨y, hy⟩ : ∃ y, y = L s := ⟨_, rfl⟩
            rw [← hy] at d1 hy11 HSET
            rw [← hx] at f1 hx11 HSET
            have hor := or_nib8 (x := x) (y := y) (by omega) (by omega)
            have hwy : (y : Int) * 16 % 256 = (y : Int) * 16 := by omega
            have hw1 : IntKind.u8.wrap ((y : Int) * 16) = (y : Int) * 16 := by rw [IntKind.wrap_u8]; omega
            have hw2 : IntKind.i64.wrap ((y : Int) * 16) = (y : Int) * 16 := by rw [IntKind.wrap_i64]; omega
            clear hx hy d0 hp
            clear e1 e2 hu hi hkp hsn hi128
            go_wp2_with fail
            go_region_law (fail)
            all_goals
              have hs6 := HSN.out
              go_wp2_with fail
              refine ⟨⟨s + 1, by omega, by go_num, ?_, ?_⟩, by simp [intOf]; omega⟩
              · exact HSET.out
              · exact HK.out.drew.setCell (p := ⟨w8.heap.size, i, none⟩) (fun q => by simp only at q; omega) _
        · have hs256 : s = 256 := by have := HS.out; omega
          subst hs256
          have EN : Hid (Calls Tryz.prog 180 #[.slice (some ⟨lg, lo, none⟩) 256 lc, .slice a k c] wr (fun e w' => ∃ (PO : List UInt8) (pa : Option Addr) (pc : Nat) (z : Bool), e = .returned (.tuple #[.slice pa PO.length pc, .bool z]) ∧ RowB wr.heap.size w' (.slice pa PO.length pc) PO ∧ Kp (fun _ => False) wr w' ∧ PO.length ≤ 2000 ∧ (0 < k → PO = codesB b))) := Lib.hid (by
            have := HENC.out wr (lensOf 256 L) (some ⟨lg, lo, none⟩) lc (HNM.out.kp hkp) (by rw [lens_len]; omega) (H.out.kp (KW8.out.trans hkp) (fun _ _ q => q))
            rw [lens_len] at this
            exact this.mono (fun e w' hh => HEO.out wr L HL.out e w' hh))
          have NR := Lib.hid (HNR.out wr w8.heap.size hu HL11.out)
          have KN := Lib.hid (KW8.out.trans hkp)
          obtain ⟨nl, hnl⟩ : ∃ nl, nl = nib L := ⟨_, rfl⟩
          rw [← hnl] at NR
          have HNL := Lib.hid hnl
          have hnll : nl.length = 128 := by rw [hnl]; exact nib_len L
          have HNLL := Lib.hid hnll
          clear HEV HOD hu hkp HNR HENC HEO hnl hsn hnll
          go_wp2_with fail
          refine EN.out.mono ?_
          rintro e w12 ⟨PO, pa, pc, z, rfl, r12, k12, hm2, hcod⟩
          obtain ⟨m, hm⟩ : ∃ m, m = PO.length := ⟨_, rfl⟩
          rw [← hm] at r12 hm2 ⊢
          have HM := Lib.hid hm
          have HCOD := Lib.hid hcod
          have PR := Lib.hid r12
          have KP := Lib.hid (HK.out.trans k12)
          have RB := Lib.hid (NR.out.kp0 k12)
          have HNE : Hid (∀ x, (Value.slice pa m pc).ownBlock = some x → ¬ (Value.slice (some ⟨w8.heap.size, 0, none⟩) 128 128).ownBlock = some x) := Lib.hid (fun x q1 q2 => by
            have h1 := r12.lt q1
            have h2 := own_b q2
            have h3 := NR.out.lt q2
            omega)
          clear r12 k12 hm hcod EN
          go_wp2_with fail
          refine (sized_p m w12).mono ?_
          rintro e w13 ⟨g13, rfl, -, t13, k13⟩
          have T13 := Lib.hid t13.sl.1
          have KT := Lib.hid (KP.out.trans k13)
          have RB13 := Lib.hid (RB.out.kp0 k13)
          have P13 := Lib.hid ((PR.out.kp0 k13).sl.1)
          rw [← HM.out] at P13
          clear t13 k13
          go_wp2_with (first
            | (at_builtin; refine wpList_appM (w0 := w8) _ rfl _ _ 23 rfl 5 j0 _ 1 Tryz.underlying23 hj0 hy0 hy1 hy2 rfl (by decide) (by decide) u8c_1 (.slice (some ⟨w8.heap.size, 0, none⟩) 128 128) nl rfl RB13.out (.slice (some ⟨g13, 0, none⟩) 2 2) 2 (two m) rfl T13.out rfl KT.out 130 (by rw [HNLL.out]) (by omega) ?_; intro a15 c15 w15 g1 g2 g3; have G15 := Lib.hid g1; have K15 := Lib.hid g2; have P15 := Lib.hid (P13.out.kp g3 (fun x hb hb2 => HNE.out x hb hb2)); clear g1 g2 g3)
            | (at_builtin; refine wpList_appM (w0 := w8) _ rfl _ _ 23 rfl 5 j0 _ 1 Tryz.underlying23 hj0 hy0 hy1 hy2 rfl (by decide) (by decide) u8c_1 (.slice a15 130 c15) (nl ++ two m) rfl G15.out (.slice pa m pc) m PO rfl P15.out HM.out.symm K15.out (130 + m) (by rw [List.length_append, HNLL.out]; rfl) (by omega) ?_; intro a16 c16 w16 g1 g2 g3; have G16 := Lib.hid g1; have K16 := Lib.hid g2; clear g1 g2 g3))
          go_ret
          have hql : (nl ++ two m ++ PO).length = 130 + m := by rw [List.length_append, List.length_append, HNLL.out, ← HM.out]; rfl
          refine ⟨nl ++ two m ++ PO, a16, c16, by rw [hql]; rfl, ?_, KW8.out.trans K16.out, by rw [hql]; omega, fun h0 => ?_⟩
          · rw [hql]; exact G16.out.low KW8.out.size
          · rw [HCE.out, HLE.out L HL.out, ← HCOD.out h0, ← HM.out, ← HNL.out, List.append_assoc]
end Go.Proofs.YtmioiaeiflbmhaaGreat.Ma
namespace Go.Proofs.YtmioiaeiflbmhaaGreat.Ma
open Go Go.RowKit Go.ChangeMaps Go.MapKept Go.Mg Go.Mt Go.Hf Go.Proofs.YtmioiaeiflbmhaaGreat.Hu Go.Proofs.YtmioiaeiflbmhaaGreat.Bw Go.Proofs.YtmioiaeiflbmhaaGreat.He Go.Proofs.YtmioiaeiflbmhaaGreat.Sq Go.Proofs.YtmioiaeiflbmhaaGreat.Bk
set_option maxRecDepth 100000 in
set_option maxHeartbeats 4000000 in
theorem rowP_same (W : World) (b : List UInt8) (a : Option Addr) (c : Nat) (h : SlR W 1 (.slice a b.length c) b.length (b.map u8c)) (hl : b.length ≤ 100000) (hsame : Bk.same b = true) :
    Calls Tryz.prog 121 #[.slice a b.length c] W (RowPost7 W (Bk.rowB b)) := by
  obtain ⟨j0, hj0, hy0, hy1, hy2⟩ := info_parts infoU8
  have h0 : 0 < b.length := by
    unfold Bk.same at hsame
    simp only [Bool.and_eq_true, decide_eq_true_eq] at hsame
    exact hsame.1
  have SM := Lib.hid (isRun_p W b a c h hl)
  rw [hsame] at SM
  obtain ⟨g, o, rfl, hg, hcap, hc⟩ := byts_at h h0
  have HB : Hid (Bk.rowB b = [1] ++ two b.length ++ [UInt8.ofNat (byt b 0)] ∧ (Bk.rowB b).length = 4) := Lib.hid (by
    unfold Bk.rowB
    rw [if_pos hsame]
    exact ⟨by simp [byt], by simp [two]⟩)
  have hc0 := hc 0 h0
  rw [Nat.add_zero] at hc0
  have hy256 := byt_lt b 0
  obtain ⟨y, hy⟩ : ∃ y, y = byt b 0 := ⟨_, rfl⟩
  rw [← hy] at HB hc0 hy256
  obtain ⟨n, hn⟩ : ∃ n, n = b.length := ⟨_, rfl⟩
  rw [← hn] at HB SM hl ⊢
  have TW := Lib.hid (sized_p n)
  have HCC := Lib.hid (fun V (hk : Kp (fun _ => False) W V) => (hk.cell (p := ⟨g, o, none⟩) hg (fun q => q)).trans hc0)
  have hn0 : 0 < n := by omega
  clear h hc hn hy hc0 hsame h0
  go_enter Tryz.func121, Tryz.ntmps121
  go_wp2_with fail
  refine SM.out.mono ?_
  rintro e w ⟨rfl, hw0⟩
  have K00 : Hid (Kp (fun _ => False) W w) := Lib.hid (by rw [hw0]; exact Kp.refl _ _)
  clear hw0 SM
  have HCELL : Hid (∀ V, Kp (fun _ => False) w V → V.cell? ⟨g, o, none⟩ = some (.int .u8 (y : Nat))) := Lib.hid (fun V hv => HCC.out V (K00.out.trans hv))
  have t0 := HCELL.out w (Kp.refl _ _)
  have e1 : u8c 1 = .int .u8 1 := rfl
  have ey := u8c_lt hy256
  have KE : Hid (Kp (fun _ => False) w w.drew) := Lib.hid (Kp.refl _ _).drew
  have K13 : Hid (Kp (fun _ => False) w (w.alloc (.cells #[.int .u8 1] 5)).drew) := Lib.hid (kp_alloc _ _).drew
  have K21 : Hid (Kp (fun _ => False) w (w.alloc (.cells #[.int .u8 (y : Nat)] 5)).drew) := Lib.hid (kp_alloc _ _).drew
  have K1321 : Hid (Kp (fun _ => False) w ((w.alloc (.cells #[.int .u8 1] 5)).alloc (.cells #[.int .u8 (y : Nat)] 5)).drew) := Lib.hid ((kp_alloc _ _).trans (kp_alloc _ _)).drew
  have K2113 : Hid (Kp (fun _ => False) w ((w.alloc (.cells #[.int .u8 (y : Nat)] 5)).alloc (.cells #[.int .u8 1] 5)).drew) := Lib.hid ((kp_alloc _ _).trans (kp_alloc _ _)).drew
  have ROW1 : Hid (∀ V : World, w.heap.size ≤ V.heap.size → RowB w.heap.size (V.alloc (.cells #[.int .u8 1] 5)) (.slice (some ⟨V.heap.size, 0, none⟩) 1 1) [1]) := Lib.hid (fun V hv => lit_one V _ _ _ hv 1 e1)
  have ROW1b : Hid (∀ V : World, w.heap.size ≤ V.heap.size → RowB w.heap.size ((V.alloc (.cells #[.int .u8 (y : Nat)] 5)).alloc (.cells #[.int .u8 1] 5)) (.slice (some ⟨V.heap.size + 1, 0, none⟩) 1 1) [1]) := Lib.hid (fun V hv => lit_two V _ _ _ _ hv 1 e1)
  have LIT21 : Hid (∀ V : World, SlR (V.alloc (.cells #[.int .u8 (y : Nat)] 5)) 1 (.slice (some ⟨V.heap.size, 0, none⟩) 1 1) 1 ([UInt8.ofNat y].map u8c)) := Lib.hid (fun V => (lit_one V 5 _ 0 (by omega) _ ey).sl.1)
  have LIT21b : Hid (∀ V : World, SlR ((V.alloc (.cells #[.int .u8 1] 5)).alloc (.cells #[.int .u8 (y : Nat)] 5)) 1 (.slice (some ⟨V.heap.size + 1, 0, none⟩) 1 1) 1 ([UInt8.ofNat y].map u8c)) := Lib.hid (fun V => (lit_two V 5 _ _ 0 (by omega) _ ey).sl.1)
  have R13a := Lib.hid (ROW1.out w (Nat.le_refl _))
  have R13c := Lib.hid (R13a.out.kp0 (kp_alloc _ (.cells #[.int .u8 (y : Nat)] 5)))
  have R13b := Lib.hid (ROW1b.out w (Nat.le_refl _))
  have S21a := Lib.hid (LIT21.out w)
  have S21c := Lib.hid (S21a.out.kp (kp_alloc _ (.cells #[.int .u8 1] 5)) (fun _ _ q => q))
  have S21b := Lib.hid (LIT21b.out w)
  have KGR : Hid (∀ X V : World, Kp (fun _ => False) w X → Kp (fun k => w.heap.size ≤ k) X V → Kp (fun _ => False) w V) := Lib.hid (fun X V h1 h2 => h1.trans2 h2 (fun i hi q => by omega))
  have LIT : Hid (∀ (X V : World) (v : Value) (g' n' c' : Nat), Kp (fun k => v.ownBlock = some k) X V → SlR X 1 (.slice (some ⟨g', 0, none⟩) n' c') n' ([UInt8.ofNat y].map u8c) → ¬ v.ownBlock = some g' → SlR V 1 (.slice (some ⟨g', 0, none⟩) n' c') n' ([UInt8.ofNat y].map u8c)) := Lib.hid (fun X V v g' n' c' h1 h2 h3 => h2.kp h1 (fun b hb q => by have := own_b hb; rw [this] at q; exact h3 q))
  clear ey e1
  go_wp2_with fail
  go_region_held3 (fun V => V.cell? ⟨g, o, none⟩ = some (.int .u8 (y : Nat))) (go_keep) ((first
    | (go_simp; go_at_call 116; refine (TW.out _).mono ?_; rintro e V ⟨g9, rfl, _, t9, k9⟩; have KV : Hid (Kp (fun _ => False) w V) := Lib.hid (Kp.trans (by first | exact KE.out | exact K13.out | exact K21.out | exact K1321.out | exact K2113.out) k9); have s0 : V.cell? ⟨g, o, none⟩ = some (.int .u8 (y : Nat)) := HCELL.out _ KV.out; have T9 := Lib.hid t9.sl.1; have kd9 := (Kp.refl (fun _ => False) _).drew.trans k9; have SZV := Lib.hid KV.out.size;
          (try have P13 : Hid (RowB w.heap.size V (.slice (some ⟨w.heap.size, 0, none⟩) 1 1) [1]) := Lib.hid (by first | exact R13a.out.kp0 kd9 | exact R13c.out.kp0 kd9));
          (try have P13 : Hid (RowB w.heap.size V (.slice (some ⟨w.heap.size + 1, 0, none⟩) 1 1) [1]) := Lib.hid (by exact R13b.out.kp0 kd9));
          (try have Q21 : Hid (SlR V 1 (.slice (some ⟨w.heap.size, 0, none⟩) 1 1) 1 ([UInt8.ofNat y].map u8c)) := Lib.hid (by first | exact S21a.out.kp kd9 (fun _ _ q => q) | exact S21c.out.kp kd9 (fun _ _ q => q)));
          (try have Q21 : Hid (SlR V 1 (.slice (some ⟨w.heap.size + 1, 0, none⟩) 1 1) 1 ([UInt8.ofNat y].map u8c)) := Lib.hid (by exact S21b.out.kp kd9 (fun _ _ q => q)));
          clear t9 k9 kd9)
    | (refine step_growB (B := w.heap.size) _ (by rfl) (.tmp 6) (.tmp 9) 23 (by rfl) j0 _ 1 Tryz.underlying23 hj0 hy0 hy1 hy2 (by decide) (by decide) u8c_1 _ [1] (by rfl) (by first | exact P13.out | exact P13.out.kp0 (kp_alloc _ _) | exact ROW1.out _ SZV.out | exact (ROW1.out _ SZV.out).kp0 (kp_alloc _ _) | exact ROW1b.out _ SZV.out) (by first | exact SZV.out | exact Nat.le_trans SZV.out (kp_alloc _ _).size | exact Nat.le_trans SZV.out (Nat.le_trans (kp_alloc _ _).size (kp_alloc _ _).size)) (.slice (some ⟨g9, 0, none⟩) 2 2) 2 (two n) (by rfl) (by first | exact T9.out | exact T9.out.kp (kp_alloc _ _) (fun _ _ q => q) | exact (T9.out.kp (kp_alloc _ _) (fun _ _ q => q)).kp (kp_alloc _ _) (fun _ _ q => q)) rfl 3 rfl (by omega) ?_; intro a6 d6 w6 hg hb6; have hk6 := hg.2.2.mono (G := fun k => w.heap.size ≤ k) (fun _ _ q => hb6 _ q); have s6 : w6.cell? ⟨g, o, none⟩ = some (.int .u8 (y : Nat)) := HCELL.out _ (KGR.out _ _ (by first | exact KV.out | exact KV.out.alloc _ | exact (KV.out.alloc _).alloc _) hk6); have G6 := Lib.hid hg.1; have K6 := Lib.hid (KGR.out _ _ (by first | exact KV.out | exact KV.out.alloc _ | exact (KV.out.alloc _).alloc _) hk6);
          (try have Z21 := Lib.hid (LIT.out _ _ _ _ _ _ hg.2.2 (by first | exact Q21.out | exact Q21.out.kp (kp_alloc _ _) (fun _ _ q => q)) (by intro q; have q2 := own_b q; first | omega | (have := slr_lt Q21.out; omega) | (have := slr_lt (c := 1) (xs := [u8c 1]) (by exact P13.out.sl.1); omega))));
          (try have Z21 := Lib.hid (LIT.out _ _ _ _ _ _ hg.2.2 (by first | exact LIT21b.out _ | exact LIT21.out _ | exact (LIT21.out _).kp (kp_alloc _ _) (fun _ _ q => q)) (by intro q; have q2 := own_b q; first | omega | (have := slr_lt (c := 1) (xs := [u8c 1]) (by exact P13.out.sl.1); omega))));
          clear hg hb6 hk6)
    | (refine step_growB (B := w.heap.size) _ (by rfl) (.tmp 10) (.tmp 14) 23 (by rfl) j0 _ 1 Tryz.underlying23 hj0 hy0 hy1 hy2 (by decide) (by decide) u8c_1 (.slice a6 3 d6) ([1] ++ two n) (by rfl) (by first | exact G6.out | exact G6.out.kp0 (kp_alloc _ _)) (by first | exact K6.out.size | exact (K6.out.alloc _).size) _ 1 [UInt8.ofNat y] (by rfl) (by first | exact Z21.out | exact LIT21.out _) rfl 4 rfl (by omega) ?_; intro a7 d7 w7 hg hb7; have hk7 := hg.2.2.mono (G := fun k => w.heap.size ≤ k) (fun _ _ q => hb7 _ q); have s7 : w7.cell? ⟨g, o, none⟩ = some (.int .u8 (y : Nat)) := HCELL.out _ (KGR.out _ _ (by first | exact K6.out | exact K6.out.alloc _) hk7); have G7 := Lib.hid hg.1; have K7 := Lib.hid (KGR.out _ _ (by first | exact K6.out | exact K6.out.alloc _) hk7); clear hg hb7 hk7)))
  all_goals (go_wp2_with fail)
  all_goals
    go_ret
    rw [HB.out.1]
    have hl4 : ([1] ++ two n ++ [UInt8.ofNat y] : List UInt8).length = 4 := rfl
    exact ⟨a7, d7, rfl, G7.out.low K00.out.size, K00.out.trans K7.out⟩
set_option maxRecDepth 100000 in
set_option maxHeartbeats 4000000 in
theorem rowP_not (W : World) (b : List UInt8) (a : Option Addr) (c : Nat) (h : SlR W 1 (.slice a b.length c) b.length (b.map u8c)) (hl : b.length ≤ 1000) (hsame : Bk.same b = false) :
    Calls Tryz.prog 121 #[.slice a b.length c] W (RowPost7 W (Bk.rowB b)) := by
  obtain ⟨j0, hj0, hy0, hy1, hy2⟩ := info_parts infoU8
  have SM := Lib.hid (isRun_p W b a c h (by omega))
  rw [hsame] at SM
  have H := Lib.hid h
  have HR := Lib.hid (row_not hsame)
  have HCL := Lib.hid (coded_len b)
  have CP := Lib.hid (coded_p W b a c h hl)
  unfold CodedPost at CP
  obtain ⟨n, hn⟩ : ∃ n, n = b.length := ⟨_, rfl⟩
  have HN := Lib.hid hn
  rw [← hn] at SM HR H hl CP ⊢
  have TW := Lib.hid (sized_p n)
  clear h hn hsame
  go_enter Tryz.func121, Tryz.ntmps121
  go_wp2_with fail
  refine SM.out.mono ?_
  rintro e w ⟨rfl, hw⟩
  obtain rfl := hw
  go_wp2_with fail
  refine CP.out.mono ?_
  rintro e w1 ⟨q, qa, qc, rfl, hq1, hk1, hq2, hq3⟩
  obtain ⟨m, hm⟩ : ∃ m, m = q.length := ⟨_, rfl⟩
  rw [← hm] at hq1 hq2 ⊢
  have HM := Lib.hid hm
  have HQ1 := Lib.hid hq1
  have HK1 := Lib.hid hk1
  have HQ3 := Lib.hid hq3
  clear hq1 hk1 hq3 hm CP
  by_cases hlt : m < n
  · have e : Bk.rowB b = [2] ++ two n ++ q := by
      have h1 := HQ3.out (by omega)
      rw [HR.out, ← h1, if_pos (by rw [← HM.out]; exact hlt)]
    have HE := Lib.hid e
    have hd1 : decide (m < n) = true := decide_eq_true hlt
    have hd2 : decide ((m : Int) < (n : Int)) = true := decide_eq_true (by omega)
    have R2 := Lib.hid (lit_one w1 5 (.int .u8 2) w1.heap.size (Nat.le_refl _) 2 rfl)
    have KA := Lib.hid (kp_alloc w1 (.cells #[.int .u8 2] 5))
    clear e hlt
    go_wp2_with fail
    refine (TW.out _).mono ?_
    rintro e V ⟨g9, rfl, -, t9, k9⟩
    have T9 := Lib.hid t9.sl.1
    have KV := Lib.hid (KA.out.trans k9)
    have R3 := Lib.hid (R2.out.kp0 k9)
    have Q3 := Lib.hid ((HQ1.out.kp0 KV.out).sl.1)
    rw [← HM.out] at Q3
    clear t9 k9
    go_wp2_with (first
      | (at_builtin; refine wpList_appM (w0 := w1) _ rfl _ _ 23 rfl 5 j0 _ 1 Tryz.underlying23 hj0 hy0 hy1 hy2 rfl (by decide) (by decide) u8c_1 (.slice (some ⟨w1.heap.size, 0, none⟩) 1 1) [2] rfl R3.out (.slice (some ⟨g9, 0, none⟩) 2 2) 2 (two n) rfl T9.out rfl KV.out 3 rfl (by omega) ?_; intro a5 c5 w9 g1 g2 g3; have G1 := Lib.hid g1; have K9 := Lib.hid g2; have Q9 := Lib.hid ((HQ1.out.kp0 g2).sl.1); rw [← HM.out] at Q9; clear g1 g2 g3)
      | (at_builtin; refine wpList_appM (w0 := w1) _ rfl _ _ 23 rfl 5 j0 _ 1 Tryz.underlying23 hj0 hy0 hy1 hy2 rfl (by decide) (by decide) u8c_1 (.slice a5 3 c5) ([2] ++ two n) rfl G1.out (.slice qa m qc) m q rfl Q9.out HM.out.symm K9.out (3 + m) rfl (by omega) ?_; intro a6 c6 w10 g1 g2 g3; have G2 := Lib.hid g1; have K10 := Lib.hid g2; clear g1 g2 g3))
    go_ret
    have hql : ([2] ++ two n ++ q : List UInt8).length = 3 + m := by rw [List.length_append, ← HM.out]; rfl
    exact ⟨a6, c6, by rw [HE.out, hql]; rfl, by rw [HE.out, hql]; exact G2.out.low HK1.out.size, HK1.out.trans K10.out⟩
  · have e : Bk.rowB b = [0] ++ two n ++ b := by
      rw [HR.out, if_neg]
      intro hh
      have h1 := HQ3.out (by have := HCL.out; omega)
      rw [← h1, ← HM.out] at hh
      exact hlt hh
    have HE := Lib.hid e
    have hd1 : decide (m < n) = false := decide_eq_false hlt
    have hd2 : decide ((m : Int) < (n : Int)) = false := decide_eq_false (by omega)
    have R2 := Lib.hid (lit_one w1 5 (.int .u8 0) w1.heap.size (Nat.le_refl _) 0 rfl)
    have KA := Lib.hid (kp_alloc w1 (.cells #[.int .u8 0] 5))
    clear e hlt
    go_wp2_with fail
    refine (TW.out _).mono ?_
    rintro e V ⟨g9, rfl, -, t9, k9⟩
    have T9 := Lib.hid t9.sl.1
    have KV := Lib.hid (KA.out.trans k9)
    have R3 := Lib.hid (R2.out.kp0 k9)
    clear t9 k9
    go_wp2_with (first
      | (at_builtin; refine wpList_appM (w0 := w1) _ rfl _ _ 23 rfl 5 j0 _ 1 Tryz.underlying23 hj0 hy0 hy1 hy2 rfl (by decide) (by decide) u8c_1 (.slice (some ⟨w1.heap.size, 0, none⟩) 1 1) [0] rfl R3.out (.slice (some ⟨g9, 0, none⟩) 2 2) 2 (two n) rfl T9.out rfl KV.out 3 rfl (by omega) ?_; intro a5 c5 w9 g1 g2 g3; have G1 := Lib.hid g1; have K9 := Lib.hid g2; have Q9 := Lib.hid (H.out.kp (HK1.out.trans g2) (fun _ _ q => q)); clear g1 g2 g3)
      | (at_builtin; refine wpList_appM (w0 := w1) _ rfl _ _ 23 rfl 5 j0 _ 1 Tryz.underlying23 hj0 hy0 hy1 hy2 rfl (by decide) (by decide) u8c_1 (.slice a5 3 c5) ([0] ++ two n) rfl G1.out (.slice a n c) n b rfl Q9.out HN.out.symm K9.out (3 + n) rfl (by omega) ?_; intro a6 c6 w10 g1 g2 g3; have G2 := Lib.hid g1; have K10 := Lib.hid g2; clear g1 g2 g3))
    go_ret
    have hql : ([0] ++ two n ++ b : List UInt8).length = 3 + n := by rw [List.length_append, ← HN.out]; rfl
    exact ⟨a6, c6, by rw [HE.out, hql]; rfl, by rw [HE.out, hql]; exact G2.out.low HK1.out.size, HK1.out.trans K10.out⟩
theorem rowP_p (W : World) (b : List UInt8) (a : Option Addr) (c : Nat) (h : SlR W 1 (.slice a b.length c) b.length (b.map u8c)) (hl : b.length ≤ 1000) :
    Calls Tryz.prog 121 #[.slice a b.length c] W (RowPost7 W (Bk.rowB b)) := by
  cases e : Bk.same b with
  | true => exact rowP_same W b a c h (by omega) e
  | false => exact rowP_not W b a c h hl e
end Go.Proofs.YtmioiaeiflbmhaaGreat.Ma
namespace Go.Proofs.YtmioiaeiflbmhaaGreat.Ma
open Go Go.RowKit Go.ChangeMaps Go.MapKept Go.Mg Go.Mt Go.Hf Go.Proofs.YtmioiaeiflbmhaaGreat.Hu Go.Proofs.YtmioiaeiflbmhaaGreat.Bw Go.Proofs.YtmioiaeiflbmhaaGreat.He Go.Proofs.YtmioiaeiflbmhaaGreat.Rd Go.Proofs.YtmioiaeiflbmhaaGreat.Sq Go.Proofs.YtmioiaeiflbmhaaGreat.Bk
theorem rowB7_len (b : List UInt8) : (Bk.rowB b).length ≤ 4 + b.length := by
  unfold Bk.rowB
  split
  · simp [two]
  · split
    · simp [two]; omega
    · simp [two]; omega
theorem packB_le {l : List Sq} (hm : May l) (h : H3) : (packB l h).length ≤ 40000 := by
  have hn := hm.1
  unfold packB
  split
  · simp [two]
  · have h1 := exB_len hm h l.length
    have h2 := pack_len (exB l h l.length)
    have p1 := packO_le (v := lit l) (n := l.length)
    have p2 := packO_le (v := off l h) (n := l.length)
    have p3 := packO_le (v := mor l) (n := l.length)
    simp only [List.length_append, rowB_len, sized, two, List.length_cons, List.length_nil]
    omega
def EncPost7 (w : World) (r : List UInt8) (h : H3) (e : Ending) (w' : World) : Prop := ∃ a c, e = .returned (.tuple #[.slice a r.length c, hv3 h]) ∧ RowB w.heap.size w' (.slice a r.length c) r ∧ Kp (fun _ => False) w w'
end Go.Proofs.YtmioiaeiflbmhaaGreat.Ma
namespace Go.Proofs.YtmioiaeiflbmhaaGreat.Ma
open Go Go.RowKit Go.ChangeMaps Go.MapKept Go.Mg Go.Mt Go.Hf Go.Proofs.YtmioiaeiflbmhaaGreat.Hu Go.Proofs.YtmioiaeiflbmhaaGreat.Bw Go.Proofs.YtmioiaeiflbmhaaGreat.He Go.Proofs.YtmioiaeiflbmhaaGreat.Rd Go.Proofs.YtmioiaeiflbmhaaGreat.Sq Go.Proofs.YtmioiaeiflbmhaaGreat.Bk
set_option maxRecDepth 100000 in
set_option maxHeartbeats 4000000 in
theorem encP_same (w : World) (p d : List UInt8) (ap : Option Addr) (cp : Nat) (ad : Option Addr) (cd : Nat) (hd : SlR w 1 (.slice ad d.length cd) d.length (d.map u8c)) (hl2 : d.length ≤ 500) (depth : Nat) (h : H3) (hsame : Bk.same d = true) :
    Calls Tryz.prog 102 #[.slice ap p.length cp, .slice ad d.length cd, .int .i64 (depth : Nat), hv3 h] w (EncPost7 w (Bk.encB p d depth h).1 (Bk.encB p d depth h).2) := by
  have mixed : Tryz.prog.follows .mixedOrders = true := by kernel_rfl
  obtain ⟨j0, hj0, hy0, hy1, hy2⟩ := info_parts infoU8
  have h0 : 0 < d.length := by
    unfold Bk.same at hsame
    simp only [Bool.and_eq_true, decide_eq_true_eq] at hsame
    exact hsame.1
  have SM := Lib.hid (fun V hV => isRun_p V d ad cd (hd.kp hV (fun _ _ q => q)) (by omega))
  rw [hsame] at SM
  obtain ⟨g, o, rfl, hg, hcap, hc⟩ := byts_at hd h0
  have HB : Hid (Bk.encB p d depth h = (two d.length ++ [1, UInt8.ofNat (byt d 0)], h)) := Lib.hid (by
    unfold Bk.encB
    rw [if_pos hsame]
    simp [byt])
  have hc0 := hc 0 h0
  rw [Nat.add_zero] at hc0
  have hy256 := byt_lt d 0
  obtain ⟨y, hy⟩ : ∃ y, y = byt d 0 := ⟨_, rfl⟩
  rw [← hy] at HB hc0 hy256
  have HCC := Lib.hid (fun V (hk : Kp (fun _ => False) w V) => (hk.cell (p := ⟨g, o, none⟩) hg (fun q => q)).trans hc0)
  obtain ⟨r, hr⟩ : ∃ r, r = Bk.encB p d depth h := ⟨_, rfl⟩
  rw [← hr] at HB ⊢
  obtain ⟨n, hn⟩ : ∃ n, n = d.length := ⟨_, rfl⟩
  rw [← hn] at HB SM hl2 h0 ⊢
  obtain ⟨m, hm⟩ : ∃ m, m = p.length := ⟨_, rfl⟩
  rw [← hm]
  have TW := Lib.hid (sized_p n)
  have EY := Lib.hid (u8c_lt hy256)
  have HGL := Lib.hid hg
  clear hsame hd hc hc0 hy hr hn hm hg hcap hy256 hl2
  obtain ⟨ha, hb, hc⟩ := h
  have hhv : ∀ a b c, hv3 ⟨a, b, c⟩ = .agg #[.int .i64 (a : Nat), .int .i64 (b : Nat), .int .i64 (c : Nat)] := fun _ _ _ => rfl
  rw [hhv]
  clear hhv
  go_enter Tryz.func102, Tryz.ntmps102
  go_wp2_with fail
  obtain ⟨W, hW⟩ : ∃ W, W = (w.alloc (.cells #[.int .i64 (ha : Nat), .int .i64 (hb : Nat), .int .i64 (hc : Nat)] 82)).alloc (.cells #[.int .i64 0, .int .i64 0, .int .i64 0] 82) := ⟨_, rfl⟩
  have hws : W.heap.size = w.heap.size + 2 := by rw [hW]; simp
  have hkW : Kp (fun _ => False) w W := by rw [hW]; exact (kp_alloc _ _).trans (kp_alloc _ _)
  have hG0 : HAt W w.heap.size ⟨ha, hb, hc⟩ := by
    rw [hW]; exact (kp_alloc _ _).at_ (alloc_at w _) (fun q => q)
  have hR0 : HAt W (w.heap.size + 1) ⟨0, 0, 0⟩ := by
    rw [hW]; have := alloc_at (w.alloc (.cells #[.int .i64 (ha : Nat), .int .i64 (hb : Nat), .int .i64 (hc : Nat)] 82)) (.cells #[.int .i64 0, .int .i64 0, .int .i64 0] 82)
    rw [World.size_alloc] at this
    exact this
  rw [← hW]
  obtain ⟨G, hG⟩ : ∃ G, G = w.heap.size := ⟨_, rfl⟩
  rw [← hG] at hG0 hR0 ⊢
  have HW := Lib.hid hws
  have HKW := Lib.hid hkW
  have HGE := Lib.hid hG
  have HG := Lib.hid (fun V (hV : Kp (fun _ => False) W V) => And.intro (hG0.kp hV (fun q => q)) (hR0.kp hV (fun q => q)))
  clear hW hws hkW hG0 hR0 hG
  refine (TW.out W).mono ?_
  rintro e w1 ⟨g1, rfl, hg1, t1, k1⟩
  have SM1 := Lib.hid (SM.out w1 (HKW.out.trans k1))
  have K1 := Lib.hid k1
  have T1 := Lib.hid t1
  clear hg1 t1 k1 SM
  go_wp2_with fail
  refine SM1.out.mono ?_
  rintro e w' ⟨rfl, hw⟩
  obtain rfl := hw.symm
  have HS1 : Hid (G + 2 ≤ W.heap.size ∧ W.heap.size ≤ w1.heap.size) := Lib.hid (by have := K1.out.size; have := HW.out; have := HGE.out; omega)
  have HCELL : Hid (∀ V, Kp (fun _ => False) W V → V.cell? ⟨g, o, none⟩ = some (.int .u8 (y : Nat)) ∧ (V.cell? ⟨G, 0, none⟩ = some (.int .i64 (ha : Nat)) ∧ V.cell? ⟨G, 1, none⟩ = some (.int .i64 (hb : Nat)) ∧ V.cell? ⟨G, 2, none⟩ = some (.int .i64 (hc : Nat))) ∧ HAt V (G + 1) ⟨0, 0, 0⟩) := Lib.hid (fun V hV => ⟨HCC.out V (HKW.out.trans hV), (HG.out V hV).1.cells, (HG.out V hV).2⟩)
  obtain ⟨c0, ⟨t0, t1, t2⟩, _⟩ := HCELL.out w1 K1.out
  have LIT : Hid (∀ V : World, SlR (V.alloc (.cells #[.int .u8 1, .int .u8 (y : Nat)] 5)) 1 (.slice (some ⟨V.heap.size, 0, none⟩) 2 2) 2 ([1, UInt8.ofNat y].map u8c)) := Lib.hid (fun V => by
    have := lit_m V 5 [u8c 1, u8c (UInt8.ofNat y)] (n := 2) rfl (by omega)
    rw [EY.out] at this
    simp only [List.map_cons, List.map_nil, EY.out]
    exact this)
  have hgne : g ≠ G + 1 := by have := HGL.out; have := HGE.out; omega
  have hgne2 : G + 1 ≠ g := fun q => hgne q.symm
  have KA := Lib.hid (K1.out.trans (kp_alloc w1 (.cells #[.int .u8 1, .int .u8 (y : Nat)] 5)))
  have T1A := Lib.hid (T1.out.kp0 (kp_alloc w1 (.cells #[.int .u8 1, .int .u8 (y : Nat)] 5)))
  go_wp2_with fail
  go_region_held3 (fun V => V.cell? ⟨g, o, none⟩ = some (.int .u8 (y : Nat)) ∧ V.cell? ⟨G, 0, none⟩ = some (.int .i64 (ha : Nat)) ∧ V.cell? ⟨G, 1, none⟩ = some (.int .i64 (hb : Nat)) ∧ V.cell? ⟨G, 2, none⟩ = some (.int .i64 (hc : Nat))) (go_keep) ((
    (refine step_appM (w0 := W) _ (by rfl) (.tmp 23) (.tmp 27) 23 (by rfl) 5 j0 _ 1 Tryz.underlying23 hj0 hy0 hy1 hy2 (by decide) (by decide) (by decide) u8c_1 (.slice (some ⟨g1, 0, none⟩) 2 2) (two n) (by rfl) (by exact T1A.out) _ 2 [1, UInt8.ofNat y] (by rfl) (by exact LIT.out w1) rfl (by exact KA.out.drew) 4 rfl (by omega) ?_; intro a6 d6 w6 g1' g2 g3; have R6 := Lib.hid g1'; have K6 := Lib.hid g2; obtain ⟨s0, ⟨s1, s2, s3⟩, hr6⟩ := HCELL.out _ g2; obtain ⟨r0, r1, r2⟩ := hr6.cells; have f0 : w6.frozen? ⟨G + 1, 0, none⟩ = false := free_of hr6 0; have f1 : w6.frozen? ⟨G + 1, 1, none⟩ = false := free_of hr6 1; have f2 : w6.frozen? ⟨G + 1, 2, none⟩ = false := free_of hr6 2; have HR6 := Lib.hid hr6; clear g1' g2 g3 hr6)))
  all_goals (go_wp2_with fail)
  all_goals
    obtain ⟨hst, hkst⟩ := HR6.out.store ha hb hc
    obtain ⟨y0, y1, y2⟩ := hst.cells
    have hk9 : Kp (fun _ => False) w _ := (HKW.out.trans K6.out).trans2 hkst (fun i hi q => by have := HGE.out; omega)
    have hr9 := RowM.kp R6.out hkst.drew (fun j q => by rw [q]; have := HS1.out; omega)
    have hl9 : (two n ++ [1, UInt8.ofNat y]).length = 4 := rfl
    refine bodyPost_ret (v := .tuple #[.slice a6 4 d6, hv3 ⟨ha, hb, hc⟩]) ?_ rfl ⟨a6, d6, by rw [HB.out]; simp only [hl9], by rw [HB.out]; simp only [hl9]; exact hr9.low (by have := HS1.out; have := HGE.out; omega), (by first | exact hk9 | exact hk9.drew)⟩
    simp [results, Tryz.results102, go_sem, y0, y1, y2, hv3]
end Go.Proofs.YtmioiaeiflbmhaaGreat.Ma
