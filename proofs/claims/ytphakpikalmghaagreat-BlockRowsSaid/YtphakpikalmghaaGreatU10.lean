/- seqs: the document's row. seqs: the document's extras. Two rows of one's own, grown in either order in a region that draws its order. Of no program. seqs: the document's Pack. -/
import Derived.Test.YtphakpikalmghaaGreatU09
import Derived.Test.YtphakpikalmghaaGreatU04
namespace Go.Proofs.YtphakpikalmghaaGreat.Ma
open Go Go.RowKit Go.ChangeMaps Go.MapKept Go.Mg Go.Mt Go.Proofs.YtphakpikalmghaaGreat.Hu Go.Proofs.YtphakpikalmghaaGreat.Bw Go.Proofs.YtphakpikalmghaaGreat.He Go.Proofs.YtphakpikalmghaaGreat.Sq

theorem iv1 : ∀ y, (iv y).oneCell' = true := fun _ => rfl
/-- The codes of the first n values. -/
def cods (v : Nat → Nat) (n : Nat) : List Nat := (List.range n).map fun i => Lib.bitLen (v i)
theorem cods_succ (v : Nat → Nat) (n : Nat) : cods v (n + 1) = cods v n ++ [Lib.bitLen (v n)] := by simp [cods, List.range_succ]
theorem cods_len (v : Nat → Nat) (n : Nat) : (cods v n).length = n := by simp [cods]
theorem cods_at (v : Nat → Nat) {n i : Nat} (h : i < n) : (cods v n)[i]?.getD 0 = Lib.bitLen (v i) := by simp [cods, h]
theorem cn_up (v : Nat → Nat) (n : Nat) : Fse.up (cn v n) (Lib.bitLen (v n)) (cn v n (Lib.bitLen (v n)) + 1) = cn v (n + 1) := by
  funext i
  simp only [cn, Fse.up]
  by_cases e : i = Lib.bitLen (v n)
  · rw [if_pos e, if_pos e, e]
  · rw [if_neg e, if_neg e]; omega
theorem shares_ok (v : Nat → Nat) (n : Nat) : Fse.Shares (nrm v n) 16 := Fse.shn_sum (by omega) _
/-- The first k shares as bytes. -/
def shb (v : Nat → Nat) (n k : Nat) : List UInt8 := (List.range k).map fun i => UInt8.ofNat (nrm v n i)
theorem shb_succ (v : Nat → Nat) (n k : Nat) : shb v n (k + 1) = shb v n k ++ [UInt8.ofNat (nrm v n k)] := by simp [shb, List.range_succ]
theorem shb_len (v : Nat → Nat) (n k : Nat) : (shb v n k).length = k := by simp [shb]
theorem fenc_o {w : World} {o : Option (List Bool)} {e : Ending} {w' : World} (h : FencPost w o e w') : ∃ a c z, e = .returned (.tuple #[.slice a (packO o).length c, .bool z]) ∧ RowB w.heap.size w' (.slice a (packO o).length c) (packO o) ∧ Kp (fun _ => False) w w' := by
  cases o with
  | none => exact ⟨none, 0, false, h.1, RowM.nil _ _ _, h.2⟩
  | some B =>
    obtain ⟨v, rfl, h1, h2⟩ := h
    obtain ⟨a, c, rfl, h3, h4⟩ := h1
    exact ⟨a, c, true, rfl, ⟨a, c, rfl, h3, h4⟩, h2⟩
theorem packO_le {v : Nat → Nat} {n : Nat} : (packO (encB v n)).length ≤ 6 * n + 10 := by
  unfold encB Fse.encAll
  cases h : Fse.enc (Fse.ent (nrm v n) 16) (fun i => Lib.bitLen (v i)) n n with
  | none => simp [packO]
  | some x =>
    obtain ⟨B, m⟩ := x
    have := Fse.enc_len (fun u hu => (Fse.ent_rng (shares_ok v n) hu).2.2.2.1) h
    simp only [Option.map_some, packO, pack_len, List.length_append, Fse.dgs, List.length_map, List.length_range]
    omega
theorem IntsR.congr {w : World} {a : Option Addr} {c N : Nat} {f f' : Nat → Nat} (h : IntsR w a c N f) (hf : ∀ i, i < N → f i = f' i) : IntsR w a c N f' := by
  unfold IntsR at *
  have e : ((List.range N).map fun i => Value.int .i64 (f i : Nat)) = (List.range N).map fun i => Value.int .i64 (f' i : Nat) := by
    apply List.map_congr_left
    intro i hi
    rw [hf i (List.mem_range.1 hi)]
  rw [← e]
  exact h
def RowPost6 (w : World) (v : Nat → Nat) (n : Nat) (e : Ending) (w' : World) : Prop := ∃ a c, e = .returned (.slice a (rowB v n).length c) ∧ RowB w.heap.size w' (.slice a (rowB v n).length c) (rowB v n) ∧ Kp (fun _ => False) w w'
theorem rowB_len (v : Nat → Nat) (n : Nat) : (rowB v n).length = 18 + (packO (encB v n)).length := by
  simp [rowB, shares, sized, two]; omega
set_option maxRecDepth 100000 in
set_option maxHeartbeats 4000000 in
theorem row6_d (w : World) (a : Option Addr) (c n : Nat) (v : Nat → Nat) (h : IntsR w a c n v) (hn0 : 0 < n) (hn : n ≤ 500) (hv : ∀ i, i < n → v i < 4096) :
    Calls Tryz.prog 52 #[.slice a n c] w (RowPost6 w v n) := by
  obtain ⟨i0, hi0, hz0, hz1, hz2⟩ := info_parts infoI_
  obtain ⟨j0, hj0, hy0, hy1, hy2⟩ := info_parts infoU8
  obtain ⟨g, o, rfl, hg, hcap, hc⟩ := h.at_ hn0
  have HC := Lib.hid hc
  have HV := Lib.hid hv
  have HCS := Lib.hid (cods_succ v)
  have HCL := Lib.hid (cods_len v)
  have HCU := Lib.hid (cn_up v)
  have HCN := Lib.hid (cn_le v)
  obtain ⟨W, hmk, hia, hkw, hws⟩ := made_i w 16 (by omega)
  have hmk2 : (Instr.makeSlice 51 (.int .i64 16) (.int .i64 16)).run Tryz.prog w = .ok (.slice (some ⟨w.heap.size, 0, none⟩) 16 16) W := hmk
  have HI0 : Hid (IAt 3 W w.heap.size 16 (cn v 0)) := Lib.hid (hia.congr (fun i _ => rfl))
  have HKW := Lib.hid hkw
  have HC0 : Hid (cods v 0 = []) := Lib.hid rfl
  clear h hc hv hmk hia hkw
  go_enter Tryz.func52, Tryz.ntmps52
  go_wp2_with fail
  obtain ⟨G, hG⟩ : ∃ G, G = w.heap.size := ⟨_, rfl⟩
  rw [← hG] at HI0 hws ⊢
  have HGE := Lib.hid hG
  clear hG hmk2
  go_loopw [4, 5] (fun s i wr => ∃ k : Nat, k ≤ n ∧ i = .int .i64 k ∧ IAt 3 wr G 16 (cn v k) ∧ RowI W.heap.size wr s (cods v k) ∧ Kp (fun _ => False) w wr ∧ W.heap.size ≤ wr.heap.size) (fun _ i _ => n - (intOf i).toNat)
  case atStart => exact ⟨0, Nat.zero_le _, rfl, HI0.out, by rw [HC0.out]; exact RowM.nil _ _ _, HKW.out, Nat.le_refl _⟩
  case round =>
    clear HI0 HC0
    obtain ⟨k, hk, rfl, hat, hrow, hkw, hsz⟩ := hrel
    obtain ⟨av, cv, rfl, hown, hbeyond⟩ := hrow
    have HROW : Hid (RowI W.heap.size wr (.slice av (cods v k).length cv) (cods v k)) := Lib.hid ⟨av, cv, rfl, hown, hbeyond⟩
    have hcl := HCL.out k
    rw [hcl] at HROW ⊢
    have HCLK := Lib.hid hcl
    have HAT := Lib.hid hat
    have HKR := Lib.hid hkw
    have HSZ := Lib.hid hsz
    clear hown hbeyond hcl hat hkw hsz
    by_cases hlt : k < n
    · have d0 := HC.out _ HKR.out k hlt
      have hx4 := HV.out k hlt
      have hcs := HCS.out k
      have hcu := HCU.out k
      have hcn := HCN.out k (Lib.bitLen (v k))
      obtain ⟨x, hx⟩ : ∃ x, x = v k := ⟨_, rfl⟩
      rw [← hx] at d0 hx4 hcs hcu hcn
      have hb12 := cd_le hx4
      have CD := Lib.hid (code_d x hx4 wr)
      have c1 := IAt.cell HAT.out (i := Lib.bitLen x) (by omega)
      have f1 := IAt.free HAT.out (Lib.bitLen x)
      have hset := IAt.set HAT.out (i := Lib.bitLen x) (by omega) (cn v k (Lib.bitLen x) + 1)
      rw [hcu] at hset
      have HCS2 := Lib.hid hcs
      obtain ⟨b, hb⟩ : ∃ b, b = Lib.bitLen x := ⟨_, rfl⟩
      unfold CodePost at CD
      rw [← hb] at CD c1 f1 hset hcn hb12 HCS2
      generalize nb x = nbx at CD
      generalize ex x = exx at CD
      obtain ⟨y, hy⟩ : ∃ y, y = cn v k b := ⟨_, rfl⟩
      rw [← hy] at c1 hset hcn
      have hks : Kp (· = G) wr (wr.setCell ⟨G, b, none⟩ (.int .i64 (y + 1 : Nat))) := (Kp.refl (· = G) wr).setCell (p := ⟨G, b, none⟩) (fun _ => rfl) _
      have hkw2 : Kp (fun _ => False) w (wr.setCell ⟨G, b, none⟩ (.int .i64 (y + 1 : Nat))) := HKR.out.trans2 hks (fun i hi q => by have := HGE.out; omega)
      have hr2 := HROW.out.kp hks (fun k q => by rw [q]; exact hws)
      have hs2 := Nat.le_trans HSZ.out hks.size
      obtain ⟨V, hV⟩ : ∃ V, V = wr.setCell ⟨G, b, none⟩ (.int .i64 (y + 1 : Nat)) := ⟨_, rfl⟩
      have hVi : wr.setCell ⟨G, b, none⟩ (.int .i64 ((y : Int) + 1)) = V := by rw [hV]; rfl
      have hVs : V.heap.size = wr.heap.size := by rw [hV]; simp
      rw [← hV] at hset hkw2 hr2 hs2
      have t5 := lit_m V 3 [iv b] (n := 1) rfl (by omega)
      have T := Lib.hid t5
      have HVS := Lib.hid hVs
      have KA : Hid (Kp (fun _ => False) V (V.alloc (.cells #[.int .i64 (b : Nat)] 3))) := Lib.hid (kp_alloc _ _)
      have HR3 := Lib.hid (hr2.kp0 KA.out)
      have HB3 := Lib.hid (Nat.le_trans hs2 KA.out.size)
      have HSET := Lib.hid hset
      have HKW2 := Lib.hid (hkw2.trans KA.out)
      have HVI := Lib.hid hVi
      clear hset hks hkw2 hr2 hs2 hV hVs t5 hx hy hb hcs hcu
      go_wp2_with fail
      refine CD.out.mono ?_
      rintro e w5 ⟨rfl, hw5⟩
      obtain rfl := hw5
      go_wp2_with (at_builtin; refine wpList_appBM (B := W.heap.size) _ rfl _ _ 51 rfl 3 i0 _ 8 Tryz.underlying51 hi0 hz0 hz1 hz2 rfl (by decide) (by decide) iv1 (.slice av k cv) (cods v k) rfl HR3.out HB3.out (.slice (some ⟨V.heap.size, 0, none⟩) 1 1) 1 [b] rfl T.out rfl (k + 1) (by rw [HCLK.out]) (by omega) ?_; intro a5 c5 w6 g1 g2; have G1 := Lib.hid g1; have G2 := Lib.hid g2; clear g1 g2)
      refine ⟨⟨k + 1, by omega, by go_num, ?_, ?_, ?_, ?_⟩, by simp [intOf]; try omega⟩
      · have hk3 := (KA.out.mono (G := fun k => W.heap.size ≤ k) (fun _ _ q => q.elim)).trans G2.out
        exact IAt.kp HSET.out hk3 (fun q => by omega)
      · rw [HCS2.out]; exact G1.out
      · exact HKW2.out.trans2 G2.out (fun i hi q => by have := HGE.out; omega)
      · exact Nat.le_trans HB3.out G2.out.size
    · obtain rfl : k = n := by omega
      have HSUM : Hid (Fse.sm (cn v k) 16 = k) := Lib.hid (cn_sum v 16 k (fun i hi => by have := cd_le (HV.out i hi); omega))
      have NM : Hid (Calls Tryz.prog 83 #[.slice (some ⟨G, 0, none⟩) 16 16, .int .i64 6] wr (NormPost wr 16 (nrm v k))) := Lib.hid (norm_d wr _ 16 16 (cn v k) (IAt.rd HAT.out (by omega)) (by omega) (by omega) (by rw [HSUM.out]; omega) (by rw [HSUM.out]; omega))
      have HSL : Hid (IntsR wr av cv k (fun i => Lib.bitLen (v i))) := Lib.hid (IntsR.congr (rdM HROW.out) (fun i hi => cods_at v hi))
      have HB12 : Hid (∀ i, i < k → Lib.bitLen (v i) ≤ 1000) := Lib.hid (fun i hi => by have := cd_le (HV.out i hi); omega)
      clear HCS HCU HCN HC
      go_wp2_with fail
      refine NM.out.mono ?_
      rintro e w3 ⟨g2, rfl, hg2, hi2, hk2⟩
      have HI2 := Lib.hid hi2
      have HK2 := Lib.hid hk2
      have HK3 := Lib.hid (HKR.out.trans hk2)
      have HSH := Lib.hid (shb_succ v k)
      have HSHL := Lib.hid (shb_len v k)
      have HS0 : Hid (shb v k 0 = []) := Lib.hid rfl
      have HN64 : Hid (∀ i, i < 16 → nrm v k i ≤ 64) := Lib.hid (fun i hi => Fse.shn_le (by omega) _ hi)
      have HFIN : Hid (shb v k 16 = shares v k) := Lib.hid rfl
      have HOK := Lib.hid (shares_ok v k)
      have HEB : Hid (encB v k = Fse.encAll (Fse.ent (nrm v k) 16) (fun i => Lib.bitLen (v i)) k) := Lib.hid rfl
      have HRB : Hid (Sq.rowB v k = shares v k ++ sized (packO (encB v k)) ∧ (Sq.rowB v k).length = 18 + (packO (encB v k)).length ∧ (packO (encB v k)).length ≤ 6 * k + 10) := Lib.hid ⟨rfl, rowB_len v k, packO_le⟩
      clear hi2 hk2 NM
      go_wp2_with fail
      go_loopw [11, 12] (fun b i wr => ∃ j : Nat, j ≤ 16 ∧ i = .int .i64 j ∧ RowB w3.heap.size wr b (shb v k j) ∧ Kp (fun _ => False) w3 wr) (fun _ i _ => 16 - (intOf i).toNat)
      case atStart => exact ⟨0, Nat.zero_le _, rfl, by rw [HS0.out]; exact RowM.nil _ _ _, Kp.refl _ _⟩
      case round =>
        obtain ⟨j, hj, rfl, hrow, hkw⟩ := hrel
        obtain ⟨bv, dv, rfl, hown, hbeyond⟩ := hrow
        have HROW2 : Hid (RowB w3.heap.size wr (.slice bv (shb v k j).length dv) (shb v k j)) := Lib.hid ⟨bv, dv, rfl, hown, hbeyond⟩
        have hcl := HSHL.out j
        rw [hcl] at HROW2 ⊢
        have HJL := Lib.hid hcl
        have HKW3 := Lib.hid hkw
        clear hown hbeyond hcl hkw
        by_cases hlt : j < 16
        · have d0 : wr.cell? ⟨g2, j, none⟩ = some (.int .i64 (nrm v k j : Nat)) := IAt.cell (IAt.kp HI2.out HKW3.out (fun q => q)) hlt
          have h64 := HN64.out j hlt
          have hsh := HSH.out j
          obtain ⟨x, hx⟩ : ∃ x, x = nrm v k j := ⟨_, rfl⟩
          rw [← hx] at d0 h64 hsh
          have HSHJ := Lib.hid hsh
          have hw8 : IntKind.u8.wrap (x : Int) = (x : Int) := by rw [IntKind.wrap_u8]; omega
          have T : Hid (SlR (wr.alloc (.cells #[.int .u8 (x : Nat)] 5)) 1 (.slice (some ⟨wr.heap.size, 0, none⟩) 1 1) 1 ([UInt8.ofNat x].map u8c)) := Lib.hid (by
            have := lit_m wr 5 [u8c (UInt8.ofNat x)] (n := 1) rfl (by omega)
            have e : u8c (UInt8.ofNat x) = .int .u8 (x : Nat) := by unfold u8c; rw [UInt8.toNat_ofNat']; congr 2; omega
            rw [e] at this
            simp only [List.map_cons, List.map_nil, e]
            exact this)
          have KA := Lib.hid (kp_alloc wr (.cells #[.int .u8 (x : Nat)] 5))
          have HR3 := Lib.hid (HROW2.out.kp0 KA.out)
          have HK4 := Lib.hid (HKW3.out.trans KA.out)
          clear hsh hx
          go_wp2_with (at_builtin; refine wpList_appM (w0 := w3) _ rfl _ _ 22 rfl 5 j0 _ 1 Tryz.underlying22 hj0 hy0 hy1 hy2 rfl (by decide) (by decide) u8c_1 (.slice bv j dv) (shb v k j) rfl HR3.out (.slice (some ⟨wr.heap.size, 0, none⟩) 1 1) 1 [UInt8.ofNat x] rfl T.out rfl HK4.out (j + 1) (by rw [HJL.out]) (by omega) ?_; intro a5 c5 w6 g1 g2 _; have G1 := Lib.hid g1; have G2 := Lib.hid g2; clear g1 g2)
          exact ⟨⟨j + 1, by omega, by go_num, by rw [HSHJ.out]; exact G1.out, G2.out⟩, by simp [intOf]; try omega⟩
        · obtain rfl : j = 16 := by omega
          have FE : Hid (Calls Tryz.prog 84 #[.slice (some ⟨g2, 0, none⟩) 16 16, .int .i64 6, .slice av k cv] wr (FencPost wr (encB v k))) := Lib.hid (by
            rw [HEB.out]
            exact fenc_d wr _ 16 16 (nrm v k) (IAt.rd (IAt.kp HI2.out HKW3.out (fun q => q)) (by omega)) (by omega) (by omega) HOK.out av cv k _ (HSL.out.kp (HK2.out.trans HKW3.out)) (by omega) HB12.out)
          obtain ⟨PO, hPO⟩ : ∃ PO, PO = packO (encB v k) := ⟨_, rfl⟩
          rw [← hPO] at HRB
          have HPO := Lib.hid hPO
          obtain ⟨m, hm⟩ : ∃ m, m = PO.length := ⟨_, rfl⟩
          have HM := Lib.hid hm
          have hmle : m ≤ 6 * k + 10 := by rw [hm]; exact HRB.out.2.2
          clear hPO hm
          go_wp2_with fail
          refine FE.out.mono ?_
          intro e w5 hfe
          obtain ⟨pa, pc, z, rfl, p1, p2⟩ := fenc_o hfe
          rw [← HPO.out, ← HM.out] at p1 ⊢
          have HNE : Hid (∀ b, (Value.slice pa m pc).ownBlock = some b → ¬ (Value.slice bv 16 dv).ownBlock = some b) := Lib.hid (fun b q1 q2 => by have h1 := p1.lt q1; have h2 := HROW2.out.lt q2; omega)
          have P1 := Lib.hid p1
          have KP := Lib.hid (HKW3.out.trans p2)
          have RB := Lib.hid (HROW2.out.kp0 p2)
          clear hfe p1 p2
          go_wp2_with fail
          refine (two_d m w5).mono ?_
          rintro e w6 ⟨g6, rfl, hg6, t6, k6⟩
          have T6 := Lib.hid (t6.sl.1)
          have KT := Lib.hid (KP.out.trans k6)
          have RB6 := Lib.hid (RB.out.kp0 k6)
          have P6 := Lib.hid ((P1.out.sl.1).kp k6 (fun _ _ q => q))
          have HRL : Hid ((Sq.rowB v k).length = 18 + m) := Lib.hid (by rw [HRB.out.2.1, HM.out])
          have HRE : Hid (shb v k 16 ++ two m ++ PO = Sq.rowB v k) := Lib.hid (by rw [HRB.out.1, HFIN.out, sized, ← HM.out, List.append_assoc])
          rw [← HM.out] at P6
          clear t6 k6 RB P1
          go_wp2_with (first
            | (at_builtin; refine wpList_appM (w0 := w3) _ rfl _ _ 22 rfl 5 j0 _ 1 Tryz.underlying22 hj0 hy0 hy1 hy2 rfl (by decide) (by decide) u8c_1 (.slice bv 16 dv) (shb v k 16) rfl RB6.out (.slice (some ⟨g6, 0, none⟩) 2 2) 2 (two m) rfl T6.out rfl KT.out 18 (by rw [HJL.out]) (by omega) ?_; intro a5 c5 w7 g1 g2 g3; have G1 := Lib.hid g1; have G2 := Lib.hid g2; have P7 := Lib.hid (P6.out.kp g3 (fun b hb hb2 => HNE.out b hb hb2)); clear g1 g2 g3)
            | (at_builtin; refine wpList_appM (w0 := w3) _ rfl _ _ 22 rfl 5 j0 _ 1 Tryz.underlying22 hj0 hy0 hy1 hy2 rfl (by decide) (by decide) u8c_1 (.slice a5 18 c5) (shb v k 16 ++ two m) rfl G1.out (.slice pa m pc) m PO rfl P7.out HM.out.symm G2.out (18 + m) (by rw [List.length_append, HJL.out]; rfl) (by omega) ?_; intro a8 c8 w8 g1 g2 _; have G3 := Lib.hid g1; have G4 := Lib.hid g2; clear g1 g2))
          go_ret
          rw [HRE.out] at G3
          refine ⟨a8, c8, by rw [HRL.out]; rfl, ?_, HK3.out.trans G4.out⟩
          rw [HRL.out]
          exact G3.out.low (HK3.out.size)
end Go.Proofs.YtphakpikalmghaaGreat.Ma
namespace Go.Proofs.YtphakpikalmghaaGreat.Ma
open Go Go.RowKit Go.ChangeMaps Go.MapKept Go.Mg Go.Mt Go.Proofs.YtphakpikalmghaaGreat.Hu Go.Proofs.YtphakpikalmghaaGreat.Bw Go.Proofs.YtphakpikalmghaaGreat.He Go.Proofs.YtphakpikalmghaaGreat.Sq

/-- All extras of three rows: of the last j, the last one's first. -/
def exG (L O M : Nat → Nat) (n : Nat) : Nat → List Bool
  | 0 => []
  | j + 1 => exG L O M n j ++ xb (M (n - 1 - j)) ++ xb (O (n - 1 - j)) ++ xb (L (n - 1 - j))
theorem exG_eq (l : List Sq) (h : H3) : ∀ j, exG (lit l) (off l h) (mor l) l.length j = exB l h j
  | 0 => rfl
  | j + 1 => by rw [exG, exB, exG_eq l h j]
theorem exG_len {L O M : Nat → Nat} {n : Nat} (hL : ∀ i, L i < 4096) (hO : ∀ i, O i < 4096) (hM : ∀ i, M i < 4096) : ∀ j, (exG L O M n j).length ≤ 33 * j
  | 0 => by simp [exG]
  | j + 1 => by
    have h0 := exG_len (n := n) hL hO hM j
    have h1 := xb_len (hM (n - 1 - j))
    have h2 := xb_len (hO (n - 1 - j))
    have h3 := xb_len (hL (n - 1 - j))
    simp only [exG, List.length_append]; omega
/-- The first k of three. -/
def pre3 (B : List Bool) (x y z : Nat) : Nat → List Bool
  | 0 => B
  | 1 => B ++ xb x
  | 2 => B ++ xb x ++ xb y
  | _ => B ++ xb x ++ xb y ++ xb z
def sel3 (x y z : Nat) : Nat → Nat
  | 0 => x
  | 1 => y
  | _ => z
theorem pre3_succ (B : List Bool) (x y z : Nat) {k : Nat} (h : k < 3) : pre3 B x y z (k + 1) = pre3 B x y z k ++ xb (sel3 x y z k) := by
  match k, h with
  | 0, _ => rfl
  | 1, _ => rfl
  | 2, _ => rfl
theorem pre3_len (B : List Bool) {x y z : Nat} (hx : x < 4096) (hy : y < 4096) (hz : z < 4096) (k : Nat) : (pre3 B x y z k).length ≤ B.length + 33 := by
  have h1 := xb_len hx
  have h2 := xb_len hy
  have h3 := xb_len hz
  match k with
  | 0 => simp [pre3]
  | 1 => simp [pre3]; omega
  | 2 => simp [pre3]; omega
  | _ + 3 => simp [pre3]; omega
theorem wr_min {ty : TypeId} {F : Nat → Prop} {w : World} {p : Nat} {a : Option Addr} {c : Nat} {B : List Bool} (h : WrAt ty F w p a c B) :
    WrAt ty (fun k => k = p ∨ (Value.slice a B.length c).ownBlock = some k) w p a c B :=
  ⟨h.hp, h.own, .inl rfl, fun k hk => ⟨.inr hk, (h.ne k hk).2⟩⟩
/-- A Writer that does not touch the block lb, in which three numbers lie. -/
def RelL (ty : TypeId) (w2 : World) (lb x y z : Nat) (wr : World) (B : List Bool) : Prop := ∃ F a c, WrAt ty F wr w2.heap.size a c B ∧ Kp (fun _ => False) w2 wr ∧ (∀ k, F k → w2.heap.size ≤ k ∧ k ≠ lb) ∧
  wr.heap[lb]? = some (.cells #[.int .i64 (x : Nat), .int .i64 (y : Nat), .int .i64 (z : Nat)] 3 (0, 0))
theorem RelL.toW {ty : TypeId} {w2 : World} {lb x y z : Nat} {wr : World} {B : List Bool} (h : RelL ty w2 lb x y z wr B) : RelW ty w2 wr B := by
  obtain ⟨F, a, c, h1, h2, h3, _⟩ := h
  exact ⟨F, a, c, h1, h2, fun k q => (h3 k q).1⟩
theorem RelW.toL {ty : TypeId} {w2 : World} {x y z : Nat} {wr V : World} {B : List Bool} (h : RelW ty w2 wr B) (hk : Kp (fun _ => False) wr V) (hV : V = (wr.drew.alloc (.cells #[.int .i64 (x : Nat), .int .i64 (y : Nat), .int .i64 (z : Nat)] 3))) : RelL ty w2 wr.heap.size x y z V B := by
  obtain ⟨F, a, c, h1, h2, h3⟩ := h
  refine ⟨_, a, c, (wr_min h1).kp hk (fun _ _ q => q), h2.trans hk, ?_, by rw [hV]; exact alloc_at wr.drew _⟩
  have hp := lt_of_at h1.hp
  rintro k (q | q)
  · exact ⟨Nat.le_of_eq q.symm, by omega⟩
  · have := h1.own.lt q
    exact ⟨h3 k (h1.ne k q).1, by omega⟩
theorem RelL.step {ty : TypeId} {w2 : World} {lb x y z : Nat} {wr V : World} {F : Nat → Prop} {B : List Bool} (hk : Kp (fun _ => False) w2 wr) (hF : ∀ k, F k → w2.heap.size ≤ k ∧ k ≠ lb) (hb : wr.heap[lb]? = some (.cells #[.int .i64 (x : Nat), .int .i64 (y : Nat), .int .i64 (z : Nat)] 3 (0, 0)))
    (h : WrPost ty F wr w2.heap.size B V) : RelL ty w2 lb x y z V B := by
  obtain ⟨F', a', c', h1, h2, h3⟩ := h
  have := hk.size
  have hlb := lt_of_at hb
  refine ⟨F', a', c', h1, hk.trans2 h2 (fun i hi q => by have := (hF i q).1; omega), fun k q => ?_, h2.at_ hb (fun q => (hF lb q).2 rfl)⟩
  rcases h3 k q with q | q
  · exact hF k q
  · exact ⟨by omega, by omega⟩
def ExPost (w : World) (b : List UInt8) (e : Ending) (w' : World) : Prop := ∃ a c, e = .returned (.slice a b.length c) ∧ RowB w.heap.size w' (.slice a b.length c) b ∧ Kp (fun _ => False) w w'
set_option maxRecDepth 100000 in
set_option maxHeartbeats 4000000 in
theorem extras_d (w : World) (n : Nat) (hn : n ≤ 500) (a1 a2 a3 : Option Addr) (c1 c2 c3 : Nat) (L O M : Nat → Nat) (h1 : IntsR w a1 c1 n L) (h2 : IntsR w a2 c2 n O) (h3 : IntsR w a3 c3 n M) (hL : ∀ i, L i < 4096) (hO : ∀ i, O i < 4096) (hM : ∀ i, M i < 4096) :
    Calls Tryz.prog 53 #[.slice a1 n c1, .slice a2 n c2, .slice a3 n c3] w (ExPost w (sized (pack (exG L O M n n)))) := by
  have mixed : Tryz.prog.follows .mixedOrders = true := by kernel_rfl
  obtain ⟨j0, hj0, hy0, hy1, hy2⟩ := info_parts infoU8
  have H1 := Lib.hid (fun (h0 : 0 < n) => h1.at_ h0)
  have H2 := Lib.hid (fun (h0 : 0 < n) => h2.at_ h0)
  have H3' := Lib.hid (fun (h0 : 0 < n) => h3.at_ h0)
  have HL := Lib.hid hL
  have HO := Lib.hid hO
  have HM := Lib.hid hM
  have HXL := Lib.hid (exG_len (n := n) hL hO hM)
  have HX0 : Hid (exG L O M n 0 = []) := Lib.hid rfl
  have HXS : Hid (∀ j, exG L O M n (j + 1) = pre3 (exG L O M n j) (M (n - 1 - j)) (O (n - 1 - j)) (L (n - 1 - j)) 3) := Lib.hid (fun j => rfl)
  have HEG : Hid (exG L O M n = exG L O M n) := Lib.hid rfl
  have W0 := Lib.hid (RelW.start 91 w)
  obtain ⟨EX, hEX⟩ : ∃ EX, EX = exG L O M n := ⟨_, rfl⟩
  rw [← hEX] at HXL HX0 HXS ⊢
  clear h1 h2 h3 hL hO hM hEX HEG
  go_enter Tryz.func53, Tryz.ntmps53
  go_wp2_with fail
  go_loopw [8] (fun i wr => ∃ j, j ≤ n ∧ i = .int .i64 ((n : Int) - 1 - (j : Nat)) ∧ RelW 91 w wr (EX j)) (fun i _ => (intOf i + 1).toNat)
  case atStart => exact ⟨0, Nat.zero_le _, by simp, by rw [HX0.out]; exact W0.out⟩
  case round =>
    clear W0
    obtain ⟨j, hj, rfl, hrel⟩ := hrel
    have HREL := Lib.hid hrel
    have HKW : Hid (Kp (fun _ => False) w wr) := Lib.hid (by obtain ⟨_, _, _, _, hk, _⟩ := hrel; exact hk)
    clear hrel
    by_cases hjn : j < n
    · obtain ⟨q, hq⟩ : ∃ q, q = n - 1 - j := ⟨_, rfl⟩
      have hqi : ((n : Int) - 1 - (j : Nat)) = (q : Nat) := by omega
      have hqn : q < n := by omega
      rw [hqi]
      have hq0 : (0 : Int) ≤ (q : Int) := by omega
      have hqn2 : (q : Int) < (n : Int) := by omega
      obtain ⟨w1, rfl⟩ : ∃ w1 : World, w1 = wr := ⟨_, rfl⟩
      obtain ⟨g1, o1, rfl, _, hc1, t1⟩ := H1.out (by omega)
      obtain ⟨g2, o2, rfl, _, hc2, t2⟩ := H2.out (by omega)
      obtain ⟨g3, o3, rfl, _, hc3, t3⟩ := H3'.out (by omega)
      have d1 := t1 _ HKW.out q hqn
      have d2 := t2 _ HKW.out q hqn
      have d3 := t3 _ HKW.out q hqn
      have hxs := HXS.out j
      rw [← hq] at hxs
      have hx4 := HM.out q
      have hy4 := HO.out q
      have hz4 := HL.out q
      have hbl := HXL.out j
      obtain ⟨x, hx⟩ : ∃ x, x = M q := ⟨_, rfl⟩
      obtain ⟨y, hy⟩ : ∃ y, y = O q := ⟨_, rfl⟩
      obtain ⟨z, hz⟩ : ∃ z, z = L q := ⟨_, rfl⟩
      rw [← hx] at d3 hxs hx4
      rw [← hy] at d2 hxs hy4
      rw [← hz] at d1 hxs hz4
      have HXSJ := Lib.hid hxs
      have HQI := Lib.hid hqi
      have HL0 : Hid (RelL 91 w w1.heap.size x y z (w1.drew.alloc (.cells #[.int .i64 (x : Nat), .int .i64 (y : Nat), .int .i64 (z : Nat)] 3)) (EX j)) := Lib.hid (RelW.toL HREL.out ((Kp.refl _ _).drew.alloc _) rfl)
      clear t1 t2 t3 hxs hx hy hz hq hqi
      go_wp2_with fail
      go_region_held3 (fun V => V.cell? ⟨g1, o1 + q, none⟩ = some (.int .i64 (z : Nat)) ∧ V.cell? ⟨g2, o2 + q, none⟩ = some (.int .i64 (y : Nat)) ∧ V.cell? ⟨g3, o3 + q, none⟩ = some (.int .i64 (x : Nat))) (go_keep) (fail)
      go_wp2_with fail
      obtain ⟨lb, hlb⟩ : ∃ lb, lb = w1.heap.size := ⟨_, rfl⟩
      rw [← hlb] at HL0 ⊢
      obtain ⟨EJ, hEJ⟩ : ∃ EJ, EJ = EX j := ⟨_, rfl⟩
      rw [← hEJ] at HL0 HXSJ hbl
      clear hlb hEJ d1 d2 d3
      go_loopw [10] (fun k' wr => ∃ k : Nat, k ≤ 3 ∧ k' = .int .i64 k ∧ RelL 91 w lb x y z wr (pre3 EJ x y z k)) (fun k' _ => 3 - (intOf k').toNat)
      case atStart => exact ⟨0, Nat.zero_le _, rfl, HL0.out⟩
      case round =>
        clear HL0
        obtain ⟨k, hk, rfl, F, aw, cw, hw1, hkw, hFw, hlc⟩ := hrel
        by_cases hk3 : k < 3
        · have d0 : wr.cell? ⟨lb, k, none⟩ = some (.int .i64 (sel3 x y z k : Nat)) := by
            rw [cell_of hlc]
            match k, hk3 with
            | 0, _ => rfl
            | 1, _ => rfl
            | 2, _ => rfl
          have hv4 : sel3 x y z k < 4096 := by
            match k, hk3 with
            | 0, _ => exact hx4
            | 1, _ => exact hy4
            | 2, _ => exact hz4
          have hps := pre3_succ EJ x y z hk3
          have hpl := pre3_len EJ hx4 hy4 hz4 k
          obtain ⟨v, hv⟩ : ∃ v, v = sel3 x y z k := ⟨_, rfl⟩
          rw [← hv] at d0 hv4 hps
          have HPS : Hid (pre3 EJ x y z (k + 1) = pre3 EJ x y z k ++ bitsOf (ex v) (nb v)) := Lib.hid hps
          have CD := Lib.hid (code_d v hv4 wr)
          unfold CodePost at CD
          have hnb : nb v ≤ 24 := by have := cd_le hv4; unfold nb; omega
          have hex := ex_lt hv4
          obtain ⟨PB, hPB⟩ : ∃ PB, PB = pre3 EJ x y z k := ⟨_, rfl⟩
          rw [← hPB] at hw1 hpl HPS
          have PUT := Lib.hid (put_d hw1 (ex v) (nb v) hnb hex (by omega))
          have HKW2 := Lib.hid hkw
          have HFW := Lib.hid hFw
          have HLC := Lib.hid hlc
          generalize nb v = nv' at CD PUT HPS
          generalize ex v = ev' at CD PUT HPS
          generalize Lib.bitLen v = bv' at CD
          clear hPB hps hpl hw1 hkw hFw hlc hv hnb hex
          go_wp2_with fail
          refine CD.out.mono ?_
          rintro e w5 ⟨rfl, hw5⟩
          obtain rfl := hw5
          go_wp2_with fail
          refine PUT.out.mono ?_
          rintro e V ⟨rfl, hV⟩
          have RV := Lib.hid (RelL.step HKW2.out HFW.out HLC.out hV)
          clear hV
          go_wp2_with fail
          exact ⟨⟨k + 1, by omega, by go_num, by rw [HPS.out]; exact RV.out⟩, by simp [intOf]; try omega⟩
        · obtain rfl : k = 3 := by omega
          have RV : Hid (RelW 91 w wr (EX (j + 1))) := Lib.hid (by
            rw [HXSJ.out]
            exact RelL.toW ⟨F, aw, cw, hw1, hkw, hFw, hlc⟩)
          clear hw1 hkw hFw hlc
          go_wp2_with fail
          refine ⟨⟨j + 1, by omega, ?_, RV.out⟩, by simp [intOf]; try omega⟩
          have := HQI.out
          congr 1
          omega
    · obtain rfl : j = n := by omega
      have hi1 : ((j : Int) - 1 - (j : Nat)) = -1 := by omega
      rw [hi1]
      obtain ⟨F, aw, cw, hw1, hkw, hFw⟩ := HREL.out
      have hbl := HXL.out j
      have BY := Lib.hid (bytes_d hw1 (by omega))
      have PL := Lib.hid (pack_len (EX j))
      clear hw1 hkw hFw
      go_wp2_with fail
      refine BY.out.mono ?_
      rintro e w5 ⟨g5, rfl, b1, b2, b3⟩
      have B2 := Lib.hid (pack_row b2 (by omega))
      have B3 := Lib.hid (HKW.out.trans b3)
      have HSZ : Hid (wr.heap.size ≤ g5) := Lib.hid b1
      rw [← PL.out]
      obtain ⟨PK, hPK⟩ : ∃ PK, PK = pack (EX j) := ⟨_, rfl⟩
      rw [← hPK] at B2 ⊢
      obtain ⟨m, hm⟩ : ∃ m, m = PK.length := ⟨_, rfl⟩
      have hmle : m ≤ 20000 := by have := PL.out; rw [← hPK] at this; omega
      rw [← hm] at B2 ⊢
      have HPK := Lib.hid hPK
      have HMM := Lib.hid hm
      clear b1 b2 b3 hPK hm
      go_wp2_with fail
      refine (two_d m w5).mono ?_
      rintro e w6 ⟨g6, rfl, hg6, t6, k6⟩
      have T6 := Lib.hid t6
      have K6 := Lib.hid k6
      have P6 : Hid (SlR w6 1 (.slice (some ⟨g5, 0, none⟩) m m) m (PK.map u8c)) := Lib.hid (by
        have := (B2.out.sl.1).kp k6 (fun _ _ q => q)
        rwa [← HMM.out] at this)
      have HSZD : Hid (two m ++ PK = sized PK ∧ (sized PK).length = 2 + m) := Lib.hid ⟨by rw [sized, ← HMM.out], by simp [sized, two, ← HMM.out]; omega⟩
      clear t6 k6
      go_wp2_with (at_builtin; refine wpList_appM (w0 := w5) _ rfl _ _ 22 rfl 5 j0 _ 1 Tryz.underlying22 hj0 hy0 hy1 hy2 rfl (by decide) (by decide) u8c_1 (.slice (some ⟨g6, 0, none⟩) 2 2) (two m) rfl T6.out (.slice (some ⟨g5, 0, none⟩) m m) m PK rfl P6.out HMM.out.symm K6.out (2 + m) rfl (by omega) ?_; intro a8 c8 w8 g1 g2 _; have G3 := Lib.hid g1; have G4 := Lib.hid g2; clear g1 g2)
      go_ret
      have hg3 := G3.out
      rw [HSZD.out.1] at hg3
      rw [← HPK.out]
      refine ⟨a8, c8, by rw [HSZD.out.2]; rfl, ?_, B3.out.trans G4.out⟩
      rw [HSZD.out.2]
      exact hg3.low B3.out.size
end Go.Proofs.YtphakpikalmghaaGreat.Ma
namespace Go.Mg
open Go Go.RowKit Go.ChangeMaps Go.MapKept
variable {α : Type} {e : TypeId} {enc : α → Value}

/-- What an append leaves: the row, and where it lies. -/
def Grown (e : TypeId) (enc : α → Value) (B : Nat) (w w' : World) (v v' : Value) (l' : List α) : Prop := RowM e enc B w' v' l' ∧ (∀ k, v'.ownBlock = some k → v.ownBlock = some k ∨ k = w.heap.size) ∧ Kp (fun k => v.ownBlock = some k) w w'
/-- 'append(v, x...)' of such a row, in a region that draws its order: where the row lies is told. -/
theorem step_grow {P : Program} {B : Nat} (w : World) {ops : Array Oper} {o : Oper} {a : Act} {Q : Exit → Act → World → Prop} {E : Prop} (hgd : o.guard = none) (s x : Operand) (t : TypeId) (ho : o.op = .call { callee := .builtin .append, args := #[s, x], argTypes := #[t, t] })
    (i : TypeInfo) (z : Value) (bytes : Nat) (ht : P.underlying t = some (.slice e)) (hi : P.info? e = some i) (hz : i.zero = some z) (hsize : i.size = 1) (hby : i.bytes = bytes) (hzs : z.cells.size = 1) (hbp : 0 < bytes)
    (h1 : ∀ y, (enc y).oneCell' = true) (v : Value) (l : List α) (hs : a.eval s = v) (hrow : RowM e enc B w v l) (hB : B ≤ w.heap.size) (xv : Value) (m : Nat) (r : List α) (hx : a.eval x = xv) (hsl : SlR w 1 xv m (r.map enc)) (hm : r.length = m) (n' : Nat) (hn : l.length + m = n') (hbytes : n' * bytes ≤ 140737488355328)
    {K : Act → World → Prop} (h : ∀ a' c' w', Grown e enc B w w' v (.slice a' n' c') (l ++ r) → K (a.put o.dst (.slice a' n' c')) w') : if Region.wanted o (yielded ops a.tmps) = true then Oper.wp P o a w K Q else E := by
  have e1 : ∀ u ∈ r.map enc, u.oneCell' = true := by
    intro u hu
    obtain ⟨y, _, rfl⟩ := List.mem_map.1 hu
    exact h1 y
  obtain ⟨av, cv, rfl, hown, hb⟩ := hrow
  exact step_app w hgd s x t ho e i z 1 bytes ht hi hz hsize hby hzs (by omega) hbp _ _ _ hs hown xv m _ hx hsl e1 (by rw [hn]; exact hbytes) (fun v' w' g1 g2 g3 g4 g5 => by
    obtain ⟨b1, d1, rfl⟩ := g1.form
    subst hn
    subst hm
    refine h _ _ _ ⟨⟨b1, d1, by simp, by rw [List.length_append, List.map_append]; exact g1, fun k hk => ?_⟩, fun k hk => ?_, g2⟩
    · rcases g3 with q | q
      · exact hb k (q.symm.trans hk)
      · rw [hk] at q
        cases q
        exact hB
    · rcases g3 with q | q
      · exact .inl (q.symm.trans hk)
      · rw [hk] at q
        cases q
        exact .inr rfl)
/-- Two rows that do not lie in one block. -/
def Apart2 (v1 v2 : Value) : Prop := ∀ k, v1.ownBlock = some k → ¬ v2.ownBlock = some k
theorem Apart2.symm {v1 v2 : Value} (h : Apart2 v1 v2) : Apart2 v2 v1 := fun k q r => h k r q
theorem Grown.apart {B : Nat} {w w' : World} {v v' u : Value} {l' : List α} (h : Grown e enc B w w' v v' l') (ha : Apart2 v u) (hu : ∀ k, u.ownBlock = some k → k < w.heap.size) : Apart2 v' u := fun k q r => by
  rcases h.2.1 k q with q | q
  · exact ha k q r
  · have := hu k r; omega
theorem Grown.other {B B' : Nat} {w w' : World} {v v' u : Value} {l' l2 : List α} (h : Grown e enc B w w' v v' l') (ha : Apart2 v u) (hu : RowM e enc B' w u l2) : RowM e enc B' w' u l2 := by
  obtain ⟨a, c, q, h1, h2⟩ := hu
  exact ⟨a, c, q, h1.kp h.2.2 (fun k r s => ha k s r), h2⟩
theorem Grown.lit {B : Nat} {w w' : World} {v v' x : Value} {l' : List α} {m : Nat} {xs : List Value} (h : Grown e enc B w w' v v' l') (hx : SlR w 1 x m xs) {g : Nat} (hg : x.ownBlock = some g) (hv : ∀ k, v.ownBlock = some k → k < g) : SlR w' 1 x m xs :=
  hx.kp h.2.2 (fun b hb q => by rw [hg] at hb; cases hb; have := hv g q; omega)
end Go.Mg
namespace Go.Proofs.YtphakpikalmghaaGreat.Ma
open Go Go.RowKit Go.ChangeMaps Go.MapKept Go.Mg Go.Mt Go.Proofs.YtphakpikalmghaaGreat.Hu Go.Proofs.YtphakpikalmghaaGreat.Bw Go.Proofs.YtphakpikalmghaaGreat.He Go.Proofs.YtphakpikalmghaaGreat.Sq

def firsts (f : Nat → Nat) (k : Nat) : List Nat := (List.range k).map f
theorem firsts_succ (f : Nat → Nat) (k : Nat) : firsts f (k + 1) = firsts f k ++ [f k] := by simp [firsts, List.range_succ]
theorem firsts_len (f : Nat → Nat) (k : Nat) : (firsts f k).length = k := by simp [firsts]
theorem firsts_at (f : Nat → Nat) {k i : Nat} (h : i < k) : (firsts f k)[i]?.getD 0 = f i := by simp [firsts, h]
/-- Two rows of numbers, each in its own block. -/
def Rows2 (B : Nat) (w : World) (v1 : Value) (l1 : List Nat) (v2 : Value) (l2 : List Nat) : Prop := RowI B w v1 l1 ∧ RowI B w v2 l2 ∧ Apart2 v1 v2
def PackPost (w : World) (l : List Sq) (h : H3) (e : Ending) (w' : World) : Prop := ∃ a c, e = .returned (.tuple #[.slice a (packB l h).length c, hv3 (hs (ofs l) h l.length), .bool true]) ∧ RowB w.heap.size w' (.slice a (packB l h).length c) (packB l h) ∧ Kp (fun _ => False) w w'
set_option maxRecDepth 100000 in
set_option maxHeartbeats 4000000 in
theorem pack_loop (w : World) (l : List Sq) (al : Option Addr) (cl : Nat) (hl : SlR w 3 (.slice al l.length cl) l.length (l.flatMap sqc)) (hm : May l) (h : H3) :
    Calls Tryz.prog 25 #[.slice al l.length cl, hv3 h] w (PackPost w l h) := by
  have mixed : Tryz.prog.follows .mixedOrders = true := by kernel_rfl
  obtain ⟨i0, hi0, hz0, hz1, hz2⟩ := info_parts infoI_
  obtain ⟨j0, hj0, hy0, hy1, hy2⟩ := info_parts infoU8
  have hlen := hm.1
  have HLR := Lib.hid hl
  have HMAY := Lib.hid hm
  have HL : Hid (0 < l.length → ∃ g o, al = some ⟨g, o, none⟩ ∧ g < w.heap.size ∧ l.length ≤ cl ∧ ∀ V, Kp (fun _ => False) w V → ∀ i, i < l.length → V.cell? ⟨g, o + i * 3, none⟩ = some (.int .i64 (lit l i : Nat)) ∧ V.cell? ⟨g, o + i * 3 + 1, none⟩ = some (.int .i64 (ofs l i : Nat)) ∧ V.cell? ⟨g, o + i * 3 + 2, none⟩ = some (.int .i64 ((sqAt l i).len : Nat))) := Lib.hid (fun h0 => by
    obtain ⟨g, o, e, hg, hc, hs⟩ := sq_at hl h0
    exact ⟨g, o, e, hg, hc, fun V hk i hi => ⟨(hk.cell (p := ⟨g, o + i * 3, none⟩) hg (fun q => q)).trans (hs i hi).1, (hk.cell (p := ⟨g, o + i * 3 + 1, none⟩) hg (fun q => q)).trans (hs i hi).2.1, (hk.cell (p := ⟨g, o + i * 3 + 2, none⟩) hg (fun q => q)).trans (hs i hi).2.2⟩⟩)
  have HBD := Lib.hid (fun i (hi : i < l.length) => hm.at_ hi)
  have HF1 := Lib.hid (firsts_succ (lit l))
  have HF2 := Lib.hid (firsts_succ (mor l))
  have HFL1 := Lib.hid (firsts_len (lit l))
  have HFL2 := Lib.hid (firsts_len (mor l))
  have HMO : Hid (∀ i, mor l i = (sqAt l i).len - 4) := Lib.hid (fun _ => rfl)
  have HF0 : Hid (firsts (lit l) 0 = [] ∧ firsts (mor l) 0 = []) := Lib.hid ⟨rfl, rfl⟩
  unfold PackPost
  obtain ⟨n, hn⟩ : ∃ n, n = l.length := ⟨_, rfl⟩
  rw [← hn] at HL hlen HBD ⊢
  have HN := Lib.hid hn
  obtain ⟨FL, hFL⟩ : ∃ FL, FL = firsts (lit l) := ⟨_, rfl⟩
  obtain ⟨FM, hFM⟩ : ∃ FM, FM = firsts (mor l) := ⟨_, rfl⟩
  rw [← hFL] at HF1 HFL1 HF0
  rw [← hFM] at HF2 HFL2 HF0
  have HFLE := Lib.hid hFL
  have HFME := Lib.hid hFM
  clear hl hm hn hFL hFM
  obtain ⟨ha, hb, hc⟩ := h
  have hhv : hv3 ⟨ha, hb, hc⟩ = .agg #[.int .i64 (ha : Nat), .int .i64 (hb : Nat), .int .i64 (hc : Nat)] := rfl
  rw [hhv]
  clear hhv
  go_enter Tryz.func25, Tryz.ntmps25
  go_wp2_with fail
  obtain ⟨W, hW⟩ : ∃ W, W = (w.alloc (.cells #[.int .i64 (ha : Nat), .int .i64 (hb : Nat), .int .i64 (hc : Nat)] 23)).alloc (.cells #[.int .i64 0, .int .i64 0, .int .i64 0] 23) := ⟨_, rfl⟩
  have hws : W.heap.size = w.heap.size + 2 := by rw [hW]; simp
  have hkW : Kp (fun _ => False) w W := by rw [hW]; exact (kp_alloc _ _).trans (kp_alloc _ _)
  have hG0 : HAt W w.heap.size ⟨ha, hb, hc⟩ := by
    rw [hW]; exact (kp_alloc _ _).at_ (alloc_at w _) (fun q => q)
  have hR0 : HAt W (w.heap.size + 1) ⟨0, 0, 0⟩ := by
    rw [hW]; have := alloc_at (w.alloc (.cells #[.int .i64 (ha : Nat), .int .i64 (hb : Nat), .int .i64 (hc : Nat)] 23)) (.cells #[.int .i64 0, .int .i64 0, .int .i64 0] 23)
    rw [World.size_alloc] at this
    exact this
  rw [← hW]
  obtain ⟨G, hG⟩ : ∃ G, G = w.heap.size := ⟨_, rfl⟩
  rw [← hG] at hG0 hR0 ⊢
  have HW := Lib.hid hws
  have HKW := Lib.hid hkW
  have HG0 := Lib.hid hG0
  have HR0 := Lib.hid hR0
  have HGE := Lib.hid hG
  clear hW hws hkW hG0 hR0 hG
  go_loopw [7, 8, 9] (fun v1 v2 i wr => ∃ k : Nat, k ≤ n ∧ i = .int .i64 k ∧ Rows2 W.heap.size wr v1 (FL k) v2 (FM k) ∧ Kp (fun _ => False) W wr) (fun _ _ i _ => n - (intOf i).toNat)
  case atStart => exact ⟨0, Nat.zero_le _, rfl, by rw [HF0.out.1, HF0.out.2]; exact ⟨RowM.nil _ _ _, RowM.nil _ _ _, fun k q => by cases q⟩, Kp.refl _ _⟩
  case round =>
    obtain ⟨k, hk, rfl, ⟨hr1, hr2, hap⟩, hkw⟩ := hrel
    obtain ⟨v1, c1, rfl, hown1, hbey1⟩ := hr1
    obtain ⟨v2, c2, rfl, hown2, hbey2⟩ := hr2
    have HR1 : Hid (RowI W.heap.size wr (.slice v1 (FL k).length c1) (FL k)) := Lib.hid ⟨v1, c1, rfl, hown1, hbey1⟩
    have HR2 : Hid (RowI W.heap.size wr (.slice v2 (FM k).length c2) (FM k)) := Lib.hid ⟨v2, c2, rfl, hown2, hbey2⟩
    have HAP := Lib.hid hap
    have hl1 := HFL1.out k
    have hl2 := HFL2.out k
    rw [hl1] at HR1 HAP ⊢
    rw [hl2] at HR2 HAP ⊢
    have HL1 := Lib.hid hl1
    have HL2 := Lib.hid hl2
    have HKR := Lib.hid hkw
    have HKR0 := Lib.hid (HKW.out.trans hkw)
    clear hown1 hown2 hbey1 hbey2 hap hl1 hl2 hkw
    by_cases hlt : k < n
    · obtain ⟨g, o, rfl, hgs, hcl, hcc⟩ := HL.out (by omega)
      obtain ⟨d0, d1, d2⟩ := hcc _ HKR0.out k hlt
      have HCC := Lib.hid hcc
      obtain ⟨b1, b2, b3, b4, b5⟩ := HBD.out k hlt
      have hf1 := HF1.out k
      have hf2 := HF2.out k
      have hmo := HMO.out k
      rw [hmo] at hf2
      obtain ⟨x, hx⟩ : ∃ x, x = lit l k := ⟨_, rfl⟩
      obtain ⟨y, hy⟩ : ∃ y, y = ofs l k := ⟨_, rfl⟩
      obtain ⟨z, hz⟩ : ∃ z, z = (sqAt l k).len := ⟨_, rfl⟩
      rw [← hx] at d0 b1 hf1
      rw [← hy] at d1 b2 b3
      rw [← hz] at d2 b4 b5 hf2
      have HX := Lib.hid hx
      have HZ := Lib.hid hz
      have MY := Lib.hid (may6_d x y z b1 b2 b3 b4 b5)
      have HF1K := Lib.hid hf1
      have HF2K := Lib.hid hf2
      clear hcc hf1 hf2 hmo hx hy hz
      go_wp2_with fail
      refine (MY.out _).mono ?_
      rintro e w5 ⟨rfl, hk5⟩
      have HK5 := Lib.hid (HKR.out.trans hk5)
      have HR15 := Lib.hid (HR1.out.kp0 hk5)
      have HR25 := Lib.hid (HR2.out.kp0 hk5)
      obtain ⟨t0, _, t2⟩ := HCC.out _ (HKR0.out.trans hk5) k hlt
      rw [← HX.out] at t0
      rw [← HZ.out] at t2
      have hk0 : (0 : Int) ≤ (k : Int) := by omega
      have hkn : (k : Int) < (n : Int) := by omega
      have hz4 : IntKind.i64.wrap ((z : Int) - 4) = ((z - 4 : Nat) : Int) := by rw [IntKind.wrap_i64]; omega
      clear hk5 d0 d1 d2 HR1 HR2
      go_wp2_with fail
      obtain ⟨o1, ho1⟩ : ∃ o1, o1 = Obj.cells #[.int .i64 (x : Nat)] 3 (0, 0) := ⟨_, rfl⟩
      obtain ⟨o2, ho2⟩ : ∃ o2, o2 = Obj.cells #[.int .i64 (z - 4 : Nat)] 3 (0, 0) := ⟨_, rfl⟩
      have A1 : Hid (SlR (w5.alloc (.cells #[.int .i64 (x : Nat)] 3)) 1 (.slice (some ⟨w5.heap.size, 0, none⟩) 1 1) 1 ([x].map iv)) := Lib.hid (lit_m w5 3 [iv x] (n := 1) rfl (by omega))
      have A2 : Hid (SlR (w5.alloc (.cells #[.int .i64 (z - 4 : Nat)] 3)) 1 (.slice (some ⟨w5.heap.size, 0, none⟩) 1 1) 1 ([z - 4].map iv)) := Lib.hid (lit_m w5 3 [iv (z - 4)] (n := 1) rfl (by omega))
      have A12 : Hid (SlR ((w5.alloc (.cells #[.int .i64 (x : Nat)] 3)).alloc (.cells #[.int .i64 (z - 4 : Nat)] 3)) 1 (.slice (some ⟨w5.heap.size, 0, none⟩) 1 1) 1 ([x].map iv)) := Lib.hid (A1.out.kp (kp_alloc _ _) (fun _ _ q => q))
      have A21 : Hid (SlR ((w5.alloc (.cells #[.int .i64 (z - 4 : Nat)] 3)).alloc (.cells #[.int .i64 (x : Nat)] 3)) 1 (.slice (some ⟨w5.heap.size, 0, none⟩) 1 1) 1 ([z - 4].map iv)) := Lib.hid (A2.out.kp (kp_alloc _ _) (fun _ _ q => q))
      have A12p : Hid (SlR ((w5.alloc (.cells #[.int .i64 (x : Nat)] 3)).alloc (.cells #[.int .i64 (z - 4 : Nat)] 3)) 1 (.slice (some ⟨w5.heap.size + 1, 0, none⟩) 1 1) 1 ([z - 4].map iv)) := Lib.hid (by
        have := lit_m (w5.alloc (.cells #[.int .i64 (x : Nat)] 3)) 3 [iv (z - 4)] (n := 1) rfl (by omega)
        rw [World.size_alloc] at this
        exact this)
      have A21p : Hid (SlR ((w5.alloc (.cells #[.int .i64 (z - 4 : Nat)] 3)).alloc (.cells #[.int .i64 (x : Nat)] 3)) 1 (.slice (some ⟨w5.heap.size + 1, 0, none⟩) 1 1) 1 ([x].map iv)) := Lib.hid (by
        have := lit_m (w5.alloc (.cells #[.int .i64 (z - 4 : Nat)] 3)) 3 [iv x] (n := 1) rfl (by omega)
        rw [World.size_alloc] at this
        exact this)
      have K1 : Hid (Kp (fun _ => False) w5 (w5.alloc (.cells #[.int .i64 (x : Nat)] 3)).drew) := Lib.hid (kp_alloc _ _).drew
      have K2 : Hid (Kp (fun _ => False) w5 (w5.alloc (.cells #[.int .i64 (z - 4 : Nat)] 3)).drew) := Lib.hid (kp_alloc _ _).drew
      have K12 : Hid (Kp (fun _ => False) w5 ((w5.alloc (.cells #[.int .i64 (x : Nat)] 3)).alloc (.cells #[.int .i64 (z - 4 : Nat)] 3)).drew) := Lib.hid ((kp_alloc _ _).trans (kp_alloc _ _)).drew
      have K21 : Hid (Kp (fun _ => False) w5 ((w5.alloc (.cells #[.int .i64 (z - 4 : Nat)] 3)).alloc (.cells #[.int .i64 (x : Nat)] 3)).drew) := Lib.hid ((kp_alloc _ _).trans (kp_alloc _ _)).drew
      have HSB5 : Hid (W.heap.size ≤ w5.heap.size) := Lib.hid HK5.out.size
      have HSB : Hid (∀ V, Kp (fun _ => False) w5 V → W.heap.size ≤ V.heap.size) := Lib.hid (fun V hv => Nat.le_trans HK5.out.size hv.size)
      have HLT1 : Hid (∀ j, (Value.slice v1 k c1).ownBlock = some j → ∀ V, Kp (fun _ => False) w5 V → j < V.heap.size) := Lib.hid (fun j q V hv => by have := HR15.out.lt q; have := hv.size; omega)
      have HLT2 : Hid (∀ j, (Value.slice v2 k c2).ownBlock = some j → ∀ V, Kp (fun _ => False) w5 V → j < V.heap.size) := Lib.hid (fun j q V hv => by have := HR25.out.lt q; have := hv.size; omega)
      have HCELL : Hid (∀ V, Kp (fun b => W.heap.size ≤ b) w5 V → V.cell? ⟨g, o + k * 3, none⟩ = some (.int .i64 (x : Nat)) ∧ V.cell? ⟨g, o + k * 3 + 2, none⟩ = some (.int .i64 (z : Nat))) := Lib.hid (fun V hv => by
        have hv2 : Kp (fun _ => False) w V := (HKW.out.trans HK5.out).trans2 hv (fun i hi q => by have := HW.out; omega)
        obtain ⟨e1, _, e3⟩ := HCC.out _ hv2 k hlt
        exact ⟨by rw [e1, HX.out], by rw [e3, HZ.out]⟩)
      clear ho1 ho2 o1 o2
      go_region_held3 (fun V => V.cell? ⟨g, o + k * 3, none⟩ = some (.int .i64 (x : Nat)) ∧ V.cell? ⟨g, o + k * 3 + 2, none⟩ = some (.int .i64 (z : Nat))) (go_keep) ((first
        | (refine step_grow (B := W.heap.size) _ (by rfl) (.tmp 30) (.tmp 36) 51 (by rfl) i0 _ 8 Tryz.underlying51 hi0 hz0 hz1 hz2 (by decide) (by decide) iv1 (.slice v1 k c1) (FL k) (by rfl) (by exact HR15.out.kp0 (by first | exact K1.out | exact K12.out | exact K2.out | exact K21.out)) (by exact HSB.out _ (by first | exact K1.out | exact K12.out | exact K2.out | exact K21.out)) _ 1 [x] (by rfl) (by first | exact A1.out | exact A12.out | exact A21p.out) rfl (k + 1) (by rw [HL1.out]) (by omega) ?_; intro a6 d6 w6 hg; have KX1 : Hid (Kp (fun b => W.heap.size ≤ b) w5 w6) := Lib.hid (Kp.trans (Kp.mono (F := fun _ => False) (by first | exact K1.out | exact K12.out | exact K2.out | exact K21.out) (fun _ _ q => q.elim)) (hg.2.2.mono (fun j _ q => (HR15.out.lt q).1))); have s0 : w6.cell? ⟨g, o + k * 3, none⟩ = some (.int .i64 (x : Nat)) := (HCELL.out _ KX1.out).1; have s2 : w6.cell? ⟨g, o + k * 3 + 2, none⟩ = some (.int .i64 (z : Nat)) := (HCELL.out _ KX1.out).2; have PN1 := Lib.hid hg.1; have ON1 : Hid (RowI W.heap.size w6 (.slice v2 k c2) (FM k)) := Lib.hid (hg.other HAP.out (by exact HR25.out.kp0 (by first | exact K1.out | exact K12.out | exact K2.out | exact K21.out))); have AN1 : Hid (Apart2 (.slice a6 (k + 1) d6) (.slice v2 k c2)) := Lib.hid (hg.apart HAP.out (fun j q => HLT2.out j q _ (by first | exact K1.out | exact K12.out | exact K2.out | exact K21.out))); have LN1 : Hid (∀ g', (g' = w5.heap.size ∨ g' = w5.heap.size + 1) → True) := Lib.hid (fun _ _ => trivial); (try have LO1 := Lib.hid (hg.lit (SlR.drew A12p.out) (g := w5.heap.size + 1) rfl (fun k' q => by have := HR15.out.lt q; omega))); (try have LP1 := Lib.hid (hg.lit (SlR.drew A21.out) (g := w5.heap.size) rfl (fun k' q => by have := HR15.out.lt q; omega))); clear hg)
        | (refine step_grow (B := W.heap.size) _ (by rfl) (.tmp 30) (.tmp 36) 51 (by rfl) i0 _ 8 Tryz.underlying51 hi0 hz0 hz1 hz2 (by decide) (by decide) iv1 (.slice v1 k c1) (FL k) (by rfl) (by first | exact ON2.out | exact ON2.out.kp0 (kp_alloc _ _)) (by first | exact Nat.le_trans HSB5.out KX2.out.size | exact Nat.le_trans HSB5.out (Nat.le_trans KX2.out.size (kp_alloc _ _).size)) _ 1 [x] (by rfl) (by first | exact LO2.out | exact LP2.out | exact lit_m w7 3 [iv (x)] (n := 1) rfl (by omega)) rfl (k + 1) (by rw [HL1.out]) (by omega) ?_; intro a6 d6 w6 hg; have KX1 : Hid (Kp (fun b => W.heap.size ≤ b) w5 w6) := Lib.hid (KX2.out.trans (Kp.trans (by first | exact Kp.refl _ _ | exact (Kp.refl _ _).alloc _) (hg.2.2.mono (fun j _ q => (HR15.out.lt q).1)))); have s0 : w6.cell? ⟨g, o + k * 3, none⟩ = some (.int .i64 (x : Nat)) := (HCELL.out _ KX1.out).1; have s2 : w6.cell? ⟨g, o + k * 3 + 2, none⟩ = some (.int .i64 (z : Nat)) := (HCELL.out _ KX1.out).2; have FIN : Hid (Rows2 W.heap.size w6 (.slice a6 (k + 1) d6) (FL k ++ [x]) (.slice a7 (k + 1) d7) (FM k ++ [z - 4])) := Lib.hid ⟨hg.1, hg.other AN2.out.symm (by first | exact PN2.out | exact PN2.out.kp0 (kp_alloc _ _)), hg.apart AN2.out.symm (fun j q => Nat.lt_of_lt_of_le (PN2.out.lt q).2 (by first | exact Nat.le_refl _ | exact (kp_alloc _ _).size))⟩; have KFIN := Lib.hid KX1.out; clear hg)
        | (refine step_grow (B := W.heap.size) _ (by rfl) (.tmp 38) (.tmp 45) 51 (by rfl) i0 _ 8 Tryz.underlying51 hi0 hz0 hz1 hz2 (by decide) (by decide) iv1 (.slice v2 k c2) (FM k) (by rfl) (by exact HR25.out.kp0 (by first | exact K1.out | exact K12.out | exact K2.out | exact K21.out)) (by exact HSB.out _ (by first | exact K1.out | exact K12.out | exact K2.out | exact K21.out)) _ 1 [z - 4] (by rfl) (by first | exact A2.out | exact A21.out | exact A12p.out) rfl (k + 1) (by rw [HL2.out]) (by omega) ?_; intro a7 d7 w7 hg; have KX2 : Hid (Kp (fun b => W.heap.size ≤ b) w5 w7) := Lib.hid (Kp.trans (Kp.mono (F := fun _ => False) (by first | exact K1.out | exact K12.out | exact K2.out | exact K21.out) (fun _ _ q => q.elim)) (hg.2.2.mono (fun j _ q => (HR25.out.lt q).1))); have s0 : w7.cell? ⟨g, o + k * 3, none⟩ = some (.int .i64 (x : Nat)) := (HCELL.out _ KX2.out).1; have s2 : w7.cell? ⟨g, o + k * 3 + 2, none⟩ = some (.int .i64 (z : Nat)) := (HCELL.out _ KX2.out).2; have PN2 := Lib.hid hg.1; have ON2 : Hid (RowI W.heap.size w7 (.slice v1 k c1) (FL k)) := Lib.hid (hg.other HAP.out.symm (by exact HR15.out.kp0 (by first | exact K1.out | exact K12.out | exact K2.out | exact K21.out))); have AN2 : Hid (Apart2 (.slice a7 (k + 1) d7) (.slice v1 k c1)) := Lib.hid (hg.apart HAP.out.symm (fun j q => HLT1.out j q _ (by first | exact K1.out | exact K12.out | exact K2.out | exact K21.out))); have LN2 : Hid (∀ g', (g' = w5.heap.size ∨ g' = w5.heap.size + 1) → True) := Lib.hid (fun _ _ => trivial); (try have LO2 := Lib.hid (hg.lit (SlR.drew A12.out) (g := w5.heap.size) rfl (fun k' q => by have := HR25.out.lt q; omega))); (try have LP2 := Lib.hid (hg.lit (SlR.drew A21p.out) (g := w5.heap.size + 1) rfl (fun k' q => by have := HR25.out.lt q; omega))); clear hg)
        | (refine step_grow (B := W.heap.size) _ (by rfl) (.tmp 38) (.tmp 45) 51 (by rfl) i0 _ 8 Tryz.underlying51 hi0 hz0 hz1 hz2 (by decide) (by decide) iv1 (.slice v2 k c2) (FM k) (by rfl) (by first | exact ON1.out | exact ON1.out.kp0 (kp_alloc _ _)) (by first | exact Nat.le_trans HSB5.out KX1.out.size | exact Nat.le_trans HSB5.out (Nat.le_trans KX1.out.size (kp_alloc _ _).size)) _ 1 [z - 4] (by rfl) (by first | exact LO1.out | exact LP1.out | exact lit_m w6 3 [iv (z - 4)] (n := 1) rfl (by omega)) rfl (k + 1) (by rw [HL2.out]) (by omega) ?_; intro a7 d7 w7 hg; have KX2 : Hid (Kp (fun b => W.heap.size ≤ b) w5 w7) := Lib.hid (KX1.out.trans (Kp.trans (by first | exact Kp.refl _ _ | exact (Kp.refl _ _).alloc _) (hg.2.2.mono (fun j _ q => (HR25.out.lt q).1)))); have s0 : w7.cell? ⟨g, o + k * 3, none⟩ = some (.int .i64 (x : Nat)) := (HCELL.out _ KX2.out).1; have s2 : w7.cell? ⟨g, o + k * 3 + 2, none⟩ = some (.int .i64 (z : Nat)) := (HCELL.out _ KX2.out).2; have FIN : Hid (Rows2 W.heap.size w7 (.slice a6 (k + 1) d6) (FL k ++ [x]) (.slice a7 (k + 1) d7) (FM k ++ [z - 4])) := Lib.hid ⟨hg.other AN1.out.symm (by first | exact PN1.out | exact PN1.out.kp0 (kp_alloc _ _)), hg.1, (hg.apart AN1.out.symm (fun j q => Nat.lt_of_lt_of_le (PN1.out.lt q).2 (by first | exact Nat.le_refl _ | exact (kp_alloc _ _).size))).symm⟩; have KFIN := Lib.hid KX2.out; clear hg)))
      all_goals (go_wp2_with fail)
      all_goals
        refine ⟨⟨k + 1, by omega, by go_num, by rw [HF1K.out, HF2K.out]; exact FIN.out, ?_⟩, by simp [intOf]; try omega⟩
        exact HK5.out.trans2 KFIN.out (fun i hi q => by omega)
    · obtain rfl : k = n := by omega
      have hr1' := HR1.out
      have hr2' := HR2.out
      have HG5 := Lib.hid (HG0.out.kp HKR.out (fun q => q))
      have HR5 := Lib.hid (HR0.out.kp HKR.out (fun q => q))
      have HGR : Hid (∀ V, Kp (fun _ => False) wr V → HAt V G ⟨ha, hb, hc⟩ ∧ HAt V (G + 1) ⟨0, 0, 0⟩) := Lib.hid (fun V hv => ⟨HG5.out.kp hv (fun q => q), HR5.out.kp hv (fun q => q)⟩)
      by_cases hn0 : k = 0
      · subst hn0
        obtain ⟨t0, t1, t2⟩ := HG5.out.cells
        have TW := Lib.hid (two_d 0)
        have HPB : Hid (packB l ⟨ha, hb, hc⟩ = two 0 ∧ hs (ofs l) ⟨ha, hb, hc⟩ 0 = ⟨ha, hb, hc⟩) := Lib.hid ⟨by unfold packB; rw [if_pos HN.out.symm], rfl⟩
        go_wp2_with fail
        go_region_with ((go_at_call 50; refine (TW.out _).mono ?_; rintro e V ⟨g9, rfl, p1, p2, p3⟩; have kV := (Kp.refl (fun _ => False) wr).drew.trans p3; obtain ⟨hgv, hrv⟩ := HGR.out V kV; obtain ⟨s0, s1, s2⟩ := hgv.cells; obtain ⟨r0, r1, r2⟩ := hrv.cells; have f0 : V.frozen? ⟨G + 1, 0, none⟩ = false := free_of hrv 0; have f1 : V.frozen? ⟨G + 1, 1, none⟩ = false := free_of hrv 1; have f2 : V.frozen? ⟨G + 1, 2, none⟩ = false := free_of hrv 2; have KV := Lib.hid kV; have HRV := Lib.hid hrv; have P1 := Lib.hid p1; have P2 := Lib.hid p2; clear kV hgv hrv p1 p2 p3))
        all_goals (go_wp2_with fail)
        all_goals
          obtain ⟨hst, hkst⟩ := HRV.out.store ha hb hc
          obtain ⟨y0, y1, y2⟩ := hst.cells
          have hsz : W.heap.size ≤ wr.heap.size := HKR.out.size
          have hk9 : Kp (fun _ => False) w _ := (HKR0.out.trans KV.out).trans2 hkst (fun i hi q => by have := HGE.out; omega)
          have hr9 : RowB wr.heap.size _ (.slice (some ⟨g9, 0, none⟩) 2 2) (two 0) := RowM.kp P2.out hkst.drew (fun j q => by rw [q]; have := HGE.out; have := HW.out; show G + 1 < wr.heap.size; omega)
          rw [HPB.out.1, HPB.out.2]
          refine bodyPost_ret (v := .tuple #[.slice (some ⟨g9, 0, none⟩) 2 2, hv3 ⟨ha, hb, hc⟩, .bool true]) ?_ rfl ⟨some ⟨g9, 0, none⟩, 2, rfl, hr9.low (by have := HGE.out; have := HW.out; omega), (by first | exact hk9 | exact hk9.drew)⟩
          simp [results, Tryz.results25, go_sem, y0, y1, y2, hv3]
      · have hk0 : 0 < k := by omega
        have hke : ((k : Int) == 0) = false := by rw [beq_eq_false_iff_ne]; omega
        obtain ⟨t0, t1, t2⟩ := HG5.out.cells
        obtain ⟨h2, hh2⟩ : ∃ h2, h2 = hs (ofs l) ⟨ha, hb, hc⟩ k := ⟨_, rfl⟩
        have OF : Hid (Calls Tryz.prog 51 #[.slice al k cl, .agg #[.int .i64 (ha : Nat), .int .i64 (hb : Nat), .int .i64 (hc : Nat)]] wr fun e w' => ∃ v c, e = .returned (.tuple #[.slice v k c, .agg #[.int .i64 (h2.a : Nat), .int .i64 (h2.b : Nat), .int .i64 (h2.c : Nat)]]) ∧ RowI wr.heap.size w' (.slice v k c) (vals l ⟨ha, hb, hc⟩ k) ∧ Kp (fun _ => False) wr w') := Lib.hid (by
          have := offsets_d wr l al cl (HLR.out.kp HKR0.out (fun _ _ q => q)) HMAY.out ⟨ha, hb, hc⟩
          rw [← HN.out] at this
          refine this.mono ?_
          rintro e w' ⟨v, he, h1, h3⟩
          rw [← HN.out, ← hh2] at he
          rw [← HN.out] at h1
          obtain ⟨a9, c9, rfl, h5, h6⟩ := h1
          rw [vals_len] at h5 h6 he
          exact ⟨a9, c9, he, ⟨a9, c9, by rw [vals_len], by rw [vals_len]; exact h5, h6⟩, h3⟩)
        have HH2 := Lib.hid hh2
        have HPB : Hid (packB l ⟨ha, hb, hc⟩ = two k ++ Sq.rowB (lit l) k ++ Sq.rowB (off l ⟨ha, hb, hc⟩) k ++ Sq.rowB (mor l) k ++ sized (pack (exB l ⟨ha, hb, hc⟩ k))) := Lib.hid (by unfold packB; rw [← HN.out, if_neg hn0])
        have HEXE : Hid (exG (lit l) (off l ⟨ha, hb, hc⟩) (mor l) k k = exB l ⟨ha, hb, hc⟩ k) := Lib.hid (by
          have := exG_eq l ⟨ha, hb, hc⟩ k
          rw [← HN.out] at this
          exact this)
        have HI1 : Hid (IntsR wr v1 c1 k (lit l)) := Lib.hid (IntsR.congr (rdM hr1') (fun i hi => by rw [HFLE.out]; exact firsts_at _ hi))
        have HI3 : Hid (IntsR wr v2 c2 k (mor l)) := Lib.hid (IntsR.congr (rdM hr2') (fun i hi => by rw [HFME.out]; exact firsts_at _ hi))
        clear hh2
        go_wp2_with fail
        refine OF.out.mono ?_
        rintro e w6 ⟨v3, c3, rfl, hr3, hk6⟩
        have HI2 : Hid (IntsR w6 v3 c3 k (off l ⟨ha, hb, hc⟩)) := Lib.hid (IntsR.congr (rdM hr3) (fun i hi => by simp [vals, hi]))
        have K6 := Lib.hid hk6
        clear hr3 hk6 t0 t1 t2
        go_wp2_with fail
        obtain ⟨W7, hW7⟩ : ∃ W7, W7 = w6.alloc (.cells #[.int .i64 (h2.a : Nat), .int .i64 (h2.b : Nat), .int .i64 (h2.c : Nat)] 23) := ⟨_, rfl⟩
        have hA7 : HAt W7 w6.heap.size h2 := by rw [hW7]; exact alloc_at w6 _
        have hk7 : Kp (fun _ => False) w6 W7 := by rw [hW7]; exact kp_alloc _ _
        rw [← hW7]
        obtain ⟨AB, hAB⟩ : ∃ AB, AB = w6.heap.size := ⟨_, rfl⟩
        rw [← hAB] at hA7 ⊢
        have HABE := Lib.hid hAB
        have HA7 := Lib.hid hA7
        have K7 := Lib.hid hk7
        have KW7 := Lib.hid ((HKR0.out.trans K6.out).trans hk7)
        have KR7 := Lib.hid (K6.out.trans hk7)
        clear hW7 hA7 hk7 hAB
        have RW := Lib.hid (fun V v c f (hf : IntsR V v c k f) (hb : ∀ i, f i < 4096) => row6_d V v c k f hf hk0 hlen (fun i _ => hb i))
        have HL40 := Lib.hid (fun i => (by have := lit_le HMAY.out i; omega : lit l i < 4096))
        have HO40 := Lib.hid (fun i => (by have := off_le HMAY.out ⟨ha, hb, hc⟩ i; omega : off l ⟨ha, hb, hc⟩ i < 4096))
        have HM40 := Lib.hid (fun i => (by have := mor_le HMAY.out i; omega : mor l i < 4096))
        obtain ⟨RL, hRL⟩ : ∃ RL, RL = Sq.rowB (lit l) k := ⟨_, rfl⟩
        obtain ⟨RO, hRO⟩ : ∃ RO, RO = Sq.rowB (off l ⟨ha, hb, hc⟩) k := ⟨_, rfl⟩
        obtain ⟨RM, hRM⟩ : ∃ RM, RM = Sq.rowB (mor l) k := ⟨_, rfl⟩
        have hRLl : RL.length ≤ 18 + (6 * k + 10) := by rw [hRL, rowB_len]; have := packO_le (v := lit l) (n := k); omega
        have hROl : RO.length ≤ 18 + (6 * k + 10) := by rw [hRO, rowB_len]; have := packO_le (v := off l ⟨ha, hb, hc⟩) (n := k); omega
        have hRMl : RM.length ≤ 18 + (6 * k + 10) := by rw [hRM, rowB_len]; have := packO_le (v := mor l) (n := k); omega
        have HRL := Lib.hid hRL
        have HRO := Lib.hid hRO
        have HRM := Lib.hid hRM
        obtain ⟨nL, hnL⟩ : ∃ nL, nL = RL.length := ⟨_, rfl⟩
        obtain ⟨nO, hnO⟩ : ∃ nO, nO = RO.length := ⟨_, rfl⟩
        obtain ⟨nM, hnM⟩ : ∃ nM, nM = RM.length := ⟨_, rfl⟩
        rw [← hnL] at hRLl
        rw [← hnO] at hROl
        rw [← hnM] at hRMl
        have HnL := Lib.hid hnL
        have HnO := Lib.hid hnO
        have HnM := Lib.hid hnM
        clear hRL hRO hRM hnL hnO hnM
        refine (two_d k W7).mono ?_
        rintro e w8 ⟨g8, rfl, _, t8, k8⟩
        have T8 := Lib.hid t8
        have K8 := Lib.hid k8
        clear t8 k8
        go_wp2_with fail
        refine (RW.out _ _ _ _ (HI1.out.kp (KR7.out.trans K8.out)) HL40.out).mono ?_
        rintro e w9 ⟨a9, c9, rfl, t9, k9⟩
        rw [← HRL.out, ← HnL.out] at t9 ⊢
        have B8 := Lib.hid (T8.out.kp0 k9)
        have T9 := Lib.hid t9.sl.1
        rw [← HnL.out] at T9
        have K9 := Lib.hid (K8.out.trans k9)
        clear t9 k9
        go_wp2_with (at_builtin; refine wpList_appM (w0 := W7) _ rfl _ _ 22 rfl 5 j0 _ 1 Tryz.underlying22 hj0 hy0 hy1 hy2 rfl (by decide) (by decide) u8c_1 (.slice (some ⟨g8, 0, none⟩) 2 2) (two k) rfl B8.out (.slice a9 nL c9) nL RL rfl T9.out HnL.out.symm K9.out (2 + nL) rfl (by omega) ?_; intro a10 c10 w10 g1 g2 _; have B10 := Lib.hid g1; have K10 := Lib.hid g2; clear g1 g2)
        refine (RW.out _ _ _ _ (HI2.out.kp (K7.out.trans K10.out)) HO40.out).mono ?_
        rintro e w11 ⟨a11, c11, rfl, t9, k9⟩
        rw [← HRO.out, ← HnO.out] at t9 ⊢
        have B8 := Lib.hid (B10.out.kp0 k9)
        have T9 := Lib.hid t9.sl.1
        rw [← HnO.out] at T9
        have K9 := Lib.hid (K10.out.trans k9)
        clear t9 k9
        go_wp2_with (at_builtin; refine wpList_appM (w0 := W7) _ rfl _ _ 22 rfl 5 j0 _ 1 Tryz.underlying22 hj0 hy0 hy1 hy2 rfl (by decide) (by decide) u8c_1 (.slice a10 (2 + nL) c10) (two k ++ RL) rfl B8.out (.slice a11 nO c11) nO RO rfl T9.out HnO.out.symm K9.out (2 + nL + nO) (by rw [List.length_append, ← HnL.out]; rfl) (by omega) ?_; intro a12 c12 w12 g1 g2 _; have B12 := Lib.hid g1; have K12 := Lib.hid g2; clear g1 g2)
        refine (RW.out _ _ _ _ (HI3.out.kp (KR7.out.trans K12.out)) HM40.out).mono ?_
        rintro e w13 ⟨a13, c13, rfl, t9, k9⟩
        rw [← HRM.out, ← HnM.out] at t9 ⊢
        have B8 := Lib.hid (B12.out.kp0 k9)
        have T9 := Lib.hid t9.sl.1
        rw [← HnM.out] at T9
        have K9 := Lib.hid (K12.out.trans k9)
        clear t9 k9
        go_wp2_with (at_builtin; refine wpList_appM (w0 := W7) _ rfl _ _ 22 rfl 5 j0 _ 1 Tryz.underlying22 hj0 hy0 hy1 hy2 rfl (by decide) (by decide) u8c_1 (.slice a12 (2 + nL + nO) c12) (two k ++ RL ++ RO) rfl B8.out (.slice a13 nM c13) nM RM rfl T9.out HnM.out.symm K9.out (2 + nL + nO + nM) (by rw [List.length_append, List.length_append, ← HnL.out, ← HnO.out]; rfl) (by omega) ?_; intro a14 c14 w14 g1 g2 _; have B14 := Lib.hid g1; have K14 := Lib.hid g2; clear g1 g2)
        obtain ⟨EB, hEB⟩ : ∃ EB, EB = sized (pack (exB l ⟨ha, hb, hc⟩ k)) := ⟨_, rfl⟩
        have hEBl : EB.length ≤ 10000 := by
          rw [hEB]
          have h1 := exB_len HMAY.out ⟨ha, hb, hc⟩ k
          have h2 := pack_len (exB l ⟨ha, hb, hc⟩ k)
          have h3 : (sized (pack (exB l ⟨ha, hb, hc⟩ k))).length = 2 + (pack (exB l ⟨ha, hb, hc⟩ k)).length := by simp [sized, two]; omega
          omega
        have EXC : Hid (∀ X, Kp (fun _ => False) w14 X → Calls Tryz.prog 53 #[.slice v1 k c1, .slice v3 k c3, .slice v2 k c2] X (ExPost X EB)) := Lib.hid (fun X hX => by
          have := extras_d X k hlen v1 v3 v2 c1 c3 c2 (lit l) (off l ⟨ha, hb, hc⟩) (mor l) (HI1.out.kp ((KR7.out.trans K14.out).trans hX)) (HI2.out.kp ((K7.out.trans K14.out).trans hX)) (HI3.out.kp ((KR7.out.trans K14.out).trans hX)) HL40.out HO40.out HM40.out
          rw [HEXE.out, ← hEB] at this
          exact this)
        have HEBE := Lib.hid hEB
        obtain ⟨nE, hnE⟩ : ∃ nE, nE = EB.length := ⟨_, rfl⟩
        rw [← hnE] at hEBl
        have HnE := Lib.hid hnE
        have HRST : Hid (∀ X, Kp (fun _ => False) W7 X → HAt X AB h2 ∧ HAt X (G + 1) ⟨0, 0, 0⟩) := Lib.hid (fun X hX => ⟨HA7.out.kp hX (fun q => q), (HGR.out X (KR7.out.trans hX)).2⟩)
        have hne : AB ≠ G + 1 := by have := HABE.out; have := K6.out.size; have := HKR.out.size; have := HGE.out; have := HW.out; omega
        have hne2 : G + 1 ≠ AB := fun q => hne q.symm
        obtain ⟨hab14, hr14⟩ := HRST.out _ K14.out
        obtain ⟨t0, t1, t2⟩ := hab14.cells
        clear hEB hnE hab14 hr14
        go_region_held3 (fun V => V.cell? ⟨AB, 0, none⟩ = some (.int .i64 (h2.a : Nat)) ∧ V.cell? ⟨AB, 1, none⟩ = some (.int .i64 (h2.b : Nat)) ∧ V.cell? ⟨AB, 2, none⟩ = some (.int .i64 (h2.c : Nat))) (go_keep) ((first
          | (go_simp; go_at_call 53; refine (EXC.out _ (Kp.refl _ _).drew).mono ?_; rintro e w15 ⟨a15, c15, rfl, p1, p2⟩; have k15 := K14.out.trans ((Kp.refl (fun _ => False) w14).drew.trans p2); obtain ⟨s0, s1, s2⟩ := (HRST.out _ k15).1.cells; have K15 := Lib.hid k15; have B15 := Lib.hid (B14.out.kp0 ((Kp.refl (fun _ => False) w14).drew.trans p2)); have hsl := p1.sl.1; rw [← HnE.out] at hsl ⊢; have T15 := Lib.hid hsl; clear p1 p2 k15 hsl)
          | (refine step_appM (w0 := W7) _ (by rfl) (.tmp 71) (.tmp 75) 22 (by rfl) 5 j0 _ 1 Tryz.underlying22 hj0 hy0 hy1 hy2 rfl (by decide) (by decide) u8c_1 (.slice a14 (2 + nL + nO + nM) c14) (two k ++ RL ++ RO ++ RM) (by rfl) (by exact B15.out) (.slice a15 nE c15) nE EB (by rfl) (by exact T15.out) HnE.out.symm (by exact K15.out) (2 + nL + nO + nM + nE) (by rw [List.length_append, List.length_append, List.length_append, ← HnL.out, ← HnO.out, ← HnM.out]; rfl) (by omega) ?_; intro a16 c16 w16 g1 g2 _; obtain ⟨hab, hrr⟩ := HRST.out _ g2; obtain ⟨s0, s1, s2⟩ := hab.cells; obtain ⟨r0, r1, r2⟩ := hrr.cells; have f0 : w16.frozen? ⟨G + 1, 0, none⟩ = false := free_of hrr 0; have f1 : w16.frozen? ⟨G + 1, 1, none⟩ = false := free_of hrr 1; have f2 : w16.frozen? ⟨G + 1, 2, none⟩ = false := free_of hrr 2; have B16 := Lib.hid g1; have K16 := Lib.hid g2; have HR16 := Lib.hid hrr; clear g1 g2 hab hrr)))
        all_goals (go_wp2_with fail)
        all_goals
          obtain ⟨hst, hkst⟩ := HR16.out.store h2.a h2.b h2.c
          obtain ⟨y0, y1, y2⟩ := hst.cells
          have hsz : w.heap.size + 2 ≤ W7.heap.size := by have := KR7.out.size; have := HKR.out.size; have := HW.out; omega
          have hk9 : Kp (fun _ => False) w _ := (KW7.out.trans K16.out).trans2 hkst (fun i hi q => by have := HGE.out; omega)
          have hpb : packB l ⟨ha, hb, hc⟩ = two k ++ RL ++ RO ++ RM ++ EB := by rw [HPB.out, HRL.out, HRO.out, HRM.out, HEBE.out]
          have hpl : (packB l ⟨ha, hb, hc⟩).length = 2 + nL + nO + nM + nE := by
            rw [hpb, List.length_append, List.length_append, List.length_append, List.length_append, ← HnL.out, ← HnO.out, ← HnM.out, ← HnE.out]; rfl
          have hr9 := RowM.kp B16.out hkst.drew (fun j q => by rw [q]; have := HGE.out; show G + 1 < W7.heap.size; omega)
          rw [← hpb] at hr9
          rw [hpl, ← HH2.out]
          refine bodyPost_ret (v := .tuple #[.slice a16 (2 + nL + nO + nM + nE) c16, hv3 h2, .bool true]) ?_ rfl ⟨a16, c16, rfl, hr9.low (by omega), (by first | exact hk9 | exact hk9.drew)⟩
          simp [results, Tryz.results25, go_sem, y0, y1, y2, hv3]
end Go.Proofs.YtphakpikalmghaaGreat.Ma
