/- seqs: the program's row. seqs: the program's numbers. The library's iterator Backward over steps, and over rows. seqs: the program's Pack: what its two loops keep. -/
import Derived.RangeFuncNested
import Derived.Test.YtphakpikalmghaaGreatJ22
namespace Go.Proofs.YtphakpikalmghaaGreat.Ma
open Go Go.RowKit Go.ChangeMaps Go.MapKept Go.Mg Go.Mt Go.Proofs.YtphakpikalmghaaGreat.Hu Go.Proofs.YtphakpikalmghaaGreat.Bw Go.Proofs.YtphakpikalmghaaGreat.He Go.Proofs.YtphakpikalmghaaGreat.Sq

set_option maxRecDepth 100000 in
set_option maxHeartbeats 4000000 in
theorem row6_p (w : World) (a : Option Addr) (c n : Nat) (v : Nat → Nat) (h : IntsR w a c n v) (hn0 : 0 < n) (hn : n ≤ 500) (hv : ∀ i, i < n → v i < 4096) :
    Calls Tryz.prog 40 #[.slice a n c] w (RowPost6 w v n) := by
  obtain ⟨i0, hi0, hz0, hz1, hz2⟩ := info_parts infoI_
  obtain ⟨j0, hj0, hy0, hy1, hy2⟩ := info_parts infoU8
  obtain ⟨g, o, rfl, hg, hcap, hc⟩ := h.at_ hn0
  have HC := Lib.hid hc
  have HV := Lib.hid hv
  have HCS := Lib.hid (cods_succ v)
  have HCL := Lib.hid (cods_len v)
  have HCU := Lib.hid (cn_up v)
  have HCN := Lib.hid (cn_le v)
  obtain ⟨W, hmk, hia, hkw, hws⟩ := made_i w 16 (by omega)
  have hmk2 : (Instr.makeSlice 51 (.int .i64 16) (.int .i64 16)).run Tryz.prog w = .ok (.slice (some ⟨w.heap.size, 0, none⟩) 16 16) W := hmk
  have HI0 : Hid (IAt 3 W w.heap.size 16 (cn v 0)) := Lib.hid (hia.congr (fun i _ => rfl))
  have HKW := Lib.hid hkw
  have HC0 : Hid (cods v 0 = []) := Lib.hid rfl
  clear h hc hv hmk hia hkw
  go_enter Tryz.func40, Tryz.ntmps40
  go_wp2_with fail
  obtain ⟨G, hG⟩ : ∃ G, G = w.heap.size := ⟨_, rfl⟩
  rw [← hG] at HI0 hws ⊢
  have HGE := Lib.hid hG
  clear hG hmk2
  go_loopw [4, 6, 7, 8, 9, 20] (fun s _ _ _ _ i wr => ∃ k : Nat, k ≤ n ∧ i = .int .i64 k ∧ IAt 3 wr G 16 (cn v k) ∧ RowI W.heap.size wr s (cods v k) ∧ Kp (fun _ => False) w wr ∧ W.heap.size ≤ wr.heap.size) (fun _ _ _ _ _ i _ => n - (intOf i).toNat)
  case atStart => exact ⟨0, Nat.zero_le _, rfl, HI0.out, by rw [HC0.out]; exact RowM.nil _ _ _, HKW.out, Nat.le_refl _⟩
  case round =>
    clear HI0 HC0
    obtain ⟨k, hk, rfl, hat, hrow, hkw, hsz⟩ := hrel
    obtain ⟨av, cv, rfl, hown, hbeyond⟩ := hrow
    have HROW : Hid (RowI W.heap.size wr (.slice av (cods v k).length cv) (cods v k)) := Lib.hid ⟨av, cv, rfl, hown, hbeyond⟩
    have hcl := HCL.out k
    rw [hcl] at HROW ⊢
    have HCLK := Lib.hid hcl
    have HAT := Lib.hid hat
    have HKR := Lib.hid hkw
    have HSZ := Lib.hid hsz
    clear hown hbeyond hcl hat hkw hsz
    by_cases hlt : k < n
    · have d0 := HC.out _ HKR.out k hlt
      have hx4 := HV.out k hlt
      have hcs := HCS.out k
      have hcu := HCU.out k
      have hcn := HCN.out k (Lib.bitLen (v k))
      obtain ⟨x, hx⟩ : ∃ x, x = v k := ⟨_, rfl⟩
      rw [← hx] at d0 hx4 hcs hcu hcn
      have hb12 := cd_le hx4
      have CD := Lib.hid (code_p x hx4 wr)
      have HX4 := Lib.hid hx4
      have HCUX := Lib.hid hcu
      have HCSX := Lib.hid hcs
      obtain ⟨b, hb⟩ : ∃ b, b = Lib.bitLen x := ⟨_, rfl⟩
      rw [← hb] at CD hcn hb12 HCUX HCSX
      generalize nb x = nbx at CD
      generalize ex x = exx at CD
      clear hcs hcu hb hx hx4
      go_wp2_with fail
      refine CD.out.mono ?_
      rintro e w5 ⟨rfl, hk5⟩
      have HAT5 := Lib.hid (HAT.out.kp hk5 (fun q => q))
      have c1 := IAt.cell HAT5.out (i := b) (by omega)
      have f1 := IAt.free HAT5.out b
      have hset := IAt.set HAT5.out (i := b) (by omega) (cn v k b + 1)
      rw [HCUX.out] at hset
      obtain ⟨y, hy⟩ : ∃ y, y = cn v k b := ⟨_, rfl⟩
      rw [← hy] at c1 hset hcn
      have hks : Kp (· = G) w5 (w5.setCell ⟨G, b, none⟩ (.int .i64 (y + 1 : Nat))) := (Kp.refl (· = G) w5).setCell (p := ⟨G, b, none⟩) (fun _ => rfl) _
      have hkw2 : Kp (fun _ => False) w (w5.setCell ⟨G, b, none⟩ (.int .i64 (y + 1 : Nat))) := (HKR.out.trans hk5).trans2 hks (fun i hi q => by have := HGE.out; omega)
      have hr2 := (HROW.out.kp0 hk5).kp hks (fun k q => by rw [q]; exact hws)
      have hs2 := Nat.le_trans (Nat.le_trans HSZ.out hk5.size) hks.size
      obtain ⟨V, hV⟩ : ∃ V, V = w5.setCell ⟨G, b, none⟩ (.int .i64 (y + 1 : Nat)) := ⟨_, rfl⟩
      have hVi : w5.setCell ⟨G, b, none⟩ (.int .i64 ((y : Int) + 1)) = V := by rw [hV]; rfl
      have hVs : V.heap.size = w5.heap.size := by rw [hV]; simp
      rw [← hV] at hset hkw2 hr2 hs2
      have t5 := lit_m V 3 [iv b] (n := 1) rfl (by omega)
      have T := Lib.hid t5
      have HVS := Lib.hid hVs
      have KA : Hid (Kp (fun _ => False) V (V.alloc (.cells #[.int .i64 (b : Nat)] 3))) := Lib.hid (kp_alloc _ _)
      have HR3 := Lib.hid (hr2.kp0 KA.out)
      have HB3 := Lib.hid (Nat.le_trans hs2 KA.out.size)
      have HSET := Lib.hid hset
      have HKW2 := Lib.hid (hkw2.trans KA.out)
      have HVI := Lib.hid hVi
      have HCS2 := Lib.hid HCSX.out
      clear hset hks hkw2 hr2 hs2 hV hVs t5 hy hk5
      go_wp2_with (at_builtin; refine wpList_appBM (B := W.heap.size) _ rfl _ _ 51 rfl 3 i0 _ 8 Tryz.underlying51 hi0 hz0 hz1 hz2 rfl (by decide) (by decide) iv1 (.slice av k cv) (cods v k) rfl HR3.out HB3.out (.slice (some ⟨V.heap.size, 0, none⟩) 1 1) 1 [b] rfl T.out rfl (k + 1) (by rw [HCLK.out]) (by omega) ?_; intro a5 c5 w6 g1 g2; have G1 := Lib.hid g1; have G2 := Lib.hid g2; clear g1 g2)
      refine ⟨⟨k + 1, by omega, by go_num, ?_, ?_, ?_, ?_⟩, by simp [intOf]; try omega⟩
      · have hk3 := (KA.out.mono (G := fun k => W.heap.size ≤ k) (fun _ _ q => q.elim)).trans G2.out
        exact IAt.kp HSET.out hk3 (fun q => by omega)
      · rw [HCS2.out]; exact G1.out
      · exact HKW2.out.trans2 G2.out (fun i hi q => by have := HGE.out; omega)
      · exact Nat.le_trans HB3.out G2.out.size
    · obtain rfl : k = n := by omega
      have HSUM : Hid (Fse.sm (cn v k) 16 = k) := Lib.hid (cn_sum v 16 k (fun i hi => by have := cd_le (HV.out i hi); omega))
      have NM : Hid (Calls Tryz.prog 74 #[.slice (some ⟨G, 0, none⟩) 16 16, .int .i64 6] wr (NormPost wr 16 (nrm v k))) := Lib.hid (norm_p wr _ 16 16 (cn v k) (IAt.rd HAT.out (by omega)) (by omega) (by omega) (by rw [HSUM.out]; omega) (by rw [HSUM.out]; omega))
      have HSL : Hid (IntsR wr av cv k (fun i => Lib.bitLen (v i))) := Lib.hid (IntsR.congr (rdM HROW.out) (fun i hi => cods_at v hi))
      have HB12 : Hid (∀ i, i < k → Lib.bitLen (v i) ≤ 1000) := Lib.hid (fun i hi => by have := cd_le (HV.out i hi); omega)
      clear HCS HCU HCN HC
      go_wp2_with fail
      refine NM.out.mono ?_
      rintro e w3 ⟨g2, rfl, hg2, hi2, hk2⟩
      have HI2 := Lib.hid hi2
      have HK2 := Lib.hid hk2
      have HK3 := Lib.hid (HKR.out.trans hk2)
      have HSH := Lib.hid (shb_succ v k)
      have HSHL := Lib.hid (shb_len v k)
      have HS0 : Hid (shb v k 0 = []) := Lib.hid rfl
      have HN64 : Hid (∀ i, i < 16 → nrm v k i ≤ 64) := Lib.hid (fun i hi => Fse.shn_le (by omega) _ hi)
      have HFIN : Hid (shb v k 16 = shares v k) := Lib.hid rfl
      have HOK := Lib.hid (shares_ok v k)
      have HEB : Hid (encB v k = Fse.encAll (Fse.ent (nrm v k) 16) (fun i => Lib.bitLen (v i)) k) := Lib.hid rfl
      have HRB : Hid (Sq.rowB v k = shares v k ++ sized (packO (encB v k)) ∧ (Sq.rowB v k).length = 18 + (packO (encB v k)).length ∧ (packO (encB v k)).length ≤ 6 * k + 10) := Lib.hid ⟨rfl, rowB_len v k, packO_le⟩
      clear hi2 hk2 NM
      go_wp2_with fail
      go_loopw [12, 14, 48] (fun b _ i wr => ∃ j : Nat, j ≤ 16 ∧ i = .int .i64 j ∧ RowB w3.heap.size wr b (shb v k j) ∧ Kp (fun _ => False) w3 wr) (fun _ _ i _ => 16 - (intOf i).toNat)
      case atStart => exact ⟨0, Nat.zero_le _, rfl, by rw [HS0.out]; exact RowM.nil _ _ _, Kp.refl _ _⟩
      case round =>
        obtain ⟨j, hj, rfl, hrow, hkw⟩ := hrel
        obtain ⟨bv, dv, rfl, hown, hbeyond⟩ := hrow
        have HROW2 : Hid (RowB w3.heap.size wr (.slice bv (shb v k j).length dv) (shb v k j)) := Lib.hid ⟨bv, dv, rfl, hown, hbeyond⟩
        have hcl := HSHL.out j
        rw [hcl] at HROW2 ⊢
        have HJL := Lib.hid hcl
        have HKW3 := Lib.hid hkw
        clear hown hbeyond hcl hkw
        by_cases hlt : j < 16
        · have d0 : wr.cell? ⟨g2, j, none⟩ = some (.int .i64 (nrm v k j : Nat)) := IAt.cell (IAt.kp HI2.out HKW3.out (fun q => q)) hlt
          have h64 := HN64.out j hlt
          have hsh := HSH.out j
          obtain ⟨x, hx⟩ : ∃ x, x = nrm v k j := ⟨_, rfl⟩
          rw [← hx] at d0 h64 hsh
          have HSHJ := Lib.hid hsh
          have hw8 : IntKind.u8.wrap (x : Int) = (x : Int) := by rw [IntKind.wrap_u8]; omega
          have T : Hid (SlR (wr.alloc (.cells #[.int .u8 (x : Nat)] 5)) 1 (.slice (some ⟨wr.heap.size, 0, none⟩) 1 1) 1 ([UInt8.ofNat x].map u8c)) := Lib.hid (by
            have := lit_m wr 5 [u8c (UInt8.ofNat x)] (n := 1) rfl (by omega)
            have e : u8c (UInt8.ofNat x) = .int .u8 (x : Nat) := by unfold u8c; rw [UInt8.toNat_ofNat']; congr 2; omega
            rw [e] at this
            simp only [List.map_cons, List.map_nil, e]
            exact this)
          have KA := Lib.hid (kp_alloc wr (.cells #[.int .u8 (x : Nat)] 5))
          have HR3 := Lib.hid (HROW2.out.kp0 KA.out)
          have HK4 := Lib.hid (HKW3.out.trans KA.out)
          clear hsh hx
          go_wp2_with (at_builtin; refine wpList_appM (w0 := w3) _ rfl _ _ 22 rfl 5 j0 _ 1 Tryz.underlying22 hj0 hy0 hy1 hy2 rfl (by decide) (by decide) u8c_1 (.slice bv j dv) (shb v k j) rfl HR3.out (.slice (some ⟨wr.heap.size, 0, none⟩) 1 1) 1 [UInt8.ofNat x] rfl T.out rfl HK4.out (j + 1) (by rw [HJL.out]) (by omega) ?_; intro a5 c5 w6 g1 g2 _; have G1 := Lib.hid g1; have G2 := Lib.hid g2; clear g1 g2)
          exact ⟨⟨j + 1, by omega, by go_num, by rw [HSHJ.out]; exact G1.out, G2.out⟩, by simp [intOf]; try omega⟩
        · obtain rfl : j = 16 := by omega
          have FE : Hid (Calls Tryz.prog 75 #[.slice (some ⟨g2, 0, none⟩) 16 16, .int .i64 6, .slice av k cv] wr (FencPost wr (encB v k))) := Lib.hid (by
            rw [HEB.out]
            exact fenc_p wr _ 16 16 (nrm v k) (IAt.rd (IAt.kp HI2.out HKW3.out (fun q => q)) (by omega)) (by omega) (by omega) HOK.out av cv k _ (HSL.out.kp (HK2.out.trans HKW3.out)) (by omega))
          obtain ⟨PO, hPO⟩ : ∃ PO, PO = packO (encB v k) := ⟨_, rfl⟩
          rw [← hPO] at HRB
          have HPO := Lib.hid hPO
          obtain ⟨m, hm⟩ : ∃ m, m = PO.length := ⟨_, rfl⟩
          have HM := Lib.hid hm
          have hmle : m ≤ 6 * k + 10 := by rw [hm]; exact HRB.out.2.2
          clear hPO hm
          go_wp2_with fail
          refine FE.out.mono ?_
          intro e w5 hfe
          obtain ⟨pa, pc, z, rfl, p1, p2⟩ := fenc_o hfe
          rw [← HPO.out, ← HM.out] at p1 ⊢
          have HNE : Hid (∀ b, (Value.slice pa m pc).ownBlock = some b → ¬ (Value.slice bv 16 dv).ownBlock = some b) := Lib.hid (fun b q1 q2 => by have h1 := p1.lt q1; have h2 := HROW2.out.lt q2; omega)
          have P1 := Lib.hid p1
          have KP := Lib.hid (HKW3.out.trans p2)
          have RB := Lib.hid (HROW2.out.kp0 p2)
          clear hfe p1 p2
          go_wp2_with fail
          have hsl : SlR w5 1 (.slice pa PO.length pc) PO.length (PO.map u8c) := P1.out.sl.1
          have SP := sized6_p w5 PO pa pc hsl (by rw [← HM.out]; omega)
          unfold SizedPost at SP
          rw [← HM.out] at SP
          refine SP.mono ?_
          rintro e w6 ⟨sa, sc, rfl, t6, k6⟩
          have T6 := Lib.hid (t6.sl.1)
          have HSL6 : Hid ((Sq.sized PO).length = 2 + m) := Lib.hid (by rw [HM.out]; simp [Sq.sized, two]; omega)
          rw [HSL6.out] at T6
          have KT := Lib.hid (KP.out.trans k6)
          have RB6 := Lib.hid (RB.out.kp0 k6)
          have HRL : Hid ((Sq.rowB v k).length = 18 + m) := Lib.hid (by rw [HRB.out.2.1, HM.out])
          have HRE : Hid (shb v k 16 ++ Sq.sized PO = Sq.rowB v k) := Lib.hid (by rw [HRB.out.1, HFIN.out])
          clear t6 k6 RB P1 hsl SP
          go_wp2_with (at_builtin; refine wpList_appM (w0 := w3) _ rfl _ _ 22 rfl 5 j0 _ 1 Tryz.underlying22 hj0 hy0 hy1 hy2 rfl (by decide) (by decide) u8c_1 (.slice bv 16 dv) (shb v k 16) rfl RB6.out (.slice sa (2 + m) sc) (2 + m) (Sq.sized PO) rfl T6.out HSL6.out KT.out (18 + m) (by rw [HJL.out]; omega) (by omega) ?_; intro a8 c8 w8 g1 g2 _; have G3 := Lib.hid g1; have G4 := Lib.hid g2; clear g1 g2)
          go_ret
          rw [HRE.out] at G3
          refine ⟨a8, c8, by rw [HRL.out]; rfl, ?_, HK3.out.trans G4.out⟩
          rw [HRL.out]
          exact G3.out.low (HK3.out.size)
end Go.Proofs.YtphakpikalmghaaGreat.Ma
namespace Go.Mg
open Go Go.RowKit Go.ChangeMaps Go.MapKept
/-- 'append(v, x...)' of such a row: where the row lies is told. -/
theorem wpList_grow {α : Type} {e : TypeId} {enc : α → Value} {P : Program} {B : Nat} (w : World) {ops : Array Oper} {rest : List Oper} {o : Oper} {a : Act} {Q : Exit → Act → World → Prop} (hgd : o.guard = none) (s x : Operand) (t : TypeId) (ho : o.op = .call { callee := .builtin .append, args := #[s, x], argTypes := #[t, t] })
    (i : TypeInfo) (z : Value) (bytes : Nat) (ht : P.underlying t = some (.slice e)) (hi : P.info? e = some i) (hz : i.zero = some z) (hsize : i.size = 1) (hby : i.bytes = bytes) (hzs : z.cells.size = 1) (hbp : 0 < bytes)
    (h1 : ∀ y, (enc y).oneCell' = true) (v : Value) (l : List α) (hs : a.eval s = v) (hrow : RowM e enc B w v l) (hB : B ≤ w.heap.size) (xv : Value) (m : Nat) (r : List α) (hx : a.eval x = xv) (hsl : SlR w 1 xv m (r.map enc)) (hm : r.length = m) (n' : Nat) (hn : l.length + m = n') (hbytes : n' * bytes ≤ 140737488355328)
    (h : ∀ a' c' w', Grown e enc B w w' v (.slice a' n' c') (l ++ r) → wpList P ops Q rest (a.put o.dst (.slice a' n' c')) w') : wpList P ops Q (o :: rest) a w := by
  have e1 : ∀ u ∈ r.map enc, u.oneCell' = true := by
    intro u hu
    obtain ⟨y, _, rfl⟩ := List.mem_map.1 hu
    exact h1 y
  obtain ⟨av, cv, rfl, hown, hb⟩ := hrow
  exact wpList_app w hgd s x t ho e i z 1 bytes ht hi hz hsize hby hzs (by omega) hbp _ _ _ hs hown xv m _ hx hsl e1 (by rw [hn]; exact hbytes) (fun v' w' g1 g2 g3 g4 g5 => by
    obtain ⟨b1, d1, rfl⟩ := g1.form
    subst hn
    subst hm
    refine h _ _ _ ⟨⟨b1, d1, by simp, by rw [List.length_append, List.map_append]; exact g1, fun k hk => ?_⟩, fun k hk => ?_, g2⟩
    · rcases g3 with q | q
      · exact hb k (q.symm.trans hk)
      · rw [hk] at q
        cases q
        exact hB
    · rcases g3 with q | q
      · exact .inl (q.symm.trans hk)
      · rw [hk] at q
        cases q
        exact .inr rfl)
end Go.Mg
namespace Go.Proofs.YtphakpikalmghaaGreat.Ma
open Go Go.RowKit Go.ChangeMaps Go.MapKept Go.Mg Go.Mt Go.Proofs.YtphakpikalmghaaGreat.Hu Go.Proofs.YtphakpikalmghaaGreat.Bw Go.Proofs.YtphakpikalmghaaGreat.He Go.Proofs.YtphakpikalmghaaGreat.Sq

def lits (l : List Sq) (n : Nat) : List Nat := (List.range n).map (lit l)
def mors (l : List Sq) (n : Nat) : List Nat := (List.range n).map (mor l)
theorem lits_succ (l : List Sq) (n : Nat) : lits l (n + 1) = lits l n ++ [lit l n] := by simp [lits, List.range_succ]
theorem mors_succ (l : List Sq) (n : Nat) : mors l (n + 1) = mors l n ++ [mor l n] := by simp [mors, List.range_succ]
theorem lits_len (l : List Sq) (n : Nat) : (lits l n).length = n := by simp [lits]
theorem mors_len (l : List Sq) (n : Nat) : (mors l n).length = n := by simp [mors]
/-- Three slices in a block. -/
def A3 (w : World) (g : Nat) (x y z : Value) : Prop := w.heap[g]? = some (.cells #[x, y, z] 63 (0, 0))
theorem A3.set0 {w : World} {g : Nat} {x y z : Value} (h : A3 w g x y z) (u : Value) : A3 (w.setCell ⟨g, 0, none⟩ u) g u y z := setCell_at (i := 0) h u
theorem A3.set1 {w : World} {g : Nat} {x y z : Value} (h : A3 w g x y z) (u : Value) : A3 (w.setCell ⟨g, 1, none⟩ u) g x u z := setCell_at (i := 1) h u
theorem A3.set2 {w : World} {g : Nat} {x y z : Value} (h : A3 w g x y z) (u : Value) : A3 (w.setCell ⟨g, 2, none⟩ u) g x y u := setCell_at (i := 2) h u
theorem A3.cells {w : World} {g : Nat} {x y z : Value} (h : A3 w g x y z) : w.cell? ⟨g, 0, none⟩ = some x ∧ w.cell? ⟨g, 1, none⟩ = some y ∧ w.cell? ⟨g, 2, none⟩ = some z := by
  refine ⟨?_, ?_, ?_⟩ <;> rw [cell_of h] <;> rfl
theorem A3.kp {w w' : World} {g : Nat} {x y z : Value} {F : Nat → Prop} (h : A3 w g x y z) (hk : Kp F w w') (hF : ¬ F g) : A3 w' g x y z := hk.at_ h hF
def NumPost (w : World) (l : List Sq) (h : H3) (e : Ending) (w' : World) : Prop := ∃ x y z, e = .returned (.tuple #[.agg #[x, y, z], hv3 (hs (ofs l) h l.length)]) ∧ RowI w.heap.size w' x (lits l l.length) ∧ RowI w.heap.size w' y (vals l h l.length) ∧ RowI w.heap.size w' z (mors l l.length) ∧ Kp (fun _ => False) w w'
/-- Between two rounds: what lies where. -/
structure NumI (w W : World) (G : Nat) (HH : H3) (VA : List Nat) (v1 : Value) (L M : List Nat) (v0 v2 : Value) (wr : World) : Prop where
  arr : A3 wr (G + 1 + 1 + 1) v0 v1 v2
  hat : HAt wr G HH
  res0 : A3 wr (G + 1) (.slice none 0 0) (.slice none 0 0) (.slice none 0 0)
  res1 : HAt wr (G + 1 + 1) ⟨0, 0, 0⟩
  r0 : RowI W.heap.size wr v0 L
  r1 : RowI W.heap.size wr v1 VA
  r2 : RowI W.heap.size wr v2 M
  p01 : Apart2 v0 v1
  p02 : Apart2 v0 v2
  p21 : Apart2 v2 v1
  kp : Kp (fun _ => False) w wr
  sz : W.heap.size ≤ wr.heap.size
theorem NumI.kept {w W : World} {G : Nat} {HH : H3} {VA : List Nat} {v1 : Value} {L M : List Nat} {v0 v2 : Value} {wr V : World} (h : NumI w W G HH VA v1 L M v0 v2 wr) (hk : Kp (fun _ => False) wr V) : NumI w W G HH VA v1 L M v0 v2 V :=
  ⟨h.arr.kp hk (fun q => q), h.hat.kp hk (fun q => q), h.res0.kp hk (fun q => q), h.res1.kp hk (fun q => q), h.r0.kp0 hk, h.r1.kp0 hk, h.r2.kp0 hk, h.p01, h.p02, h.p21, h.kp.trans hk, Nat.le_trans h.sz hk.size⟩
theorem NumI.grow0 {w W : World} {G : Nat} {HH : H3} {VA : List Nat} {v1 : Value} {L M L' : List Nat} {v0 v2 v' : Value} {V V' : World} (h : NumI w W G HH VA v1 L M v0 v2 V) (hG : w.heap.size ≤ G) (hW : G + 4 ≤ W.heap.size) (g : Grown 3 iv W.heap.size V V' v0 v' L') :
    A3 V' (G + 1 + 1 + 1) v0 v1 v2 ∧ NumI w W G HH VA v1 L' M v' v2 (V'.setCell ⟨G + 1 + 1 + 1, 0, none⟩ v') := by
  have hn : ∀ k, v0.ownBlock = some k → W.heap.size ≤ k := fun k q => (h.r0.lt q).1
  have ha := h.arr.kp g.2.2 (fun q => by have := hn _ q; omega)
  have ks := (Kp.refl (· = G + 1 + 1 + 1) V').setCell (p := ⟨G + 1 + 1 + 1, 0, none⟩) (fun _ => rfl) v'
  refine ⟨ha, ha.set0 _, (h.hat.kp g.2.2 (fun q => by have := hn _ q; omega)).kp ks (by omega), (h.res0.kp g.2.2 (fun q => by have := hn _ q; omega)).kp ks (by omega), (h.res1.kp g.2.2 (fun q => by have := hn _ q; omega)).kp ks (by omega), g.1.kp ks (fun k q => by omega), (g.other h.p01 h.r1).kp ks (fun k q => by omega), (g.other h.p02 h.r2).kp ks (fun k q => by omega), g.apart h.p01 (fun k q => (h.r1.lt q).2), g.apart h.p02 (fun k q => (h.r2.lt q).2), h.p21, (h.kp.trans2 g.2.2 (fun i hi q => by have := hn _ q; omega)).trans2 ks (fun i hi q => by omega), ?_⟩
  have := h.sz
  have := g.2.2.size
  have := ks.size
  omega
theorem NumI.grow2 {w W : World} {G : Nat} {HH : H3} {VA : List Nat} {v1 : Value} {L M M' : List Nat} {v0 v2 v' : Value} {V V' : World} (h : NumI w W G HH VA v1 L M v0 v2 V) (hG : w.heap.size ≤ G) (hW : G + 4 ≤ W.heap.size) (g : Grown 3 iv W.heap.size V V' v2 v' M') :
    A3 V' (G + 1 + 1 + 1) v0 v1 v2 ∧ NumI w W G HH VA v1 L M' v0 v' (V'.setCell ⟨G + 1 + 1 + 1, 2, none⟩ v') := by
  have hn : ∀ k, v2.ownBlock = some k → W.heap.size ≤ k := fun k q => (h.r2.lt q).1
  have ha := h.arr.kp g.2.2 (fun q => by have := hn _ q; omega)
  have ks := (Kp.refl (· = G + 1 + 1 + 1) V').setCell (p := ⟨G + 1 + 1 + 1, 2, none⟩) (fun _ => rfl) v'
  refine ⟨ha, ha.set2 _, (h.hat.kp g.2.2 (fun q => by have := hn _ q; omega)).kp ks (by omega), (h.res0.kp g.2.2 (fun q => by have := hn _ q; omega)).kp ks (by omega), (h.res1.kp g.2.2 (fun q => by have := hn _ q; omega)).kp ks (by omega), (g.other h.p02.symm h.r0).kp ks (fun k q => by omega), (g.other h.p21 h.r1).kp ks (fun k q => by omega), g.1.kp ks (fun k q => by omega), h.p01, (g.apart h.p02.symm (fun k q => (h.r0.lt q).2)).symm, g.apart h.p21 (fun k q => (h.r1.lt q).2), (h.kp.trans2 g.2.2 (fun i hi q => by have := hn _ q; omega)).trans2 ks (fun i hi q => by omega), ?_⟩
  have := h.sz
  have := g.2.2.size
  have := ks.size
  omega
set_option maxRecDepth 100000 in
set_option maxHeartbeats 4000000 in
theorem numbers_p (w : World) (l : List Sq) (al : Option Addr) (cl : Nat) (hl : SlR w 3 (.slice al l.length cl) l.length (l.flatMap sqc)) (hm : May l) (h : H3) :
    Calls Tryz.prog 39 #[.slice al l.length cl, hv3 h] w (NumPost w l h) := by
  obtain ⟨i0, hi0, hz0, hz1, hz2⟩ := info_parts infoI_
  have hlen := hm.1
  have OP := Lib.hid (fun V (hV : Kp (fun _ => False) w V) => offsets_p V l al cl (hl.kp hV (fun _ _ q => q)) hm h)
  have HL : Hid (0 < l.length → ∃ g o, al = some ⟨g, o, none⟩ ∧ g < w.heap.size ∧ l.length ≤ cl ∧ ∀ V, Kp (fun _ => False) w V → ∀ i, i < l.length → V.cell? ⟨g, o + i * 3, none⟩ = some (.int .i64 (lit l i : Nat)) ∧ V.cell? ⟨g, o + i * 3 + 1, none⟩ = some (.int .i64 (ofs l i : Nat)) ∧ V.cell? ⟨g, o + i * 3 + 2, none⟩ = some (.int .i64 ((sqAt l i).len : Nat))) := Lib.hid (fun h0 => by
    obtain ⟨g, o, e, hg, hc, hs⟩ := sq_at hl h0
    exact ⟨g, o, e, hg, hc, fun V hk i hi => ⟨(hk.cell (p := ⟨g, o + i * 3, none⟩) hg (fun q => q)).trans (hs i hi).1, (hk.cell (p := ⟨g, o + i * 3 + 1, none⟩) hg (fun q => q)).trans (hs i hi).2.1, (hk.cell (p := ⟨g, o + i * 3 + 2, none⟩) hg (fun q => q)).trans (hs i hi).2.2⟩⟩)
  have HMR : Hid (∀ i, i < l.length → 4 ≤ (sqAt l i).len ∧ (sqAt l i).len ≤ 500 ∧ mor l i = (sqAt l i).len - 4) := Lib.hid (fun i hi => ⟨(hm.at_ hi).2.2.2.1, (hm.at_ hi).2.2.2.2, rfl⟩)
  have HLT := Lib.hid (lit_le hm)
  have HLS := Lib.hid (lits_succ l)
  have HMS := Lib.hid (mors_succ l)
  have HLL := Lib.hid (lits_len l)
  have HML := Lib.hid (mors_len l)
  have H0 : Hid (lits l 0 = [] ∧ mors l 0 = []) := Lib.hid ⟨rfl, rfl⟩
  have HVL := Lib.hid (vals_len l h l.length)
  unfold NumPost
  unfold OffPost at OP
  obtain ⟨n, hn⟩ : ∃ n, n = l.length := ⟨_, rfl⟩
  rw [← hn] at HL hlen OP HMR HVL ⊢
  obtain ⟨VA, hVA⟩ : ∃ VA, VA = vals l h n := ⟨_, rfl⟩
  obtain ⟨HH, hHH⟩ : ∃ HH, HH = hs (ofs l) h n := ⟨_, rfl⟩
  rw [← hVA] at OP HVL ⊢
  rw [← hHH] at OP ⊢
  obtain ⟨LA, hLA⟩ : ∃ LA, LA = lits l := ⟨_, rfl⟩
  obtain ⟨MA, hMA⟩ : ∃ MA, MA = mors l := ⟨_, rfl⟩
  rw [← hLA] at HLS HLL H0 ⊢
  rw [← hMA] at HMS HML H0 ⊢
  clear hl hm hn hVA hHH hLA hMA
  obtain ⟨ha, hb, hc⟩ := h
  unfold hv3 at OP ⊢
  obtain ⟨W, hW⟩ : ∃ W, W = (((w.alloc (.cells #[.int .i64 (ha : Nat), .int .i64 (hb : Nat), .int .i64 (hc : Nat)] 23)).alloc (.cells #[.slice none 0 0, .slice none 0 0, .slice none 0 0] 63)).alloc (.cells #[.int .i64 0, .int .i64 0, .int .i64 0] 23)).alloc (.cells #[.slice none 0 0, .slice none 0 0, .slice none 0 0] 63) := ⟨_, rfl⟩
  have hws : W.heap.size = w.heap.size + 4 := by rw [hW]; simp
  have kr : ∀ X, Kp (fun _ => False) X X := fun X => Kp.refl _ X
  have hkW : Kp (fun _ => False) w W := by rw [hW]; exact ((((kr _).alloc _).alloc _).alloc _).alloc _
  have hG0 : HAt W w.heap.size ⟨ha, hb, hc⟩ := by
    rw [hW]; exact ((((kr _).alloc _).alloc _).alloc _).at_ (alloc_at w _) (fun q => q)
  have hG1 : A3 W (w.heap.size + 1) (.slice none 0 0) (.slice none 0 0) (.slice none 0 0) := by
    have := alloc_at (w.alloc (.cells #[.int .i64 (ha : Nat), .int .i64 (hb : Nat), .int .i64 (hc : Nat)] 23)) (.cells #[.slice none 0 0, .slice none 0 0, .slice none 0 0] 63)
    rw [World.size_alloc] at this
    rw [hW]; exact (((kr _).alloc _).alloc _).at_ this (fun q => q)
  have hG2 : HAt W (w.heap.size + 1 + 1) ⟨0, 0, 0⟩ := by
    have := alloc_at ((w.alloc (.cells #[.int .i64 (ha : Nat), .int .i64 (hb : Nat), .int .i64 (hc : Nat)] 23)).alloc (.cells #[.slice none 0 0, .slice none 0 0, .slice none 0 0] 63)) (.cells #[.int .i64 0, .int .i64 0, .int .i64 0] 23)
    rw [World.size_alloc, World.size_alloc] at this
    rw [hW]; exact ((kr _).alloc _).at_ this (fun q => q)
  have hG3 : A3 W (w.heap.size + 1 + 1 + 1) (.slice none 0 0) (.slice none 0 0) (.slice none 0 0) := by
    have := alloc_at (((w.alloc (.cells #[.int .i64 (ha : Nat), .int .i64 (hb : Nat), .int .i64 (hc : Nat)] 23)).alloc (.cells #[.slice none 0 0, .slice none 0 0, .slice none 0 0] 63)).alloc (.cells #[.int .i64 0, .int .i64 0, .int .i64 0] 23)) (.cells #[.slice none 0 0, .slice none 0 0, .slice none 0 0] 63)
    rw [World.size_alloc, World.size_alloc, World.size_alloc] at this
    rw [hW]; exact this
  obtain ⟨c0, c1, c2⟩ := hG0.cells
  have HW := Lib.hid hW
  have HWS := Lib.hid hws
  have HKW := Lib.hid hkW
  have OPW := Lib.hid (OP.out W hkW)
  have HG0 := Lib.hid hG0
  have HG1 := Lib.hid hG1
  have HG2 := Lib.hid hG2
  have HG3 := Lib.hid hG3
  clear OP hG0 hG1 hG2 hG3 hW hws hkW kr
  go_enter Tryz.func39, Tryz.ntmps39
  go_wp2_with fail
  rw [← HW.out]
  refine OPW.out.mono ?_
  rintro e w1 ⟨v1, rfl, hr1, hk1⟩
  obtain ⟨a1, d1, rfl, ho1, hb1⟩ := hr1
  have hr1 : RowI W.heap.size w1 (.slice a1 VA.length d1) VA := ⟨a1, d1, rfl, ho1, hb1⟩
  clear ho1 hb1
  rw [HVL.out] at hr1 ⊢
  obtain ⟨G, hG⟩ : ∃ G, G = w.heap.size := ⟨_, rfl⟩
  rw [← hG] at HG0 HG1 HG2 HG3 c0 c1 c2 HWS ⊢
  have HGE := Lib.hid hG
  have A1 := HG3.out.kp hk1 (fun q => q)
  have f1 : w1.frozen? ⟨G + 1 + 1 + 1, 1, none⟩ = false := free_of A1 1
  obtain ⟨_, q1, _⟩ := A1.cells
  have AS := A1.set1 (.slice a1 n d1)
  have ks1 := (Kp.refl (· = G + 1 + 1 + 1) w1).setCell (p := ⟨G + 1 + 1 + 1, 1, none⟩) (fun _ => rfl) (.slice a1 n d1)
  obtain ⟨V1, hV1⟩ : ∃ V1, V1 = w1.setCell ⟨G + 1 + 1 + 1, 1, none⟩ (.slice a1 n d1) := ⟨_, rfl⟩
  rw [← hV1] at AS ks1
  have hav := (HG0.out.kp hk1 (fun q => q)).kp ks1 (by omega)
  obtain ⟨s0, s1, s2⟩ := hav.cells
  have e0 : V1.frozen? ⟨G, 0, none⟩ = false := free_of hav 0
  have e1 : V1.frozen? ⟨G, 1, none⟩ = false := free_of hav 1
  have e2 : V1.frozen? ⟨G, 2, none⟩ = false := free_of hav 2
  obtain ⟨hst, hks⟩ := hav.store HH.a HH.b HH.c
  obtain ⟨V2, hV2⟩ : ∃ V2, V2 = ((V1.setCell ⟨G, 0, none⟩ (.int .i64 (HH.a : Nat))).setCell ⟨G, 1, none⟩ (.int .i64 (HH.b : Nat))).setCell ⟨G, 2, none⟩ (.int .i64 (HH.c : Nat)) := ⟨_, rfl⟩
  rw [← hV2] at hst hks
  have hfold1 := hV1.symm
  have hfold2 := hV2.symm
  have HI0 : Hid (NumI w W G HH VA (.slice a1 n d1) (LA 0) (MA 0) (.slice none 0 0) (.slice none 0 0) V2) := Lib.hid ⟨AS.kp hks (by omega), hst, ((HG1.out.kp hk1 (fun q => q)).kp ks1 (by omega)).kp hks (by omega), ((HG2.out.kp hk1 (fun q => q)).kp ks1 (by omega)).kp hks (by omega), by rw [H0.out.1]; exact RowM.nil _ _ _, (hr1.kp ks1 (fun k q => by have := HWS.out; omega)).kp hks (fun k q => by have := HWS.out; omega), by rw [H0.out.2]; exact RowM.nil _ _ _, (fun k q => by cases q), (fun k q => by cases q), (fun k q => by cases q), (((HKW.out.trans hk1).trans2 ks1 (fun i hi q => by omega)).trans2 hks (fun i hi q => by omega)), by have := hk1.size; have := ks1.size; have := hks.size; omega⟩
  have HWZ : Hid (G + 4 ≤ W.heap.size) := Lib.hid (by have := HWS.out; omega)
  have HGG : Hid (w.heap.size ≤ G) := Lib.hid (by omega)
  clear hr1 hk1 A1 AS ks1 hV1 hV2 hst hks hav H0 OPW HW HG0 HG1 HG2 HG3 HKW c0 c1 c2 hG
  go_wp2_with fail
  clear hfold1 hfold2 f1 q1 s0 s1 s2 e0 e1 e2
  go_loopw [18] (fun i wr => ∃ (k : Nat) (a0 a2 : Option Addr) (d0 d2 : Nat), k ≤ n ∧ i = .int .i64 k ∧ NumI w W G HH VA (.slice a1 n d1) (LA k) (MA k) (.slice a0 k d0) (.slice a2 k d2) wr) (fun i _ => n - (intOf i).toNat)
  case atStart => exact ⟨0, _, _, _, _, Nat.zero_le _, rfl, HI0.out⟩
  case round =>
    clear HI0
    obtain ⟨k, a0, a2, z0, z2, hk, rfl, hI⟩ := hrel
    have HI := Lib.hid hI
    by_cases hlt : k < n
    · obtain ⟨g, o, rfl, hgs, hcl, hcc⟩ := HL.out (by omega)
      obtain ⟨d0, d1, d2⟩ := hcc _ hI.kp k hlt
      obtain ⟨m4, m5, hmr⟩ := HMR.out k hlt
      have hls := HLS.out k
      have hms := HMS.out k
      have hl5 := HLT.out k
      obtain ⟨x, hx⟩ : ∃ x, x = lit l k := ⟨_, rfl⟩
      obtain ⟨q, hq⟩ : ∃ q, q = ofs l k := ⟨_, rfl⟩
      obtain ⟨z, hz⟩ : ∃ z, z = (sqAt l k).len := ⟨_, rfl⟩
      obtain ⟨y, hy⟩ : ∃ y, y = mor l k := ⟨_, rfl⟩
      rw [← hx] at d0 hls hl5
      rw [← hq] at d1
      rw [← hz] at d2 m4 m5 hmr
      rw [← hy] at hms hmr
      have hzy : (z : Int) - 4 = (y : Nat) := by omega
      have HLSK := Lib.hid hls
      have HMSK := Lib.hid hms
      have HLENa := Lib.hid (HLL.out k)
      have HLENb := Lib.hid (HML.out k)
      have ka := kp_alloc wr (.cells #[.int .i64 (x : Nat), .int .i64 (q : Nat), .int .i64 (z : Nat)] 60)
      have hAB : (wr.alloc (.cells #[.int .i64 (x : Nat), .int .i64 (q : Nat), .int .i64 (z : Nat)] 60)).heap[wr.heap.size]? = _ := alloc_at wr _
      obtain ⟨V0, hV0⟩ : ∃ V0, V0 = wr.alloc (.cells #[.int .i64 (x : Nat), .int .i64 (q : Nat), .int .i64 (z : Nat)] 60) := ⟨_, rfl⟩
      rw [← hV0] at ka hAB
      obtain ⟨AB, hABe⟩ : ∃ AB, AB = wr.heap.size := ⟨_, rfl⟩
      rw [← hABe] at hAB
      have b0 : V0.cell? ⟨AB, 0, none⟩ = some (.int .i64 (x : Nat)) := by rw [cell_of hAB]; rfl
      obtain ⟨p0, _, _⟩ := (hI.arr.kp ka (fun q => q)).cells
      have ta := lit_m V0 3 [iv x] (n := 1) rfl (by omega)
      have Ta := Lib.hid ta
      have kb := kp_alloc V0 (.cells #[.int .i64 (x : Nat)] 3)
      have HIa := Lib.hid ((hI.kept ka).kept kb)
      have Ra := Lib.hid HIa.out.r0
      have Sa := Lib.hid HIa.out.sz
      have HAB1 := Lib.hid (kb.at_ hAB (fun q => q))
      have HABN : Hid (∀ j, (Value.slice a0 k z0).ownBlock = some j → j ≠ AB) := Lib.hid (fun j q => by have := (hI.r0.lt q).2; omega)
      have HABG : Hid (¬ AB = G + 1 + 1 + 1) := Lib.hid (by have := hI.sz; have := HWZ.out; omega)
      have hfold0 := hV0.symm
      have hfoldA := hABe.symm
      clear hI hls hms hmr hx hq hz hy ka hAB ta kb hcc hV0 hABe
      go_wp2_with (first
        | (at_builtin; refine wpList_grow (B := W.heap.size) _ rfl _ _ 51 rfl i0 _ 8 Tryz.underlying51 hi0 hz0 hz1 hz2 rfl (by decide) nv1 (.slice a0 k z0) (LA k) rfl Ra.out Sa.out (.slice (some ⟨V0.heap.size, 0, none⟩) 1 1) 1 [x] rfl Ta.out rfl (k + 1) (by rw [HLENa.out]) (by omega) ?_; intro a5 c5 w6 g1; obtain ⟨ha6, hn6⟩ := HIa.out.grow0 HGG.out HWZ.out g1; obtain ⟨p6, _, _⟩ := ha6.cells; have f6 : w6.frozen? ⟨G + 1 + 1 + 1, 0, none⟩ = false := free_of ha6 0; have hb6 := (g1.2.2.at_ HAB1.out (fun q => HABN.out _ q rfl)); have hb7 := ((Kp.refl (· = G + 1 + 1 + 1) w6).setCell (p := ⟨G + 1 + 1 + 1, 0, none⟩) (fun _ => rfl) (.slice a5 (k + 1) c5)).at_ hb6 HABG.out; obtain ⟨V2, hV2⟩ : ∃ V2, V2 = w6.setCell ⟨G + 1 + 1 + 1, 0, none⟩ (.slice a5 (k + 1) c5) := ⟨_, rfl⟩; rw [← hV2] at hn6 hb7; have hfold2 := hV2.symm; obtain ⟨_, _, p8⟩ := hn6.arr.cells; have b8 : V2.cell? ⟨AB, 2, none⟩ = some (.int .i64 (z : Nat)) := (by rw [cell_of hb7]; rfl); have tb := lit_m V2 3 [iv y] (n := 1) rfl (by omega); have Tb := Lib.hid tb; have kb := kp_alloc V2 (.cells #[.int .i64 (y : Nat)] 3); have HIb := Lib.hid (hn6.kept kb); have Rb := Lib.hid HIb.out.r2; have Sb := Lib.hid HIb.out.sz; clear g1 ha6 hn6 hb6 hb7 hV2 tb kb)
        | (at_builtin; refine wpList_grow (B := W.heap.size) _ rfl _ _ 51 rfl i0 _ 8 Tryz.underlying51 hi0 hz0 hz1 hz2 rfl (by decide) nv1 (.slice a2 k z2) (MA k) rfl Rb.out Sb.out (.slice (some ⟨V2.heap.size, 0, none⟩) 1 1) 1 [y] rfl Tb.out rfl (k + 1) (by rw [HLENb.out]) (by omega) ?_; intro a7 c7 w8 g1; obtain ⟨ha8, hn8⟩ := HIb.out.grow2 HGG.out HWZ.out g1; obtain ⟨_, _, p9⟩ := ha8.cells; have f9 : w8.frozen? ⟨G + 1 + 1 + 1, 2, none⟩ = false := free_of ha8 2; have HN8 := Lib.hid hn8; clear g1 ha8 hn8))
      refine ⟨⟨k + 1, a5, a7, c5, c7, by omega, by go_num, ?_⟩, by simp [intOf]; try omega⟩
      rw [HLSK.out, HMSK.out]
      exact HN8.out
    · obtain rfl : k = n := by omega
      obtain ⟨t0, t1, t2⟩ := hI.arr.cells
      obtain ⟨u0, u1, u2⟩ := hI.hat.cells
      obtain ⟨x0, x1, x2⟩ := hI.res0.cells
      obtain ⟨y0, y1, y2⟩ := hI.res1.cells
      have f0 : wr.frozen? ⟨G + 1, 0, none⟩ = false := free_of hI.res0 0
      have f1 : wr.frozen? ⟨G + 1, 1, none⟩ = false := free_of hI.res0 1
      have f2 : wr.frozen? ⟨G + 1, 2, none⟩ = false := free_of hI.res0 2
      have f3 : wr.frozen? ⟨G + 1 + 1, 0, none⟩ = false := free_of hI.res1 0
      have f4 : wr.frozen? ⟨G + 1 + 1, 1, none⟩ = false := free_of hI.res1 1
      have f5 : wr.frozen? ⟨G + 1 + 1, 2, none⟩ = false := free_of hI.res1 2
      clear hI HMR HLT HLS HMS HLL HML HL
      go_wp2_with fail
      go_region
      all_goals (go_wp2_with fail)
      have hI := HI.out
      have hm1 := ((hI.res0.set0 (.slice a0 k z0)).set1 (.slice a1 k d1)).set2 (.slice a2 k z2)
      have km1 := (((Kp.refl (· = G + 1) wr).setCell (p := ⟨G + 1, 0, none⟩) (fun _ => rfl) (.slice a0 k z0)).setCell (p := ⟨G + 1, 1, none⟩) (fun _ => rfl) (.slice a1 k d1)).setCell (p := ⟨G + 1, 2, none⟩) (fun _ => rfl) (.slice a2 k z2)
      obtain ⟨X, hX⟩ : ∃ X, X = ((wr.setCell ⟨G + 1, 0, none⟩ (.slice a0 k z0)).setCell ⟨G + 1, 1, none⟩ (.slice a1 k d1)).setCell ⟨G + 1, 2, none⟩ (.slice a2 k z2) := ⟨_, rfl⟩
      rw [← hX] at hm1 km1 ⊢
      obtain ⟨hst, hkst⟩ := (hI.res1.kp km1 (by omega)).store HH.a HH.b HH.c
      have hm2 := hm1.kp hkst.drew (by omega)
      obtain ⟨w0, w1, w2⟩ := hst.cells
      obtain ⟨q0, q1, q2⟩ := hm2.cells
      have hkk : Kp (fun k => k = G + 1 ∨ k = G + 1 + 1) wr _ := ((km1.mono (fun _ _ q => .inl q)).trans2 hkst (fun i _ q => .inr q)).drew
      have hwz := HWZ.out
      have hgg := HGG.out
      refine bodyPost_ret (v := .tuple #[.agg #[.slice a0 k z0, .slice a1 k d1, .slice a2 k z2], .agg #[.int .i64 (HH.a : Nat), .int .i64 (HH.b : Nat), .int .i64 (HH.c : Nat)]]) ?_ rfl ⟨_, _, _, rfl, (hI.r0.kp hkk (fun j q => by omega)).low (by omega), (hI.r1.kp hkk (fun j q => by omega)).low (by omega), (hI.r2.kp hkk (fun j q => by omega)).low (by omega), hI.kp.trans2 hkk (fun i hi q => by omega)⟩
      simp [results, Tryz.results39, go_sem, w0, w1, w2, q0, q1, q2]
end Go.Proofs.YtphakpikalmghaaGreat.Ma
namespace Go.Proofs.YtphakpikalmghaaGreat.Ma
open Go Go.RowKit Go.Shelf Go.ChangeMaps Go.MapKept Go.Mg Go.Mt Go.Proofs.YtphakpikalmghaaGreat.Hu Go.Proofs.YtphakpikalmghaaGreat.Bw Go.Proofs.YtphakpikalmghaaGreat.He Go.Proofs.YtphakpikalmghaaGreat.Sq Go.Proofs.YtphakpikalmghaaGreat.It

/-- The elements of a slice, wherever what is told of is kept. -/
def RdS (n₀ Bs : Nat) (W : World) (a : Option Addr) (cap m : Nat) (L O Z : Nat → Nat) : Prop :=
  (∀ V, KB n₀ Bs W V → V.cell? ⟨Bs, 0, none⟩ = some (.slice a m cap)) ∧
  (0 < m → ∃ g o, a = some ⟨g, o, none⟩ ∧ m ≤ cap ∧ ∀ V, KB n₀ Bs W V → ∀ i, i < m → V.cell? ⟨g, o + i * 3, none⟩ = some (.int .i64 (L i : Nat)) ∧ V.cell? ⟨g, o + i * 3 + 1, none⟩ = some (.int .i64 (O i : Nat)) ∧ V.cell? ⟨g, o + i * 3 + 2, none⟩ = some (.int .i64 (Z i : Nat)))
abbrev encS (m : Nat) (L O Z : Nat → Nat) (x : Nat) : Array Value := #[.int .i64 ((m - 1 - x : Nat) : Int), .agg #[.int .i64 (L (m - 1 - x) : Nat), .int .i64 (O (m - 1 - x) : Nat), .int .i64 (Z (m - 1 - x) : Nat)]]
set_option maxRecDepth 100000 in
set_option maxHeartbeats 2000000 in
theorem backS1_in (F : Fence) (n : Nat) (h7 : F.fn 76) (hro : F.round = none) (hn : 1 ≤ n) (lp Bs n₀ cap : Nat) (a : Option Addr) (m : Nat) (L O Z : Nat → Nat) (hreach : m ≤ 100000) (J Jx : List Nat → World → Prop)
    (hY : ∀ pre x W, J pre W → pre.length < m → YieldAt F (n - 1) Tryz.prog lp (encS m L O Z x) W fun e W' =>
      (e = .returned (.bool true) ∧ J (pre ++ [x]) W' ∧ KB n₀ Bs W W') ∨ (e = .returned (.bool false) ∧ Jx (pre ++ [x]) W'))
    (W : World) (hR : RdS n₀ Bs W a cap m L O Z) (h0 : J [] W) :
    CallsIn F n Tryz.prog 76 #[.func (.yield lp) #[] #[], .pointer (some ⟨Bs, 0, none⟩)] W fun e W' => (∃ v, e = .returned v) ∧
      ((∃ ys, ys = upto id m ∧ J ys W') ∨ (∃ pre, (∃ k, k ≤ m ∧ pre = upto id k) ∧ Jx pre W')) := by
  have HRB := Lib.hid hR.1
  have HRC := Lib.hid hR.2
  have d0 := hR.1 _ (KB.refl _ _ _)
  clear hR
  refine callsIn_of_wp Tryz.func76 rfl h7 ?_ hro
  simp only [Tryz.ntmps76, List.size_toArray, List.length_cons, List.length_nil, Nat.reduceAdd, Nat.reduceSub, Array.replicate_succ, Array.replicate_zero, List.push_toArray, List.append_toArray, List.nil_append, List.cons_append]
  gi_wp2
  gi_loopw [3] (fun i wr => ∃ k : Nat, k ≤ m ∧ i = .int .i64 ((m : Int) - 1 - (k : Nat)) ∧ J (upto id k) wr ∧ KB n₀ Bs W wr)
    (fun i _ => (intOf i + 1).toNat)
  case atStart => exact ⟨0, Nat.zero_le _, by simp, h0, KB.refl _ _ _⟩
  case round =>
    obtain ⟨k, hk, rfl, hJs, hnx⟩ := hrel
    have hcx := HRB.out _ hnx
    by_cases hlt : k < m
    · obtain ⟨q, hq⟩ : ∃ q, q = m - 1 - k := ⟨_, rfl⟩
      have hqn : q < m := by omega
      have hqi : ((m : Int) - 1 - (k : Nat)) = (q : Nat) := by omega
      rw [hqi]
      have HQI := Lib.hid hqi
      have HQE := Lib.hid hq
      clear hqi hq
      obtain ⟨g, o, rfl, hcap, hcells⟩ := HRC.out (by omega)
      obtain ⟨hc0, hc1, hc2⟩ := hcells _ hnx q hqn
      obtain ⟨fn, tmps, assign, body, hy, hR⟩ := hY _ k wr hJs (by rw [upto_length]; exact hlt)
      dsimp only [encS] at hy
      rw [← HQE.out] at hy
      clear hcells
      gi_wp2
      refine hR.mono ?_
      rintro e W3 (⟨rfl, hJ3, hk3⟩ | ⟨rfl, hJx3⟩)
      · gi_wp2
        go_roundw
        case rel => exact ⟨k + 1, by omega, by have := HQI.out; congr 1; omega, by rw [upto_succ]; exact hJ3, hnx.trans hk3⟩
        case measure => simp [intOf]; try omega
      · gi_wp2
        refine bodyPost_ret (results_none rfl _ _ _) rfl ?_
        exact ⟨⟨_, rfl⟩, .inr ⟨_, ⟨k + 1, by omega, by rw [upto_succ]; rfl⟩, hJx3⟩⟩
    · obtain rfl : k = m := by omega
      have hi1 : ((k : Int) - 1 - (k : Nat)) = -1 := by omega
      rw [hi1]
      gi_wp2
      go_end0
      exact ⟨⟨_, rfl⟩, .inl ⟨_, rfl, hJs⟩⟩
theorem backS_stops (F : Fence) (n : Nat) (h7 : F.fn 76) (hro : F.round = none) (hn : 1 ≤ n) (Bs n₀ cap : Nat) (a : Option Addr) (m : Nat) (L O Z : Nat → Nat) (hreach : m ≤ 100000) (w : World) (hR : RdS n₀ Bs w a cap m L O Z) :
    SeqStopsK F n Tryz.prog 76 #[.pointer (some ⟨Bs, 0, none⟩)] (encS m L O Z) (KB n₀ Bs) (fun ys => ys = upto id m) (fun pre => ∃ k, k ≤ m ∧ pre = upto id k) m w := fun lp J Jx W hW _ _ hY h0 =>
  backS1_in F n h7 hro hn lp Bs n₀ cap a m L O Z hreach J Jx hY W ⟨fun V hV => hR.1 V ((KB.of_below hW).trans hV), fun h => by
    obtain ⟨g, o, e, h1, h2⟩ := hR.2 h
    exact ⟨g, o, e, h1, fun V hV => h2 V ((KB.of_below hW).trans hV)⟩⟩ h0
set_option maxHeartbeats 1000000 in
theorem backS_in (F : Fence) (n : Nat) (h5 : F.fn 42) (hro : F.round = none) (a : Option Addr) (len cap : Nat) (w : World) :
    CallsIn F n Tryz.prog 42 #[.slice a len cap] w fun e w' => e = .returned (.func (.func 76) #[] #[.pointer (some ⟨w.heap.size, 0, none⟩)]) ∧ w' = w.alloc (.cells #[.slice a len cap] 36) := by
  refine callsIn_of_wp Tryz.func42 rfl h5 ?_ hro
  simp only [Tryz.ntmps42, List.size_toArray, List.length_cons, List.length_nil, Nat.reduceAdd, Nat.reduceSub, Array.replicate_succ, Array.replicate_zero, List.push_toArray, List.append_toArray, List.nil_append, List.cons_append]
  gi_wp2
  go_ret
  exact ⟨rfl, rfl⟩
theorem backS_c (a : Option Addr) (len cap : Nat) (w : World) :
    Calls Tryz.prog 42 #[.slice a len cap] w fun e w' => e = .returned (.func (.func 76) #[] #[.pointer (some ⟨w.heap.size, 0, none⟩)]) ∧ w' = w.alloc (.cells #[.slice a len cap] 36) :=
  callsIn_wide.1 (backS_in Fence.wide 3 trivial rfl a len cap w)

/-- The elements of a slice, wherever what is told of is kept. -/
def RdV (n₀ Bs : Nat) (W : World) (a : Option Addr) (cap m : Nat) (R : Nat → Value) : Prop :=
  (∀ V, KB n₀ Bs W V → V.cell? ⟨Bs, 0, none⟩ = some (.slice a m cap)) ∧
  (0 < m → ∃ g o, a = some ⟨g, o, none⟩ ∧ m ≤ cap ∧ ∀ V, KB n₀ Bs W V → ∀ i, i < m → V.cell? ⟨g, o + i, none⟩ = some (R i))
abbrev encV (m : Nat) (R : Nat → Value) (x : Nat) : Array Value := #[.int .i64 ((m - 1 - x : Nat) : Int), R (m - 1 - x)]
set_option maxRecDepth 100000 in
set_option maxHeartbeats 2000000 in
theorem backV1_in (F : Fence) (n : Nat) (h7 : F.fn 77) (hro : F.round = none) (hn : 1 ≤ n) (lp Bs n₀ cap : Nat) (a : Option Addr) (m : Nat) (R : Nat → Value) (hreach : m ≤ 100000) (J Jx : List Nat → World → Prop)
    (hY : ∀ pre x W, J pre W → pre.length < m → YieldAt F (n - 1) Tryz.prog lp (encV m R x) W fun e W' =>
      (e = .returned (.bool true) ∧ J (pre ++ [x]) W' ∧ KB n₀ Bs W W') ∨ (e = .returned (.bool false) ∧ Jx (pre ++ [x]) W'))
    (W : World) (hR : RdV n₀ Bs W a cap m R) (h0 : J [] W) :
    CallsIn F n Tryz.prog 77 #[.func (.yield lp) #[] #[], .pointer (some ⟨Bs, 0, none⟩)] W fun e W' => (∃ v, e = .returned v) ∧
      ((∃ ys, ys = upto id m ∧ J ys W') ∨ (∃ pre, (∃ k, k ≤ m ∧ pre = upto id k) ∧ Jx pre W')) := by
  have HRB := Lib.hid hR.1
  have HRC := Lib.hid hR.2
  have d0 := hR.1 _ (KB.refl _ _ _)
  clear hR
  refine callsIn_of_wp Tryz.func77 rfl h7 ?_ hro
  simp only [Tryz.ntmps77, List.size_toArray, List.length_cons, List.length_nil, Nat.reduceAdd, Nat.reduceSub, Array.replicate_succ, Array.replicate_zero, List.push_toArray, List.append_toArray, List.nil_append, List.cons_append]
  gi_wp2
  gi_loopw [3] (fun i wr => ∃ k : Nat, k ≤ m ∧ i = .int .i64 ((m : Int) - 1 - (k : Nat)) ∧ J (upto id k) wr ∧ KB n₀ Bs W wr)
    (fun i _ => (intOf i + 1).toNat)
  case atStart => exact ⟨0, Nat.zero_le _, by simp, h0, KB.refl _ _ _⟩
  case round =>
    obtain ⟨k, hk, rfl, hJs, hnx⟩ := hrel
    have hcx := HRB.out _ hnx
    by_cases hlt : k < m
    · obtain ⟨q, hq⟩ : ∃ q, q = m - 1 - k := ⟨_, rfl⟩
      have hqn : q < m := by omega
      have hqi : ((m : Int) - 1 - (k : Nat)) = (q : Nat) := by omega
      rw [hqi]
      have HQI := Lib.hid hqi
      have HQE := Lib.hid hq
      clear hqi hq
      obtain ⟨g, o, rfl, hcap, hcells⟩ := HRC.out (by omega)
      have hcq := hcells _ hnx q hqn
      obtain ⟨fn, tmps, assign, body, hy, hR⟩ := hY _ k wr hJs (by rw [upto_length]; exact hlt)
      dsimp only [encV] at hy
      rw [← HQE.out] at hy
      clear hcells
      gi_wp2
      refine hR.mono ?_
      rintro e W3 (⟨rfl, hJ3, hk3⟩ | ⟨rfl, hJx3⟩)
      · gi_wp2
        go_roundw
        case rel => exact ⟨k + 1, by omega, by have := HQI.out; congr 1; omega, by rw [upto_succ]; exact hJ3, hnx.trans hk3⟩
        case measure => simp [intOf]; try omega
      · gi_wp2
        refine bodyPost_ret (results_none rfl _ _ _) rfl ?_
        exact ⟨⟨_, rfl⟩, .inr ⟨_, ⟨k + 1, by omega, by rw [upto_succ]; rfl⟩, hJx3⟩⟩
    · obtain rfl : k = m := by omega
      have hi1 : ((k : Int) - 1 - (k : Nat)) = -1 := by omega
      rw [hi1]
      gi_wp2
      go_end0
      exact ⟨⟨_, rfl⟩, .inl ⟨_, rfl, hJs⟩⟩
theorem backV_stops (F : Fence) (n : Nat) (h7 : F.fn 77) (hro : F.round = none) (hn : 1 ≤ n) (Bs n₀ cap : Nat) (a : Option Addr) (m : Nat) (R : Nat → Value) (hreach : m ≤ 100000) (w : World) (hR : RdV n₀ Bs w a cap m R) :
    SeqStopsK F n Tryz.prog 77 #[.pointer (some ⟨Bs, 0, none⟩)] (encV m R) (KB n₀ Bs) (fun ys => ys = upto id m) (fun pre => ∃ k, k ≤ m ∧ pre = upto id k) m w := fun lp J Jx W hW _ _ hY h0 =>
  backV1_in F n h7 hro hn lp Bs n₀ cap a m R hreach J Jx hY W ⟨fun V hV => hR.1 V ((KB.of_below hW).trans hV), fun h => by
    obtain ⟨g, o, e, h1, h2⟩ := hR.2 h
    exact ⟨g, o, e, h1, fun V hV => h2 V ((KB.of_below hW).trans hV)⟩⟩ h0
set_option maxHeartbeats 1000000 in
theorem backV_in (F : Fence) (n : Nat) (h5 : F.fn 43) (hro : F.round = none) (a : Option Addr) (len cap : Nat) (w : World) :
    CallsIn F n Tryz.prog 43 #[.slice a len cap] w fun e w' => e = .returned (.func (.func 77) #[] #[.pointer (some ⟨w.heap.size, 0, none⟩)]) ∧ w' = w.alloc (.cells #[.slice a len cap] 75) := by
  refine callsIn_of_wp Tryz.func43 rfl h5 ?_ hro
  simp only [Tryz.ntmps43, List.size_toArray, List.length_cons, List.length_nil, Nat.reduceAdd, Nat.reduceSub, Array.replicate_succ, Array.replicate_zero, List.push_toArray, List.append_toArray, List.nil_append, List.cons_append]
  gi_wp2
  go_ret
  exact ⟨rfl, rfl⟩
theorem backV_c (a : Option Addr) (len cap : Nat) (w : World) :
    Calls Tryz.prog 43 #[.slice a len cap] w fun e w' => e = .returned (.func (.func 77) #[] #[.pointer (some ⟨w.heap.size, 0, none⟩)]) ∧ w' = w.alloc (.cells #[.slice a len cap] 75) :=
  callsIn_wide.1 (backV_in Fence.wide 3 trivial rfl a len cap w)

end Go.Proofs.YtphakpikalmghaaGreat.Ma
namespace Go.Proofs.YtphakpikalmghaaGreat.Ma
open Go Go.RowKit Go.Shelf Go.ChangeMaps Go.MapKept Go.Mg Go.Mt Go.Proofs.YtphakpikalmghaaGreat.Hu Go.Proofs.YtphakpikalmghaaGreat.Bw Go.Proofs.YtphakpikalmghaaGreat.He Go.Proofs.YtphakpikalmghaaGreat.Sq Go.Proofs.YtphakpikalmghaaGreat.It

/-- The rows, by their number. -/
def F3 (l : List Sq) (h : H3) (j : Nat) : Nat → Nat := if j = 0 then lit l else if j = 1 then off l h else mor l
theorem F3_lt {l : List Sq} (hm : May l) (h : H3) (j i : Nat) : F3 l h j i < 4096 := by
  unfold F3
  split
  · have := lit_le hm i; omega
  · split
    · have := off_le hm h i; omega
    · have := mor_le hm i; omega
/-- The bits of the steps that came. -/
def exP (l : List Sq) (h : H3) (pre : List Nat) : List Bool := pre.flatMap fun k => xb (mor l (l.length - 1 - k)) ++ xb (off l h (l.length - 1 - k)) ++ xb (lit l (l.length - 1 - k))
theorem exP_all (l : List Sq) (h : H3) : ∀ j, exP l h (upto id j) = exB l h j
  | 0 => rfl
  | j + 1 => by
    have ih := exP_all l h j
    unfold exP at ih ⊢
    rw [upto_succ, List.flatMap_append, ih]
    simp [exB]
theorem exP_snoc (l : List Sq) (h : H3) (pre : List Nat) (k : Nat) : exP l h (pre ++ [k]) = exP l h pre ++ (xb (mor l (l.length - 1 - k)) ++ xb (off l h (l.length - 1 - k)) ++ xb (lit l (l.length - 1 - k))) := by simp [exP]
/-- .. and of the rows of one. -/
def inP (l : List Sq) (h : H3) (B : List Bool) (i : Nat) (pre : List Nat) : List Bool := B ++ pre.flatMap fun k => xb (F3 l h (3 - 1 - k) i)
theorem inP_snoc (l : List Sq) (h : H3) (B : List Bool) (i : Nat) (pre : List Nat) (k : Nat) : inP l h B i (pre ++ [k]) = inP l h B i pre ++ xb (F3 l h (3 - 1 - k) i) := by simp [inP]
theorem inP_all (l : List Sq) (h : H3) (B : List Bool) (i : Nat) : inP l h B i (upto id 3) = B ++ (xb (mor l i) ++ xb (off l h i) ++ xb (lit l i)) := by
  have : upto id 3 = [0, 1, 2] := rfl
  rw [this]
  simp [inP, F3]
theorem exP_len {l : List Sq} (hm : May l) (h : H3) : ∀ pre, (exP l h pre).length ≤ 33 * pre.length := by
  intro pre
  induction pre with
  | nil => simp [exP]
  | cons k pre ih =>
    have h1 := xb_len (v := mor l (l.length - 1 - k)) (by have := mor_le hm (l.length - 1 - k); omega)
    have h2 := xb_len (v := off l h (l.length - 1 - k)) (by have := off_le hm h (l.length - 1 - k); omega)
    have h3 := xb_len (v := lit l (l.length - 1 - k)) (by have := lit_le hm (l.length - 1 - k); omega)
    simp only [exP, List.flatMap_cons, List.length_append, List.length_cons] at ih ⊢
    omega
theorem inP_len {l : List Sq} (hm : May l) (h : H3) (B : List Bool) (i : Nat) : ∀ pre, (inP l h B i pre).length ≤ B.length + 11 * pre.length := by
  intro pre
  induction pre with
  | nil => simp [inP]
  | cons k pre ih =>
    have h1 := xb_len (v := F3 l h (3 - 1 - k) i) (F3_lt hm h _ _)
    simp only [inP, List.flatMap_cons, List.length_append, List.length_cons] at ih h1 ⊢
    omega
/-- Between two rounds of the outer loop. -/
structure PkI (W0 : World) (p : Nat) (B : List Bool) (W : World) : Prop where
  kp : Kp (· = p) W0 W
  wr : ∃ F a c, WrAt 101 F W p a c B ∧ ∀ k, F k → k = p ∨ W0.heap.size ≤ k
theorem PkI.own {β : Type} (W0 : World) (p : Nat) (f : β → List Bool) : OwnFrom W0.heap.size (fun s W => PkI W0 p (f s) W) := fun s A B row h hg hr =>
  ⟨h.kp.grown hg (fun k hk e => by have := (hr k e).1; omega), by
    obtain ⟨F, a, c, h1, h2⟩ := h.wr
    exact ⟨F, a, c, WrAt.grown h1 hg (fun r e => (hr r e).2), h2⟩⟩
/-- Between two rounds of the inner loop. -/
structure PkJ (W0 U0 : World) (p n₀ Bs gi bi i : Nat) (B : List Bool) (W : World) : Prop where
  kp : Kp (· = p) W0 W
  kf : KeepsFrom W0.heap.size U0 W
  kb : KB n₀ Bs U0 W
  ci : W.heap[gi]? = some (.cells #[.int .i64 (i : Nat)] 3 (0, 0))
  wr : ∃ F a c, WrAt 101 F W p a c B ∧ ∀ k, F k → (k = p ∨ W0.heap.size ≤ k) ∧ k ≠ gi ∧ k ≠ bi
theorem PkJ.own {β : Type} (W0 U0 : World) (p n₀ Bs gi bi i : Nat) (hU : W0.heap.size ≤ U0.heap.size) (f : β → List Bool) : OwnFrom U0.heap.size (fun s W => PkJ W0 U0 p n₀ Bs gi bi i (f s) W) := fun s A B row h hg hr =>
  ⟨h.kp.grown hg (fun k hk e => by have := (hr k e).1; omega), ownFrom_keepsFrom (B := W0.heap.size) (β := Unit) (Nat.le_refl _) () A B row h.kf hg hr,
    ⟨Nat.le_trans h.kb.size hg.size, fun k hk hn => by
      refine (hg.block k (Nat.lt_of_lt_of_le hk h.kb.size) (fun e => ?_)).trans (h.kb.block k hk hn)
      have := (hr k e.symm).1; omega⟩,
    (grownBy_keeps_cells hg (fun r e => (hr r e).2) h.ci rfl).trans h.ci, by
    obtain ⟨F, a, c, h1, h2⟩ := h.wr
    exact ⟨F, a, c, WrAt.grown h1 hg (fun r e => (hr r e).2), h2⟩⟩
/-- A Put's step. -/
theorem PkJ.step {W0 U0 W V2 V3 : World} {p n₀ Bs gi bi i : Nat} {B B' : List Bool} {F : Nat → Prop} {a : Option Addr} {c : Nat} (h : PkJ W0 U0 p n₀ Bs gi bi i B W) (hw : WrAt 101 F W p a c B) (hF : ∀ k, F k → (k = p ∨ W0.heap.size ≤ k) ∧ k ≠ gi ∧ k ≠ bi)
    (hn : n₀ ≤ p) (hB : Bs ≠ p) (hBs : Bs < W0.heap.size) (hp : p < W0.heap.size) (hgi : gi < U0.heap.size) (hbi : bi < U0.heap.size)
    (hk2 : Kp (fun _ => False) W V2) (hV : WrPost 101 (fun k => k = p ∨ (Value.slice a B.length c).ownBlock = some k) V2 p B' V3) (hpg : p ≠ gi ∧ p ≠ bi) :
    KeepsFrom U0.heap.size W V3 ∧ KB p bi W V3 ∧ PkJ W0 U0 p n₀ Bs gi bi i B' V3 := by
  obtain ⟨F', a', c', h1, h2, h3⟩ := hV
  have hmin : ∀ k, (k = p ∨ (Value.slice a B.length c).ownBlock = some k) → (k = p ∨ W0.heap.size ≤ k) ∧ k ≠ gi ∧ k ≠ bi := by
    rintro k (rfl | q)
    · exact ⟨.inl rfl, hpg⟩
    · exact hF k (hw.ne k q).1
  have k3 : Kp (fun k => k = p ∨ (Value.slice a B.length c).ownBlock = some k) W V3 := (hk2.mono (fun _ _ q => q.elim)).trans2 h2 (fun i _ q => q)
  have hcell : ∀ k, (k = p ∨ (Value.slice a B.length c).ownBlock = some k) → ∃ o, W.heap[k]? = some o ∧ o.isCells = true := by
    rintro k (rfl | q)
    · exact ⟨_, hw.hp, rfl⟩
    · exact OwnR.cells hw.own q
  refine ⟨Kp.keeps k3 hcell _, Kp.kb k3 (fun k q => ?_), h.kp.trans2 k3 (fun i hi q => ?_), h.kf.trans (Kp.keeps k3 hcell _), h.kb.trans (Kp.kb k3 (fun k q => ?_)), k3.at_ h.ci (fun q => (hmin _ q).2.1 rfl), F', a', c', h1, fun k q => ?_⟩
  · have := hmin k q; omega
  · have := hmin i q; omega
  · have := hmin k q; omega
  · rcases h3 k q with q | q
    · exact hmin k q
    · have := h.kp.size; have := h.kf.size; have := hk2.size
      exact ⟨.inr (by omega), by omega, by omega⟩
/-- The bytes ahead of the extras, with k rows. -/
def accB (l : List Sq) (h : H3) (n : Nat) : Nat → List UInt8
  | 0 => two n
  | k + 1 => accB l h n k ++ rowB (F3 l h k) n
theorem rowB_le (v : Nat → Nat) (n : Nat) : (rowB v n).length ≤ 6 * n + 28 := by
  rw [rowB_len]
  have := packO_le (v := v) (n := n)
  omega
theorem accB_all (l : List Sq) (h : H3) (n : Nat) : accB l h n 3 = two n ++ rowB (lit l) n ++ rowB (off l h) n ++ rowB (mor l) n := rfl
theorem xb_eq (v : Nat) : xb v = bitsOf (ex v) (nb v) := rfl
theorem nb_le {v : Nat} (hv : v < 4096) : nb v ≤ 11 := by
  have := cd_le hv
  unfold nb; omega
end Go.Proofs.YtphakpikalmghaaGreat.Ma
