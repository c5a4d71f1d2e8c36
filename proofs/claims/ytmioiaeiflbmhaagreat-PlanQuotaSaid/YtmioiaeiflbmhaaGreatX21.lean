/- seqs: slices.Index of the three last offsets. seqs: the program's Offsets. fse: the program's isLog, sum. fse: slices.ContainsFunc of counts that may be. -/
import Derived.Test.YtmioiaeiflbmhaaGreatX20
import Derived.Test.YtmioiaeiflbmhaaGreatX07
namespace Go.Proofs.YtmioiaeiflbmhaaGreat.Ma
open Go Go.RowKit Go.ChangeMaps Go.MapKept Go.Mg Go.Mt Go.Proofs.YtmioiaeiflbmhaaGreat.Hu Go.Proofs.YtmioiaeiflbmhaaGreat.Bw Go.Proofs.YtmioiaeiflbmhaaGreat.He Go.Proofs.YtmioiaeiflbmhaaGreat.Sq
def ixh (h : H3) (q : Nat) : Int := if h.a = q then 0 else if h.b = q then 1 else if h.c = q then 2 else -1
theorem ixh_ofv (h : H3) (q : Nat) : (ixh h q < 0 → ofv h q = q + 2) ∧ (0 ≤ ixh h q → ixh h q = ((ofv h q : Nat) : Int) ∧ ofv h q < 3) := by
  unfold ixh ofv
  repeat' split
  all_goals (constructor <;> intro hh <;> first | omega | (constructor <;> omega))
theorem idx3 (a b c q : Nat) : Lib.idxOf [(a : Int), (b : Int), (c : Int)] (q : Int) = ixh ⟨a, b, c⟩ q := by
  unfold ixh
  simp only []
  by_cases h1 : a = q
  · rw [if_pos h1, ← List.take_of_length_le (l := [(a : Int), (b : Int), (c : Int)]) (i := 3) (by simp), Lib.idxOf_hit _ 3 0 _ (by omega) (by simp) (by simp [h1]) (fun j hj => by omega)]
    rfl
  · rw [if_neg h1]
    by_cases h2 : b = q
    · rw [if_pos h2, ← List.take_of_length_le (l := [(a : Int), (b : Int), (c : Int)]) (i := 3) (by simp), Lib.idxOf_hit _ 3 1 _ (by omega) (by simp) (by simp [h2]) (fun j hj => by
        obtain rfl : j = 0 := by omega
        simp; omega)]
      rfl
    · rw [if_neg h2]
      by_cases h3 : c = q
      · rw [if_pos h3, ← List.take_of_length_le (l := [(a : Int), (b : Int), (c : Int)]) (i := 3) (by simp), Lib.idxOf_hit _ 3 2 _ (by omega) (by simp) (by simp [h3]) (fun j hj => by
          have : j = 0 ∨ j = 1 := by omega
          rcases this with rfl | rfl
          · simp; omega
          · simp; omega)]
        rfl
      · rw [if_neg h3, ← List.take_of_length_le (l := [(a : Int), (b : Int), (c : Int)]) (i := 3) (by simp), Lib.idxOf_miss _ 3 _ (fun j hj => by
          have : j = 0 ∨ j = 1 ∨ j = 2 := by omega
          rcases this with rfl | rfl | rfl
          · simp; omega
          · simp; omega
          · simp; omega)]
theorem index3_p (w : World) (g : Nat) (h : H3) (q : Nat) (hh : HAt w g h) : Calls Tryz.prog 198 #[.slice (some ⟨g, 0, none⟩) 3 3, .int .i64 (q : Nat)] w fun e w' => e = .returned (.int .i64 (ixh h q)) ∧ w' = w := by
  obtain ⟨a, b, c⟩ := h
  obtain ⟨h0, h1, h2⟩ := hh.cells
  have h := Any.slices_Index_int Tryz.lays108 g 0 3 3 [(a : Int), (b : Int), (c : Int)] (q : Int) w (by simp) (by omega) (fun j hj => by
    simp only [List.length_cons, List.length_nil] at hj
    have : j = 0 ∨ j = 1 ∨ j = 2 := by omega
    rcases this with rfl | rfl | rfl
    · exact h0
    · exact h1
    · exact h2)
  refine Calls.mono h ?_
  rintro e w' ⟨rfl, rfl⟩
  refine ⟨?_, rfl⟩
  rw [← idx3]
  rfl
end Go.Proofs.YtmioiaeiflbmhaaGreat.Ma
namespace Go.Proofs.YtmioiaeiflbmhaaGreat.Ma
open Go Go.RowKit Go.ChangeMaps Go.MapKept Go.Mg Go.Mt Go.Proofs.YtmioiaeiflbmhaaGreat.Hu Go.Proofs.YtmioiaeiflbmhaaGreat.Bw Go.Proofs.YtmioiaeiflbmhaaGreat.He Go.Proofs.YtmioiaeiflbmhaaGreat.Sq
set_option maxRecDepth 100000 in
set_option maxHeartbeats 4000000 in
theorem offsets_p (w : World) (l : List Sq) (al : Option Addr) (cl : Nat) (hl : SlR w 3 (.slice al l.length cl) l.length (l.flatMap sqc)) (hm : May l) (h : H3) :
    Calls Tryz.prog 172 #[.slice al l.length cl, hv3 h] w (OffPost w l h) := by
  obtain ⟨i0, hi0, hz0, hz1, hz2⟩ := info_parts infoI_
  have hlen := hm.1
  have HL : Hid (0 < l.length → ∃ g o, al = some ⟨g, o, none⟩ ∧ g < w.heap.size ∧ l.length ≤ cl ∧ ∀ V, Kp (fun _ => False) w V → ∀ i, i < l.length → V.cell? ⟨g, o + i * 3, none⟩ = some (.int .i64 (lit l i : Nat)) ∧ V.cell? ⟨g, o + i * 3 + 1, none⟩ = some (.int .i64 (ofs l i : Nat)) ∧ V.cell? ⟨g, o + i * 3 + 2, none⟩ = some (.int .i64 ((sqAt l i).len : Nat))) := Lib.hid (fun h0 => by
    obtain ⟨g, o, e, hg, hc, hs⟩ := sq_at hl h0
    exact ⟨g, o, e, hg, hc, fun V hk i hi => ⟨(hk.cell (p := ⟨g, o + i * 3, none⟩) hg (fun q => q)).trans (hs i hi).1, (hk.cell (p := ⟨g, o + i * 3 + 1, none⟩) hg (fun q => q)).trans (hs i hi).2.1, (hk.cell (p := ⟨g, o + i * 3 + 2, none⟩) hg (fun q => q)).trans (hs i hi).2.2⟩⟩)
  have HO := Lib.hid (ofs_le hm)
  have HV := Lib.hid (vals_succ l h)
  have HVL := Lib.hid (vals_len l h)
  have HNX : Hid (∀ i, hs (ofs l) h (i + 1) = mv (hs (ofs l) h i) (off l h i) (ofs l i)) := Lib.hid (fun i => rfl)
  have HOF : Hid (∀ i, off l h i = ofv (hs (ofs l) h i) (ofs l i)) := Lib.hid (fun i => rfl)
  have H0 : Hid (hs (ofs l) h 0 = h ∧ vals l h 0 = []) := Lib.hid ⟨rfl, rfl⟩
  unfold OffPost
  obtain ⟨n, hn⟩ : ∃ n, n = l.length := ⟨_, rfl⟩
  rw [← hn] at HL hlen ⊢
  obtain ⟨VA, hVA⟩ : ∃ VA, VA = vals l h := ⟨_, rfl⟩
  obtain ⟨HH, hHH⟩ : ∃ HH, HH = hs (ofs l) h := ⟨_, rfl⟩
  rw [← hVA] at HV HVL H0 ⊢
  rw [← hHH] at HNX HOF H0 ⊢
  obtain ⟨OF, hOF⟩ : ∃ OF, OF = ofs l := ⟨_, rfl⟩
  rw [← hOF] at HL HO HNX HOF
  obtain ⟨VO, hVO⟩ : ∃ VO, VO = off l h := ⟨_, rfl⟩
  rw [← hVO] at HV HNX HOF
  clear hl hm hn hVA hHH hOF hVO
  obtain ⟨ha, hb, hc⟩ := h
  unfold hv3
  go_enter Tryz.func172, Tryz.ntmps172
  go_wp2_with fail
  obtain ⟨W, hW⟩ : ∃ W, W = (w.alloc (.cells #[.int .i64 (ha : Nat), .int .i64 (hb : Nat), .int .i64 (hc : Nat)] 82)).alloc (.cells #[.int .i64 0, .int .i64 0, .int .i64 0] 82) := ⟨_, rfl⟩
  have hws : W.heap.size = w.heap.size + 2 := by rw [hW]; simp
  have hkW : Kp (fun _ => False) w W := by rw [hW]; exact (kp_alloc _ _).trans (kp_alloc _ _)
  have hG0 : HAt W w.heap.size ⟨ha, hb, hc⟩ := by
    rw [hW]; exact (kp_alloc _ _).at_ (alloc_at w _) (fun q => q)
  have hR0 : HAt W (w.heap.size + 1) ⟨0, 0, 0⟩ := by
    rw [hW]; have := alloc_at (w.alloc (.cells #[.int .i64 (ha : Nat), .int .i64 (hb : Nat), .int .i64 (hc : Nat)] 82)) (.cells #[.int .i64 0, .int .i64 0, .int .i64 0] 82)
    rw [World.size_alloc] at this
    exact this
  rw [← hW]
  obtain ⟨G, hG⟩ : ∃ G, G = w.heap.size := ⟨_, rfl⟩
  rw [← hG] at hG0 hR0 ⊢
  have HW := Lib.hid hws
  have HKW := Lib.hid hkW
  have HG0 := Lib.hid hG0
  have HR0 := Lib.hid hR0
  have HGE := Lib.hid hG
  clear hW hws hkW hG0 hR0 hG
  go_loopw [6, 12] (fun v i wr => ∃ k : Nat, k ≤ n ∧ i = .int .i64 k ∧ RowI W.heap.size wr v (VA k) ∧ HAt wr G (HH k) ∧ HAt wr (G + 1) ⟨0, 0, 0⟩ ∧ Kp (fun _ => False) w wr ∧ W.heap.size ≤ wr.heap.size) (fun _ i _ => n - (intOf i).toNat)
  case atStart => exact ⟨0, Nat.zero_le _, rfl, by rw [H0.out.2]; exact RowM.nil _ _ _, by rw [H0.out.1]; exact HG0.out, HR0.out, HKW.out, Nat.le_refl _⟩
  case round =>
    clear H0 HG0 HR0
    obtain ⟨k, hk, rfl, hrow, hat, hres, hkw, hsz⟩ := hrel
    obtain ⟨av, cv, rfl, hown, hbeyond⟩ := hrow
    have HROW : Hid (RowI W.heap.size wr (.slice av (VA k).length cv) (VA k)) := Lib.hid ⟨av, cv, rfl, hown, hbeyond⟩
    have hvl := HVL.out k
    rw [hvl] at HROW ⊢
    have HVK := Lib.hid hvl
    have HAT := Lib.hid hat
    have HRES := Lib.hid hres
    have HKR := Lib.hid hkw
    have HSZ := Lib.hid hsz
    clear hown hbeyond hvl hat hres hkw hsz
    by_cases hlt : k < n
    · obtain ⟨g, o, rfl, hgs, hcl, hcc⟩ := HL.out (by omega)
      obtain ⟨d0, d1, d2⟩ := hcc _ HKR.out k hlt
      have ho := HO.out k
      have hof := HOF.out k
      have hnx := HNX.out k
      have hva := HV.out k
      obtain ⟨q, hq⟩ : ∃ q, q = OF k := ⟨_, rfl⟩
      obtain ⟨y, hy⟩ : ∃ y, y = VO k := ⟨_, rfl⟩
      obtain ⟨h3, hh3⟩ : ∃ h3, h3 = HH k := ⟨_, rfl⟩
      obtain ⟨x, hx⟩ : ∃ x, x = lit l k := ⟨_, rfl⟩
      obtain ⟨z, hz⟩ : ∃ z, z = (sqAt l k).len := ⟨_, rfl⟩
      rw [← hq] at d1 ho hof hnx
      rw [← hx] at d0
      rw [← hz] at d2
      rw [← hy] at hof hnx hva
      rw [← hh3] at hof hnx HAT
      have hix := ixh_ofv h3 q
      rw [← hof] at hix
      have HNXK := Lib.hid hnx
      have HVAK := Lib.hid hva
      obtain ⟨V1, hV1⟩ : ∃ V1, V1 = wr.alloc (.cells #[.int .i64 (x : Nat), .int .i64 (q : Nat), .int .i64 (z : Nat)] 186) := ⟨_, rfl⟩
      have hk1 : Kp (fun _ => False) wr V1 := by rw [hV1]; exact kp_alloc _ _
      obtain ⟨AB, hAB⟩ : ∃ AB, AB = wr.heap.size := ⟨_, rfl⟩
      have hAB1 : AB < V1.heap.size := by rw [hV1, hAB]; simp
      have hcell : V1.cell? ⟨AB, 1, none⟩ = some (.int .i64 (q : Nat)) := by rw [hV1, hAB, cell_of (alloc_at wr _)]; rfl
      have CB := Lib.hid (fun V (hV : Kp (fun b => b ≠ AB) V1 V) => (hV.cell (p := ⟨AB, 1, none⟩) hAB1 (fun q => q rfl)).trans hcell)
      have CB0 := Lib.hid (fun V (hV : Kp (fun _ => False) V1 V) => CB.out V (hV.mono (fun _ _ q => q.elim)))
      have HA1 := Lib.hid (fun V (hV : Kp (fun _ => False) V1 V) => HAT.out.kp (hk1.trans hV) (fun q => q))
      have IX := Lib.hid (fun V hV => index3_p V G h3 q (HA1.out V hV))
      have K1 := Lib.hid (HKR.out.trans hk1)
      have R1 := Lib.hid (HROW.out.kp0 hk1)
      have E1 := Lib.hid (HRES.out.kp hk1 (fun q => q))
      have S1 := Lib.hid (Nat.le_trans HSZ.out hk1.size)
      have HV1 := Lib.hid hV1
      have HABE := Lib.hid hAB
      have HNG : Hid (AB ≠ G ∧ G < W.heap.size ∧ W.heap.size ≤ AB) := Lib.hid (by have := HGE.out; have := HW.out; have := HSZ.out; omega)
      obtain ⟨J, hJ⟩ : ∃ J, J = ixh h3 q := ⟨_, rfl⟩
      rw [← hJ] at hix IX
      have HIX := Lib.hid hix
      obtain ⟨h4, hh4⟩ : ∃ h4, h4 = HH (k + 1) := ⟨_, rfl⟩
      have HH4 := Lib.hid hh4
      have FR : Hid (∀ V, Calls Tryz.prog 199 #[.agg #[.int .i64 (h3.a : Nat), .int .i64 (h3.b : Nat), .int .i64 (h3.c : Nat)], .int .i64 (y : Nat), .int .i64 (q : Nat)] V fun e w' => e = .returned (.agg #[.int .i64 (h4.a : Nat), .int .i64 (h4.b : Nat), .int .i64 (h4.c : Nat)]) ∧ Kp (fun _ => False) V w') := Lib.hid (fun V => by
        have := moved_p h3 y q V
        rw [← HNXK.out, ← hh4] at this
        exact this)
      clear hof hnx hva hq hy hh3 hx hz hix hV1 hk1 hAB hAB1 hcell hJ hh4 hcc
      by_cases hneg : J < 0
      · have hd1 : decide (J < 0) = true := decide_eq_true hneg
        have HYY : Hid ((y : Int) = (q : Int) + 2) := Lib.hid (by have := HIX.out.1 hneg; omega)
        clear hneg
        go_wp2_with fail
        rw [← HABE.out, ← HV1.out]
        have FRJ : Hid (∀ V, Calls Tryz.prog 199 #[.agg #[.int .i64 (h3.a : Nat), .int .i64 (h3.b : Nat), .int .i64 (h3.c : Nat)], .int .i64 ((q : Int) + 2), .int .i64 (q : Nat)] V fun e w' => e = .returned (.agg #[.int .i64 (h4.a : Nat), .int .i64 (h4.b : Nat), .int .i64 (h4.c : Nat)]) ∧ Kp (fun _ => False) V w') := Lib.hid (fun V => by
          have := FR.out V
          rw [HYY.out] at this
          exact this)
        have IXD : Hid (∀ j, Calls Tryz.prog 198 #[.slice (some ⟨G, 0, none⟩) 3 3, .int .i64 (q : Nat)] (V1.drewN j) fun e w' => e = .returned (.int .i64 J) ∧ w' = V1.drewN j) := Lib.hid (fun j => IX.out _ ((Kp.refl _ _).drewN j))
        have c2 : ∀ j, (V1.drewN j).cell? ⟨AB, 1, none⟩ = some (.int .i64 (q : Nat)) := fun j => CB0.out _ ((Kp.refl _ _).drewN j)
        go_quiet ((go_at_call 198; refine Calls.quiet_of_same (IXD.out _)))
        obtain ⟨V2, hV2⟩ : ∃ V2, V2 = V1.drewN nq := ⟨_, rfl⟩
        rw [← hV2]
        have hk2 : Kp (fun _ => False) V1 V2 := by rw [hV2]; exact (Kp.refl _ _).drewN nq
        have K2 := Lib.hid hk2
        obtain ⟨a0, a1, a2⟩ := (HA1.out V2 hk2).cells
        have c3 := CB0.out V2 hk2
        clear hV2 hk2 c2
        go_wp2_with (first
          | (go_at_call 199; refine (FRJ.out _).mono ?_; rintro e w8 ⟨rfl, hk8⟩; have hav := HA1.out w8 (K2.out.trans hk8); obtain ⟨r0, r1, r2⟩ := hav.cells; have f0 : w8.frozen? ⟨G, 0, none⟩ = false := free_of hav 0; have f1 : w8.frozen? ⟨G, 1, none⟩ = false := free_of hav 1; have f2 : w8.frozen? ⟨G, 2, none⟩ = false := free_of hav 2; have hstore := hav.store h4.a h4.b h4.c; obtain ⟨W9, hW9⟩ : ∃ W9, W9 = ((w8.setCell ⟨G, 0, none⟩ (.int .i64 (h4.a : Nat))).setCell ⟨G, 1, none⟩ (.int .i64 (h4.b : Nat))).setCell ⟨G, 2, none⟩ (.int .i64 (h4.c : Nat)) := ⟨_, rfl⟩; have hfold := hW9.symm; rw [← hW9] at hstore; have HST := Lib.hid hstore.1; have HKS := Lib.hid hstore.2; have K8 := Lib.hid (K2.out.trans hk8); have R9 := Lib.hid ((R1.out.kp0 K8.out).kp HKS.out (fun b hb => by rw [hb]; exact HNG.out.2.1)); have T9 : Hid (SlR (W9.alloc (.cells #[.int .i64 ((q : Int) + 2)] 3)) 1 (.slice (some ⟨W9.heap.size, 0, none⟩) 1 1) 1 ([y].map iv)) := Lib.hid (by have := lit_m W9 3 [iv y] (n := 1) rfl (by omega); unfold iv at this ⊢; rw [← HYY.out]; exact this); have KA9 := Lib.hid (kp_alloc W9 (.cells #[.int .i64 ((q : Int) + 2)] 3)); have R9A := Lib.hid (R9.out.kp0 KA9.out); have S9 : Hid (W.heap.size ≤ (W9.alloc (.cells #[.int .i64 ((q : Int) + 2)] 3)).heap.size) := Lib.hid (Nat.le_trans S1.out (Nat.le_trans K8.out.size (Nat.le_trans HKS.out.size KA9.out.size))); clear hk8 hav hstore hW9)
          | (at_builtin; refine wpList_appBM (B := W.heap.size) _ rfl _ _ 179 rfl 3 i0 _ 8 Tryz.underlying179 hi0 hz0 hz1 hz2 rfl (by decide) (by decide) nv1 (.slice av k cv) (VA k) rfl R9A.out S9.out (.slice (some ⟨W9.heap.size, 0, none⟩) 1 1) 1 [y] rfl T9.out rfl (k + 1) (by rw [HVK.out]) (by omega) ?_; intro a5 c5 w10 g1 g2; have G1 := Lib.hid g1; have G2 := Lib.hid g2; clear g1 g2))
        have hkk := (KA9.out.mono (G := fun b => W.heap.size ≤ b) (fun _ _ q => q.elim)).trans G2.out
        refine ⟨⟨k + 1, by omega, by go_num, ?_, ?_, ?_, ?_, ?_⟩, by simp [intOf]; try omega⟩
        · rw [HVAK.out]; exact G1.out
        · rw [← HH4.out]; exact HST.out.kp hkk (fun q => by have := HNG.out; omega)
        · exact ((E1.out.kp K8.out (fun q => q)).kp HKS.out (fun q => by omega)).kp hkk (fun q => by have := HW.out; have := HGE.out; omega)
        · exact ((K1.out.trans K8.out).trans2 HKS.out (fun i hi q => by have := HGE.out; omega)).trans2 hkk (fun i hi q => by have := HW.out; omega)
        · exact Nat.le_trans S9.out G2.out.size
      · have hd1 : decide (J < 0) = false := decide_eq_false hneg
        have HYY : Hid ((y : Int) = J) := Lib.hid (by have := HIX.out.2 (by omega); omega)
        clear hneg
        go_wp2_with fail
        rw [← HABE.out, ← HV1.out]
        have FRJ : Hid (∀ V, Calls Tryz.prog 199 #[.agg #[.int .i64 (h3.a : Nat), .int .i64 (h3.b : Nat), .int .i64 (h3.c : Nat)], .int .i64 J, .int .i64 (q : Nat)] V fun e w' => e = .returned (.agg #[.int .i64 (h4.a : Nat), .int .i64 (h4.b : Nat), .int .i64 (h4.c : Nat)]) ∧ Kp (fun _ => False) V w') := Lib.hid (fun V => by
          have := FR.out V
          rw [HYY.out] at this
          exact this)
        have IXD : Hid (∀ j, Calls Tryz.prog 198 #[.slice (some ⟨G, 0, none⟩) 3 3, .int .i64 (q : Nat)] (V1.drewN j) fun e w' => e = .returned (.int .i64 J) ∧ w' = V1.drewN j) := Lib.hid (fun j => IX.out _ ((Kp.refl _ _).drewN j))
        have c2 : ∀ j, (V1.drewN j).cell? ⟨AB, 1, none⟩ = some (.int .i64 (q : Nat)) := fun j => CB0.out _ ((Kp.refl _ _).drewN j)
        go_quiet ((go_at_call 198; refine Calls.quiet_of_same (IXD.out _)))
        obtain ⟨V2, hV2⟩ : ∃ V2, V2 = V1.drewN nq := ⟨_, rfl⟩
        rw [← hV2]
        have hk2 : Kp (fun _ => False) V1 V2 := by rw [hV2]; exact (Kp.refl _ _).drewN nq
        have K2 := Lib.hid hk2
        obtain ⟨a0, a1, a2⟩ := (HA1.out V2 hk2).cells
        have c3 := CB0.out V2 hk2
        clear hV2 hk2 c2
        go_wp2_with (first
          | (go_at_call 199; refine (FRJ.out _).mono ?_; rintro e w8 ⟨rfl, hk8⟩; have hav := HA1.out w8 (K2.out.trans hk8); obtain ⟨r0, r1, r2⟩ := hav.cells; have f0 : w8.frozen? ⟨G, 0, none⟩ = false := free_of hav 0; have f1 : w8.frozen? ⟨G, 1, none⟩ = false := free_of hav 1; have f2 : w8.frozen? ⟨G, 2, none⟩ = false := free_of hav 2; have hstore := hav.store h4.a h4.b h4.c; obtain ⟨W9, hW9⟩ : ∃ W9, W9 = ((w8.setCell ⟨G, 0, none⟩ (.int .i64 (h4.a : Nat))).setCell ⟨G, 1, none⟩ (.int .i64 (h4.b : Nat))).setCell ⟨G, 2, none⟩ (.int .i64 (h4.c : Nat)) := ⟨_, rfl⟩; have hfold := hW9.symm; rw [← hW9] at hstore; have HST := Lib.hid hstore.1; have HKS := Lib.hid hstore.2; have K8 := Lib.hid (K2.out.trans hk8); have R9 := Lib.hid ((R1.out.kp0 K8.out).kp HKS.out (fun b hb => by rw [hb]; exact HNG.out.2.1)); have T9 : Hid (SlR (W9.alloc (.cells #[.int .i64 J] 3)) 1 (.slice (some ⟨W9.heap.size, 0, none⟩) 1 1) 1 ([y].map iv)) := Lib.hid (by have := lit_m W9 3 [iv y] (n := 1) rfl (by omega); unfold iv at this ⊢; rw [← HYY.out]; exact this); have KA9 := Lib.hid (kp_alloc W9 (.cells #[.int .i64 J] 3)); have R9A := Lib.hid (R9.out.kp0 KA9.out); have S9 : Hid (W.heap.size ≤ (W9.alloc (.cells #[.int .i64 J] 3)).heap.size) := Lib.hid (Nat.le_trans S1.out (Nat.le_trans K8.out.size (Nat.le_trans HKS.out.size KA9.out.size))); clear hk8 hav hstore hW9)
          | (at_builtin; refine wpList_appBM (B := W.heap.size) _ rfl _ _ 179 rfl 3 i0 _ 8 Tryz.underlying179 hi0 hz0 hz1 hz2 rfl (by decide) (by decide) nv1 (.slice av k cv) (VA k) rfl R9A.out S9.out (.slice (some ⟨W9.heap.size, 0, none⟩) 1 1) 1 [y] rfl T9.out rfl (k + 1) (by rw [HVK.out]) (by omega) ?_; intro a5 c5 w10 g1 g2; have G1 := Lib.hid g1; have G2 := Lib.hid g2; clear g1 g2))
        have hkk := (KA9.out.mono (G := fun b => W.heap.size ≤ b) (fun _ _ q => q.elim)).trans G2.out
        refine ⟨⟨k + 1, by omega, by go_num, ?_, ?_, ?_, ?_, ?_⟩, by simp [intOf]; try omega⟩
        · rw [HVAK.out]; exact G1.out
        · rw [← HH4.out]; exact HST.out.kp hkk (fun q => by have := HNG.out; omega)
        · exact ((E1.out.kp K8.out (fun q => q)).kp HKS.out (fun q => by omega)).kp hkk (fun q => by have := HW.out; have := HGE.out; omega)
        · exact ((K1.out.trans K8.out).trans2 HKS.out (fun i hi q => by have := HGE.out; omega)).trans2 hkk (fun i hi q => by have := HW.out; omega)
        · exact Nat.le_trans S9.out G2.out.size
    · obtain rfl : k = n := by omega
      obtain ⟨t0, t1, t2⟩ := HAT.out.cells
      obtain ⟨s0, s1, s2⟩ := HRES.out.cells
      have f0 : wr.frozen? ⟨G + 1, 0, none⟩ = false := free_of HRES.out 0
      have f1 : wr.frozen? ⟨G + 1, 1, none⟩ = false := free_of HRES.out 1
      have f2 : wr.frozen? ⟨G + 1, 2, none⟩ = false := free_of HRES.out 2
      go_wp2_with fail
      go_region
      all_goals (go_wp2_with fail)
      all_goals
        obtain ⟨hst, hkst⟩ := HRES.out.store (HH k).a (HH k).b (HH k).c
        obtain ⟨y0, y1, y2⟩ := hst.cells
        have hk9 := (HKR.out.trans2 hkst (fun i hi q => by have := HGE.out; omega)).drew
        have hr9 : RowI W.heap.size _ (.slice av k cv) (VA k) := HROW.out.kp hkst.drew (fun j q => by rw [q]; have := HGE.out; have := HW.out; omega)
        refine bodyPost_ret (v := .tuple #[.slice av k cv, hv3 (HH k)]) ?_ rfl ⟨_, rfl, hr9.low (by have := HW.out; omega), hk9⟩
        simp [results, Tryz.results172, go_sem, y0, y1, y2, hv3]
end Go.Proofs.YtmioiaeiflbmhaaGreat.Ma
namespace Go.Proofs.YtmioiaeiflbmhaaGreat.Ma
open Go Go.RowKit Go.ChangeMaps Go.MapKept Go.Mg Go.Proofs.YtmioiaeiflbmhaaGreat.Hu
set_option maxRecDepth 100000 in
set_option maxHeartbeats 400000 in
theorem isLog_p (w : World) : Calls Tryz.prog 201 #[.int .i64 6] w fun e w' => e = .returned (.bool true) ∧ w' = w := by
  go_enter Tryz.func201, Tryz.ntmps201
  go_wp2_with fail
  go_ret
  exact ⟨rfl, rfl⟩
set_option maxRecDepth 100000 in
set_option maxHeartbeats 400000 in
theorem sum_p (w : World) (a : Option Addr) (c n : Nat) (f : Nat → Nat) (h : IntsR w a c n f) (hn : n ≤ 100000) (hs : Fse.sm f n ≤ 1000000) :
    Calls Tryz.prog 203 #[.slice a n c] w fun e w' => e = .returned (.int .i64 (Fse.sm f n : Nat)) ∧ w' = w := by
  have HL : Hid (0 < n → ∃ g o, a = some ⟨g, o, none⟩ ∧ n ≤ c ∧ ∀ i, i < n → w.cell? ⟨g, o + i, none⟩ = some (.int .i64 (f i : Nat))) := Lib.hid (fun h0 => by
    obtain ⟨g, o, e, _, hc, hcc⟩ := h.at_ h0
    exact ⟨g, o, e, hc, fun i hi => hcc w (Kp.refl _ _) i hi⟩)
  have HM := Lib.hid (fun k (hk : k ≤ n) => Nat.le_trans (Fse.sm_mono f hk) hs)
  have HS0 : Hid (Fse.sm f 0 = 0) := Lib.hid rfl
  have HS1 : Hid (∀ k, Fse.sm f (k + 1) = Fse.sm f k + f k) := Lib.hid (fun _ => rfl)
  obtain ⟨S, hS⟩ : ∃ S, S = Fse.sm f := ⟨_, rfl⟩
  rw [← hS] at HM HS0 HS1 ⊢
  clear h hs hS
  go_enter Tryz.func203, Tryz.ntmps203
  go_wp2_with fail
  go_loop [3, 5, 8] (fun s _ i => ∃ k : Nat, k ≤ n ∧ i = .int .i64 k ∧ s = .int .i64 (S k : Nat)) (fun _ _ i => n - (intOf i).toNat)
  case atStart => exact ⟨0, Nat.zero_le _, rfl, by rw [HS0.out]; rfl⟩
  case round =>
    obtain ⟨k, hk, rfl, rfl⟩ := hrel
    by_cases hlt : k < n
    · obtain ⟨g, o, rfl, hcl, hcc⟩ := HL.out (by omega)
      have d0 := hcc k hlt
      have hm := HM.out (k + 1) hlt
      have hs1 := HS1.out k
      rw [hs1] at hm
      have HSK := Lib.hid hs1
      obtain ⟨y, hy⟩ : ∃ y, y = S k := ⟨_, rfl⟩
      obtain ⟨x, hx⟩ : ∃ x, x = f k := ⟨_, rfl⟩
      rw [← hx] at d0 hm
      rw [← hy] at hm ⊢
      have HX := Lib.hid hx
      have HY := Lib.hid hy
      clear hcc hs1 hx hy
      go_wp2_with fail
      exact ⟨⟨k + 1, by omega, by go_num, by rw [HSK.out, ← HX.out, ← HY.out]; go_num⟩, by simp [intOf]; try omega⟩
    · obtain rfl : k = n := by omega
      go_wp2_with fail
      go_ret
      exact ⟨rfl, rfl⟩
end Go.Proofs.YtmioiaeiflbmhaaGreat.Ma
namespace Go.Proofs.YtmioiaeiflbmhaaGreat.Ma
open Go Go.RowKit Go.ChangeMaps Go.MapKept Go.Mg Go.Proofs.YtmioiaeiflbmhaaGreat.Hu
set_option maxRecDepth 100000 in
set_option maxHeartbeats 400000 in
theorem notCount_p (x : Nat) (hx : x ≤ 1000000) (w : World) : Calls Tryz.prog 200 #[.int .i64 (x : Nat)] w fun e w' => e = .returned (.bool false) ∧ w' = w := by
  have b1 : decide ((x : Int) < 0) = false := decide_eq_false (by omega)
  have b2 : decide ((1073741824 : Int) < (x : Int)) = false := decide_eq_false (by omega)
  have b3 : decide (1073741824 < x) = false := decide_eq_false (by omega)
  clear hx
  go_enter Tryz.func200, Tryz.ntmps200
  go_wp2_with fail
  go_ret
  exact ⟨rfl, rfl⟩
set_option maxRecDepth 100000 in
set_option maxHeartbeats 400000 in
theorem indexI_p (w : World) (a : Option Addr) (c n : Nat) (f : Nat → Nat) (h : IntsR w a c n f) (hn : n ≤ 100000) (hf : ∀ i, i < n → f i ≤ 1000000) :
    Calls Tryz.prog 223 #[.slice a n c, .func (.func 200) #[] #[]] w fun e w' => e = .returned (.int .i64 (-1)) ∧ w' = w := by
  have HL : Hid (0 < n → ∃ g o, a = some ⟨g, o, none⟩ ∧ n ≤ c ∧ ∀ i, i < n → w.cell? ⟨g, o + i, none⟩ = some (.int .i64 (f i : Nat))) := Lib.hid (fun h0 => by
    obtain ⟨g, o, e, _, hc, hcc⟩ := h.at_ h0
    exact ⟨g, o, e, hc, fun i hi => hcc w (Kp.refl _ _) i hi⟩)
  have HF := Lib.hid hf
  clear h hf
  go_enter Tryz.func223, Tryz.ntmps223
  go_wp2_with fail
  go_loop [5, 8] (fun _ i => ∃ k : Nat, k ≤ n ∧ i = .int .i64 k) (fun _ i => n - (intOf i).toNat)
  case atStart => exact ⟨0, Nat.zero_le _, rfl⟩
  case round =>
    obtain ⟨k, hk, rfl⟩ := hrel
    by_cases hlt : k < n
    · obtain ⟨g, o, rfl, hcl, hcc⟩ := HL.out (by omega)
      have d0 := hcc k hlt
      have CT := Lib.hid (notCount_p (f k) (HF.out k hlt))
      obtain ⟨x, hx⟩ : ∃ x, x = f k := ⟨_, rfl⟩
      rw [← hx] at d0 CT
      clear hcc hx
      go_wp2_with (go_at_call 200; refine (CT.out _).mono ?_; rintro e w' ⟨rfl, hw⟩; obtain rfl := hw)
      exact ⟨⟨k + 1, by omega, by go_num⟩, by simp [intOf]; try omega⟩
    · obtain rfl : k = n := by omega
      go_wp2_with fail
      go_ret
      exact ⟨rfl, rfl⟩
set_option maxRecDepth 100000 in
set_option maxHeartbeats 400000 in
theorem containsI_p (w : World) (a : Option Addr) (c n : Nat) (f : Nat → Nat) (h : IntsR w a c n f) (hn : n ≤ 100000) (hf : ∀ i, i < n → f i ≤ 1000000) :
    Calls Tryz.prog 202 #[.slice a n c, .func (.func 200) #[] #[]] w fun e w' => e = .returned (.bool false) ∧ w' = w := by
  have IX := Lib.hid (indexI_p w a c n f h hn hf)
  clear h hf
  go_enter Tryz.func202, Tryz.ntmps202
  go_wp2_with (go_at_call 223; refine IX.out.mono ?_; rintro e w' ⟨rfl, hw⟩; obtain rfl := hw)
  go_ret
  exact ⟨rfl, rfl⟩
end Go.Proofs.YtmioiaeiflbmhaaGreat.Ma
