/- The document's huff: joining. The document's huff: lengths. huff: joining. huff: Lengths. -/
import Derived.Laws.MakeOwn
import Derived.Laws.OwnMore
import Derived.Deep.DeepCutAuto
import Derived.IntWalk
import Derived.Test.YtphakpikalmghaaGreatU12
import Derived.Test.YtphakpikalmghaaGreatU13
namespace Go.Proofs.YtphakpikalmghaaGreat.Hu
open Go Go.RowKit Go.ChangeMaps Go.MapKept Go.Mg Go.Hf Go.Sort

def OncePost (w : World) (cs : List Nat) (e : Ending) (w' : World) : Prop :=
  ∃ (L : Nat → Nat) (m : Nat) (a : Option Addr) (c : Nat), e = .returned (.tuple #[.slice a cs.length c, .int .i64 m]) ∧ Jd cs L ∧ Lo w.heap.size w' (.slice a cs.length c) cs.length L ∧ Kp (fun _ => False) w w' ∧
    (∀ i, i < cs.length → L i ≤ m) ∧ (11 < m → ∃ i, i < cs.length ∧ 11 < L i)
theorem make_ints (w : World) (n : Nat) (hn : n ≤ 1000) : ∃ cur : Array Value, cur.toList = List.replicate n (nv 0) ∧
    (Instr.makeSlice 51 (.int .i64 (n : Nat)) (.int .i64 (n : Nat))).run Tryz.prog w = .ok (.slice (some ⟨w.heap.size, 0, none⟩) n n) (w.alloc (.cells cur 3)) := by
  obtain ⟨i0, hi0, hz0, hz1, hz2⟩ := info_parts infoI
  have h := run_make (P := Tryz.prog) w 51 3 i0 _ Tryz.underlying51 hi0 hz0 .i64 .i64 (n : Int) (n : Int) (by omega) (by omega) (by rw [hz2]; omega) (by omega)
  rw [hz1] at h
  refine ⟨_, ?_, h⟩
  show (madeCells #[_] _).toList = _
  rw [toList_madeCells_one]
  simp [nv]
theorem Lo.made {w : World} {n : Nat} {cur : Array Value} (hn : n ≤ 1000) (hc : cur.toList = List.replicate n (nv 0)) : Lo w.heap.size (w.alloc (.cells cur 3)) (.slice (some ⟨w.heap.size, 0, none⟩) n n) n (fun _ => 0) := by
  have hs : cur.size = n := by rw [← Array.length_toList, hc, List.length_replicate]
  refine ⟨⟨by simp, .inr ⟨_, n, cur, (0, 0), rfl, alloc_at w _, .inl rfl, Nat.le_refl _, by unfold maxLen; omega, by omega, ?_⟩⟩, fun b hb => Nat.le_of_eq (own_b hb).symm⟩
  rw [hc, Nat.mul_one, List.take_of_length_le (by simp)]
  apply List.ext_getElem
  · simp
  · intro i h1 h2; simp
set_option maxRecDepth 100000 in
set_option maxHeartbeats 2000000 in
theorem once_c (w : World) (cs : List Nat) (a : Option Addr) (c : Nat) (h : SlR w 1 (.slice a cs.length c) cs.length (cs.map nv)) (hlen : cs.length ≤ 256) (hS : cs.sum ≤ 1125899906842624) :
    Calls Tryz.prog 63 #[.slice a cs.length c] w (OncePost w cs) := by
  have mixed : Tryz.prog.follows .mixedOrders = true := by kernel_rfl
  obtain ⟨cur, hcur, hmk⟩ := make_ints w cs.length (by omega)
  have L0 := Lib.hid (Lo.made (w := w) (n := cs.length) (by omega) hcur)
  have K0 : Hid (Kp (fun _ => False) w (w.alloc (.cells cur 3))) := Lib.hid ((Kp.refl _ _).alloc _)
  have HS := Lib.hid hS
  have HC := Lib.hid h
  clear h hcur hS
  go_enter Tryz.func63, Tryz.ntmps63
  go_wp2_with fail
  generalize hW : w.alloc (.cells cur 3) = W at L0 K0 ⊢
  have hwW : w.heap.size < W.heap.size := by rw [← hW]; simp
  clear hmk hW
  obtain ⟨i0, hi0, hz0, hz1, hz2⟩ := info_parts infoT
  obtain ⟨j0, hj0, hy0, hy1, hy2⟩ := info_parts infoI
  go_loopw [5, 6] (fun l i wr => ∃ (k : Nat) (Fs : List (Tr × Value)) (aL : Option Addr) (cL : Nat), k ≤ cs.length ∧ i = .int .i64 k ∧ l = .slice aL Fs.length cL ∧ Fo w.heap.size wr 120 (.slice aL Fs.length cL) Fs ∧ Fs.map (·.1) = forest (cs.take k) ∧ Fs.length ≤ k ∧
    Lo w.heap.size wr (.slice (some ⟨w.heap.size, 0, none⟩) cs.length cs.length) cs.length (fun _ => 0) ∧ Apart (.slice (some ⟨w.heap.size, 0, none⟩) cs.length cs.length) (.slice aL Fs.length cL) Fs ∧ Kp (fun _ => False) w wr ∧ w.heap.size < wr.heap.size) (fun _ i _ => cs.length - (intOf i).toNat)
  case atStart => exact ⟨0, [], none, 0, Nat.zero_le _, rfl, rfl, Fo.nil _ _ _, rfl, Nat.le_refl _, L0.out, fun b hb => ⟨(by simp [Value.ownBlock]), fun p hp => by cases hp⟩, K0.out, hwW⟩
  case round =>
    obtain ⟨k, Fs, aL, cL, hk, rfl, rfl, hF, hm, hfl, hL, hA, hkp, hwr⟩ := hrel
    have HF := Lib.hid hF
    have HM := Lib.hid hm
    have HL := Lib.hid hL
    have HA := Lib.hid hA
    have HK := Lib.hid hkp
    clear hF hm hL hA hkp
    by_cases hlt : k < cs.length
    · obtain ⟨g, off, ea, hg, hcap, hc⟩ := at_nv (HC.out.kp HK.out (fun _ _ q => q)) (show 0 < cs.length by omega)
      have d0 := hc k hlt
      clear hc
      obtain ⟨ck, hck⟩ : ∃ ck, ck = cs[k] := ⟨_, rfl⟩
      rw [← hck] at d0
      have hcm : ck ∈ cs := by rw [hck]; exact List.getElem_mem _
      have HCM := Lib.hid (forest_snoc (cs.take k) ck)
      have HT : Hid (cs.take (k + 1) = cs.take k ++ [ck]) := Lib.hid (by rw [hck, List.take_succ_eq_append_getElem hlt])
      have hlk : (cs.take k).length = k := by rw [List.length_take]; omega
      have HLK := Lib.hid hlk
      clear hck hcm hlk
      subst ea
      by_cases hpos : 0 < ck
      · -- a leaf
        have n1 : (wr.alloc (.cells #[.int .i64 (k : Nat)] 3)).heap[wr.heap.size]? = some (.cells #[nv k] 3 (0, 0)) := alloc_at wr _
        obtain ⟨w2, hw2⟩ : ∃ w2, w2 = (wr.alloc (.cells #[.int .i64 (k : Nat)] 3)).alloc (.cells #[.int .i64 (ck : Nat), .slice (some ⟨wr.heap.size, 0, none⟩) 1 1] 120) := ⟨_, rfl⟩
        have k2 : Kp (fun _ => False) wr w2 := by rw [hw2]; exact ((Kp.refl _ _).alloc _).alloc _
        have n1' : w2.heap[wr.heap.size]? = some (.cells #[nv k] 3 (0, 0)) := by rw [hw2]; exact (Below.heap_alloc _ _ _ (by simp)).trans n1
        have n2 : w2.heap[wr.heap.size + 1]? = some (.cells #[.int .i64 ((leaf k ck).n : Nat), .slice (some ⟨wr.heap.size, 0, none⟩) 1 1] 120 (0, 0)) := by
          rw [hw2]; have := alloc_at (wr.alloc (.cells #[.int .i64 (k : Nat)] 3)) (.cells #[.int .i64 (ck : Nat), .slice (some ⟨wr.heap.size, 0, none⟩) 1 1] 120); rwa [World.size_alloc] at this
        have hs2 : w2.heap.size = wr.heap.size + 2 := by rw [hw2]; simp
        have T2 := leaf_tv (i := k) (c := ck) n1'
        have F2 := HF.out.kp k2 (fun _ _ q => q) (fun _ _ _ _ q => q)
        have S2 := one_sl (t := leaf k ck) n2
        have TT := Lib.hid T2
        have FF := Lib.hid F2
        have SS := Lib.hid S2
        have KK := Lib.hid k2
        have O2 := Lib.hid (E_one1 T2)
        clear n1 n1' n2 k2 T2 F2 S2
        have hb32 : (Fs.length + 1) * 32 ≤ 140737488355328 := by omega
        go_wp2_with (at_builtin; rw [← hw2]; refine wpList_appO _ rfl _ _ 118 rfl 120 i0 _ 2 32 Tryz.underlying118 hi0 hz0 hz1 hz2 rfl (by decide) (by decide) (.slice aL Fs.length cL) Fs.length _ rfl FF.out.row (.slice (some ⟨wr.heap.size + 1, 0, none⟩) 1 1) 1 _ rfl SS.out O2.out hb32 ?_; intro v' w3 g1 g2 g3 g4 g5; obtain ⟨b1, d1, rfl⟩ := g1.form; have G1 := Lib.hid g1; have G2 := Lib.hid g2; have G3 := Lib.hid g3; clear g1 g2 g3 g4 g5)
        have P3 := FF.out.push (by omega) TT.out (fun b hb q => by have h1 := own_b hb; have := HF.out.row.lt q; omega) G1.out G2.out G3.out
        refine ⟨⟨k + 1, Fs ++ [(leaf k ck, .slice (some ⟨wr.heap.size, 0, none⟩) 1 1)], b1, d1, by omega, by go_num, by simp, by simpa using P3, ?_, by simp; omega, ?_, ?_, ?_, ?_⟩, by simp [intOf]; omega⟩
        · rw [HT.out, HCM.out, List.map_append, HM.out, HLK.out, if_pos hpos]; rfl
        · exact (HL.out.kp KK.out (fun _ _ q => q)).kp G2.out (fun b hb q => (HA.out b hb).1 q)
        · intro b hb
          have e := own_b hb
          subst e
          refine ⟨fun q => ?_, fun p hp q => ?_⟩
          · rw [List.length_append] at q
            rcases G3.out with q' | q'
            · exact (HA.out _ hb).1 (q'.symm.trans q)
            · have q'' := q'.symm.trans q; simp at q''; omega
          · rcases List.mem_append.1 hp with hp | hp
            · exact (HA.out _ hb).2 p hp q
            · rw [List.mem_singleton] at hp; subst hp
              have := own_b q; omega
        · exact (HK.out.trans KK.out).up G2.out (fun i q => HF.out.new i q)
        · have := G2.out.size; omega
      · obtain rfl : ck = 0 := by omega
        go_wp2_with fail
        refine ⟨⟨k + 1, Fs, aL, cL, by omega, by go_num, rfl, HF.out, ?_, by omega, HL.out, HA.out, HK.out, hwr⟩, by simp [intOf]; omega⟩
        rw [HT.out, HCM.out, HM.out]
        simp
    · obtain rfl : k = cs.length := by omega
      have hforest : Fs.map (·.1) = forest cs := by rw [HM.out, List.take_length]
      have HFO := Lib.hid hforest
      clear HM hforest
      by_cases h1 : Fs.length = 1
      · obtain ⟨p, rfl⟩ : ∃ p, Fs = [p] := List.length_eq_one_iff.1 h1
        obtain ⟨t, v⟩ := p
        obtain ⟨g, off, ea, hg, hcap, hc⟩ := at_E HF.out.row.sl (by simp)
        obtain ⟨d0, d1⟩ := hc 0 (by simp)
        have ht : t ∈ forest cs := by rw [← HFO.out]; simp
        obtain ⟨j, hj, et, _⟩ := mem_forestFrom ht
        rw [Nat.zero_add] at et
        obtain ⟨xa, xc, ev, hxs, _, _⟩ := HF.out.trees _ (List.mem_singleton.2 rfl)
        simp only at ev
        have hs1 : t.s = [j] := by rw [et]; rfl
        simp only [ev, hs1] at hxs
        obtain ⟨g2, off2, ex, hg2, hcap2, hc2⟩ := at_nv (s := [j]) hxs (by simp)
        have e0 := hc2 0 (by simp)
        simp only [ex, ev, hs1, List.length_singleton, List.getElem_cons_zero, Nat.zero_mul, Nat.add_zero] at d0 d1 e0 hcap2
        subst ea
        obtain ⟨g3, eg3, hg3, _, _, f0, f1, f2, f3⟩ := HL.out.at_ hj
        simp only [Option.some.injEq, Addr.mk.injEq, and_true] at eg3
        subst eg3
        have hj' : j < cs.length := hj
        have HTM : Hid (t.m = j) := Lib.hid (by rw [et]; rfl)
        have F2 := Lib.hid f2
        have F3 := Lib.hid f3
        clear hc hc2 f2 f3 ht et ev hs1 hxs
        simp only [List.length_singleton] at h1 hcap
        go_wp2_with fail
        go_ret2
        refine ⟨bump [j] (fun _ => 0), 1, _, _, rfl, .inl ⟨t, by rw [← HFO.out]; rfl, ?_⟩, F2.out, (HK.out.trans2 F3.out (fun i hi e => by omega)), ?_, fun q => by omega⟩
        · rw [bump_one, HTM.out]
        · intro i hi
          rw [bump_one]
          simp only
          split <;> omega
      · have hst : Fst cs.length cs.sum (forest cs) (Fs.map (·.1)) (fun _ => 0) := by rw [HFO.out]; exact Fst.start cs
        have ST := Lib.hid hst
        have h1' : ((Fs.length : Int) == 1) = false := by rw [beq_eq_false_iff_ne]; omega
        have H1 : Hid ((forest cs).length ≠ 1) := Lib.hid (by rw [← HFO.out, List.length_map]; exact h1)
        clear hst
        go_wp2_with fail
        go_loopw [5, 7] (fun l m wr => ∃ (Fs : List (Tr × Value)) (L : Nat → Nat) (mm : Nat) (aL : Option Addr) (cL : Nat), m = .int .i64 mm ∧ l = .slice aL Fs.length cL ∧ Fo w.heap.size wr 120 (.slice aL Fs.length cL) Fs ∧ Fst cs.length cs.sum (forest cs) (Fs.map (·.1)) L ∧
          Lo w.heap.size wr (.slice (some ⟨w.heap.size, 0, none⟩) cs.length cs.length) cs.length L ∧ Apart (.slice (some ⟨w.heap.size, 0, none⟩) cs.length cs.length) (.slice aL Fs.length cL) Fs ∧ Kp (fun _ => False) w wr ∧ w.heap.size < wr.heap.size ∧ Most cs.length L mm) (fun l _ _ => lenOf l)
        case atStart => exact ⟨Fs, _, 0, aL, cL, rfl, rfl, HF.out, ST.out, HL.out, HA.out, HK.out, hwr, ⟨fun i _ => Nat.le_refl _, .inl rfl⟩⟩
        case round =>
          clear HFO HF HL HA HK ST h1 h1'
          obtain ⟨Gs, L, mm, bL, dL, rfl, rfl, hF, hst, hL, hA, hkp, hwr, hmo⟩ := hrel
          have HF := Lib.hid hF
          have ST := Lib.hid hst
          have HL := Lib.hid hL
          have HA := Lib.hid hA
          have HK := Lib.hid hkp
          have HMO := Lib.hid hmo
          clear hF hst hL hA hkp hmo
          by_cases h1 : 1 < Gs.length
          · have hlg : Gs.length ≤ 256 := by have := ST.out.len 0; simp at this; omega
            go_wp2_with fail
            refine (take_c _ Gs bL dL HF.out.row.sl HF.out.trees (by omega) (by omega)).mono ?_
            rintro e w1 ⟨k1, hk1, a1, c1, rfl, t1, t2, t3, t4⟩
            obtain ⟨⟨ta, va⟩, hpa⟩ : ∃ p, p = Gs[k1] := ⟨_, rfl⟩
            rw [← hpa] at t4 ⊢
            obtain ⟨Rs, hRs⟩ : ∃ r, r = Gs.take k1 ++ Gs.drop (k1 + 1) := ⟨_, rfl⟩
            have hperm1 : Gs.Perm ((ta, va) :: Rs) := by rw [hpa, hRs]; exact pick_perm hk1
            have hlen1 : Gs.length - 1 = Rs.length := by have := hperm1.length_eq; simp at this; omega
            rw [← hRs, hlen1] at t1
            rw [hlen1] at t2 ⊢
            obtain ⟨xa, ya, eva, _⟩ := HF.out.trees (ta, va) (hperm1.mem_iff.2 (by simp))
            simp only at eva
            have TA := Lib.hid (HF.out.trees (ta, va) (hperm1.mem_iff.2 (by simp)))
            have P1 := Lib.hid hperm1
            have T1 := Lib.hid t1
            have T2 := Lib.hid t2
            have T3 := Lib.hid t3
            have T4 := Lib.hid t4
            clear t1 t2 t3 t4 hpa hRs hperm1 hlen1
            go_wp2_with fail
            obtain ⟨W1, hW1⟩ : ∃ W, W = w1.alloc (.cells #[.int .i64 (ta.n : Nat), .slice xa ta.s.length ya] 120) := ⟨_, rfl⟩
            have k1 : Kp (fun _ => False) wr W1 := by rw [hW1]; exact T3.out.alloc _
            have b1 : W1.heap[w1.heap.size]? = some (.cells #[.int .i64 (ta.n : Nat), .slice xa ta.s.length ya] 120 (0, 0)) := by rw [hW1]; exact alloc_at _ _
            have hs1 : W1.heap.size = w1.heap.size + 1 := by rw [hW1]; simp
            have hRT : ∀ p, p ∈ Rs → Tv wr p.1 p.2 := fun p hp => HF.out.trees p (P1.out.mem_iff.2 (by simp [hp]))
            have hR1 : 0 < Rs.length := by have := P1.out.length_eq; simp at this; omega
            have hR2 : Rs.length ≤ 256 := by have := P1.out.length_eq; simp at this; omega
            rw [← hW1]
            have hsl1 : SlR W1 2 (.slice a1 Rs.length c1) Rs.length (Rs.flatMap E) := T1.out.sl.kp (by rw [hW1]; exact (Kp.refl (fun _ => False) _).alloc _) (fun _ _ q => q)
            refine (take_c _ Rs a1 c1 hsl1 (fun p hp => (hRT p hp).kp k1 (fun _ _ q => q)) hR1 (by omega)).mono ?_
            rintro e w2 ⟨k2, hk2, a2, c2, rfl, t1, t2, t3, t4⟩
            obtain ⟨⟨tb, vb⟩, hpb⟩ : ∃ p, p = Rs[k2] := ⟨_, rfl⟩
            rw [← hpb] at t4 ⊢
            obtain ⟨Qs, hQs⟩ : ∃ r, r = Rs.take k2 ++ Rs.drop (k2 + 1) := ⟨_, rfl⟩
            have hperm2 : Rs.Perm ((tb, vb) :: Qs) := by rw [hpb, hQs]; exact pick_perm hk2
            have hlen2 : Rs.length - 1 = Qs.length := by have := hperm2.length_eq; simp at this; omega
            rw [← hQs, hlen2] at t1
            rw [hlen2] at t2 ⊢
            obtain ⟨xb, yb, evb, _⟩ := hRT (tb, vb) (hperm2.mem_iff.2 (by simp))
            simp only at evb
            have TB := Lib.hid (hRT (tb, vb) (hperm2.mem_iff.2 (by simp)))
            have P2 := Lib.hid hperm2
            have U1 := Lib.hid t1
            have U2 := Lib.hid t2
            have U3 := Lib.hid t3
            have U4 := Lib.hid t4
            have K1 := Lib.hid k1
            have B1 := Lib.hid b1
            have RT := Lib.hid hRT
            clear t1 t2 t3 t4 hpb hQs hperm2 hlen2 hsl1 k1 b1 hW1 hRT
            subst eva
            subst evb
            go_wp2_with fail
            -- the two trees joined
            obtain ⟨W2, hW2⟩ : ∃ W, W = w2.alloc (.cells #[.int .i64 (tb.n : Nat), .slice xb tb.s.length yb] 120) := ⟨_, rfl⟩
            rw [← hW2]
            have k2' : Kp (fun _ => False) W1 W2 := by rw [hW2]; exact U3.out.alloc _
            have b2 : W2.heap[w2.heap.size]? = some (.cells #[.int .i64 (tb.n : Nat), .slice xb tb.s.length yb] 120 (0, 0)) := by rw [hW2]; exact alloc_at _ _
            have b1' := k2'.at_ B1.out (fun q => q)
            have hs2 : W2.heap.size = w2.heap.size + 1 := by rw [hW2]; simp
            have hszW : W1.heap.size ≤ w2.heap.size := U3.out.size
            have kW : Kp (fun _ => False) wr W2 := K1.out.trans k2'
            have hQ1 : OwnR W2 120 2 (.slice a2 Qs.length c2) Qs.length (Qs.flatMap E) := U1.out.kp (F := fun _ => False) (by rw [hW2]; exact (Kp.refl _ _).alloc _) (fun _ _ q => q)
            have hpm : Gs.Perm ((ta, .slice xa ta.s.length ya) :: (tb, .slice xb tb.s.length yb) :: Qs) := P1.out.trans (P2.out.cons _)
            have hpmT : (Gs.map (·.1)).Perm (ta :: tb :: Qs.map (·.1)) := hpm.map _
            obtain ⟨hcn, hcl⟩ := ST.out.two hpmT
            obtain ⟨tc, hj, hjs, hjt⟩ := joins_tv TA.out TB.out (by omega)
            have hcm : tc.n = ta.n + tb.n := hj.n
            have hsum : ta.n + tb.n ≤ 1125899906842624 := Nat.le_trans hcn HS.out
            have hA1 : ∀ t, t ∈ tb :: Qs.map (·.1) → ¬ Lt t ta := fun t ht => by
              obtain ⟨p, hp, e⟩ := List.mem_map.1 (show t ∈ ((tb, Value.slice xb tb.s.length yb) :: Qs).map (·.1) from ht)
              subst e
              exact T4.out p (P1.out.mem_iff.2 (List.mem_cons_of_mem _ (P2.out.mem_iff.2 hp)))
            have hA2 : ∀ t, t ∈ Qs.map (·.1) → ¬ Lt t tb := fun t ht => by
              obtain ⟨p, hp, e⟩ := List.mem_map.1 ht
              subst e
              exact U4.out p (P2.out.mem_iff.2 (by simp [hp]))
            have QT : Hid (∀ p, p ∈ Qs → Tv W2 p.1 p.2 ∧ ∀ b, p.2.ownBlock = some b → b < wr.heap.size) := Lib.hid (fun p hp => ⟨(RT.out p (P2.out.mem_iff.2 (by simp [hp]))).kp kW (fun _ _ q => q), fun b hb => (RT.out p (P2.out.mem_iff.2 (by simp [hp]))).lt hb⟩)
            obtain ⟨xa', ya', exa, sA, mA, lA⟩ := TA.out
            obtain ⟨xb', yb', exb, sB, mB, lB⟩ := TB.out
            have c10 : W2.cell? ⟨w1.heap.size, 0, none⟩ = some (.int .i64 (ta.n : Nat)) := by rw [cell_of b1']; rfl
            have c11 : W2.cell? ⟨w1.heap.size, 1, none⟩ = some (.slice xa ta.s.length ya) := by rw [cell_of b1']; rfl
            have c20 : W2.cell? ⟨w2.heap.size, 0, none⟩ = some (.int .i64 (tb.n : Nat)) := by rw [cell_of b2]; rfl
            have c21 : W2.cell? ⟨w2.heap.size, 1, none⟩ = some (.slice xb tb.s.length yb) := by rw [cell_of b2]; rfl
            have l1 : w1.heap.size < W2.heap.size := lt_of_at b1'
            have l2 : w2.heap.size < W2.heap.size := lt_of_at b2
            have G0 := Lib.hid (Gro.start 120 W2)
            have G00 := Lib.hid (Gro.start2 120 W2)
            have G01 : Hid (Gro 120 W2 ((W2.drew.alloc (.cells #[] 3)).alloc (.cells #[.int .i64 0, .slice none 0 0] 120)) (.slice (some ⟨W2.heap.size, 0, none⟩) 0 0) 0 [] (some (W2.heap.size + 1))) := Lib.hid (by have := G0.out.alloc; rw [World.size_alloc] at this; exact this)
            have SA := Lib.hid (sA.kp kW (fun _ _ q => q))
            have SB := Lib.hid (sB.kp kW (fun _ _ q => q))
            have cells : ∀ V, Kp (fun _ => False) W2 V → (V.cell? ⟨w1.heap.size, 0, none⟩ = some (.int .i64 (ta.n : Nat)) ∧ V.cell? ⟨w1.heap.size, 1, none⟩ = some (.slice xa ta.s.length ya)) ∧ V.cell? ⟨w2.heap.size, 0, none⟩ = some (.int .i64 (tb.n : Nat)) ∧ V.cell? ⟨w2.heap.size, 1, none⟩ = some (.slice xb tb.s.length yb) := fun V kk =>
              ⟨⟨(kk.cell (p := ⟨w1.heap.size, 0, none⟩) l1 (fun q => q)).trans c10, (kk.cell (p := ⟨w1.heap.size, 1, none⟩) l1 (fun q => q)).trans c11⟩, (kk.cell (p := ⟨w2.heap.size, 0, none⟩) l2 (fun q => q)).trans c20, (kk.cell (p := ⟨w2.heap.size, 1, none⟩) l2 (fun q => q)).trans c21⟩
            have CE := Lib.hid cells
            obtain ⟨⟨q10, q11⟩, q20, q21⟩ := cells _ G0.out.kp
            obtain ⟨⟨p10, p11⟩, p20, p21⟩ := cells _ G00.out.kp
            obtain ⟨⟨o10, o11⟩, o20, o21⟩ := cells _ G01.out.kp
            obtain ⟨⟨m10, m11⟩, m20, m21⟩ := cells (W2.drew.alloc (.cells #[.int .i64 0, .slice none 0 0] 120)) (((Kp.refl _ _).drew).alloc _)
            have hws : IntKind.i64.wrap ((ta.n : Int) + (tb.n : Int)) = (ta.n : Int) + (tb.n : Int) := by rw [IntKind.wrap_i64]; omega
            have KW := Lib.hid kW
            have HQ1 := Lib.hid hQ1
            have PT := Lib.hid hpmT
            have HJ := Lib.hid hj
            have HJS := Lib.hid hjs
            have HJT := Lib.hid hjt
            have HA1 := Lib.hid hA1
            have HA2 := Lib.hid hA2
            have HCM := Lib.hid hcm
            have HW2s := Lib.hid hs2
            have HSZ := Lib.hid hszW
            have HS1 := Lib.hid hs1
            clear kW hQ1 hpm hpmT hj hjs hjt hA1 hA2 hcm sA sB mA mB k2' b1' b2 hW2 hs2 exa exb hszW hs1 cells
            have O1 := Lib.hid (nv_one ta.s)
            have O2 := Lib.hid (nv_one tb.s)
            have hl8 : ta.s.length + tb.s.length ≤ 256 := Nat.le_trans hcl hlen
            have n1 : w1.heap.size ≠ W2.heap.size := by omega
            have n2 : w2.heap.size ≠ W2.heap.size := by omega
            have n3 : w1.heap.size ≠ W2.heap.size + 1 := by omega
            have n4 : w2.heap.size ≠ W2.heap.size + 1 := by omega
            have n1' := n1.symm
            have n2' := n2.symm
            have n3' := n3.symm
            have n4' := n4.symm
            generalize ta.s.length = na at *
            generalize tb.s.length = nb at *
            go_cut [12] (fun s12 wx => JoinAt 120 W2 (ta.n + tb.n) (na + nb) (ta.s.map nv ++ tb.s.map nv) s12 wx)
            case first =>
              go_region_held3 (fun w' => (w'.cell? ⟨w1.heap.size, 0, none⟩ = some (.int .i64 (ta.n : Nat)) ∧ w'.cell? ⟨w1.heap.size, 1, none⟩ = some (.slice xa na ya)) ∧ w'.cell? ⟨w2.heap.size, 0, none⟩ = some (.int .i64 (tb.n : Nat)) ∧ w'.cell? ⟨w2.heap.size, 1, none⟩ = some (.slice xb nb yb)) (go_keep) ((first
                | (refine step_app (W2.drew.alloc (.cells #[] 3)) rfl (.tmp 68) (.tmp 70) 51 rfl 3 j0 _ 1 8 Tryz.underlying51 hj0 hy0 hy1 hy2 rfl (by decide) (by decide) (.slice (some ⟨W2.heap.size, 0, none⟩) 0 0) 0 [] (by simp [Act.eval]) G0.out.own (.slice xa na ya) na _ (by simp [Act.eval]) (SA.out.kp G0.out.kp (fun _ _ q => q)) O1.out (by omega) ?_; intro v1 w3 g1 g2 g3 g4 g5; obtain ⟨b1, d1, rfl⟩ := g1.form; have G3 := Lib.hid (G0.out.app g1 g2 g3); obtain ⟨⟨r10, r11⟩, r20, r21⟩ := CE.out _ G3.out.kp; have n5 : w1.heap.size ≠ w3.heap.size := (by have := G3.out.kp.size; omega); have n6 : w2.heap.size ≠ w3.heap.size := (by have := G3.out.kp.size; omega); have n5' := n5.symm; have n6' := n6.symm; clear g1 g2 g3 g4 g5)
                | (refine step_app ((W2.drew.alloc (.cells #[.int .i64 0, .slice none 0 0] 120)).alloc (.cells #[] 3)) rfl (.tmp 68) (.tmp 70) 51 rfl 3 j0 _ 1 8 Tryz.underlying51 hj0 hy0 hy1 hy2 rfl (by decide) (by decide) (.slice (some ⟨W2.heap.size + 1, 0, none⟩) 0 0) 0 [] (by simp [Act.eval]) G00.out.own (.slice xa na ya) na _ (by simp [Act.eval]) (SA.out.kp G00.out.kp (fun _ _ q => q)) O1.out (by omega) ?_; intro v1 w3 g1 g2 g3 g4 g5; obtain ⟨b1, d1, rfl⟩ := g1.form; have G3 := Lib.hid (G00.out.app g1 g2 g3); obtain ⟨⟨r10, r11⟩, r20, r21⟩ := CE.out _ G3.out.kp; have n5 : w1.heap.size ≠ w3.heap.size := (by have := G3.out.kp.size; omega); have n6 : w2.heap.size ≠ w3.heap.size := (by have := G3.out.kp.size; omega); have n5' := n5.symm; have n6' := n6.symm; clear g1 g2 g3 g4 g5)
                | (refine step_app ((W2.drew.alloc (.cells #[] 3)).alloc (.cells #[.int .i64 0, .slice none 0 0] 120)) rfl (.tmp 68) (.tmp 70) 51 rfl 3 j0 _ 1 8 Tryz.underlying51 hj0 hy0 hy1 hy2 rfl (by decide) (by decide) (.slice (some ⟨W2.heap.size, 0, none⟩) 0 0) 0 [] (by simp [Act.eval]) G01.out.own (.slice xa na ya) na _ (by simp [Act.eval]) (SA.out.kp G01.out.kp (fun _ _ q => q)) O1.out (by omega) ?_; intro v1 w3 g1 g2 g3 g4 g5; obtain ⟨b1, d1, rfl⟩ := g1.form; have G3 := Lib.hid (G01.out.app g1 g2 g3); obtain ⟨⟨r10, r11⟩, r20, r21⟩ := CE.out _ G3.out.kp; have n5 : w1.heap.size ≠ w3.heap.size := (by have := G3.out.kp.size; omega); have n6 : w2.heap.size ≠ w3.heap.size := (by have := G3.out.kp.size; omega); have n5' := n5.symm; have n6' := n6.symm; clear g1 g2 g3 g4 g5)
                | (refine step_app (w3) rfl (.tmp 71) (.tmp 73) 51 rfl 3 j0 _ 1 8 Tryz.underlying51 hj0 hy0 hy1 hy2 rfl (by decide) (by decide) (.slice b1 (0 + na) d1) (0 + na) _ (by simp [Act.eval]) G3.out.own (.slice xb nb yb) nb _ (by simp [Act.eval]) (SB.out.kp G3.out.kp (fun _ _ q => q)) O2.out (by omega) ?_; intro v2 w5 f1 f2 f3 f4 f5; obtain ⟨b2, d2, rfl⟩ := f1.form; have G5 := Lib.hid (G3.out.app f1 f2 f3); obtain ⟨⟨s10, s11⟩, s20, s21⟩ := CE.out _ G5.out.kp; try (have z5 := (G5.out.at_ _ rfl).2; have x50 := (cell_of z5 0); have x51 := (cell_of z5 1); have f50 := free_of z5 0; have f51 := free_of z5 1; simp only [List.getElem?_toArray, List.getElem?_cons_zero, List.getElem?_cons_succ] at x50 x51); clear f1 f2 f3 f4 f5)
                | (refine step_app (w3.alloc (.cells #[.int .i64 0, .slice none 0 0] 120)) rfl (.tmp 71) (.tmp 73) 51 rfl 3 j0 _ 1 8 Tryz.underlying51 hj0 hy0 hy1 hy2 rfl (by decide) (by decide) (.slice b1 (0 + na) d1) (0 + na) _ (by simp [Act.eval]) G3.out.alloc.own (.slice xb nb yb) nb _ (by simp [Act.eval]) (SB.out.kp G3.out.alloc.kp (fun _ _ q => q)) O2.out (by omega) ?_; intro v2 w5 f1 f2 f3 f4 f5; obtain ⟨b2, d2, rfl⟩ := f1.form; have G5 := Lib.hid (G3.out.alloc.app f1 f2 f3); obtain ⟨⟨s10, s11⟩, s20, s21⟩ := CE.out _ G5.out.kp; try (have z5 := (G5.out.at_ _ rfl).2; have x50 := (cell_of z5 0); have x51 := (cell_of z5 1); have f50 := free_of z5 0; have f51 := free_of z5 1; simp only [List.getElem?_toArray, List.getElem?_cons_zero, List.getElem?_cons_succ] at x50 x51); clear f1 f2 f3 f4 f5)))
              all_goals (go_wp2_with fail; go_meet; have G6 := G5.out; rw [Nat.zero_add, List.nil_append] at G6; rw [← Int.natCast_add]; first | exact G6.fin_alloc | exact G6.fin_set)
            case rest =>
              obtain ⟨g, bC, dC, rfl, hg, hC, hO, hN, hK⟩ := hcut
              have hsC : SlR wc 1 (.slice bC (na + nb) dC) (na + nb) (ta.s.map nv ++ tb.s.map nv) := hO.sl
              have hTC := HJT.out wc bC dC hsC
              have hlC : tc.s.length = na + nb := hTC.len
              have hltN : ∀ i, i ∈ tc.s → i < cs.length := fun i hi => by
                have hpp := PT.out
                rcases HJ.out.mem_s.1 hi with q | q
                · exact ST.out.lt ta (hpp.mem_iff.2 (by simp)) i q
                · exact ST.out.lt tb (hpp.mem_iff.2 (by simp)) i q
              have hgo : g ≠ w.heap.size := by have := KW.out.size; omega
              have hwW1 : w.heap.size < W1.heap.size := by have := K1.out.size; omega
              have QT2 : Hid (∀ p, p ∈ Qs → Tv W2 p.1 p.2 ∧ ∀ b, p.2.ownBlock = some b → b < W1.heap.size ∧ b ≠ w.heap.size) := Lib.hid (fun p hp => ⟨(QT.out p hp).1, fun b hb => ⟨by have := (QT.out p hp).2 b hb; have := K1.out.size; omega, fun e => (HA.out w.heap.size rfl).2 p (P1.out.mem_iff.2 (List.mem_cons_of_mem _ (P2.out.mem_iff.2 (List.mem_cons_of_mem _ hp)))) (by rw [hb, e])⟩⟩)
              have hLx := HL.out.kp (KW.out.trans hK) (fun _ _ q => q)
              have HC1 := Lib.hid hC
              have HTC := Lib.hid hTC
              have HNX := Lib.hid hN
              have HKX := Lib.hid hK
              have HLT := Lib.hid hltN
              have HLC := Lib.hid hlC
              have hmc : 0 < tc.s.length := hTC.pos
              clear hC hO hN hK hsC hTC hltN
              go_wp2_with fail
              go_loopw [7, 13] (fun m i wr => ∃ (j : Nat) (m' : Nat), j ≤ tc.s.length ∧ i = .int .i64 j ∧ m = .int .i64 m' ∧ Lo w.heap.size wr (.slice (some ⟨w.heap.size, 0, none⟩) cs.length cs.length) cs.length (bump (tc.s.take j) L) ∧ Most cs.length (bump (tc.s.take j) L) m' ∧ Kp (· = w.heap.size) wc wr) (fun _ i _ => tc.s.length - (intOf i).toNat)
              case atStart => exact ⟨0, mm, Nat.zero_le _, rfl, rfl, by rw [List.take_zero, bump_nil]; exact hLx, by rw [List.take_zero, bump_nil]; exact HMO.out, Kp.refl _ _⟩
              case round =>
                clear hLx
                obtain ⟨j, m', hj, rfl, rfl, hL, hM, hk⟩ := hrel
                have hbox := cell_of (hk.at_ HC1.out (fun q => hgo q))
                have hb1 : wr.cell? ⟨g, 1, none⟩ = some (.slice bC (na + nb) dC) := by rw [hbox]; rfl
                have hb0 : wr.cell? ⟨g, 0, none⟩ = some (.int .i64 ((ta.n + tb.n : Nat) : Int)) := by rw [hbox]; rfl
                have hS1 := HTC.out.sl
                have hS2 : SlR wr 1 (.slice bC tc.s.length dC) tc.s.length (tc.s.map nv) := by
                  have := hS1.kp hk (fun b hb e => by have := (HNX.out b hb).1; have := KW.out.size; omega)
                  rw [← HLC.out] at this; exact this
                obtain ⟨g2, off2, eb, hg2, hcap2, hc2⟩ := at_nv hS2 hmc
                have hg2o : g2 ≠ w.heap.size := by
                  have := (HNX.out g2 (by rw [eb]; rfl)).1
                  have := KW.out.size
                  omega
                have HLo := Lib.hid hL
                have HMo := Lib.hid hM
                have HKo := Lib.hid hk
                rw [HLC.out] at hcap2
                by_cases hlt : j < tc.s.length
                · have hcj := hc2 j hlt
                  have hsN := HLT.out _ (List.getElem_mem hlt)
                  have hBT := Lib.hid (bump_take hlt L)
                  obtain ⟨s, hs⟩ : ∃ s, s = tc.s[j] := ⟨_, rfl⟩
                  rw [← hs] at hcj hsN
                  obtain ⟨g3, eg3, hg3, _, _, f0, f1, f2, f3⟩ := hL.at_ hsN
                  simp only [Option.some.injEq, Addr.mk.injEq, and_true] at eg3
                  subst eg3
                  have hlv : bump (tc.s.take j) L s ≤ m' := hM.le s hsN
                  have hbd : bump (tc.s.take j) L s ≤ 1000 := by
                    have h1 := ST.out.len s
                    have h2 : (tc.s.take j).count s ≤ (tc.s.take j).length := List.count_le_length
                    rw [List.length_take] at h2
                    unfold bump
                    omega
                  obtain ⟨x, hx⟩ : ∃ x, x = bump (tc.s.take j) L s := ⟨_, rfl⟩
                  rw [← hx] at f0 f2 f3 hlv hbd
                  have F2 := Lib.hid f2
                  have F3 := Lib.hid f3
                  have HX := Lib.hid hx
                  have HSS := Lib.hid hs
                  subst eb
                  have hjn : j < na + nb := by omega
                  clear hc2 hS1 hS2 f2 f3 hx hs hL hM hk hbox
                  go_wp2_with fail
                  refine ⟨⟨j + 1, max m' (x + 1), by omega, by go_num, by go_num, ?_, ?_, ?_⟩, by simp [intOf]; omega⟩
                  · rw [hBT.out, ← HSS.out]; exact F2.out
                  · rw [hBT.out, ← HSS.out, HX.out]; exact HMo.out.bump hsN
                  · exact HKo.out.trans F3.out
                · obtain rfl : j = tc.s.length := by omega
                  rw [← HCM.out] at hb0
                  have hTr := HTC.out.kp hk (fun b hb e => by have := (HNX.out b hb).1; have := KW.out.size; omega)
                  have hsz2 : W2.heap.size ≤ wr.heap.size := Nat.le_trans HKX.out.size hk.size
                  have hwr2 : w.heap.size < wr.heap.size := by have := KW.out.size; omega
                  have hF : Fo w.heap.size wr 120 (.slice a2 Qs.length c2) Qs := ⟨((HQ1.out.kp HKX.out (fun _ _ q => q)).kp hk (fun b hb e => by have := U2.out b hb; omega)).toO, (fun b hb => by have := U2.out b hb; omega),
                    (fun p hp => ((QT2.out p hp).1.kp HKX.out (fun _ _ q => q)).kp hk (fun b hb e => ((QT2.out p hp).2 b hb).2 e)), fun p hp b hb e => by have := ((QT2.out p hp).2 b hb).1; have := U2.out b e; omega⟩
                  have hst2 := ST.out.step PT.out HA1.out HA2.out HJ.out (r' := Qs.map (·.1) ++ [tc]) (List.perm_append_comm (l₁ := Qs.map (·.1)) (l₂ := [tc]))
                  rw [List.take_length] at hL hM
                  have hkw : Kp (fun _ => False) w wr := (HK.out.trans (KW.out.trans HKX.out)).up hk (fun i e => by rw [e]; exact Nat.le_refl _)
                  have hql : Qs.length + 2 = Gs.length := by have h1 := P1.out.length_eq; have h2 := P2.out.length_eq; simp only [List.length_cons] at h1 h2; omega
                  obtain ⟨Wd, hWd⟩ : ∃ W, W = wr.alloc (.cells #[.int .i64 (tc.n : Nat), .slice bC (na + nb) dC] 120) := ⟨_, rfl⟩
                  have kd : Kp (fun _ => False) wr Wd := by rw [hWd]; exact (Kp.refl _ _).alloc _
                  have bd : Wd.heap[wr.heap.size]? = some (.cells #[.int .i64 (tc.n : Nat), .slice bC (na + nb) dC] 120 (0, 0)) := by rw [hWd]; exact alloc_at _ _
                  have hsd : Wd.heap.size = wr.heap.size + 1 := by rw [hWd]; simp
                  have FQ := Lib.hid (hF.kp kd (fun _ _ q => q) (fun _ _ _ _ q => q))
                  have SS := Lib.hid (one_sl bd)
                  have TT := Lib.hid (hTr.kp kd (fun _ _ q => q))
                  have O3 := Lib.hid (E_one1 hTr)
                  have LL := Lib.hid (hL.kp kd (fun _ _ q => q))
                  have KWD := Lib.hid (hkw.trans kd)
                  have SZ := Lib.hid hsd
                  have ST2 := Lib.hid hst2
                  have MM := Lib.hid hM
                  have HQL := Lib.hid hql
                  have hb32 : (Qs.length + 1) * 32 ≤ 140737488355328 := by omega
                  clear hc2 hS1 hS2 hL hM hk hbox hF hst2 hkw kd bd hsd hTr hql eb
                  go_wp2_with (at_builtin; rw [← hWd]; refine wpList_appO _ rfl _ _ 118 rfl 120 i0 _ 2 32 Tryz.underlying118 hi0 hz0 hz1 hz2 rfl (by decide) (by decide) (.slice a2 Qs.length c2) Qs.length _ rfl FQ.out.row (.slice (some ⟨wr.heap.size, 0, none⟩) 1 1) 1 _ rfl SS.out O3.out hb32 ?_; intro v' w7 g1 g2 g3 g4 g5; obtain ⟨b7, d7, rfl⟩ := g1.form; have G1 := Lib.hid g1; have G2 := Lib.hid g2; have G3 := Lib.hid g3; clear g1 g2 g3 g4 g5)
                  have hbC : ∀ b, (Value.slice bC (na + nb) dC).ownBlock = some b → b ≠ w.heap.size ∧ W2.heap.size ≤ b := fun b hb => by have h7 := (HNX.out b hb).1; have := KW.out.size; exact ⟨by omega, h7⟩
                  have P3 := FQ.out.push (by have := SZ.out; omega) TT.out (fun b hb q => by have := U2.out b q; have := (hbC b hb).2; have := FQ.out.row.lt q; have := HQ1.out.lt q; omega) G1.out G2.out G3.out
                  refine ⟨?_, (by have := HQL.out; simp [lenOf]; omega)⟩
                  refine ⟨Qs ++ [(tc, .slice bC (na + nb) dC)], bump tc.s L, m', b7, d7, rfl, by simp, by simpa using P3, by rw [List.map_append]; exact ST2.out, ?_, ?_, ?_, ?_, MM.out⟩
                  · exact LL.out.kp G2.out (fun b hb e => by have := U2.out b e; have := own_b hb; omega)
                  · intro b hb
                    have e := own_b hb
                    subst e
                    refine ⟨fun q => ?_, fun p hp q => ?_⟩
                    · rw [List.length_append] at q
                      rcases G3.out with q' | q'
                      · have := U2.out _ (q'.symm.trans q); omega
                      · have q'' := q'.symm.trans q; simp at q''; have := SZ.out; omega
                    · rcases List.mem_append.1 hp with hp | hp
                      · exact ((QT2.out p hp).2 _ q).2 rfl
                      · rw [List.mem_singleton] at hp; subst hp
                        exact (hbC _ q).1 rfl
                  · exact KWD.out.up G2.out (fun i q => FQ.out.new i q)
                  · have := G2.out.size; have := SZ.out; omega
          · go_wp2_with fail
            go_ret2
            refine ⟨L, mm, _, _, rfl, .inr ⟨H1.out, ST.out.done (by simp; omega)⟩, HL.out, HK.out, HMO.out.le, fun q => ?_⟩
            rcases HMO.out.is with e | ⟨i, hi, e⟩
            · omega
            · exact ⟨i, hi, by omega⟩
end Go.Proofs.YtphakpikalmghaaGreat.Hu
namespace Go.Proofs.YtphakpikalmghaaGreat.Hu
open Go Go.RowKit Go.ChangeMaps Go.MapKept Go.Mg Go.Hf Go.Sort

def LensPost (w : World) (cs : List Nat) (e : Ending) (w' : World) : Prop :=
  ∃ (L : Nat → Nat) (a : Option Addr) (c : Nat), e = .returned (.slice a cs.length c) ∧ IsLens cs L ∧ Lo w.heap.size w' (.slice a cs.length c) cs.length L ∧ Kp (fun _ => False) w w'
/-- What the numbers of a row come to. -/
def rowSum (w : World) (v : Value) (n : Nat) : Nat := ((List.range n).map fun i => match v with
  | .slice (some ⟨g, off, _⟩) _ _ => (match w.cell? ⟨g, off + i, none⟩ with | some (.int _ x) => x.toNat | _ => 0)
  | _ => 0).sum
theorem rowSum_eq {w : World} {a : Option Addr} {c : Nat} {cs : List Nat} (h : SlR w 1 (.slice a cs.length c) cs.length (cs.map nv)) : rowSum w (.slice a cs.length c) cs.length = cs.sum := by
  by_cases h0 : 0 < cs.length
  · obtain ⟨g, off, rfl, _, _, hc⟩ := at_nv h h0
    unfold rowSum
    congr 1
    apply List.ext_getElem
    · simp
    · intro i h1 h2
      simp only [List.getElem_map, List.getElem_range]
      rw [hc i h2]
      simp
  · have : cs = [] := List.eq_nil_of_length_eq_zero (by omega)
    subst this
    rfl
theorem half_set {cs : List Nat} {j : Nat} (hj : j < cs.length) : (((cs.take j).map half ++ cs.drop j).map nv).set j (nv (half cs[j])) = ((cs.take (j + 1)).map half ++ cs.drop (j + 1)).map nv := by
  rw [← List.map_set]
  congr 1
  have e : ((cs.take j).map half).length = j := by simp; omega
  rw [List.set_append_right (h := by omega), e, Nat.sub_self, List.drop_eq_getElem_cons hj, List.set_cons_zero, List.take_succ_eq_append_getElem hj, List.map_append, List.append_assoc]
  rfl
theorem half_at {cs : List Nat} {j : Nat} (hj : j < cs.length) : (((cs.take j).map half ++ cs.drop j).map nv)[j]? = some (nv cs[j]) := by
  rw [List.getElem?_map, List.getElem?_append_right (by simp; omega)]
  simp [Nat.min_eq_left (Nat.le_of_lt hj), hj]

set_option maxRecDepth 100000 in
set_option maxHeartbeats 1000000 in
theorem lens_d (w : World) (cs : List Nat) (a : Option Addr) (c : Nat) (h : SlR w 1 (.slice a cs.length c) cs.length (cs.map nv)) (hlen : cs.length ≤ 256) (hS : cs.sum ≤ 1125899906842624) :
    Calls Tryz.prog 31 #[.slice a cs.length c] w (LensPost w cs) := by
  obtain ⟨j0, hj0, hy0, hy1, hy2⟩ := info_parts infoI
  have k0 : Kp (fun _ => False) w (w.alloc (.cells #[] 3)) := (Kp.refl _ _).alloc _
  have HN := Lib.hid (own_none w 3 1)
  have HC := Lib.hid (h.kp k0 (fun _ _ q => q))
  have O1 := Lib.hid (nv_one cs)
  have HS := Lib.hid hS
  have K0 := Lib.hid k0
  clear h hS k0
  go_enter Tryz.func31, Tryz.ntmps31
  go_wp2_with (at_builtin; refine wpList_app _ rfl _ _ 51 rfl 3 j0 _ 1 8 Tryz.underlying51 hj0 hy0 hy1 hy2 rfl (by decide) (by decide) (.slice (some ⟨w.heap.size, 0, none⟩) 0 0) 0 [] rfl HN.out (.slice a cs.length c) cs.length _ rfl HC.out O1.out (by omega) ?_; intro v' w1 g1 g2 g3 g4 g5; rw [Nat.zero_add, List.nil_append] at g1; obtain ⟨b1, d1, rfl⟩ := g1.form; have G1 := Lib.hid g1; have G2 := Lib.hid (K0.out.up g2 (fun i e => (by have := own_b e; omega))); have G3 := Lib.hid g3; clear g1 g2 g3 g4 g5)
  have hnew : ∀ b, (Value.slice b1 cs.length d1).ownBlock = some b → w.heap.size ≤ b := by
    intro b hb
    rcases G3.out with q | q
    · have := own_b (q.symm.trans hb); omega
    · have := q.symm.trans hb; simp at this; omega
  have HNW := Lib.hid hnew
  clear hnew
  go_loopw [] (fun wr => ∃ cs' : List Nat, cs'.length = cs.length ∧ (∀ L, IsLens cs' L → IsLens cs L) ∧ OwnR wr 3 1 (.slice b1 cs.length d1) cs.length (cs'.map nv) ∧ cs'.sum ≤ cs.sum ∧ Kp (fun _ => False) w wr) (fun wr => rowSum wr (.slice b1 cs.length d1) cs.length)
  case atStart => exact ⟨cs, rfl, fun _ h => h, G1.out, Nat.le_refl _, G2.out⟩
  case round =>
    obtain ⟨cs', hl, hi, ho, hsum, hk⟩ := hrel
    have hsl := ho.sl
    rw [← hl] at hsl
    have HI := Lib.hid hi
    have HO := Lib.hid ho
    have HSM := Lib.hid hsum
    have HK := Lib.hid hk
    have HM := Lib.hid (rowSum_eq hsl)
    have hS' := Nat.le_trans hsum HS.out
    have HS' := Lib.hid hS'
    have HLL := Lib.hid hl
    clear hi ho hsum hk
    go_wp2_with fail
    rw [← hl]
    refine (once_c wr cs' b1 d1 hsl (by omega) hS').mono ?_
    rintro e w2 ⟨L, m, aL, cL, rfl, hJ, hL, hk2, hm1, hm2⟩
    have HJ := Lib.hid hJ
    have HL := Lib.hid hL
    have HK2 := Lib.hid hk2
    have HM1 := Lib.hid hm1
    have HM2 := Lib.hid hm2
    clear hsl hJ hL hk2 hm1 hm2 hS'
    by_cases hm : m ≤ 11
    · go_wp2_with fail
      go_ret
      have h1 : IsLens cs' L := .done HJ.out (fun i hi => Nat.le_trans (HM1.out i hi) hm)
      have h2 := HL.out
      refine ⟨L, aL, cL, rfl, HI.out L h1, ?_, HK.out.trans HK2.out⟩
      rw [← HLL.out]
      exact ⟨h2.row, fun b hb => Nat.le_trans HK.out.size (h2.new b hb)⟩
    · have hfall := HJ.out.falls (by omega) (HM2.out (by omega))
      have HF := Lib.hid hfall
      have HH := Lib.hid (fun L' (k : IsLens (cs'.map half) L') => IsLens.half HJ.out (HM2.out (by omega)) k)
      have ho2 : OwnR w2 3 1 (.slice b1 cs.length d1) cs.length (cs'.map nv) := HO.out.kp HK2.out (fun _ _ q => q)
      have HO2 := Lib.hid ho2
      clear hfall ho2
      go_wp2_with fail
      go_loopw [6] (fun i wr => ∃ j : Nat, j ≤ cs'.length ∧ i = .int .i64 j ∧ OwnR wr 3 1 (.slice b1 cs.length d1) cs.length (((cs'.take j).map half ++ cs'.drop j).map nv) ∧ Kp (fun _ => False) w wr) (fun i _ => cs'.length - (intOf i).toNat)
      case atStart => exact ⟨0, Nat.zero_le _, rfl, by simpa using HO2.out, HK.out.trans HK2.out⟩
      case round =>
        obtain ⟨j, hj, rfl, ho, hk⟩ := hrel
        have HK3 := Lib.hid hk
        have HO3 := Lib.hid ho
        by_cases hlt : j < cs'.length
        · obtain ⟨g, eb, hcap, hat⟩ := ho.at1 (by omega)
          obtain ⟨q1, q2, q3⟩ := hat j (by omega)
          have d0 := q1 _ (half_at hlt)
          obtain ⟨q4, q5⟩ := q3 (nv (half cs'[j]))
          rw [half_set hlt] at q4
          have hle : cs'[j] ≤ 1125899906842624 := Nat.le_trans (by have := sum_mem (f := id) (List.getElem_mem hlt); simpa using this) HS'.out
          have HNB := HNW.out g (by rw [eb]; rfl)
          obtain ⟨x, hx⟩ : ∃ x, x = cs'[j] := ⟨_, rfl⟩
          rw [← hx] at d0 q4 q5 hle
          have Q4 := Lib.hid q4
          have Q5 := Lib.hid q5
          have hd0 : wr.cell? ⟨g, j, none⟩ = some (.int .i64 (x : Nat)) := d0
          have hdiv : (((x : Int) + 1).tdiv 2) = ((half x : Nat) : Int) := by rw [Int.tdiv_eq_ediv_of_nonneg (by omega)]; unfold half; omega
          clear q1 q3 q4 q5 hat hx ho hk d0
          subst eb
          have hjc : j < cs.length := by omega
          go_wp2_with fail
          have hwv : (Value.int .i64 (wrap64 ((half x : Nat) : Int))) = nv (half x) := by
            unfold nv
            rw [IntWalk.wrap64_in _ (by unfold half; omega)]
          rw [hwv]
          refine ⟨⟨j + 1, by omega, by go_num, Q4.out, HK3.out.trans2 Q5.out (fun i hi e => by omega)⟩, by simp [intOf]; omega⟩
        · obtain rfl : j = cs'.length := by omega
          go_wp2_with fail
          have ho4 := HO3.out
          rw [List.take_length, List.drop_length, List.append_nil] at ho4
          refine ⟨⟨cs'.map half, by simpa using HLL.out, fun L' k => HI.out L' (HH.out L' k), ho4, Nat.le_trans (half_sum_le cs') HSM.out, HK3.out⟩, ?_⟩
          have h5 := ho4.sl
          have e5 : (cs'.map half).length = cs.length := by simpa using HLL.out
          rw [← e5] at h5
          have h6 := rowSum_eq h5
          rw [e5] at h6
          have h7 := HM.out
          rw [HLL.out] at h7
          rw [h6, h7]
          exact HF.out
end Go.Proofs.YtphakpikalmghaaGreat.Hu
namespace Go.Proofs.YtphakpikalmghaaGreat.Hu
open Go Go.RowKit Go.ChangeMaps Go.MapKept Go.Mg Go.Hf Go.Sort Go.Proofs.YtphakpikalmghaaGreat.It

def JoinedPost (w : World) (cs : List Nat) (e : Ending) (w' : World) : Prop :=
  ∃ (L : Nat → Nat) (a : Option Addr) (c : Nat), e = .returned (.slice a cs.length c) ∧ Jd cs L ∧ Lo w.heap.size w' (.slice a cs.length c) cs.length L ∧ Kp (fun _ => False) w w'
def JoinP (ta tb : Tr) (ys : List Nat) : Prop := ∃ tc : Tr, Joins ta tb tc ∧ tc.s = ys ∧ IsMin tc.m tc.s ∧ Srt tc
theorem joinP {ta tb : Tr} {ys : List Nat} (mA : IsMin ta.m ta.s) (mB : IsMin tb.m tb.s) (h1 : ys.Perm (ta.s ++ tb.s)) (h2 : ys.Pairwise (· ≤ ·)) : JoinP ta tb ys := by
  refine ⟨⟨ta.n + tb.n, min ta.m tb.m, ys⟩, ⟨rfl, rfl, h1⟩, rfl, ⟨?_, ?_⟩, h2⟩
  · show min ta.m tb.m ∈ ys
    rw [h1.mem_iff, List.mem_append]
    rcases Nat.le_total ta.m tb.m with q | q
    · rw [Nat.min_eq_left q]; exact .inl mA.1
    · rw [Nat.min_eq_right q]; exact .inr mB.1
  · intro i hi
    show min ta.m tb.m ≤ i
    rcases List.mem_append.1 (h1.mem_iff.1 hi) with q | q
    · exact Nat.le_trans (Nat.min_le_left _ _) (mA.2 i q)
    · exact Nat.le_trans (Nat.min_le_right _ _) (mB.2 i q)
def JoinAtP (e : TypeId) (W : World) (ta tb : Tr) (s : Value) (w' : World) : Prop :=
  ∃ tc : Tr, Joins ta tb tc ∧ IsMin tc.m tc.s ∧ Srt tc ∧ tc.s.length = ta.s.length + tb.s.length ∧ JoinAt e W (ta.n + tb.n) (ta.s.length + tb.s.length) (tc.s.map nv) s w'
theorem sorted_o (vb : Nat) (a : Option Addr) (c n : Nat) (s : List Nat) (hn : s.length = n) (h0 : 0 < n) (hlen : n ≤ 1000) (w : World) (hvb : vb < w.heap.size) (hvc : w.cell? ⟨vb, 0, none⟩ = some (.slice a n c)) (hI : SlR w 1 (.slice a n c) n (s.map nv)) :
    Calls Tryz.prog 119 #[.func (.func 145) #[] #[.pointer (some ⟨vb, 0, none⟩)]] w fun e w' =>
      ∃ ys : List Nat, ys.Perm s ∧ ys.Pairwise (· ≤ ·) ∧ ∃ a c, e = .returned (.slice a n c) ∧ OwnR w' 3 1 (.slice a n c) n (ys.map nv) ∧ (∀ b, (Value.slice a n c).ownBlock = some b → w.heap.size ≤ b) ∧ Kp (fun _ => False) w w' := by
  subst hn
  exact sorted_c vb a c s h0 hlen w hvb hvc hI
theorem leaf_srt (i c : Nat) : Srt (leaf i c) := by simp [Srt, leaf]
set_option maxRecDepth 100000 in
set_option maxHeartbeats 6000000 in
theorem joined_c (w : World) (cs : List Nat) (a : Option Addr) (c : Nat) (h : SlR w 1 (.slice a cs.length c) cs.length (cs.map nv)) (hlen0 : cs.length ≤ 256) (hS : cs.sum ≤ 1125899906842624) :
    Calls Tryz.prog 86 #[.slice a cs.length c] w (JoinedPost w cs) := by
  have mixed : Tryz.prog.follows .mixedOrders = true := by kernel_rfl
  obtain ⟨cur, hcur, hmk⟩ := make_ints w cs.length (by omega)
  have L0 := Lib.hid (Lo.made (w := w) (n := cs.length) (by omega) hcur)
  have K0 : Hid (Kp (fun _ => False) w (w.alloc (.cells cur 3))) := Lib.hid ((Kp.refl _ _).alloc _)
  have HS := Lib.hid hS
  have HC := Lib.hid h
  clear h hcur hS
  go_enter Tryz.func86, Tryz.ntmps86
  go_wp2_with fail
  generalize hW : w.alloc (.cells cur 3) = W at L0 K0 ⊢
  have hwW : w.heap.size < W.heap.size := by rw [← hW]; simp
  clear hmk hW
  obtain ⟨i0, hi0, hz0, hz1, hz2⟩ := info_parts infoR
  obtain ⟨j0, hj0, hy0, hy1, hy2⟩ := info_parts infoI
  go_loopw [4, 15] (fun l i wr => ∃ (k : Nat) (Fs : List (Tr × Value)) (aL : Option Addr) (cL : Nat), k ≤ cs.length ∧ i = .int .i64 k ∧ l = .slice aL Fs.length cL ∧ Fo w.heap.size wr 144 (.slice aL Fs.length cL) Fs ∧ Fs.map (·.1) = forest (cs.take k) ∧ Fs.length ≤ k ∧ (∀ p, p ∈ Fs → Srt p.1) ∧
    Lo w.heap.size wr (.slice (some ⟨w.heap.size, 0, none⟩) cs.length cs.length) cs.length (fun _ => 0) ∧ Apart (.slice (some ⟨w.heap.size, 0, none⟩) cs.length cs.length) (.slice aL Fs.length cL) Fs ∧ Kp (fun _ => False) w wr ∧ w.heap.size < wr.heap.size) (fun _ i _ => cs.length - (intOf i).toNat)
  case atStart => exact ⟨0, [], none, 0, Nat.zero_le _, rfl, rfl, Fo.nil _ _ _, rfl, Nat.le_refl _, (fun p hp => by cases hp), L0.out, fun b hb => ⟨(by simp [Value.ownBlock]), fun p hp => by cases hp⟩, K0.out, hwW⟩
  case round =>
    obtain ⟨k, Fs, aL, cL, hk, rfl, rfl, hF, hm, hfl, hsr, hL, hA, hkp, hwr⟩ := hrel
    have HSR := Lib.hid hsr
    clear hsr
    have HF := Lib.hid hF
    have HM := Lib.hid hm
    have HL := Lib.hid hL
    have HA := Lib.hid hA
    have HK := Lib.hid hkp
    clear hF hm hL hA hkp
    by_cases hlt : k < cs.length
    · obtain ⟨g, off, ea, hg, hcap, hc⟩ := at_nv (HC.out.kp HK.out (fun _ _ q => q)) (show 0 < cs.length by omega)
      have d0 := hc k hlt
      clear hc
      obtain ⟨ck, hck⟩ : ∃ ck, ck = cs[k] := ⟨_, rfl⟩
      rw [← hck] at d0
      have hcm : ck ∈ cs := by rw [hck]; exact List.getElem_mem _
      have HCM := Lib.hid (forest_snoc (cs.take k) ck)
      have HT : Hid (cs.take (k + 1) = cs.take k ++ [ck]) := Lib.hid (by rw [hck, List.take_succ_eq_append_getElem hlt])
      have hlk : (cs.take k).length = k := by rw [List.length_take]; omega
      have HLK := Lib.hid hlk
      clear hck hcm hlk
      subst ea
      by_cases hpos : 0 < ck
      · -- a leaf
        have n1 : (wr.alloc (.cells #[.int .i64 (k : Nat)] 3)).heap[wr.heap.size]? = some (.cells #[nv k] 3 (0, 0)) := alloc_at wr _
        obtain ⟨w2, hw2⟩ : ∃ w2, w2 = (wr.alloc (.cells #[.int .i64 (k : Nat)] 3)).alloc (.cells #[.int .i64 (ck : Nat), .slice (some ⟨wr.heap.size, 0, none⟩) 1 1] 144) := ⟨_, rfl⟩
        have k2 : Kp (fun _ => False) wr w2 := by rw [hw2]; exact ((Kp.refl _ _).alloc _).alloc _
        have n1' : w2.heap[wr.heap.size]? = some (.cells #[nv k] 3 (0, 0)) := by rw [hw2]; exact (Below.heap_alloc _ _ _ (by simp)).trans n1
        have n2 : w2.heap[wr.heap.size + 1]? = some (.cells #[.int .i64 ((leaf k ck).n : Nat), .slice (some ⟨wr.heap.size, 0, none⟩) 1 1] 144 (0, 0)) := by
          rw [hw2]; have := alloc_at (wr.alloc (.cells #[.int .i64 (k : Nat)] 3)) (.cells #[.int .i64 (ck : Nat), .slice (some ⟨wr.heap.size, 0, none⟩) 1 1] 144); rwa [World.size_alloc] at this
        have hs2 : w2.heap.size = wr.heap.size + 2 := by rw [hw2]; simp
        have T2 := leaf_tv (i := k) (c := ck) n1'
        have F2 := HF.out.kp k2 (fun _ _ q => q) (fun _ _ _ _ q => q)
        have S2 := one_sl (t := leaf k ck) n2
        have TT := Lib.hid T2
        have FF := Lib.hid F2
        have SS := Lib.hid S2
        have KK := Lib.hid k2
        have O2 := Lib.hid (E_one1 T2)
        clear n1 n1' n2 k2 T2 F2 S2
        have hb32 : (Fs.length + 1) * 32 ≤ 140737488355328 := by omega
        go_wp2_with (at_builtin; rw [← hw2]; refine wpList_appO _ rfl _ _ 142 rfl 144 i0 _ 2 32 Tryz.underlying142 hi0 hz0 hz1 hz2 rfl (by decide) (by decide) (.slice aL Fs.length cL) Fs.length _ rfl FF.out.row (.slice (some ⟨wr.heap.size + 1, 0, none⟩) 1 1) 1 _ rfl SS.out O2.out hb32 ?_; intro v' w3 g1 g2 g3 g4 g5; obtain ⟨b1, d1, rfl⟩ := g1.form; have G1 := Lib.hid g1; have G2 := Lib.hid g2; have G3 := Lib.hid g3; clear g1 g2 g3 g4 g5)
        have P3 := FF.out.push (by omega) TT.out (fun b hb q => by have h1 := own_b hb; have := HF.out.row.lt q; omega) G1.out G2.out G3.out
        refine ⟨⟨k + 1, Fs ++ [(leaf k ck, .slice (some ⟨wr.heap.size, 0, none⟩) 1 1)], b1, d1, by omega, by go_num, by simp, by simpa using P3, ?_, by simp; omega, ?_, ?_, ?_, ?_, ?_⟩, by simp [intOf]; omega⟩
        · rw [HT.out, HCM.out, List.map_append, HM.out, HLK.out, if_pos hpos]; rfl
        · intro p hp
          rcases List.mem_append.1 hp with hp | hp
          · exact HSR.out p hp
          · rw [List.mem_singleton] at hp; subst hp; exact leaf_srt _ _
        · exact (HL.out.kp KK.out (fun _ _ q => q)).kp G2.out (fun b hb q => (HA.out b hb).1 q)
        · intro b hb
          have e := own_b hb
          subst e
          refine ⟨fun q => ?_, fun p hp q => ?_⟩
          · rw [List.length_append] at q
            rcases G3.out with q' | q'
            · exact (HA.out _ hb).1 (q'.symm.trans q)
            · have q'' := q'.symm.trans q; simp at q''; omega
          · rcases List.mem_append.1 hp with hp | hp
            · exact (HA.out _ hb).2 p hp q
            · rw [List.mem_singleton] at hp; subst hp
              have := own_b q; omega
        · exact (HK.out.trans KK.out).up G2.out (fun i q => HF.out.new i q)
        · have := G2.out.size; omega
      · obtain rfl : ck = 0 := by omega
        go_wp2_with fail
        refine ⟨⟨k + 1, Fs, aL, cL, by omega, by go_num, rfl, HF.out, ?_, by omega, HSR.out, HL.out, HA.out, HK.out, hwr⟩, by simp [intOf]; omega⟩
        rw [HT.out, HCM.out, HM.out]
        simp
    · obtain rfl : k = cs.length := by omega
      have hforest : Fs.map (·.1) = forest cs := by rw [HM.out, List.take_length]
      have HFO := Lib.hid hforest
      clear HM hforest
      by_cases h1 : Fs.length = 1
      · obtain ⟨p, rfl⟩ : ∃ p, Fs = [p] := List.length_eq_one_iff.1 h1
        obtain ⟨t, v⟩ := p
        obtain ⟨g, off, ea, hg, hcap, hc⟩ := at_E HF.out.row.sl (by simp)
        obtain ⟨d0, d1⟩ := hc 0 (by simp)
        have ht : t ∈ forest cs := by rw [← HFO.out]; simp
        obtain ⟨j, hj, et, _⟩ := mem_forestFrom ht
        rw [Nat.zero_add] at et
        obtain ⟨xa, xc, ev, hxs, _, _⟩ := HF.out.trees _ (List.mem_singleton.2 rfl)
        simp only at ev
        have hs1 : t.s = [j] := by rw [et]; rfl
        simp only [ev, hs1] at hxs
        obtain ⟨g2, off2, ex, hg2, hcap2, hc2⟩ := at_nv (s := [j]) hxs (by simp)
        have e0 := hc2 0 (by simp)
        simp only [ex, ev, hs1, List.length_singleton, List.getElem_cons_zero, Nat.zero_mul, Nat.add_zero] at d0 d1 e0 hcap2
        subst ea
        obtain ⟨g3, eg3, hg3, _, _, f0, f1, f2, f3⟩ := HL.out.at_ hj
        simp only [Option.some.injEq, Addr.mk.injEq, and_true] at eg3
        subst eg3
        have hj' : j < cs.length := hj
        have HTM : Hid (t.m = j) := Lib.hid (by rw [et]; rfl)
        have F2 := Lib.hid f2
        have F3 := Lib.hid f3
        clear hc hc2 f2 f3 ht et ev hs1 hxs
        simp only [List.length_singleton] at h1 hcap
        go_wp2_with fail
        go_ret
        refine ⟨bump [j] (fun _ => 0), _, _, rfl, .inl ⟨t, by rw [← HFO.out]; rfl, ?_⟩, F2.out, (HK.out.trans2 F3.out (fun i hi e => by omega))⟩
        rw [bump_one, HTM.out]
      · have hst : Fst cs.length cs.sum (forest cs) (Fs.map (·.1)) (fun _ => 0) := by rw [HFO.out]; exact Fst.start cs
        have ST := Lib.hid hst
        have h1' : ((Fs.length : Int) == 1) = false := by rw [beq_eq_false_iff_ne]; omega
        have H1 : Hid ((forest cs).length ≠ 1) := Lib.hid (by rw [← HFO.out, List.length_map]; exact h1)
        clear hst
        go_wp2_with fail
        go_loopw [4] (fun l wr => ∃ (Fs : List (Tr × Value)) (L : Nat → Nat) (aL : Option Addr) (cL : Nat), l = .slice aL Fs.length cL ∧ Fo w.heap.size wr 144 (.slice aL Fs.length cL) Fs ∧ (∀ p, p ∈ Fs → Srt p.1) ∧ Fst cs.length cs.sum (forest cs) (Fs.map (·.1)) L ∧
          Lo w.heap.size wr (.slice (some ⟨w.heap.size, 0, none⟩) cs.length cs.length) cs.length L ∧ Apart (.slice (some ⟨w.heap.size, 0, none⟩) cs.length cs.length) (.slice aL Fs.length cL) Fs ∧ Kp (fun _ => False) w wr ∧ w.heap.size < wr.heap.size) (fun l _ => lenOf l)
        case atStart => exact ⟨Fs, _, aL, cL, rfl, HF.out, HSR.out, ST.out, HL.out, HA.out, HK.out, hwr⟩
        case round =>
          clear HFO HF HL HA HK ST HSR h1 h1'
          obtain ⟨Gs, L, bL, dL, rfl, hF, hsr, hst, hL, hA, hkp, hwr⟩ := hrel
          have HF := Lib.hid hF
          have HSR := Lib.hid hsr
          have ST := Lib.hid hst
          have HL := Lib.hid hL
          have HA := Lib.hid hA
          have HK := Lib.hid hkp
          clear hF hsr hst hL hA hkp
          by_cases h1 : 1 < Gs.length
          · have hlg : Gs.length ≤ 256 := by have := ST.out.len 0; simp at this; omega
            obtain ⟨gl, ol, el, hgl, hcl, _⟩ := at_E HF.out.row.sl (by omega)
            subst el
            go_wp2_with fail
            refine (sort_c wr gl ol dL Gs HF.out HSR.out (by omega) (by omega)).mono ?_
            rintro e w1 ⟨rfl, Hs, hperm, hF, hpair, hk1⟩
            have hlen : Hs.length = Gs.length := hperm.length_eq
            have hsr : ∀ p, p ∈ Hs → Srt p.1 := fun p hp => HSR.out p (hperm.mem_iff.1 hp)
            have hst := ST.out.perm (hperm.symm.map (·.1))
            have hglo : gl ≠ w.heap.size := fun e => (HA.out w.heap.size rfl).1 (by rw [e]; rfl)
            have hglB : w.heap.size ≤ gl := HF.out.new gl rfl
            have hL : Lo w.heap.size w1 (.slice (some ⟨w.heap.size, 0, none⟩) cs.length cs.length) cs.length L := HL.out.kp hk1 (fun b hb e => by have := own_b hb; omega)
            have hA : ∀ p, p ∈ Hs → p.2.ownBlock ≠ some w.heap.size := fun p hp => (HA.out w.heap.size rfl).2 p (hperm.mem_iff.1 hp)
            have hk : Kp (fun _ => False) w w1 := HK.out.up hk1 (fun i e => by rw [e]; exact hglB)
            have hw1 : w.heap.size < w1.heap.size := Nat.lt_of_lt_of_le hwr hk1.size
            have hgl1 : gl < w1.heap.size := Nat.lt_of_lt_of_le hgl hk1.size
            have hF0 : Fo w.heap.size w1 144 (.slice (some ⟨gl, ol, none⟩) Hs.length dL) Hs := by rw [hlen]; exact hF
            obtain ⟨nl, hnl⟩ : ∃ nl, nl = Gs.length := ⟨_, rfl⟩
            rw [← hnl] at hF hcl h1 hlg hlen ⊢
            have HNL := Lib.hid hnl
            clear hnl
            have hn0 : 0 < nl := by omega
            have hnz0 : (0 : Int) < (nl : Int) := by omega
            have hnz1 : (1 : Int) < (nl : Int) := by omega
            clear HF HSR ST HL HA HK hperm hk1
            obtain ⟨⟨ta, va⟩, Rs, rfl⟩ : ∃ p Rs, Hs = p :: Rs := by
              cases Hs with
              | nil => simp at hlen; omega
              | cons p Rs => exact ⟨p, Rs, rfl⟩
            obtain ⟨⟨tb, vb⟩, Qs, rfl⟩ : ∃ p Qs, Rs = p :: Qs := by
              cases Rs with
              | nil => simp at hlen; omega
              | cons p Qs => exact ⟨p, Qs, rfl⟩
            obtain ⟨g', o', eg, _, _, hc⟩ := at_E hF0.row.sl (by simp)
            simp only [Option.some.injEq, Addr.mk.injEq, and_true] at eg
            obtain ⟨rfl, rfl⟩ := eg
            obtain ⟨c10, c11⟩ := hc 0 (by simp)
            obtain ⟨c20, c21⟩ := hc 1 (by simp)
            simp only [List.getElem_cons_zero, List.getElem_cons_succ, Nat.zero_mul, Nat.add_zero, Nat.one_mul] at c10 c11 c20 c21
            have hTA := hF.trees (ta, va) (by simp)
            have hTB := hF.trees (tb, vb) (by simp)
            obtain ⟨xa, ya, eva, _⟩ := hTA
            obtain ⟨xb, yb, evb, _⟩ := hTB
            simp only at eva evb
            subst eva
            subst evb
            have hpmT : (((ta, Value.slice xa ta.s.length ya) :: (tb, Value.slice xb tb.s.length yb) :: Qs).map (·.1)).Perm (ta :: tb :: Qs.map (·.1)) := List.Perm.refl _
            obtain ⟨hcn, hcl2⟩ := hst.two hpmT
            have hA1 : ∀ t, t ∈ tb :: Qs.map (·.1) → ¬ Lt t ta := fun t ht => by
              obtain ⟨p, hp, e⟩ := List.mem_map.1 (show t ∈ ((tb, Value.slice xb tb.s.length yb) :: Qs).map (·.1) from ht)
              subst e
              obtain ⟨i, hi, rfl⟩ := List.getElem_of_mem hp
              exact hpair 0 (i + 1) (by omega) (by simp at hi ⊢; omega)
            have hA2 : ∀ t, t ∈ Qs.map (·.1) → ¬ Lt t tb := fun t ht => by
              obtain ⟨p, hp, e⟩ := List.mem_map.1 ht
              subst e
              obtain ⟨i, hi, rfl⟩ := List.getElem_of_mem hp
              exact hpair 1 (i + 2) (by omega) (by simp at hi ⊢; omega)
            have hsA := (hF.trees (ta, .slice xa ta.s.length ya) (by simp)).sl
            have hsB := (hF.trees (tb, .slice xb tb.s.length yb) (by simp)).sl
            have hpA := (hF.trees (ta, .slice xa ta.s.length ya) (by simp)).pos
            have hpB := (hF.trees (tb, .slice xb tb.s.length yb) (by simp)).pos
            obtain ⟨_, _, _, _, mA, _⟩ := hF.trees (ta, .slice xa ta.s.length ya) (by simp)
            obtain ⟨_, _, _, _, mB, _⟩ := hF.trees (tb, .slice xb tb.s.length yb) (by simp)
            have hJ : ∀ ys : List Nat, ys.Perm (ta.s ++ tb.s) → ys.Pairwise (· ≤ ·) → JoinP ta tb ys := fun ys h1 h2 => joinP mA mB h1 h2
            have HJ := Lib.hid hJ
            have HF := Lib.hid hF
            have HSR := Lib.hid hsr
            have ST := Lib.hid hst
            have HL := Lib.hid hL
            have HA := Lib.hid hA
            have HK := Lib.hid hk
            have HA1 := Lib.hid hA1
            have HA2 := Lib.hid hA2
            have SA := Lib.hid hsA
            have SB := Lib.hid hsB
            have hws : IntKind.i64.wrap ((ta.n : Int) + (tb.n : Int)) = (ta.n : Int) + (tb.n : Int) := by rw [IntKind.wrap_i64]; have := HS.out; omega
            have hl8 : ta.s.length + tb.s.length ≤ 256 := Nat.le_trans hcl2 hlen0
            have HLEN := Lib.hid hlen
            clear hF hF0 hsr hst hL hA hk hA1 hA2 hsA hsB mA mB hJ hc hpair hlen hpmT
            have c21' : w1.cell? ⟨gl, ol + 3, none⟩ = some (.slice xb tb.s.length yb) := c21
            have G0 := Lib.hid (Gro.pair 144 w1 (.cells #[.slice xa ta.s.length ya, .slice xb tb.s.length yb] 51))
            have G00 := Lib.hid (Gro.pair2 144 w1 (.cells #[.slice xa ta.s.length ya, .slice xb tb.s.length yb] 51))
            have G01 := Lib.hid (Gro.pair3 144 w1 (.cells #[.slice xa ta.s.length ya, .slice xb tb.s.length yb] 51))
            have bf0 : (w1.drew.alloc (.cells #[.slice xa ta.s.length ya, .slice xb tb.s.length yb] 51)).heap[w1.heap.size]? = some (.cells #[.slice xa ta.s.length ya, .slice xb tb.s.length yb] 51 (0, 0)) := alloc_at w1.drew _
            have bf1 : ((w1.drew.alloc (.cells #[.int .i64 0, .slice none 0 0] 144)).alloc (.cells #[.slice xa ta.s.length ya, .slice xb tb.s.length yb] 51)).heap[w1.heap.size + 1]? = some (.cells #[.slice xa ta.s.length ya, .slice xb tb.s.length yb] 51 (0, 0)) := by have := alloc_at (w1.drew.alloc (.cells #[.int .i64 0, .slice none 0 0] 144)) (.cells #[.slice xa ta.s.length ya, .slice xb tb.s.length yb] 51); rwa [World.size_alloc] at this
            have bf2 : ((w1.drew.alloc (.cells #[.slice xa ta.s.length ya, .slice xb tb.s.length yb] 51)).alloc (.cells #[.int .i64 0, .slice none 0 0] 144)).heap[w1.heap.size]? = some (.cells #[.slice xa ta.s.length ya, .slice xb tb.s.length yb] 51 (0, 0)) := (Below.heap_alloc _ _ _ (by simp)).trans (alloc_at w1.drew _)
            have BF0 := Lib.hid bf0
            have BF1 := Lib.hid bf1
            have BF2 := Lib.hid bf2
            have cells : ∀ V, Kp (fun _ => False) w1 V → (V.cell? ⟨gl, ol, none⟩ = some (.int .i64 (ta.n : Nat)) ∧ V.cell? ⟨gl, ol + 1, none⟩ = some (.slice xa ta.s.length ya)) ∧ V.cell? ⟨gl, ol + 2, none⟩ = some (.int .i64 (tb.n : Nat)) ∧ V.cell? ⟨gl, ol + 3, none⟩ = some (.slice xb tb.s.length yb) := fun V kk =>
              ⟨⟨(kk.cell (p := ⟨gl, ol, none⟩) hgl1 (fun q => q)).trans c10, (kk.cell (p := ⟨gl, ol + 1, none⟩) hgl1 (fun q => q)).trans c11⟩, (kk.cell (p := ⟨gl, ol + 2, none⟩) hgl1 (fun q => q)).trans c20, (kk.cell (p := ⟨gl, ol + 3, none⟩) hgl1 (fun q => q)).trans c21'⟩
            have CE := Lib.hid cells
            obtain ⟨⟨q10, q11⟩, q20, q21⟩ := cells _ G0.out.kp
            obtain ⟨⟨p10, p11⟩, p20, p21⟩ := cells _ G00.out.kp
            obtain ⟨⟨o10, o11⟩, o20, o21⟩ := cells _ G01.out.kp
            obtain ⟨⟨m10, m11⟩, m20, m21⟩ := cells (w1.drew.alloc (.cells #[.int .i64 0, .slice none 0 0] 144)) (((Kp.refl _ _).drew).alloc _)
            have n1 : gl ≠ w1.heap.size := by omega
            have n3 : gl ≠ w1.heap.size + 1 := by omega
            have n1' := n1.symm
            have n3' := n3.symm
            have hmm : ta.s.map nv ++ tb.s.map nv = (ta.s ++ tb.s).map nv := List.map_append.symm
            have HMM := Lib.hid hmm
            clear cells bf0 bf1 bf2 hmm
            have CC0 := Lib.hid (concat_c (w1.heap.size) xa xb ya yb ta.s tb.s ((w1.alloc (.cells #[.slice xa ta.s.length ya, .slice xb tb.s.length yb] 51)).drew) (lt_of_at BF0.out) ((cell_of BF0.out 0).trans rfl) ((cell_of BF0.out 1).trans rfl) (SA.out.kp G0.out.kp (fun _ _ q => q)) (SB.out.kp G0.out.kp (fun _ _ q => q)) hpA (by omega))
            have CC1 := Lib.hid (concat_c (w1.heap.size + 1) xa xb ya yb ta.s tb.s (((w1.alloc (.cells #[.int .i64 0, .slice none 0 0] 144)).alloc (.cells #[.slice xa ta.s.length ya, .slice xb tb.s.length yb] 51)).drew) (lt_of_at BF1.out) ((cell_of BF1.out 0).trans rfl) ((cell_of BF1.out 1).trans rfl) (SA.out.kp G00.out.kp (fun _ _ q => q)) (SB.out.kp G00.out.kp (fun _ _ q => q)) hpA (by omega))
            have CC2 := Lib.hid (concat_c (w1.heap.size) xa xb ya yb ta.s tb.s (((w1.alloc (.cells #[.slice xa ta.s.length ya, .slice xb tb.s.length yb] 51)).alloc (.cells #[.int .i64 0, .slice none 0 0] 144)).drew) (lt_of_at BF2.out) ((cell_of BF2.out 0).trans rfl) ((cell_of BF2.out 1).trans rfl) (SA.out.kp G01.out.kp (fun _ _ q => q)) (SB.out.kp G01.out.kp (fun _ _ q => q)) hpA (by omega))
            go_wp2_with fail
            go_cut [7] (fun s7 wx => JoinAtP 144 w1 ta tb s7 wx)
            case first =>
              go_region_held3 (fun w' => (w'.cell? ⟨gl, ol, none⟩ = some (.int .i64 (ta.n : Nat)) ∧ w'.cell? ⟨gl, ol + 1, none⟩ = some (.slice xa ta.s.length ya)) ∧ w'.cell? ⟨gl, ol + 2, none⟩ = some (.int .i64 (tb.n : Nat)) ∧ w'.cell? ⟨gl, ol + 3, none⟩ = some (.slice xb tb.s.length yb)) (go_keep) ((first
                | (go_simp; go_at_call 121; apply Calls.mono; (with_reducible exact CC0.out); rintro e w3 ⟨ac, cc, rfl, p1, p2, p3⟩; have G3 := Lib.hid (G0.out.call p1 p3 p2); obtain ⟨⟨r10, r11⟩, r20, r21⟩ := CE.out _ G3.out.kp; have n5 : gl ≠ w3.heap.size := (by have := G3.out.kp.size; omega); have n5' := n5.symm; clear p1 p2 p3)
                | (go_simp; go_at_call 121; apply Calls.mono; (with_reducible exact CC1.out); rintro e w3 ⟨ac, cc, rfl, p1, p2, p3⟩; have G3 := Lib.hid (G00.out.call p1 p3 p2); obtain ⟨⟨r10, r11⟩, r20, r21⟩ := CE.out _ G3.out.kp; have n5 : gl ≠ w3.heap.size := (by have := G3.out.kp.size; omega); have n5' := n5.symm; clear p1 p2 p3)
                | (go_simp; go_at_call 121; apply Calls.mono; (with_reducible exact CC2.out); rintro e w3 ⟨ac, cc, rfl, p1, p2, p3⟩; have G3 := Lib.hid (G01.out.call p1 p3 p2); obtain ⟨⟨r10, r11⟩, r20, r21⟩ := CE.out _ G3.out.kp; have n5 : gl ≠ w3.heap.size := (by have := G3.out.kp.size; omega); have n5' := n5.symm; clear p1 p2 p3)
                | (go_simp; go_at_call 120; refine (values_o _ _ _ _).mono ?_; rintro e w4 ⟨vb, rfl, q1, q2, q3⟩; (first | have G4 := Lib.hid (G3.out.later q3) | have G4 := Lib.hid (G3.out.alloc.later q3)); obtain ⟨⟨t10, t11⟩, t20, t21⟩ := CE.out _ G4.out.kp; have n7 : gl ≠ w4.heap.size := (by have := G4.out.kp.size; omega); have n7' := n7.symm; have Q1 := Lib.hid q1; have Q2 := Lib.hid q2; have SC0 := Lib.hid (sorted_o vb ac cc (ta.s.length + tb.s.length) (ta.s ++ tb.s) List.length_append (by omega) (by omega) (w4) Q1.out Q2.out (by have := G4.out.own.sl; rwa [HMM.out] at this)); try (have SC1 := Lib.hid (sorted_o vb ac cc (ta.s.length + tb.s.length) (ta.s ++ tb.s) List.length_append (by omega) (by omega) (w4.alloc (.cells #[.int .i64 0, .slice none 0 0] 144)) (by have := Q1.out; simp; omega) (((Kp.refl (fun _ => False) _).alloc _).cell (p := ⟨vb, 0, none⟩) Q1.out (fun q => q) |>.trans Q2.out) (by have := G4.out.alloc.own.sl; rwa [HMM.out] at this))); clear q1 q2 q3)
                | (go_simp; go_at_call 119; apply Calls.mono; (with_reducible exact SC0.out); rintro e w5 ⟨ys, y1, y2, a5, c5, rfl, r1, r2, r3⟩; have G5 := Lib.hid (G4.out.call r1 r3 r2); have Y1 := Lib.hid y1; have Y2 := Lib.hid y2; obtain ⟨⟨s10, s11⟩, s20, s21⟩ := CE.out _ G5.out.kp; try (have z5 := (G5.out.at_ _ rfl).2; have x50 := (cell_of z5 0); have x51 := (cell_of z5 1); have f50 := free_of z5 0; have f51 := free_of z5 1; simp only [List.getElem?_toArray, List.getElem?_cons_zero, List.getElem?_cons_succ] at x50 x51); clear y1 y2 r1 r2 r3)
                | (go_simp; go_at_call 119; apply Calls.mono; (with_reducible exact SC1.out); rintro e w5 ⟨ys, y1, y2, a5, c5, rfl, r1, r2, r3⟩; have G5 := Lib.hid (G4.out.alloc.call r1 r3 r2); have Y1 := Lib.hid y1; have Y2 := Lib.hid y2; obtain ⟨⟨s10, s11⟩, s20, s21⟩ := CE.out _ G5.out.kp; try (have z5 := (G5.out.at_ _ rfl).2; have x50 := (cell_of z5 0); have x51 := (cell_of z5 1); have f50 := free_of z5 0; have f51 := free_of z5 1; simp only [List.getElem?_toArray, List.getElem?_cons_zero, List.getElem?_cons_succ] at x50 x51); clear y1 y2 r1 r2 r3)))
              all_goals (go_wp2_with fail; go_meet; obtain ⟨tc, j1, j2, j3, j4⟩ := HJ.out ys Y1.out Y2.out; refine ⟨tc, j1, j3, j4, by rw [j2]; exact Y1.out.length_eq.trans List.length_append, ?_⟩; rw [j2, ← Int.natCast_add]; first | exact G5.out.fin_alloc | exact G5.out.fin_set)
            case rest =>
              obtain ⟨tc, hj, hmn, hsr, hlc, g, bC, dC, rfl, hg, hC, hO, hN, hK⟩ := hcut
              rw [← hlc] at hC hO hN
              rw [← hj.n] at hC
              have hTC : Tv wc tc (.slice bC tc.s.length dC) := ⟨bC, dC, rfl, hO.sl, hmn, by omega⟩
              have hltN : ∀ i, i ∈ tc.s → i < cs.length := fun i hi => by
                rcases hj.mem_s.1 hi with q | q
                · exact ST.out.lt ta (by simp) i q
                · exact ST.out.lt tb (by simp) i q
              have hgo : g ≠ w.heap.size := by omega
              have hLx := HL.out.kp hK (fun _ _ q => q)
              have b1 : wc.cell? ⟨g, 1, none⟩ = some (.slice bC tc.s.length dC) := by rw [cell_of hC]; rfl
              have HC1 := Lib.hid hC
              have HTC := Lib.hid hTC
              have HNX := Lib.hid hN
              have HKX := Lib.hid hK
              have HLT := Lib.hid hltN
              have HLC := Lib.hid hlc
              have HJJ := Lib.hid hj
              have HSC := Lib.hid hsr
              have hmc : 0 < tc.s.length := hmn.pos
              have htc6 : tc.s.length ≤ 256 := by omega
              clear hC hO hN hK hTC hltN hlc hj hmn hsr
              go_wp2_with fail
              go_loopw [72] (fun i wr => ∃ (j : Nat), j ≤ tc.s.length ∧ i = .int .i64 j ∧ Lo w.heap.size wr (.slice (some ⟨w.heap.size, 0, none⟩) cs.length cs.length) cs.length (bump (tc.s.take j) L) ∧ Kp (· = w.heap.size) wc wr) (fun i _ => tc.s.length - (intOf i).toNat)
              case atStart => exact ⟨0, Nat.zero_le _, rfl, by rw [List.take_zero, bump_nil]; exact hLx, Kp.refl _ _⟩
              case round =>
                clear hLx
                obtain ⟨j, hj, rfl, hL, hk⟩ := hrel
                have hS2 : SlR wr 1 (.slice bC tc.s.length dC) tc.s.length (tc.s.map nv) := HTC.out.sl.kp hk (fun b hb e => by have := (HNX.out b hb).1; omega)
                obtain ⟨g2, off2, eb, hg2, hcap2, hc2⟩ := at_nv hS2 hmc
                have hg2o : g2 ≠ w.heap.size := by
                  have := (HNX.out g2 (by rw [eb]; rfl)).1
                  omega
                have HLo := Lib.hid hL
                have HKo := Lib.hid hk
                by_cases hlt : j < tc.s.length
                · have hcj := hc2 j hlt
                  have hsN := HLT.out _ (List.getElem_mem hlt)
                  have hBT := Lib.hid (bump_take hlt L)
                  obtain ⟨s, hs⟩ : ∃ s, s = tc.s[j] := ⟨_, rfl⟩
                  rw [← hs] at hcj hsN
                  obtain ⟨g3, eg3, hg3, _, _, f0, f1, f2, f3⟩ := hL.at_ hsN
                  simp only [Option.some.injEq, Addr.mk.injEq, and_true] at eg3
                  subst eg3
                  have hbd : bump (tc.s.take j) L s ≤ 1000 := by
                    have h1 := ST.out.len s
                    have h2 : (tc.s.take j).count s ≤ (tc.s.take j).length := List.count_le_length
                    rw [List.length_take] at h2
                    unfold bump
                    omega
                  obtain ⟨x, hx⟩ : ∃ x, x = bump (tc.s.take j) L s := ⟨_, rfl⟩
                  rw [← hx] at f0 f2 f3 hbd
                  have F2 := Lib.hid f2
                  have F3 := Lib.hid f3
                  have HX := Lib.hid hx
                  have HSS := Lib.hid hs
                  subst eb
                  clear hc2 hS2 f2 f3 hx hs hL hk
                  go_wp2_with fail
                  refine ⟨⟨j + 1, by omega, by go_num, ?_, ?_⟩, by simp [intOf]; omega⟩
                  · rw [hBT.out, ← HSS.out]; exact F2.out
                  · exact HKo.out.trans F3.out
                · obtain rfl : j = tc.s.length := by omega
                  rw [List.take_length] at hL
                  have hbox := cell_of (hk.at_ HC1.out (fun q => hgo q))
                  have hb0 : wr.cell? ⟨g, 0, none⟩ = some (.int .i64 (tc.n : Nat)) := by rw [hbox]; rfl
                  have hb1 : wr.cell? ⟨g, 1, none⟩ = some (.slice bC tc.s.length dC) := by rw [hbox]; rfl
                  have hTr := HTC.out.kp hk (fun b hb e => by have := (HNX.out b hb).1; omega)
                  have hsz2 : w1.heap.size ≤ wr.heap.size := Nat.le_trans HKX.out.size hk.size
                  have hr0 : OwnO wr 144 2 (.slice (some ⟨gl, ol, none⟩) nl dL) nl (((ta, Value.slice xa ta.s.length ya) :: (tb, Value.slice xb tb.s.length yb) :: Qs).flatMap E) := by
                    have := (HF.out.row.kp HKX.out (fun _ _ q => q)).kp hk (fun b hb e => by have := own_b hb; omega)
                    rw [HLEN.out] at this
                    exact this
                  obtain ⟨a4, c4, hsl, ho4, hown4⟩ := hr0.from_ (P := Tryz.prog) Tryz.underlying142 (by kernel_rfl) (show 2 ≤ nl by omega)
                  rw [drop_E] at ho4
                  have hql : nl - 2 = Qs.length := by have := HLEN.out; simp only [List.length_cons] at this; omega
                  rw [hql] at ho4 hown4
                  have hsl' : ∀ w', (Instr.slice 142 (.slice (some ⟨gl, ol, none⟩) nl dL) (some (.int .i64 2)) none none).run Tryz.prog w' = .ok (.slice a4 Qs.length c4) w' := fun w' => by have := hsl w'; rw [hql] at this; exact this
                  have hgl4 : ∀ b, (Value.slice a4 Qs.length c4).ownBlock = some b → b = gl := fun b hb => own_b (hown4 b hb)
                  have hF : Fo w.heap.size wr 144 (.slice a4 Qs.length c4) Qs := ⟨ho4, (fun b hb => by have := hgl4 b hb; omega),
                    (fun p hp => ((HF.out.trees p (by simp [hp])).kp HKX.out (fun _ _ q => q)).kp hk (fun b hb e => HA.out p (by simp [hp]) (by rw [hb, e]))), fun p hp b hb e => HF.out.apart p (by simp [hp]) b hb (hown4 b e)⟩
                  have hst2 := ST.out.step (List.Perm.refl _) HA1.out HA2.out HJJ.out (r' := Qs.map (·.1) ++ [tc]) (List.perm_append_comm (l₁ := Qs.map (·.1)) (l₂ := [tc]))
                  have hkw : Kp (fun _ => False) w wr := (HK.out.trans HKX.out).up hk (fun i e => by rw [e]; exact Nat.le_refl _)
                  obtain ⟨Wd, hWd⟩ : ∃ W, W = wr.drew.alloc (.cells #[.int .i64 (tc.n : Nat), .slice bC tc.s.length dC] 144) := ⟨_, rfl⟩
                  have kd : Kp (fun _ => False) wr Wd := by rw [hWd]; exact ((Kp.refl _ _).drew).alloc _
                  have bd : Wd.heap[wr.heap.size]? = some (.cells #[.int .i64 (tc.n : Nat), .slice bC tc.s.length dC] 144 (0, 0)) := by rw [hWd]; exact alloc_at wr.drew _
                  have hsd : Wd.heap.size = wr.heap.size + 1 := by rw [hWd]; simp
                  have e0 := (kd.cell (p := ⟨g, 0, none⟩) (lt_of_at (hk.at_ HC1.out (fun q => hgo q))) (fun q => q)).trans hb0
                  have e1 := (kd.cell (p := ⟨g, 1, none⟩) (lt_of_at (hk.at_ HC1.out (fun q => hgo q))) (fun q => q)).trans hb1
                  have hgr : g < wr.heap.size := lt_of_at (hk.at_ HC1.out (fun q => hgo q))
                  have hggl : g ≠ gl := by omega
                  have FQ := Lib.hid (hF.kp kd (fun _ _ q => q) (fun _ _ _ _ q => q))
                  have SS := Lib.hid (one_sl bd)
                  have TT := Lib.hid (hTr.kp kd (fun _ _ q => q))
                  have O3 := Lib.hid (E_one1 hTr)
                  have LL := Lib.hid (hL.kp kd (fun _ _ q => q))
                  have KD := Lib.hid kd
                  have KWD := Lib.hid (hkw.trans kd)
                  have SZ := Lib.hid hsd
                  have ST2 := Lib.hid hst2
                  have GL4 := Lib.hid hgl4
                  have HQL := Lib.hid hql
                  have hb32 : (Qs.length + 1) * 32 ≤ 140737488355328 := by omega
                  clear hc2 hS2 hL hk hbox hF hst2 hkw kd bd hsd hTr eb hsl ho4 hown4 hr0 hgl4 hql
                  subst hWd
                  go_wp2_with fail
                  go_region_held3 (fun w' => w'.cell? ⟨g, 0, none⟩ = some (.int .i64 (tc.n : Nat)) ∧ w'.cell? ⟨g, 1, none⟩ = some (.slice bC tc.s.length dC)) (go_keep) ((refine step_appO (wr.drew.alloc (.cells #[.int .i64 (tc.n : Nat), .slice bC tc.s.length dC] 144)) rfl (.tmp 84) (.tmp 86) 142 rfl 144 i0 _ 2 32 Tryz.underlying142 hi0 hz0 hz1 hz2 rfl (by decide) (by decide) (.slice a4 Qs.length c4) Qs.length _ (by simp [Act.eval]) FQ.out.row (.slice (some ⟨wr.heap.size, 0, none⟩) 1 1) 1 _ (by simp [Act.eval]) SS.out O3.out hb32 ?_; intro v' w7 g1 g2 g3 g4 g5; obtain ⟨b7, d7, rfl⟩ := g1.form; have r0 := (g2.cell (p := ⟨g, 0, none⟩) (by simp only; have := SZ.out; omega) (fun q => hggl (GL4.out _ q))).trans e0; have r1 := (g2.cell (p := ⟨g, 1, none⟩) (by simp only; have := SZ.out; omega) (fun q => hggl (GL4.out _ q))).trans e1; have G1 := Lib.hid g1; have G2 := Lib.hid g2; have G3 := Lib.hid g3; clear g1 g2 g3 g4 g5))
                  go_wp2_with fail
                  have hbC : ∀ b, (Value.slice bC tc.s.length dC).ownBlock = some b → b ≠ w.heap.size ∧ w1.heap.size ≤ b := fun b hb => by have h7 := (HNX.out b hb).1; exact ⟨by omega, h7⟩
                  have P3 := FQ.out.push (by have := SZ.out; omega) TT.out (fun b hb q => by have := GL4.out b q; have := (hbC b hb).2; omega) G1.out G2.out G3.out
                  refine ⟨?_, (by have := HQL.out; have := HNL.out; simp [lenOf]; omega)⟩
                  refine ⟨Qs ++ [(tc, .slice bC tc.s.length dC)], bump tc.s L, b7, d7, by simp, by simpa using P3, ?_, by rw [List.map_append]; exact ST2.out, ?_, ?_, ?_, ?_⟩
                  · intro p hp
                    rcases List.mem_append.1 hp with hp | hp
                    · exact HSR.out p (by simp [hp])
                    · rw [List.mem_singleton] at hp; subst hp; exact HSC.out
                  · exact LL.out.kp G2.out (fun b hb e => by have := GL4.out b e; have := own_b hb; omega)
                  · intro b hb
                    have e := own_b hb
                    subst e
                    refine ⟨fun q => ?_, fun p hp q => ?_⟩
                    · rw [List.length_append] at q
                      rcases G3.out with q' | q'
                      · have := GL4.out _ (q'.symm.trans q); omega
                      · have q'' := q'.symm.trans q; simp at q''; omega
                    · rcases List.mem_append.1 hp with hp | hp
                      · exact HA.out p (by simp [hp]) q
                      · rw [List.mem_singleton] at hp; subst hp
                        exact (hbC _ q).1 rfl
                  · exact KWD.out.up G2.out (fun i q => FQ.out.new i q)
                  · have := G2.out.size; have := SZ.out; omega
          · go_wp2_with fail
            go_ret
            exact ⟨L, _, _, rfl, .inr ⟨H1.out, ST.out.done (by simp; omega)⟩, HL.out, HK.out⟩
end Go.Proofs.YtphakpikalmghaaGreat.Hu
namespace Go.Proofs.YtphakpikalmghaaGreat.Hu
open Go Go.RowKit Go.ChangeMaps Go.MapKept Go.Mg Go.Hf Go.Sort Go.Proofs.YtphakpikalmghaaGreat.It

theorem SlR.none0 {w : World} {size n c : Nat} {xs : List Value} (h : SlR w size (.slice none n c) n xs) : n = 0 ∧ c = 0 := by
  obtain ⟨_, a0, c0, e0, h1, _, h2, _⟩ := h
  simp only [Value.slice.injEq, true_and] at e0
  obtain ⟨rfl, rfl⟩ := e0
  have := h2 rfl
  omega
def ClonePost (w : World) (n : Nat) (xs : List Value) (e : Ending) (w' : World) : Prop :=
  ∃ a c, e = .returned (.slice a n c) ∧ OwnR w' 3 1 (.slice a n c) n xs ∧ (∀ b, (Value.slice a n c).ownBlock = some b → w.heap.size ≤ b) ∧ Kp (fun _ => False) w w'
set_option maxRecDepth 100000 in
set_option maxHeartbeats 1000000 in
theorem clone_c (w : World) (cs : List Nat) (a : Option Addr) (c : Nat) (h : SlR w 1 (.slice a cs.length c) cs.length (cs.map nv)) (hlen : cs.length ≤ 1000) :
    Calls Tryz.prog 85 #[.slice a cs.length c] w (ClonePost w cs.length (cs.map nv)) := by
  have hnil := @Lib.run_eql_slice_nil Tryz.prog
  cases a with
  | none =>
    obtain ⟨h1, rfl⟩ := SlR.none0 h
    have : cs = [] := List.eq_nil_of_length_eq_zero h1
    subst this
    clear h
    go_enter Tryz.func85, Tryz.ntmps85
    go_wp2_with fail
    go_ret
    exact ⟨none, 0, rfl, OwnR.nil _ _ _, (fun b hb => by cases hb), Kp.refl _ _⟩
  | some p =>
    obtain ⟨j0, hj0, hy0, hy1, hy2⟩ := info_parts infoI
    have k0 : Kp (fun _ => False) w (w.alloc (.cells #[] 3)) := (Kp.refl _ _).alloc _
    have HN := Lib.hid (own_none w 3 1)
    have HC := Lib.hid (h.kp k0 (fun _ _ q => q))
    have O1 := Lib.hid (nv_one cs)
    have K0 := Lib.hid k0
    clear h k0
    go_enter Tryz.func85, Tryz.ntmps85
    go_wp2_with (at_builtin; refine wpList_app _ rfl _ _ 51 rfl 3 j0 _ 1 8 Tryz.underlying51 hj0 hy0 hy1 hy2 rfl (by decide) (by decide) (.slice (some ⟨w.heap.size, 0, none⟩) 0 0) 0 [] rfl HN.out (.slice (some p) cs.length c) cs.length _ rfl HC.out O1.out (by omega) ?_; intro v' w1 g1 g2 g3 g4 g5; rw [Nat.zero_add, List.nil_append] at g1; obtain ⟨b1, d1, rfl⟩ := g1.form; have G1 := Lib.hid g1; have G2 := Lib.hid (K0.out.up g2 (fun i e => (by have := own_b e; omega))); have G3 := Lib.hid g3; clear g1 g2 g3 g4 g5)
    go_ret
    refine ⟨b1, d1, rfl, G1.out, fun b hb => ?_, G2.out⟩
    rcases G3.out with q | q
    · have := own_b (q.symm.trans hb); omega
    · have := q.symm.trans hb; simp at this; omega
set_option maxRecDepth 100000 in
set_option maxHeartbeats 1000000 in
theorem max_c (w : World) (xs : List Nat) (a : Option Addr) (c : Nat) (h : SlR w 1 (.slice a xs.length c) xs.length (xs.map nv)) (h0 : 0 < xs.length) (hlen : xs.length ≤ 1000) :
    Calls Tryz.prog 87 #[.slice a xs.length c] w fun e w' => ∃ m, m ∈ xs ∧ (∀ x, x ∈ xs → x ≤ m) ∧ e = .returned (.int .i64 (m : Nat)) ∧ w' = w := by
  obtain ⟨g, off, rfl, hg, hcap, hc⟩ := at_nv h h0
  have d0 := hc 0 h0
  rw [Nat.add_zero] at d0
  have m0 : xs[0] ∈ xs := List.getElem_mem _
  have HC := Lib.hid hc
  have e0 : ∀ j (hj : j < xs.length), j < 1 → xs[j] ≤ xs[0] := fun j hj h => by
    have e : j = 0 := by omega
    subst e
    exact Nat.le_refl _
  generalize xs[0] = x0 at d0 m0 e0
  have E0 := Lib.hid e0
  have hn : ¬ xs.length < 1 := by omega
  clear hc h e0
  go_enter Tryz.func87, Tryz.ntmps87
  go_wp2_with fail
  go_loopw [3, 4] (fun v i wr => ∃ (k x : Nat), 1 ≤ k ∧ k ≤ xs.length ∧ i = .int .i64 k ∧ v = .int .i64 x ∧ x ∈ xs ∧ (∀ j (hj : j < xs.length), j < k → xs[j] ≤ x) ∧ wr = w) (fun _ i _ => xs.length - (intOf i).toNat)
  case atStart => exact ⟨1, x0, Nat.le_refl _, h0, rfl, rfl, m0, E0.out, rfl⟩
  case round =>
    clear d0
    obtain ⟨k, x, hk1, hk, rfl, rfl, hx, hl, rfl⟩ := hrel
    have HL := Lib.hid hl
    clear hl
    by_cases hlt : k < xs.length
    · have d0 := HC.out k hlt
      have hmem : xs[k] ∈ xs := List.getElem_mem _
      obtain ⟨y, hy⟩ : ∃ y, y = xs[k] := ⟨_, rfl⟩
      rw [← hy] at d0 hmem
      have HY := Lib.hid hy
      clear hy
      go_wp2_with fail
      refine ⟨⟨k + 1, max x y, by omega, by omega, by go_num, by go_num, ?_, fun j hj hjk => ?_, by first | trivial | rfl⟩, by simp [intOf]; omega⟩
      · rcases Nat.le_total x y with q | q
        · rw [Nat.max_eq_right q]; exact hmem
        · rw [Nat.max_eq_left q]; exact hx
      · by_cases e : j = k
        · subst e; rw [← HY.out]; exact Nat.le_max_right _ _
        · exact Nat.le_trans (HL.out j hj (by omega)) (Nat.le_max_left _ _)
    · obtain rfl : k = xs.length := by omega
      go_wp2_with fail
      go_ret
      refine ⟨x, hx, fun z hz => ?_, rfl, rfl⟩
      obtain ⟨j, hj, rfl⟩ := List.getElem_of_mem hz
      exact HL.out j hj hj
theorem half_skip {cs : List Nat} {j : Nat} (hj : j < cs.length) (h : cs[j] = 0) : (cs.take (j + 1)).map half ++ cs.drop (j + 1) = (cs.take j).map half ++ cs.drop j := by
  rw [List.take_succ_eq_append_getElem hj, List.map_append, List.append_assoc, List.drop_eq_getElem_cons hj, h]
  rfl
set_option maxRecDepth 100000 in
set_option maxHeartbeats 2000000 in
theorem lens_p (w : World) (cs : List Nat) (a : Option Addr) (c : Nat) (h : SlR w 1 (.slice a cs.length c) cs.length (cs.map nv)) (hlen : cs.length ≤ 256) (hS : cs.sum ≤ 1125899906842624) :
    Calls Tryz.prog 54 #[.slice a cs.length c] w (LensPost w cs) := by
  have CC := Lib.hid (clone_c w cs a c h (by omega))
  have HS := Lib.hid hS
  clear h hS
  go_enter Tryz.func54, Tryz.ntmps54
  go_wp2_with fail
  refine CC.out.mono ?_
  rintro e w1 ⟨b1, d1, rfl, g1, g2, g3⟩
  have G1 := Lib.hid g1
  have G2 := Lib.hid g3
  have HNW := Lib.hid g2
  clear g1 g2 g3
  go_wp2_with fail
  go_loopw [] (fun wr => ∃ cs' : List Nat, cs'.length = cs.length ∧ (∀ L, IsLens cs' L → IsLens cs L) ∧ OwnR wr 3 1 (.slice b1 cs.length d1) cs.length (cs'.map nv) ∧ cs'.sum ≤ cs.sum ∧ Kp (fun _ => False) w wr) (fun wr => rowSum wr (.slice b1 cs.length d1) cs.length)
  case atStart => exact ⟨cs, rfl, fun _ h => h, G1.out, Nat.le_refl _, G2.out⟩
  case round =>
    obtain ⟨cs', hl, hi, ho, hsum, hk⟩ := hrel
    have hsl := ho.sl
    rw [← hl] at hsl
    have HI := Lib.hid hi
    have HO := Lib.hid ho
    have HSM := Lib.hid hsum
    have HK := Lib.hid hk
    have HM := Lib.hid (rowSum_eq hsl)
    have hS' := Nat.le_trans hsum HS.out
    have HS' := Lib.hid hS'
    have HLL := Lib.hid hl
    clear hi ho hsum hk
    go_wp2_with fail
    rw [← hl]
    refine (joined_c wr cs' b1 d1 hsl (by omega) hS').mono ?_
    rintro e w2 ⟨L, aL, cL, rfl, hJ, hL, hk2⟩
    have HJ := Lib.hid hJ
    have HL := Lib.hid hL
    have HK2 := Lib.hid hk2
    clear hsl hJ hL hk2 hS'
    have fin : (∀ i, i < cs'.length → L i ≤ 11) → LensPost w cs (.returned (.slice aL cs.length cL)) w2 := fun hm => by
      have h1 : IsLens cs' L := .done HJ.out hm
      have h2 := HL.out
      rw [HLL.out] at h2
      exact ⟨L, aL, cL, rfl, HI.out L h1, ⟨h2.row, fun b hb => Nat.le_trans HK.out.size (h2.new b hb)⟩, HK.out.trans HK2.out⟩
    have FIN := Lib.hid fin
    clear fin
    by_cases h0 : cs.length = 0
    · have h0' : ((cs.length : Int) == 0) = true := by rw [beq_iff_eq]; omega
      have FN := Lib.hid (FIN.out (fun i hi => by have := HLL.out; omega))
      clear h0
      go_wp2_with fail
      go_ret
      exact FN.out
    · have h0' : ((cs.length : Int) == 0) = false := by rw [beq_eq_false_iff_ne]; omega
      have hrow : SlR w2 1 (.slice aL ((List.range cs.length).map L).length cL) ((List.range cs.length).map L).length (((List.range cs.length).map L).map nv) := by
        have h2 := HL.out.row.sl
        rw [HLL.out] at h2
        rw [List.map_map, List.length_map, List.length_range]
        exact h2
      have MC := Lib.hid (max_c w2 _ aL cL hrow (by simp; omega) (by simp; omega))
      have MC2 : Hid (Calls Tryz.prog 87 #[.slice aL cs.length cL] w2 fun e w' => ∃ m, m ∈ (List.range cs.length).map L ∧ (∀ x, x ∈ (List.range cs.length).map L → x ≤ m) ∧ e = .returned (.int .i64 (m : Nat)) ∧ w' = w2) := Lib.hid (by have := MC.out; rwa [List.length_map, List.length_range] at this)
      clear hrow MC
      go_wp2_with fail
      refine MC2.out.mono ?_
      rintro e w3 ⟨m, hm1, hm2, rfl, rfl⟩
      have HM1 := Lib.hid hm1
      have HM2 := Lib.hid hm2
      clear hm1 hm2
      by_cases hm : m ≤ 11
      · go_wp2_with fail
        go_ret
        exact FIN.out (fun i hi => Nat.le_trans (HM2.out _ (List.mem_map.2 ⟨i, List.mem_range.2 (by rw [← HLL.out]; exact hi), rfl⟩)) hm)
      · have hex : ∃ i, i < cs'.length ∧ 11 < L i := by
          obtain ⟨i, hi, e⟩ := List.mem_map.1 HM1.out
          exact ⟨i, by rw [HLL.out]; exact List.mem_range.1 hi, by omega⟩
        have hfall := HJ.out.falls (by omega) hex
        have HF := Lib.hid hfall
        have HH := Lib.hid (fun L' (k : IsLens (cs'.map half) L') => IsLens.half HJ.out hex k)
        have ho2 : OwnR w3 3 1 (.slice b1 cs.length d1) cs.length (cs'.map nv) := HO.out.kp HK2.out (fun _ _ q => q)
        have HO2 := Lib.hid ho2
        clear hfall ho2 hex
        go_wp2_with fail
        go_loopw [21] (fun i wr => ∃ j : Nat, j ≤ cs'.length ∧ i = .int .i64 j ∧ OwnR wr 3 1 (.slice b1 cs.length d1) cs.length (((cs'.take j).map half ++ cs'.drop j).map nv) ∧ Kp (fun _ => False) w wr) (fun i _ => cs'.length - (intOf i).toNat)
        case atStart => exact ⟨0, Nat.zero_le _, rfl, by simpa using HO2.out, HK.out.trans HK2.out⟩
        case round =>
          obtain ⟨j, hj, rfl, ho, hk⟩ := hrel
          have HK3 := Lib.hid hk
          have HO3 := Lib.hid ho
          by_cases hlt : j < cs'.length
          · obtain ⟨g, eb, hcap, hat⟩ := ho.at1 (by omega)
            obtain ⟨q1, q2, q3⟩ := hat j (by omega)
            have d0 := q1 _ (half_at hlt)
            obtain ⟨q4, q5⟩ := q3 (nv (half cs'[j]))
            rw [half_set hlt] at q4
            have hle : cs'[j] ≤ 1125899906842624 := Nat.le_trans (by have := sum_mem (f := id) (List.getElem_mem hlt); simpa using this) HS'.out
            have HNB := HNW.out g (by rw [eb]; rfl)
            have HSK := Lib.hid (half_skip hlt)
            obtain ⟨x, hx⟩ : ∃ x, x = cs'[j] := ⟨_, rfl⟩
            rw [← hx] at d0 q4 q5 hle HSK
            have Q4 := Lib.hid q4
            have Q5 := Lib.hid q5
            have hd0 : wr.cell? ⟨g, j, none⟩ = some (.int .i64 (x : Nat)) := d0
            clear q1 q3 q4 q5 hat hx ho hk d0
            subst eb
            have hjc : j < cs.length := by omega
            by_cases hx0 : 0 < x
            · have hdiv : (((x : Int) + 1).tdiv 2) = ((half x : Nat) : Int) := by rw [Int.tdiv_eq_ediv_of_nonneg (by omega)]; unfold half; omega
              go_wp2_with fail
              have hwv : (Value.int .i64 (wrap64 ((half x : Nat) : Int))) = nv (half x) := by
                unfold nv
                rw [IntWalk.wrap64_in _ (by unfold half; omega)]
              rw [hwv]
              refine ⟨⟨j + 1, by omega, by go_num, Q4.out, HK3.out.trans2 Q5.out (fun i hi e => by omega)⟩, by simp [intOf]; omega⟩
            · obtain rfl : x = 0 := by omega
              go_wp2_with fail
              refine ⟨⟨j + 1, by omega, by go_num, by rw [HSK.out rfl]; exact HO3.out, HK3.out⟩, by simp [intOf]; omega⟩
          · obtain rfl : j = cs'.length := by omega
            go_wp2_with fail
            have ho4 := HO3.out
            rw [List.take_length, List.drop_length, List.append_nil] at ho4
            refine ⟨⟨cs'.map half, by simpa using HLL.out, fun L' k => HI.out L' (HH.out L' k), ho4, Nat.le_trans (half_sum_le cs') HSM.out, HK3.out⟩, ?_⟩
            have h5 := ho4.sl
            have e5 : (cs'.map half).length = cs.length := by simpa using HLL.out
            rw [← e5] at h5
            have h6 := rowSum_eq h5
            rw [e5] at h6
            have h7 := HM.out
            rw [HLL.out] at h7
            rw [h6, h7]
            exact HF.out
end Go.Proofs.YtphakpikalmghaaGreat.Hu
