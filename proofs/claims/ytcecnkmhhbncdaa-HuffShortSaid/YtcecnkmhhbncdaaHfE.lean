/- The document's huff: joining. -/
import Derived.Test.YtcecnkmhhbncdaaHfD
import Derived.Laws.MakeOwn
import Derived.Laws.OwnMore
import Derived.Deep.DeepCutAuto
namespace Go.Proofs.Ytcecnkmhhbncdaa.Hu
open Go Go.RowKit Go.ChangeMaps Go.MapKept Go.Mg Go.Hf Go.Sort

def OncePost (w : World) (cs : List Nat) (e : Ending) (w' : World) : Prop :=
  ∃ (L : Nat → Nat) (m : Nat) (a : Option Addr) (c : Nat), e = .returned (.tuple #[.slice a cs.length c, .int .i64 m]) ∧ Jd cs L ∧ Lo w.heap.size w' (.slice a cs.length c) cs.length L ∧ Kp (fun _ => False) w w' ∧
    (∀ i, i < cs.length → L i ≤ m) ∧ (11 < m → ∃ i, i < cs.length ∧ 11 < L i)
theorem make_ints (w : World) (n : Nat) (hn : n ≤ 1000) : ∃ cur : Array Value, cur.toList = List.replicate n (nv 0) ∧
    (Instr.makeSlice 22 (.int .i64 (n : Nat)) (.int .i64 (n : Nat))).run Try.prog w = .ok (.slice (some ⟨w.heap.size, 0, none⟩) n n) (w.alloc (.cells cur 3)) := by
  obtain ⟨i0, hi0, hz0, hz1, hz2⟩ := info_parts infoI
  have h := run_make (P := Try.prog) w 22 3 i0 _ Try.underlying22 hi0 hz0 .i64 .i64 (n : Int) (n : Int) (by omega) (by omega) (by rw [hz2]; omega) (by omega)
  rw [hz1] at h
  refine ⟨_, ?_, h⟩
  show (madeCells #[_] _).toList = _
  rw [toList_madeCells_one]
  simp [nv]
theorem Lo.made {w : World} {n : Nat} {cur : Array Value} (hn : n ≤ 1000) (hc : cur.toList = List.replicate n (nv 0)) : Lo w.heap.size (w.alloc (.cells cur 3)) (.slice (some ⟨w.heap.size, 0, none⟩) n n) n (fun _ => 0) := by
  have hs : cur.size = n := by rw [← Array.length_toList, hc, List.length_replicate]
  refine ⟨⟨by simp, .inr ⟨_, n, cur, (0, 0), rfl, alloc_at w _, .inl rfl, Nat.le_refl _, by unfold maxLen; omega, by omega, ?_⟩⟩, fun b hb => Nat.le_of_eq (own_b hb).symm⟩
  rw [hc, Nat.mul_one, List.take_of_length_le (by simp)]
  apply List.ext_getElem
  · simp
  · intro i h1 h2; simp
set_option maxRecDepth 100000 in
set_option maxHeartbeats 2000000 in
theorem once_c (w : World) (cs : List Nat) (a : Option Addr) (c : Nat) (h : SlR w 1 (.slice a cs.length c) cs.length (cs.map nv)) (hlen : cs.length ≤ 256) (hS : cs.sum ≤ 1125899906842624) :
    Calls Try.prog 32 #[.slice a cs.length c] w (OncePost w cs) := by
  have mixed : Try.prog.follows .mixedOrders = true := by kernel_rfl
  obtain ⟨cur, hcur, hmk⟩ := make_ints w cs.length (by omega)
  have L0 := Lib.hid (Lo.made (w := w) (n := cs.length) (by omega) hcur)
  have K0 : Hid (Kp (fun _ => False) w (w.alloc (.cells cur 3))) := Lib.hid ((Kp.refl _ _).alloc _)
  have HS := Lib.hid hS
  have HC := Lib.hid h
  clear h hcur hS
  go_enter Try.func32, Try.ntmps32
  go_wp2_with fail
  generalize hW : w.alloc (.cells cur 3) = W at L0 K0 ⊢
  have hwW : w.heap.size < W.heap.size := by rw [← hW]; simp
  clear hmk hW
  obtain ⟨i0, hi0, hz0, hz1, hz2⟩ := info_parts infoT
  obtain ⟨j0, hj0, hy0, hy1, hy2⟩ := info_parts infoI
  go_loopw [5, 6] (fun l i wr => ∃ (k : Nat) (Fs : List (Tr × Value)) (aL : Option Addr) (cL : Nat), k ≤ cs.length ∧ i = .int .i64 k ∧ l = .slice aL Fs.length cL ∧ Fo w.heap.size wr 79 (.slice aL Fs.length cL) Fs ∧ Fs.map (·.1) = forest (cs.take k) ∧ Fs.length ≤ k ∧
    Lo w.heap.size wr (.slice (some ⟨w.heap.size, 0, none⟩) cs.length cs.length) cs.length (fun _ => 0) ∧ Apart (.slice (some ⟨w.heap.size, 0, none⟩) cs.length cs.length) (.slice aL Fs.length cL) Fs ∧ Kp (fun _ => False) w wr ∧ w.heap.size < wr.heap.size) (fun _ i _ => cs.length - (intOf i).toNat)
  case atStart => exact ⟨0, [], none, 0, Nat.zero_le _, rfl, rfl, Fo.nil _ _ _, rfl, Nat.le_refl _, L0.out, fun b hb => ⟨(by simp [Value.ownBlock]), fun p hp => by cases hp⟩, K0.out, hwW⟩
  case round =>
    obtain ⟨k, Fs, aL, cL, hk, rfl, rfl, hF, hm, hfl, hL, hA, hkp, hwr⟩ := hrel
    have HF := Lib.hid hF
    have HM := Lib.hid hm
    have HL := Lib.hid hL
    have HA := Lib.hid hA
    have HK := Lib.hid hkp
    clear hF hm hL hA hkp
    by_cases hlt : k < cs.length
    · obtain ⟨g, off, ea, hg, hcap, hc⟩ := at_nv (HC.out.kp HK.out (fun _ _ q => q)) (show 0 < cs.length by omega)
      have d0 := hc k hlt
      clear hc
      obtain ⟨ck, hck⟩ : ∃ ck, ck = cs[k] := ⟨_, rfl⟩
      rw [← hck] at d0
      have hcm : ck ∈ cs := by rw [hck]; exact List.getElem_mem _
      have HCM := Lib.hid (forest_snoc (cs.take k) ck)
      have HT : Hid (cs.take (k + 1) = cs.take k ++ [ck]) := Lib.hid (by rw [hck, List.take_succ_eq_append_getElem hlt])
      have hlk : (cs.take k).length = k := by rw [List.length_take]; omega
      have HLK := Lib.hid hlk
      clear hck hcm hlk
      subst ea
      by_cases hpos : 0 < ck
      · -- a leaf
        have n1 : (wr.alloc (.cells #[.int .i64 (k : Nat)] 3)).heap[wr.heap.size]? = some (.cells #[nv k] 3 (0, 0)) := alloc_at wr _
        obtain ⟨w2, hw2⟩ : ∃ w2, w2 = (wr.alloc (.cells #[.int .i64 (k : Nat)] 3)).alloc (.cells #[.int .i64 (ck : Nat), .slice (some ⟨wr.heap.size, 0, none⟩) 1 1] 79) := ⟨_, rfl⟩
        have k2 : Kp (fun _ => False) wr w2 := by rw [hw2]; exact ((Kp.refl _ _).alloc _).alloc _
        have n1' : w2.heap[wr.heap.size]? = some (.cells #[nv k] 3 (0, 0)) := by rw [hw2]; exact (Below.heap_alloc _ _ _ (by simp)).trans n1
        have n2 : w2.heap[wr.heap.size + 1]? = some (.cells #[.int .i64 ((leaf k ck).n : Nat), .slice (some ⟨wr.heap.size, 0, none⟩) 1 1] 79 (0, 0)) := by
          rw [hw2]; have := alloc_at (wr.alloc (.cells #[.int .i64 (k : Nat)] 3)) (.cells #[.int .i64 (ck : Nat), .slice (some ⟨wr.heap.size, 0, none⟩) 1 1] 79); rwa [World.size_alloc] at this
        have hs2 : w2.heap.size = wr.heap.size + 2 := by rw [hw2]; simp
        have T2 := leaf_tv (i := k) (c := ck) n1'
        have F2 := HF.out.kp k2 (fun _ _ q => q) (fun _ _ _ _ q => q)
        have S2 := one_sl (t := leaf k ck) n2
        have TT := Lib.hid T2
        have FF := Lib.hid F2
        have SS := Lib.hid S2
        have KK := Lib.hid k2
        have O2 := Lib.hid (E_one1 T2)
        clear n1 n1' n2 k2 T2 F2 S2
        have hb32 : (Fs.length + 1) * 32 ≤ 140737488355328 := by omega
        go_wp2_with (at_builtin; rw [← hw2]; refine wpList_appO _ rfl _ _ 77 rfl 79 i0 _ 2 32 Try.underlying77 hi0 hz0 hz1 hz2 rfl (by decide) (by decide) (.slice aL Fs.length cL) Fs.length _ rfl FF.out.row (.slice (some ⟨wr.heap.size + 1, 0, none⟩) 1 1) 1 _ rfl SS.out O2.out hb32 ?_; intro v' w3 g1 g2 g3 g4 g5; obtain ⟨b1, d1, rfl⟩ := g1.form; have G1 := Lib.hid g1; have G2 := Lib.hid g2; have G3 := Lib.hid g3; clear g1 g2 g3 g4 g5)
        have P3 := FF.out.push (by omega) TT.out (fun b hb q => by have h1 := own_b hb; have := HF.out.row.lt q; omega) G1.out G2.out G3.out
        refine ⟨⟨k + 1, Fs ++ [(leaf k ck, .slice (some ⟨wr.heap.size, 0, none⟩) 1 1)], b1, d1, by omega, by go_num, by simp, by simpa using P3, ?_, by simp; omega, ?_, ?_, ?_, ?_⟩, by simp [intOf]; omega⟩
        · rw [HT.out, HCM.out, List.map_append, HM.out, HLK.out, if_pos hpos]; rfl
        · exact (HL.out.kp KK.out (fun _ _ q => q)).kp G2.out (fun b hb q => (HA.out b hb).1 q)
        · intro b hb
          have e := own_b hb
          subst e
          refine ⟨fun q => ?_, fun p hp q => ?_⟩
          · rw [List.length_append] at q
            rcases G3.out with q' | q'
            · exact (HA.out _ hb).1 (q'.symm.trans q)
            · have q'' := q'.symm.trans q; simp at q''; omega
          · rcases List.mem_append.1 hp with hp | hp
            · exact (HA.out _ hb).2 p hp q
            · rw [List.mem_singleton] at hp; subst hp
              have := own_b q; omega
        · exact (HK.out.trans KK.out).up G2.out (fun i q => HF.out.new i q)
        · have := G2.out.size; omega
      · obtain rfl : ck = 0 := by omega
        go_wp2_with fail
        refine ⟨⟨k + 1, Fs, aL, cL, by omega, by go_num, rfl, HF.out, ?_, by omega, HL.out, HA.out, HK.out, hwr⟩, by simp [intOf]; omega⟩
        rw [HT.out, HCM.out, HM.out]
        simp
    · obtain rfl : k = cs.length := by omega
      have hforest : Fs.map (·.1) = forest cs := by rw [HM.out, List.take_length]
      have HFO := Lib.hid hforest
      clear HM hforest
      by_cases h1 : Fs.length = 1
      · obtain ⟨p, rfl⟩ : ∃ p, Fs = [p] := List.length_eq_one_iff.1 h1
        obtain ⟨t, v⟩ := p
        obtain ⟨g, off, ea, hg, hcap, hc⟩ := at_E HF.out.row.sl (by simp)
        obtain ⟨d0, d1⟩ := hc 0 (by simp)
        have ht : t ∈ forest cs := by rw [← HFO.out]; simp
        obtain ⟨j, hj, et, _⟩ := mem_forestFrom ht
        rw [Nat.zero_add] at et
        obtain ⟨xa, xc, ev, hxs, _, _⟩ := HF.out.trees _ (List.mem_singleton.2 rfl)
        simp only at ev
        have hs1 : t.s = [j] := by rw [et]; rfl
        simp only [ev, hs1] at hxs
        obtain ⟨g2, off2, ex, hg2, hcap2, hc2⟩ := at_nv (s := [j]) hxs (by simp)
        have e0 := hc2 0 (by simp)
        simp only [ex, ev, hs1, List.length_singleton, List.getElem_cons_zero, Nat.zero_mul, Nat.add_zero] at d0 d1 e0 hcap2
        subst ea
        obtain ⟨g3, eg3, hg3, _, _, f0, f1, f2, f3⟩ := HL.out.at_ hj
        simp only [Option.some.injEq, Addr.mk.injEq, and_true] at eg3
        subst eg3
        have hj' : j < cs.length := hj
        have HTM : Hid (t.m = j) := Lib.hid (by rw [et]; rfl)
        have F2 := Lib.hid f2
        have F3 := Lib.hid f3
        clear hc hc2 f2 f3 ht et ev hs1 hxs
        simp only [List.length_singleton] at h1 hcap
        go_wp2_with fail
        go_ret2
        refine ⟨bump [j] (fun _ => 0), 1, _, _, rfl, .inl ⟨t, by rw [← HFO.out]; rfl, ?_⟩, F2.out, (HK.out.trans2 F3.out (fun i hi e => by omega)), ?_, fun q => by omega⟩
        · rw [bump_one, HTM.out]
        · intro i hi
          rw [bump_one]
          simp only
          split <;> omega
      · have hst : Fst cs.length cs.sum (forest cs) (Fs.map (·.1)) (fun _ => 0) := by rw [HFO.out]; exact Fst.start cs
        have ST := Lib.hid hst
        have h1' : ((Fs.length : Int) == 1) = false := by rw [beq_eq_false_iff_ne]; omega
        have H1 : Hid ((forest cs).length ≠ 1) := Lib.hid (by rw [← HFO.out, List.length_map]; exact h1)
        clear hst
        go_wp2_with fail
        go_loopw [5, 7] (fun l m wr => ∃ (Fs : List (Tr × Value)) (L : Nat → Nat) (mm : Nat) (aL : Option Addr) (cL : Nat), m = .int .i64 mm ∧ l = .slice aL Fs.length cL ∧ Fo w.heap.size wr 79 (.slice aL Fs.length cL) Fs ∧ Fst cs.length cs.sum (forest cs) (Fs.map (·.1)) L ∧
          Lo w.heap.size wr (.slice (some ⟨w.heap.size, 0, none⟩) cs.length cs.length) cs.length L ∧ Apart (.slice (some ⟨w.heap.size, 0, none⟩) cs.length cs.length) (.slice aL Fs.length cL) Fs ∧ Kp (fun _ => False) w wr ∧ w.heap.size < wr.heap.size ∧ Most cs.length L mm) (fun l _ _ => lenOf l)
        case atStart => exact ⟨Fs, _, 0, aL, cL, rfl, rfl, HF.out, ST.out, HL.out, HA.out, HK.out, hwr, ⟨fun i _ => Nat.le_refl _, .inl rfl⟩⟩
        case round =>
          clear HFO HF HL HA HK ST h1 h1'
          obtain ⟨Gs, L, mm, bL, dL, rfl, rfl, hF, hst, hL, hA, hkp, hwr, hmo⟩ := hrel
          have HF := Lib.hid hF
          have ST := Lib.hid hst
          have HL := Lib.hid hL
          have HA := Lib.hid hA
          have HK := Lib.hid hkp
          have HMO := Lib.hid hmo
          clear hF hst hL hA hkp hmo
          by_cases h1 : 1 < Gs.length
          · have hlg : Gs.length ≤ 256 := by have := ST.out.len 0; simp at this; omega
            go_wp2_with fail
            refine (take_c _ Gs bL dL HF.out.row.sl HF.out.trees (by omega) (by omega)).mono ?_
            rintro e w1 ⟨k1, hk1, a1, c1, rfl, t1, t2, t3, t4⟩
            obtain ⟨⟨ta, va⟩, hpa⟩ : ∃ p, p = Gs[k1] := ⟨_, rfl⟩
            rw [← hpa] at t4 ⊢
            obtain ⟨Rs, hRs⟩ : ∃ r, r = Gs.take k1 ++ Gs.drop (k1 + 1) := ⟨_, rfl⟩
            have hperm1 : Gs.Perm ((ta, va) :: Rs) := by rw [hpa, hRs]; exact pick_perm hk1
            have hlen1 : Gs.length - 1 = Rs.length := by have := hperm1.length_eq; simp at this; omega
            rw [← hRs, hlen1] at t1
            rw [hlen1] at t2 ⊢
            obtain ⟨xa, ya, eva, _⟩ := HF.out.trees (ta, va) (hperm1.mem_iff.2 (by simp))
            simp only at eva
            have TA := Lib.hid (HF.out.trees (ta, va) (hperm1.mem_iff.2 (by simp)))
            have P1 := Lib.hid hperm1
            have T1 := Lib.hid t1
            have T2 := Lib.hid t2
            have T3 := Lib.hid t3
            have T4 := Lib.hid t4
            clear t1 t2 t3 t4 hpa hRs hperm1 hlen1
            go_wp2_with fail
            obtain ⟨W1, hW1⟩ : ∃ W, W = w1.alloc (.cells #[.int .i64 (ta.n : Nat), .slice xa ta.s.length ya] 79) := ⟨_, rfl⟩
            have k1 : Kp (fun _ => False) wr W1 := by rw [hW1]; exact T3.out.alloc _
            have b1 : W1.heap[w1.heap.size]? = some (.cells #[.int .i64 (ta.n : Nat), .slice xa ta.s.length ya] 79 (0, 0)) := by rw [hW1]; exact alloc_at _ _
            have hs1 : W1.heap.size = w1.heap.size + 1 := by rw [hW1]; simp
            have hRT : ∀ p, p ∈ Rs → Tv wr p.1 p.2 := fun p hp => HF.out.trees p (P1.out.mem_iff.2 (by simp [hp]))
            have hR1 : 0 < Rs.length := by have := P1.out.length_eq; simp at this; omega
            have hR2 : Rs.length ≤ 256 := by have := P1.out.length_eq; simp at this; omega
            rw [← hW1]
            have hsl1 : SlR W1 2 (.slice a1 Rs.length c1) Rs.length (Rs.flatMap E) := T1.out.sl.kp (by rw [hW1]; exact (Kp.refl (fun _ => False) _).alloc _) (fun _ _ q => q)
            refine (take_c _ Rs a1 c1 hsl1 (fun p hp => (hRT p hp).kp k1 (fun _ _ q => q)) hR1 (by omega)).mono ?_
            rintro e w2 ⟨k2, hk2, a2, c2, rfl, t1, t2, t3, t4⟩
            obtain ⟨⟨tb, vb⟩, hpb⟩ : ∃ p, p = Rs[k2] := ⟨_, rfl⟩
            rw [← hpb] at t4 ⊢
            obtain ⟨Qs, hQs⟩ : ∃ r, r = Rs.take k2 ++ Rs.drop (k2 + 1) := ⟨_, rfl⟩
            have hperm2 : Rs.Perm ((tb, vb) :: Qs) := by rw [hpb, hQs]; exact pick_perm hk2
            have hlen2 : Rs.length - 1 = Qs.length := by have := hperm2.length_eq; simp at this; omega
            rw [← hQs, hlen2] at t1
            rw [hlen2] at t2 ⊢
            obtain ⟨xb, yb, evb, _⟩ := hRT (tb, vb) (hperm2.mem_iff.2 (by simp))
            simp only at evb
            have TB := Lib.hid (hRT (tb, vb) (hperm2.mem_iff.2 (by simp)))
            have P2 := Lib.hid hperm2
            have U1 := Lib.hid t1
            have U2 := Lib.hid t2
            have U3 := Lib.hid t3
            have U4 := Lib.hid t4
            have K1 := Lib.hid k1
            have B1 := Lib.hid b1
            have RT := Lib.hid hRT
            clear t1 t2 t3 t4 hpb hQs hperm2 hlen2 hsl1 k1 b1 hW1 hRT
            subst eva
            subst evb
            go_wp2_with fail
            -- the two trees joined
            obtain ⟨W2, hW2⟩ : ∃ W, W = w2.alloc (.cells #[.int .i64 (tb.n : Nat), .slice xb tb.s.length yb] 79) := ⟨_, rfl⟩
            rw [← hW2]
            have k2' : Kp (fun _ => False) W1 W2 := by rw [hW2]; exact U3.out.alloc _
            have b2 : W2.heap[w2.heap.size]? = some (.cells #[.int .i64 (tb.n : Nat), .slice xb tb.s.length yb] 79 (0, 0)) := by rw [hW2]; exact alloc_at _ _
            have b1' := k2'.at_ B1.out (fun q => q)
            have hs2 : W2.heap.size = w2.heap.size + 1 := by rw [hW2]; simp
            have hszW : W1.heap.size ≤ w2.heap.size := U3.out.size
            have kW : Kp (fun _ => False) wr W2 := K1.out.trans k2'
            have hQ1 : OwnR W2 79 2 (.slice a2 Qs.length c2) Qs.length (Qs.flatMap E) := U1.out.kp (F := fun _ => False) (by rw [hW2]; exact (Kp.refl _ _).alloc _) (fun _ _ q => q)
            have hpm : Gs.Perm ((ta, .slice xa ta.s.length ya) :: (tb, .slice xb tb.s.length yb) :: Qs) := P1.out.trans (P2.out.cons _)
            have hpmT : (Gs.map (·.1)).Perm (ta :: tb :: Qs.map (·.1)) := hpm.map _
            obtain ⟨hcn, hcl⟩ := ST.out.two hpmT
            obtain ⟨tc, hj, hjs, hjt⟩ := joins_tv TA.out TB.out (by omega)
            have hcm : tc.n = ta.n + tb.n := hj.n
            have hsum : ta.n + tb.n ≤ 1125899906842624 := Nat.le_trans hcn HS.out
            have hA1 : ∀ t, t ∈ tb :: Qs.map (·.1) → ¬ Lt t ta := fun t ht => by
              obtain ⟨p, hp, e⟩ := List.mem_map.1 (show t ∈ ((tb, Value.slice xb tb.s.length yb) :: Qs).map (·.1) from ht)
              subst e
              exact T4.out p (P1.out.mem_iff.2 (List.mem_cons_of_mem _ (P2.out.mem_iff.2 hp)))
            have hA2 : ∀ t, t ∈ Qs.map (·.1) → ¬ Lt t tb := fun t ht => by
              obtain ⟨p, hp, e⟩ := List.mem_map.1 ht
              subst e
              exact U4.out p (P2.out.mem_iff.2 (by simp [hp]))
            have QT : Hid (∀ p, p ∈ Qs → Tv W2 p.1 p.2 ∧ ∀ b, p.2.ownBlock = some b → b < wr.heap.size) := Lib.hid (fun p hp => ⟨(RT.out p (P2.out.mem_iff.2 (by simp [hp]))).kp kW (fun _ _ q => q), fun b hb => (RT.out p (P2.out.mem_iff.2 (by simp [hp]))).lt hb⟩)
            obtain ⟨xa', ya', exa, sA, mA, lA⟩ := TA.out
            obtain ⟨xb', yb', exb, sB, mB, lB⟩ := TB.out
            have c10 : W2.cell? ⟨w1.heap.size, 0, none⟩ = some (.int .i64 (ta.n : Nat)) := by rw [cell_of b1']; rfl
            have c11 : W2.cell? ⟨w1.heap.size, 1, none⟩ = some (.slice xa ta.s.length ya) := by rw [cell_of b1']; rfl
            have c20 : W2.cell? ⟨w2.heap.size, 0, none⟩ = some (.int .i64 (tb.n : Nat)) := by rw [cell_of b2]; rfl
            have c21 : W2.cell? ⟨w2.heap.size, 1, none⟩ = some (.slice xb tb.s.length yb) := by rw [cell_of b2]; rfl
            have l1 : w1.heap.size < W2.heap.size := lt_of_at b1'
            have l2 : w2.heap.size < W2.heap.size := lt_of_at b2
            have G0 := Lib.hid (Gro.start 79 W2)
            have G00 := Lib.hid (Gro.start2 79 W2)
            have G01 : Hid (Gro 79 W2 ((W2.drew.alloc (.cells #[] 3)).alloc (.cells #[.int .i64 0, .slice none 0 0] 79)) (.slice (some ⟨W2.heap.size, 0, none⟩) 0 0) 0 [] (some (W2.heap.size + 1))) := Lib.hid (by have := G0.out.alloc; rw [World.size_alloc] at this; exact this)
            have SA := Lib.hid (sA.kp kW (fun _ _ q => q))
            have SB := Lib.hid (sB.kp kW (fun _ _ q => q))
            have cells : ∀ V, Kp (fun _ => False) W2 V → (V.cell? ⟨w1.heap.size, 0, none⟩ = some (.int .i64 (ta.n : Nat)) ∧ V.cell? ⟨w1.heap.size, 1, none⟩ = some (.slice xa ta.s.length ya)) ∧ V.cell? ⟨w2.heap.size, 0, none⟩ = some (.int .i64 (tb.n : Nat)) ∧ V.cell? ⟨w2.heap.size, 1, none⟩ = some (.slice xb tb.s.length yb) := fun V kk =>
              ⟨⟨(kk.cell (p := ⟨w1.heap.size, 0, none⟩) l1 (fun q => q)).trans c10, (kk.cell (p := ⟨w1.heap.size, 1, none⟩) l1 (fun q => q)).trans c11⟩, (kk.cell (p := ⟨w2.heap.size, 0, none⟩) l2 (fun q => q)).trans c20, (kk.cell (p := ⟨w2.heap.size, 1, none⟩) l2 (fun q => q)).trans c21⟩
            have CE := Lib.hid cells
            obtain ⟨⟨q10, q11⟩, q20, q21⟩ := cells _ G0.out.kp
            obtain ⟨⟨p10, p11⟩, p20, p21⟩ := cells _ G00.out.kp
            obtain ⟨⟨o10, o11⟩, o20, o21⟩ := cells _ G01.out.kp
            obtain ⟨⟨m10, m11⟩, m20, m21⟩ := cells (W2.drew.alloc (.cells #[.int .i64 0, .slice none 0 0] 79)) (((Kp.refl _ _).drew).alloc _)
            have hws : IntKind.i64.wrap ((ta.n : Int) + (tb.n : Int)) = (ta.n : Int) + (tb.n : Int) := by rw [IntKind.wrap_i64]; omega
            have KW := Lib.hid kW
            have HQ1 := Lib.hid hQ1
            have PT := Lib.hid hpmT
            have HJ := Lib.hid hj
            have HJS := Lib.hid hjs
            have HJT := Lib.hid hjt
            have HA1 := Lib.hid hA1
            have HA2 := Lib.hid hA2
            have HCM := Lib.hid hcm
            have HW2s := Lib.hid hs2
            have HSZ := Lib.hid hszW
            have HS1 := Lib.hid hs1
            clear kW hQ1 hpm hpmT hj hjs hjt hA1 hA2 hcm sA sB mA mB k2' b1' b2 hW2 hs2 exa exb hszW hs1 cells
            have O1 := Lib.hid (nv_one ta.s)
            have O2 := Lib.hid (nv_one tb.s)
            have hl8 : ta.s.length + tb.s.length ≤ 256 := Nat.le_trans hcl hlen
            have n1 : w1.heap.size ≠ W2.heap.size := by omega
            have n2 : w2.heap.size ≠ W2.heap.size := by omega
            have n3 : w1.heap.size ≠ W2.heap.size + 1 := by omega
            have n4 : w2.heap.size ≠ W2.heap.size + 1 := by omega
            have n1' := n1.symm
            have n2' := n2.symm
            have n3' := n3.symm
            have n4' := n4.symm
            generalize ta.s.length = na at *
            generalize tb.s.length = nb at *
            go_cut [12] (fun s12 wx => JoinAt 79 W2 (ta.n + tb.n) (na + nb) (ta.s.map nv ++ tb.s.map nv) s12 wx)
            case first =>
              go_region_held3 (fun w' => (w'.cell? ⟨w1.heap.size, 0, none⟩ = some (.int .i64 (ta.n : Nat)) ∧ w'.cell? ⟨w1.heap.size, 1, none⟩ = some (.slice xa na ya)) ∧ w'.cell? ⟨w2.heap.size, 0, none⟩ = some (.int .i64 (tb.n : Nat)) ∧ w'.cell? ⟨w2.heap.size, 1, none⟩ = some (.slice xb nb yb)) (go_keep) ((first
                | (refine step_app (W2.drew.alloc (.cells #[] 3)) rfl (.tmp 68) (.tmp 70) 22 rfl 3 j0 _ 1 8 Try.underlying22 hj0 hy0 hy1 hy2 rfl (by decide) (by decide) (.slice (some ⟨W2.heap.size, 0, none⟩) 0 0) 0 [] (by simp [Act.eval]) G0.out.own (.slice xa na ya) na _ (by simp [Act.eval]) (SA.out.kp G0.out.kp (fun _ _ q => q)) O1.out (by omega) ?_; intro v1 w3 g1 g2 g3 g4 g5; obtain ⟨b1, d1, rfl⟩ := g1.form; have G3 := Lib.hid (G0.out.app g1 g2 g3); obtain ⟨⟨r10, r11⟩, r20, r21⟩ := CE.out _ G3.out.kp; have n5 : w1.heap.size ≠ w3.heap.size := (by have := G3.out.kp.size; omega); have n6 : w2.heap.size ≠ w3.heap.size := (by have := G3.out.kp.size; omega); have n5' := n5.symm; have n6' := n6.symm; clear g1 g2 g3 g4 g5)
                | (refine step_app ((W2.drew.alloc (.cells #[.int .i64 0, .slice none 0 0] 79)).alloc (.cells #[] 3)) rfl (.tmp 68) (.tmp 70) 22 rfl 3 j0 _ 1 8 Try.underlying22 hj0 hy0 hy1 hy2 rfl (by decide) (by decide) (.slice (some ⟨W2.heap.size + 1, 0, none⟩) 0 0) 0 [] (by simp [Act.eval]) G00.out.own (.slice xa na ya) na _ (by simp [Act.eval]) (SA.out.kp G00.out.kp (fun _ _ q => q)) O1.out (by omega) ?_; intro v1 w3 g1 g2 g3 g4 g5; obtain ⟨b1, d1, rfl⟩ := g1.form; have G3 := Lib.hid (G00.out.app g1 g2 g3); obtain ⟨⟨r10, r11⟩, r20, r21⟩ := CE.out _ G3.out.kp; have n5 : w1.heap.size ≠ w3.heap.size := (by have := G3.out.kp.size; omega); have n6 : w2.heap.size ≠ w3.heap.size := (by have := G3.out.kp.size; omega); have n5' := n5.symm; have n6' := n6.symm; clear g1 g2 g3 g4 g5)
                | (refine step_app ((W2.drew.alloc (.cells #[] 3)).alloc (.cells #[.int .i64 0, .slice none 0 0] 79)) rfl (.tmp 68) (.tmp 70) 22 rfl 3 j0 _ 1 8 Try.underlying22 hj0 hy0 hy1 hy2 rfl (by decide) (by decide) (.slice (some ⟨W2.heap.size, 0, none⟩) 0 0) 0 [] (by simp [Act.eval]) G01.out.own (.slice xa na ya) na _ (by simp [Act.eval]) (SA.out.kp G01.out.kp (fun _ _ q => q)) O1.out (by omega) ?_; intro v1 w3 g1 g2 g3 g4 g5; obtain ⟨b1, d1, rfl⟩ := g1.form; have G3 := Lib.hid (G01.out.app g1 g2 g3); obtain ⟨⟨r10, r11⟩, r20, r21⟩ := CE.out _ G3.out.kp; have n5 : w1.heap.size ≠ w3.heap.size := (by have := G3.out.kp.size; omega); have n6 : w2.heap.size ≠ w3.heap.size := (by have := G3.out.kp.size; omega); have n5' := n5.symm; have n6' := n6.symm; clear g1 g2 g3 g4 g5)
                | (refine step_app (w3) rfl (.tmp 71) (.tmp 73) 22 rfl 3 j0 _ 1 8 Try.underlying22 hj0 hy0 hy1 hy2 rfl (by decide) (by decide) (.slice b1 (0 + na) d1) (0 + na) _ (by simp [Act.eval]) G3.out.own (.slice xb nb yb) nb _ (by simp [Act.eval]) (SB.out.kp G3.out.kp (fun _ _ q => q)) O2.out (by omega) ?_; intro v2 w5 f1 f2 f3 f4 f5; obtain ⟨b2, d2, rfl⟩ := f1.form; have G5 := Lib.hid (G3.out.app f1 f2 f3); obtain ⟨⟨s10, s11⟩, s20, s21⟩ := CE.out _ G5.out.kp; try (have z5 := (G5.out.at_ _ rfl).2; have x50 := (cell_of z5 0); have x51 := (cell_of z5 1); have f50 := free_of z5 0; have f51 := free_of z5 1; simp only [List.getElem?_toArray, List.getElem?_cons_zero, List.getElem?_cons_succ] at x50 x51); clear f1 f2 f3 f4 f5)
                | (refine step_app (w3.alloc (.cells #[.int .i64 0, .slice none 0 0] 79)) rfl (.tmp 71) (.tmp 73) 22 rfl 3 j0 _ 1 8 Try.underlying22 hj0 hy0 hy1 hy2 rfl (by decide) (by decide) (.slice b1 (0 + na) d1) (0 + na) _ (by simp [Act.eval]) G3.out.alloc.own (.slice xb nb yb) nb _ (by simp [Act.eval]) (SB.out.kp G3.out.alloc.kp (fun _ _ q => q)) O2.out (by omega) ?_; intro v2 w5 f1 f2 f3 f4 f5; obtain ⟨b2, d2, rfl⟩ := f1.form; have G5 := Lib.hid (G3.out.alloc.app f1 f2 f3); obtain ⟨⟨s10, s11⟩, s20, s21⟩ := CE.out _ G5.out.kp; try (have z5 := (G5.out.at_ _ rfl).2; have x50 := (cell_of z5 0); have x51 := (cell_of z5 1); have f50 := free_of z5 0; have f51 := free_of z5 1; simp only [List.getElem?_toArray, List.getElem?_cons_zero, List.getElem?_cons_succ] at x50 x51); clear f1 f2 f3 f4 f5)))
              all_goals (go_wp2_with fail; go_meet; have G6 := G5.out; rw [Nat.zero_add, List.nil_append] at G6; rw [← Int.natCast_add]; first | exact G6.fin_alloc | exact G6.fin_set)
            case rest =>
              obtain ⟨g, bC, dC, rfl, hg, hC, hO, hN, hK⟩ := hcut
              have hsC : SlR wc 1 (.slice bC (na + nb) dC) (na + nb) (ta.s.map nv ++ tb.s.map nv) := hO.sl
              have hTC := HJT.out wc bC dC hsC
              have hlC : tc.s.length = na + nb := hTC.len
              have hltN : ∀ i, i ∈ tc.s → i < cs.length := fun i hi => by
                have hpp := PT.out
                rcases HJ.out.mem_s.1 hi with q | q
                · exact ST.out.lt ta (hpp.mem_iff.2 (by simp)) i q
                · exact ST.out.lt tb (hpp.mem_iff.2 (by simp)) i q
              have hgo : g ≠ w.heap.size := by have := KW.out.size; omega
              have hwW1 : w.heap.size < W1.heap.size := by have := K1.out.size; omega
              have QT2 : Hid (∀ p, p ∈ Qs → Tv W2 p.1 p.2 ∧ ∀ b, p.2.ownBlock = some b → b < W1.heap.size ∧ b ≠ w.heap.size) := Lib.hid (fun p hp => ⟨(QT.out p hp).1, fun b hb => ⟨by have := (QT.out p hp).2 b hb; have := K1.out.size; omega, fun e => (HA.out w.heap.size rfl).2 p (P1.out.mem_iff.2 (List.mem_cons_of_mem _ (P2.out.mem_iff.2 (List.mem_cons_of_mem _ hp)))) (by rw [hb, e])⟩⟩)
              have hLx := HL.out.kp (KW.out.trans hK) (fun _ _ q => q)
              have HC1 := Lib.hid hC
              have HTC := Lib.hid hTC
              have HNX := Lib.hid hN
              have HKX := Lib.hid hK
              have HLT := Lib.hid hltN
              have HLC := Lib.hid hlC
              have hmc : 0 < tc.s.length := hTC.pos
              clear hC hO hN hK hsC hTC hltN
              go_wp2_with fail
              go_loopw [7, 13] (fun m i wr => ∃ (j : Nat) (m' : Nat), j ≤ tc.s.length ∧ i = .int .i64 j ∧ m = .int .i64 m' ∧ Lo w.heap.size wr (.slice (some ⟨w.heap.size, 0, none⟩) cs.length cs.length) cs.length (bump (tc.s.take j) L) ∧ Most cs.length (bump (tc.s.take j) L) m' ∧ Kp (· = w.heap.size) wc wr) (fun _ i _ => tc.s.length - (intOf i).toNat)
              case atStart => exact ⟨0, mm, Nat.zero_le _, rfl, rfl, by rw [List.take_zero, bump_nil]; exact hLx, by rw [List.take_zero, bump_nil]; exact HMO.out, Kp.refl _ _⟩
              case round =>
                clear hLx
                obtain ⟨j, m', hj, rfl, rfl, hL, hM, hk⟩ := hrel
                have hbox := cell_of (hk.at_ HC1.out (fun q => hgo q))
                have hb1 : wr.cell? ⟨g, 1, none⟩ = some (.slice bC (na + nb) dC) := by rw [hbox]; rfl
                have hb0 : wr.cell? ⟨g, 0, none⟩ = some (.int .i64 ((ta.n + tb.n : Nat) : Int)) := by rw [hbox]; rfl
                have hS1 := HTC.out.sl
                have hS2 : SlR wr 1 (.slice bC tc.s.length dC) tc.s.length (tc.s.map nv) := by
                  have := hS1.kp hk (fun b hb e => by have := (HNX.out b hb).1; have := KW.out.size; omega)
                  rw [← HLC.out] at this; exact this
                obtain ⟨g2, off2, eb, hg2, hcap2, hc2⟩ := at_nv hS2 hmc
                have hg2o : g2 ≠ w.heap.size := by
                  have := (HNX.out g2 (by rw [eb]; rfl)).1
                  have := KW.out.size
                  omega
                have HLo := Lib.hid hL
                have HMo := Lib.hid hM
                have HKo := Lib.hid hk
                rw [HLC.out] at hcap2
                by_cases hlt : j < tc.s.length
                · have hcj := hc2 j hlt
                  have hsN := HLT.out _ (List.getElem_mem hlt)
                  have hBT := Lib.hid (bump_take hlt L)
                  obtain ⟨s, hs⟩ : ∃ s, s = tc.s[j] := ⟨_, rfl⟩
                  rw [← hs] at hcj hsN
                  obtain ⟨g3, eg3, hg3, _, _, f0, f1, f2, f3⟩ := hL.at_ hsN
                  simp only [Option.some.injEq, Addr.mk.injEq, and_true] at eg3
                  subst eg3
                  have hlv : bump (tc.s.take j) L s ≤ m' := hM.le s hsN
                  have hbd : bump (tc.s.take j) L s ≤ 1000 := by
                    have h1 := ST.out.len s
                    have h2 : (tc.s.take j).count s ≤ (tc.s.take j).length := List.count_le_length
                    rw [List.length_take] at h2
                    unfold bump
                    omega
                  obtain ⟨x, hx⟩ : ∃ x, x = bump (tc.s.take j) L s := ⟨_, rfl⟩
                  rw [← hx] at f0 f2 f3 hlv hbd
                  have F2 := Lib.hid f2
                  have F3 := Lib.hid f3
                  have HX := Lib.hid hx
                  have HSS := Lib.hid hs
                  subst eb
                  have hjn : j < na + nb := by omega
                  clear hc2 hS1 hS2 f2 f3 hx hs hL hM hk hbox
                  go_wp2_with fail
                  refine ⟨⟨j + 1, max m' (x + 1), by omega, by go_num, by go_num, ?_, ?_, ?_⟩, by simp [intOf]; omega⟩
                  · rw [hBT.out, ← HSS.out]; exact F2.out
                  · rw [hBT.out, ← HSS.out, HX.out]; exact HMo.out.bump hsN
                  · exact HKo.out.trans F3.out
                · obtain rfl : j = tc.s.length := by omega
                  rw [← HCM.out] at hb0
                  have hTr := HTC.out.kp hk (fun b hb e => by have := (HNX.out b hb).1; have := KW.out.size; omega)
                  have hsz2 : W2.heap.size ≤ wr.heap.size := Nat.le_trans HKX.out.size hk.size
                  have hwr2 : w.heap.size < wr.heap.size := by have := KW.out.size; omega
                  have hF : Fo w.heap.size wr 79 (.slice a2 Qs.length c2) Qs := ⟨((HQ1.out.kp HKX.out (fun _ _ q => q)).kp hk (fun b hb e => by have := U2.out b hb; omega)).toO, (fun b hb => by have := U2.out b hb; omega),
                    (fun p hp => ((QT2.out p hp).1.kp HKX.out (fun _ _ q => q)).kp hk (fun b hb e => ((QT2.out p hp).2 b hb).2 e)), fun p hp b hb e => by have := ((QT2.out p hp).2 b hb).1; have := U2.out b e; omega⟩
                  have hst2 := ST.out.step PT.out HA1.out HA2.out HJ.out (r' := Qs.map (·.1) ++ [tc]) (List.perm_append_comm (l₁ := Qs.map (·.1)) (l₂ := [tc]))
                  rw [List.take_length] at hL hM
                  have hkw : Kp (fun _ => False) w wr := (HK.out.trans (KW.out.trans HKX.out)).up hk (fun i e => by rw [e]; exact Nat.le_refl _)
                  have hql : Qs.length + 2 = Gs.length := by have h1 := P1.out.length_eq; have h2 := P2.out.length_eq; simp only [List.length_cons] at h1 h2; omega
                  obtain ⟨Wd, hWd⟩ : ∃ W, W = wr.alloc (.cells #[.int .i64 (tc.n : Nat), .slice bC (na + nb) dC] 79) := ⟨_, rfl⟩
                  have kd : Kp (fun _ => False) wr Wd := by rw [hWd]; exact (Kp.refl _ _).alloc _
                  have bd : Wd.heap[wr.heap.size]? = some (.cells #[.int .i64 (tc.n : Nat), .slice bC (na + nb) dC] 79 (0, 0)) := by rw [hWd]; exact alloc_at _ _
                  have hsd : Wd.heap.size = wr.heap.size + 1 := by rw [hWd]; simp
                  have FQ := Lib.hid (hF.kp kd (fun _ _ q => q) (fun _ _ _ _ q => q))
                  have SS := Lib.hid (one_sl bd)
                  have TT := Lib.hid (hTr.kp kd (fun _ _ q => q))
                  have O3 := Lib.hid (E_one1 hTr)
                  have LL := Lib.hid (hL.kp kd (fun _ _ q => q))
                  have KWD := Lib.hid (hkw.trans kd)
                  have SZ := Lib.hid hsd
                  have ST2 := Lib.hid hst2
                  have MM := Lib.hid hM
                  have HQL := Lib.hid hql
                  have hb32 : (Qs.length + 1) * 32 ≤ 140737488355328 := by omega
                  clear hc2 hS1 hS2 hL hM hk hbox hF hst2 hkw kd bd hsd hTr hql eb
                  go_wp2_with (at_builtin; rw [← hWd]; refine wpList_appO _ rfl _ _ 77 rfl 79 i0 _ 2 32 Try.underlying77 hi0 hz0 hz1 hz2 rfl (by decide) (by decide) (.slice a2 Qs.length c2) Qs.length _ rfl FQ.out.row (.slice (some ⟨wr.heap.size, 0, none⟩) 1 1) 1 _ rfl SS.out O3.out hb32 ?_; intro v' w7 g1 g2 g3 g4 g5; obtain ⟨b7, d7, rfl⟩ := g1.form; have G1 := Lib.hid g1; have G2 := Lib.hid g2; have G3 := Lib.hid g3; clear g1 g2 g3 g4 g5)
                  have hbC : ∀ b, (Value.slice bC (na + nb) dC).ownBlock = some b → b ≠ w.heap.size ∧ W2.heap.size ≤ b := fun b hb => by have h7 := (HNX.out b hb).1; have := KW.out.size; exact ⟨by omega, h7⟩
                  have P3 := FQ.out.push (by have := SZ.out; omega) TT.out (fun b hb q => by have := U2.out b q; have := (hbC b hb).2; have := FQ.out.row.lt q; have := HQ1.out.lt q; omega) G1.out G2.out G3.out
                  refine ⟨?_, (by have := HQL.out; simp [lenOf]; omega)⟩
                  refine ⟨Qs ++ [(tc, .slice bC (na + nb) dC)], bump tc.s L, m', b7, d7, rfl, by simp, by simpa using P3, by rw [List.map_append]; exact ST2.out, ?_, ?_, ?_, ?_, MM.out⟩
                  · exact LL.out.kp G2.out (fun b hb e => by have := U2.out b e; have := own_b hb; omega)
                  · intro b hb
                    have e := own_b hb
                    subst e
                    refine ⟨fun q => ?_, fun p hp q => ?_⟩
                    · rw [List.length_append] at q
                      rcases G3.out with q' | q'
                      · have := U2.out _ (q'.symm.trans q); omega
                      · have q'' := q'.symm.trans q; simp at q''; have := SZ.out; omega
                    · rcases List.mem_append.1 hp with hp | hp
                      · exact ((QT2.out p hp).2 _ q).2 rfl
                      · rw [List.mem_singleton] at hp; subst hp
                        exact (hbC _ q).1 rfl
                  · exact KWD.out.up G2.out (fun i q => FQ.out.new i q)
                  · have := G2.out.size; have := SZ.out; omega
          · go_wp2_with fail
            go_ret2
            refine ⟨L, mm, _, _, rfl, .inr ⟨H1.out, ST.out.done (by simp; omega)⟩, HL.out, HK.out, HMO.out.le, fun q => ?_⟩
            rcases HMO.out.is with e | ⟨i, hi, e⟩
            · omega
            · exact ⟨i, hi, by omega⟩
end Go.Proofs.Ytcecnkmhhbncdaa.Hu
