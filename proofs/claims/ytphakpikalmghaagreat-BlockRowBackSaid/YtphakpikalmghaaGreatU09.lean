/- match: the program's longest, Parse. match: the program's Literals. seqs: the document's Code, front, may, two. seqs: the document's Offsets. -/
import Derived.Deep.RegionHeld3
import Derived.Test.YtphakpikalmghaaGreatU08
import Derived.Test.YtphakpikalmghaaGreatU05
import Derived.Test.YtphakpikalmghaaGreatU07
namespace Go.Proofs.YtphakpikalmghaaGreat.Ma
open Go Go.RowKit Go.ChangeMaps Go.MapKept Go.Mg Go.Mt Go.Proofs.YtphakpikalmghaaGreat.Hu Go.Proofs.YtphakpikalmghaaGreat.Op

def LongestPost (w : World) (a : Nat → Nat) (m i depth : Nat) (e : Ending) (w' : World) : Prop := ∃ off size, (off, size) = best a m i depth ∧ e = .returned (.tuple #[.int .i64 (off : Nat), .int .i64 (size : Nat)]) ∧ ∃ q, w' = w.drewN q
set_option maxRecDepth 100000 in
set_option maxHeartbeats 4000000 in
theorem longest_p (w : World) (l : List UInt8) (a : Option Addr) (c : Nat) (h : SlR w 1 (.slice a l.length c) l.length (l.map u8c)) (hl : l.length ≤ 5000) (i depth : Nat) (hi : i < l.length) (hd : 1 ≤ depth) (hd2 : depth ≤ 32) :
    Calls Tryz.prog 35 #[.slice a l.length c, .int .i64 (i : Nat), .int .i64 (depth : Nat)] w (LongestPost w (byt l) l.length i depth) := by
  obtain ⟨g, o, rfl, hg, hcap, hc⟩ := byts_at h (by omega)
  have HC := Lib.hid hc
  obtain ⟨A, hA⟩ : ∃ A, A = byt l := ⟨_, rfl⟩
  obtain ⟨m, hm⟩ : ∃ m, m = l.length := ⟨_, rfl⟩
  rw [← hA, ← hm] at HC ⊢
  rw [← hm] at hl hi hcap
  have T0 := Lib.hid (Trial.start (a := A) (m := m) (i := i) hd)
  clear hA hm hc h
  go_enter Tryz.func35, Tryz.ntmps35
  go_wp2_with fail
  go_step3
  go_wp2_with fail
  go_step3
  go_wp2_with fail
  go_loopw [6, 7, 8, 9] (fun off' size' tr j wr => ∃ jj tried off size q : Nat, jj ≤ i ∧ tried < depth ∧ size ≤ m ∧ off ≤ i ∧ j = .int .i64 ((jj : Int) - 1) ∧ tr = .int .i64 tried ∧ size' = .int .i64 size ∧ off' = .int .i64 off ∧ Trial A m i depth jj tried off size ∧ wr = w.drewN q) (fun _ _ _ j _ => (intOf j + 1).toNat)
  case atStart => exact ⟨i, 0, 0, 0, 0, Nat.le_refl _, by omega, Nat.zero_le _, Nat.zero_le _, by simp, rfl, rfl, rfl, T0.out, rfl⟩
  case round =>
    obtain ⟨jj, tried, off, size, q, hjj, htr, hsz, hoff, rfl, rfl, rfl, rfl, htrial, rfl⟩ := hrel
    have HT := Lib.hid htrial
    clear htrial
    by_cases hj0 : jj = 0
    · subst hj0
      have hfin := HT.out.stop
      have HF := Lib.hid hfin
      clear hfin
      have e0 : ((0 : Nat) : Int) - 1 = -1 := by omega
      rw [e0]
      go_wp2_with fail
      go_ret2
      exact ⟨off, size, HF.out, rfl, q, rfl⟩
    · obtain ⟨j, rfl⟩ : ∃ j, jj = j + 1 := ⟨jj - 1, by omega⟩
      have e0 : ((j + 1 : Nat) : Int) - 1 = (j : Nat) := by omega
      rw [e0]
      clear e0
      go_wp2_with fail
      go_loopw [10] (fun n' wr => ∃ k q2 : Nat, i + k ≤ m ∧ n' = .int .i64 k ∧ lng A m j i (m - i - k) k = long A m j i ∧ wr = w.drewN q2) (fun n' _ => m - (intOf n').toNat)
      case atStart => exact ⟨0, q, by omega, rfl, rfl, rfl⟩
      case round =>
        obtain ⟨k, q2, hk, rfl, hlng, rfl⟩ := hrel
        have HLN := Lib.hid hlng
        clear hlng
        by_cases hlt : i + k < m
        · have d0 : ∀ q, (w.drewN q).cell? ⟨g, o + (j + k), none⟩ = some (.int .u8 (A (j + k) : Nat)) := fun q => HC.out (j + k) (by omega)
          have d1 : ∀ q, (w.drewN q).cell? ⟨g, o + (i + k), none⟩ = some (.int .u8 (A (i + k) : Nat)) := fun q => HC.out (i + k) hlt
          obtain ⟨x, hx⟩ : ∃ x, x = A (j + k) := ⟨_, rfl⟩
          obtain ⟨y, hy⟩ : ∃ y, y = A (i + k) := ⟨_, rfl⟩
          rw [← hx] at d0
          rw [← hy] at d1
          have HX := Lib.hid hx
          have HY := Lib.hid hy
          clear hx hy
          have s1 : IntKind.i64.wrap ((j : Int) + (k : Nat)) = (j : Int) + (k : Nat) := by rw [IntKind.wrap_i64]; omega
          have s2 : IntKind.i64.wrap ((i : Int) + (k : Nat)) = (i : Int) + (k : Nat) := by rw [IntKind.wrap_i64]; omega
          have s3 : ((j : Int) + (k : Nat)).toNat = j + k := by omega
          have s4 : ((i : Int) + (k : Nat)).toNat = i + k := by omega
          by_cases he : x = y
          · have HE := Lib.hid (lng_step (a := A) (m := m) (j := j) (i := i) (n := k) hlt (by rw [← HX.out, ← HY.out]; exact he))
            have he' : ((x : Int) == (y : Int)) = true := by rw [beq_iff_eq]; omega
            have he2 : ((x : Int) != (y : Int)) = false := by simp [he]
            clear he
            go_wp2_with fail
            go_quiet (fail)
            go_wp2_with fail
            refine ⟨⟨k + 1, q2 + nq, by omega, by go_num, by rw [← HE.out]; exact HLN.out, by first | trivial | rfl⟩, by simp [intOf]; omega⟩
          · have HE := Lib.hid (lng_stop (a := A) (m := m) (j := j) (i := i) (n := k) (by rw [← HX.out, ← HY.out]; exact he))
            have EL : Hid (long A m j i = k) := Lib.hid (by rw [← HLN.out, HE.out])
            have he2 : ((x : Int) != (y : Int)) = true := by rw [bne_iff_ne]; omega
            clear he
            go_wp2_with fail
            go_quiet (fail)
            clear d0 d1 s1 s2 s3 s4 he2 HX HY HE HLN
            have hll := long_le (a := A) (m := m) (j := j) (i := i) (by omega)
            rw [EL.out] at hll
            have HS := Lib.hid (fun h1 => HT.out.short htr h1)
            have HK := Lib.hid (fun h1 h2 => HT.out.keep htr h1 h2)
            have HTK := Lib.hid (fun h1 h2 => HT.out.take htr h1 h2 (by omega) (by omega))
            rw [EL.out] at HS HK HTK
            clear EL
            by_cases h4 : k < 4
            · have T1 := Lib.hid (HS.out h4)
              go_wp2_with fail
              refine ⟨⟨j, tried, off, size, q2 + nq, by omega, htr, hsz, hoff, by go_num, rfl, rfl, rfl, T1.out, by first | trivial | rfl | rw [World.drewN_drewN]⟩, by simp [intOf]; try omega⟩
            · by_cases hs : size < k
              · have T1 := Lib.hid (HTK.out h4 hs)
                by_cases hdd : tried + 1 = depth
                · have hde : ((tried : Int) + 1 == (depth : Nat)) = true := by rw [beq_iff_eq]; omega
                  have hsb : (i : Int) - (j : Nat) = ((i - j : Nat) : Int) := by omega
                  have HF := Lib.hid (T1.out.full (by omega))
                  clear hdd
                  go_wp2_with fail
                  (try rw [Exit.noGoto_ret])
                  go_ret2
                  exact ⟨i - j, k, HF.out, rfl, q2 + nq, by first | trivial | rfl | rw [World.drewN_drewN]⟩
                · have hde : ((tried : Int) + 1 == (depth : Nat)) = false := by rw [beq_eq_false_iff_ne]; omega
                  have hsb : (i : Int) - (j : Nat) = ((i - j : Nat) : Int) := by omega
                  go_wp2_with fail
                  refine ⟨⟨j, tried + 1, i - j, k, q2 + nq, by omega, by omega, by omega, by omega, by go_num, by go_num, rfl, rfl, T1.out, by first | trivial | rfl | rw [World.drewN_drewN]⟩, by simp [intOf]; try omega⟩
              · have T1 := Lib.hid (HK.out h4 hs)
                by_cases hdd : tried + 1 = depth
                · have hde : ((tried : Int) + 1 == (depth : Nat)) = true := by rw [beq_iff_eq]; omega
                  have HF := Lib.hid (T1.out.full (by omega))
                  clear hdd
                  go_wp2_with fail
                  (try rw [Exit.noGoto_ret])
                  go_ret2
                  exact ⟨off, size, HF.out, rfl, q2 + nq, by first | trivial | rfl | rw [World.drewN_drewN]⟩
                · have hde : ((tried : Int) + 1 == (depth : Nat)) = false := by rw [beq_eq_false_iff_ne]; omega
                  go_wp2_with fail
                  refine ⟨⟨j, tried + 1, off, size, q2 + nq, by omega, by omega, hsz, hoff, by go_num, by go_num, rfl, rfl, T1.out, by first | trivial | rfl | rw [World.drewN_drewN]⟩, by simp [intOf]; try omega⟩

        · have EL : Hid (long A m j i = k) := Lib.hid (by rw [← HLN.out, lng_end (by omega)])
          have hll := long_le (a := A) (m := m) (j := j) (i := i) (by omega)
          rw [EL.out] at hll
          have HS := Lib.hid (fun h1 => HT.out.short htr h1)
          have HK := Lib.hid (fun h1 h2 => HT.out.keep htr h1 h2)
          have HTK := Lib.hid (fun h1 h2 => HT.out.take htr h1 h2 (by omega) (by omega))
          rw [EL.out] at HS HK HTK
          clear EL
          by_cases h4 : k < 4
          · have T1 := Lib.hid (HS.out h4)
            go_wp2_with fail
            refine ⟨⟨j, tried, off, size, q2, by omega, htr, hsz, hoff, by go_num, rfl, rfl, rfl, T1.out, by first | trivial | rfl | rw [World.drewN_drewN]⟩, by simp [intOf]; try omega⟩
          · by_cases hs : size < k
            · have T1 := Lib.hid (HTK.out h4 hs)
              by_cases hdd : tried + 1 = depth
              · have hde : ((tried : Int) + 1 == (depth : Nat)) = true := by rw [beq_iff_eq]; omega
                have hsb : (i : Int) - (j : Nat) = ((i - j : Nat) : Int) := by omega
                have HF := Lib.hid (T1.out.full (by omega))
                clear hdd
                go_wp2_with fail
                (try rw [Exit.noGoto_ret])
                go_ret2
                exact ⟨i - j, k, HF.out, rfl, q2, by first | trivial | rfl | rw [World.drewN_drewN]⟩
              · have hde : ((tried : Int) + 1 == (depth : Nat)) = false := by rw [beq_eq_false_iff_ne]; omega
                have hsb : (i : Int) - (j : Nat) = ((i - j : Nat) : Int) := by omega
                go_wp2_with fail
                refine ⟨⟨j, tried + 1, i - j, k, q2, by omega, by omega, by omega, by omega, by go_num, by go_num, rfl, rfl, T1.out, by first | trivial | rfl | rw [World.drewN_drewN]⟩, by simp [intOf]; try omega⟩
            · have T1 := Lib.hid (HK.out h4 hs)
              by_cases hdd : tried + 1 = depth
              · have hde : ((tried : Int) + 1 == (depth : Nat)) = true := by rw [beq_iff_eq]; omega
                have HF := Lib.hid (T1.out.full (by omega))
                clear hdd
                go_wp2_with fail
                (try rw [Exit.noGoto_ret])
                go_ret2
                exact ⟨off, size, HF.out, rfl, q2, by first | trivial | rfl | rw [World.drewN_drewN]⟩
              · have hde : ((tried : Int) + 1 == (depth : Nat)) = false := by rw [beq_eq_false_iff_ne]; omega
                go_wp2_with fail
                refine ⟨⟨j, tried + 1, off, size, q2, by omega, by omega, hsz, hoff, by go_num, by go_num, rfl, rfl, T1.out, by first | trivial | rfl | rw [World.drewN_drewN]⟩, by simp [intOf]; try omega⟩

set_option maxRecDepth 100000 in
set_option maxHeartbeats 4000000 in
theorem parse_p (w : World) (p d : List UInt8) (ap : Option Addr) (cp : Nat) (hp : SlR w 1 (.slice ap p.length cp) p.length (p.map u8c)) (ad : Option Addr) (cd : Nat) (hd : SlR w 1 (.slice ad d.length cd) d.length (d.map u8c)) (hl1 : p.length ≤ 2000) (hl2 : d.length ≤ 500) (depth : Nat) (hd1 : 1 ≤ depth) (hd2 : depth ≤ 32) :
    Calls Tryz.prog 18 #[.slice ap p.length cp, .slice ad d.length cd, .int .i64 (depth : Nat)] w (ParsePost w (byt (p ++ d)) (p ++ d).length depth p.length) := by
  obtain ⟨i3, hi3, hy0, hy1, hy2⟩ := info_parts infoQ
  obtain ⟨W, hW⟩ : ∃ W, W = w.alloc (.cells #[.slice ap p.length cp, .slice ad d.length cd] 22) := ⟨_, rfl⟩
  have hk0 : Kp (fun _ => False) w W := by rw [hW]; exact kp_alloc _ _
  have hWh : W.heap[w.heap.size]? = some (.cells #[.slice ap p.length cp, .slice ad d.length cd] 22 (0, 0)) := by rw [hW]; exact alloc_at w _
  have hcat : cat [(ap, cp, p), (ad, cd, d)] 2 = p ++ d := by simp [cat]
  have CC : Hid (Calls Tryz.prog 34 #[.slice (some ⟨w.heap.size, 0, none⟩) 2 2] W (CatPostU W (p ++ d))) := Lib.hid (by
    have := concat_u W w.heap.size 0 2 [(ap, cp, p), (ad, cd, d)] (lt_of_at hWh) (Nat.le_refl _) (fun i hi => by
      rw [Nat.zero_add, cell_of hWh]
      match i, hi with
      | 0, _ => rfl
      | 1, _ => rfl) (fun i hi => by
      match i, hi with
      | 0, _ => exact hp.kp hk0 (fun _ _ q => q)
      | 1, _ => exact hd.kp hk0 (fun _ _ q => q)) (by simp) (by
        show (cat [(ap, cp, p), (ad, cd, d)] 2).length ≤ _
        rw [hcat, List.length_append]; omega)
    have e2 : [(ap, cp, p), (ad, cd, d)].length = 2 := rfl
    rw [e2, hcat] at this
    exact this)
  have K0 := Lib.hid hk0
  have HW := Lib.hid hW
  obtain ⟨np, hnp⟩ : ∃ np, np = p.length := ⟨_, rfl⟩
  obtain ⟨nd, hnd⟩ : ∃ nd, nd = d.length := ⟨_, rfl⟩
  obtain ⟨m, hm⟩ : ∃ m, m = np + nd := ⟨_, rfl⟩
  have hm2 : np ≤ m := by omega
  have hm3 : m ≤ 2500 := by omega
  have HM : Hid ((p ++ d).length = m) := Lib.hid (by rw [List.length_append, hm, hnp, hnd])
  have hhm := HM.out
  obtain ⟨A, hA⟩ : ∃ A, A = byt (p ++ d) := ⟨_, rfl⟩
  rw [← hnp] at hl1 HW ⊢
  rw [← hnd] at hl2 HW ⊢
  rw [hhm, ← hA]
  have HA := Lib.hid hA
  clear hp hd hnp hnd hm hhm hA hk0 hWh hcat hW
  go_enter Tryz.func18, Tryz.ntmps18
  go_wp2_with fail
  rw [← HW.out]
  refine CC.out.mono ?_
  rintro e w3 ⟨a2, c2, rfl, g1, g2⟩
  rw [HM.out] at g1 ⊢
  have G2 := Lib.hid g1
  have K3 := Lib.hid (K0.out.trans g2)
  have HSL : Hid (SlR w3 1 (.slice a2 m c2) m ((p ++ d).map u8c)) := Lib.hid (by have := G2.out.sl.1; rwa [HM.out] at this)
  have BD := Lib.hid (fun V (hk : Kp (fun _ => False) w3 V) i (hi : i < (p ++ d).length) => longest_p V (p ++ d) a2 c2 (by have := HSL.out.kp hk (fun _ _ q => q); rwa [← HM.out] at this) (by have := HM.out; omega) i depth hi hd1 hd2)
  have T0 : Hid (Going (byt (p ++ d)) (p ++ d).length depth np [] np 0) := Lib.hid ⟨by simp, by simp, by omega⟩
  rw [HM.out, ← HA.out] at BD T0
  clear HA HSL G2 HM g1 g2 CC HW K0
  go_wp2_with fail
  have hnn : m - np ≤ 2500 := by omega
  go_loopw [8, 9, 10] (fun v li i' wr => ∃ (l : List Sq) (i lit : Nat), i ≤ m ∧ i' = .int .i64 i ∧ li = .int .i64 lit ∧ RowQ w3.heap.size wr v l ∧ Going A m depth np l i lit ∧ Kp (fun _ => False) w3 wr) (fun _ _ i' _ => m - (intOf i').toNat)
  case atStart => exact ⟨[], np, 0, hm2, rfl, rfl, RowG.nil _ _ _ _, T0.out, Kp.refl _ _⟩
  case round =>
    obtain ⟨l, i, lit, hi, rfl, rfl, hrow, hgo, hkw⟩ := hrel
    have hb1 := hgo.2.1
    have hb2 := hgo.2.2
    obtain ⟨av, cv, rfl, hown, hbeyond⟩ := hrow
    have HROW : Hid (RowQ w3.heap.size wr (.slice av l.length cv) l) := Lib.hid ⟨av, cv, rfl, hown, hbeyond⟩
    obtain ⟨n, hn⟩ : ∃ n, n = l.length := ⟨_, rfl⟩
    rw [← hn] at HROW hb1 ⊢
    have HN := Lib.hid hn
    have HGO := Lib.hid hgo
    have HKW := Lib.hid hkw
    clear hown hbeyond hn hgo hkw
    by_cases h4 : i + 4 ≤ m
    · go_wp2_with fail
      refine (BD.out _ HKW.out i (by omega)).mono ?_
      rintro e w' ⟨off, size, hb, rfl, q, rfl⟩
      have hok := best_ok (a := A) (m := m) (i := i) (depth := depth) hi
      rw [← hb] at hok
      have HB := Lib.hid hb
      clear hb
      by_cases hz : size = 0
      · subst hz
        have HG2 := Lib.hid (HGO.out.lit h4 (by rw [← HB.out]))
        clear hok
        go_wp2_with fail
        refine ⟨⟨l, i + 1, lit + 1, by omega, by go_num, by go_num, ?_, HG2.out, HKW.out.drewN _⟩, by simp [intOf]; try omega⟩
        have := HROW.out.kp0 (w' := wr.drewN q) ((Kp.refl _ _).drewN _)
        exact this
      · have HG2 := Lib.hid (HGO.out.hit h4 HB.out hz)
        rcases hok with hok | hok
        · exact absurd hok hz
        · simp only at hok
          have hz2 : ((size : Int) == 0) = false := by rw [beq_eq_false_iff_ne]; omega
          have TL : Hid (SlR ((wr.drewN q).alloc (.cells #[.int .i64 (lit : Nat), .int .i64 (off : Nat), .int .i64 (size : Nat)] 60)) 3 (.slice (some ⟨wr.heap.size, 0, none⟩) 1 1) 1 ([(⟨lit, off, size⟩ : Sq)].flatMap sqc)) := Lib.hid (lit_g (wr.drewN q) 60 (sqc ⟨lit, off, size⟩) rfl)
          have KA : Hid (Kp (fun _ => False) wr ((wr.drewN q).alloc (.cells #[.int .i64 (lit : Nat), .int .i64 (off : Nat), .int .i64 (size : Nat)] 60))) := Lib.hid (((Kp.refl _ _).drewN _).alloc _)
          have HR2 := Lib.hid (HROW.out.kp0 KA.out)
          have HK2 := Lib.hid (HKW.out.trans KA.out)
          clear hz
          go_wp2_with (at_builtin; refine wpList_appG (w0 := w3) _ rfl _ _ 36 rfl 60 i3 _ 3 24 Tryz.underlying36 hi3 hy0 hy1 hy2 rfl (by decide) (by decide) sqc_1 (.slice av n cv) l rfl HR2.out (.slice (some ⟨wr.heap.size, 0, none⟩) 1 1) 1 [⟨lit, off, size⟩] rfl TL.out rfl HK2.out (n + 1) (by rw [HN.out]) (by omega) ?_; intro a5 c5 w5 g1 g2 g3; have G1 := Lib.hid g1; have G2 := Lib.hid g2; clear g1 g2 g3)
          refine ⟨⟨l ++ [⟨lit, off, size⟩], i + size, 0, by omega, by go_num, by first | rfl | go_num, G1.out, HG2.out, G2.out⟩, by simp [intOf]; try omega⟩
    · go_wp2_with fail
      go_ret
      have e := HGO.out.done (by omega)
      rw [e] at HROW
      exact ⟨_, rfl, HROW.out.low K3.out.size, K3.out.trans HKW.out⟩
end Go.Proofs.YtphakpikalmghaaGreat.Ma
namespace Go.Proofs.YtphakpikalmghaaGreat.Ma
open Go Go.RowKit Go.ChangeMaps Go.MapKept Go.Mg Go.Mt Go.Proofs.YtphakpikalmghaaGreat.Hu Go.Proofs.YtphakpikalmghaaGreat.Op

set_option maxRecDepth 100000 in
set_option maxHeartbeats 4000000 in
theorem literals_p (w : World) (d : List UInt8) (ad : Option Addr) (cd : Nat) (hd : SlR w 1 (.slice ad d.length cd) d.length (d.map u8c)) (l : List Sq) (al : Option Addr) (cl : Nat) (hl : SlR w 3 (.slice al l.length cl) l.length (l.flatMap sqc)) (hd5 : d.length ≤ 500) (hl5 : l.length ≤ 500) (ht : tot l ≤ d.length) :
    Calls Tryz.prog 19 #[.slice ad d.length cd, .slice al l.length cl] w (LitPost w d l) := by
  obtain ⟨i0, hi0, hz0, hz1, hz2⟩ := info_parts infoU8
  have HD0 : Hid (SlR w 1 (.slice ad d.length cd) d.length ((d.drop 0).map u8c)) := Lib.hid hd
  have HD : Hid (∀ V a c r p, Kp (fun _ => False) w V → SlR w 1 (.slice a r c) r ((d.drop p).map u8c) → ∀ n, n ≤ r → (∀ w', (Instr.slice 22 (.slice a r c) none (some (.int .i64 n)) none).run Tryz.prog w' = .ok (.slice a n c) w') ∧ SlR V 1 (.slice a n c) n (((d.drop p).take n).map u8c)) := Lib.hid (fun V a c r p hk hs n hn => by
    obtain ⟨q1, q2⟩ := (hs.kp hk (fun _ _ q => q)).upto Tryz.underlying22 infoU1 hn
    rw [Nat.mul_one, ← List.map_take] at q2
    exact ⟨q1, q2⟩)
  have HE : Hid (∀ a c r p, SlR w 1 (.slice a r c) r ((d.drop p).map u8c) → ∀ n, n ≤ r → ∃ a' c', (∀ w', (Instr.slice 22 (.slice a r c) (some (.int .i64 n)) none none).run Tryz.prog w' = .ok (.slice a' (r - n) c') w') ∧ SlR w 1 (.slice a' (r - n) c') (r - n) ((d.drop (p + n)).map u8c)) := Lib.hid (fun a c r p hs n hn => by
    obtain ⟨a', c', q1, q2, _⟩ := hs.from_ Tryz.underlying22 infoU1 hn
    rw [Nat.mul_one, ← List.map_drop, List.drop_drop] at q2
    exact ⟨a', c', q1, q2⟩)
  have HL : Hid (0 < l.length → ∃ g o, al = some ⟨g, o, none⟩ ∧ l.length ≤ cl ∧ ∀ V, Kp (fun _ => False) w V → ∀ i, i < l.length → V.cell? ⟨g, o + i * 3, none⟩ = some (.int .i64 ((sqAt l i).lit : Nat)) ∧ V.cell? ⟨g, o + i * 3 + 1, none⟩ = some (.int .i64 ((sqAt l i).off : Nat)) ∧ V.cell? ⟨g, o + i * 3 + 2, none⟩ = some (.int .i64 ((sqAt l i).len : Nat))) := Lib.hid (fun h0 => by
    obtain ⟨g, o, e, hg, hc, hs⟩ := sq_at hl h0
    exact ⟨g, o, e, hc, fun V hk i hi => ⟨(hk.cell (p := ⟨g, o + i * 3, none⟩) hg (fun q => q)).trans (hs i hi).1, (hk.cell (p := ⟨g, o + i * 3 + 1, none⟩) hg (fun q => q)).trans (hs i hi).2.1, (hk.cell (p := ⟨g, o + i * 3 + 2, none⟩) hg (fun q => q)).trans (hs i hi).2.2⟩⟩)
  have HLE := Lib.hid (lts_le d l ht)
  have HLL := Lib.hid (lts_len d l)
  obtain ⟨nd, hnd⟩ : ∃ nd, nd = d.length := ⟨_, rfl⟩
  obtain ⟨n, hn⟩ : ∃ n, n = l.length := ⟨_, rfl⟩
  rw [← hnd] at HLE HD0 hd5 ⊢
  rw [← hn] at HL HLE hl5 ⊢
  have HND := Lib.hid hnd
  have HN := Lib.hid hn
  clear hd hl hnd hn ht
  go_enter Tryz.func19, Tryz.ntmps19
  go_wp2_with fail
  go_loopw [0, 6, 11] (fun dv v i wr => ∃ (k p r : Nat) (a : Option Addr) (c : Nat), k ≤ n ∧ p = (lts d l k).2 ∧ p + r = nd ∧ i = .int .i64 k ∧ dv = .slice a r c ∧ SlR w 1 (.slice a r c) r ((d.drop p).map u8c) ∧ RowB w.heap.size wr v (lts d l k).1 ∧ Kp (fun _ => False) w wr) (fun _ _ i _ => n - (intOf i).toNat)
  case atStart => exact ⟨0, 0, nd, ad, cd, Nat.zero_le _, rfl, by omega, rfl, rfl, HD0.out, RowM.nil _ _ _, Kp.refl _ _⟩
  case round =>
    obtain ⟨k, p, r, a, c, hk, hp, hpr, rfl, rfl, hsl, hrow, hkw⟩ := hrel
    obtain ⟨av, cv, rfl, hown, hbeyond⟩ := hrow
    obtain ⟨o1, ho1⟩ : ∃ o1, o1 = (lts d l k).1 := ⟨_, rfl⟩
    have hol := HLL.out k
    rw [← ho1, ← hp] at hol
    have HROW : Hid (RowB w.heap.size wr (.slice av (lts d l k).1.length cv) (lts d l k).1) := Lib.hid ⟨av, cv, rfl, hown, hbeyond⟩
    rw [← ho1] at HROW ⊢
    obtain ⟨on, hon⟩ : ∃ on, on = o1.length := ⟨_, rfl⟩
    rw [← hon] at HROW hol ⊢
    have HO := Lib.hid ho1
    have HON := Lib.hid hon
    have HP := Lib.hid hp
    have HKW := Lib.hid hkw
    have HSL := Lib.hid hsl
    clear hown hbeyond hkw ho1 hon hp hsl
    by_cases hlt : k < n
    · obtain ⟨g, o, rfl, hcl, hcc⟩ := HL.out (by omega)
      obtain ⟨d0, d1, d2⟩ := hcc _ HKW.out k hlt
      have hle := HLE.out k hlt
      obtain ⟨x, hx⟩ : ∃ x, x = (sqAt l k).lit := ⟨_, rfl⟩
      obtain ⟨y, hy⟩ : ∃ y, y = (sqAt l k).len := ⟨_, rfl⟩
      rw [← hx] at d0 hle
      rw [← hy] at d2 hle
      rw [← HP.out] at hle
      generalize (sqAt l k).off = z at d1
      have HX := Lib.hid hx
      have HY := Lib.hid hy
      clear hcc hx hy
      have b1 : decide ((x : Int) < 0) = false := by simp
      have b2 : decide ((y : Int) < 0) = false := by simp
      have b3 : decide (r < x) = false := by simp; omega
      have b4 : decide ((r : Int) - (x : Nat) < (y : Nat)) = false := by simp; omega
      have KA : Hid (Kp (fun _ => False) wr (wr.alloc (.cells #[.int .i64 (x : Nat), .int .i64 (z : Nat), .int .i64 (y : Nat)] 60))) := Lib.hid (kp_alloc _ _)
      have KN := Lib.hid (HKW.out.trans KA.out)
      have HR2 := Lib.hid (HROW.out.kp0 KA.out)
      have G0 : Hid (¬ (Value.slice av on cv).ownBlock = some wr.heap.size) := Lib.hid (fun q => by have := HROW.out.lt q; omega)
      obtain ⟨hr8, hs8⟩ := HD.out _ _ _ _ _ KN.out HSL.out x (by omega)
      obtain ⟨a9, c9, hr9, hs9⟩ := HE.out _ _ _ _ HSL.out (x + y) (by omega)
      have hr9' : ∀ w', (Instr.slice 22 (.slice a r c) (some (.int .i64 ((x : Int) + (y : Nat)))) none none).run Tryz.prog w' = .ok (.slice a9 (r - (x + y)) c9) w' := fun w' => by
        have := hr9 w'
        rw [Int.natCast_add] at this
        exact this
      have HS8 := Lib.hid hs8
      have HS9 := Lib.hid hs9
      have HTL : Hid (((d.drop p).take x).length = x) := Lib.hid (by rw [List.length_take, List.length_drop, ← HND.out]; omega)
      have HNX : Hid ((lts d l (k + 1)).1 = o1 ++ (d.drop p).take x ∧ (lts d l (k + 1)).2 = p + (x + y)) := Lib.hid (by
        simp only [lts]
        rw [HO.out, HP.out, HX.out, HY.out]
        exact ⟨rfl, by omega⟩)
      clear hs8 hs9 hr9 HROW
      go_wp2_with (at_builtin; refine wpList_appM (w0 := w) _ rfl _ _ 22 rfl 5 i0 _ 1 Tryz.underlying22 hi0 hz0 hz1 hz2 rfl (by decide) (by decide) u8c_1 (.slice av on cv) o1 rfl HR2.out (.slice a x c) x _ rfl HS8.out HTL.out KN.out (on + x) (by rw [HON.out]) (by omega) ?_; intro a5 c5 w5 g1 g2 g3; have h5 := g3.at_ (alloc_at wr _) G0.out; have e1 : w5.cell? ⟨wr.heap.size, 0, none⟩ = some (.int .i64 (x : Nat)) := (by rw [cell_of h5]; rfl); have e2 : w5.cell? ⟨wr.heap.size, 2, none⟩ = some (.int .i64 (y : Nat)) := (by rw [cell_of h5]; rfl); have G1 := Lib.hid g1; have G2 := Lib.hid g2; clear g1 g2 g3 h5 HS8)
      refine ⟨⟨k + 1, p + (x + y), r - (x + y), a9, c9, by omega, HNX.out.2.symm, by omega, by go_num, rfl, HS9.out, ?_, G2.out⟩, by simp [intOf]; try omega⟩
      rw [HNX.out.1]
      exact G1.out
    · obtain rfl : k = n := by omega
      have HS8 := Lib.hid (HSL.out.kp HKW.out (fun _ _ q => q))
      have HTL : Hid ((d.drop p).length = r) := Lib.hid (by rw [List.length_drop, ← HND.out]; omega)
      have HLT : Hid (literals d l = o1 ++ d.drop p) := Lib.hid (by
        unfold literals
        rw [← HN.out, ← HO.out, ← HP.out])
      go_wp2_with (at_builtin; refine wpList_appM (w0 := w) _ rfl _ _ 22 rfl 5 i0 _ 1 Tryz.underlying22 hi0 hz0 hz1 hz2 rfl (by decide) (by decide) u8c_1 (.slice av on cv) o1 rfl HROW.out (.slice a r c) r _ rfl HS8.out HTL.out HKW.out (on + r) (by rw [HON.out]) (by omega) ?_; intro a5 c5 w5 g1 g2 _; have G1 := Lib.hid g1; have G2 := Lib.hid g2; clear g1 g2 HS8)
      go_ret2
      exact ⟨_, rfl, by rw [HLT.out]; exact G1.out, G2.out⟩
end Go.Proofs.YtphakpikalmghaaGreat.Ma
namespace Go.Proofs.YtphakpikalmghaaGreat.Ma
open Go Go.RowKit Go.ChangeMaps Go.MapKept Go.Mg Go.Mt Go.Proofs.YtphakpikalmghaaGreat.Hu Go.Proofs.YtphakpikalmghaaGreat.Bw Go.Proofs.YtphakpikalmghaaGreat.He Go.Proofs.YtphakpikalmghaaGreat.Sq

theorem bitLen_div {v k : Nat} (hv : v < 4096) : 0 < v / 2 ^ k ↔ k < Lib.bitLen v := by
  by_cases h0 : v = 0
  · subst h0
    have e : Lib.bitLen 0 = 0 := rfl
    rw [e]; simp
  · have := Fse.bitLen_spec (x := v) (by omega) (by omega)
    constructor
    · intro h
      apply Nat.lt_of_not_le
      intro q
      have : v < 2 ^ k := Nat.lt_of_lt_of_le this.2.2 (Nat.pow_le_pow_right (by omega) q)
      rw [Nat.div_eq_of_lt this] at h
      omega
    · intro h
      exact Nat.div_pos (Nat.le_trans (Nat.pow_le_pow_right (by omega) (by omega)) this.2.1) (Nat.two_pow_pos _)
def CodePost (v : Nat) (w : World) (e : Ending) (w' : World) : Prop := e = .returned (.tuple #[.int .i64 (Lib.bitLen v : Nat), .int .i64 (nb v : Nat), .int .i64 (ex v : Nat)]) ∧ w' = w
set_option maxRecDepth 100000 in
set_option maxHeartbeats 1000000 in
theorem code_d (v : Nat) (hv : v < 4096) (w : World) : Calls Tryz.prog 82 #[.int .i64 (v : Nat)] w (CodePost v w) := by
  have HB := Lib.hid (fun k => bitLen_div (k := k) hv)
  have hb12 := cd_le hv
  have HP := Lib.hid (fun (h : v ≠ 0) => Fse.bitLen_spec (x := v) (by omega) (by omega))
  have HX : Hid (nb v = Lib.bitLen v - 1 ∧ ex v = if v = 0 then 0 else v - 2 ^ (Lib.bitLen v - 1)) := Lib.hid ⟨rfl, rfl⟩
  have HZ : Hid (v = 0 → Lib.bitLen v = 0) := Lib.hid (fun h => by subst h; rfl)
  unfold CodePost
  obtain ⟨NB, hNB⟩ : ∃ NB, NB = nb v := ⟨_, rfl⟩
  obtain ⟨EX, hEX⟩ : ∃ EX, EX = ex v := ⟨_, rfl⟩
  obtain ⟨B, hB⟩ : ∃ B, B = Lib.bitLen v := ⟨_, rfl⟩
  rw [← hNB, ← hEX, ← hB] at HX
  rw [← hB] at HB hb12 HP HZ
  rw [← hNB, ← hEX, ← hB]
  clear hNB hEX hB
  go_enter Tryz.func82, Tryz.ntmps82
  go_wp2_with fail
  go_loop [5] (fun k' => ∃ k : Nat, k ≤ B ∧ k' = .int .i64 k) (fun k' => B - (intOf k').toNat)
  case atStart => exact ⟨0, Nat.zero_le _, rfl⟩
  case round =>
    obtain ⟨k, hk, rfl⟩ := hrel
    by_cases hlt : k < B
    · have b1 : decide ((0 : Int) < (v : Int) / 2 ^ k) = true := by
        have := (HB.out k).2 hlt
        have e : (v : Int) / 2 ^ k = ((v / 2 ^ k : Nat) : Int) := by simp
        rw [e]; exact decide_eq_true (by omega)
      go_wp2_with fail
      exact ⟨⟨k + 1, by omega, by go_num⟩, by simp [intOf]; try omega⟩
    · obtain rfl : k = B := by omega
      have b1 : decide ((0 : Int) < (v : Int) / 2 ^ k) = false := by
        have := HB.out k
        have e : (v : Int) / 2 ^ k = ((v / 2 ^ k : Nat) : Int) := by simp
        rw [e]; exact decide_eq_false (by omega)
      by_cases h0 : v = 0
      · subst h0
        have hk0 := HZ.out rfl
        obtain ⟨e1, e2⟩ := HX.out
        subst hk0
        go_wp2_with fail
        go_ret3
        exact ⟨rfl, rfl⟩
      · obtain ⟨p1, p2, p3⟩ := HP.out h0
        have hk0 : ((k : Int) == 0) = false := by rw [beq_eq_false_iff_ne]; omega
        have e1 : NB = k - 1 := HX.out.1
        have e2 : EX = v - 2 ^ (k - 1) := by rw [HX.out.2, if_neg h0]
        have e3 : ((k : Int) - 1) = ((k - 1 : Nat) : Int) := by omega
        have hp12 : 2 ^ (k - 1) ≤ v := p2
        obtain ⟨P, hP⟩ : ∃ P, P = 2 ^ (k - 1) := ⟨_, rfl⟩
        have e4 : (2 : Int) ^ (k - 1) = (P : Nat) := by rw [hP]; simp
        rw [← hP] at e2 hp12
        have e5 : (v : Int) - (P : Nat) = (EX : Nat) := by omega
        have E1 := Lib.hid e1
        clear e1 e2 hP p2 p3 HX h0
        go_wp2_with fail
        go_ret3
        exact ⟨by rw [E1.out]; rfl, rfl⟩
def hv3 (h : H3) : Value := .agg #[.int .i64 (h.a : Nat), .int .i64 (h.b : Nat), .int .i64 (h.c : Nat)]
def FrontPost (w : World) (h : H3) (e : Ending) (w' : World) : Prop := e = .returned (hv3 h) ∧ Kp (fun _ => False) w w'
set_option maxRecDepth 100000 in
set_option maxHeartbeats 1000000 in
theorem front_d (h : H3) (v off : Nat) (w : World) : Calls Tryz.prog 81 #[hv3 h, .int .i64 (v : Nat), .int .i64 (off : Nat)] w (FrontPost w (mv h v off)) := by
  obtain ⟨a, b, c⟩ := h
  unfold hv3
  have fin : ∀ (x y z : Nat) (tm : Array Value) (o : Obj), mv ⟨a, b, c⟩ v off = ⟨x, y, z⟩ → tm[6]?.getD undef = .pointer (some ⟨w.heap.size + 1, 0, none⟩) →
      bodyPost Tryz.prog Tryz.f81 (FrontPost w (mv ⟨a, b, c⟩ v off)) Exit.ret ⟨tm, []⟩ ((w.alloc o).alloc (.cells #[.int .i64 (x : Nat), .int .i64 (y : Nat), .int .i64 (z : Nat)] 23)) := by
    intro x y z tm o hm ht
    rw [hm]
    refine bodyPost_ret (v := hv3 ⟨x, y, z⟩) ?_ rfl ⟨rfl, (kp_alloc _ _).trans (kp_alloc _ _)⟩
    simp [results, Tryz.results81, ht, hv3, go_sem]
  have HF := Lib.hid fin
  by_cases h0 : v = 0
  · have HM : Hid (mv ⟨a, b, c⟩ v off = ⟨a, b, c⟩) := Lib.hid (by unfold mv; rw [if_pos h0])
    have b0 : ((v : Int) == 0) = true := by rw [beq_iff_eq]; omega
    clear fin h0
    go_enter Tryz.func81, Tryz.ntmps81
    go_wp2_with fail
    exact HF.out _ _ _ _ _ HM.out rfl
  · have b0 : ((v : Int) == 0) = false := by rw [beq_eq_false_iff_ne]; omega
    by_cases h1 : v = 1
    · have HM : Hid (mv ⟨a, b, c⟩ v off = ⟨off, a, c⟩) := Lib.hid (by unfold mv; rw [if_neg h0, if_pos h1])
      have b1 : ((v : Int) == 1) = true := by rw [beq_iff_eq]; omega
      clear fin h0 h1
      go_enter Tryz.func81, Tryz.ntmps81
      go_wp2_with fail
      exact HF.out _ _ _ _ _ HM.out rfl
    · have HM : Hid (mv ⟨a, b, c⟩ v off = ⟨off, a, b⟩) := Lib.hid (by unfold mv; rw [if_neg h0, if_neg h1])
      have b1 : ((v : Int) == 1) = false := by rw [beq_eq_false_iff_ne]; omega
      clear fin h0 h1
      go_enter Tryz.func81, Tryz.ntmps81
      go_wp2_with fail
      exact HF.out _ _ _ _ _ HM.out rfl
def TwoPost (w : World) (n : Nat) (e : Ending) (w' : World) : Prop := ∃ g, e = .returned (.slice (some ⟨g, 0, none⟩) 2 2) ∧ w.heap.size ≤ g ∧ RowB w.heap.size w' (.slice (some ⟨g, 0, none⟩) 2 2) (two n) ∧ Kp (fun _ => False) w w'
theorem two_cells (n : Nat) : (two n).map u8c = [.int .u8 ((n : Int) % 256), .int .u8 ((n : Int) / 256 % 256)] := by
  have e1 : ((UInt8.ofNat n).toNat : Int) = (n : Int) % 256 := by rw [UInt8.toNat_ofNat']; omega
  have e2 : ((UInt8.ofNat (n / 256)).toNat : Int) = (n : Int) / 256 % 256 := by rw [UInt8.toNat_ofNat']; omega
  simp only [two, List.map_cons, List.map_nil, u8c, e1, e2]
theorem two_row (w : World) (n : Nat) : RowB w.heap.size (w.alloc (.cells #[.int .u8 ((n : Int) % 256), .int .u8 ((n : Int) / 256 % 256)] 5)) (.slice (some ⟨w.heap.size, 0, none⟩) 2 2) (two n) := by
  refine ⟨_, _, rfl, ?_, fun k hk => Nat.le_of_eq (own_b hk).symm⟩
  rw [two_cells]
  exact own_m w 5 [.int .u8 ((n : Int) % 256), .int .u8 ((n : Int) / 256 % 256)] rfl (by omega)
set_option maxRecDepth 100000 in
set_option maxHeartbeats 1000000 in
theorem two_d (n : Nat) (w : World) : Calls Tryz.prog 50 #[.int .i64 (n : Nat)] w (TwoPost w n) := by
  have HR := Lib.hid (two_row w n)
  go_enter Tryz.func50, Tryz.ntmps50
  go_wp2_with fail
  go_ret
  exact ⟨_, rfl, Nat.le_refl _, HR.out, kp_alloc _ _⟩
set_option maxRecDepth 100000 in
set_option maxHeartbeats 1000000 in
theorem may6_d (x y z : Nat) (hx : x ≤ 500) (hy : 1 ≤ y) (hy2 : y ≤ 2500) (hz : 4 ≤ z) (hz2 : z ≤ 500) (w : World) : Calls Tryz.prog 49 #[.agg #[.int .i64 (x : Nat), .int .i64 (y : Nat), .int .i64 (z : Nat)]] w fun e w' => e = .returned (.bool true) ∧ Kp (fun _ => False) w w' := by
  have b1 : decide ((0 : Int) ≤ (x : Int)) = true := decide_eq_true (by omega)
  have b2 : decide ((x : Int) ≤ 500) = true := decide_eq_true (by omega)
  have b3 : decide ((1 : Int) ≤ (y : Int)) = true := decide_eq_true (by omega)
  have b4 : decide ((y : Int) ≤ 2500) = true := decide_eq_true (by omega)
  have b5 : decide ((4 : Int) ≤ (z : Int)) = true := decide_eq_true (by omega)
  have b6 : decide ((z : Int) ≤ 500) = true := decide_eq_true (by omega)
  go_enter Tryz.func49, Tryz.ntmps49
  go_wp2_with fail
  go_ret
  exact ⟨rfl, kp_alloc _ _⟩
end Go.Proofs.YtphakpikalmghaaGreat.Ma
namespace Go.Proofs.YtphakpikalmghaaGreat.Ma
open Go Go.RowKit Go.ChangeMaps Go.MapKept Go.Mg Go.Mt Go.Proofs.YtphakpikalmghaaGreat.Hu Go.Proofs.YtphakpikalmghaaGreat.Bw Go.Proofs.YtphakpikalmghaaGreat.He Go.Proofs.YtphakpikalmghaaGreat.Sq

def iv (x : Nat) : Value := .int .i64 (x : Nat)
abbrev RowI (B : Nat) (w : World) (v : Value) (l : List Nat) : Prop := RowM 3 iv B w v l
/-- The first n offsets' values. -/
def vals (l : List Sq) (h : H3) (n : Nat) : List Nat := (List.range n).map (off l h)
theorem vals_succ (l : List Sq) (h : H3) (n : Nat) : vals l h (n + 1) = vals l h n ++ [off l h n] := by simp [vals, List.range_succ]
theorem vals_len (l : List Sq) (h : H3) (n : Nat) : (vals l h n).length = n := by simp [vals]
def OffPost (w : World) (l : List Sq) (h : H3) (e : Ending) (w' : World) : Prop := ∃ v, e = .returned (.tuple #[v, hv3 (hs (ofs l) h l.length)]) ∧ RowI w.heap.size w' v (vals l h l.length) ∧ Kp (fun _ => False) w w'
/-- The last three offsets in a block. -/
def HAt (w : World) (g : Nat) (h : H3) : Prop := w.heap[g]? = some (.cells #[.int .i64 (h.a : Nat), .int .i64 (h.b : Nat), .int .i64 (h.c : Nat)] 23 (0, 0))
theorem HAt.cells {w : World} {g : Nat} {h : H3} (q : HAt w g h) : w.cell? ⟨g, 0, none⟩ = some (.int .i64 (h.a : Nat)) ∧ w.cell? ⟨g, 1, none⟩ = some (.int .i64 (h.b : Nat)) ∧ w.cell? ⟨g, 2, none⟩ = some (.int .i64 (h.c : Nat)) := by
  refine ⟨?_, ?_, ?_⟩ <;> rw [cell_of q] <;> rfl
theorem HAt.at_ {w : World} {g : Nat} {h : H3} (q : HAt w g h) (k : Nat) (hk : k < 3) : w.cell? ⟨g, k, none⟩ = some (.int .i64 ((if k = 0 then h.a else if k = 1 then h.b else h.c : Nat) : Int)) := by
  match k, hk with
  | 0, _ => exact q.cells.1
  | 1, _ => exact q.cells.2.1
  | 2, _ => exact q.cells.2.2
theorem HAt.kp {w w' : World} {g : Nat} {h : H3} {F : Nat → Prop} (q : HAt w g h) (hk : Kp F w w') (hF : ¬ F g) : HAt w' g h := hk.at_ q hF
theorem HAt.store {w : World} {g : Nat} {h : H3} (q : HAt w g h) (x y z : Nat) : HAt (((w.setCell ⟨g, 0, none⟩ (.int .i64 (x : Nat))).setCell ⟨g, 1, none⟩ (.int .i64 (y : Nat))).setCell ⟨g, 2, none⟩ (.int .i64 (z : Nat))) g ⟨x, y, z⟩ ∧
    Kp (· = g) w (((w.setCell ⟨g, 0, none⟩ (.int .i64 (x : Nat))).setCell ⟨g, 1, none⟩ (.int .i64 (y : Nat))).setCell ⟨g, 2, none⟩ (.int .i64 (z : Nat))) := by
  refine ⟨?_, (((Kp.refl (· = g) w).setCell (p := ⟨g, 0, none⟩) (fun _ => rfl) _).setCell (p := ⟨g, 1, none⟩) (fun _ => rfl) _).setCell (p := ⟨g, 2, none⟩) (fun _ => rfl) _⟩
  have h1 := setCell_at (i := 0) q (.int .i64 (x : Nat))
  have h2 := setCell_at (i := 1) h1 (.int .i64 (y : Nat))
  have h3 := setCell_at (i := 2) h2 (.int .i64 (z : Nat))
  exact h3
/-- What is found when the offsets from k on were looked at. -/
def lookv (h : H3) (o k : Nat) : Nat := if k ≤ 0 ∧ h.a = o then 0 else if k ≤ 1 ∧ h.b = o then 1 else if k ≤ 2 ∧ h.c = o then 2 else o + 2
theorem lookv_0 (h : H3) (o : Nat) : lookv h o 0 = ofv h o := by simp [lookv, ofv]
theorem lookv_3 (h : H3) (o : Nat) : lookv h o 3 = o + 2 := by simp [lookv]
theorem lookv_step (h : H3) (o k : Nat) (hk : k < 3) : lookv h o k = if (if k = 0 then h.a else if k = 1 then h.b else h.c) = o then k else lookv h o (k + 1) := by
  match k, hk with
  | 0, _ => simp [lookv]
  | 1, _ => simp [lookv]
  | 2, _ => simp [lookv]
theorem lookv_le (h : H3) (o k : Nat) : lookv h o k ≤ o + 2 := by
  unfold lookv
  repeat' split
  all_goals omega
set_option maxRecDepth 100000 in
set_option maxHeartbeats 4000000 in
theorem offsets_d (w : World) (l : List Sq) (al : Option Addr) (cl : Nat) (hl : SlR w 3 (.slice al l.length cl) l.length (l.flatMap sqc)) (hm : May l) (h : H3) :
    Calls Tryz.prog 51 #[.slice al l.length cl, hv3 h] w (OffPost w l h) := by
  obtain ⟨i0, hi0, hz0, hz1, hz2⟩ := info_parts infoI_
  have hlen := hm.1
  have HL : Hid (0 < l.length → ∃ g o, al = some ⟨g, o, none⟩ ∧ g < w.heap.size ∧ l.length ≤ cl ∧ ∀ V, Kp (fun _ => False) w V → ∀ i, i < l.length → V.cell? ⟨g, o + i * 3 + 1, none⟩ = some (.int .i64 (ofs l i : Nat))) := Lib.hid (fun h0 => by
    obtain ⟨g, o, e, hg, hc, hs⟩ := sq_at hl h0
    exact ⟨g, o, e, hg, hc, fun V hk i hi => (hk.cell (p := ⟨g, o + i * 3 + 1, none⟩) hg (fun q => q)).trans (hs i hi).2.1⟩)
  have HO := Lib.hid (ofs_le hm)
  have HV := Lib.hid (vals_succ l h)
  have HVL := Lib.hid (vals_len l h)
  have HNX : Hid (∀ i, hs (ofs l) h (i + 1) = mv (hs (ofs l) h i) (off l h i) (ofs l i)) := Lib.hid (fun i => rfl)
  have HOF : Hid (∀ i, off l h i = ofv (hs (ofs l) h i) (ofs l i)) := Lib.hid (fun i => rfl)
  have H0 : Hid (hs (ofs l) h 0 = h ∧ vals l h 0 = []) := Lib.hid ⟨rfl, rfl⟩
  unfold OffPost
  obtain ⟨n, hn⟩ : ∃ n, n = l.length := ⟨_, rfl⟩
  rw [← hn] at HL hlen ⊢
  obtain ⟨VA, hVA⟩ : ∃ VA, VA = vals l h := ⟨_, rfl⟩
  obtain ⟨HH, hHH⟩ : ∃ HH, HH = hs (ofs l) h := ⟨_, rfl⟩
  rw [← hVA] at HV HVL H0 ⊢
  rw [← hHH] at HNX HOF H0 ⊢
  obtain ⟨OF, hOF⟩ : ∃ OF, OF = ofs l := ⟨_, rfl⟩
  rw [← hOF] at HL HO HNX HOF
  obtain ⟨VO, hVO⟩ : ∃ VO, VO = off l h := ⟨_, rfl⟩
  rw [← hVO] at HV HNX HOF
  clear hl hm hn hVA hHH hOF hVO
  obtain ⟨ha, hb, hc⟩ := h
  unfold hv3
  go_enter Tryz.func51, Tryz.ntmps51
  go_wp2_with fail
  obtain ⟨W, hW⟩ : ∃ W, W = (w.alloc (.cells #[.int .i64 (ha : Nat), .int .i64 (hb : Nat), .int .i64 (hc : Nat)] 23)).alloc (.cells #[.int .i64 0, .int .i64 0, .int .i64 0] 23) := ⟨_, rfl⟩
  have hws : W.heap.size = w.heap.size + 2 := by rw [hW]; simp
  have hkW : Kp (fun _ => False) w W := by rw [hW]; exact (kp_alloc _ _).trans (kp_alloc _ _)
  have hG0 : HAt W w.heap.size ⟨ha, hb, hc⟩ := by
    rw [hW]; exact (kp_alloc _ _).at_ (alloc_at w _) (fun q => q)
  have hR0 : HAt W (w.heap.size + 1) ⟨0, 0, 0⟩ := by
    rw [hW]; have := alloc_at (w.alloc (.cells #[.int .i64 (ha : Nat), .int .i64 (hb : Nat), .int .i64 (hc : Nat)] 23)) (.cells #[.int .i64 0, .int .i64 0, .int .i64 0] 23)
    rw [World.size_alloc] at this
    exact this
  rw [← hW]
  obtain ⟨G, hG⟩ : ∃ G, G = w.heap.size := ⟨_, rfl⟩
  rw [← hG] at hG0 hR0 ⊢
  have HW := Lib.hid hws
  have HKW := Lib.hid hkW
  have HG0 := Lib.hid hG0
  have HR0 := Lib.hid hR0
  have HGE := Lib.hid hG
  clear hW hws hkW hG0 hR0 hG
  go_loopw [6, 7] (fun v i wr => ∃ k : Nat, k ≤ n ∧ i = .int .i64 k ∧ RowI W.heap.size wr v (VA k) ∧ HAt wr G (HH k) ∧ HAt wr (G + 1) ⟨0, 0, 0⟩ ∧ Kp (fun _ => False) w wr ∧ W.heap.size ≤ wr.heap.size) (fun _ i _ => n - (intOf i).toNat)
  case atStart => exact ⟨0, Nat.zero_le _, rfl, by rw [H0.out.2]; exact RowM.nil _ _ _, by rw [H0.out.1]; exact HG0.out, HR0.out, HKW.out, Nat.le_refl _⟩
  case round =>
    clear H0 HG0 HR0
    obtain ⟨k, hk, rfl, hrow, hat, hres, hkw, hsz⟩ := hrel
    obtain ⟨av, cv, rfl, hown, hbeyond⟩ := hrow
    have HROW : Hid (RowI W.heap.size wr (.slice av (VA k).length cv) (VA k)) := Lib.hid ⟨av, cv, rfl, hown, hbeyond⟩
    have hvl := HVL.out k
    rw [hvl] at HROW ⊢
    have HVK := Lib.hid hvl
    have HAT := Lib.hid hat
    have HRES := Lib.hid hres
    have HKR := Lib.hid hkw
    have HSZ := Lib.hid hsz
    clear hown hbeyond hvl hat hres hkw hsz
    by_cases hlt : k < n
    · obtain ⟨g, o, rfl, hgs, hcl, hcc⟩ := HL.out (by omega)
      have hne : g ≠ G := by have := HGE.out; omega
      have hne2 : G ≠ g := by omega
      have d0 := hcc _ HKR.out k hlt
      have HCC := Lib.hid hcc
      have ho := HO.out k
      have hof := HOF.out k
      have hnx := HNX.out k
      have hva := HV.out k
      obtain ⟨q, hq⟩ : ∃ q, q = OF k := ⟨_, rfl⟩
      obtain ⟨y, hy⟩ : ∃ y, y = VO k := ⟨_, rfl⟩
      obtain ⟨h3, hh3⟩ : ∃ h3, h3 = HH k := ⟨_, rfl⟩
      rw [← hq] at d0 ho hof hnx
      rw [← hy] at hof hnx hva
      rw [← hh3] at hof hnx HAT
      have HQ := Lib.hid hq
      have HOFK := Lib.hid hof
      have HNXK := Lib.hid hnx
      have HVAK := Lib.hid hva
      have HAS := Lib.hid (fun kk hkk => HAt.at_ HAT.out kk hkk)
      clear hcc hq hy hh3 hof hnx hva
      obtain ⟨w1, rfl⟩ : ∃ w1 : World, w1 = wr := ⟨_, rfl⟩
      go_wp2_with fail
      go_loopw [8, 9] (fun v' k' wr => ∃ kk y5 n5 : Nat, kk ≤ 3 ∧ y5 = lookv h3 q kk ∧ k' = .int .i64 ((kk : Int) - 1) ∧ v' = .int .i64 y5 ∧ wr = w1.drewN n5) (fun _ k' _ => (intOf k' + 1).toNat)
      case atStart => exact ⟨3, q + 2, 0, Nat.le_refl _, (lookv_3 _ _).symm, by simp, by go_num, rfl⟩
      case round =>
        obtain ⟨kk, y5, n5, hkk, hy5, rfl, rfl, rfl⟩ := hrel
        have HY5 := Lib.hid hy5
        have hle5 := lookv_le h3 q kk
        rw [← hy5] at hle5
        clear hy5
        by_cases hk0 : kk = 0
        · subst hk0
          have e0 : ((0 : Nat) : Int) - 1 = -1 := by omega
          rw [e0]
          have HYE : Hid (y5 = y) := Lib.hid (by rw [HY5.out, lookv_0, HOFK.out])
          clear e0 HY5
          have T := Lib.hid (lit_m (w1.drewN n5) 3 [iv y5] (n := 1) rfl (by omega))
          have KA : Hid (Kp (fun _ => False) w1 ((w1.drewN n5).alloc (.cells #[.int .i64 (y5 : Nat)] 3))) := Lib.hid (((Kp.refl _ _).drewN _).alloc _)
          have HR2 := Lib.hid (HROW.out.kp0 KA.out)
          have HB2 : Hid (W.heap.size ≤ ((w1.drewN n5).alloc (.cells #[.int .i64 (y5 : Nat)] 3)).heap.size) := Lib.hid (Nat.le_trans HSZ.out KA.out.size)
          go_wp2_with (at_builtin; refine wpList_appBM (B := W.heap.size) _ rfl _ _ 51 rfl 3 i0 _ 8 Tryz.underlying51 hi0 hz0 hz1 hz2 rfl (by decide) (by decide) nv1 (.slice av k cv) (VA k) rfl HR2.out HB2.out (.slice (some ⟨w1.heap.size, 0, none⟩) 1 1) 1 [y5] rfl T.out rfl (k + 1) (by rw [HVK.out]) (by omega) ?_; intro a5 c5 w5 g1 g2; have G1 := Lib.hid g1; have G2 := Lib.hid g2; clear g1 g2)
          have K5 : Hid (Kp (fun k => W.heap.size ≤ k) w1 w5) := Lib.hid ((KA.out.mono (fun _ _ q => q.elim)).trans G2.out)
          have HA5 := Lib.hid (HAT.out.kp K5.out (by have := HGE.out; have := HW.out; omega))
          have HR5 := Lib.hid (HRES.out.kp K5.out (by have := HGE.out; have := HW.out; omega))
          have HK5 : Hid (Kp (fun _ => False) w w5) := Lib.hid (HKR.out.trans2 K5.out (fun i hi q => by have := HW.out; omega))
          obtain ⟨t0, t1, t2⟩ := HA5.out.cells
          have t3 := HCC.out _ HK5.out k hlt
          rw [← HQ.out] at t3
          obtain ⟨h4, hh4⟩ : ∃ h4, h4 = HH (k + 1) := ⟨_, rfl⟩
          have FR : Hid (∀ V, Calls Tryz.prog 81 #[.agg #[.int .i64 (h3.a : Nat), .int .i64 (h3.b : Nat), .int .i64 (h3.c : Nat)], .int .i64 (y5 : Nat), .int .i64 (q : Nat)] V fun e w' => e = .returned (.agg #[.int .i64 (h4.a : Nat), .int .i64 (h4.b : Nat), .int .i64 (h4.c : Nat)]) ∧ Kp (fun _ => False) V w') := Lib.hid (fun V => by
            have := front_d h3 y5 q V
            rw [HYE.out, HQ.out, ← HQ.out, ← HNXK.out, ← hh4] at this
            rw [HYE.out]
            exact this)
          have HH4 := Lib.hid hh4
          have hk0 : (0 : Int) ≤ (k : Int) := by omega
          have hkn : (k : Int) < (n : Int) := by omega
          have HRED : Hid (∀ V, Kp (fun _ => False) w5 V → HAt V G h3 ∧ V.cell? ⟨g, o + k * 3 + 1, none⟩ = some (.int .i64 (q : Nat))) := Lib.hid (fun V hV => ⟨hV.at_ HA5.out (fun q => q), by rw [HCC.out _ (HK5.out.trans hV) k hlt, HQ.out]⟩)
          clear hh4 T KA HR2 d0 HAS
          go_region_with ((go_at_call 81; refine (FR.out _).mono ?_; rintro e V ⟨rfl, hV⟩; have kV := (Kp.refl (fun _ => False) w5).drew.trans hV; obtain ⟨hav, s3⟩ := HRED.out V kV; obtain ⟨s0, s1, s2⟩ := hav.cells; have f0 : V.frozen? ⟨G, 0, none⟩ = false := free_of hav 0; have f1 : V.frozen? ⟨G, 1, none⟩ = false := free_of hav 1; have f2 : V.frozen? ⟨G, 2, none⟩ = false := free_of hav 2; have KV := Lib.hid kV; have HAV := Lib.hid hav; clear hV kV hav))
          all_goals (go_wp2_with fail)
          all_goals
            obtain ⟨hst, hkst⟩ := HAV.out.store h4.a h4.b h4.c
            have hk3 := (KV.out.mono (G := (· = G)) (fun _ _ q => q.elim)).trans hkst
            have hGW : G < W.heap.size := by have := HGE.out; have := HW.out; omega
            refine ⟨⟨k + 1, by omega, by go_num, ?_, ?_, ?_, ?_, ?_⟩, by simp [intOf]; try omega⟩
            · rw [HVAK.out, ← HYE.out]; exact G1.out.kp hk3 (fun k q => by rw [q]; exact hGW)
            · rw [← HH4.out]; exact hst
            · exact HR5.out.kp hk3 (fun q => by omega)
            · exact HK5.out.trans2 hk3 (fun i hi q => by have := HGE.out; omega)
            · exact Nat.le_trans HB2.out (Nat.le_trans G2.out.size hk3.size)
        · obtain ⟨j, rfl⟩ : ∃ j, kk = j + 1 := ⟨kk - 1, by omega⟩
          have e0 : ((j + 1 : Nat) : Int) - 1 = (j : Nat) := by omega
          rw [e0]
          clear e0
          have d1 : ∀ z, (w1.drewN z).cell? ⟨G, j, none⟩ = some (.int .i64 ((if j = 0 then h3.a else if j = 1 then h3.b else h3.c : Nat) : Int)) := fun z => HAS.out j (by omega)
          have d2 : ∀ z, (w1.drewN z).cell? ⟨g, o + k * 3 + 1, none⟩ = some (.int .i64 (q : Nat)) := fun z => d0
          have HST := Lib.hid (lookv_step h3 q j (by omega))
          obtain ⟨x, hx⟩ : ∃ x, x = (if j = 0 then h3.a else if j = 1 then h3.b else h3.c) := ⟨_, rfl⟩
          rw [← hx] at d1 HST
          have hj0 : (0 : Int) ≤ (j : Int) := by omega
          have hj3 : (j : Int) < 3 := by omega
          clear hx
          by_cases he : x = q
          · have b1 : ((x : Int) == (q : Int)) = true := by rw [beq_iff_eq]; omega
            have HE : Hid (j = lookv h3 q j) := Lib.hid (by rw [HST.out, if_pos he])
            clear he
            go_wp2_with fail
            go_quiet (fail)
            go_wp2_with fail
            refine ⟨⟨j, j, n5 + nq, by omega, HE.out, by go_num, rfl, by first | trivial | rfl⟩, by simp [intOf]; try omega⟩
          · have b1 : ((x : Int) == (q : Int)) = false := by rw [beq_eq_false_iff_ne]; omega
            have HE : Hid (y5 = lookv h3 q j) := Lib.hid (by rw [HST.out, if_neg he]; exact HY5.out)
            clear he
            go_wp2_with fail
            go_quiet (fail)
            go_wp2_with fail
            refine ⟨⟨j, y5, n5 + nq, by omega, HE.out, by go_num, rfl, by first | trivial | rfl⟩, by simp [intOf]; try omega⟩
    · obtain rfl : k = n := by omega
      obtain ⟨t0, t1, t2⟩ := HAT.out.cells
      obtain ⟨s0, s1, s2⟩ := HRES.out.cells
      have f0 : wr.frozen? ⟨G + 1, 0, none⟩ = false := free_of HRES.out 0
      have f1 : wr.frozen? ⟨G + 1, 1, none⟩ = false := free_of HRES.out 1
      have f2 : wr.frozen? ⟨G + 1, 2, none⟩ = false := free_of HRES.out 2
      go_wp2_with fail
      go_region
      all_goals (go_wp2_with fail)
      all_goals
        obtain ⟨hst, hkst⟩ := HRES.out.store (HH k).a (HH k).b (HH k).c
        obtain ⟨y0, y1, y2⟩ := hst.cells
        have hk9 := (HKR.out.trans2 hkst (fun i hi q => by have := HGE.out; omega)).drew
        have hr9 : RowI W.heap.size _ (.slice av k cv) (VA k) := HROW.out.kp hkst.drew (fun j q => by rw [q]; have := HGE.out; have := HW.out; omega)
        refine bodyPost_ret (v := .tuple #[.slice av k cv, hv3 (HH k)]) ?_ rfl ⟨_, rfl, hr9.low (by have := HW.out; omega), hk9⟩
        simp [results, Tryz.results51, go_sem, y0, y1, y2, hv3]
end Go.Proofs.YtphakpikalmghaaGreat.Ma
