/- The library over bytes: Grow, Concat. match: the program's longest, Parse. match: the program's Literals. seqs: the document's Code, front, may, two. -/
import Derived.Test.YtmioiaeiflbmhaaGreatX05
import Derived.Test.YtmioiaeiflbmhaaGreatX07
import Derived.Test.YtmioiaeiflbmhaaGreatX09
import Derived.Test.YtmioiaeiflbmhaaGreatX06
import Derived.Test.YtmioiaeiflbmhaaGreatX08
namespace Go.Proofs.YtmioiaeiflbmhaaGreat.Ma
open Go Go.RowKit Go.ChangeMaps Go.MapKept Go.Mg
theorem infoU8c : (Tryz.prog.info? 5).map (fun i => (i.zero, i.size, i.bytes)) = some (some (.int .u8 0), 1, 1) := by kernel_rfl
theorem u8c_1c : ∀ y, (u8c y).oneCell' = true := fun _ => rfl
theorem zero_oneU : ∀ m, ∀ u ∈ (Builtin.zeroCells (Value.int IntKind.u8 0).cells m).toList, u.oneCell' = true := by
  intro m u hu
  have e : (Builtin.zeroCells (Value.int IntKind.u8 0).cells m).toList = List.replicate m (.int .u8 0) := zeroCells_one _ m
  rw [e] at hu
  rw [(List.mem_replicate.1 hu).2]
  rfl
theorem own_anyU (a : Option Addr) (n c m d : Nat) : (Value.slice a n c).ownBlock = (Value.slice a m d).ownBlock := by cases a <;> rfl
theorem upto0U {w : World} {e : TypeId} {n cap : Nat} {a : Option Addr} {xs : List Value} (h : OwnR w e 1 (.slice a n cap) n xs) (h0 : 0 < n) : OwnR w e 1 (.slice a 0 cap) 0 [] := by
  rcases h.2 with ⟨_, h1⟩ | ⟨g, c, cur, fr, e1, hg, hfr, h1, h2, h3, h4⟩
  · omega
  · simp only [Value.slice.injEq, true_and] at e1
    obtain ⟨rfl, rfl⟩ := e1
    exact ⟨rfl, .inr ⟨g, cap, cur, fr, rfl, hg, hfr, Nat.zero_le _, h2, h3, by simp⟩⟩
set_option maxRecDepth 100000 in
set_option maxHeartbeats 1000000 in
theorem grow_u (n : Nat) (hn : n ≤ 100000) (w : World) :
    Calls Tryz.prog 139 #[.slice none 0 0, .int .i64 (n : Nat)] w fun e w' => ∃ a c, e = .returned (.slice a 0 c) ∧ RowM 5 u8c w.heap.size w' (.slice a 0 c) [] ∧ Kp (fun _ => False) w w' := by
  obtain ⟨j0, hj0, hy0, hy1, hy2⟩ := info_parts infoU8c
  have HN := Lib.hid (OwnR.nil w 5 1)
  by_cases h0 : 0 < n
  · have hnp : 0 < n := h0
    go_enter Tryz.func139, Tryz.ntmps139
    go_wp2_with (at_builtin; go_must (refine wpList_appz _ rfl _ _ 23 3 rfl 5 j0 (.int .u8 0) .i64 1 1 Tryz.underlying23 Tryz.underlying3 hj0 hy0 hy1 hy2 rfl (by decide) (by decide) zero_oneU (.slice none 0 0) 0 [] rfl HN.out .i64 n rfl (by omega) ?_; intro v' w2 g1 g2 g3 g4 g5; rw [Nat.zero_add, List.nil_append] at g1; obtain ⟨b1, d1, rfl⟩ := g1.form; have G1 := Lib.hid g1; have G2 := Lib.hid g2; have G3 := Lib.hid g3; have hle : (0:Int) ≤ n := (by omega); clear g1 g2 g3 g4 g5))
    go_ret
    refine ⟨b1, d1, rfl, ⟨b1, d1, rfl, upto0U G1.out h0, fun b hb => ?_⟩, G2.out.mono (fun k _ e => by cases e)⟩
    have hb' : (Value.slice b1 n d1).ownBlock = some b := (own_anyU b1 n d1 0 d1).trans hb
    rcases G3.out with q | q
    · rw [hb'] at q; cases q
    · rw [hb'] at q; simp at q; omega
  · obtain rfl : n = 0 := by omega
    go_enter Tryz.func139, Tryz.ntmps139
    go_wp2_with fail
    go_ret
    exact ⟨none, 0, rfl, RowM.nil _ _ _, Kp.refl _ _⟩
abbrev Piece := Option Addr × Nat × List UInt8
def cat (L : List Piece) (k : Nat) : List UInt8 := (L.take k).flatMap (·.2.2)
theorem cat_succ {L : List Piece} {k : Nat} (h : k < L.length) : cat L (k + 1) = cat L k ++ L[k].2.2 := by
  unfold cat
  rw [List.take_succ_eq_append_getElem h, List.flatMap_append]
  simp
theorem cat_le (L : List Piece) (k : Nat) : (cat L k).length ≤ (cat L L.length).length := by
  have : cat L L.length = cat L k ++ (L.drop k).flatMap (·.2.2) := by
    unfold cat
    rw [List.take_length, ← List.flatMap_append, List.take_append_drop]
  rw [this, List.length_append]; omega
def CatPostU (w : World) (l : List UInt8) (e : Ending) (w' : World) : Prop := ∃ a c, e = .returned (.slice a l.length c) ∧ RowM 5 u8c w.heap.size w' (.slice a l.length c) l ∧ Kp (fun _ => False) w w'
set_option maxRecDepth 100000 in
set_option maxHeartbeats 4000000 in
theorem concat_u (w : World) (g o cap : Nat) (L : List Piece) (hg : g < w.heap.size) (hcap : L.length ≤ cap) (hc : ∀ i (hi : i < L.length), w.cell? ⟨g, o + i, none⟩ = some (.slice L[i].1 L[i].2.2.length L[i].2.1))
    (hs : ∀ i (hi : i < L.length), SlR w 1 (.slice L[i].1 L[i].2.2.length L[i].2.1) L[i].2.2.length (L[i].2.2.map u8c)) (hl : L.length ≤ 100) (hn : (cat L L.length).length ≤ 100000) :
    Calls Tryz.prog 115 #[.slice (some ⟨g, o, none⟩) L.length cap] w (CatPostU w (cat L L.length)) := by
  obtain ⟨j0, hj0, hy0, hy1, hy2⟩ := info_parts infoU8c
  have HC := Lib.hid hc
  have HS := Lib.hid hs
  have HLE := Lib.hid (cat_le L)
  have HSU := Lib.hid (fun k (h : k < L.length) => cat_succ h)
  have HZ : Hid (cat L 0 = []) := Lib.hid rfl
  obtain ⟨n, hnn⟩ : ∃ n, n = L.length := ⟨_, rfl⟩
  obtain ⟨m, hm⟩ : ∃ m, m = (cat L n).length := ⟨_, rfl⟩
  have HN := Lib.hid hnn
  rw [← hnn] at hl hcap HLE hn ⊢
  rw [← hm] at HLE hn
  have HM := Lib.hid hm
  have hle0 := HLE.out
  clear hc hs hnn hm hle0
  go_enter Tryz.func115, Tryz.ntmps115
  go_wp2_with fail
  go_loopw [3, 11] (fun z i wr => ∃ k q : Nat, k ≤ n ∧ q = (cat L k).length ∧ wr = w ∧ i = .int .i64 k ∧ z = .int .i64 q) (fun _ i _ => n - (intOf i).toNat)
  case atStart => exact ⟨0, 0, Nat.zero_le _, by rw [HZ.out]; rfl, rfl, rfl, rfl⟩
  case round =>
    obtain ⟨k, q, hk, hq, rfl, rfl, rfl⟩ := hrel
    have hqm := HLE.out k
    rw [← hq] at hqm
    have HQ := Lib.hid hq
    clear hq
    by_cases hlt : k < n
    · have hlt' : k < L.length := by rw [← HN.out]; exact hlt
      have d0 := HC.out k hlt'
      have hsu := HSU.out k hlt'
      have hqs := HLE.out (k + 1)
      rw [hsu, List.length_append, ← HQ.out] at hqs
      obtain ⟨x, hx⟩ : ∃ x, x = L[k].2.2.length := ⟨_, rfl⟩
      rw [← hx] at d0 hqs
      have HX : Hid (q + x = (cat L (k + 1)).length) := Lib.hid (by rw [hsu, List.length_append, ← HQ.out, hx])
      generalize L[k].1 = ak at d0
      generalize L[k].2.1 = ck at d0
      clear hsu hx
      go_wp2_with fail
      exact ⟨⟨k + 1, q + x, by omega, HX.out, by first | trivial | rfl, by go_num, by go_num⟩, by simp [intOf]; try omega⟩
    · obtain rfl : k = n := by omega
      obtain ⟨wo, rfl⟩ : ∃ wo : World, wo = wr := ⟨_, rfl⟩
      go_wp2_with fail
      refine (grow_u q (by omega) wo).mono ?_
      rintro e w1 ⟨a1, c1, rfl, p1, p2⟩
      have P1 := Lib.hid p1
      have P2 := Lib.hid p2
      clear p1 p2
      go_wp2_with fail
      go_loopw [6, 27] (fun v i wx => ∃ j : Nat, j ≤ k ∧ i = .int .i64 j ∧ RowM 5 u8c wo.heap.size wx v (cat L j) ∧ Kp (fun _ => False) wo wx) (fun _ i _ => k - (intOf i).toNat)
      case atStart => exact ⟨0, Nat.zero_le _, rfl, by rw [HZ.out]; exact P1.out, P2.out⟩
      case round =>
        obtain ⟨j, hj, rfl, hrow, hkw⟩ := hrel
        have hjm := HLE.out j
        obtain ⟨av, cv, rfl, hown, hbeyond⟩ := hrow
        obtain ⟨z, hz⟩ : ∃ z, z = cat L j := ⟨_, rfl⟩
        rw [← hz] at hown hjm hbeyond ⊢
        have HZZ := Lib.hid hz
        obtain ⟨zn, hzn⟩ : ∃ zn, zn = z.length := ⟨_, rfl⟩
        rw [← hzn] at hown hbeyond hjm ⊢
        have HZN := Lib.hid hzn
        have HROW : Hid (RowM 5 u8c wo.heap.size wr (.slice av zn cv) z) := Lib.hid ⟨av, cv, by rw [hzn], by rw [← hzn]; exact hown, hbeyond⟩
        have HKW := Lib.hid hkw
        clear hown hbeyond hkw hz hzn
        by_cases hlt : j < k
        · have hlt' : j < L.length := by rw [← HN.out]; exact hlt
          have d0 := (HKW.out.cell (p := ⟨g, o + j, none⟩) hg (fun q => q)).trans (HC.out j hlt')
          have hsu := HSU.out j hlt'
          have hqs := HLE.out (j + 1)
          rw [hsu, ← HZZ.out, List.length_append, ← HZN.out] at hqs
          have HSU2 := Lib.hid hsu
          have HSJ := Lib.hid ((HS.out j hlt').kp HKW.out (fun _ _ q => q))
          obtain ⟨y, hy⟩ : ∃ y, y = L[j].2.2 := ⟨_, rfl⟩
          rw [← hy] at d0 hqs HSJ HSU2
          obtain ⟨x, hx⟩ : ∃ x, x = y.length := ⟨_, rfl⟩
          rw [← hx] at d0 hqs HSJ
          have HX := Lib.hid hx
          generalize L[j].1 = ak at d0 HSJ
          generalize L[j].2.1 = ck at d0 HSJ
          rw [← HZZ.out] at HSU2
          clear hsu hx hy
          go_wp2_with (at_builtin; refine wpList_appM (w0 := wo) _ rfl _ _ 23 rfl 5 j0 _ 1 Tryz.underlying23 hj0 hy0 hy1 hy2 rfl (by decide) (by decide) u8c_1c (.slice av zn cv) z rfl HROW.out (.slice ak x ck) x y rfl HSJ.out HX.out.symm HKW.out (zn + x) (by rw [HZN.out]) (by omega) ?_; intro a5 c5 w5 g1 g2 _; have G1 := Lib.hid g1; have G2 := Lib.hid g2; clear g1 g2)
          exact ⟨⟨j + 1, by omega, by go_num, by rw [HSU2.out]; exact G1.out, G2.out⟩, by simp [intOf]; try omega⟩
        · obtain rfl : j = k := by omega
          go_wp2_with fail
          go_ret
          rw [← HZZ.out]
          exact ⟨av, cv, by rw [← HZN.out]; rfl, by rw [← HZN.out]; exact HROW.out, HKW.out⟩
end Go.Proofs.YtmioiaeiflbmhaaGreat.Ma
namespace Go.Proofs.YtmioiaeiflbmhaaGreat.Ma
open Go Go.RowKit Go.ChangeMaps Go.MapKept Go.Mg Go.Mt Go.Proofs.YtmioiaeiflbmhaaGreat.Hu Go.Proofs.YtmioiaeiflbmhaaGreat.Op
def LongestPost (w : World) (a : Nat → Nat) (m i depth : Nat) (e : Ending) (w' : World) : Prop := ∃ off size, (off, size) = best a m i depth ∧ e = .returned (.tuple #[.int .i64 (off : Nat), .int .i64 (size : Nat)]) ∧ ∃ q, w' = w.drewN q
set_option maxRecDepth 100000 in
set_option maxHeartbeats 4000000 in
theorem longest_p (w : World) (l : List UInt8) (a : Option Addr) (c : Nat) (h : SlR w 1 (.slice a l.length c) l.length (l.map u8c)) (hl : l.length ≤ 5000) (i depth : Nat) (hi : i < l.length) (hd : 1 ≤ depth) (hd2 : depth ≤ 32) :
    Calls Tryz.prog 141 #[.slice a l.length c, .int .i64 (i : Nat), .int .i64 (depth : Nat)] w (LongestPost w (byt l) l.length i depth) := by
  obtain ⟨g, o, rfl, hg, hcap, hc⟩ := byts_at h (by omega)
  have HC := Lib.hid hc
  obtain ⟨A, hA⟩ : ∃ A, A = byt l := ⟨_, rfl⟩
  obtain ⟨m, hm⟩ : ∃ m, m = l.length := ⟨_, rfl⟩
  rw [← hA, ← hm] at HC ⊢
  rw [← hm] at hl hi hcap
  have T0 := Lib.hid (Trial.start (a := A) (m := m) (i := i) hd)
  clear hA hm hc h
  go_enter Tryz.func141, Tryz.ntmps141
  go_wp2_with fail
  go_step3
  go_wp2_with fail
  go_step3
  go_wp2_with fail
  go_loopw [6, 7, 8, 9] (fun off' size' tr j wr => ∃ jj tried off size q : Nat, jj ≤ i ∧ tried < depth ∧ size ≤ m ∧ off ≤ i ∧ j = .int .i64 ((jj : Int) - 1) ∧ tr = .int .i64 tried ∧ size' = .int .i64 size ∧ off' = .int .i64 off ∧ Trial A m i depth jj tried off size ∧ wr = w.drewN q) (fun _ _ _ j _ => (intOf j + 1).toNat)
  case atStart => exact ⟨i, 0, 0, 0, 0, Nat.le_refl _, by omega, Nat.zero_le _, Nat.zero_le _, by simp, rfl, rfl, rfl, T0.out, rfl⟩
  case round =>
    obtain ⟨jj, tried, off, size, q, hjj, htr, hsz, hoff, rfl, rfl, rfl, rfl, htrial, rfl⟩ := hrel
    have HT := Lib.hid htrial
    clear htrial
    by_cases hj0 : jj = 0
    · subst hj0
      have hfin := HT.out.stop
      have HF := Lib.hid hfin
      clear hfin
      have e0 : ((0 : Nat) : Int) - 1 = -1 := by omega
      rw [e0]
      go_wp2_with fail
      go_ret2
      exact ⟨off, size, HF.out, rfl, q, rfl⟩
    · obtain ⟨j, rfl⟩ : ∃ j, jj = j + 1 := ⟨jj - 1, by omega⟩
      have e0 : ((j + 1 : Nat) : Int) - 1 = (j : Nat) := by omega
      rw [e0]
      clear e0
      go_wp2_with fail
      go_loopw [10] (fun n' wr => ∃ k q2 : Nat, i + k ≤ m ∧ n' = .int .i64 k ∧ lng A m j i (m - i - k) k = long A m j i ∧ wr = w.drewN q2) (fun n' _ => m - (intOf n').toNat)
      case atStart => exact ⟨0, q, by omega, rfl, rfl, rfl⟩
      case round =>
        obtain ⟨k, q2, hk, rfl, hlng, rfl⟩ := hrel
        have HLN := Lib.hid hlng
        clear hlng
        by_cases hlt : i + k < m
        · have d0 : ∀ q, (w.drewN q).cell? ⟨g, o + (j + k), none⟩ = some (.int .u8 (A (j + k) : Nat)) := fun q => HC.out (j + k) (by omega)
          have d1 : ∀ q, (w.drewN q).cell? ⟨g, o + (i + k), none⟩ = some (.int .u8 (A (i + k) : Nat)) := fun q => HC.out (i + k) hlt
          obtain ⟨x, hx⟩ : ∃ x, x = A (j + k) := ⟨_, rfl⟩
          obtain ⟨y, hy⟩ : ∃ y, y = A (i + k) := ⟨_, rfl⟩
          rw [← hx] at d0
          rw [← hy] at d1
          have HX := Lib.hid hx
          have HY := Lib.hid hy
          clear hx hy
          have s1 : IntKind.i64.wrap ((j : Int) + (k : Nat)) = (j : Int) + (k : Nat) := by rw [IntKind.wrap_i64]; omega
          have s2 : IntKind.i64.wrap ((i : Int) + (k : Nat)) = (i : Int) + (k : Nat) := by rw [IntKind.wrap_i64]; omega
          have s3 : ((j : Int) + (k : Nat)).toNat = j + k := by omega
          have s4 : ((i : Int) + (k : Nat)).toNat = i + k := by omega
          by_cases he : x = y
          · have HE := Lib.hid (lng_step (a := A) (m := m) (j := j) (i := i) (n := k) hlt (by rw [← HX.out, ← HY.out]; exact he))
            have he' : ((x : Int) == (y : Int)) = true := by rw [beq_iff_eq]; omega
            have he2 : ((x : Int) != (y : Int)) = false := by simp [he]
            clear he
            go_wp2_with fail
            go_quiet (fail)
            go_wp2_with fail
            refine ⟨⟨k + 1, q2 + nq, by omega, by go_num, by rw [← HE.out]; exact HLN.out, by first | trivial | rfl⟩, by simp [intOf]; omega⟩
          · have HE := Lib.hid (lng_stop (a := A) (m := m) (j := j) (i := i) (n := k) (by rw [← HX.out, ← HY.out]; exact he))
            have EL : Hid (long A m j i = k) := Lib.hid (by rw [← HLN.out, HE.out])
            have he2 : ((x : Int) != (y : Int)) = true := by rw [bne_iff_ne]; omega
            clear he
            go_wp2_with fail
            go_quiet (fail)
            clear d0 d1 s1 s2 s3 s4 he2 HX HY HE HLN
            have hll := long_le (a := A) (m := m) (j := j) (i := i) (by omega)
            rw [EL.out] at hll
            have HS := Lib.hid (fun h1 => HT.out.short htr h1)
            have HK := Lib.hid (fun h1 h2 => HT.out.keep htr h1 h2)
            have HTK := Lib.hid (fun h1 h2 => HT.out.take htr h1 h2 (by omega) (by omega))
            rw [EL.out] at HS HK HTK
            clear EL
            by_cases h4 : k < 4
            · have T1 := Lib.hid (HS.out h4)
              go_wp2_with fail
              refine ⟨⟨j, tried, off, size, q2 + nq, by omega, htr, hsz, hoff, by go_num, rfl, rfl, rfl, T1.out, by first | trivial | rfl | rw [World.drewN_drewN]⟩, by simp [intOf]; try omega⟩
            · by_cases hs : size < k
              · have T1 := Lib.hid (HTK.out h4 hs)
                by_cases hdd : tried + 1 = depth
                · have hde : ((tried : Int) + 1 == (depth : Nat)) = true := by rw [beq_iff_eq]; omega
                  have hsb : (i : Int) - (j : Nat) = ((i - j : Nat) : Int) := by omega
                  have HF := Lib.hid (T1.out.full (by omega))
                  clear hdd
                  go_wp2_with fail
                  (try rw [Exit.noGoto_ret])
                  go_ret2
                  exact ⟨i - j, k, HF.out, rfl, q2 + nq, by first | trivial | rfl | rw [World.drewN_drewN]⟩
                · have hde : ((tried : Int) + 1 == (depth : Nat)) = false := by rw [beq_eq_false_iff_ne]; omega
                  have hsb : (i : Int) - (j : Nat) = ((i - j : Nat) : Int) := by omega
                  go_wp2_with fail
                  refine ⟨⟨j, tried + 1, i - j, k, q2 + nq, by omega, by omega, by omega, by omega, by go_num, by go_num, rfl, rfl, T1.out, by first | trivial | rfl | rw [World.drewN_drewN]⟩, by simp [intOf]; try omega⟩
              · have T1 := Lib.hid (HK.out h4 hs)
                by_cases hdd : tried + 1 = depth
                · have hde : ((tried : Int) + 1 == (depth : Nat)) = true := by rw [beq_iff_eq]; omega
                  have HF := Lib.hid (T1.out.full (by omega))
                  clear hdd
                  go_wp2_with fail
                  (try rw [Exit.noGoto_ret])
                  go_ret2
                  exact ⟨off, size, HF.out, rfl, q2 + nq, by first | trivial | rfl | rw [World.drewN_drewN]⟩
                · have hde : ((tried : Int) + 1 == (depth : Nat)) = false := by rw [beq_eq_false_iff_ne]; omega
                  go_wp2_with fail
                  refine ⟨⟨j, tried + 1, off, size, q2 + nq, by omega, by omega, hsz, hoff, by go_num, by go_num, rfl, rfl, T1.out, by first | trivial | rfl | rw [World.drewN_drewN]⟩, by simp [intOf]; try omega⟩
        · have EL : Hid (long A m j i = k) := Lib.hid (by rw [← HLN.out, lng_end (by omega)])
          have hll := long_le (a := A) (m := m) (j := j) (i := i) (by omega)
          rw [EL.out] at hll
          have HS := Lib.hid (fun h1 => HT.out.short htr h1)
          have HK := Lib.hid (fun h1 h2 => HT.out.keep htr h1 h2)
          have HTK := Lib.hid (fun h1 h2 => HT.out.take htr h1 h2 (by omega) (by omega))
          rw [EL.out] at HS HK HTK
          clear EL
          by_cases h4 : k < 4
          · have T1 := Lib.hid (HS.out h4)
            go_wp2_with fail
            refine ⟨⟨j, tried, off, size, q2, by omega, htr, hsz, hoff, by go_num, rfl, rfl, rfl, T1.out, by first | trivial | rfl | rw [World.drewN_drewN]⟩, by simp [intOf]; try omega⟩
          · by_cases hs : size < k
            · have T1 := Lib.hid (HTK.out h4 hs)
              by_cases hdd : tried + 1 = depth
              · have hde : ((tried : Int) + 1 == (depth : Nat)) = true := by rw [beq_iff_eq]; omega
                have hsb : (i : Int) - (j : Nat) = ((i - j : Nat) : Int) := by omega
                have HF := Lib.hid (T1.out.full (by omega))
                clear hdd
                go_wp2_with fail
                (try rw [Exit.noGoto_ret])
                go_ret2
                exact ⟨i - j, k, HF.out, rfl, q2, by first | trivial | rfl | rw [World.drewN_drewN]⟩
              · have hde : ((tried : Int) + 1 == (depth : Nat)) = false := by rw [beq_eq_false_iff_ne]; omega
                have hsb : (i : Int) - (j : Nat) = ((i - j : Nat) : Int) := by omega
                go_wp2_with fail
                refine ⟨⟨j, tried + 1, i - j, k, q2, by omega, by omega, by omega, by omega, by go_num, by go_num, rfl, rfl, T1.out, by first | trivial | rfl | rw [World.drewN_drewN]⟩, by simp [intOf]; try omega⟩
            · have T1 := Lib.hid (HK.out h4 hs)
              by_cases hdd : tried + 1 = depth
              · have hde : ((tried : Int) + 1 == (depth : Nat)) = true := by rw [beq_iff_eq]; omega
                have HF := Lib.hid (T1.out.full (by omega))
                clear hdd
                go_wp2_with fail
                (try rw [Exit.noGoto_ret])
                go_ret2
                exact ⟨off, size, HF.out, rfl, q2, by first | trivial | rfl | rw [World.drewN_drewN]⟩
              · have hde : ((tried : Int) + 1 == (depth : Nat)) = false := by rw [beq_eq_false_iff_ne]; omega
                go_wp2_with fail
                refine ⟨⟨j, tried + 1, off, size, q2, by omega, by omega, hsz, hoff, by go_num, by go_num, rfl, rfl, T1.out, by first | trivial | rfl | rw [World.drewN_drewN]⟩, by simp [intOf]; try omega⟩
set_option maxRecDepth 100000 in
set_option maxHeartbeats 4000000 in
theorem parse_p (w : World) (p d : List UInt8) (ap : Option Addr) (cp : Nat) (hp : SlR w 1 (.slice ap p.length cp) p.length (p.map u8c)) (ad : Option Addr) (cd : Nat) (hd : SlR w 1 (.slice ad d.length cd) d.length (d.map u8c)) (hl1 : p.length ≤ 2000) (hl2 : d.length ≤ 500) (depth : Nat) (hd1 : 1 ≤ depth) (hd2 : depth ≤ 32) :
    Calls Tryz.prog 118 #[.slice ap p.length cp, .slice ad d.length cd, .int .i64 (depth : Nat)] w (ParsePost w (byt (p ++ d)) (p ++ d).length depth p.length) := by
  obtain ⟨i3, hi3, hy0, hy1, hy2⟩ := info_parts infoQ
  obtain ⟨W, hW⟩ : ∃ W, W = w.alloc (.cells #[.slice ap p.length cp, .slice ad d.length cd] 23) := ⟨_, rfl⟩
  have hk0 : Kp (fun _ => False) w W := by rw [hW]; exact kp_alloc _ _
  have hWh : W.heap[w.heap.size]? = some (.cells #[.slice ap p.length cp, .slice ad d.length cd] 23 (0, 0)) := by rw [hW]; exact alloc_at w _
  have hcat : cat [(ap, cp, p), (ad, cd, d)] 2 = p ++ d := by simp [cat]
  have CC : Hid (Calls Tryz.prog 115 #[.slice (some ⟨w.heap.size, 0, none⟩) 2 2] W (CatPostU W (p ++ d))) := Lib.hid (by
    have := concat_u W w.heap.size 0 2 [(ap, cp, p), (ad, cd, d)] (lt_of_at hWh) (Nat.le_refl _) (fun i hi => by
      rw [Nat.zero_add, cell_of hWh]
      match i, hi with
      | 0, _ => rfl
      | 1, _ => rfl) (fun i hi => by
      match i, hi with
      | 0, _ => exact hp.kp hk0 (fun _ _ q => q)
      | 1, _ => exact hd.kp hk0 (fun _ _ q => q)) (by simp) (by
        show (cat [(ap, cp, p), (ad, cd, d)] 2).length ≤ _
        rw [hcat, List.length_append]; omega)
    have e2 : [(ap, cp, p), (ad, cd, d)].length = 2 := rfl
    rw [e2, hcat] at this
    exact this)
  have K0 := Lib.hid hk0
  have HW := Lib.hid hW
  obtain ⟨np, hnp⟩ : ∃ np, np = p.length := ⟨_, rfl⟩
  obtain ⟨nd, hnd⟩ : ∃ nd, nd = d.length := ⟨_, rfl⟩
  obtain ⟨m, hm⟩ : ∃ m, m = np + nd := ⟨_, rfl⟩
  have hm2 : np ≤ m := by omega
  have hm3 : m ≤ 2500 := by omega
  have HM : Hid ((p ++ d).length = m) := Lib.hid (by rw [List.length_append, hm, hnp, hnd])
  have hhm := HM.out
  obtain ⟨A, hA⟩ : ∃ A, A = byt (p ++ d) := ⟨_, rfl⟩
  rw [← hnp] at hl1 HW ⊢
  rw [← hnd] at hl2 HW ⊢
  rw [hhm, ← hA]
  have HA := Lib.hid hA
  clear hp hd hnp hnd hm hhm hA hk0 hWh hcat hW
  go_enter Tryz.func118, Tryz.ntmps118
  go_wp2_with fail
  rw [← HW.out]
  refine CC.out.mono ?_
  rintro e w3 ⟨a2, c2, rfl, g1, g2⟩
  rw [HM.out] at g1 ⊢
  have G2 := Lib.hid g1
  have K3 := Lib.hid (K0.out.trans g2)
  have HSL : Hid (SlR w3 1 (.slice a2 m c2) m ((p ++ d).map u8c)) := Lib.hid (by have := G2.out.sl.1; rwa [HM.out] at this)
  have BD := Lib.hid (fun V (hk : Kp (fun _ => False) w3 V) i (hi : i < (p ++ d).length) => longest_p V (p ++ d) a2 c2 (by have := HSL.out.kp hk (fun _ _ q => q); rwa [← HM.out] at this) (by have := HM.out; omega) i depth hi hd1 hd2)
  have T0 : Hid (Going (byt (p ++ d)) (p ++ d).length depth np [] np 0) := Lib.hid ⟨by simp, by simp, by omega⟩
  rw [HM.out, ← HA.out] at BD T0
  clear HA HSL G2 HM g1 g2 CC HW K0
  go_wp2_with fail
  have hnn : m - np ≤ 2500 := by omega
  go_loopw [8, 9, 10] (fun v li i' wr => ∃ (l : List Sq) (i lit : Nat), i ≤ m ∧ i' = .int .i64 i ∧ li = .int .i64 lit ∧ RowQ w3.heap.size wr v l ∧ Going A m depth np l i lit ∧ Kp (fun _ => False) w3 wr) (fun _ _ i' _ => m - (intOf i').toNat)
  case atStart => exact ⟨[], np, 0, hm2, rfl, rfl, RowG.nil _ _ _ _, T0.out, Kp.refl _ _⟩
  case round =>
    obtain ⟨l, i, lit, hi, rfl, rfl, hrow, hgo, hkw⟩ := hrel
    have hb1 := hgo.2.1
    have hb2 := hgo.2.2
    obtain ⟨av, cv, rfl, hown, hbeyond⟩ := hrow
    have HROW : Hid (RowQ w3.heap.size wr (.slice av l.length cv) l) := Lib.hid ⟨av, cv, rfl, hown, hbeyond⟩
    obtain ⟨n, hn⟩ : ∃ n, n = l.length := ⟨_, rfl⟩
    rw [← hn] at HROW hb1 ⊢
    have HN := Lib.hid hn
    have HGO := Lib.hid hgo
    have HKW := Lib.hid hkw
    clear hown hbeyond hn hgo hkw
    by_cases h4 : i + 4 ≤ m
    · go_wp2_with fail
      refine (BD.out _ HKW.out i (by omega)).mono ?_
      rintro e w' ⟨off, size, hb, rfl, q, rfl⟩
      have hok := best_ok (a := A) (m := m) (i := i) (depth := depth) hi
      rw [← hb] at hok
      have HB := Lib.hid hb
      clear hb
      by_cases hz : size = 0
      · subst hz
        have HG2 := Lib.hid (HGO.out.lit h4 (by rw [← HB.out]))
        clear hok
        go_wp2_with fail
        refine ⟨⟨l, i + 1, lit + 1, by omega, by go_num, by go_num, ?_, HG2.out, HKW.out.drewN _⟩, by simp [intOf]; try omega⟩
        have := HROW.out.kp0 (w' := wr.drewN q) ((Kp.refl _ _).drewN _)
        exact this
      · have HG2 := Lib.hid (HGO.out.hit h4 HB.out hz)
        rcases hok with hok | hok
        · exact absurd hok hz
        · simp only at hok
          have hz2 : ((size : Int) == 0) = false := by rw [beq_eq_false_iff_ne]; omega
          have TL : Hid (SlR ((wr.drewN q).alloc (.cells #[.int .i64 (lit : Nat), .int .i64 (off : Nat), .int .i64 (size : Nat)] 186)) 3 (.slice (some ⟨wr.heap.size, 0, none⟩) 1 1) 1 ([(⟨lit, off, size⟩ : Sq)].flatMap sqc)) := Lib.hid (lit_g (wr.drewN q) 186 (sqc ⟨lit, off, size⟩) rfl)
          have KA : Hid (Kp (fun _ => False) wr ((wr.drewN q).alloc (.cells #[.int .i64 (lit : Nat), .int .i64 (off : Nat), .int .i64 (size : Nat)] 186))) := Lib.hid (((Kp.refl _ _).drewN _).alloc _)
          have HR2 := Lib.hid (HROW.out.kp0 KA.out)
          have HK2 := Lib.hid (HKW.out.trans KA.out)
          clear hz
          go_wp2_with (at_builtin; refine wpList_appG (w0 := w3) _ rfl _ _ 155 rfl 186 i3 _ 3 24 Tryz.underlying155 hi3 hy0 hy1 hy2 rfl (by decide) (by decide) sqc_1 (.slice av n cv) l rfl HR2.out (.slice (some ⟨wr.heap.size, 0, none⟩) 1 1) 1 [⟨lit, off, size⟩] rfl TL.out rfl HK2.out (n + 1) (by rw [HN.out]) (by omega) ?_; intro a5 c5 w5 g1 g2 g3; have G1 := Lib.hid g1; have G2 := Lib.hid g2; clear g1 g2 g3)
          refine ⟨⟨l ++ [⟨lit, off, size⟩], i + size, 0, by omega, by go_num, by first | rfl | go_num, G1.out, HG2.out, G2.out⟩, by simp [intOf]; try omega⟩
    · go_wp2_with fail
      go_ret
      have e := HGO.out.done (by omega)
      rw [e] at HROW
      exact ⟨_, rfl, HROW.out.low K3.out.size, K3.out.trans HKW.out⟩
end Go.Proofs.YtmioiaeiflbmhaaGreat.Ma
namespace Go.Proofs.YtmioiaeiflbmhaaGreat.Ma
open Go Go.RowKit Go.ChangeMaps Go.MapKept Go.Mg Go.Mt Go.Proofs.YtmioiaeiflbmhaaGreat.Hu Go.Proofs.YtmioiaeiflbmhaaGreat.Op
set_option maxRecDepth 100000 in
set_option maxHeartbeats 4000000 in
theorem literals_p (w : World) (d : List UInt8) (ad : Option Addr) (cd : Nat) (hd : SlR w 1 (.slice ad d.length cd) d.length (d.map u8c)) (l : List Sq) (al : Option Addr) (cl : Nat) (hl : SlR w 3 (.slice al l.length cl) l.length (l.flatMap sqc)) (hd5 : d.length ≤ 500) (hl5 : l.length ≤ 500) (ht : tot l ≤ d.length) :
    Calls Tryz.prog 119 #[.slice ad d.length cd, .slice al l.length cl] w (LitPost w d l) := by
  obtain ⟨i0, hi0, hz0, hz1, hz2⟩ := info_parts infoU8
  have HD0 : Hid (SlR w 1 (.slice ad d.length cd) d.length ((d.drop 0).map u8c)) := Lib.hid hd
  have HD : Hid (∀ V a c r p, Kp (fun _ => False) w V → SlR w 1 (.slice a r c) r ((d.drop p).map u8c) → ∀ n, n ≤ r → (∀ w', (Instr.slice 23 (.slice a r c) none (some (.int .i64 n)) none).run Tryz.prog w' = .ok (.slice a n c) w') ∧ SlR V 1 (.slice a n c) n (((d.drop p).take n).map u8c)) := Lib.hid (fun V a c r p hk hs n hn => by
    obtain ⟨q1, q2⟩ := (hs.kp hk (fun _ _ q => q)).upto Tryz.underlying23 infoU1 hn
    rw [Nat.mul_one, ← List.map_take] at q2
    exact ⟨q1, q2⟩)
  have HE : Hid (∀ a c r p, SlR w 1 (.slice a r c) r ((d.drop p).map u8c) → ∀ n, n ≤ r → ∃ a' c', (∀ w', (Instr.slice 23 (.slice a r c) (some (.int .i64 n)) none none).run Tryz.prog w' = .ok (.slice a' (r - n) c') w') ∧ SlR w 1 (.slice a' (r - n) c') (r - n) ((d.drop (p + n)).map u8c)) := Lib.hid (fun a c r p hs n hn => by
    obtain ⟨a', c', q1, q2, _⟩ := hs.from_ Tryz.underlying23 infoU1 hn
    rw [Nat.mul_one, ← List.map_drop, List.drop_drop] at q2
    exact ⟨a', c', q1, q2⟩)
  have HL : Hid (0 < l.length → ∃ g o, al = some ⟨g, o, none⟩ ∧ l.length ≤ cl ∧ ∀ V, Kp (fun _ => False) w V → ∀ i, i < l.length → V.cell? ⟨g, o + i * 3, none⟩ = some (.int .i64 ((sqAt l i).lit : Nat)) ∧ V.cell? ⟨g, o + i * 3 + 1, none⟩ = some (.int .i64 ((sqAt l i).off : Nat)) ∧ V.cell? ⟨g, o + i * 3 + 2, none⟩ = some (.int .i64 ((sqAt l i).len : Nat))) := Lib.hid (fun h0 => by
    obtain ⟨g, o, e, hg, hc, hs⟩ := sq_at hl h0
    exact ⟨g, o, e, hc, fun V hk i hi => ⟨(hk.cell (p := ⟨g, o + i * 3, none⟩) hg (fun q => q)).trans (hs i hi).1, (hk.cell (p := ⟨g, o + i * 3 + 1, none⟩) hg (fun q => q)).trans (hs i hi).2.1, (hk.cell (p := ⟨g, o + i * 3 + 2, none⟩) hg (fun q => q)).trans (hs i hi).2.2⟩⟩)
  have HLE := Lib.hid (lts_le d l ht)
  have HLL := Lib.hid (lts_len d l)
  obtain ⟨nd, hnd⟩ : ∃ nd, nd = d.length := ⟨_, rfl⟩
  obtain ⟨n, hn⟩ : ∃ n, n = l.length := ⟨_, rfl⟩
  rw [← hnd] at HLE HD0 hd5 ⊢
  rw [← hn] at HL HLE hl5 ⊢
  have HND := Lib.hid hnd
  have HN := Lib.hid hn
  clear hd hl hnd hn ht
  go_enter Tryz.func119, Tryz.ntmps119
  go_wp2_with fail
  go_loopw [0, 6, 11] (fun dv v i wr => ∃ (k p r : Nat) (a : Option Addr) (c : Nat), k ≤ n ∧ p = (lts d l k).2 ∧ p + r = nd ∧ i = .int .i64 k ∧ dv = .slice a r c ∧ SlR w 1 (.slice a r c) r ((d.drop p).map u8c) ∧ RowB w.heap.size wr v (lts d l k).1 ∧ Kp (fun _ => False) w wr) (fun _ _ i _ => n - (intOf i).toNat)
  case atStart => exact ⟨0, 0, nd, ad, cd, Nat.zero_le _, rfl, by omega, rfl, rfl, HD0.out, RowM.nil _ _ _, Kp.refl _ _⟩
  case round =>
    obtain ⟨k, p, r, a, c, hk, hp, hpr, rfl, rfl, hsl, hrow, hkw⟩ := hrel
    obtain ⟨av, cv, rfl, hown, hbeyond⟩ := hrow
    obtain ⟨o1, ho1⟩ : ∃ o1, o1 = (lts d l k).1 := ⟨_, rfl⟩
    have hol := HLL.out k
    rw [← ho1, ← hp] at hol
    have HROW : Hid (RowB w.heap.size wr (.slice av (lts d l k).1.length cv) (lts d l k).1) := Lib.hid ⟨av, cv, rfl, hown, hbeyond⟩
    rw [← ho1] at HROW ⊢
    obtain ⟨on, hon⟩ : ∃ on, on = o1.length := ⟨_, rfl⟩
    rw [← hon] at HROW hol ⊢
    have HO := Lib.hid ho1
    have HON := Lib.hid hon
    have HP := Lib.hid hp
    have HKW := Lib.hid hkw
    have HSL := Lib.hid hsl
    clear hown hbeyond hkw ho1 hon hp hsl
    by_cases hlt : k < n
    · obtain ⟨g, o, rfl, hcl, hcc⟩ := HL.out (by omega)
      obtain ⟨d0, d1, d2⟩ := hcc _ HKW.out k hlt
      have hle := HLE.out k hlt
      obtain ⟨x, hx⟩ : ∃ x, x = (sqAt l k).lit := ⟨_, rfl⟩
      obtain ⟨y, hy⟩ : ∃ y, y = (sqAt l k).len := ⟨_, rfl⟩
      rw [← hx] at d0 hle
      rw [← hy] at d2 hle
      rw [← HP.out] at hle
      generalize (sqAt l k).off = z at d1
      have HX := Lib.hid hx
      have HY := Lib.hid hy
      clear hcc hx hy
      have b1 : decide ((x : Int) < 0) = false := by simp
      have b2 : decide ((y : Int) < 0) = false := by simp
      have b3 : decide (r < x) = false := by simp; omega
      have b4 : decide ((r : Int) - (x : Nat) < (y : Nat)) = false := by simp; omega
      have KA : Hid (Kp (fun _ => False) wr (wr.alloc (.cells #[.int .i64 (x : Nat), .int .i64 (z : Nat), .int .i64 (y : Nat)] 186))) := Lib.hid (kp_alloc _ _)
      have KN := Lib.hid (HKW.out.trans KA.out)
      have HR2 := Lib.hid (HROW.out.kp0 KA.out)
      have G0 : Hid (¬ (Value.slice av on cv).ownBlock = some wr.heap.size) := Lib.hid (fun q => by have := HROW.out.lt q; omega)
      obtain ⟨hr8, hs8⟩ := HD.out _ _ _ _ _ KN.out HSL.out x (by omega)
      obtain ⟨a9, c9, hr9, hs9⟩ := HE.out _ _ _ _ HSL.out (x + y) (by omega)
      have hr9' : ∀ w', (Instr.slice 23 (.slice a r c) (some (.int .i64 ((x : Int) + (y : Nat)))) none none).run Tryz.prog w' = .ok (.slice a9 (r - (x + y)) c9) w' := fun w' => by
        have := hr9 w'
        rw [Int.natCast_add] at this
        exact this
      have HS8 := Lib.hid hs8
      have HS9 := Lib.hid hs9
      have HTL : Hid (((d.drop p).take x).length = x) := Lib.hid (by rw [List.length_take, List.length_drop, ← HND.out]; omega)
      have HNX : Hid ((lts d l (k + 1)).1 = o1 ++ (d.drop p).take x ∧ (lts d l (k + 1)).2 = p + (x + y)) := Lib.hid (by
        simp only [lts]
        rw [HO.out, HP.out, HX.out, HY.out]
        exact ⟨rfl, by omega⟩)
      clear hs8 hs9 hr9 HROW
      go_wp2_with (at_builtin; refine wpList_appM (w0 := w) _ rfl _ _ 23 rfl 5 i0 _ 1 Tryz.underlying23 hi0 hz0 hz1 hz2 rfl (by decide) (by decide) u8c_1 (.slice av on cv) o1 rfl HR2.out (.slice a x c) x _ rfl HS8.out HTL.out KN.out (on + x) (by rw [HON.out]) (by omega) ?_; intro a5 c5 w5 g1 g2 g3; have h5 := g3.at_ (alloc_at wr _) G0.out; have e1 : w5.cell? ⟨wr.heap.size, 0, none⟩ = some (.int .i64 (x : Nat)) := (by rw [cell_of h5]; rfl); have e2 : w5.cell? ⟨wr.heap.size, 2, none⟩ = some (.int .i64 (y : Nat)) := (by rw [cell_of h5]; rfl); have G1 := Lib.hid g1; have G2 := Lib.hid g2; clear g1 g2 g3 h5 HS8)
      refine ⟨⟨k + 1, p + (x + y), r - (x + y), a9, c9, by omega, HNX.out.2.symm, by omega, by go_num, rfl, HS9.out, ?_, G2.out⟩, by simp [intOf]; try omega⟩
      rw [HNX.out.1]
      exact G1.out
    · obtain rfl : k = n := by omega
      have HS8 := Lib.hid (HSL.out.kp HKW.out (fun _ _ q => q))
      have HTL : Hid ((d.drop p).length = r) := Lib.hid (by rw [List.length_drop, ← HND.out]; omega)
      have HLT : Hid (literals d l = o1 ++ d.drop p) := Lib.hid (by
        unfold literals
        rw [← HN.out, ← HO.out, ← HP.out])
      go_wp2_with (at_builtin; refine wpList_appM (w0 := w) _ rfl _ _ 23 rfl 5 i0 _ 1 Tryz.underlying23 hi0 hz0 hz1 hz2 rfl (by decide) (by decide) u8c_1 (.slice av on cv) o1 rfl HROW.out (.slice a r c) r _ rfl HS8.out HTL.out HKW.out (on + r) (by rw [HON.out]) (by omega) ?_; intro a5 c5 w5 g1 g2 _; have G1 := Lib.hid g1; have G2 := Lib.hid g2; clear g1 g2 HS8)
      go_ret2
      exact ⟨_, rfl, by rw [HLT.out]; exact G1.out, G2.out⟩
end Go.Proofs.YtmioiaeiflbmhaaGreat.Ma
namespace Go.Proofs.YtmioiaeiflbmhaaGreat.Ma
open Go Go.RowKit Go.ChangeMaps Go.MapKept Go.Mg Go.Mt Go.Proofs.YtmioiaeiflbmhaaGreat.Hu Go.Proofs.YtmioiaeiflbmhaaGreat.Bw Go.Proofs.YtmioiaeiflbmhaaGreat.He Go.Proofs.YtmioiaeiflbmhaaGreat.Sq
def hv3 (h : H3) : Value := .agg #[.int .i64 (h.a : Nat), .int .i64 (h.b : Nat), .int .i64 (h.c : Nat)]
def FrontPost (w : World) (h : H3) (e : Ending) (w' : World) : Prop := e = .returned (hv3 h) ∧ Kp (fun _ => False) w w'
def TwoPost (w : World) (n : Nat) (e : Ending) (w' : World) : Prop := ∃ g, e = .returned (.slice (some ⟨g, 0, none⟩) 2 2) ∧ w.heap.size ≤ g ∧ RowB w.heap.size w' (.slice (some ⟨g, 0, none⟩) 2 2) (two n) ∧ Kp (fun _ => False) w w'
theorem two_cells (n : Nat) : (two n).map u8c = [.int .u8 ((n : Int) % 256), .int .u8 ((n : Int) / 256 % 256)] := by
  have e1 : ((UInt8.ofNat n).toNat : Int) = (n : Int) % 256 := by rw [UInt8.toNat_ofNat']; omega
  have e2 : ((UInt8.ofNat (n / 256)).toNat : Int) = (n : Int) / 256 % 256 := by rw [UInt8.toNat_ofNat']; omega
  simp only [two, List.map_cons, List.map_nil, u8c, e1, e2]
theorem two_row (w : World) (n : Nat) : RowB w.heap.size (w.alloc (.cells #[.int .u8 ((n : Int) % 256), .int .u8 ((n : Int) / 256 % 256)] 5)) (.slice (some ⟨w.heap.size, 0, none⟩) 2 2) (two n) := by
  refine ⟨_, _, rfl, ?_, fun k hk => Nat.le_of_eq (own_b hk).symm⟩
  rw [two_cells]
  exact own_m w 5 [.int .u8 ((n : Int) % 256), .int .u8 ((n : Int) / 256 % 256)] rfl (by omega)
end Go.Proofs.YtmioiaeiflbmhaaGreat.Ma
