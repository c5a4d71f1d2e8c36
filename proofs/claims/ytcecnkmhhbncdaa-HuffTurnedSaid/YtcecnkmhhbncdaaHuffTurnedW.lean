/- The walk of HuffTurned. -/
import Derived.Test.YtcecnkmhhbncdaaRdQ
import Derived.Test.YtcecnkmhhbncdaaStr
import Derived.Test.YtcecnkmhhbncdaaHeB
import Derived.Test.YtcecnkmhhbncdaaHfV
import Derived.Test.YtcecnkmhhbncdaaOpen
namespace Go.Proofs.Ytcecnkmhhbncdaa.huffTurned
open Go Go.RowKit Go.ChangeMaps Go.MapKept Go.Mg Go.Hf Go.Proofs.Ytcecnkmhhbncdaa.Hu Go.Proofs.Ytcecnkmhhbncdaa.He Go.Proofs.Ytcecnkmhhbncdaa.Bw Go.Proofs.Ytcecnkmhhbncdaa.Rd Go.Proofs.Ytcecnkmhhbncdaa.Op

set_option maxRecDepth 100000 in
set_option maxHeartbeats 2000000 in
theorem walk (a1 : Int) (_ : (Lit.int .i64 a1).wf = true) (a2 : Int) (w2 : (Lit.int .u8 a2).wf = true) (w : World) (a0 : Option Addr) (c0 : Nat) (l : List UInt8) (w0 : SlR w 1 (.slice a0 l.length c0) l.length (l.map u8c)) :
    Calls Try.prog 11 #[.slice a0 l.length c0, .int .i64 a1, .int .u8 a2] w (LawPost w) := by
  have R0 := Lib.hid w0
  clear w0
  by_cases h0 : l.length < 1
  · clear R0
    go_enter Try.func11, Try.ntmps11
    go_wp2_with fail
    go_ret
    exact ⟨rfl, Below.refl _ _⟩
  · by_cases h300 : l.length ≤ 300
    · obtain ⟨x, hx, rfl⟩ : ∃ x : Nat, x < 256 ∧ a2 = (x : Int) := by
        have h : IntKind.u8.min ≤ a2 ∧ a2 ≤ IntKind.u8.max := by simpa [Lit.wf] using w2
        have e1 : IntKind.u8.min = 0 := rfl
        have e2 : IntKind.u8.max = 255 := rfl
        exact ⟨a2.toNat, by omega, by omega⟩
      clear w2
      obtain ⟨gb, obb, rfl, hgb, hcap, hcb⟩ := bytes_at R0.out (by omega)
      have HB := Lib.hid (fun V (hk : Kp (fun _ => False) w V) i (hi : i < l.length) => (hk.cell (p := ⟨gb, obb + i, none⟩) hgb (fun q => q)).trans (hcb i hi))
      have HSL := Lib.hid (sym_lt l)
      have HLE := Lib.hid (cnt_le l)
      have HSET := Lib.hid (cnt_set l)
      obtain ⟨cur, hcur, hmk⟩ := make_ints w 256 (by omega)
      have hmk2 : (Instr.makeSlice 22 (.int .i64 256) (.int .i64 256)).run Try.prog w = .ok (.slice (some ⟨w.heap.size, 0, none⟩) 256 256) (w.alloc (.cells cur 3)) := hmk
      have C0 : Hid (CAt (w.alloc (.cells cur 3)) w.heap.size 256 (fun j => ((cnt l 0 j : Nat) : Int))) := Lib.hid (made hcur)
      have K0 : Hid (Kp (fun _ => False) w (w.alloc (.cells cur 3))) := Lib.hid ((Kp.refl _ _).alloc _)
      obtain ⟨n, hn⟩ : ∃ n, n = l.length := ⟨_, rfl⟩
      have HN := Lib.hid hn
      rw [← hn] at HB h0 h300 hcap ⊢
      obtain ⟨CN, hCN⟩ : ∃ CN, CN = cnt l := ⟨_, rfl⟩
      have HCN := Lib.hid hCN
      obtain ⟨SY, hSY⟩ : ∃ SY, SY = sym l := ⟨_, rfl⟩
      rw [← hCN] at HLE HSET C0
      rw [← hSY] at HB HSL HSET
      clear hmk hcur hcb hn hCN hSY
      go_enter Try.func11, Try.ntmps11
      go_wp2_with fail
      generalize hW : w.alloc (.cells cur 3) = W at C0 K0 ⊢
      have hwW : w.heap.size < W.heap.size := by rw [← hW]; simp
      clear hmk2 hW
      go_loopw [8] (fun i wr => ∃ k : Nat, k ≤ n ∧ i = .int .i64 k ∧ CAt wr w.heap.size 256 (fun j => ((CN k j : Nat) : Int)) ∧ Kp (fun _ => False) w wr) (fun i _ => n - (intOf i).toNat)
      case atStart => exact ⟨0, Nat.zero_le _, rfl, C0.out, K0.out⟩
      case round =>
        clear C0 K0
        obtain ⟨k, hk, rfl, hca, hkp⟩ := hrel
        by_cases hlt : k < n
        · have d0 := HB.out _ hkp k hlt
          have hs := HSL.out k
          have hle := HLE.out k (SY k)
          have f1 := hca.cell hs
          have f2 : wr.frozen? ⟨w.heap.size, SY k, none⟩ = false := free_of hca (SY k)
          have hset := hca.set hs (((CN k (SY k) : Nat) : Int) + 1)
          rw [HSET.out k] at hset
          have hks : Kp (fun _ => False) w (wr.setCell ⟨w.heap.size, SY k, none⟩ (.int .i64 (((CN k (SY k) : Nat) : Int) + 1))) := hkp.setCell (p := ⟨w.heap.size, SY k, none⟩) (fun q => by simp only at q; omega) _
          have HS := Lib.hid hset
          have HKS := Lib.hid hks
          obtain ⟨y, hy⟩ : ∃ y, y = CN k (SY k) := ⟨_, rfl⟩
          obtain ⟨s, hsy⟩ : ∃ s, s = SY k := ⟨_, rfl⟩
          rw [← hy] at f1 HS HKS hle
          rw [← hsy] at d0 f1 f2 HS HKS hs
          clear hset hks hca hkp hy hsy
          go_wp2_with fail
          exact ⟨⟨k + 1, by omega, by go_num, HS.out, HKS.out⟩, by simp [intOf]; omega⟩
        · obtain rfl : k = n := by omega
          have hsl := hca.sl (by omega)
          rw [HCN.out, HN.out, cts_row] at hsl
          have HKP := Lib.hid hkp
          have LP : Hid (Calls Try.prog 18 #[.slice (some ⟨w.heap.size, 0, none⟩) 256 256] wr (LensPost wr (cts l))) := Lib.hid (by
            have := lens_d wr (cts l) (some ⟨w.heap.size, 0, none⟩) 256 (by rw [cts_len]; exact hsl) (by rw [cts_len]; omega) (by have := cts_sum l; have := HN.out; omega)
            rw [cts_len] at this
            exact this)
          clear hca hkp hsl HSL HLE HSET HB
          go_wp2_with fail
          refine LP.out.mono ?_
          rintro e w1 ⟨L, a3, c3, rfl, hL, hLo, hk1⟩
          rw [cts_len] at hLo ⊢
          have hok := enc_ok (by have := HN.out; omega) hL
          have hnm := lens_nm hLo
          have HK1 := Lib.hid (HKP.out.trans hk1)
          have EN : Hid (Calls Try.prog 26 #[.slice a3 256 c3, .slice (some ⟨gb, obb, none⟩) k c0] w1 (EncPost w1 (lensOf 256 L) l)) := Lib.hid (by
            have := encode_d w1 (lensOf 256 L) a3 c3 hnm (by rw [lens_len]; omega) l (some ⟨gb, obb, none⟩) c0 (R0.out.kp HK1.out (fun _ _ q => q)) (by have := HN.out; omega)
            rw [lens_len, ← HN.out] at this
            exact this)
          have HNM := Lib.hid hnm
          have HOK := Lib.hid hok
          clear hL hLo hk1 hnm hok LP
          go_wp2_with fail
          refine EN.out.mono ?_
          rintro e w2 (⟨_, g5, rfl, q1, q2, q3⟩ | ⟨hno, _, _⟩)
          · have hbl := bt_len HOK.out.1.2.1 l l.length
            have hfl := fin_lt (fun i => (bt (lensOf 256 L) l l.length)[i]?.getD false) (bt (lensOf 256 L) l l.length).length
            obtain ⟨out, hout⟩ : ∃ out, out = fin (fun i => (bt (lensOf 256 L) l l.length)[i]?.getD false) (bt (lensOf 256 L) l l.length).length := ⟨_, rfl⟩
            obtain ⟨m, hm⟩ : ∃ m, m = (bt (lensOf 256 L) l l.length).length / 8 + 1 := ⟨_, rfl⟩
            rw [← hout, ← hm] at q2
            rw [← hout] at hfl
            rw [← hm]
            have hm5 : 1 ≤ m ∧ m ≤ 1000 := by have := HN.out; omega
            obtain ⟨r, hr⟩ : ∃ r : Nat, bits .and .i64 a1 65535 = (r : Int) := ⟨(a1 % 65536).toNat, by rw [and_65535]; omega⟩
            obtain ⟨ix, hix⟩ : ∃ ix, ix = r % m := ⟨_, rfl⟩
            have hixm : ix < m := by rw [hix]; exact Nat.mod_lt _ (by omega)
            have htm : ((r : Nat) : Int).tmod (m : Nat) = (ix : Nat) := by rw [hix, Int.tmod_eq_emod_of_nonneg (by omega)]; rfl
            have hmz : ((m : Nat) : Int) ≠ 0 := by omega
            have d1 := q2.cell hixm
            have f1 : w2.frozen? ⟨g5, ix, none⟩ = false := free_of q2 ix
            have hset := q2.set hixm x
            have hks : Kp (fun _ => False) w1 (w2.setCell ⟨g5, ix, none⟩ (.int .u8 (x : Nat))) := q3.setCell (p := ⟨g5, ix, none⟩) (fun q => by simp only at q; omega) _
            obtain ⟨w5, hw5⟩ : ∃ w5, w5 = w2.setCell ⟨g5, ix, none⟩ (.int .u8 (x : Nat)) := ⟨_, rfl⟩
            have HW5 := Lib.hid hw5
            rw [← hw5] at hset hks
            obtain ⟨y, hy⟩ : ∃ y, y = out ix := ⟨_, rfl⟩
            rw [← hy] at d1
            have hlt : ∀ i, (fun j => if j = ix then x else out j) i < 256 := fun i => by
              simp only
              split
              · exact hx
              · exact hfl i
            have hsl := blist_sl hset (by omega) hlt
            have HLL : Hid ((blist m fun j => if j = ix then x else out j).length = m) := Lib.hid (by simp [blist])
            have HSL5 := Lib.hid hsl
            obtain ⟨l2, hl2⟩ : ∃ l2, l2 = blist m fun j => if j = ix then x else out j := ⟨_, rfl⟩
            rw [← hl2] at HSL5 HLL
            have HK5 := Lib.hid hks
            have HN5 := Lib.hid (HNM.out.kp hks)
            have D1 : Hid (Calls Try.prog 27 #[.slice a3 256 c3, .slice (some ⟨g5, 0, none⟩) m m, .int .i64 (k : Nat)] w5 (DecPost w5 (lensOf 256 L) l2 (k : Nat))) := Lib.hid (by
              have := decode_p w5 (lensOf 256 L) a3 c3 HN5.out (by rw [lens_len]; omega) l2 (some ⟨g5, 0, none⟩) m HSL5.out (by have := HLL.out; omega) (k : Nat) (by omega)
              rw [lens_len, HLL.out] at this
              exact this)
            have D2 : Hid (∀ V, Kp (fun _ => False) w5 V → Calls Try.prog 28 #[.slice a3 256 c3, .slice (some ⟨g5, 0, none⟩) m m, .int .i64 (k : Nat)] V (DecPost V (lensOf 256 L) l2 (k : Nat))) := Lib.hid (fun V hV => by
              have := decode_d V (lensOf 256 L) a3 c3 (HN5.out.kp hV) (by rw [lens_len]; omega) l2 (some ⟨g5, 0, none⟩) m (HSL5.out.kp hV (fun _ _ q => q)) (by have := HLL.out; omega) (k : Nat) (by omega)
              rw [lens_len, HLL.out] at this
              exact this)
            clear q1 q2 q3 hbl hfl hout hm hix hset hks hw5 hy hlt hsl hl2 EN
            go_wp2_with fail
            rw [← HW5.out]
            refine D1.out.mono ?_
            have HKW := Lib.hid (HK1.out.trans HK5.out)
            clear hm5 hr hixm htm hmz d1 f1
            rintro e w6 (⟨o, hy, ⟨v, rfl, ⟨a6, c6, rfl, h1, _⟩⟩, k6⟩ | ⟨hno, rfl, k6⟩)
            · have K6 := Lib.hid k6
              have H1 := Lib.hid h1
              have HY := Lib.hid hy
              clear k6 h1 hy
              go_wp2_with fail
              refine (D2.out _ K6.out).mono ?_
              rintro e w7 (⟨o2, hy2, ⟨v, rfl, ⟨a7, c7, rfl, h2, _⟩⟩, k7⟩ | ⟨hno, _, _⟩)
              · obtain rfl := hy2.one HY.out
                have v1 := strOf (H1.out.kp k7 (fun _ _ q => q)).sl
                have v2 := strOf h2.sl
                have K7 := Lib.hid (HKW.out.trans (K6.out.trans k7))
                clear k7 h2 hy2 D1 D2
                go_wp2_with fail
                refine (known_c _).mono ?_
                rintro e w8 ⟨rfl, k8⟩
                have K8 := Lib.hid (K7.out.trans k8)
                clear k8
                go_wp2_with fail
                go_ret
                exact ⟨rfl, K8.out.below⟩
              · exact absurd HY.out (hno _)
            · have K6 := Lib.hid k6
              have HNO := Lib.hid hno
              clear k6 hno
              go_wp2_with fail
              refine (D2.out _ K6.out).mono ?_
              rintro e w7 (⟨o2, hy2, _⟩ | ⟨_, rfl, k7⟩)
              · exact absurd hy2 (HNO.out _)
              · have v1 := strOf (w := w7) (a := none) (n := 0) (cap := 0) (l := []) ⟨rfl, none, 0, rfl, Nat.le_refl _, Nat.zero_le _, (fun _ => rfl), (fun h => absurd h (by simp))⟩
                have K7 := Lib.hid (HKW.out.trans (K6.out.trans k7))
                clear k7 D1 D2
                go_wp2_with fail
                refine (known_c _).mono ?_
                rintro e w8 ⟨rfl, k8⟩
                have K8 := Lib.hid (K7.out.trans k8)
                clear k8
                go_wp2_with fail
                go_ret
                exact ⟨rfl, K8.out.below⟩
          · exact absurd HOK.out hno
    · have hg : 300 < l.length := by omega
      clear R0
      go_enter Try.func11, Try.ntmps11
      go_wp2_with fail
      go_ret
      exact ⟨rfl, Below.refl _ _⟩
end Go.Proofs.Ytcecnkmhhbncdaa.huffTurned
