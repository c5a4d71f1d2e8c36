/- The walk of HuffBack. -/
import Derived.Test.YtcecnkmhhbncdaaRdQ
import Derived.Test.YtcecnkmhhbncdaaStr
import Derived.Test.YtcecnkmhhbncdaaHeM
import Derived.Test.YtcecnkmhhbncdaaRdP
import Derived.Test.YtcecnkmhhbncdaaHfV
import Derived.Test.YtcecnkmhhbncdaaOpen
namespace Go.Proofs.Ytcecnkmhhbncdaa.huffBack
open Go Go.RowKit Go.ChangeMaps Go.MapKept Go.Mg Go.Hf Go.Proofs.Ytcecnkmhhbncdaa.Hu Go.Proofs.Ytcecnkmhhbncdaa.He Go.Proofs.Ytcecnkmhhbncdaa.Bw Go.Proofs.Ytcecnkmhhbncdaa.Rd Go.Proofs.Ytcecnkmhhbncdaa.Op

set_option maxRecDepth 100000 in
set_option maxHeartbeats 2000000 in
theorem walk (w : World) (a0 : Option Addr) (c0 : Nat) (l : List UInt8) (w0 : SlR w 1 (.slice a0 l.length c0) l.length (l.map u8c)) :
    Calls Try.prog 12 #[.slice a0 l.length c0] w (LawPost w) := by
  have R0 := Lib.hid w0
  clear w0
  by_cases h0 : l.length < 1
  · clear R0
    go_enter Try.func12, Try.ntmps12
    go_wp2_with fail
    go_ret
    exact ⟨rfl, Below.refl _ _⟩
  · by_cases h300 : l.length ≤ 1000
    · obtain ⟨gb, obb, rfl, hgb, hcap, hcb⟩ := bytes_at R0.out (by omega)
      have HB := Lib.hid (fun V (hk : Kp (fun _ => False) w V) i (hi : i < l.length) => (hk.cell (p := ⟨gb, obb + i, none⟩) hgb (fun q => q)).trans (hcb i hi))
      have HSL := Lib.hid (sym_lt l)
      have HLE := Lib.hid (cnt_le l)
      have HSET := Lib.hid (cnt_set l)
      obtain ⟨cur, hcur, hmk⟩ := make_ints w 256 (by omega)
      have hmk2 : (Instr.makeSlice 22 (.int .i64 256) (.int .i64 256)).run Try.prog w = .ok (.slice (some ⟨w.heap.size, 0, none⟩) 256 256) (w.alloc (.cells cur 3)) := hmk
      have C0 : Hid (CAt (w.alloc (.cells cur 3)) w.heap.size 256 (fun j => ((cnt l 0 j : Nat) : Int))) := Lib.hid (made hcur)
      have K0 : Hid (Kp (fun _ => False) w (w.alloc (.cells cur 3))) := Lib.hid ((Kp.refl _ _).alloc _)
      obtain ⟨n, hn⟩ : ∃ n, n = l.length := ⟨_, rfl⟩
      have HN := Lib.hid hn
      rw [← hn] at HB h0 h300 hcap ⊢
      obtain ⟨CN, hCN⟩ : ∃ CN, CN = cnt l := ⟨_, rfl⟩
      have HCN := Lib.hid hCN
      obtain ⟨SY, hSY⟩ : ∃ SY, SY = sym l := ⟨_, rfl⟩
      rw [← hCN] at HLE HSET C0
      rw [← hSY] at HB HSL HSET
      clear hmk hcur hcb hn hCN hSY
      go_enter Try.func12, Try.ntmps12
      go_wp2_with fail
      generalize hW : w.alloc (.cells cur 3) = W at C0 K0 ⊢
      have hwW : w.heap.size < W.heap.size := by rw [← hW]; simp
      clear hmk2 hW
      go_loopw [4] (fun i wr => ∃ k : Nat, k ≤ n ∧ i = .int .i64 k ∧ CAt wr w.heap.size 256 (fun j => ((CN k j : Nat) : Int)) ∧ Kp (fun _ => False) w wr) (fun i _ => n - (intOf i).toNat)
      case atStart => exact ⟨0, Nat.zero_le _, rfl, C0.out, K0.out⟩
      case round =>
        clear C0 K0
        obtain ⟨k, hk, rfl, hca, hkp⟩ := hrel
        by_cases hlt : k < n
        · have d0 := HB.out _ hkp k hlt
          have hs := HSL.out k
          have hle := HLE.out k (SY k)
          have f1 := hca.cell hs
          have f2 : wr.frozen? ⟨w.heap.size, SY k, none⟩ = false := free_of hca (SY k)
          have hset := hca.set hs (((CN k (SY k) : Nat) : Int) + 1)
          rw [HSET.out k] at hset
          have hks : Kp (fun _ => False) w (wr.setCell ⟨w.heap.size, SY k, none⟩ (.int .i64 (((CN k (SY k) : Nat) : Int) + 1))) := hkp.setCell (p := ⟨w.heap.size, SY k, none⟩) (fun q => by simp only at q; omega) _
          have HS := Lib.hid hset
          have HKS := Lib.hid hks
          obtain ⟨y, hy⟩ : ∃ y, y = CN k (SY k) := ⟨_, rfl⟩
          obtain ⟨s, hsy⟩ : ∃ s, s = SY k := ⟨_, rfl⟩
          rw [← hy] at f1 HS HKS hle
          rw [← hsy] at d0 f1 f2 HS HKS hs
          clear hset hks hca hkp hy hsy
          go_wp2_with fail
          exact ⟨⟨k + 1, by omega, by go_num, HS.out, HKS.out⟩, by simp [intOf]; omega⟩
        · obtain rfl : k = n := by omega
          have hsl := hca.sl (by omega)
          rw [HCN.out, HN.out, cts_row] at hsl
          have HKP := Lib.hid hkp
          have LP : Hid (Calls Try.prog 17 #[.slice (some ⟨w.heap.size, 0, none⟩) 256 256] wr (LensPost wr (cts l))) := Lib.hid (by
            have := lens_p wr (cts l) (some ⟨w.heap.size, 0, none⟩) 256 (by rw [cts_len]; exact hsl) (by rw [cts_len]; omega) (by have := cts_sum l; have := HN.out; omega)
            rw [cts_len] at this
            exact this)
          clear hca hkp hsl HSL HLE HSET HB
          go_wp2_with fail
          refine LP.out.mono ?_
          rintro e w1 ⟨L, a3, c3, rfl, hL, hLo, hk1⟩
          rw [cts_len] at hLo ⊢
          have hok := enc_ok (by have := HN.out; omega) hL
          have hnm := lens_nm hLo
          have HK1 := Lib.hid (HKP.out.trans hk1)
          have EN : Hid (Calls Try.prog 25 #[.slice a3 256 c3, .slice (some ⟨gb, obb, none⟩) k c0] w1 (EncPost w1 (lensOf 256 L) l)) := Lib.hid (by
            have := encode_p w1 (lensOf 256 L) a3 c3 hnm (by rw [lens_len]; omega) l (some ⟨gb, obb, none⟩) c0 (R0.out.kp HK1.out (fun _ _ q => q)) (by have := HN.out; omega)
            rw [lens_len, ← HN.out] at this
            exact this)
          have HNM := Lib.hid hnm
          have HOK := Lib.hid hok
          clear hL hLo hk1 hnm hok LP
          go_wp2_with fail
          refine EN.out.mono ?_
          rintro e w2 (⟨_, g5, rfl, q1, q2, q3⟩ | ⟨hno, _, _⟩)
          · have hbl := bt_len HOK.out.1.2.1 l l.length
            have hsl := pack_sl q2 (by have := HN.out; omega)
            have HDY := Lib.hid (dec_enc HOK.out)
            have HDL := Lib.hid (dec_less HOK.out (by have := HN.out; omega))
            have HDM := Lib.hid (dec_more HOK.out)
            rw [← HN.out] at HDY HDL HDM
            have hpl := pack_len (bt (lensOf 256 L) l l.length)
            obtain ⟨m, hm⟩ : ∃ m, m = (bt (lensOf 256 L) l l.length).length / 8 + 1 := ⟨_, rfl⟩
            rw [← hm] at hsl hpl ⊢
            have hm5 : 1 ≤ m ∧ m ≤ 2000 := by have := HN.out; omega
            rw [← HN.out] at hsl hpl
            obtain ⟨PK, hPK⟩ : ∃ PK, PK = pack (bt (lensOf 256 L) l k) := ⟨_, rfl⟩
            rw [← hPK] at hsl hpl HDY HDL HDM
            have HPL := Lib.hid hpl
            have HSL5 := Lib.hid hsl
            have HN5 := Lib.hid (HNM.out.kp q3)
            have D : Hid (∀ (n' : Int), n' ≤ 2000 → ∀ V, Kp (fun _ => False) w2 V → Calls Try.prog 27 #[.slice a3 256 c3, .slice (some ⟨g5, 0, none⟩) m m, .int .i64 n'] V (DecPost V (lensOf 256 L) PK n')) := Lib.hid (fun n' hn' V hV => by
              have := decode_p V (lensOf 256 L) a3 c3 (HN5.out.kp hV) (by rw [lens_len]; omega) PK (some ⟨g5, 0, none⟩) m (by rw [HPL.out]; have := HSL5.out.kp hV (fun _ _ q => q); rwa [HPL.out] at this) (by have := HPL.out; omega) n' hn'
              rw [lens_len, HPL.out] at this
              exact this)
            have HKW := Lib.hid (HK1.out.trans q3)
            clear q1 q2 q3 hbl hm hPK hsl hpl EN hm5
            go_wp2_with fail
            refine (D.out _ (by omega) _ (Kp.refl _ _)).mono ?_
            rintro e w6 (⟨o, hy, ⟨v, rfl, ⟨a6, c6, rfl, h1, _⟩⟩, k6⟩ | ⟨hno, _, _⟩)
            · obtain rfl := hy.one HDY.out
              have K6 := Lib.hid k6
              have H1 := Lib.hid h1
              clear k6 h1 hy
              go_wp2_with fail
              refine (D.out _ (by omega) _ K6.out).mono ?_
              rintro e w7 (⟨o, hy, _⟩ | ⟨_, rfl, k7⟩)
              · exact absurd hy (HDL.out o)
              · have K7 := Lib.hid (K6.out.trans k7)
                have K67 := Lib.hid k7
                clear k7
                go_wp2_with fail
                refine (D.out _ (by omega) _ K7.out).mono ?_
                rintro e w8 (⟨o, hy, _⟩ | ⟨_, rfl, k8⟩)
                · exact absurd hy (HDM.out o)
                · have h8 := (H1.out.kp (K67.out.trans k8) (fun _ _ q => q)).sl
                  have v1 := strOf h8
                  have r8 := R0.out.kp (HKW.out.trans (K7.out.trans k8)) (fun _ _ q => q)
                  have v2 := strOf r8
                  rw [← HN.out] at v2
                  have HSM := Lib.hid (sym_map l)
                  rw [← HN.out] at HSM
                  rw [HSM.out] at v1 ⊢
                  have K8 := Lib.hid (HKW.out.trans (K7.out.trans k8))
                  clear k8 h8 r8 D
                  go_wp2_with fail
                  refine (known_c _).mono ?_
                  rintro e w9 ⟨rfl, k9⟩
                  have K9 := Lib.hid (K8.out.trans k9)
                  clear k9
                  go_wp2_with fail
                  go_ret
                  exact ⟨rfl, K9.out.below⟩
            · exact absurd HDY.out (hno _)
          · exact absurd HOK.out hno
    · have hg : 1000 < l.length := by omega
      clear R0
      go_enter Try.func12, Try.ntmps12
      go_wp2_with fail
      go_ret
      exact ⟨rfl, Below.refl _ _⟩
end Go.Proofs.Ytcecnkmhhbncdaa.huffBack
