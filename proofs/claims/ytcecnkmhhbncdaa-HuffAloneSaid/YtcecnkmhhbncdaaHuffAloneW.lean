/- The walk of HuffAlone. -/
import Derived.Test.YtcecnkmhhbncdaaRdQ
import Derived.Test.YtcecnkmhhbncdaaRdP
import Derived.Test.YtcecnkmhhbncdaaHeM
import Derived.Test.YtcecnkmhhbncdaaHfV
import Derived.Test.YtcecnkmhhbncdaaOpen
namespace Go.Proofs.Ytcecnkmhhbncdaa.huffAlone
open Go Go.RowKit Go.ChangeMaps Go.MapKept Go.Mg Go.Hf Go.Proofs.Ytcecnkmhhbncdaa.Hu Go.Proofs.Ytcecnkmhhbncdaa.He Go.Proofs.Ytcecnkmhhbncdaa.Bw Go.Proofs.Ytcecnkmhhbncdaa.Rd Go.Proofs.Ytcecnkmhhbncdaa.Op

theorem ff_zeros : ∀ n k, forestFrom k (List.replicate n 0) = []
  | 0, _ => rfl
  | n + 1, k => by rw [List.replicate_succ, forestFrom, if_neg (by omega), ff_zeros n]
theorem ff_alone {c : Nat} (hc : 0 < c) (n : Nat) : ∀ a k, forestFrom k (List.replicate a 0 ++ c :: List.replicate n 0) = [leaf (k + a) c]
  | 0, k => by rw [List.replicate_zero, List.nil_append, forestFrom, if_pos hc, ff_zeros]; rfl
  | a + 1, k => by rw [List.replicate_succ, List.cons_append, forestFrom, if_neg (by omega), ff_alone hc n a, show k + 1 + a = k + (a + 1) by omega]
def alone (a c : Nat) : List Nat := List.replicate a 0 ++ c :: List.replicate (255 - a) 0
theorem alone_len {a c : Nat} (h : a < 256) : (alone a c).length = 256 := by simp [alone]; omega
theorem alone_lens {a c : Nat} (hc : 0 < c) {L : Nat → Nat} (h : IsLens (alone a c) L) : L = fun i => if i = a then 1 else 0 := by
  refine h.det (.done (.inl ⟨leaf a c, ?_, rfl⟩) (fun i _ => by split <;> omega))
  have := ff_alone hc (255 - a) a 0
  rw [Nat.zero_add] at this
  exact this
theorem alone_row {a c : Nat} (h : a < 256) : ((List.range 256).map fun i => Value.int .i64 (if i = a then (c : Int) else 0)) = (alone a c).map Hu.nv := by
  apply List.ext_getElem
  · rw [List.length_map, List.length_map, alone_len h]; simp
  · intro i h1 h2
    have hi : i < 256 := by simpa using h1
    simp only [List.getElem_map, List.getElem_range, alone, List.getElem_append, List.getElem_cons, List.getElem_replicate, List.length_replicate]
    by_cases e : i = a
    · subst e; simp [Hu.nv]
    · by_cases q : i < a
      · simp [e, q, Hu.nv]
      · simp [e, q, show ¬ i - a = 0 by omega, Hu.nv]
theorem alone_sum (a c : Nat) : (alone a c).sum = c := by simp [alone]
theorem sym_repl {a k j : Nat} (ha : a < 256) (hj : j < k) : sym (List.replicate k (UInt8.ofNat a)) j = a := by
  simp only [sym, List.getElem?_replicate, if_pos hj, Option.getD_some, UInt8.toNat_ofNat']
  omega
theorem alone_ok {a c k : Nat} (ha : a < 256) (hc : 0 < c) {L : Nat → Nat} (h : IsLens (alone a c) L) : EncOk (lensOf 256 L) (List.replicate k (UInt8.ofNat a)) := by
  refine ⟨?_, fun j hj => ?_⟩
  · have := (h.isOk (by rw [alone_len ha]; omega)).2 ⟨c, by simp [alone], hc⟩
    rwa [alone_len ha] at this
  · rw [List.length_replicate] at hj
    rw [sym_repl ha hj]
    refine ⟨by rw [lens_len]; exact ha, ?_⟩
    rw [lf_lens 256 L ha, alone_lens hc h]
    simp
theorem alone_bits {a c k : Nat} (ha : a < 256) (hc : 0 < c) {L : Nat → Nat} (h : IsLens (alone a c) L) : ∀ j, j ≤ k → (bt (lensOf 256 L) (List.replicate k (UInt8.ofNat a)) j).length = j
  | 0, _ => rfl
  | j + 1, hj => by
    rw [bt, List.length_append, alone_bits ha hc h j (by omega), List.length_replicate, sym_repl ha (by omega), cb, bitsOf_len, lf_lens 256 L ha, alone_lens hc h]
    simp
theorem isSt_zeros : ∀ n, isSt (List.replicate n 0) = (0, 0, 0)
  | 0 => rfl
  | n + 1 => by
    have := isSt_zeros n
    unfold isSt at this ⊢
    rw [List.replicate_succ', List.foldl_append, this]
    rfl
theorem not_ok (n : Nat) : ¬ IsOk (List.replicate n 0) := by
  rintro ⟨_, _, h | h⟩
  · rw [isSt_zeros] at h; simp at h
  · rw [isSt_zeros] at h; simp at h
set_option maxRecDepth 100000 in
set_option maxHeartbeats 2000000 in
theorem walk_n (A M C : Nat) (hA : A < 256) (hM : M ≤ 200) (hC1 : 1 ≤ C) (hC2 : C ≤ 1073741824) (w : World) : Calls Try.prog 13 #[.int .i64 (A : Nat), .int .i64 (M : Nat), .int .i64 (C : Nat)] w (LawPost w) := by
  obtain ⟨i0, hi0, hz0, hz1, hz2⟩ := info_parts Rd.infoU
  obtain ⟨cur, hcur, hmk⟩ := make_ints w 256 (by omega)
  have hmk2 : (Instr.makeSlice 22 (.int .i64 256) (.int .i64 256)).run Try.prog w = .ok (.slice (some ⟨w.heap.size, 0, none⟩) 256 256) (w.alloc (.cells cur 3)) := hmk
  have C0 := made (w := w) hcur
  have d0 := C0.cell hA
  have f0 : (w.alloc (.cells cur 3)).frozen? ⟨w.heap.size, A, none⟩ = false := free_of C0 A
  have hset := C0.set hA (C : Int)
  have hks : Kp (fun _ => False) w ((w.alloc (.cells cur 3)).setCell ⟨w.heap.size, A, none⟩ (.int .i64 (C : Int))) := ((Kp.refl (fun _ => False) w).alloc _).setCell (p := ⟨w.heap.size, A, none⟩) (fun q => by simp only at q; omega) _
  obtain ⟨W, hW⟩ : ∃ W, W = (w.alloc (.cells cur 3)).setCell ⟨w.heap.size, A, none⟩ (.int .i64 (C : Int)) := ⟨_, rfl⟩
  have HWE := Lib.hid hW
  rw [← hW] at hset hks
  have hsl := hset.sl (by omega)
  rw [alone_row hA] at hsl
  have LP : Hid (Calls Try.prog 17 #[.slice (some ⟨w.heap.size, 0, none⟩) 256 256] W (LensPost W (alone A C))) := Lib.hid (by
    have := lens_p W (alone A C) (some ⟨w.heap.size, 0, none⟩) 256 (by rw [alone_len hA]; exact hsl) (by rw [alone_len hA]; omega) (by rw [alone_sum]; omega)
    rw [alone_len hA] at this
    exact this)
  have HKS := Lib.hid hks
  clear hcur hmk C0 hset hks hW hsl
  go_enter Try.func13, Try.ntmps13
  go_wp2_with fail
  rw [← World.setCell_alloc_at (w := w) cur _ _ _ _ rfl, ← HWE.out]
  refine LP.out.mono ?_
  rintro e w1 ⟨L, a3, c3, rfl, hL, hLo, hk1⟩
  rw [alone_len hA] at hLo ⊢
  have HL := Lib.hid hL
  have HNM := Lib.hid (lens_nm hLo)
  have HK1 := Lib.hid (HKS.out.trans hk1)
  clear hL hLo hk1 LP hmk2 d0 f0 HWE
  go_wp2_with fail
  go_loopw [9, 10] (fun v i wr => ∃ k : Nat, k ≤ M ∧ i = .int .i64 k ∧ RowU w1.heap.size wr v (List.replicate k (UInt8.ofNat A)) ∧ Kp (· = w1.heap.size) w1 wr) (fun _ i _ => M - (intOf i).toNat)
  case atStart => exact ⟨0, Nat.zero_le _, rfl, RowU.nil _ _, Kp.refl _ _⟩
  case round =>
    obtain ⟨k, hk, rfl, hrow, hkw⟩ := hrel
    obtain ⟨av, cv, rfl, hown, hbeyond⟩ := hrow
    have HKW := Lib.hid hkw
    by_cases hlt : k < M
    · have HB := Lib.hid hbeyond
      have hkA := (Kp.refl (fun _ => False) wr).alloc (.cells #[.int .u8 (A : Nat)] 5)
      have KA := Lib.hid hkA
      have HO := Lib.hid (hown.kp hkA (fun _ _ q => q))
      have T1 := Lib.hid (lit_u wr A hA)
      have HRE : Hid (List.replicate k (UInt8.ofNat A) ++ [UInt8.ofNat A] = List.replicate (k + 1) (UInt8.ofNat A)) := Lib.hid List.replicate_succ'.symm
      obtain ⟨lr, hlr⟩ : ∃ lr, lr = List.replicate k (UInt8.ofNat A) := ⟨_, rfl⟩
      have hL2 : lr.length = k := by rw [hlr, List.length_replicate]
      have HL2 := Lib.hid hL2
      rw [← hlr] at HO HB HRE ⊢
      rw [hL2] at HO ⊢
      have hw8 : IntKind.u8.wrap (A : Int) = (A : Int) := by rw [IntKind.wrap_u8]; omega
      clear hown hbeyond hkA hkw hL2 hlr
      go_wp2_with (at_builtin; refine wpList_app _ rfl _ _ 30 rfl 5 i0 _ 1 1 Try.underlying30 hi0 hz0 hz1 hz2 rfl (by decide) (by decide) (.slice av k cv) k _ rfl HO.out (.slice (some ⟨wr.heap.size, 0, none⟩) 1 1) 1 _ rfl T1.out (u8c_one _) (by omega) ?_; intro v1 w6 g1 g2 g3 g4 g5; obtain ⟨b1, d1, rfl⟩ := g1.form; have G := Lib.hid (RowU.app (l := lr) HKW.out rfl KA.out HB.out (by rw [HL2.out]; exact g1) (by rw [HL2.out]; exact g2) (by rw [HL2.out]; exact g3)); clear g1 g2 g3 g4 g5)
      refine ⟨⟨k + 1, by omega, by go_num, ?_, G.out.2.1⟩, by simp [intOf]; omega⟩
      have := G.out.1
      rwa [HL2.out, HRE.out] at this
    · obtain rfl : k = M := by omega
      have hkw0 : Kp (fun _ => False) w1 wr := HKW.out.mono (fun i hi q => by omega)
      have hok := alone_ok (k := k) hA hC1 HL.out
      have hbl := alone_bits (k := k) hA hC1 HL.out k (Nat.le_refl _)
      obtain ⟨l, hl⟩ : ∃ l, l = List.replicate k (UInt8.ofNat A) := ⟨_, rfl⟩
      have hll : l.length = k := by rw [hl, List.length_replicate]
      rw [← hl] at hown hok hbl ⊢
      have HN := Lib.hid hll
      rw [HN.out] at hown ⊢
      have HSLB := Lib.hid hown.sl
      have HKW0 := Lib.hid (HK1.out.trans hkw0)
      have HOK := Lib.hid hok
      have HBL := Lib.hid hbl
      have HNW := Lib.hid (HNM.out.kp hkw0)
      have EN : Hid (Calls Try.prog 25 #[.slice a3 256 c3, .slice av k cv] wr (EncPost wr (lensOf 256 L) l)) := Lib.hid (by
        have := encode_p wr (lensOf 256 L) a3 c3 HNW.out (by rw [lens_len]; omega) l av cv (by rw [HN.out]; exact HSLB.out) (by have := HN.out; omega)
        rw [lens_len, HN.out] at this
        exact this)
      clear hown hbeyond hkw hkw0 hok hbl hl hll HK1 HKW HNM
      go_wp2_with fail
      refine EN.out.mono ?_
      rintro e w2 (⟨_, g5, rfl, q1, q2, q3⟩ | ⟨hno, _, _⟩)
      · have hsl := pack_sl q2 (by have := bt_len HOK.out.1.2.1 l l.length; have := HN.out; omega)
        have HDY := Lib.hid (dec_enc HOK.out)
        rw [HN.out] at HDY
        have hpl := pack_len (bt (lensOf 256 L) l l.length)
        rw [HN.out, HBL.out] at hsl hpl ⊢
        obtain ⟨PK, hPK⟩ : ∃ PK, PK = pack (bt (lensOf 256 L) l k) := ⟨_, rfl⟩
        rw [← hPK] at hsl hpl HDY
        obtain ⟨m, hm⟩ : ∃ m, m = k / 8 + 1 := ⟨_, rfl⟩
        have hmi : ((m : Nat) : Int) = (k : Int) / 8 + 1 := by omega
        rw [← hm] at hsl hpl ⊢
        have hm5 : 1 ≤ m ∧ m ≤ 2000 := by omega
        have HPL := Lib.hid hpl
        have HSL5 := Lib.hid hsl
        have HN5 := Lib.hid (HNW.out.kp q3)
        have D : Hid (Calls Try.prog 27 #[.slice a3 256 c3, .slice (some ⟨g5, 0, none⟩) m m, .int .i64 (k : Nat)] w2 (DecPost w2 (lensOf 256 L) PK k)) := Lib.hid (by
          have := decode_p w2 (lensOf 256 L) a3 c3 HN5.out (by rw [lens_len]; omega) PK (some ⟨g5, 0, none⟩) m (by rw [HPL.out]; have := HSL5.out; rwa [HPL.out] at this) (by have := HPL.out; omega) (k : Nat) (by omega)
          rw [lens_len, HPL.out] at this
          exact this)
        have HKW := Lib.hid (HKW0.out.trans q3)
        have HSB := Lib.hid (HSLB.out.kp q3 (fun _ _ q => q))
        have HMI := Lib.hid hmi
        clear q1 q2 q3 hm hPK hsl hpl EN hm5 hmi
        go_wp2_with fail
        refine D.out.mono ?_
        rintro e w6 (⟨o, hy, ⟨v, rfl, ⟨a6, c6, rfl, h1, _⟩⟩, k6⟩ | ⟨hno, _, _⟩)
        · obtain rfl := hy.one HDY.out
          have K6 := Lib.hid k6
          have H1 := Lib.hid h1
          obtain ⟨cur2, hcur2, hmk2⟩ := make_ints w6 256 (by omega)
          have hmk3 : (Instr.makeSlice 22 (.int .i64 256) (.int .i64 256)).run Try.prog w6 = .ok (.slice (some ⟨w6.heap.size, 0, none⟩) 256 256) (w6.alloc (.cells cur2 3)) := hmk2
          have hz := (made (w := w6) hcur2).sl (by omega)
          have hz2 : Nm (w6.alloc (.cells cur2 3)) (some ⟨w6.heap.size, 0, none⟩) 256 (List.replicate 256 0) := by
            unfold Nm
            rw [List.length_replicate]
            have e : ((List.range 256).map fun i => Value.int .i64 0) = (List.replicate 256 0).map (Value.int .i64) := rfl
            rw [← e]
            exact hz
          have EZ : Hid (Calls Try.prog 25 #[.slice (some ⟨w6.heap.size, 0, none⟩) 256 256, .slice none 0 0] (w6.alloc (.cells cur2 3)) (EncPost (w6.alloc (.cells cur2 3)) (List.replicate 256 0) [])) := Lib.hid (by
            have := encode_p (w6.alloc (.cells cur2 3)) (List.replicate 256 0) (some ⟨w6.heap.size, 0, none⟩) 256 hz2 (by simp) [] none 0 (SlR.nil _ _) (by simp)
            rw [List.length_replicate] at this
            exact this)
          have KA : Hid (Kp (fun _ => False) w6 (w6.alloc (.cells cur2 3))) := Lib.hid ((Kp.refl _ _).alloc _)
          have HNZ := Lib.hid (not_ok 256)
          clear k6 h1 hy hcur2 hmk2 hz hz2 D
          go_wp2_with fail
          refine EZ.out.mono ?_
          rintro e w7 (⟨hno, _⟩ | ⟨_, rfl, k7⟩)
          · exact absurd hno.1 HNZ.out
          · have h8 := (H1.out.kp (KA.out.trans k7) (fun _ _ q => q)).sl
            have v1 := strOf h8
            have r8 := HSB.out.kp (K6.out.trans (KA.out.trans k7)) (fun _ _ q => q)
            have v2 := strOf (l := l) (by rw [HN.out]; exact r8)
            (try rw [HN.out] at v2)
            have HSM := Lib.hid (sym_map l)
            rw [HN.out] at HSM
            rw [HSM.out] at v1 ⊢
            have K8 := Lib.hid (HKW.out.trans (K6.out.trans (KA.out.trans k7)))
            clear k7 h8 r8 hmk3 EZ
            have hmi := HMI.out
            go_wp2_with fail
            refine (known_c _).mono ?_
            rintro e w9 ⟨rfl, k9⟩
            have K9 := Lib.hid (K8.out.trans k9)
            clear k9
            go_wp2_with fail
            go_ret
            exact ⟨rfl, K9.out.below⟩
        · exact absurd HDY.out (hno _)
      · exact absurd HOK.out hno
theorem walk (A : Int) (_ : (Lit.int .i64 A).wf = true) (M : Int) (_ : (Lit.int .i64 M).wf = true) (C : Int) (_ : (Lit.int .i64 C).wf = true) (w : World) : Calls Try.prog 13 #[.int .i64 A, .int .i64 M, .int .i64 C] w (LawPost w) := by
  by_cases h : 0 ≤ A ∧ A ≤ 255 ∧ 0 ≤ M ∧ M ≤ 200 ∧ 1 ≤ C ∧ C ≤ 1073741824
  · obtain ⟨h1, h2, h3, h4, h5, h6⟩ := h
    obtain ⟨A, rfl⟩ : ∃ n : Nat, A = (n : Nat) := ⟨A.toNat, by omega⟩
    obtain ⟨M, rfl⟩ : ∃ n : Nat, M = (n : Nat) := ⟨M.toNat, by omega⟩
    obtain ⟨C, rfl⟩ : ∃ n : Nat, C = (n : Nat) := ⟨C.toNat, by omega⟩
    exact walk_n A M C (by omega) (by omega) (by omega) (by omega) w
  · rcases (show A < 0 ∨ (0 ≤ A ∧ 255 < A) ∨ (0 ≤ A ∧ A ≤ 255 ∧ M < 0) ∨ (0 ≤ A ∧ A ≤ 255 ∧ 0 ≤ M ∧ 200 < M) ∨ (0 ≤ A ∧ A ≤ 255 ∧ 0 ≤ M ∧ M ≤ 200 ∧ C < 1) ∨ (0 ≤ A ∧ A ≤ 255 ∧ 0 ≤ M ∧ M ≤ 200 ∧ 1 ≤ C ∧ 1073741824 < C) by omega) with h | h | h | h | h | h
    all_goals
      go_enter Try.func13, Try.ntmps13
      go_wp2_with fail
      go_ret
      exact ⟨rfl, Below.refl _ _⟩
end Go.Proofs.Ytcecnkmhhbncdaa.huffAlone
