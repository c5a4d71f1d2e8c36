/- The walk of HuffShort. -/
import Derived.Test.YtcecnkmhhbncdaaRdQ
import Derived.Test.YtcecnkmhhbncdaaRdP
import Derived.Test.YtcecnkmhhbncdaaHeM
import Derived.Test.YtcecnkmhhbncdaaHfV
import Derived.Test.YtcecnkmhhbncdaaOpen
namespace Go.Proofs.Ytcecnkmhhbncdaa.huffShort
open Go Go.RowKit Go.ChangeMaps Go.MapKept Go.Mg Go.Hf Go.Proofs.Ytcecnkmhhbncdaa.Hu Go.Proofs.Ytcecnkmhhbncdaa.He Go.Proofs.Ytcecnkmhhbncdaa.Bw Go.Proofs.Ytcecnkmhhbncdaa.Rd Go.Proofs.Ytcecnkmhhbncdaa.Op

def th (n : Nat) : List Nat := (List.range n).map fun i => 1 + i % 3
theorem th_len (n : Nat) : (th n).length = n := by simp [th]
def upTo (k : Nat) (j : Nat) : Int := if j < k then 1 + (j : Int) % 3 else 0
theorem upTo_succ (k : Nat) : (fun j => if j = k then 1 + (k : Int) % 3 else upTo k j) = upTo (k + 1) := by
  funext j
  unfold upTo
  by_cases h : j = k
  · subst h; simp
  · by_cases q : j < k
    · have : j < k + 1 := by omega
      simp [h, q, this]
    · have : ¬ j < k + 1 := by omega
      simp [h, q, this]
theorem th_row (n : Nat) : ((List.range n).map fun i => Value.int .i64 (upTo n i)) = (th n).map Hu.nv := by
  apply List.ext_getElem
  · simp [th]
  · intro i h1 h2
    have hi : i < n := by simpa using h1
    simp [upTo, hi, Hu.nv, th]
theorem th_sum (n : Nat) : (th n).sum ≤ n * 3 := sum_le _ _ _ (fun i => by omega)
theorem th_pos {n : Nat} {L : Nat → Nat} (h : IsLens (th n) L) {i : Nat} (hi : i < n) : 0 < L i :=
  (h.pos i).2 ⟨by rw [th_len]; exact hi, by simp [th]; omega⟩
theorem th_isOk {n : Nat} {L : Nat → Nat} (h : IsLens (th n) L) (h2 : 2 ≤ n) (h200 : n ≤ 200) : IsOk (lensOf n L) := by
  have := (h.isOk (by rw [th_len]; omega)).2 ⟨1 + 0 % 3, List.mem_map.2 ⟨0, List.mem_range.2 (by omega), rfl⟩, by decide⟩
  rwa [th_len] at this
/-- Are the first k bytes symbols? -/
def inn (l : List UInt8) (n k : Nat) : Bool := (List.range k).all fun j => decide (sym l j < n)
theorem inn_succ (l : List UInt8) (n k : Nat) : inn l n (k + 1) = (inn l n k && decide (sym l k < n)) := by simp [inn, List.range_succ]
theorem inn_ok {n : Nat} {L : Nat → Nat} {l : List UInt8} (h : IsLens (th n) L) (h2 : 2 ≤ n) (h200 : n ≤ 200) : inn l n l.length = true ↔ EncOk (lensOf n L) l := by
  have hok := th_isOk h h2 h200
  simp only [inn, List.all_eq_true, List.mem_range, decide_eq_true_eq]
  constructor
  · intro q
    refine ⟨hok, fun j hj => ⟨by rw [lens_len]; exact q j hj, ?_⟩⟩
    rw [lf_lens n L (q j hj)]
    have := th_pos h (q j hj)
    omega
  · intro q j hj
    have := (q.2 j hj).1
    rwa [lens_len] at this
set_option maxRecDepth 100000 in
set_option maxHeartbeats 2000000 in
theorem walk_n (N : Nat) (hN2 : 2 ≤ N) (hN : N ≤ 200) (w : World) (ab : Option Addr) (cb' : Nat) (l : List UInt8) (w1 : SlR w 1 (.slice ab l.length cb') l.length (l.map u8c)) (hl : l.length ≤ 200) :
    Calls Try.prog 14 #[.int .i64 (N : Nat), .slice ab l.length cb'] w (LawPost w) := by
  have R1 := Lib.hid w1
  obtain ⟨cur, hcur, hmk⟩ := make_ints w N (by omega)
  have C0 : Hid (CAt (w.alloc (.cells cur 3)) w.heap.size N (upTo 0)) := Lib.hid (made hcur)
  have K0 : Hid (Kp (fun _ => False) w (w.alloc (.cells cur 3))) := Lib.hid ((Kp.refl _ _).alloc _)
  have HB : Hid (0 < l.length → ∃ g o, ab = some ⟨g, o, none⟩ ∧ l.length ≤ cb' ∧ ∀ V, Kp (fun _ => False) w V → ∀ i, i < l.length → V.cell? ⟨g, o + i, none⟩ = some (.int .u8 (sym l i : Nat))) := Lib.hid (fun h0 => by
    obtain ⟨g, o, e, hg, h1, h2⟩ := bytes_at R1.out h0
    exact ⟨g, o, e, h1, fun V hk i hi => (hk.cell (p := ⟨g, o + i, none⟩) hg (fun q => q)).trans (h2 i hi)⟩)
  have HSL := Lib.hid (sym_lt l)
  have HIS := Lib.hid (inn_succ l N)
  have HI0 : Hid (inn l N 0 = true) := Lib.hid rfl
  obtain ⟨n, hn⟩ : ∃ n, n = l.length := ⟨_, rfl⟩
  have HNL := Lib.hid hn
  rw [← hn] at HB hl ⊢
  clear hcur w1 hn
  go_enter Try.func14, Try.ntmps14
  go_wp2_with fail
  generalize hW : w.alloc (.cells cur 3) = W at C0 K0 ⊢
  have hwW : w.heap.size < W.heap.size := by rw [← hW]; simp
  clear hmk hW
  go_loopw [6] (fun i wr => ∃ k : Nat, k ≤ N ∧ i = .int .i64 k ∧ CAt wr w.heap.size N (upTo k) ∧ Kp (fun _ => False) w wr) (fun i _ => N - (intOf i).toNat)
  case atStart => exact ⟨0, Nat.zero_le _, rfl, C0.out, K0.out⟩
  case round =>
    clear C0 K0
    obtain ⟨k, hk, rfl, hca, hkp⟩ := hrel
    by_cases hlt : k < N
    · have f1 := hca.cell hlt
      have f2 : wr.frozen? ⟨w.heap.size, k, none⟩ = false := free_of hca k
      have hset := hca.set hlt (1 + (k : Int) % 3)
      rw [upTo_succ] at hset
      have hks : Kp (fun _ => False) w (wr.setCell ⟨w.heap.size, k, none⟩ (.int .i64 (1 + (k : Int) % 3))) := hkp.setCell (p := ⟨w.heap.size, k, none⟩) (fun q => by simp only at q; omega) _
      have HSET := Lib.hid hset
      have HKS := Lib.hid hks
      have q5 : (k : Int).tmod 3 = (k : Int) % 3 := Int.tmod_eq_emod_of_nonneg (by omega)
      generalize upTo k k = y at f1
      clear hset hks hca hkp
      go_wp2_with fail
      exact ⟨⟨k + 1, by omega, by go_num, HSET.out, HKS.out⟩, by simp [intOf]; omega⟩
    · obtain rfl : k = N := by omega
      have hsl := hca.sl (by omega)
      rw [th_row] at hsl
      have HKP := Lib.hid hkp
      have LP : Hid (Calls Try.prog 17 #[.slice (some ⟨w.heap.size, 0, none⟩) k k] wr (LensPost wr (th k))) := Lib.hid (by
        have := lens_p wr (th k) (some ⟨w.heap.size, 0, none⟩) k (by rw [th_len]; exact hsl) (by rw [th_len]; omega) (by have := th_sum k; omega)
        rw [th_len] at this
        exact this)
      have LD : Hid (∀ V, Kp (fun _ => False) wr V → Calls Try.prog 18 #[.slice (some ⟨w.heap.size, 0, none⟩) k k] V (LensPost V (th k))) := Lib.hid (fun V hV => by
        have := lens_d V (th k) (some ⟨w.heap.size, 0, none⟩) k (by rw [th_len]; exact hsl.kp hV (fun _ _ q => q)) (by rw [th_len]; omega) (by have := th_sum k; omega)
        rw [th_len] at this
        exact this)
      clear hca hkp hsl
      go_wp2_with fail
      refine LP.out.mono ?_
      rintro e w1 ⟨L, a3, c3, rfl, hL, hLo, hk1⟩
      rw [th_len] at hLo ⊢
      have HL := Lib.hid hL
      have HLO := Lib.hid hLo
      have HNM := Lib.hid (lens_nm hLo)
      have HK1 := Lib.hid (HKP.out.trans hk1)
      have HK10 := Lib.hid hk1
      have EN : Hid (Calls Try.prog 25 #[.slice a3 k c3, .slice ab n cb'] w1 (EncPost w1 (lensOf k L) l)) := Lib.hid (by
        have := encode_p w1 (lensOf k L) a3 c3 HNM.out (by rw [lens_len]; omega) l ab cb' (R1.out.kp HK1.out (fun _ _ q => q)) (by have := HNL.out; omega)
        rw [lens_len, ← HNL.out] at this
        exact this)
      have HIO := Lib.hid (inn_ok (l := l) hL hN2 (by omega))
      rw [← HNL.out] at HIO
      obtain ⟨IN, hIN⟩ : ∃ IN, IN = inn l k := ⟨_, rfl⟩
      rw [← hIN] at HIO HIS HI0
      clear hL hLo hk1 LP hIN
      go_wp2_with fail
      refine EN.out.mono ?_
      rintro e w2 (⟨hok, g5, rfl, q1, q2, q3⟩ | ⟨hno, rfl, q3⟩)
      · have HOK := Lib.hid hok
        have HIN1 : Hid (IN n = true) := Lib.hid (HIO.out.2 hok)
        have Q2 := Lib.hid q2
        have Q3 := Lib.hid q3
        have HKW := Lib.hid (HK1.out.trans q3)
        clear hok q1 q2 q3
        go_wp2_with fail
        go_loopw [10, 11] (fun b i wr => ∃ j : Nat, j ≤ n ∧ i = .int .i64 j ∧ b = .bool (IN j) ∧ wr = w2) (fun _ i _ => n - (intOf i).toNat)
        case atStart => exact ⟨0, Nat.zero_le _, rfl, by rw [HI0.out], rfl⟩
        case round =>
          obtain ⟨j, hj, rfl, rfl, hwr⟩ := hrel
          obtain rfl := hwr
          by_cases hlt : j < n
          · obtain ⟨gb, ob', rfl, hcb, hcells⟩ := HB.out (by omega)
            have d0 := hcells _ HKW.out j hlt
            have hs := HSL.out j
            have his := HIS.out j
            obtain ⟨s, hsy⟩ : ∃ s, s = sym l j := ⟨_, rfl⟩
            rw [← hsy] at d0 hs his
            have HISJ := Lib.hid his
            clear hcells his hsy
            cases hb : IN j with
            | false =>
              go_wp2_with fail
              refine ⟨⟨j + 1, by omega, by go_num, ?_, by first | trivial | rfl⟩, by simp [intOf]; try omega⟩
              rw [HISJ.out, hb]; rfl
            | true =>
              by_cases hsk : s < k
              · have hd5 : decide (s < k) = true := by simpa using hsk
                go_wp2_with fail
                refine ⟨⟨j + 1, by omega, by go_num, ?_, by first | trivial | rfl⟩, by simp [intOf]; try omega⟩
                rw [HISJ.out, hb, hd5]; rfl
              · have hd5 : decide (s < k) = false := by simpa using hsk
                go_wp2_with fail
                refine ⟨⟨j + 1, by omega, by go_num, ?_, by first | trivial | rfl⟩, by simp [intOf]; try omega⟩
                rw [HISJ.out, hb, hd5]; rfl
          · obtain rfl : j = n := by omega
            rw [HIN1.out]
            have hsl := pack_sl Q2.out (by have := bt_len HOK.out.1.2.1 l l.length; have := HNL.out; omega)
            have hbl := bt_len HOK.out.1.2.1 l l.length
            have HDY := Lib.hid (dec_enc HOK.out)
            have hpl := pack_len (bt (lensOf k L) l l.length)
            obtain ⟨m, hm⟩ : ∃ m, m = (bt (lensOf k L) l l.length).length / 8 + 1 := ⟨_, rfl⟩
            obtain ⟨PK, hPK⟩ : ∃ PK, PK = pack (bt (lensOf k L) l l.length) := ⟨_, rfl⟩
            rw [← hm] at hsl hpl ⊢
            rw [← hPK] at hsl hpl HDY
            have hm5 : 1 ≤ m ∧ m ≤ 3000 := by have := HNL.out; omega
            rw [← HNL.out] at HDY
            have HPL := Lib.hid hpl
            have HSL5 := Lib.hid hsl
            have HN5 := Lib.hid (HNM.out.kp Q3.out)
            have D : Hid (Calls Try.prog 27 #[.slice a3 k c3, .slice (some ⟨g5, 0, none⟩) m m, .int .i64 (j : Nat)] wr (DecPost wr (lensOf k L) PK j)) := Lib.hid (by
              have := decode_p wr (lensOf k L) a3 c3 HN5.out (by rw [lens_len]; omega) PK (some ⟨g5, 0, none⟩) m (by rw [HPL.out]; have := HSL5.out; rwa [HPL.out] at this) (by have := HPL.out; omega) (j : Nat) (by omega)
              rw [lens_len, HPL.out] at this
              exact this)
            clear hsl hbl hm hpl hPK hm5
            go_wp2_with fail
            refine D.out.mono ?_
            rintro e w6 (⟨o, hy, ⟨v, rfl, ⟨a6, c6, rfl, h1, _⟩⟩, k6⟩ | ⟨hno, _, _⟩)
            · obtain rfl := hy.one HDY.out
              have h8 := h1.sl
              have v1 := strOf h8
              have r8 := R1.out.kp (HKW.out.trans k6) (fun _ _ q => q)
              have v2 := strOf r8
              have HSM := Lib.hid (sym_map l)
              rw [← HNL.out] at HSM v2
              rw [HSM.out] at v1 ⊢
              have K60 := Lib.hid (HK10.out.trans (Q3.out.trans k6))
              have K6S := Lib.hid k6
              have K6 := Lib.hid (HKW.out.trans k6)
              clear k6 h1 hy h8 r8 D
              go_wp2_with fail
              refine (LD.out _ K60.out).mono ?_
              rintro e w7 ⟨L2, a7, c7, rfl, hL2, hLo2, k7⟩
              rw [th_len] at hLo2 ⊢
              have HE := Lib.hid (IsLens.det HL.out hL2)
              have S7 := Lib.hid (HLO.out.row.sl.kp (Q3.out.trans (K6S.out.trans k7)) (fun _ _ q => q))
              have T7 := Lib.hid hLo2
              have K7 := Lib.hid (K6.out.trans k7)
              clear hL2 hLo2 k7
              go_wp2_with fail
              refine (same_c w7 k (fun i => ((L i : Nat) : Int)) (fun i => ((L2 i : Nat) : Int)) a3 a7 c3 c7 S7.out T7.out.row.sl (by omega)).mono ?_
              rintro e w8 ⟨z, hz, rfl, q8, hw8⟩
              obtain rfl : z = true := hz.2 (fun i _ => by rw [HE.out])
              have K8 : Hid (Kp (fun _ => False) w w8) := Lib.hid (by rw [hw8]; exact K7.out.drewN q8)
              clear hz hw8
              go_wp2_with fail
              refine (known_c _).mono ?_
              rintro e w9 ⟨rfl, k9⟩
              have K9 := Lib.hid (K8.out.trans k9)
              clear k9
              go_wp2_with fail
              go_ret
              exact ⟨rfl, K9.out.below⟩
            · exact absurd HDY.out (hno _)
      · have HIN1 : Hid (IN n = false) := Lib.hid (by cases h : IN n with
          | false => rfl
          | true => exact absurd (HIO.out.1 h) hno)
        have HKW := Lib.hid (HK1.out.trans q3)
        clear hno q3
        go_wp2_with fail
        go_loopw [10, 11] (fun b i wr => ∃ j : Nat, j ≤ n ∧ i = .int .i64 j ∧ b = .bool (IN j) ∧ wr = w2) (fun _ i _ => n - (intOf i).toNat)
        case atStart => exact ⟨0, Nat.zero_le _, rfl, by rw [HI0.out], rfl⟩
        case round =>
          obtain ⟨j, hj, rfl, rfl, hwr⟩ := hrel
          obtain rfl := hwr
          by_cases hlt : j < n
          · obtain ⟨gb, ob', rfl, hcb, hcells⟩ := HB.out (by omega)
            have d0 := hcells _ HKW.out j hlt
            have hs := HSL.out j
            have his := HIS.out j
            obtain ⟨s, hsy⟩ : ∃ s, s = sym l j := ⟨_, rfl⟩
            rw [← hsy] at d0 hs his
            have HISJ := Lib.hid his
            clear hcells his hsy
            cases hb : IN j with
            | false =>
              go_wp2_with fail
              refine ⟨⟨j + 1, by omega, by go_num, ?_, by first | trivial | rfl⟩, by simp [intOf]; try omega⟩
              rw [HISJ.out, hb]; rfl
            | true =>
              by_cases hsk : s < k
              · have hd5 : decide (s < k) = true := by simpa using hsk
                go_wp2_with fail
                refine ⟨⟨j + 1, by omega, by go_num, ?_, by first | trivial | rfl⟩, by simp [intOf]; try omega⟩
                rw [HISJ.out, hb, hd5]; rfl
              · have hd5 : decide (s < k) = false := by simpa using hsk
                go_wp2_with fail
                refine ⟨⟨j + 1, by omega, by go_num, ?_, by first | trivial | rfl⟩, by simp [intOf]; try omega⟩
                rw [HISJ.out, hb, hd5]; rfl
          · obtain rfl : j = n := by omega
            rw [HIN1.out]
            go_wp2_with fail
            refine (known_c _).mono ?_
            rintro e w9 ⟨rfl, k9⟩
            have K9 := Lib.hid (HKW.out.trans k9)
            clear k9
            go_wp2_with fail
            go_ret
            exact ⟨rfl, K9.out.below⟩
theorem walk (N : Int) (_ : (Lit.int .i64 N).wf = true) (w : World) (ab : Option Addr) (cb' : Nat) (l : List UInt8) (w1 : SlR w 1 (.slice ab l.length cb') l.length (l.map u8c)) :
    Calls Try.prog 14 #[.int .i64 N, .slice ab l.length cb'] w (LawPost w) := by
  by_cases h : 2 ≤ N ∧ N ≤ 200 ∧ l.length ≤ 200
  · obtain ⟨h1, h2, h3⟩ := h
    obtain ⟨N, rfl⟩ : ∃ n : Nat, N = (n : Nat) := ⟨N.toNat, by omega⟩
    exact walk_n N (by omega) (by omega) w ab cb' l w1 h3
  · clear w1
    rcases (show N < 2 ∨ (2 ≤ N ∧ 200 < N) ∨ (2 ≤ N ∧ N ≤ 200 ∧ 200 < l.length) by omega) with h | h | h
    all_goals
      go_enter Try.func14, Try.ntmps14
      go_wp2_with fail
      go_ret
      exact ⟨rfl, Below.refl _ _⟩
end Go.Proofs.Ytcecnkmhhbncdaa.huffShort
