/- The walk of HuffEven. -/
import Derived.Test.YtcecnkmhhbncdaaHfV
import Derived.Test.YtcecnkmhhbncdaaHuffG
import Derived.Test.YtcecnkmhhbncdaaOpen
import Derived.Laws.MakeOwn
namespace Go.Proofs.Ytcecnkmhhbncdaa.huffEven
open Go Go.RowKit Go.ChangeMaps Go.MapKept Go.Mg Go.Hf Go.Proofs.Ytcecnkmhhbncdaa.Hu Go.Proofs.Ytcecnkmhhbncdaa.Op

theorem lens_row (n : Nat) (L : Nat → Nat) : ((List.range n).map fun i => nv (L i)) = (lensOf n L).map (Value.int .i64) := by
  rw [lensOf, List.map_map]; rfl
def upTo (c k : Nat) (j : Nat) : Int := if j < k then (c : Int) else 0
theorem upTo_succ (c k : Nat) : (fun j => if j = k then (c : Int) else upTo c k j) = upTo c (k + 1) := by
  funext j
  unfold upTo
  by_cases h : j = k
  · subst h; simp
  · by_cases q : j < k
    · have : j < k + 1 := by omega
      simp [h, q, this]
    · have : ¬ j < k + 1 := by omega
      simp [h, q, this]
theorem row_repl (c N : Nat) : ((List.range N).map fun i => Value.int .i64 (upTo c N i)) = (List.replicate N c).map nv := by
  apply List.ext_getElem
  · simp
  · intro i h1 h2
    have hi : i < N := by simpa using h1
    simp [upTo, hi, nv]
theorem made {w : World} {n : Nat} {cur : Array Value} (hc : cur.toList = List.replicate n (nv 0)) : CAt (w.alloc (.cells cur 3)) w.heap.size n (fun _ => 0) := by
  unfold CAt
  rw [alloc_at w _]
  congr 2
  apply Array.toList_inj.1
  rw [hc]
  apply List.ext_getElem
  · simp
  · intro i h1 h2
    simp [nv]
theorem lf_lens (N : Nat) (L : Nat → Nat) {i : Nat} (h : i < N) : lf (lensOf N L) i = (L i : Int) := by
  rw [lf_at (by simp [lensOf]; exact h)]
  simp [lensOf]
set_option maxRecDepth 100000 in
set_option maxHeartbeats 2000000 in
theorem walk_n (lg c : Nat) (h1 : 1 ≤ lg) (h8 : lg ≤ 8) (hc1 : 1 ≤ c) (hc2 : c ≤ 1048576) (w : World) : Calls Try.prog 8 #[.int .i64 (lg : Nat), .int .i64 (c : Nat)] w (LawPost w) := by
  have hN2 : 2 ≤ 2 ^ lg := by
    have : 2 ^ 1 ≤ 2 ^ lg := Nat.pow_le_pow_right (by omega) h1
    simpa using this
  have hN8 : 2 ^ lg ≤ 256 := by
    have : 2 ^ lg ≤ 2 ^ 8 := Nat.pow_le_pow_right (by omega) h8
    simpa using this
  have hEv : ∀ {L : Nat → Nat}, IsLens (List.replicate (2 ^ lg) c) L → ∀ i, i < 2 ^ lg → L i = lg := fun h => h.even h1 h8 hc1
  have hCo : ∀ {xs : List Int}, xs.length = 2 ^ lg → (∀ i, i < 2 ^ lg → lf xs i = (lg : Int)) → ∀ i, i < 2 ^ lg → codes xs i = (i : Int) := fun hl h => codes_even h1 h8 hl h
  obtain ⟨N, hN⟩ : ∃ N, N = 2 ^ lg := ⟨_, rfl⟩
  have hb : (2 : Int) ^ lg = (N : Int) := by rw [hN]; simp
  rw [← hN] at hN2 hN8 hEv hCo
  have HEV : Hid (∀ L : Nat → Nat, IsLens (List.replicate N c) L → ∀ i, i < N → L i = lg) := Lib.hid (fun L h => hEv h)
  have HCO : Hid (∀ xs : List Int, xs.length = N → (∀ i, i < N → lf xs i = (lg : Int)) → ∀ i, i < N → codes xs i = (i : Int)) := Lib.hid (fun xs h h2 => hCo h h2)
  clear hN hEv hCo
  obtain ⟨cur, hcur, hmk⟩ := make_ints w N (by omega)
  have C0 : Hid (CAt (w.alloc (.cells cur 3)) w.heap.size N (upTo c 0)) := Lib.hid (made hcur)
  have K0 : Hid (Kp (fun _ => False) w (w.alloc (.cells cur 3))) := Lib.hid ((Kp.refl _ _).alloc _)
  clear hcur
  go_enter Try.func8, Try.ntmps8
  go_wp2_with fail
  generalize hW : w.alloc (.cells cur 3) = W at C0 K0 ⊢
  have hwW : w.heap.size < W.heap.size := by rw [← hW]; simp
  clear hmk hW
  go_loopw [6] (fun i wr => ∃ k : Nat, k ≤ N ∧ i = .int .i64 k ∧ CAt wr w.heap.size N (upTo c k) ∧ Kp (fun _ => False) w wr) (fun i _ => N - (intOf i).toNat)
  case atStart => exact ⟨0, Nat.zero_le _, rfl, C0.out, K0.out⟩
  case round =>
    clear C0 K0
    obtain ⟨k, hk, rfl, hca, hkp⟩ := hrel
    by_cases hlt : k < N
    · have f1 := hca.cell hlt
      have f2 : wr.frozen? ⟨w.heap.size, k, none⟩ = false := free_of hca k
      have hset := hca.set hlt (c : Int)
      rw [upTo_succ] at hset
      have hks : Kp (fun _ => False) w (wr.setCell ⟨w.heap.size, k, none⟩ (.int .i64 (c : Int))) := hkp.setCell (p := ⟨w.heap.size, k, none⟩) (fun q => by simp only at q; omega) _
      have HSET := Lib.hid hset
      have HKS := Lib.hid hks
      generalize upTo c k k = y at f1
      clear hset hks hca hkp
      go_wp2_with fail
      exact ⟨⟨k + 1, by omega, by go_num, HSET.out, HKS.out⟩, by simp [intOf]; omega⟩
    · obtain rfl : k = N := by omega
      have hsl := hca.sl (by omega)
      rw [row_repl] at hsl
      have HKP := Lib.hid hkp
      have LP : Hid (Calls Try.prog 17 #[.slice (some ⟨w.heap.size, 0, none⟩) k k] wr (LensPost wr (List.replicate k c))) := Lib.hid (by
        have h9 := Nat.mul_le_mul hN8 hc2
        have := lens_p wr (List.replicate k c) (some ⟨w.heap.size, 0, none⟩) k (by rw [List.length_replicate]; exact hsl) (by rw [List.length_replicate]; exact hN8) (by rw [List.sum_replicate_nat]; omega)
        rw [List.length_replicate] at this
        exact this)
      clear hca hkp hsl
      go_wp2_with fail
      refine LP.out.mono ?_
      rintro e w1 ⟨L, a1, c1, rfl, hL, hLo, hk1⟩
      have HL := Lib.hid (HEV.out L hL)
      have HOK : Hid (IsOk (lensOf k L)) := Lib.hid (by
        have := (hL.isOk (by rw [List.length_replicate]; exact hN8)).2 ⟨c, List.mem_replicate.2 ⟨by omega, rfl⟩, by omega⟩
        rwa [List.length_replicate] at this)
      rw [List.length_replicate] at hLo ⊢
      obtain ⟨g1, e1, hcap1, hat⟩ := hLo.row.at1 (by omega)
      subst e1
      have hnm : Nm w1 (some ⟨g1, 0, none⟩) c1 (lensOf k L) := by
        have := hLo.row.sl
        rw [lens_row] at this
        unfold Nm
        rw [show (lensOf k L).length = k by simp [lensOf]]
        exact this
      have hg1 : g1 < w1.heap.size := by
        obtain ⟨g, off, e, hg, _⟩ := hnm.lf_ (by simp [lensOf]; omega)
        simp only [Option.some.injEq, Addr.mk.injEq] at e
        omega
      have HLC : Hid (∀ V, Kp (fun _ => False) w1 V → ∀ i, i < k → V.cell? ⟨g1, i, none⟩ = some (.int .i64 (lg : Nat))) := Lib.hid (fun V hk i hi => by
        rw [(hk.cell (p := ⟨g1, i, none⟩) hg1 (fun q => q)).trans ((hat i hi).1 _ (by simp [hi, nv]; rfl)), HL.out i hi])
      have HNM := Lib.hid hnm
      have HK1 := Lib.hid (HKP.out.trans hk1)
      have CP : Hid (Calls Try.prog 22 #[.slice (some ⟨g1, 0, none⟩) k c1] w1 (CodesPost w1 (lensOf k L))) := Lib.hid (by
        have := codes_p w1 (lensOf k L) (some ⟨g1, 0, none⟩) c1 hnm (by simp [lensOf]; omega) (by simp [lensOf]; omega)
        rw [show (lensOf k L).length = k by simp [lensOf]] at this
        exact this)
      clear hL hLo hk1 hat hnm LP
      go_wp2_with fail
      refine CP.out.mono ?_
      rintro e w2 ⟨g2, rfl, hg2, hca, hk2⟩
      rw [show (lensOf k L).length = k by simp [lensOf]] at hca ⊢
      have HCC : Hid (∀ i, i < k → w2.cell? ⟨g2, i, none⟩ = some (.int .i64 (i : Nat))) := Lib.hid (fun i hi => by
        rw [hca.cell hi, HCO.out _ (by simp [lensOf]) (fun j hj => by rw [lf_lens k L hj, HL.out j hj]) i hi])
      have HLC2 := Lib.hid (HLC.out w2 hk2)
      have HK2 := Lib.hid (HK1.out.trans hk2)
      have IP : Hid (Calls Try.prog 21 #[.slice (some ⟨g1, 0, none⟩) k c1] w2 (IsPost w2 (lensOf k L))) := Lib.hid (by
        have := is_p w2 (lensOf k L) (some ⟨g1, 0, none⟩) c1 (HNM.out.kp hk2) (by simp [lensOf]; omega)
        rw [show (lensOf k L).length = k by simp [lensOf]] at this
        exact this)
      clear hca hk2 CP HLC HK1
      go_wp2_with fail
      go_loopw [9] (fun i wx => ∃ q : Nat, q ≤ k ∧ i = .int .i64 q ∧ wx = w2) (fun i _ => k - (intOf i).toNat)
      case atStart => exact ⟨0, Nat.zero_le _, rfl, rfl⟩
      case round =>
        obtain ⟨q, hq, rfl, rfl⟩ := hrel
        by_cases hqk : q < k
        · have d0 := HLC2.out q hqk
          have d1 := HCC.out q hqk
          go_wp2_with fail
          exact ⟨⟨q + 1, by omega, by go_num, by first | trivial | rfl⟩, by simp [intOf]; omega⟩
        · obtain rfl : q = k := by omega
          go_wp2_with fail
          refine IP.out.mono ?_
          rintro e w3 ⟨z, hz, rfl, hw3⟩
          obtain rfl : z = true := hz.2 HOK.out
          obtain rfl := hw3
          clear hz IP
          go_wp2_with fail
          refine (known_c w3).mono ?_
          rintro e w5 ⟨rfl, k5⟩
          have K5 := Lib.hid (HK2.out.trans k5)
          clear k5
          go_wp2_with fail
          go_ret
          exact ⟨rfl, K5.out.below⟩
theorem walk (a0 : Int) (w0 : (Lit.int .i64 a0).wf = true) (a1 : Int) (w1 : (Lit.int .i64 a1).wf = true) (w : World) : Calls Try.prog 8 #[.int .i64 a0, .int .i64 a1] w (LawPost w) := by
  by_cases h : 1 ≤ a0 ∧ a0 ≤ 8 ∧ 1 ≤ a1 ∧ a1 ≤ 1048576
  · obtain ⟨n, rfl⟩ : ∃ n : Nat, a0 = n := ⟨a0.toNat, by omega⟩
    obtain ⟨m, rfl⟩ : ∃ n : Nat, a1 = n := ⟨a1.toNat, by omega⟩
    exact walk_n n m (by omega) (by omega) (by omega) (by omega) w
  · clear w0 w1
    by_cases h1 : a0 < 1
    · clear h
      go_enter Try.func8, Try.ntmps8
      go_wp2_with fail
      go_ret
      exact ⟨rfl, Below.refl _ _⟩
    · by_cases h2 : 8 < a0
      · clear h
        go_enter Try.func8, Try.ntmps8
        go_wp2_with fail
        go_ret
        exact ⟨rfl, Below.refl _ _⟩
      · by_cases h3 : a1 < 1
        · clear h
          go_enter Try.func8, Try.ntmps8
          go_wp2_with fail
          go_ret
          exact ⟨rfl, Below.refl _ _⟩
        · have h4 : 1048576 < a1 := by omega
          clear h
          go_enter Try.func8, Try.ntmps8
          go_wp2_with fail
          go_ret
          exact ⟨rfl, Below.refl _ _⟩
end Go.Proofs.Ytcecnkmhhbncdaa.huffEven
