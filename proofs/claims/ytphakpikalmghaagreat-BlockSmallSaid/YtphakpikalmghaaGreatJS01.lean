/- block: the document's Encode. block, in plain words: data of two unlike bytes, one at every seventh place. The walk of BlockSmall. -/
import Derived.Deep.RegionHeld3
import Derived.Test.YtphakpikalmghaaGreatJ25
namespace Go.Proofs.YtphakpikalmghaaGreat.Ma
open Go Go.RowKit Go.ChangeMaps Go.MapKept Go.Mg Go.Mt Go.Hf Go.Proofs.YtphakpikalmghaaGreat.Hu Go.Proofs.YtphakpikalmghaaGreat.Bw Go.Proofs.YtphakpikalmghaaGreat.He Go.Proofs.YtphakpikalmghaaGreat.Rd Go.Proofs.YtphakpikalmghaaGreat.Sq Go.Proofs.YtphakpikalmghaaGreat.Bk

set_option maxRecDepth 100000 in
set_option maxHeartbeats 4000000 in
theorem encode7_same (w : World) (p d : List UInt8) (ap : Option Addr) (cp : Nat) (ad : Option Addr) (cd : Nat) (hd : SlR w 1 (.slice ad d.length cd) d.length (d.map u8c)) (hl2 : d.length ≤ 500) (depth : Nat) (h : H3) (hsame : Bk.same d = true) :
    Calls Tryz.prog 9 #[.slice ap p.length cp, .slice ad d.length cd, .int .i64 (depth : Nat), hv3 h] w (EncPost7 w (Bk.encB p d depth h).1 (Bk.encB p d depth h).2) := by
  have mixed : Tryz.prog.follows .mixedOrders = true := by kernel_rfl
  obtain ⟨j0, hj0, hy0, hy1, hy2⟩ := info_parts infoU8
  have h0 : 0 < d.length := by
    unfold Bk.same at hsame
    simp only [Bool.and_eq_true, decide_eq_true_eq] at hsame
    exact hsame.1
  have SM := Lib.hid (fun V hV => same7_d V d ad cd (hd.kp hV (fun _ _ q => q)) (by omega))
  rw [hsame] at SM
  obtain ⟨g, o, rfl, hg, hcap, hc⟩ := byts_at hd h0
  have HB : Hid (Bk.encB p d depth h = (two d.length ++ [1, UInt8.ofNat (byt d 0)], h)) := Lib.hid (by
    unfold Bk.encB
    rw [if_pos hsame]
    simp [byt])
  have hc0 := hc 0 h0
  rw [Nat.add_zero] at hc0
  have hy256 := byt_lt d 0
  obtain ⟨y, hy⟩ : ∃ y, y = byt d 0 := ⟨_, rfl⟩
  rw [← hy] at HB hc0 hy256
  have HCC := Lib.hid (fun V (hk : Kp (fun _ => False) w V) => (hk.cell (p := ⟨g, o, none⟩) hg (fun q => q)).trans hc0)
  obtain ⟨r, hr⟩ : ∃ r, r = Bk.encB p d depth h := ⟨_, rfl⟩
  rw [← hr] at HB ⊢
  obtain ⟨n, hn⟩ : ∃ n, n = d.length := ⟨_, rfl⟩
  rw [← hn] at HB SM hl2 h0 ⊢
  obtain ⟨m, hm⟩ : ∃ m, m = p.length := ⟨_, rfl⟩
  rw [← hm]
  have TW := Lib.hid (two7_d n)
  have EY := Lib.hid (u8c_lt hy256)
  have HGL := Lib.hid hg
  clear hsame hd hc hc0 hy hr hn hm hg hcap hy256 hl2
  obtain ⟨ha, hb, hc⟩ := h
  have hhv : ∀ a b c, hv3 ⟨a, b, c⟩ = .agg #[.int .i64 (a : Nat), .int .i64 (b : Nat), .int .i64 (c : Nat)] := fun _ _ _ => rfl
  rw [hhv]
  clear hhv
  go_enter Tryz.func9, Tryz.ntmps9
  go_wp2_with fail
  obtain ⟨W, hW⟩ : ∃ W, W = (w.alloc (.cells #[.int .i64 (ha : Nat), .int .i64 (hb : Nat), .int .i64 (hc : Nat)] 23)).alloc (.cells #[.int .i64 0, .int .i64 0, .int .i64 0] 23) := ⟨_, rfl⟩
  have hws : W.heap.size = w.heap.size + 2 := by rw [hW]; simp
  have hkW : Kp (fun _ => False) w W := by rw [hW]; exact (kp_alloc _ _).trans (kp_alloc _ _)
  have hG0 : HAt W w.heap.size ⟨ha, hb, hc⟩ := by
    rw [hW]; exact (kp_alloc _ _).at_ (alloc_at w _) (fun q => q)
  have hR0 : HAt W (w.heap.size + 1) ⟨0, 0, 0⟩ := by
    rw [hW]; have := alloc_at (w.alloc (.cells #[.int .i64 (ha : Nat), .int .i64 (hb : Nat), .int .i64 (hc : Nat)] 23)) (.cells #[.int .i64 0, .int .i64 0, .int .i64 0] 23)
    rw [World.size_alloc] at this
    exact this
  rw [← hW]
  obtain ⟨G, hG⟩ : ∃ G, G = w.heap.size := ⟨_, rfl⟩
  rw [← hG] at hG0 hR0 ⊢
  have HW := Lib.hid hws
  have HKW := Lib.hid hkW
  have HGE := Lib.hid hG
  have HG := Lib.hid (fun V (hV : Kp (fun _ => False) W V) => And.intro (hG0.kp hV (fun q => q)) (hR0.kp hV (fun q => q)))
  have SMW := Lib.hid (SM.out W hkW)
  clear hW hws hkW hG0 hR0 hG
  refine SMW.out.mono ?_
  rintro e w1 ⟨rfl, q0, hw1⟩
  have K1 : Hid (Kp (fun _ => False) W w1) := Lib.hid (by rw [hw1]; exact (Kp.refl _ _).drewN q0)
  clear hw1 SMW SM
  have HS1 : Hid (G + 2 ≤ w1.heap.size) := Lib.hid (by have := K1.out.size; have := HW.out; have := HGE.out; omega)
  have HCELL : Hid (∀ V, Kp (fun _ => False) w1 V → V.cell? ⟨g, o, none⟩ = some (.int .u8 (y : Nat)) ∧ (V.cell? ⟨G, 0, none⟩ = some (.int .i64 (ha : Nat)) ∧ V.cell? ⟨G, 1, none⟩ = some (.int .i64 (hb : Nat)) ∧ V.cell? ⟨G, 2, none⟩ = some (.int .i64 (hc : Nat))) ∧ HAt V (G + 1) ⟨0, 0, 0⟩) := Lib.hid (fun V hV => ⟨HCC.out V ((HKW.out.trans K1.out).trans hV), (HG.out V (K1.out.trans hV)).1.cells, (HG.out V (K1.out.trans hV)).2⟩)
  obtain ⟨c0, ⟨t0, t1, t2⟩, _⟩ := HCELL.out w1 (Kp.refl _ _)
  have LIT : Hid (∀ V : World, SlR (V.alloc (.cells #[.int .u8 1, .int .u8 (y : Nat)] 5)) 1 (.slice (some ⟨V.heap.size, 0, none⟩) 2 2) 2 ([1, UInt8.ofNat y].map u8c)) := Lib.hid (fun V => by
    have := lit_m V 5 [u8c 1, u8c (UInt8.ofNat y)] (n := 2) rfl (by omega)
    rw [EY.out] at this
    simp only [List.map_cons, List.map_nil, EY.out]
    exact this)
  have hgne : g ≠ G + 1 := by have := HGL.out; have := HGE.out; omega
  have hgne2 : G + 1 ≠ g := fun q => hgne q.symm
  have KE : Hid (Kp (fun _ => False) w1 w1.drew) := Lib.hid (Kp.refl _ _).drew
  have KL : Hid (Kp (fun _ => False) w1 (w1.alloc (.cells #[.int .u8 1, .int .u8 (y : Nat)] 5)).drew) := Lib.hid (kp_alloc _ _).drew
  go_wp2_with fail
  go_region_held3 (fun V => V.cell? ⟨g, o, none⟩ = some (.int .u8 (y : Nat)) ∧ V.cell? ⟨G, 0, none⟩ = some (.int .i64 (ha : Nat)) ∧ V.cell? ⟨G, 1, none⟩ = some (.int .i64 (hb : Nat)) ∧ V.cell? ⟨G, 2, none⟩ = some (.int .i64 (hc : Nat))) (go_keep) ((first
    | (go_simp; go_at_call 22; refine (TW.out _).mono ?_; rintro e V ⟨g9, rfl, _, t9, k9⟩; have KV : Hid (Kp (fun _ => False) w1 V) := Lib.hid (Kp.trans (by first | exact KE.out | exact KL.out) k9); obtain ⟨s0, ⟨s1, s2, s3⟩, _⟩ := HCELL.out _ KV.out; have T9 : Hid (RowB w1.heap.size V (.slice (some ⟨g9, 0, none⟩) 2 2) (two n)) := Lib.hid (t9.low (by first | exact KE.out.size | exact KL.out.size)); (try have Q9 : Hid (SlR V 1 (.slice (some ⟨w1.heap.size, 0, none⟩) 2 2) 2 ([1, UInt8.ofNat y].map u8c)) := Lib.hid (by exact (LIT.out w1).kp ((Kp.refl (fun _ => False) _).drew.trans k9) (fun _ _ q => q))); clear t9 k9)
    | (refine step_appM (w0 := w1) _ (by rfl) (.tmp 23) (.tmp 27) 22 (by rfl) 5 j0 _ 1 Tryz.underlying22 hj0 hy0 hy1 hy2 (by decide) (by decide) (by decide) u8c_1 (.slice (some ⟨g9, 0, none⟩) 2 2) (two n) (by rfl) (by first | exact T9.out | exact T9.out.kp0 (kp_alloc _ _)) _ 2 [1, UInt8.ofNat y] (by rfl) (by first | exact Q9.out | exact LIT.out _) rfl (by first | exact KV.out | exact KV.out.alloc _) 4 rfl (by omega) ?_; intro a6 d6 w6 g1 g2 g3; have R6 := Lib.hid g1; have K6 := Lib.hid g2; obtain ⟨s0, ⟨s1, s2, s3⟩, hr6⟩ := HCELL.out _ g2; obtain ⟨r0, r1, r2⟩ := hr6.cells; have f0 : w6.frozen? ⟨G + 1, 0, none⟩ = false := free_of hr6 0; have f1 : w6.frozen? ⟨G + 1, 1, none⟩ = false := free_of hr6 1; have f2 : w6.frozen? ⟨G + 1, 2, none⟩ = false := free_of hr6 2; have HR6 := Lib.hid hr6; clear g1 g2 g3 hr6)))
  all_goals (go_wp2_with fail)
  all_goals
    obtain ⟨hst, hkst⟩ := HR6.out.store ha hb hc
    obtain ⟨y0, y1, y2⟩ := hst.cells
    have hk9 : Kp (fun _ => False) w _ := ((HKW.out.trans K1.out).trans K6.out).trans2 hkst (fun i hi q => by have := HGE.out; omega)
    have hr9 := RowM.kp R6.out hkst.drew (fun j q => by rw [q]; have := HS1.out; omega)
    have hl9 : (two n ++ [1, UInt8.ofNat y]).length = 4 := rfl
    refine bodyPost_ret (v := .tuple #[.slice a6 4 d6, hv3 ⟨ha, hb, hc⟩]) ?_ rfl ⟨a6, d6, by rw [HB.out]; simp only [hl9], by rw [HB.out]; simp only [hl9]; exact hr9.low (by have := HS1.out; have := HGE.out; omega), (by first | exact hk9 | exact hk9.drew)⟩
    simp [results, Tryz.results9, go_sem, y0, y1, y2, hv3]
theorem encode7_d (w : World) (p d : List UInt8) (ap : Option Addr) (cp : Nat) (hp : SlR w 1 (.slice ap p.length cp) p.length (p.map u8c)) (ad : Option Addr) (cd : Nat) (hd : SlR w 1 (.slice ad d.length cd) d.length (d.map u8c)) (hl1 : p.length ≤ 2000) (hl2 : d.length ≤ 500) (depth : Nat) (hd1 : 1 ≤ depth) (hd2 : depth ≤ 32) (h : H3) :
    Calls Tryz.prog 9 #[.slice ap p.length cp, .slice ad d.length cd, .int .i64 (depth : Nat), hv3 h] w (EncPost7 w (Bk.encB p d depth h).1 (Bk.encB p d depth h).2) := by
  cases e : Bk.same d with
  | true => exact encode7_same w p d ap cp ad cd hd hl2 depth h e
  | false => exact encode7_not w p d ap cp hp ad cd hd hl1 hl2 depth hd1 hd2 h e
end Go.Proofs.YtphakpikalmghaaGreat.Ma
namespace Go.Proofs.YtphakpikalmghaaGreat.Bk
open Go Go.Hf Go.Mt Go.Proofs.YtphakpikalmghaaGreat.Hu Go.Proofs.YtphakpikalmghaaGreat.He Go.Proofs.YtphakpikalmghaaGreat.Rd Go.Proofs.YtphakpikalmghaaGreat.Sq Go.Proofs.YtphakpikalmghaaGreat.Ma Go.Proofs.YtphakpikalmghaaGreat.Bw

def smd (A B : UInt8) (n : Nat) : List UInt8 := (List.range n).map fun i => if i % 7 = 0 then B else A
theorem smd_len (A B : UInt8) (n : Nat) : (smd A B n).length = n := by simp [smd]
theorem smd_at (A B : UInt8) {n i : Nat} (h : i < n) : sym (smd A B n) i = if i % 7 = 0 then B.toNat else A.toNat := by
  unfold sym smd
  simp only [List.getElem?_map, List.getElem?_range h, Option.map_some, Option.getD_some]
  split <;> rfl
theorem ne_nat {A B : UInt8} (h : A ≠ B) : A.toNat ≠ B.toNat := fun q => h (UInt8.toNat_inj.1 q)
/-! ### Its steps -/
section
variable {a : Nat → Nat} {m x y : Nat}
/-- The same for k bytes, then not, or the end. -/
theorem lng_run {j i : Nat} : ∀ k n, (∀ q, q < k → i + n + q < m ∧ a (j + n + q) = a (i + n + q)) → (m ≤ i + n + k ∨ a (j + n + k) ≠ a (i + n + k)) → lng a m j i (m - i - n) n = n + k
  | 0, n, _, he => by
    rcases he with he | he
    · exact lng_end (by omega)
    · exact lng_stop (by simpa using he)
  | k + 1, n, h, he => by
    have h0 := h 0 (by omega)
    rw [lng_step (by omega) (by simpa using h0.2), lng_run k (n + 1) (fun q hq => by
      have := h (q + 1) (by omega)
      rw [show i + (n + 1) + q = i + n + (q + 1) by omega, show j + (n + 1) + q = j + n + (q + 1) by omega]
      exact this) (by
      rw [show i + (n + 1) + k = i + n + (k + 1) by omega, show j + (n + 1) + k = j + n + (k + 1) by omega]
      exact he)]
    omega
theorem long_run {j i : Nat} (k : Nat) (h : ∀ q, q < k → i + q < m ∧ a (j + q) = a (i + q)) (he : m ≤ i + k ∨ a (j + k) ≠ a (i + k)) : long a m j i = k := by
  have := lng_run (a := a) (m := m) (j := j) (i := i) k 0 (by simpa using h) (by simpa using he)
  rw [Nat.zero_add] at this
  exact this
variable (ha : ∀ i, i < m → a i = if i % 7 = 0 then y else x) (hxy : x ≠ y) (hm : 400 ≤ m)
theorem best_0 : best a m 0 8 = (0, 0) := rfl
include ha hxy
theorem long_no {j i : Nat} (hj : j < m) (hi : i < m) (h : (j % 7 = 0) ≠ (i % 7 = 0)) : long a m j i = 0 := by
  refine long_run 0 (fun q hq => by omega) (.inr ?_)
  rw [Nat.add_zero, Nat.add_zero, ha j hj, ha i hi]
  by_cases h1 : j % 7 = 0
  · by_cases h2 : i % 7 = 0
    · exact absurd (by simp [h1, h2]) h
    · rw [if_pos h1, if_neg h2]; exact fun q => hxy q.symm
  · by_cases h2 : i % 7 = 0
    · rw [if_neg h1, if_pos h2]; exact hxy
    · exact absurd (by simp [h1, h2]) h
include hm
theorem best_1 : best a m 1 8 = (0, 0) := by
  have h0 := long_no ha hxy (j := 0) (i := 1) (by omega) (by omega) (by simp)
  unfold best
  rw [bst, h0, if_pos (by omega)]
  rfl
theorem best_2 : best a m 2 8 = (1, 5) := by
  have h0 := long_no ha hxy (j := 0) (i := 2) (by omega) (by omega) (by simp)
  have h1 : long a m 1 2 = 5 := long_run 5 (fun q hq => ⟨by omega, by
    rw [ha (1 + q) (by omega), ha (2 + q) (by omega), if_neg (by omega), if_neg (by omega)]⟩) (.inr (by
    rw [ha 6 (by omega), ha 7 (by omega), if_neg (by omega), if_pos (by omega)]; exact hxy))
  unfold best
  rw [bst, h1, if_neg (by omega), if_pos (by omega), if_neg (by omega), bst, h0, if_pos (by omega)]
  rfl
theorem best_7 : best a m 7 8 = (7, m - 7) := by
  have hn : ∀ j, 0 < j → j < 7 → long a m j 7 = 0 := fun j h1 h2 => long_no ha hxy (by omega) (by omega) (by
    intro q
    have : j % 7 = 0 := by rw [q]
    omega)
  have h0 : long a m 0 7 = m - 7 := long_run (m - 7) (fun q hq => ⟨by omega, by
    rw [ha (0 + q) (by omega), ha (7 + q) (by omega)]
    have : (0 + q) % 7 = (7 + q) % 7 := by omega
    rw [this]⟩) (.inl (by omega))
  unfold best
  rw [bst, hn 6 (by omega) (by omega), if_pos (by omega), bst, hn 5 (by omega) (by omega), if_pos (by omega), bst, hn 4 (by omega) (by omega), if_pos (by omega), bst, hn 3 (by omega) (by omega), if_pos (by omega), bst, hn 2 (by omega) (by omega), if_pos (by omega), bst, hn 1 (by omega) (by omega), if_pos (by omega), bst, h0, if_neg (by omega), if_pos (by omega), if_neg (by omega)]
  rfl
theorem rest_sm : rest a m 8 0 0 = [⟨2, 1, 5⟩, ⟨0, 7, m - 7⟩] := by
  have b0 := best_0 (a := a) (m := m)
  have b1 := best_1 ha hxy hm
  have b2 := best_2 ha hxy hm
  have b7 := best_7 ha hxy hm
  rw [rest_lit (by omega) (by rw [b0]), rest_lit (by omega) (by rw [b1]), rest_hit (by omega) (by rw [b2]; simp), b2]
  simp only
  rw [rest_hit (i := 0 + 1 + 1 + 5) (by omega) (by rw [b7]; simp only; omega), b7]
  simp only
  rw [rest_end (by omega)]
end
theorem steps_sm {A B : UInt8} (h : A ≠ B) {n : Nat} (hn : 400 ≤ n) : stepsB [] (smd A B n) 8 = [⟨2, 1, 5⟩, ⟨0, 7, n - 7⟩] := by
  unfold stepsB
  have hl : ([] ++ smd A B n).length = n := by simp [smd]
  rw [hl]
  exact rest_sm (x := A.toNat) (y := B.toNat) (fun i hi => smd_at A B hi) (ne_nat h) hn
theorem lits_sm {A B : UInt8} (h : A ≠ B) {n : Nat} (hn : 400 ≤ n) : (literals (smd A B n) (stepsB [] (smd A B n) 8)).length ≤ 2 := by
  rw [steps_sm h hn]
  have hl := smd_len A B n
  simp only [literals, lts, sqAt, List.length_cons, List.length_nil, Nat.zero_add, List.length_append, List.length_drop, hl]
  simp
  omega
/-! ### Its lengths -/
theorem isSt_two {L : Nat → Nat} {p q : Nat} (hpq : p < q) (h0 : ∀ i, i ≠ p → i ≠ q → L i = 0) (hp : 1 ≤ L p) (hq : 1 ≤ L q) : ∀ N,
    (N ≤ p → isSt (lensOf N L) = (0, 0, 0)) ∧ (p < N → N ≤ q → isSt (lensOf N L) = (2 ^ (11 - L p), 1, (L p : Int))) ∧ (q < N → isSt (lensOf N L) = (2 ^ (11 - L p) + 2 ^ (11 - L q), 2, (L q : Int)))
  | 0 => ⟨fun _ => rfl, fun h => by omega, fun h => by omega⟩
  | N + 1 => by
    obtain ⟨i1, i2, i3⟩ := isSt_two hpq h0 hp hq N
    rw [lensOf_succ, isSt_snoc]
    unfold isStep
    refine ⟨fun h => ?_, fun h h' => ?_, fun h => ?_⟩
    · rw [i1 (by omega), if_neg (by rw [h0 N (by omega) (by omega)]; omega)]
    · by_cases e : N = p
      · subst e
        rw [i1 (by omega), if_pos (by omega)]
        simp
      · rw [i2 (by omega) (by omega), if_neg (by rw [h0 N e (by omega)]; omega)]
    · by_cases e : N = q
      · subst e
        rw [i2 (by omega) (by omega), if_pos (by omega)]
        simp
      · rw [i3 (by omega), if_neg (by rw [h0 N (by omega) e]; omega)]
theorem two_ones {L : Nat → Nat} {p q : Nat} (hpq : p < q) (hq256 : q < 256) (h0 : ∀ i, i ≠ p → i ≠ q → L i = 0) (hp : 1 ≤ L p) (hq : 1 ≤ L q) (hok : IsOk (lensOf 256 L)) : L p = 1 ∧ L q = 1 := by
  have hs := (isSt_two hpq h0 hp hq 256).2.2 hq256
  obtain ⟨_, _, h⟩ := hok
  rw [hs] at h
  simp only at h
  have h1024 : ∀ x, 1 ≤ x → 2 ^ (11 - x) ≤ 1024 := fun x hx => by
    have : 2 ^ (11 - x) ≤ 2 ^ 10 := Nat.pow_le_pow_right (by omega) (by omega)
    exact this
  have h512 : ∀ x, 2 ≤ x → 2 ^ (11 - x) ≤ 512 := fun x hx => by
    have : 2 ^ (11 - x) ≤ 2 ^ 9 := Nat.pow_le_pow_right (by omega) (by omega)
    exact this
  have a1 := h1024 _ hp
  have a2 := h1024 _ hq
  rcases h with h | h
  · omega
  · refine ⟨?_, ?_⟩
    · apply Decidable.byContradiction; intro e
      have := h512 (L p) (by omega); omega
    · apply Decidable.byContradiction; intro e
      have := h512 (L q) (by omega); omega
theorem cnt_no {l : List UInt8} {s : Nat} : ∀ {k}, (∀ j, j < k → sym l j ≠ s) → cnt l k s = 0
  | 0, _ => rfl
  | k + 1, h => by
    simp only [cnt]
    rw [cnt_no (fun j hj => h j (by omega)), if_neg (fun q => h k (by omega) q.symm)]
theorem lens_sm {A B : UInt8} (h : A ≠ B) {n : Nat} (hn : 400 ≤ n) {L : Nat → Nat} (hL : IsLens (cts (smd A B n)) L) : L A.toNat = 1 ∧ L B.toNat = 1 := by
  have hok := (enc_ok (l := smd A B n) (by rw [smd_len]; omega) hL).1
  have hne := ne_nat h
  have hA := A.toNat_lt
  have hB := B.toNat_lt
  have hcnt : ∀ i, i < 256 → (0 < L i ↔ 0 < cnt (smd A B n) n i) := fun i hi => by
    rw [hL.pos i]
    constructor
    · rintro ⟨_, q⟩
      simp only [cts, List.getElem_map, List.getElem_range, smd_len] at q
      exact q
    · intro q
      refine ⟨by rw [cts_len]; exact hi, ?_⟩
      simp only [cts, List.getElem_map, List.getElem_range, smd_len]
      exact q
  have hz : ∀ i, i ≠ A.toNat → i ≠ B.toNat → L i = 0 := fun i h1 h2 => by
    by_cases hi : i < 256
    · have := (not_congr (hcnt i hi)).2 (by
        rw [cnt_no (fun j hj q => ?_)]
        · omega
        · rw [smd_at A B hj] at q
          split at q <;> omega)
      omega
    · have := (not_congr (hL.pos i)).2 (fun ⟨q, _⟩ => by rw [cts_len] at q; omega)
      omega
  have pB : 1 ≤ L B.toNat := (hcnt _ hB).2 (by
    have := cnt_pos (smd A B n) (j := 0) (k := n) (by omega)
    rw [smd_at A B (by omega), if_pos (by omega)] at this
    exact this)
  have pA : 1 ≤ L A.toNat := (hcnt _ hA).2 (by
    have := cnt_pos (smd A B n) (j := 1) (k := n) (by omega)
    rw [smd_at A B (by omega), if_neg (by omega)] at this
    exact this)
  rcases Nat.lt_or_gt_of_ne hne with hlt | hlt
  · exact two_ones hlt hB hz pA pB hok
  · exact (two_ones hlt hA (fun i h1 h2 => hz i h2 h1) pB pA hok).symm
theorem bt_sm {A B : UInt8} (h : A ≠ B) {n : Nat} (hn : 400 ≤ n) {L : Nat → Nat} (hL : IsLens (cts (smd A B n)) L) : ∀ j, j ≤ n → (bt (lensOf 256 L) (smd A B n) j).length = j
  | 0, _ => rfl
  | j + 1, hj => by
    obtain ⟨h1, h2⟩ := lens_sm h hn hL
    simp only [bt, List.length_append, bt_sm h hn hL j (by omega), cb, bitsOf_len]
    rw [lf_lens 256 L (sym_lt _ _), smd_len, smd_at A B (show n - 1 - j < n by omega)]
    split
    · rw [h2]; rfl
    · rw [h1]; rfl
theorem same_sm {A B : UInt8} (h : A ≠ B) {n : Nat} (hn : 400 ≤ n) : Bk.same (smd A B n) = false := by
  refine same_no (i := 1) (by rw [smd_len]; omega) ?_
  rw [smd_at A B (by omega), smd_at A B (by omega), if_neg (by omega), if_pos (by omega)]
  exact ne_nat h
theorem bt_zero (l : List UInt8) : ∀ j, (bt (lensOf 256 (fun _ => 0)) l j).length = 0
  | 0 => rfl
  | j + 1 => by
    simp only [bt, List.length_append, bt_zero l j, cb, bitsOf_len]
    rw [lf_lens 256 _ (sym_lt _ _)]
    rfl
theorem row_sm {A B : UInt8} (h : A ≠ B) {n : Nat} (hn : 400 ≤ n) : (Bk.rowB (smd A B n)).length < n := by
  have hl := smd_len A B n
  have hcl := coded_len (smd A B n)
  have hc : (codesB (smd A B n)).length ≤ n / 8 + 1 := by
    by_cases hL : ∃ L, IsLens (cts (smd A B n)) L
    · obtain ⟨L, hL⟩ := hL
      rw [(codes_le (b := smd A B n) (by rw [hl]; omega) hL).1, pack_len, hl, bt_sm h hn hL n (Nat.le_refl _)]
      omega
    · unfold codesB lensB
      rw [if_neg (by rw [hl]; omega), dif_neg hL, pack_len, bt_zero]
      omega
  rw [row_not (same_sm h hn), if_pos (by rw [hcl, hl]; omega)]
  simp only [List.length_append, two, List.length_cons, List.length_nil]
  omega
/-! ### Its block -/
theorem enc_sm {A B : UInt8} (h : A ≠ B) {n : Nat} (hn : 400 ≤ n) (hn2 : n ≤ 500) (h3 : H3) : (Bk.encB [] (smd A B n) 8 h3).1.length < n := by
  have hl := smd_len A B n
  have h1 := lits_sm h hn
  have h2 := rowB7_len (literals (smd A B n) (stepsB [] (smd A B n) 8))
  have hb : (bodyB [] (smd A B n) 8 h3).length ≤ 250 := by
    unfold bodyB
    rw [List.length_append]
    have hk : (stepsB [] (smd A B n) 8).length = 2 := by rw [steps_sm h hn]; rfl
    have hp : (packB (stepsB [] (smd A B n) 8) h3).length ≤ 240 := by
      have hmay := (steps_may [] (smd A B n) 8 (by simp) (by rw [hl]; exact hn2)).1
      unfold packB
      rw [if_neg (by rw [hk]; omega), hk]
      have q1 := exB_len hmay h3 2
      have q2 := pack_len (exB (stepsB [] (smd A B n) 8) h3 2)
      have p1 := packO_le (v := lit (stepsB [] (smd A B n) 8)) (n := 2)
      have p2 := packO_le (v := off (stepsB [] (smd A B n) 8) h3) (n := 2)
      have p3 := packO_le (v := mor (stepsB [] (smd A B n) 8)) (n := 2)
      simp only [List.length_append, rowB_len, sized, two, List.length_cons, List.length_nil]
      omega
    omega
  unfold Bk.encB
  rw [if_neg (by rw [same_sm h hn]; decide), if_pos (by rw [hl]; omega)]
  simp only [List.length_append, two, List.length_cons, List.length_nil]
  omega
end Go.Proofs.YtphakpikalmghaaGreat.Bk
namespace Go.Proofs.YtphakpikalmghaaGreat.blockSmall
open Go Go.RowKit Go.ChangeMaps Go.MapKept Go.Mg Go.Mt Go.Hf Go.Proofs.YtphakpikalmghaaGreat.Hu Go.Proofs.YtphakpikalmghaaGreat.Bw Go.Proofs.YtphakpikalmghaaGreat.He Go.Proofs.YtphakpikalmghaaGreat.Rd Go.Proofs.YtphakpikalmghaaGreat.Sq Go.Proofs.YtphakpikalmghaaGreat.Bk Go.Proofs.YtphakpikalmghaaGreat.Ma Go.Proofs.YtphakpikalmghaaGreat.Op

set_option maxRecDepth 100000 in
set_option maxHeartbeats 1000000 in
theorem first_c (w : World) (d : List UInt8) (ad : Option Addr) (cd : Nat) (hd : SlR w 1 (.slice ad d.length cd) d.length (d.map u8c)) (hl : d.length ≤ 500) :
    Calls Tryz.prog 12 #[.slice ad d.length cd] w fun e w' => ∃ a c, e = .returned (.slice a (Bk.encB [] d 8 ⟨1, 4, 8⟩).1.length c) ∧ RowB w.heap.size w' (.slice a (Bk.encB [] d 8 ⟨1, 4, 8⟩).1.length c) (Bk.encB [] d 8 ⟨1, 4, 8⟩).1 ∧ Kp (fun _ => False) w w' := by
  have EN := encode7_d w [] d none 0 (SlR.nil w 1) ad cd hd (by simp) hl 8 (by omega) (by omega) ⟨1, 4, 8⟩
  unfold EncPost7 at EN
  obtain ⟨R, hR⟩ : ∃ R, R = (Bk.encB [] d 8 ⟨1, 4, 8⟩).1 := ⟨_, rfl⟩
  obtain ⟨h9, hh9⟩ : ∃ h9, h9 = (Bk.encB [] d 8 ⟨1, 4, 8⟩).2 := ⟨_, rfl⟩
  rw [← hR, ← hh9] at EN
  rw [← hR]
  have ehv : hv3 ⟨1, 4, 8⟩ = .agg #[.int .i64 1, .int .i64 4, .int .i64 8] := rfl
  rw [ehv] at EN
  unfold hv3 at EN
  obtain ⟨n, hn⟩ : ∃ n, n = d.length := ⟨_, rfl⟩
  rw [← hn] at EN ⊢
  have EH : Hid (Calls Tryz.prog 9 #[.slice none 0 0, .slice ad n cd, .int .i64 8, .agg #[.int .i64 1, .int .i64 4, .int .i64 8]] w _) := Lib.hid EN
  clear hd EN hR hh9 hn ehv
  go_enter Tryz.func12, Tryz.ntmps12
  go_wp2_with fail
  refine EH.out.mono ?_
  rintro e w1 ⟨a1, c1, rfl, r1, k1⟩
  have R1 := Lib.hid r1
  have K1 := Lib.hid k1
  have KA := Lib.hid (kp_alloc w1 (.cells #[.int .i64 (h9.a : Nat), .int .i64 (h9.b : Nat), .int .i64 (h9.c : Nat)] 23))
  clear r1 k1
  go_wp2_with fail
  go_ret
  exact ⟨a1, c1, rfl, R1.out.kp0 KA.out, K1.out.trans KA.out⟩
/-- The first k bytes. -/
def sf (A B k : Nat) : Nat → Nat := fun i => if i < k then (if i % 7 = 0 then B else A) else 0
theorem sf_a (A B k : Nat) (h : ¬ k % 7 = 0) : (fun j => if j = k then A else sf A B k j) = sf A B (k + 1) := by
  funext j
  unfold sf
  by_cases e : j = k
  · subst e; rw [if_pos rfl, if_pos (by omega), if_neg h]
  · rw [if_neg e]
    by_cases q : j < k
    · simp only [if_pos q, if_pos (show j < k + 1 by omega)]
    · simp only [if_neg q, if_neg (show ¬ j < k + 1 by omega)]
theorem sf_b (A B k : Nat) (h : k % 7 = 0) : (fun j => if j = k then B else (fun j => if j = k then A else sf A B k j) j) = sf A B (k + 1) := by
  funext j
  unfold sf
  by_cases e : j = k
  · subst e; rw [if_pos rfl, if_pos (by omega), if_pos h]
  · rw [if_neg e]
    simp only [if_neg e]
    by_cases q : j < k
    · simp only [if_pos q, if_pos (show j < k + 1 by omega)]
    · simp only [if_neg q, if_neg (show ¬ j < k + 1 by omega)]
theorem sf_row {w : World} {g n : Nat} {A B : UInt8} (h : UAt w g n (sf A.toNat B.toNat n)) (hn : n ≤ 1000) : SlR w 1 (.slice (some ⟨g, 0, none⟩) n n) n ((smd A B n).map u8c) := by
  have := h.sl (by omega)
  have e : ((List.range n).map fun i => Value.int .u8 (sf A.toNat B.toNat n i : Nat)) = (smd A B n).map u8c := by
    unfold smd
    rw [List.map_map]
    apply List.map_congr_left
    intro i hi
    have hi := List.mem_range.1 hi
    simp only [sf, if_pos hi, Function.comp, u8c]
    split <;> rfl
  rw [e] at this
  exact this
set_option maxRecDepth 100000 in
set_option maxHeartbeats 2000000 in
theorem full (w : World) (n : Nat) (A B : UInt8) (h1 : 400 ≤ n) (h2 : n ≤ 500) (h : A ≠ B) :
    Calls Tryz.prog 4 #[.int .i64 (n : Nat), .int .u8 (A.toNat : Nat), .int .u8 (B.toNat : Nat)] w (LawPost w) := by
  have hl := smd_len A B n
  have EP := Lib.hid (fun V g (hu : UAt V g n (sf A.toNat B.toNat n)) => encP_p V [] (smd A B n) none 0 (SlR.nil V 1) (some ⟨g, 0, none⟩) n (by rw [hl]; exact sf_row hu (by omega)) (by simp) (by rw [hl]; exact h2) 8 (by omega) (by omega) ⟨1, 4, 8⟩)
  have RP := Lib.hid (fun V g (hu : UAt V g n (sf A.toNat B.toNat n)) => rowP_p V (smd A B n) (some ⟨g, 0, none⟩) n (by rw [hl]; exact sf_row hu (by omega)) (by rw [hl]; omega))
  have FP := Lib.hid (fun V g (hu : UAt V g n (sf A.toNat B.toNat n)) => first_c V (smd A B n) (some ⟨g, 0, none⟩) n (by rw [hl]; exact sf_row hu (by omega)) (by rw [hl]; exact h2))
  have h5 := enc_sm h h1 h2 ⟨1, 4, 8⟩
  have h6 := row_sm h h1
  rw [hl] at EP RP FP
  have ehv : hv3 ⟨1, 4, 8⟩ = .agg #[.int .i64 1, .int .i64 4, .int .i64 8] := rfl
  rw [ehv] at EP
  unfold EncPost7 at EP
  unfold RowPost7 at RP
  obtain ⟨R, hR⟩ : ∃ R, R = (Bk.encB [] (smd A B n) 8 ⟨1, 4, 8⟩).1 := ⟨_, rfl⟩
  obtain ⟨h9, hh9⟩ : ∃ h9, h9 = (Bk.encB [] (smd A B n) 8 ⟨1, 4, 8⟩).2 := ⟨_, rfl⟩
  obtain ⟨Q, hQ⟩ : ∃ Q, Q = Bk.rowB (smd A B n) := ⟨_, rfl⟩
  rw [← hR] at EP FP h5
  rw [← hh9] at EP
  rw [← hQ] at RP h6
  obtain ⟨nr, hnr⟩ : ∃ nr, nr = R.length := ⟨_, rfl⟩
  obtain ⟨nq, hnq⟩ : ∃ nq, nq = Q.length := ⟨_, rfl⟩
  rw [← hnr] at EP FP h5
  rw [← hnq] at RP h6
  have HNR := Lib.hid hnr
  unfold hv3 at EP
  have b0 : decide (n < 400) = false := decide_eq_false (by omega)
  have b0' : decide ((n : Int) < 400) = false := decide_eq_false (by omega)
  have b1 : decide (500 < n) = false := decide_eq_false (by omega)
  have b1' : decide ((500 : Int) < (n : Int)) = false := decide_eq_false (by omega)
  have hne := ne_nat h
  have hA := A.toNat_lt
  have hB := B.toNat_lt
  obtain ⟨x, hx⟩ : ∃ x, x = A.toNat := ⟨_, rfl⟩
  obtain ⟨y, hy⟩ : ∃ y, y = B.toNat := ⟨_, rfl⟩
  rw [← hx] at EP RP FP hne hA ⊢
  rw [← hy] at EP RP FP hne hB ⊢
  have b2 : ((x : Int) == (y : Int)) = false := by rw [beq_eq_false_iff_ne]; omega
  have b3 : decide (nr < n) = true := decide_eq_true h5
  have b3' : decide ((nr : Int) < (n : Int)) = true := decide_eq_true (by omega)
  have b4 : decide (nq < n) = true := decide_eq_true h6
  have b4' : decide ((nq : Int) < (n : Int)) = true := decide_eq_true (by omega)
  obtain ⟨cur, hcur, hmk⟩ := make_u8 w n (by omega)
  have U0 : Hid (UAt (w.alloc (.cells cur 5)) w.heap.size n (sf x y 0)) := Lib.hid (by
    have := UAt.made (w := w) hcur
    have e : (fun _ => 0) = sf x y 0 := by funext i; simp [sf]
    rw [e] at this
    exact this)
  have K0 := Lib.hid (kp_alloc w (.cells cur 5))
  have HSA := Lib.hid (sf_a x y)
  have HSB := Lib.hid (sf_b x y)
  clear hR hh9 hQ hnr hnq hx hy h hl ehv hcur hne h5 h6
  go_enter Tryz.func4, Tryz.ntmps4
  go_wp2_with fail
  generalize hW : w.alloc (.cells cur 5) = W at U0 K0 ⊢
  clear hmk hW
  obtain ⟨G, hG⟩ : ∃ G, G = w.heap.size := ⟨_, rfl⟩
  rw [← hG] at U0 ⊢
  have HG := Lib.hid hG
  clear hG
  go_loopw [8] (fun i wr => ∃ k : Nat, k ≤ n ∧ i = .int .i64 k ∧ UAt wr G n (sf x y k) ∧ Kp (fun _ => False) w wr) (fun i _ => n - (intOf i).toNat)
  case atStart => exact ⟨0, Nat.zero_le _, rfl, U0.out, K0.out⟩
  case round =>
    clear U0 K0
    obtain ⟨k, hk, rfl, hu, hkp⟩ := hrel
    have HK := Lib.hid hkp
    have HU := Lib.hid hu
    by_cases hlt : k < n
    · have c1 := hu.cell hlt
      have f1 : wr.frozen? ⟨G, k, none⟩ = false := free_of hu k
      have hs1 := hu.set hlt x
      have hk1 : Kp (fun _ => False) w (wr.setCell ⟨G, k, none⟩ (.int .u8 (x : Nat))) := hkp.setCell (p := ⟨G, k, none⟩) (fun q => by have := HG.out; simp only at q; omega) _
      obtain ⟨y0, hy0⟩ : ∃ y0, y0 = sf x y k k := ⟨_, rfl⟩
      rw [← hy0] at c1
      by_cases h7 : k % 7 = 0
      · have c2 := hs1.cell hlt
        simp only [if_pos] at c2
        have f2 : (wr.setCell ⟨G, k, none⟩ (.int .u8 (x : Nat))).frozen? ⟨G, k, none⟩ = false := free_of hs1 k
        have hs2 := hs1.set hlt y
        rw [HSB.out k h7] at hs2
        have hk2 : Kp (fun _ => False) w ((wr.setCell ⟨G, k, none⟩ (.int .u8 (x : Nat))).setCell ⟨G, k, none⟩ (.int .u8 (y : Nat))) := hk1.setCell (p := ⟨G, k, none⟩) (fun q => by have := HG.out; simp only at q; omega) _
        have q5 : (k : Int).tmod 7 = 0 := by rw [Int.tmod_eq_emod_of_nonneg (by omega)]; omega
        have q6 : (k : Int) % 7 = 0 := by omega
        have HS2 := Lib.hid hs2
        have HK2 := Lib.hid hk2
        clear hs1 hk1 hs2 hk2 hu hkp hy0
        go_wp2_with fail
        exact ⟨⟨k + 1, by omega, by go_num, HS2.out, HK2.out⟩, by simp [intOf]; try omega⟩
      · rw [HSA.out k h7] at hs1
        have q6 : ((k : Int) % 7 == 0) = false := by rw [beq_eq_false_iff_ne]; omega
        have q5 : ((k : Int).tmod 7 == 0) = false := by rw [Int.tmod_eq_emod_of_nonneg (by omega)]; exact q6
        have HS2 := Lib.hid hs1
        have HK2 := Lib.hid hk1
        clear hs1 hk1 hu hkp hy0
        go_wp2_with fail
        exact ⟨⟨k + 1, by omega, by go_num, HS2.out, HK2.out⟩, by simp [intOf]; try omega⟩
    · obtain rfl : k = n := by omega
      have EPW := Lib.hid (EP.out wr G hu)
      have HU2 := Lib.hid (fun V (hV : Kp (fun _ => False) wr V) => hu.kp hV (fun q => q))
      clear hu hkp hlt hk HSA HSB
      go_wp2_with fail
      refine EPW.out.mono ?_
      rintro e w1 ⟨a1, c1, rfl, r1, k1⟩
      have k2 := kp_alloc w1 (.cells #[.int .i64 (h9.a : Nat), .int .i64 (h9.b : Nat), .int .i64 (h9.c : Nat)] 23)
      obtain ⟨w2, hw2⟩ : ∃ w2, w2 = w1.alloc (.cells #[.int .i64 (h9.a : Nat), .int .i64 (h9.b : Nat), .int .i64 (h9.c : Nat)] 23) := ⟨_, rfl⟩
      rw [← hw2] at k2
      have hfold := hw2.symm
      have VS : Hid (∀ V, Kp (fun _ => False) w2 V → (convert 22 9 (.slice a1 nr c1)).run Tryz.prog V = .ok (.string ⟨R.toArray⟩) V) := Lib.hid (fun V hV => by
        have := ((r1.kp0 k2).kp0 hV).sl.1
        rw [← HNR.out] at this
        have e : SlR V 1 (.slice a1 nr c1) R.length (R.map u8c) := by rw [← HNR.out]; exact this
        exact strOf e)
      have K2 := Lib.hid (HK.out.trans (k1.trans k2))
      have J2 := Lib.hid (k1.trans k2)
      have v1 := VS.out w2 (Kp.refl _ _)
      clear r1 k1 k2 hw2 EPW EP HU
      go_wp2_with fail
      have RPW := Lib.hid (fun V hV => RP.out V G (HU2.out V hV))
      have FPW := Lib.hid (fun V hV => FP.out V G (HU2.out V hV))
      clear hfold
      have v1 := VS.out w2.drew (Kp.refl _ _).drew
      have mixed : Tryz.prog.follows .mixedOrders = true := by kernel_rfl
      have hS0 := v1
      refine wp_region_held_drew (S := fun V' => (convert 22 9 (.slice a1 nr c1)).run Tryz.prog V' = .ok (.string ⟨R.toArray⟩) V') mixed v1 (fun _ => ?_)
      refine wpAnyH_take (i := 0) (v := ?_) rfl (by kernel_rfl) (by kernel_rfl) (by kernel_rfl) (fun _ _ _ h => h) (Or.inl ⟨by rfl, ?_⟩) hS0 ?_
      rotate_left 1
      · intro w' hSw
        go_simp
        first | done | with_reducible rfl
      simp only [Act.put, List.setIfInBounds_toArray]
      refine wpAnyH_take (i := 1) (v := ?_) rfl (by kernel_rfl) (by kernel_rfl) (by kernel_rfl) (fun _ _ _ h => h) (Or.inl ⟨by rfl, ?_⟩) hS0 ?_
      rotate_left 1
      · intro w' hSw
        go_simp
        first | done | with_reducible rfl
      simp only [Act.put]
      refine wpAnyH_take (i := 2) (v := ?_) rfl (by kernel_rfl) (by kernel_rfl) (by kernel_rfl) (fun _ _ _ h => h) (Or.inl ⟨by rfl, ?_⟩) hS0 ?_
      rotate_left 1
      · intro w' hSw
        go_simp
        first | done | with_reducible rfl
      simp only [Act.put]
      refine wpAnyH_take (i := 3) (v := ?_) rfl (by kernel_rfl) (by kernel_rfl) (by kernel_rfl) (fun _ _ _ h => h) (Or.inl ⟨by rfl, ?_⟩) hS0 ?_
      rotate_left 1
      · intro w' hSw
        go_simp
        first | done | with_reducible rfl
      simp only [Act.put]
      refine wpAnyH_take (i := 4) (v := ?_) rfl (by kernel_rfl) (by kernel_rfl) (by kernel_rfl) (fun _ _ _ h => h) (Or.inl ⟨by rfl, ?_⟩) hS0 ?_
      rotate_left 1
      · intro w' hSw
        go_simp
        first | done | with_reducible rfl
      simp only [Act.put]
      refine wpAnyH_take (i := 5) (v := ?_) rfl (by kernel_rfl) (by kernel_rfl) (by kernel_rfl) (fun _ _ _ h => h) (Or.inl ⟨by rfl, ?_⟩) hS0 ?_
      rotate_left 1
      · intro w' hSw
        go_simp
        first | done | with_reducible rfl
      simp only [Act.put]
      refine wpAnyH_take (i := 8) (v := ?_) rfl (by kernel_rfl) (by kernel_rfl) (by kernel_rfl) (fun _ _ _ h => h) (Or.inl ⟨by rfl, ?_⟩) hS0 ?_
      rotate_left 1
      · intro w' hSw
        go_simp
        first | done | with_reducible rfl
      simp only [Act.put]
      refine wpAnyH_ready (rs := [6]) (by kernel_rfl) (by simp) ?_
      refine AllReadyH.cons rfl (fun K hK => ?_) AllReadyH.nil
      go_simp
      refine (RPW.out _ (J2.out.drew)).mono ?_
      rintro e w3 ⟨a3, c3, rfl, r3, k3⟩
      have K3 : Hid (Kp (fun _ => False) w2 w3) := Lib.hid ((Kp.refl (fun _ => False) w2).drew.trans k3)
      clear hS0 v1
      have hS0 := VS.out w3 K3.out
      clear r3 k3
      go_simp
      refine hK.out _ _ hS0 (fun _ => ?_)
      clear hK
      refine wpAnyH_take (i := 7) (v := ?_) rfl (by kernel_rfl) (by kernel_rfl) (by kernel_rfl) (fun _ _ _ h => h) (Or.inl ⟨by rfl, ?_⟩) hS0 ?_
      rotate_left 1
      · intro w' hSw
        go_simp
        first | done | with_reducible rfl
      simp only [Act.put]
      refine wpAnyH_take (i := 9) (v := ?_) rfl (by kernel_rfl) (by kernel_rfl) (by kernel_rfl) (fun _ _ _ h => h) (Or.inl ⟨by rfl, ?_⟩) hS0 ?_
      rotate_left 1
      · intro w' hSw
        go_simp
        first | done | with_reducible rfl
      simp only [Act.put]
      refine wpAnyH_take (i := 10) (v := ?_) rfl (by kernel_rfl) (by kernel_rfl) (by kernel_rfl) (fun _ _ _ h => h) (Or.inl ⟨by rfl, ?_⟩) hS0 ?_
      rotate_left 1
      · intro w' hSw
        go_simp
        first | done | with_reducible rfl
      simp only [Act.put]
      refine wpAnyH_take (i := 11) (v := ?_) rfl (by kernel_rfl) (by kernel_rfl) (by kernel_rfl) (fun _ _ _ h => h) (Or.inl ⟨by rfl, ?_⟩) hS0 ?_
      rotate_left 1
      · intro w' hSw
        go_simp
        first | done | with_reducible rfl
      simp only [Act.put]
      refine wpAnyH_take (i := 12) (v := ?_) rfl (by kernel_rfl) (by kernel_rfl) (by kernel_rfl) (fun _ _ _ h => h) (Or.inl ⟨by rfl, ?_⟩) hS0 ?_
      rotate_left 1
      · intro w' hSw
        go_simp
        first | done | with_reducible rfl
      simp only [Act.put]
      refine wpAnyH_take (i := 13) (v := ?_) rfl (by kernel_rfl) (by kernel_rfl) (by kernel_rfl) (fun _ _ _ h => h) (Or.inl ⟨by rfl, ?_⟩) hS0 ?_
      rotate_left 1
      · intro w' hSw
        go_simp
        first | done | with_reducible rfl
      simp only [Act.put]
      refine wpAnyH_take (i := 14) (v := ?_) rfl (by kernel_rfl) (by kernel_rfl) (by kernel_rfl) (fun _ _ _ h => h) (Or.inl ⟨by rfl, ?_⟩) hS0 ?_
      rotate_left 1
      · intro w' hSw
        go_simp
        first | done | with_reducible rfl
      simp only [Act.put]
      refine wpAnyH_ready (rs := [15]) (by kernel_rfl) (by simp) ?_
      refine AllReadyH.cons rfl (fun K hK => ?_) AllReadyH.nil
      go_simp
      refine (FPW.out _ (J2.out.trans K3.out)).mono ?_
      rintro e w4 ⟨a4, c4, rfl, r4, k4⟩
      have K4 : Hid (Kp (fun _ => False) w2 w4) := Lib.hid (K3.out.trans k4)
      clear hS0
      have hS0 := VS.out w4 K4.out
      have r4s := r4.sl.1
      have v5 : (convert 22 9 (.slice a4 nr c4)).run Tryz.prog w4 = .ok (.string ⟨R.toArray⟩) w4 := by
        refine strOf ?_
        rw [← HNR.out] at r4s ⊢
        exact r4s
      clear r4 k4 r4s
      go_simp
      refine hK.out _ _ hS0 (fun _ => ?_)
      clear hK
      refine wpAnyH_ready (rs := [16]) (by kernel_rfl) (by simp) ?_
      refine AllReadyH.cons rfl (fun K hK => ?_) AllReadyH.nil
      go_simp
      refine hK.out _ _ hS0 (fun _ => ?_)
      clear hK v5
      refine wpAnyH_take (i := 17) (v := ?_) rfl (by kernel_rfl) (by kernel_rfl) (by kernel_rfl) (fun _ _ _ h => h) (Or.inl ⟨by rfl, ?_⟩) hS0 ?_
      rotate_left 1
      · intro w' hSw
        go_simp
        first | done | with_reducible rfl
      simp only [Act.put]
      refine wpAnyH_take (i := 18) (v := ?_) rfl (by kernel_rfl) (by kernel_rfl) (by kernel_rfl) (fun _ _ _ h => h) (Or.inl ⟨by rfl, ?_⟩) hS0 ?_
      rotate_left 1
      · intro w' hSw
        go_simp
        first | done | with_reducible rfl
      simp only [Act.put]
      refine wpAnyH_take (i := 19) (v := ?_) rfl (by kernel_rfl) (by kernel_rfl) (by kernel_rfl) (fun _ _ _ h => h) (Or.inl ⟨by rfl, ?_⟩) hS0 ?_
      rotate_left 1
      · intro w' hSw
        go_simp
        first | done | with_reducible rfl
      simp only [Act.put]
      refine wpAnyH_ready (rs := [20]) (by kernel_rfl) (by simp) ?_
      refine AllReadyH.cons rfl (fun K hK => ?_) AllReadyH.nil
      go_simp
      refine (known7_c _).mono ?_
      rintro e w5 ⟨rfl, k5⟩
      have K5 : Hid (Kp (fun _ => False) w2 w5) := Lib.hid (K4.out.trans k5)
      clear hS0
      have hS0 := VS.out w5 K5.out
      clear k5
      go_simp
      refine hK.out _ _ hS0 (fun _ => ?_)
      clear hK
      refine wpAnyH_take (i := 21) (v := ?_) rfl (by kernel_rfl) (by kernel_rfl) (by kernel_rfl) (fun _ _ _ h => h) (Or.inl ⟨by rfl, ?_⟩) hS0 ?_
      rotate_left 1
      · intro w' hSw
        go_simp
        first | done | with_reducible rfl
      simp only [Act.put]
      refine wpAnyH_take (i := 22) (v := ?_) rfl (by kernel_rfl) (by kernel_rfl) (by kernel_rfl) (fun _ _ _ h => h) (Or.inl ⟨by rfl, ?_⟩) hS0 ?_
      rotate_left 1
      · intro w' hSw
        go_simp
        first | done | with_reducible rfl
      simp only [Act.put]
      refine wpAnyH_done (by kernel_rfl) ?_ _
      go_wp2_with fail
      go_ret
      exact ⟨rfl, (K2.out.trans K5.out).below⟩
set_option maxRecDepth 100000 in
set_option maxHeartbeats 1000000 in
theorem walk (a0 : Int) (_ : (Lit.int .i64 a0).wf = true) (a1 : Int) (w1 : (Lit.int .u8 a1).wf = true) (a2 : Int) (w2 : (Lit.int .u8 a2).wf = true) (w : World) :
    Calls Tryz.prog 4 #[.int .i64 a0, .int .u8 a1, .int .u8 a2] w (LawPost w) := by
  have hw1 : 0 ≤ a1 ∧ a1 < 256 := by simp [Lit.wf, IntKind.min, IntKind.max, IntKind.signed, IntKind.bits] at w1; omega
  have hw2 : 0 ≤ a2 ∧ a2 < 256 := by simp [Lit.wf, IntKind.min, IntKind.max, IntKind.signed, IntKind.bits] at w2; omega
  by_cases h0 : 400 ≤ a0
  · have b0 : decide (a0 < 400) = false := decide_eq_false (by omega)
    by_cases h1 : a0 ≤ 500
    · have b1 : decide (500 < a0) = false := decide_eq_false (by omega)
      by_cases h2 : a1 = a2
      · subst h2
        clear w1 w2 hw1 hw2 h0 h1
        go_enter Tryz.func4, Tryz.ntmps4
        go_wp2_with fail
        go_ret
        exact ⟨rfl, Below.refl _ _⟩
      · obtain ⟨n, rfl⟩ : ∃ n : Nat, a0 = (n : Nat) := ⟨a0.toNat, by omega⟩
        have e1 : a1 = ((UInt8.ofNat a1.toNat).toNat : Nat) := by rw [UInt8.toNat_ofNat']; omega
        have e2 : a2 = ((UInt8.ofNat a2.toNat).toNat : Nat) := by rw [UInt8.toNat_ofNat']; omega
        rw [e1, e2]
        exact full w n _ _ (by omega) (by omega) (fun q => h2 (by rw [e1, e2, q]))
    · have b1 : decide (500 < a0) = true := decide_eq_true (by omega)
      clear w1 w2 hw1 hw2 h0 h1
      go_enter Tryz.func4, Tryz.ntmps4
      go_wp2_with fail
      go_ret
      exact ⟨rfl, Below.refl _ _⟩
  · have b0 : decide (a0 < 400) = true := decide_eq_true (by omega)
    clear w1 w2 hw1 hw2 h0
    go_enter Tryz.func4, Tryz.ntmps4
    go_wp2_with fail
    go_ret
    exact ⟨rfl, Below.refl _ _⟩
end Go.Proofs.YtphakpikalmghaaGreat.blockSmall
