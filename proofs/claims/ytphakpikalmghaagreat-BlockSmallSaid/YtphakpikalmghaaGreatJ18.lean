/- block: the document's same, two, Row. block: the document's Row of bytes that are all the same. (Printed by gen/mkBkB.py.) block: the program's isRun. The document's Encode. -/
import Derived.Test.YtphakpikalmghaaGreatJ17
namespace Go.Proofs.YtphakpikalmghaaGreat.Ma
open Go Go.RowKit Go.ChangeMaps Go.MapKept Go.Mg Go.Mt Go.Hf Go.Proofs.YtphakpikalmghaaGreat.Hu Go.Proofs.YtphakpikalmghaaGreat.Bw Go.Proofs.YtphakpikalmghaaGreat.He Go.Proofs.YtphakpikalmghaaGreat.Sq Go.Proofs.YtphakpikalmghaaGreat.Bk

theorem byt_sym (l : List UInt8) : byt l = sym l := rfl
theorem same_yes {b : List UInt8} (h0 : 0 < b.length) (h : ∀ i, i < b.length → sym b i = sym b 0) : Bk.same b = true := by
  unfold Bk.same
  simp only [Bool.and_eq_true, decide_eq_true_eq, List.all_eq_true, List.mem_range]
  exact ⟨h0, h⟩
theorem same_no {b : List UInt8} {i : Nat} (hi : i < b.length) (h : sym b i ≠ sym b 0) : Bk.same b = false := by
  cases e : Bk.same b with
  | false => rfl
  | true =>
    unfold Bk.same at e
    simp only [Bool.and_eq_true, decide_eq_true_eq, List.all_eq_true, List.mem_range] at e
    exact absurd (e.2 i hi) h
theorem same_nil7 {b : List UInt8} (h : b.length = 0) : Bk.same b = false := by
  unfold Bk.same
  simp [h]
set_option maxRecDepth 100000 in
set_option maxHeartbeats 1000000 in
theorem same7_d (w : World) (b : List UInt8) (a : Option Addr) (c : Nat) (h : SlR w 1 (.slice a b.length c) b.length (b.map u8c)) (hl : b.length ≤ 100000) :
    Calls Tryz.prog 21 #[.slice a b.length c] w fun e w' => e = .returned (.bool (Bk.same b)) ∧ ∃ q, w' = w.drewN q := by
  by_cases h0 : b.length = 0
  · have HS := Lib.hid (same_nil7 h0)
    rw [h0]
    clear h h0
    go_enter Tryz.func21, Tryz.ntmps21
    go_wp2_with fail
    go_loopw [3] (fun i wr => i = .int .i64 0 ∧ wr = w) (fun _ _ => 0)
    case atStart => exact ⟨rfl, rfl⟩
    case round =>
      obtain ⟨rfl, hwr⟩ := hrel
      obtain rfl := hwr
      go_wp2_with fail
      go_ret
      exact ⟨by rw [HS.out]; rfl, 0, rfl⟩
  · obtain ⟨g, o, rfl, hg, hcap, hc⟩ := byts_at h (by omega)
    have HC := Lib.hid hc
    have HY := Lib.hid (fun hh => same_yes (b := b) (by omega) hh)
    have HNO := Lib.hid (fun i hi hh => same_no (b := b) (i := i) hi hh)
    obtain ⟨S, hS⟩ : ∃ S, S = Bk.same b := ⟨_, rfl⟩
    obtain ⟨A, hA⟩ : ∃ A, A = sym b := ⟨_, rfl⟩
    rw [byt_sym, ← hA] at HC
    rw [← hS, ← hA] at HY HNO
    rw [← hS]
    obtain ⟨n, hn⟩ : ∃ n, n = b.length := ⟨_, rfl⟩
    rw [← hn] at HC HY HNO hl hcap h0 ⊢
    have hn0 : 0 < n := by omega
    clear h hc hS hA hn h0
    go_enter Tryz.func21, Tryz.ntmps21
    go_wp2_with fail
    go_loopw [3] (fun i' wr => ∃ i q : Nat, i ≤ n ∧ i' = .int .i64 i ∧ (∀ j, j < i → A j = A 0) ∧ wr = w.drewN q) (fun i' _ => n - (intOf i').toNat)
    case atStart => exact ⟨0, 0, Nat.zero_le _, rfl, fun j hj => by omega, rfl⟩
    case round =>
      obtain ⟨i, q, hi, rfl, hall, rfl⟩ := hrel
      have HALL := Lib.hid hall
      clear hall
      by_cases hlt : i < n
      · have d0 : ∀ q, (w.drewN q).cell? ⟨g, o + i, none⟩ = some (.int .u8 (A i : Nat)) := fun q => HC.out i hlt
        have d1 : ∀ q, (w.drewN q).cell? ⟨g, o, none⟩ = some (.int .u8 (A 0 : Nat)) := fun q => HC.out 0 hn0
        obtain ⟨x, hx⟩ : ∃ x, x = A i := ⟨_, rfl⟩
        obtain ⟨y, hy⟩ : ∃ y, y = A 0 := ⟨_, rfl⟩
        rw [← hx] at d0
        rw [← hy] at d1
        have HX := Lib.hid hx
        have HYY := Lib.hid hy
        clear hx hy
        by_cases he : x = y
        · have b1 : ((x : Int) != (y : Int)) = false := by simp [he]
          have HA2 : Hid (∀ j, j < i + 1 → A j = A 0) := Lib.hid (fun j hj => by
            by_cases e : j = i
            · subst e; rw [← HX.out, ← HYY.out]; exact he
            · exact HALL.out j (by omega))
          clear he
          go_wp2_with fail
          go_quiet (fail)
          go_wp2_with fail
          exact ⟨⟨i + 1, q + nq, by omega, by go_num, HA2.out, by first | trivial | rfl⟩, by simp [intOf]; try omega⟩
        · have b1 : ((x : Int) != (y : Int)) = true := by rw [bne_iff_ne]; omega
          have HF := Lib.hid (HNO.out i hlt (by rw [← HX.out, ← HYY.out]; exact he))
          clear he
          go_wp2_with fail
          go_quiet (fail)
          go_wp2_with fail
          go_ret
          exact ⟨by rw [HF.out]; rfl, q + nq, by first | trivial | rfl | rw [World.drewN_drewN]⟩
      · obtain rfl : i = n := by omega
        have HT := Lib.hid (HY.out HALL.out)
        have hdec : decide ((0 : Int) < (i : Int)) = true := decide_eq_true (by omega)
        go_wp2_with fail
        go_ret
        exact ⟨by rw [HT.out]; rfl, q, rfl⟩
set_option maxRecDepth 100000 in
set_option maxHeartbeats 1000000 in
theorem two7_d (n : Nat) (w : World) : Calls Tryz.prog 22 #[.int .i64 (n : Nat)] w (TwoPost w n) := by
  have HR := Lib.hid (two_row w n)
  go_enter Tryz.func22, Tryz.ntmps22
  go_wp2_with fail
  go_ret
  exact ⟨_, rfl, Nat.le_refl _, HR.out, kp_alloc _ _⟩
end Go.Proofs.YtphakpikalmghaaGreat.Ma
namespace Go.Proofs.YtphakpikalmghaaGreat.Ma
open Go Go.RowKit Go.ChangeMaps Go.MapKept Go.Mg Go.Mt Go.Hf Go.Proofs.YtphakpikalmghaaGreat.Hu Go.Proofs.YtphakpikalmghaaGreat.Bw Go.Proofs.YtphakpikalmghaaGreat.He Go.Proofs.YtphakpikalmghaaGreat.Sq Go.Proofs.YtphakpikalmghaaGreat.Bk

def RowPost7 (w : World) (r : List UInt8) (e : Ending) (w' : World) : Prop := ∃ a c, e = .returned (.slice a r.length c) ∧ RowB w.heap.size w' (.slice a r.length c) r ∧ Kp (fun _ => False) w w'
theorem lit_one (w : World) (e : TypeId) (v : Value) (B : Nat) (hB : B ≤ w.heap.size) (y : UInt8) (hv : u8c y = v) : RowM e u8c B (w.alloc (.cells #[v] e)) (.slice (some ⟨w.heap.size, 0, none⟩) 1 1) [y] := by
  subst hv
  exact ⟨_, _, rfl, own_m w e [u8c y] rfl (by omega), fun k hk => by have := own_b hk; omega⟩
theorem lit_two (w : World) (e : TypeId) (v : Value) (o : Obj) (B : Nat) (hB : B ≤ w.heap.size) (y : UInt8) (hv : u8c y = v) : RowM e u8c B ((w.alloc o).alloc (.cells #[v] e)) (.slice (some ⟨w.heap.size + 1, 0, none⟩) 1 1) [y] := by
  have := lit_one (w.alloc o) e v B (by simp; omega) y hv
  rw [World.size_alloc] at this
  exact this
theorem slr_lt {w : World} {g o c : Nat} {xs : List Value} (h : SlR w 1 (.slice (some ⟨g, o, none⟩) 1 c) 1 xs) : g < w.heap.size := by
  obtain ⟨_, a, cap, e, _, _, _, hc⟩ := h
  obtain ⟨g', o', e', hg, _⟩ := hc (by omega)
  simp only [Value.slice.injEq, true_and] at e
  rw [← e.1] at e'
  simp only [Option.some.injEq, Addr.mk.injEq, and_true] at e'
  rw [e'.1]; exact hg
theorem u8c_lt {y : Nat} (h : y < 256) : u8c (UInt8.ofNat y) = .int .u8 (y : Nat) := by unfold u8c; rw [UInt8.toNat_ofNat']; congr 2; omega
/-- As step_grow; the grown row's old block is told of too. -/
theorem step_growB {α : Type} {e : TypeId} {enc : α → Value} {P : Program} {B : Nat} (w : World) {ops : Array Oper} {o : Oper} {a : Act} {Q : Exit → Act → World → Prop} {E : Prop} (hgd : o.guard = none) (s x : Operand) (t : TypeId) (ho : o.op = .call { callee := .builtin .append, args := #[s, x], argTypes := #[t, t] })
    (i : TypeInfo) (z : Value) (bytes : Nat) (ht : P.underlying t = some (.slice e)) (hi : P.info? e = some i) (hz : i.zero = some z) (hsize : i.size = 1) (hby : i.bytes = bytes) (hzs : z.cells.size = 1) (hbp : 0 < bytes)
    (h1 : ∀ y, (enc y).oneCell' = true) (v : Value) (l : List α) (hs : a.eval s = v) (hrow : RowM e enc B w v l) (hB : B ≤ w.heap.size) (xv : Value) (m : Nat) (r : List α) (hx : a.eval x = xv) (hsl : SlR w 1 xv m (r.map enc)) (hm : r.length = m) (n' : Nat) (hn : l.length + m = n') (hbytes : n' * bytes ≤ 140737488355328)
    {K : Act → World → Prop} (h : ∀ a' c' w', Grown e enc B w w' v (.slice a' n' c') (l ++ r) → (∀ k, v.ownBlock = some k → B ≤ k) → K (a.put o.dst (.slice a' n' c')) w') : if Region.wanted o (yielded ops a.tmps) = true then Oper.wp P o a w K Q else E :=
  step_grow w hgd s x t ho i z bytes ht hi hz hsize hby hzs hbp h1 v l hs hrow hB xv m r hx hsl hm n' hn hbytes (fun a' c' w' hg => h a' c' w' hg (fun _ q => (hrow.lt q).1))
set_option maxRecDepth 100000 in
set_option maxHeartbeats 4000000 in
theorem row7_same (W : World) (b : List UInt8) (a : Option Addr) (c : Nat) (h : SlR W 1 (.slice a b.length c) b.length (b.map u8c)) (hl : b.length ≤ 100000) (hsame : Bk.same b = true) :
    Calls Tryz.prog 15 #[.slice a b.length c] W (RowPost7 W (Bk.rowB b)) := by
  obtain ⟨j0, hj0, hy0, hy1, hy2⟩ := info_parts infoU8
  have h0 : 0 < b.length := by
    unfold Bk.same at hsame
    simp only [Bool.and_eq_true, decide_eq_true_eq] at hsame
    exact hsame.1
  have SM := Lib.hid (same7_d W b a c h hl)
  rw [hsame] at SM
  obtain ⟨g, o, rfl, hg, hcap, hc⟩ := byts_at h h0
  have HB : Hid (Bk.rowB b = [1] ++ two b.length ++ [UInt8.ofNat (byt b 0)] ∧ (Bk.rowB b).length = 4) := Lib.hid (by
    unfold Bk.rowB
    rw [if_pos hsame]
    exact ⟨by simp [byt], by simp [two]⟩)
  have hc0 := hc 0 h0
  rw [Nat.add_zero] at hc0
  have hy256 := byt_lt b 0
  obtain ⟨y, hy⟩ : ∃ y, y = byt b 0 := ⟨_, rfl⟩
  rw [← hy] at HB hc0 hy256
  obtain ⟨n, hn⟩ : ∃ n, n = b.length := ⟨_, rfl⟩
  rw [← hn] at HB SM hl ⊢
  have TW := Lib.hid (two7_d n)
  have HCC := Lib.hid (fun V (hk : Kp (fun _ => False) W V) => (hk.cell (p := ⟨g, o, none⟩) hg (fun q => q)).trans hc0)
  have hn0 : 0 < n := by omega
  clear h hc hn hy hc0 hsame h0
  go_enter Tryz.func15, Tryz.ntmps15
  go_wp2_with fail
  refine SM.out.mono ?_
  rintro e w ⟨rfl, q0, hw0⟩
  have K00 : Hid (Kp (fun _ => False) W w) := Lib.hid (by rw [hw0]; exact (Kp.refl _ _).drewN q0)
  clear hw0 SM
  have HCELL : Hid (∀ V, Kp (fun _ => False) w V → V.cell? ⟨g, o, none⟩ = some (.int .u8 (y : Nat))) := Lib.hid (fun V hv => HCC.out V (K00.out.trans hv))
  have t0 := HCELL.out w (Kp.refl _ _)
  have e1 : u8c 1 = .int .u8 1 := rfl
  have ey := u8c_lt hy256
  have KE : Hid (Kp (fun _ => False) w w.drew) := Lib.hid (Kp.refl _ _).drew
  have K13 : Hid (Kp (fun _ => False) w (w.alloc (.cells #[.int .u8 1] 5)).drew) := Lib.hid (kp_alloc _ _).drew
  have K21 : Hid (Kp (fun _ => False) w (w.alloc (.cells #[.int .u8 (y : Nat)] 5)).drew) := Lib.hid (kp_alloc _ _).drew
  have K1321 : Hid (Kp (fun _ => False) w ((w.alloc (.cells #[.int .u8 1] 5)).alloc (.cells #[.int .u8 (y : Nat)] 5)).drew) := Lib.hid ((kp_alloc _ _).trans (kp_alloc _ _)).drew
  have K2113 : Hid (Kp (fun _ => False) w ((w.alloc (.cells #[.int .u8 (y : Nat)] 5)).alloc (.cells #[.int .u8 1] 5)).drew) := Lib.hid ((kp_alloc _ _).trans (kp_alloc _ _)).drew
  have ROW1 : Hid (∀ V : World, w.heap.size ≤ V.heap.size → RowB w.heap.size (V.alloc (.cells #[.int .u8 1] 5)) (.slice (some ⟨V.heap.size, 0, none⟩) 1 1) [1]) := Lib.hid (fun V hv => lit_one V _ _ _ hv 1 e1)
  have ROW1b : Hid (∀ V : World, w.heap.size ≤ V.heap.size → RowB w.heap.size ((V.alloc (.cells #[.int .u8 (y : Nat)] 5)).alloc (.cells #[.int .u8 1] 5)) (.slice (some ⟨V.heap.size + 1, 0, none⟩) 1 1) [1]) := Lib.hid (fun V hv => lit_two V _ _ _ _ hv 1 e1)
  have LIT21 : Hid (∀ V : World, SlR (V.alloc (.cells #[.int .u8 (y : Nat)] 5)) 1 (.slice (some ⟨V.heap.size, 0, none⟩) 1 1) 1 ([UInt8.ofNat y].map u8c)) := Lib.hid (fun V => (lit_one V 5 _ 0 (by omega) _ ey).sl.1)
  have LIT21b : Hid (∀ V : World, SlR ((V.alloc (.cells #[.int .u8 1] 5)).alloc (.cells #[.int .u8 (y : Nat)] 5)) 1 (.slice (some ⟨V.heap.size + 1, 0, none⟩) 1 1) 1 ([UInt8.ofNat y].map u8c)) := Lib.hid (fun V => (lit_two V 5 _ _ 0 (by omega) _ ey).sl.1)
  have R13a := Lib.hid (ROW1.out w (Nat.le_refl _))
  have R13c := Lib.hid (R13a.out.kp0 (kp_alloc _ (.cells #[.int .u8 (y : Nat)] 5)))
  have R13b := Lib.hid (ROW1b.out w (Nat.le_refl _))
  have S21a := Lib.hid (LIT21.out w)
  have S21c := Lib.hid (S21a.out.kp (kp_alloc _ (.cells #[.int .u8 1] 5)) (fun _ _ q => q))
  have S21b := Lib.hid (LIT21b.out w)
  have KGR : Hid (∀ X V : World, Kp (fun _ => False) w X → Kp (fun k => w.heap.size ≤ k) X V → Kp (fun _ => False) w V) := Lib.hid (fun X V h1 h2 => h1.trans2 h2 (fun i hi q => by omega))
  have LIT : Hid (∀ (X V : World) (v : Value) (g' n' c' : Nat), Kp (fun k => v.ownBlock = some k) X V → SlR X 1 (.slice (some ⟨g', 0, none⟩) n' c') n' ([UInt8.ofNat y].map u8c) → ¬ v.ownBlock = some g' → SlR V 1 (.slice (some ⟨g', 0, none⟩) n' c') n' ([UInt8.ofNat y].map u8c)) := Lib.hid (fun X V v g' n' c' h1 h2 h3 => h2.kp h1 (fun b hb q => by have := own_b hb; rw [this] at q; exact h3 q))
  clear ey e1
  go_wp2_with fail
  go_region_held3 (fun V => V.cell? ⟨g, o, none⟩ = some (.int .u8 (y : Nat))) (go_keep) ((first
    | (go_simp; go_at_call 22; refine (TW.out _).mono ?_; rintro e V ⟨g9, rfl, _, t9, k9⟩; have KV : Hid (Kp (fun _ => False) w V) := Lib.hid (Kp.trans (by first | exact KE.out | exact K13.out | exact K21.out | exact K1321.out | exact K2113.out) k9); have s0 : V.cell? ⟨g, o, none⟩ = some (.int .u8 (y : Nat)) := HCELL.out _ KV.out; have T9 := Lib.hid t9.sl.1; have kd9 := (Kp.refl (fun _ => False) _).drew.trans k9; have SZV := Lib.hid KV.out.size;
          (try have P13 : Hid (RowB w.heap.size V (.slice (some ⟨w.heap.size, 0, none⟩) 1 1) [1]) := Lib.hid (by first | exact R13a.out.kp0 kd9 | exact R13c.out.kp0 kd9));
          (try have P13 : Hid (RowB w.heap.size V (.slice (some ⟨w.heap.size + 1, 0, none⟩) 1 1) [1]) := Lib.hid (by exact R13b.out.kp0 kd9));
          (try have Q21 : Hid (SlR V 1 (.slice (some ⟨w.heap.size, 0, none⟩) 1 1) 1 ([UInt8.ofNat y].map u8c)) := Lib.hid (by first | exact S21a.out.kp kd9 (fun _ _ q => q) | exact S21c.out.kp kd9 (fun _ _ q => q)));
          (try have Q21 : Hid (SlR V 1 (.slice (some ⟨w.heap.size + 1, 0, none⟩) 1 1) 1 ([UInt8.ofNat y].map u8c)) := Lib.hid (by exact S21b.out.kp kd9 (fun _ _ q => q)));
          clear t9 k9 kd9)
    | (refine step_growB (B := w.heap.size) _ (by rfl) (.tmp 13) (.tmp 16) 22 (by rfl) j0 _ 1 Tryz.underlying22 hj0 hy0 hy1 hy2 (by decide) (by decide) u8c_1 _ [1] (by rfl) (by first | exact P13.out | exact P13.out.kp0 (kp_alloc _ _) | exact ROW1.out _ SZV.out | exact (ROW1.out _ SZV.out).kp0 (kp_alloc _ _) | exact ROW1b.out _ SZV.out) (by first | exact SZV.out | exact Nat.le_trans SZV.out (kp_alloc _ _).size | exact Nat.le_trans SZV.out (Nat.le_trans (kp_alloc _ _).size (kp_alloc _ _).size)) (.slice (some ⟨g9, 0, none⟩) 2 2) 2 (two n) (by rfl) (by first | exact T9.out | exact T9.out.kp (kp_alloc _ _) (fun _ _ q => q) | exact (T9.out.kp (kp_alloc _ _) (fun _ _ q => q)).kp (kp_alloc _ _) (fun _ _ q => q)) rfl 3 rfl (by omega) ?_; intro a6 d6 w6 hg hb6; have hk6 := hg.2.2.mono (G := fun k => w.heap.size ≤ k) (fun _ _ q => hb6 _ q); have s6 : w6.cell? ⟨g, o, none⟩ = some (.int .u8 (y : Nat)) := HCELL.out _ (KGR.out _ _ (by first | exact KV.out | exact KV.out.alloc _ | exact (KV.out.alloc _).alloc _) hk6); have G6 := Lib.hid hg.1; have K6 := Lib.hid (KGR.out _ _ (by first | exact KV.out | exact KV.out.alloc _ | exact (KV.out.alloc _).alloc _) hk6);
          (try have Z21 := Lib.hid (LIT.out _ _ _ _ _ _ hg.2.2 (by first | exact Q21.out | exact Q21.out.kp (kp_alloc _ _) (fun _ _ q => q)) (by intro q; have q2 := own_b q; first | omega | (have := slr_lt Q21.out; omega) | (have := slr_lt (c := 1) (xs := [u8c 1]) (by exact P13.out.sl.1); omega))));
          (try have Z21 := Lib.hid (LIT.out _ _ _ _ _ _ hg.2.2 (by first | exact LIT21b.out _ | exact LIT21.out _ | exact (LIT21.out _).kp (kp_alloc _ _) (fun _ _ q => q)) (by intro q; have q2 := own_b q; first | omega | (have := slr_lt (c := 1) (xs := [u8c 1]) (by exact P13.out.sl.1); omega))));
          clear hg hb6 hk6)
    | (refine step_growB (B := w.heap.size) _ (by rfl) (.tmp 17) (.tmp 21) 22 (by rfl) j0 _ 1 Tryz.underlying22 hj0 hy0 hy1 hy2 (by decide) (by decide) u8c_1 (.slice a6 3 d6) ([1] ++ two n) (by rfl) (by first | exact G6.out | exact G6.out.kp0 (kp_alloc _ _)) (by first | exact K6.out.size | exact (K6.out.alloc _).size) _ 1 [UInt8.ofNat y] (by rfl) (by first | exact Z21.out | exact LIT21.out _) rfl 4 rfl (by omega) ?_; intro a7 d7 w7 hg hb7; have hk7 := hg.2.2.mono (G := fun k => w.heap.size ≤ k) (fun _ _ q => hb7 _ q); have s7 : w7.cell? ⟨g, o, none⟩ = some (.int .u8 (y : Nat)) := HCELL.out _ (KGR.out _ _ (by first | exact K6.out | exact K6.out.alloc _) hk7); have G7 := Lib.hid hg.1; have K7 := Lib.hid (KGR.out _ _ (by first | exact K6.out | exact K6.out.alloc _) hk7); clear hg hb7 hk7)))
  all_goals (go_wp2_with fail)
  all_goals
    go_ret
    rw [HB.out.1]
    have hl4 : ([1] ++ two n ++ [UInt8.ofNat y] : List UInt8).length = 4 := rfl
    exact ⟨a7, d7, rfl, G7.out.low K00.out.size, K00.out.trans K7.out⟩
end Go.Proofs.YtphakpikalmghaaGreat.Ma
namespace Go.Proofs.YtphakpikalmghaaGreat.Ma
open Go Go.RowKit Go.ChangeMaps Go.MapKept Go.Mg Go.Mt Go.Hf Go.Proofs.YtphakpikalmghaaGreat.Hu Go.Proofs.YtphakpikalmghaaGreat.Bw Go.Proofs.YtphakpikalmghaaGreat.He Go.Proofs.YtphakpikalmghaaGreat.Sq Go.Proofs.YtphakpikalmghaaGreat.Bk

def ints (b : List UInt8) : List Int := b.map fun y => (y.toNat : Int)
theorem ints_bytes (b : List UInt8) : Lib.bytesOf (ints b) = b := by
  unfold ints Lib.bytesOf
  simp [List.map_map, Function.comp_def]
theorem count_same {b : List UInt8} (h0 : 0 < b.length) : (((Lib.countByte (Lib.bytesOf (ints b)) (UInt8.ofNat (byt b 0)) : Nat) : Int) == (b.length : Int)) = Bk.same b := by
  have e : Lib.countByte (Lib.bytesOf (ints b)) (UInt8.ofNat (byt b 0)) = b.count (UInt8.ofNat (byt b 0)) := by
    unfold Lib.countByte
    rw [ints_bytes]
  rw [e]
  have hb0 : UInt8.ofNat (byt b 0) = b[0] := by simp [byt, h0]
  rw [hb0]
  cases hs : Bk.same b with
  | true =>
    unfold Bk.same at hs
    simp only [Bool.and_eq_true, decide_eq_true_eq, List.all_eq_true, List.mem_range] at hs
    rw [beq_iff_eq, List.count_eq_length.2 (fun x hx => by
      obtain ⟨i, hi, rfl⟩ := List.mem_iff_getElem.1 hx
      have := hs.2 i hi
      simp only [sym, List.getElem?_eq_getElem hi, List.getElem?_eq_getElem h0, Option.getD_some] at this
      exact (UInt8.toNat_inj.1 this).symm)]
  | false =>
    rw [beq_eq_false_iff_ne]
    intro q
    have q2 : b.count b[0] = b.length := by omega
    have hall := List.count_eq_length.1 q2
    have : Bk.same b = true := same_yes h0 (fun i hi => by
      have := hall b[i] (List.getElem_mem hi)
      simp only [sym, List.getElem?_eq_getElem hi, List.getElem?_eq_getElem h0, Option.getD_some]
      rw [← this])
    rw [this] at hs
    cases hs
theorem count_p (w : World) (b : List UInt8) (g o c : Nat) (h0 : 0 < b.length) (hc : ∀ i, i < b.length → w.cell? ⟨g, o + i, none⟩ = some (.int .u8 (byt b i : Nat))) :
    Calls Tryz.prog 33 #[.slice (some ⟨g, o, none⟩) b.length c, .slice (some ⟨g, o, none⟩) 1 c] w fun e w' => e = .returned (.int .i64 (Lib.countByte (Lib.bytesOf (ints b)) (UInt8.ofNat (byt b 0)) : Nat)) ∧ w' = w := by
  have h := Any.bytes_Count_one Tryz.laysB13 g o b.length c g o c (ints b) (byt b 0 : Nat) w (by simp [ints]) (fun i hi => by
    rw [hc i hi]
    simp [ints, byt, hi]) (hc 0 h0)
  exact h
theorem infoU8s : (Tryz.prog.info? 5).map (·.size) = some 1 := by kernel_rfl
set_option maxRecDepth 100000 in
set_option maxHeartbeats 400000 in
theorem isRun_p (w : World) (b : List UInt8) (a : Option Addr) (c : Nat) (h : SlR w 1 (.slice a b.length c) b.length (b.map u8c)) (hl : b.length ≤ 100000) :
    Calls Tryz.prog 17 #[.slice a b.length c] w fun e w' => e = .returned (.bool (Bk.same b)) ∧ w' = w := by
  by_cases h0 : b.length = 0
  · have HS := Lib.hid (same_nil7 h0)
    rw [h0]
    clear h h0
    go_enter Tryz.func17, Tryz.ntmps17
    go_wp2_with fail
    go_ret
    exact ⟨by rw [HS.out]; rfl, rfl⟩
  · have hup := (SlR.upto (P := Tryz.prog) h Tryz.underlying22 infoU8s (k := 1) (by omega)).1
    obtain ⟨g, o, rfl, hg, hcap, hc⟩ := byts_at h (by omega)
    have CT := Lib.hid (count_p w b g o c (by omega) hc)
    have HQ := Lib.hid (count_same (b := b) (by omega))
    obtain ⟨N, hN⟩ : ∃ N, N = Lib.countByte (Lib.bytesOf (ints b)) (UInt8.ofNat (byt b 0)) := ⟨_, rfl⟩
    rw [← hN] at CT HQ
    obtain ⟨n, hn⟩ : ∃ n, n = b.length := ⟨_, rfl⟩
    rw [← hn] at CT HQ hup h0 hl hcap ⊢
    have hn0 : 0 < n := by omega
    clear h hc hN hn h0 hg
    go_enter Tryz.func17, Tryz.ntmps17
    go_wp2_with (go_at_call 33; refine CT.out.mono ?_; rintro e w' ⟨rfl, hw⟩; obtain rfl := hw)
    go_ret
    exact ⟨by rw [← HQ.out]; rfl, rfl⟩
end Go.Proofs.YtphakpikalmghaaGreat.Ma
namespace Go.Proofs.YtphakpikalmghaaGreat.He
open Go Go.RowKit Go.ChangeMaps Go.MapKept Go.Mg Go.Hf Go.Sort Go.Proofs.YtphakpikalmghaaGreat.Hu Go.Proofs.YtphakpikalmghaaGreat.Bw

def RelD (B0 : Nat) (w wr : World) (ty : TypeId) (p : Nat) (bits : List Bool) : Prop := ∃ F a c, WrAt ty F wr p a c bits ∧ Kp (fun _ => False) w wr ∧ ∀ k, F k → B0 ≤ k
theorem RelD.step {B0 : Nat} {w wr : World} {ty : TypeId} {p : Nat} {B : List Bool} {F : Nat → Prop} (hk : Kp (fun _ => False) w wr) (hF : ∀ k, F k → B0 ≤ k) (hB : w.heap.size ≤ B0) (hB2 : B0 ≤ wr.heap.size) {V : World} (h : WrPost ty F wr p B V) : RelD B0 w V ty p B := by
  obtain ⟨F', a', c', h1, h2, h3⟩ := h
  exact ⟨F', a', c', h1, hk.trans2 h2 (fun i hi q => by have := hF i q; omega), fun k q => by rcases h3 k q with q | q; exact hF k q; omega⟩
set_option maxRecDepth 100000 in
set_option maxHeartbeats 4000000 in
theorem encode_d (w : World) (xs : List Int) (a : Option Addr) (c : Nat) (h : Nm w a c xs) (hl : xs.length ≤ 300) (l : List UInt8) (ab : Option Addr) (cb' : Nat) (hb : SlR w 1 (.slice ab l.length cb') l.length (l.map u8c)) (hlb : l.length ≤ 1000) :
    Calls Tryz.prog 32 #[.slice a xs.length c, .slice ab l.length cb'] w (EncPost w xs l) := by
  have D1 := Lib.hid (is_d w xs a c h (by omega))
  have R0 := Lib.hid h
  have RB := Lib.hid hb
  clear h hb
  go_enter Tryz.func32, Tryz.ntmps32
  go_wp2_with fail
  refine D1.out.mono ?_
  rintro e w' ⟨z, hz, rfl, hw'⟩
  obtain rfl := hw'
  cases z with
  | false =>
    have HZ := Lib.hid (show ¬ EncOk xs l from fun q => by have := hz.2 q.1; cases this)
    clear hz D1
    go_wp2_with fail
    go_ret2
    exact .inr ⟨HZ.out, rfl, Kp.refl _ _⟩
  | true =>
    have hok : IsOk xs := hz.1 rfl
    have hpos : 0 < xs.length := by
      apply Nat.pos_of_ne_zero
      intro e
      have : xs = [] := List.eq_nil_of_length_eq_zero e
      subst this
      obtain ⟨_, _, h | h⟩ := hok <;> simp [isSt] at h
    have HOK := Lib.hid hok
    clear hz D1 hok
    go_wp2_with fail
    refine (codes_d _ xs a c R0.out hpos hl).mono ?_
    rintro e w3 ⟨gc, rfl, p1, p2, p3⟩
    obtain ⟨g, o, rfl, hg, hcap, hc⟩ := R0.out.lf_ hpos
    have hgc : gc < w3.heap.size := lt_of_at p2
    have W0 := Lib.hid (wr_new 91 w3)
    have P3 := Lib.hid p3
    have hs3 := p3.size
    have HC : Hid (∀ V, Kp (fun _ => False) w3 V → ∀ i, i < xs.length → V.cell? ⟨gc, i, none⟩ = some (.int .i64 (codes xs i)) ∧ V.cell? ⟨g, o + i, none⟩ = some (.int .i64 (lf xs i))) := Lib.hid (fun V hk i hi =>
      ⟨(hk.cell (p := ⟨gc, i, none⟩) hgc (fun q => q)).trans (p2.cell hi), ((p3.trans hk).cell (p := ⟨g, o + i, none⟩) hg (fun q => q)).trans (hc i hi)⟩)
    have HB : Hid (0 < l.length → ∃ gb ob, ab = some ⟨gb, ob, none⟩ ∧ l.length ≤ cb' ∧ ∀ V, Kp (fun _ => False) w3 V → ∀ i, i < l.length → V.cell? ⟨gb, ob + i, none⟩ = some (.int .u8 (sym l i : Nat))) := Lib.hid (fun h0 => by
      obtain ⟨gb, ob, rfl, hgb, hcb, hcc⟩ := bytes_at RB.out h0
      exact ⟨gb, ob, rfl, hcb, fun V hk i hi => ((p3.trans hk).cell (p := ⟨gb, ob + i, none⟩) hgb (fun q => q)).trans (hcc i hi)⟩)
    have HCN := Lib.hid (fun s (hs : gd xs s) => code_nat HOK.out hs)
    have HBL := Lib.hid (bt_len HOK.out.2.1 l)
    have HSL := Lib.hid (sym_lt l)
    have HEOK : Hid (EncOk xs l ↔ ∀ j, j < l.length → gd xs (sym l j)) := Lib.hid ⟨fun q => q.2, fun q => ⟨HOK.out, q⟩⟩
    have HBT0 : Hid (bt xs l 0 = []) := Lib.hid rfl
    have HBTS : Hid (∀ j, bt xs l (j + 1) = bt xs l j ++ cb xs (sym l (l.length - 1 - j))) := Lib.hid (fun _ => rfl)
    have HGD : Hid (∀ s, gd xs s ↔ s < xs.length ∧ lf xs s ≠ 0) := Lib.hid (fun _ => Iff.rfl)
    have HCB : Hid (∀ s q n : Nat, codes xs s = (q : Nat) → lf xs s = (n : Nat) → cb xs s = bitsOf q n) := Lib.hid (fun s q n h1 h2 => by unfold cb; rw [h1, h2]; simp)
    unfold EncPost
    obtain ⟨n, hn⟩ : ∃ n, n = l.length := ⟨_, rfl⟩
    rw [← hn] at HB HBTS HEOK hlb ⊢
    have HNL := Lib.hid hn
    obtain ⟨EO, hEO⟩ : ∃ EO : Prop, EO = EncOk xs l := ⟨_, rfl⟩
    obtain ⟨BT, hBT⟩ : ∃ BT, BT = bt xs l := ⟨_, rfl⟩
    rw [← hEO] at HEOK
    rw [← hBT] at HBL HBT0 HBTS
    have HEOE := Lib.hid hEO
    have HBTE := Lib.hid hBT
    clear hEO hBT
    generalize lf xs = X at *
    generalize codes xs = C at *
    generalize gd xs = GD at *
    generalize cb xs = CB at *
    obtain ⟨N, hN⟩ : ∃ N, N = xs.length := ⟨_, rfl⟩
    rw [← hN] at HC HGD hl hpos hcap ⊢
    generalize sym l = SY at *
    clear p1 p2 p3 hc R0 RB hn hN
    go_wp2_with fail
    go_loopw [8] (fun i wr => ∃ j : Nat, j ≤ n ∧ i = .int .i64 ((n : Int) - 1 - (j : Nat)) ∧ (∀ k, k < j → GD (SY (n - 1 - k))) ∧ RelD w3.heap.size w3 wr 91 w3.heap.size (BT j)) (fun i _ => (intOf i + 1).toNat)
    case atStart =>
      refine ⟨0, Nat.zero_le _, by simp, fun k hk => by omega, (· = w3.heap.size), none, 0, ?_, (Kp.refl _ _).alloc _, fun k q => by omega⟩
      rw [HBT0.out]
      exact W0.out
    case round =>
      obtain ⟨j, hj, rfl, hgs, hrd⟩ := hrel
      have HGS := Lib.hid hgs
      have HRD := Lib.hid hrd
      obtain ⟨F, aw, cw, hw1, hkw, hFw⟩ := hrd
      have HW1 := Lib.hid hw1
      have HKW := Lib.hid hkw
      have HFW := Lib.hid hFw
      clear hgs hw1 hkw hFw W0
      by_cases hjn : j < n
      · obtain ⟨q, hq⟩ : ∃ q, q = n - 1 - j := ⟨_, rfl⟩
        have hqn : q < n := by omega
        have hqi : ((n : Int) - 1 - (j : Nat)) = (q : Nat) := by omega
        rw [hqi]
        obtain ⟨gb, ob, rfl, hcb, hcells⟩ := HB.out (by omega)
        have d0 := hcells _ HKW.out q hqn
        obtain ⟨s, hs⟩ : ∃ s, s = SY q := ⟨_, rfl⟩
        have hs256 := HSL.out q
        rw [← hs] at d0 hs256
        have HS := Lib.hid hs
        have HQ := Lib.hid hq
        have HQI := Lib.hid hqi
        clear hcells hs hq hqi
        by_cases g1 : s < N
        · obtain ⟨d2, d1⟩ := HC.out _ HKW.out s g1
          by_cases g2 : X s = 0
          · have HNO : Hid (¬ EO) := Lib.hid (fun e => by
              have := (HGD.out (SY q)).1 (HEOK.out.1 e q hqn)
              rw [← HS.out] at this
              exact this.2 g2)
            rw [g2] at d1
            clear d2 g2
            go_wp2_with fail
            go_ret2
            exact .inr ⟨by rw [← HEOE.out]; exact HNO.out, rfl, P3.out.trans HKW.out⟩
          · obtain ⟨cq, m, hm1, hm2, hm0, hm11, hcq⟩ := HCN.out s ((HGD.out s).2 ⟨g1, g2⟩)
            have HCBE := Lib.hid (HCB.out s cq m hm1 hm2)
            rw [hm1] at d2
            rw [hm2] at d1
            have hm00 : ((m : Int) == 0) = false := by rw [beq_eq_false_iff_ne]; omega
            have PUT := Lib.hid (fun V (hv : Kp (fun _ => False) wr V) => put_d (HW1.out.kp hv (fun _ _ q => q)) cq m (by omega) hcq (by have := HBL.out j; omega))
            have HGDQ : Hid (GD (SY q)) := Lib.hid (by rw [← HS.out]; exact (HGD.out s).2 ⟨g1, g2⟩)
            clear hm1 hm2 g2 hcq
            go_wp2_with fail
            go_region_held3 (fun V => V.cell? ⟨gc, s, none⟩ = some (.int .i64 (cq : Nat)) ∧ V.cell? ⟨g, o + s, none⟩ = some (.int .i64 (m : Nat))) (go_keep) ((go_simp; go_at_call 66; refine (PUT.out _ (Kp.refl _ _).drew).mono ?_; rintro e V ⟨rfl, hV⟩; have RV := Lib.hid (RelD.step (B0 := w3.heap.size) HKW.out.drew HFW.out (Nat.le_refl _) HKW.out.size hV); have r0 : V.cell? ⟨gc, s, none⟩ = some (.int .i64 (cq : Nat)) := (by obtain ⟨_, _, _, _, hk2, _⟩ := RV.out; rw [(HC.out _ hk2 s g1).1, (HC.out _ HKW.out s g1).1.symm.trans d2 |> Option.some.inj]); have r1 : V.cell? ⟨g, o + s, none⟩ = some (.int .i64 (m : Nat)) := (by obtain ⟨_, _, _, _, hk2, _⟩ := RV.out; rw [(HC.out _ hk2 s g1).2, (HC.out _ HKW.out s g1).2.symm.trans d1 |> Option.some.inj]); clear hV))
            go_wp2_with fail
            refine ⟨⟨j + 1, by omega, ?_, fun k hk => ?_, ?_⟩, by simp [intOf]; try omega⟩
            · have := HQI.out
              congr 1
              omega
            · by_cases e : k = j
              · subst e
                rw [← HQ.out]
                exact HGDQ.out
              · exact HGS.out k (by omega)
            · rw [HBTS.out j, ← HQ.out, ← HS.out, HCBE.out]
              exact RV.out
        · have HNO : Hid (¬ EO) := Lib.hid (fun e => by
            have := (HGD.out (SY q)).1 (HEOK.out.1 e q hqn)
            rw [← HS.out] at this
            exact g1 this.1)
          have g1' : (N : Int) ≤ (s : Int) := by omega
          go_wp2_with fail
          go_ret2
          exact .inr ⟨by rw [← HEOE.out]; exact HNO.out, rfl, P3.out.trans HKW.out⟩
      · obtain rfl : j = n := by omega
        have hi1 : ((j : Int) - 1 - (j : Nat)) = -1 := by omega
        rw [hi1]
        have HYES : Hid EO := Lib.hid (HEOK.out.2 (fun k hk => by
          have := HGS.out (j - 1 - k) (by omega)
          rwa [show j - 1 - (j - 1 - k) = k by omega] at this))
        have BY := Lib.hid (bytes_d HW1.out (by have := HBL.out j; omega))
        go_wp2_with fail
        refine BY.out.mono ?_
        rintro e w5 ⟨g5, rfl, b1, b2, b3⟩
        have B1 := Lib.hid b1
        have B2 := Lib.hid b2
        have B3 := Lib.hid b3
        clear b1 b2 b3
        go_wp2_with fail
        go_ret2
        refine .inl ⟨by rw [← HEOE.out]; exact HYES.out, ?_⟩
        unfold EncGood
        rw [← HNL.out, ← HBTE.out]
        exact ⟨g5, rfl, by have := B1.out; have := (P3.out.trans HKW.out).size; omega, B2.out, (P3.out.trans HKW.out).trans B3.out⟩
end Go.Proofs.YtphakpikalmghaaGreat.He
