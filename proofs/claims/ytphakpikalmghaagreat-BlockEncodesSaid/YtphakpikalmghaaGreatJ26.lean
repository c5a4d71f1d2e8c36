/- block: the document's Encode. The walk of BlockEncodes. What a law's walk is told of an array of three numbers. -/
import Derived.OpenShut
import Derived.Test.YtphakpikalmghaaGreatProg
import Derived.Test.YtphakpikalmghaaGreatJ25
namespace Go.Proofs.YtphakpikalmghaaGreat.Ma
open Go Go.RowKit Go.ChangeMaps Go.MapKept Go.Mg Go.Mt Go.Hf Go.Proofs.YtphakpikalmghaaGreat.Hu Go.Proofs.YtphakpikalmghaaGreat.Bw Go.Proofs.YtphakpikalmghaaGreat.He Go.Proofs.YtphakpikalmghaaGreat.Rd Go.Proofs.YtphakpikalmghaaGreat.Sq Go.Proofs.YtphakpikalmghaaGreat.Bk

set_option maxRecDepth 100000 in
set_option maxHeartbeats 4000000 in
theorem encode7_same (w : World) (p d : List UInt8) (ap : Option Addr) (cp : Nat) (ad : Option Addr) (cd : Nat) (hd : SlR w 1 (.slice ad d.length cd) d.length (d.map u8c)) (hl2 : d.length ≤ 500) (depth : Nat) (h : H3) (hsame : Bk.same d = true) :
    Calls Tryz.prog 9 #[.slice ap p.length cp, .slice ad d.length cd, .int .i64 (depth : Nat), hv3 h] w (EncPost7 w (Bk.encB p d depth h).1 (Bk.encB p d depth h).2) := by
  have mixed : Tryz.prog.follows .mixedOrders = true := by kernel_rfl
  obtain ⟨j0, hj0, hy0, hy1, hy2⟩ := info_parts infoU8
  have h0 : 0 < d.length := by
    unfold Bk.same at hsame
    simp only [Bool.and_eq_true, decide_eq_true_eq] at hsame
    exact hsame.1
  have SM := Lib.hid (fun V hV => same7_d V d ad cd (hd.kp hV (fun _ _ q => q)) (by omega))
  rw [hsame] at SM
  obtain ⟨g, o, rfl, hg, hcap, hc⟩ := byts_at hd h0
  have HB : Hid (Bk.encB p d depth h = (two d.length ++ [1, UInt8.ofNat (byt d 0)], h)) := Lib.hid (by
    unfold Bk.encB
    rw [if_pos hsame]
    simp [byt])
  have hc0 := hc 0 h0
  rw [Nat.add_zero] at hc0
  have hy256 := byt_lt d 0
  obtain ⟨y, hy⟩ : ∃ y, y = byt d 0 := ⟨_, rfl⟩
  rw [← hy] at HB hc0 hy256
  have HCC := Lib.hid (fun V (hk : Kp (fun _ => False) w V) => (hk.cell (p := ⟨g, o, none⟩) hg (fun q => q)).trans hc0)
  obtain ⟨r, hr⟩ : ∃ r, r = Bk.encB p d depth h := ⟨_, rfl⟩
  rw [← hr] at HB ⊢
  obtain ⟨n, hn⟩ : ∃ n, n = d.length := ⟨_, rfl⟩
  rw [← hn] at HB SM hl2 h0 ⊢
  obtain ⟨m, hm⟩ : ∃ m, m = p.length := ⟨_, rfl⟩
  rw [← hm]
  have TW := Lib.hid (two7_d n)
  have EY := Lib.hid (u8c_lt hy256)
  have HGL := Lib.hid hg
  clear hsame hd hc hc0 hy hr hn hm hg hcap hy256 hl2
  obtain ⟨ha, hb, hc⟩ := h
  have hhv : ∀ a b c, hv3 ⟨a, b, c⟩ = .agg #[.int .i64 (a : Nat), .int .i64 (b : Nat), .int .i64 (c : Nat)] := fun _ _ _ => rfl
  rw [hhv]
  clear hhv
  go_enter Tryz.func9, Tryz.ntmps9
  go_wp2_with fail
  obtain ⟨W, hW⟩ : ∃ W, W = (w.alloc (.cells #[.int .i64 (ha : Nat), .int .i64 (hb : Nat), .int .i64 (hc : Nat)] 23)).alloc (.cells #[.int .i64 0, .int .i64 0, .int .i64 0] 23) := ⟨_, rfl⟩
  have hws : W.heap.size = w.heap.size + 2 := by rw [hW]; simp
  have hkW : Kp (fun _ => False) w W := by rw [hW]; exact (kp_alloc _ _).trans (kp_alloc _ _)
  have hG0 : HAt W w.heap.size ⟨ha, hb, hc⟩ := by
    rw [hW]; exact (kp_alloc _ _).at_ (alloc_at w _) (fun q => q)
  have hR0 : HAt W (w.heap.size + 1) ⟨0, 0, 0⟩ := by
    rw [hW]; have := alloc_at (w.alloc (.cells #[.int .i64 (ha : Nat), .int .i64 (hb : Nat), .int .i64 (hc : Nat)] 23)) (.cells #[.int .i64 0, .int .i64 0, .int .i64 0] 23)
    rw [World.size_alloc] at this
    exact this
  rw [← hW]
  obtain ⟨G, hG⟩ : ∃ G, G = w.heap.size := ⟨_, rfl⟩
  rw [← hG] at hG0 hR0 ⊢
  have HW := Lib.hid hws
  have HKW := Lib.hid hkW
  have HGE := Lib.hid hG
  have HG := Lib.hid (fun V (hV : Kp (fun _ => False) W V) => And.intro (hG0.kp hV (fun q => q)) (hR0.kp hV (fun q => q)))
  have SMW := Lib.hid (SM.out W hkW)
  clear hW hws hkW hG0 hR0 hG
  refine SMW.out.mono ?_
  rintro e w1 ⟨rfl, q0, hw1⟩
  have K1 : Hid (Kp (fun _ => False) W w1) := Lib.hid (by rw [hw1]; exact (Kp.refl _ _).drewN q0)
  clear hw1 SMW SM
  have HS1 : Hid (G + 2 ≤ w1.heap.size) := Lib.hid (by have := K1.out.size; have := HW.out; have := HGE.out; omega)
  have HCELL : Hid (∀ V, Kp (fun _ => False) w1 V → V.cell? ⟨g, o, none⟩ = some (.int .u8 (y : Nat)) ∧ (V.cell? ⟨G, 0, none⟩ = some (.int .i64 (ha : Nat)) ∧ V.cell? ⟨G, 1, none⟩ = some (.int .i64 (hb : Nat)) ∧ V.cell? ⟨G, 2, none⟩ = some (.int .i64 (hc : Nat))) ∧ HAt V (G + 1) ⟨0, 0, 0⟩) := Lib.hid (fun V hV => ⟨HCC.out V ((HKW.out.trans K1.out).trans hV), (HG.out V (K1.out.trans hV)).1.cells, (HG.out V (K1.out.trans hV)).2⟩)
  obtain ⟨c0, ⟨t0, t1, t2⟩, _⟩ := HCELL.out w1 (Kp.refl _ _)
  have LIT : Hid (∀ V : World, SlR (V.alloc (.cells #[.int .u8 1, .int .u8 (y : Nat)] 5)) 1 (.slice (some ⟨V.heap.size, 0, none⟩) 2 2) 2 ([1, UInt8.ofNat y].map u8c)) := Lib.hid (fun V => by
    have := lit_m V 5 [u8c 1, u8c (UInt8.ofNat y)] (n := 2) rfl (by omega)
    rw [EY.out] at this
    simp only [List.map_cons, List.map_nil, EY.out]
    exact this)
  have hgne : g ≠ G + 1 := by have := HGL.out; have := HGE.out; omega
  have hgne2 : G + 1 ≠ g := fun q => hgne q.symm
  have KE : Hid (Kp (fun _ => False) w1 w1.drew) := Lib.hid (Kp.refl _ _).drew
  have KL : Hid (Kp (fun _ => False) w1 (w1.alloc (.cells #[.int .u8 1, .int .u8 (y : Nat)] 5)).drew) := Lib.hid (kp_alloc _ _).drew
  go_wp2_with fail
  go_region_held3 (fun V => V.cell? ⟨g, o, none⟩ = some (.int .u8 (y : Nat)) ∧ V.cell? ⟨G, 0, none⟩ = some (.int .i64 (ha : Nat)) ∧ V.cell? ⟨G, 1, none⟩ = some (.int .i64 (hb : Nat)) ∧ V.cell? ⟨G, 2, none⟩ = some (.int .i64 (hc : Nat))) (go_keep) ((first
    | (go_simp; go_at_call 22; refine (TW.out _).mono ?_; rintro e V ⟨g9, rfl, _, t9, k9⟩; have KV : Hid (Kp (fun _ => False) w1 V) := Lib.hid (Kp.trans (by first | exact KE.out | exact KL.out) k9); obtain ⟨s0, ⟨s1, s2, s3⟩, _⟩ := HCELL.out _ KV.out; have T9 : Hid (RowB w1.heap.size V (.slice (some ⟨g9, 0, none⟩) 2 2) (two n)) := Lib.hid (t9.low (by first | exact KE.out.size | exact KL.out.size)); (try have Q9 : Hid (SlR V 1 (.slice (some ⟨w1.heap.size, 0, none⟩) 2 2) 2 ([1, UInt8.ofNat y].map u8c)) := Lib.hid (by exact (LIT.out w1).kp ((Kp.refl (fun _ => False) _).drew.trans k9) (fun _ _ q => q))); clear t9 k9)
    | (refine step_appM (w0 := w1) _ (by rfl) (.tmp 23) (.tmp 27) 22 (by rfl) 5 j0 _ 1 Tryz.underlying22 hj0 hy0 hy1 hy2 (by decide) (by decide) (by decide) u8c_1 (.slice (some ⟨g9, 0, none⟩) 2 2) (two n) (by rfl) (by first | exact T9.out | exact T9.out.kp0 (kp_alloc _ _)) _ 2 [1, UInt8.ofNat y] (by rfl) (by first | exact Q9.out | exact LIT.out _) rfl (by first | exact KV.out | exact KV.out.alloc _) 4 rfl (by omega) ?_; intro a6 d6 w6 g1 g2 g3; have R6 := Lib.hid g1; have K6 := Lib.hid g2; obtain ⟨s0, ⟨s1, s2, s3⟩, hr6⟩ := HCELL.out _ g2; obtain ⟨r0, r1, r2⟩ := hr6.cells; have f0 : w6.frozen? ⟨G + 1, 0, none⟩ = false := free_of hr6 0; have f1 : w6.frozen? ⟨G + 1, 1, none⟩ = false := free_of hr6 1; have f2 : w6.frozen? ⟨G + 1, 2, none⟩ = false := free_of hr6 2; have HR6 := Lib.hid hr6; clear g1 g2 g3 hr6)))
  all_goals (go_wp2_with fail)
  all_goals
    obtain ⟨hst, hkst⟩ := HR6.out.store ha hb hc
    obtain ⟨y0, y1, y2⟩ := hst.cells
    have hk9 : Kp (fun _ => False) w _ := ((HKW.out.trans K1.out).trans K6.out).trans2 hkst (fun i hi q => by have := HGE.out; omega)
    have hr9 := RowM.kp R6.out hkst.drew (fun j q => by rw [q]; have := HS1.out; omega)
    have hl9 : (two n ++ [1, UInt8.ofNat y]).length = 4 := rfl
    refine bodyPost_ret (v := .tuple #[.slice a6 4 d6, hv3 ⟨ha, hb, hc⟩]) ?_ rfl ⟨a6, d6, by rw [HB.out]; simp only [hl9], by rw [HB.out]; simp only [hl9]; exact hr9.low (by have := HS1.out; have := HGE.out; omega), (by first | exact hk9 | exact hk9.drew)⟩
    simp [results, Tryz.results9, go_sem, y0, y1, y2, hv3]
theorem encode7_d (w : World) (p d : List UInt8) (ap : Option Addr) (cp : Nat) (hp : SlR w 1 (.slice ap p.length cp) p.length (p.map u8c)) (ad : Option Addr) (cd : Nat) (hd : SlR w 1 (.slice ad d.length cd) d.length (d.map u8c)) (hl1 : p.length ≤ 2000) (hl2 : d.length ≤ 500) (depth : Nat) (hd1 : 1 ≤ depth) (hd2 : depth ≤ 32) (h : H3) :
    Calls Tryz.prog 9 #[.slice ap p.length cp, .slice ad d.length cd, .int .i64 (depth : Nat), hv3 h] w (EncPost7 w (Bk.encB p d depth h).1 (Bk.encB p d depth h).2) := by
  cases e : Bk.same d with
  | true => exact encode7_same w p d ap cp ad cd hd hl2 depth h e
  | false => exact encode7_not w p d ap cp hp ad cd hd hl1 hl2 depth hd1 hd2 h e
end Go.Proofs.YtphakpikalmghaaGreat.Ma
namespace Go.Proofs.YtphakpikalmghaaGreat.blockEncodes
open Go Go.RowKit Go.ChangeMaps Go.MapKept Go.Mg Go.Mt Go.Hf Go.Proofs.YtphakpikalmghaaGreat.Hu Go.Proofs.YtphakpikalmghaaGreat.Bw Go.Proofs.YtphakpikalmghaaGreat.He Go.Proofs.YtphakpikalmghaaGreat.Rd Go.Proofs.YtphakpikalmghaaGreat.Sq Go.Proofs.YtphakpikalmghaaGreat.Bk Go.Proofs.YtphakpikalmghaaGreat.Ma Go.Proofs.YtphakpikalmghaaGreat.Op

set_option maxRecDepth 100000 in
set_option maxHeartbeats 1000000 in
theorem full (w : World) (a0 : Option Addr) (c0 : Nat) (l0 : List UInt8) (r0 : SlR w 1 (.slice a0 l0.length c0) l0.length (l0.map u8c)) (a1 : Option Addr) (c1 : Nat) (l1 : List UInt8) (r1 : SlR w 1 (.slice a1 l1.length c1) l1.length (l1.map u8c))
    (h0 : l0.length ≤ 300) (h1 : l1.length ≤ 500) (d : Nat) (h2 : 1 ≤ d) (h3 : d ≤ 32) (h : H3) (hf : decide ((1 : Int) ≤ h.a) && decide ((1 : Int) ≤ h.b) && decide ((1 : Int) ≤ h.c) && decide ((h.a : Int) ≤ 2500) && decide ((h.b : Int) ≤ 2500) && decide ((h.c : Int) ≤ 2500)) :
    Calls Tryz.prog 3 #[.slice a0 l0.length c0, .slice a1 l1.length c1, .int .i64 (d : Nat), hv3 h] w (LawPost w) := by
  have EP := Lib.hid (fun V (hV : Kp (fun _ => False) w V) => encP_p V l0 l1 a0 c0 (r0.kp hV (fun _ _ q => q)) a1 c1 (r1.kp hV (fun _ _ q => q)) (by omega) h1 d h2 h3 h)
  have ED := Lib.hid (fun V (hV : Kp (fun _ => False) w V) => encode7_d V l0 l1 a0 c0 (r0.kp hV (fun _ _ q => q)) a1 c1 (r1.kp hV (fun _ _ q => q)) (by omega) h1 d h2 h3 h)
  have FC := Lib.hid (fun V => fine_c (h.a : Int) (h.b : Int) (h.c : Int) V true (by rw [hf]))
  unfold EncPost7 at EP ED
  obtain ⟨R, hR⟩ : ∃ R, R = (Bk.encB l0 l1 d h).1 := ⟨_, rfl⟩
  obtain ⟨h9, hh9⟩ : ∃ h9, h9 = (Bk.encB l0 l1 d h).2 := ⟨_, rfl⟩
  rw [← hR, ← hh9] at EP ED
  obtain ⟨n0, hn0⟩ : ∃ n0, n0 = l0.length := ⟨_, rfl⟩
  obtain ⟨n1, hn1⟩ : ∃ n1, n1 = l1.length := ⟨_, rfl⟩
  rw [← hn0] at EP ED h0 ⊢
  rw [← hn1] at EP ED h1 ⊢
  have b0 : decide (300 < n0) = false := decide_eq_false (by omega)
  have b0' : decide ((300 : Int) < (n0 : Int)) = false := decide_eq_false (by omega)
  have b1 : decide (500 < n1) = false := decide_eq_false (by omega)
  have b1' : decide ((500 : Int) < (n1 : Int)) = false := decide_eq_false (by omega)
  have b2 : decide (d < 1) = false := decide_eq_false (by omega)
  have b2' : decide ((d : Int) < 1) = false := decide_eq_false (by omega)
  have b3 : decide (32 < d) = false := decide_eq_false (by omega)
  have b3' : decide ((32 : Int) < (d : Int)) = false := decide_eq_false (by omega)
  have EQ9 := eq_h3 (h9.a : Int) (h9.b : Int) (h9.c : Int) (h9.a : Int) (h9.b : Int) (h9.c : Int)
  have kA := kp_alloc w (.cells #[.int .i64 (h.a : Nat), .int .i64 (h.b : Nat), .int .i64 (h.c : Nat)] 23)
  have hA0 : HAt (w.alloc (.cells #[.int .i64 (h.a : Nat), .int .i64 (h.b : Nat), .int .i64 (h.c : Nat)] 23)) w.heap.size h := alloc_at w _
  obtain ⟨A, hA⟩ : ∃ A, A = w.alloc (.cells #[.int .i64 (h.a : Nat), .int .i64 (h.b : Nat), .int .i64 (h.c : Nat)] 23) := ⟨_, rfl⟩
  rw [← hA] at kA hA0
  have hfold := hA.symm
  obtain ⟨t0, t1, t2⟩ := hA0.cells
  have KA := Lib.hid kA
  have HA0 := Lib.hid hA0
  unfold hv3 at EP ED ⊢
  clear r0 r1 h0 h1 h2 h3 hf hR hh9 hn0 hn1 kA hA0 hA
  go_enter Tryz.func3, Tryz.ntmps3
  go_wp2_with fail
  refine (FC.out _).mono ?_
  rintro e V1 ⟨rfl, k1⟩
  obtain ⟨s0, s1, s2⟩ := (HA0.out.kp k1 (fun q => q)).cells
  have K1 := Lib.hid (KA.out.trans k1)
  have HA1 := Lib.hid (HA0.out.kp k1 (fun q => q))
  clear k1 t0 t1 t2 hfold FC
  go_wp2_with fail
  refine (EP.out V1 K1.out).mono ?_
  rintro e V2 ⟨a2, c2, rfl, r2, k2⟩
  have k3 := kp_alloc V2 (.cells #[.int .i64 (h9.a : Nat), .int .i64 (h9.b : Nat), .int .i64 (h9.c : Nat)] 23)
  have hp : HAt (V2.alloc (.cells #[.int .i64 (h9.a : Nat), .int .i64 (h9.b : Nat), .int .i64 (h9.c : Nat)] 23)) V2.heap.size h9 := alloc_at V2 _
  obtain ⟨V3, hV3⟩ : ∃ V3, V3 = V2.alloc (.cells #[.int .i64 (h9.a : Nat), .int .i64 (h9.b : Nat), .int .i64 (h9.c : Nat)] 23) := ⟨_, rfl⟩
  rw [← hV3] at k3 hp
  have hfold3 := hV3.symm
  obtain ⟨u0, u1, u2⟩ := (HA1.out.kp (k2.trans k3) (fun q => q)).cells
  have K3 := Lib.hid (K1.out.trans (k2.trans k3))
  have R3 := Lib.hid (r2.kp0 k3)
  have HP3 := Lib.hid hp
  clear k2 k3 r2 hp hV3 s0 s1 s2 EP HA1
  go_wp2_with fail
  refine (ED.out V3 K3.out).mono ?_
  rintro e V4 ⟨a4, c4, rfl, r4, k4⟩
  have k5 := kp_alloc V4 (.cells #[.int .i64 (h9.a : Nat), .int .i64 (h9.b : Nat), .int .i64 (h9.c : Nat)] 23)
  have hq : HAt (V4.alloc (.cells #[.int .i64 (h9.a : Nat), .int .i64 (h9.b : Nat), .int .i64 (h9.c : Nat)] 23)) V4.heap.size h9 := alloc_at V4 _
  obtain ⟨V5, hV5⟩ : ∃ V5, V5 = V4.alloc (.cells #[.int .i64 (h9.a : Nat), .int .i64 (h9.b : Nat), .int .i64 (h9.c : Nat)] 23) := ⟨_, rfl⟩
  rw [← hV5] at k5 hq
  have hfold5 := hV5.symm
  have v1 := strOf ((R3.out.kp0 (k4.trans k5)).sl.1)
  have v2 := strOf ((r4.kp0 k5).sl.1)
  obtain ⟨p0, p1, p2⟩ := (HP3.out.kp (k4.trans k5) (fun q => q)).cells
  obtain ⟨q0, q1, q2⟩ := hq.cells
  have K5 := Lib.hid (K3.out.trans (k4.trans k5))
  clear k4 k5 r4 hq hV5 u0 u1 u2 ED hfold3 HP3 R3
  go_wp2_with fail
  refine (known7_c _).mono ?_
  rintro e V6 ⟨rfl, k6⟩
  have K6 := Lib.hid (K5.out.trans k6)
  clear k6
  go_wp2_with fail
  go_ret
  exact ⟨rfl, K6.out.below⟩
set_option maxRecDepth 100000 in
set_option maxHeartbeats 1000000 in
theorem walk (a2 : Int) (_ : (Lit.int .i64 a2).wf = true) (w : World) (a0 : Option Addr) (c0 : Nat) (l0 : List UInt8) (r0 : SlR w 1 (.slice a0 l0.length c0) l0.length (l0.map u8c)) (a1 : Option Addr) (c1 : Nat) (l1 : List UInt8) (r1 : SlR w 1 (.slice a1 l1.length c1) l1.length (l1.map u8c))
    (x y z : Int) (_ : (Lit.int .i64 x).wf = true) (_ : (Lit.int .i64 y).wf = true) (_ : (Lit.int .i64 z).wf = true) :
    Calls Tryz.prog 3 #[.slice a0 l0.length c0, .slice a1 l1.length c1, .int .i64 a2, .agg #[.int .i64 x, .int .i64 y, .int .i64 z]] w (LawPost w) := by
  have KA := Lib.hid (kp_alloc w (.cells #[.int .i64 x, .int .i64 y, .int .i64 z] 23))
  by_cases h0 : l0.length ≤ 300
  · have b0 : decide (300 < l0.length) = false := decide_eq_false (by omega)
    have b0' : decide ((300 : Int) < (l0.length : Int)) = false := decide_eq_false (by omega)
    by_cases h1 : l1.length ≤ 500
    · have b1 : decide (500 < l1.length) = false := decide_eq_false (by omega)
      have b1' : decide ((500 : Int) < (l1.length : Int)) = false := decide_eq_false (by omega)
      by_cases h2 : 1 ≤ a2
      · have b2 : decide (a2 < 1) = false := decide_eq_false (by omega)
        by_cases h3 : a2 ≤ 32
        · have b3 : decide (32 < a2) = false := decide_eq_false (by omega)
          obtain ⟨B, hB⟩ : ∃ B, B = (decide (1 ≤ x) && decide (1 ≤ y) && decide (1 ≤ z) && decide (x ≤ 2500) && decide (y ≤ 2500) && decide (z ≤ 2500)) := ⟨_, rfl⟩
          cases B with
          | true =>
            have hb2 := hB.symm
            simp only [Bool.and_eq_true, decide_eq_true_eq] at hb2
            obtain ⟨d, rfl⟩ : ∃ d : Nat, a2 = (d : Nat) := ⟨a2.toNat, by omega⟩
            obtain ⟨X, rfl⟩ : ∃ X : Nat, x = (X : Nat) := ⟨x.toNat, by omega⟩
            obtain ⟨Y, rfl⟩ : ∃ Y : Nat, y = (Y : Nat) := ⟨y.toNat, by omega⟩
            obtain ⟨Z, rfl⟩ : ∃ Z : Nat, z = (Z : Nat) := ⟨z.toNat, by omega⟩
            exact full w a0 c0 l0 r0 a1 c1 l1 r1 h0 h1 d (by omega) (by omega) ⟨X, Y, Z⟩ hB.symm
          | false =>
            have FC := Lib.hid (fun V => fine_c x y z V false hB)
            have hA0 : (w.alloc (.cells #[.int .i64 x, .int .i64 y, .int .i64 z] 23)).heap[w.heap.size]? = _ := alloc_at w _
            obtain ⟨A, hA⟩ : ∃ A, A = w.alloc (.cells #[.int .i64 x, .int .i64 y, .int .i64 z] 23) := ⟨_, rfl⟩
            rw [← hA] at hA0 KA
            have hfold := hA.symm
            have t0 : A.cell? ⟨w.heap.size, 0, none⟩ = some (.int .i64 x) := by rw [cell_of hA0]; rfl
            have t1 : A.cell? ⟨w.heap.size, 1, none⟩ = some (.int .i64 y) := by rw [cell_of hA0]; rfl
            have t2 : A.cell? ⟨w.heap.size, 2, none⟩ = some (.int .i64 z) := by rw [cell_of hA0]; rfl
            clear r0 r1 h0 h1 h2 h3 hB hA hA0
            go_enter Tryz.func3, Tryz.ntmps3
            go_wp2_with fail
            refine (FC.out _).mono ?_
            rintro e V1 ⟨rfl, k1⟩
            have K1 := Lib.hid (KA.out.trans k1)
            clear k1 hfold t0 t1 t2 FC
            go_wp2_with fail
            go_ret
            exact ⟨rfl, K1.out.below⟩
        · have b3 : decide (32 < a2) = true := decide_eq_true (by omega)
          clear r0 r1 h0 h1 h2 h3
          go_enter Tryz.func3, Tryz.ntmps3
          go_wp2_with fail
          go_ret
          exact ⟨rfl, KA.out.below⟩
      · have b2 : decide (a2 < 1) = true := decide_eq_true (by omega)
        clear r0 r1 h0 h1 h2
        go_enter Tryz.func3, Tryz.ntmps3
        go_wp2_with fail
        go_ret
        exact ⟨rfl, KA.out.below⟩
    · have b1 : decide (500 < l1.length) = true := decide_eq_true (by omega)
      have b1' : decide ((500 : Int) < (l1.length : Int)) = true := decide_eq_true (by omega)
      clear r0 r1 h0 h1
      go_enter Tryz.func3, Tryz.ntmps3
      go_wp2_with fail
      go_ret
      exact ⟨rfl, KA.out.below⟩
  · have b0 : decide (300 < l0.length) = true := decide_eq_true (by omega)
    have b0' : decide ((300 : Int) < (l0.length : Int)) = true := decide_eq_true (by omega)
    clear r0 r1 h0
    go_enter Tryz.func3, Tryz.ntmps3
    go_wp2_with fail
    go_ret
    exact ⟨rfl, KA.out.below⟩
end Go.Proofs.YtphakpikalmghaaGreat.blockEncodes
namespace Go.Proofs.YtphakpikalmghaaGreat.Op
open Go Go.ChangeShapes Go.WideShapes Go.ChangeAt Go.RowKit Go.Mg Go.ChangeMaps Go.Deep
section
variable {H : Type} {enc : TypeId × Value → H} {w : World} {base : Nat} {spare : Nat → Bool} {held : Bool} {r : Reach} {b0 : Nat} {v : Value} {d : DataW H} {p : List MemPlace}
set_option maxRecDepth 100000 in
theorem get_h3 (hs : Tryz.prog.underlying 23 = some (.array 3 3)) (hv : Value.okWide Tryz.prog w r b0 23 v) (h : DataW.Trod enc Tryz.prog w base spare held 23 v d p) :
    ∃ x y z : Int, v = .agg #[.int .i64 x, .int .i64 y, .int .i64 z] ∧ (Lit.int .i64 x).wf = true ∧ (Lit.int .i64 y).wf = true ∧ (Lit.int .i64 z).wf = true := by
  unfold Value.okWide at hv
  rw [hs] at hv
  obtain ⟨cs, rfl, hsz, _⟩ := hv
  obtain ⟨fuel, hf0⟩ := h
  have hcs : Tryz.prog.cellsOf 23 = 3 := by kernel_rfl
  have hci : Tryz.prog.cellsOf 3 = 1 := by kernel_rfl
  rw [hcs] at hsz
  obtain ⟨l, rfl⟩ : ∃ l : List Value, cs = l.toArray := ⟨cs.toList, by simp⟩
  obtain ⟨c0, c1, c2, rfl⟩ : ∃ c0 c1 c2, l = [c0, c1, c2] := by
    have hsz : l.length = 3 := by simpa using hsz
    match l, hsz with
    | [c0, c1, c2], _ => exact ⟨c0, c1, c2, rfl⟩
  obtain ⟨xs, m, _, _, _, hxl, hf⟩ := DataW.trod_array hs hf0
  have get : ∀ i, i < 3 → ∃ z, DataW.trod enc Tryz.prog w base spare held m 3 (([c0, c1, c2].drop i).take 1) = some z := fun i hi => by
    have := hf i hi
    rw [hci, Nat.mul_one] at this
    have hlt : i < xs.length := by rw [hxl]; exact hi
    exact ⟨xs[i], by rw [← List.getElem?_eq_getElem hlt, ← this]; rfl⟩
  obtain ⟨z0, g0⟩ := get 0 (by omega)
  obtain ⟨z1, g1⟩ := get 1 (by omega)
  obtain ⟨z2, g2⟩ := get 2 (by omega)
  obtain ⟨x, e0, w0⟩ := int_of (enc := enc) Tryz.underlying3 g0
  obtain ⟨y, e1, w1⟩ := int_of (enc := enc) Tryz.underlying3 g1
  obtain ⟨z, e2, w2⟩ := int_of (enc := enc) Tryz.underlying3 g2
  simp only [List.drop_zero, List.drop_succ_cons, List.take_succ_cons, List.take_zero, List.cons.injEq, and_true] at e0 e1 e2
  subst e0 e1 e2
  exact ⟨x, y, z, rfl, w0, w1, w2⟩
end
end Go.Proofs.YtphakpikalmghaaGreat.Op
