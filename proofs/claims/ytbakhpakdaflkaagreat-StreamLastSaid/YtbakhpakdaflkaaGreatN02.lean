/- Bytes as a string. The walk of StreamLast. -/
import Derived.Deep.RegionHeld3
import Derived.Deep.RegionLaw
import Derived.Deep.DeepCutAuto
import Derived.Test.YtbakhpakdaflkaaGreatN01
namespace Go.Proofs.YtbakhpakdaflkaaGreat.He
open Go Go.RowKit Go.ChangeMaps Go.MapKept Go.Mg Go.Hf Go.Sort Go.Proofs.YtbakhpakdaflkaaGreat.Hu Go.Proofs.YtbakhpakdaflkaaGreat.Bw

set_option maxRecDepth 100000 in
theorem strOf {w : World} {a : Option Addr} {n cap : Nat} {l : List UInt8} (h : SlR w 1 (.slice a n cap) l.length (l.map u8c)) : (convert 24 9 (.slice a n cap)).run Tryz.prog w = .ok (.string ⟨l.toArray⟩) w := by
  obtain ⟨h0, a', c', e, h1, h2, h3, h4⟩ := h
  simp only [Value.slice.injEq] at e
  obtain ⟨rfl, rfl, rfl⟩ := e
  by_cases hl : 0 < l.length
  · obtain ⟨g, off, rfl, hg, hc⟩ := h4 hl
    have := run_convert_bytes_arg (P := Tryz.prog) w 24 5 Tryz.underlying24 Tryz.underlying5 g off l.length cap (l.map fun b => (b.toNat : Int)) (by simp) (fun i hi => by
      rw [hc i (u8c l[i]) (by simp [hi])]
      simp [u8c, List.getD, hi]) 9 Tryz.underlying9
    rw [this]
    simp only [strOfNums, List.map_map]
    congr 3
    have : ((fun n : Int => UInt8.ofNat n.toNat) ∘ fun b : UInt8 => (b.toNat : Int)) = id := by funext b; simp
    rw [this, List.map_id]
  · have : l = [] := List.eq_nil_of_length_eq_zero (by omega)
    subst this
    cases a with
    | none => exact run_convert_bytes_nil (P := Tryz.prog) w 24 5 Tryz.underlying24 Tryz.underlying5 _ _ 9 Tryz.underlying9
    | some ad =>
      rw [run_convert_bytes_string w 24 9 5 (some ad) _ cap Tryz.underlying24 Tryz.underlying5 Tryz.underlying9]
      simp [Conv.bytesToString, loadCells, loadCellsFrom]
      rfl

end Go.Proofs.YtbakhpakdaflkaaGreat.He
namespace Go.Proofs.YtbakhpakdaflkaaGreat.streamLast
open Go Go.RowKit Go.ChangeMaps Go.MapKept Go.Mg Go.Mt Go.Proofs.YtbakhpakdaflkaaGreat.Hu Go.Proofs.YtbakhpakdaflkaaGreat.Sq Go.Proofs.YtbakhpakdaflkaaGreat.Bk Go.Proofs.YtbakhpakdaflkaaGreat.Ma Go.Proofs.YtbakhpakdaflkaaGreat.Str Go.Proofs.YtbakhpakdaflkaaGreat.Op Go.Proofs.YtbakhpakdaflkaaGreat.He

theorem enc_nil (p : List UInt8) (d : Nat) (h : H3)   : Bk.encB p [] d h = ([0, 0, 0], h) := by
  have hs : Bk.same [] = false := by simp [Bk.same]
  unfold Bk.encB
  rw [if_neg (by rw [hs]; decide), if_neg (by simp)]
  rfl
theorem end_nil (id d : Nat) : endO (S0 id d []) = headB id ++ [1, 0, 0, 0] ++ lowB (sumN []) := by
  have e : Str.enc (S0 id d []) (S0 id d []).kept.length = ([0, 0, 0], ⟨1, 4, 8⟩) := by
    unfold Str.enc
    show Bk.encB _ (List.take 0 []) d ⟨1, 4, 8⟩ = _
    rw [List.take_zero]
    exact enc_nil _ _ _
  unfold endO blkO
  rw [e]
  show (headB id ++ [1] ++ [0, 0, 0]) ++ lowB (sumN []) = _
  simp only [List.append_assoc, List.cons_append, List.nil_append]
theorem rowB_sl {n : Nat} {w : World} {v : Value} {a : Option Addr} {m c : Nat} {O : List UInt8} (h : RowB n w v O) (e : v = .slice a m c) : SlR w 1 (.slice a O.length c) O.length (O.map u8c) ∧ m = O.length := by
  obtain ⟨a', c', e', h1, _⟩ := h
  rw [e] at e'
  simp only [Value.slice.injEq] at e'
  obtain ⟨rfl, rfl, rfl⟩ := e'
  rw [e] at h1
  exact ⟨h1.sl, rfl⟩
theorem ba_app (a b : List UInt8) : (⟨a.toArray⟩ : ByteArray) ++ ⟨b.toArray⟩ = ⟨(a ++ b).toArray⟩ := by
  apply ByteArray.ext
  simp
set_option maxRecDepth 100000 in
set_option maxHeartbeats 4000000 in
theorem full (w : World) (id : Nat) (lv : Int) (h1 : 1 ≤ lv) (h2 : lv ≤ 3) (h3 : id ≤ 2147483647) :
    Calls Tryz.prog 4 #[.int .i64 (id : Nat), .int .i64 lv] w (LawPost w) := by
  obtain ⟨dl, hdl, hd⟩ := dep_lv h1 h2
  have NW := new_lvR w [] none 0 id lv dl h1 h2 hd (SlR.nil _ _) h3 (by simp)
  have NW : Calls Tryz.prog 12 #[.slice none 0 0, .int .i64 (id : Nat), .int .i64 lv] w (NewRPost w (S0 id dl [])) := NW
  have NW := Lib.hid NW
  have b0 : decide (lv < 1) = false := decide_eq_false (by omega)
  have b1 : decide (3 < lv) = false := decide_eq_false (by omega)
  have b2 : decide ((id : Int) < 0) = false := decide_eq_false (by omega)
  have b3 : decide ((2147483648 : Int) ≤ (id : Int)) = false := decide_eq_false (by omega)
  have WF0 := s0_wf (id := id) (d := dl) (dict := []) hdl.1 hdl.2 h3 (by simp) 0
  have EN := Lib.hid (fun G wx s (h : L1 G w wx s (S0 id dl [])) => end1 h rfl (by show (0 : Nat) ≤ 500; omega) (WF0.mono (by omega)))
  have HD := Lib.hid (fun V => head_d V id h3)
  have SM : Hid (∀ V, Calls Tryz.prog 17 #[.slice none 0 0] V (SumFPost V [])) := Lib.hid (fun V => sumF_d V [] none 0 (SlR.nil _ _) (by simp))
  obtain ⟨OE, hOE⟩ : ∃ O, O = endO (S0 id dl []) := ⟨_, rfl⟩
  obtain ⟨Z2, hZ2⟩ : ∃ Z, Z = endS' (S0 id dl []) := ⟨_, rfl⟩
  obtain ⟨Z0, hZ0⟩ : ∃ Z, Z = S0 id dl [] := ⟨_, rfl⟩
  rw [← hOE, ← hZ2, ← hZ0] at EN
  rw [← hZ0] at NW
  have HE := end_nil id dl
  rw [← hOE] at HE
  have HL := headB_len id
  have HL2 := lowB_len (sumN [])
  obtain ⟨X1, hX1⟩ : ∃ X : ByteArray, X = ⟨(headB id).toArray⟩ := ⟨_, rfl⟩
  obtain ⟨X3, hX3⟩ : ∃ X : ByteArray, X = ⟨(lowB (sumN [])).toArray⟩ := ⟨_, rfl⟩
  have XE : (⟨OE.toArray⟩ : ByteArray) = X1 ++ ⟨#[1, 0, 0, 0]⟩ ++ X3 := by
    rw [hX1, hX3, HE, show (⟨#[1, 0, 0, 0]⟩ : ByteArray) = ⟨([1, 0, 0, 0] : List UInt8).toArray⟩ from rfl, ba_app, ba_app]
  have ST1 := Lib.hid (fun V a c (h : SlR V 1 (.slice a (headB id).length c) (headB id).length ((headB id).map u8c)) => strOf h)
  have ST3 := Lib.hid (fun V a c (h : SlR V 1 (.slice a (lowB (sumN [])).length c) (lowB (sumN [])).length ((lowB (sumN [])).map u8c)) => strOf h)
  have STE := Lib.hid (fun V a c (h : SlR V 1 (.slice a OE.length c) OE.length (OE.map u8c)) => strOf h)
  rw [← hX1, HL] at ST1
  rw [← hX3, HL2] at ST3
  rw [XE] at STE
  have sz1 : X1.size = 8 := by rw [hX1]; exact HL
  have sz3 : X3.size = 4 := by rw [hX3]; exact HL2
  have szl : (⟨#[1, 0, 0, 0]⟩ : ByteArray).size = 4 := rfl
  have ad1 : ¬ ((9223372036854775807 : Int) < ((X1.size + (⟨#[1, 0, 0, 0]⟩ : ByteArray).size : Nat) : Int)) := by omega
  have ad2 : ¬ ((9223372036854775807 : Int) < (((X1 ++ ⟨#[1, 0, 0, 0]⟩).size + X3.size : Nat) : Int)) := by rw [ByteArray.size_append]; omega
  clear h1 h2 h3 hd hdl WF0 hOE hZ2 hZ0 HE HL HL2 hX1 hX3 XE
  go_enter Tryz.func4, Tryz.ntmps4
  go_wp2_with fail
  refine NW.out.mono ?_
  intro e w1 he
  obtain ⟨s, rfl, l1⟩ := L1.of_new (Kp.refl _ w) (fun _ => False) (fun _ q => q.elim) he
  have LL := Lib.hid l1
  clear l1 he
  go_upto_region 6 with fail
  go_cut [6] (fun v wx => v = .string (X1 ++ ⟨#[1, 0, 0, 0]⟩ ++ X3) ∧ Kp (fun _ => False) w1 wx)
  case first =>
    have KD := Lib.hid ((Kp.refl (fun _ => False) w1).drew)
    go_region_law (first
      | (go_simp; go_at_call 16; refine (HD.out _).mono ?_; rintro e w2 ⟨a2, c2, rfl, p2, k2⟩
         have K2 := Lib.hid (KD.out.trans k2)
         have v1 := ST1.out w2 a2 c2 (by have q := rowB_sl p2 rfl; rw [← q.2] at q; exact q.1)
         have P2 := Lib.hid p2
         clear p2 k2)
      | (go_simp; go_at_call 17; refine (SM.out _).mono ?_; rintro e w3 ⟨a3, c3, rfl, p3, k3⟩
         have K3 := Lib.hid (K2.out.trans k3)
         have v1 := ST1.out w3 a2 c2 (by have q := rowB_sl (P2.out.kp k3 (fun _ q => q.elim)) rfl; rw [← q.2] at q; exact q.1)
         have v3 := ST3.out w3 a3 c3 (by have q := rowB_sl p3 rfl; rw [← q.2] at q; exact q.1)
         clear p3 k3))
    all_goals (go_wp2_with fail; go_meet; exact ⟨rfl, K3.out⟩)
  case rest =>
    obtain ⟨rfl, kx⟩ := hcut
    obtain ⟨wa, hwa⟩ : ∃ wa : World, wa = wc := ⟨_, rfl⟩
    rw [← hwa] at kx ⊢
    have EE := Lib.hid (EN.out _ _ _ (LL.out.kp0 kx))
    clear hwa kx EN LL
    go_wp2_with fail
    refine Calls.mono EE.out ?_
    rintro e w4 ⟨a4, c4, rfl, r4, l4, _⟩
    have v4 := STE.out w4 a4 c4 (rowB_sl r4 rfl).1
    have K4 := Lib.hid l4.kp
    clear r4 l4
    go_wp2_with fail
    refine (known9_c _).mono ?_
    rintro e w5 ⟨rfl, k5⟩
    have K5 := Lib.hid (K4.out.trans k5)
    clear k5
    go_wp2_with fail
    go_ret
    exact ⟨rfl, K5.out.below⟩
set_option maxRecDepth 100000 in
set_option maxHeartbeats 1000000 in
theorem walk (id : Int) (_ : (Lit.int .i64 id).wf = true) (lv : Int) (_ : (Lit.int .i64 lv).wf = true) (w : World) :
    Calls Tryz.prog 4 #[.int .i64 id, .int .i64 lv] w (LawPost w) := by
  by_cases h1 : id < 0
  · have b0 : decide (id < 0) = true := decide_eq_true h1
    go_enter Tryz.func4, Tryz.ntmps4
    go_wp2_with fail
    go_ret
    exact ⟨rfl, Below.refl _ _⟩
  · have b0 : decide (id < 0) = false := decide_eq_false h1
    by_cases h2 : 2147483648 ≤ id
    · have b1 : decide (2147483648 ≤ id) = true := decide_eq_true h2
      go_enter Tryz.func4, Tryz.ntmps4
      go_wp2_with fail
      go_ret
      exact ⟨rfl, Below.refl _ _⟩
    · have b1 : decide (2147483648 ≤ id) = false := decide_eq_false h2
      by_cases h3 : lv < 1
      · have b2 : decide (lv < 1) = true := decide_eq_true h3
        go_enter Tryz.func4, Tryz.ntmps4
        go_wp2_with fail
        go_ret
        exact ⟨rfl, Below.refl _ _⟩
      · have b2 : decide (lv < 1) = false := decide_eq_false h3
        by_cases h4 : 3 < lv
        · have b3 : decide (3 < lv) = true := decide_eq_true h4
          go_enter Tryz.func4, Tryz.ntmps4
          go_wp2_with fail
          go_ret
          exact ⟨rfl, Below.refl _ _⟩
        · obtain ⟨m, rfl⟩ := Int.eq_ofNat_of_zero_le (show 0 ≤ id by omega)
          exact full w m lv (by omega) (by omega) (by omega)
end Go.Proofs.YtbakhpakdaflkaaGreat.streamLast
