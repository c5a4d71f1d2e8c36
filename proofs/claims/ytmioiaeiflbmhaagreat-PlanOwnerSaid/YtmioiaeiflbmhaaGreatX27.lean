/- hash: begins. hash: Sum. frame: low, Head, Window, Sum. stream: Depth, Begin, Clone, New. -/
import Derived.Deep.RegionHeld3
import Derived.Deep.RegionLaw
import Derived.Deep.DeepCutAuto
import Derived.Lib.SlBytesConst
import Derived.Laws.ResultCell
import Derived.Conc.SmallLaws
import Derived.Lib.SliceRun
import Derived.Test.YtmioiaeiflbmhaaGreatX26
namespace Go.Proofs.YtmioiaeiflbmhaaGreat.Str
open Go Go.RowKit Go.ChangeMaps Go.MapKept Go.Mg Go.Mt Go.Proofs.YtmioiaeiflbmhaaGreat.Ma
theorem LaneAt.kp {F : Nat → Prop} {w w' : World} {g : Nat} {L : Nat → Int} (h : LaneAt w g L) (hk : Kp F w w') (hF : ¬ F g) : LaneAt w' g L := hk.at_ h hF
theorem LaneAt.cell {w : World} {g : Nat} {L : Nat → Int} (h : LaneAt w g L) {i : Nat} (hi : i < 4) : w.cell? ⟨g, i, none⟩ = some (.int .u64 (L i)) := by
  rw [cell_of h]
  have : i = 0 ∨ i = 1 ∨ i = 2 ∨ i = 3 := by omega
  rcases this with rfl | rfl | rfl | rfl <;> rfl
theorem LaneAt.set {w : World} {g : Nat} {L : Nat → Int} (h : LaneAt w g L) {i : Nat} (hi : i < 4) (v : Int) : LaneAt (w.setCell ⟨g, i, none⟩ (.int .u64 v)) g (fun j => if j = i then v else L j) := by
  unfold LaneAt
  rw [setCell_at h]
  have : i = 0 ∨ i = 1 ∨ i = 2 ∨ i = 3 := by omega
  rcases this with rfl | rfl | rfl | rfl <;> rfl
def part (L M : Nat → Int) (i : Nat) : Nat → Int := fun j => if j < i then M j else L j
theorem part_zero (L M : Nat → Int) : part L M 0 = L := by funext j; simp [part]
theorem part_set (L M : Nat → Int) (i : Nat) : (fun j => if j = i then M i else part L M i j) = part L M (i + 1) := by
  funext j
  unfold part
  by_cases e : j = i
  · subst e; simp
  · by_cases h : j < i
    · rw [if_neg e, if_pos h, if_pos (by omega)]
    · rw [if_neg e, if_neg h, if_neg (by omega)]
theorem part_at (L M : Nat → Int) (i : Nat) : part L M i i = L i := by simp [part]
theorem LaneAt.congr {w : World} {g : Nat} {L M : Nat → Int} (h : LaneAt w g L) (e : ∀ j, j < 4 → L j = M j) : LaneAt w g M := by
  unfold LaneAt at h ⊢
  rw [h, e 0 (by omega), e 1 (by omega), e 2 (by omega), e 3 (by omega)]
theorem part_four (L M : Nat → Int) {j : Nat} (h : j < 4) : part L M 4 j = M j := by simp [part, h]
def begH (l : List UInt8) : Int := if 32 ≤ l.length then mixAll (eat l.length lanes0 l).1 (addL (eat l.length lanes0 l).1 4) 4 else 2870177450012600261
def begR (l : List UInt8) : List UInt8 := if 32 ≤ l.length then (eat l.length lanes0 l).2 else l
def BegPost (w : World) (l : List UInt8) (e : Ending) (w' : World) : Prop := ∃ (a : Option Addr) (c : Nat), e = .returned (.tuple #[.int .u64 (begH l), .slice a (begR l).length c]) ∧ SlR w 1 (.slice a (begR l).length c) (begR l).length ((begR l).map u8c) ∧ Kp (fun _ => False) w w'
theorem u8size : (Tryz.prog.info? 5).map (·.size) = some 1 := by kernel_rfl
theorem pre_len {r : List UInt8} {n : Nat} (h : n ≤ r.length) : (r.take n).length = n := by simp; omega
theorem num_at (w : World) (r : List UInt8) (k : Nat) (a : Option Addr) (c : Nat) (h : SlR w 1 (.slice a r.length c) r.length (r.map u8c)) (n : Nat) (hn : 0 < n) (hn8 : n ≤ 8) (hk : k + n ≤ r.length) :
    ∃ a' c', (∀ w', (Instr.slice 23 (.slice a r.length c) (some (.int .i64 (k : Nat))) (some (.int .i64 ((k + n : Nat) : Int))) none).run Tryz.prog w' = .ok (.slice a' n c') w') ∧
      ∀ V, Kp (fun _ => False) w V → Calls Tryz.prog 125 #[.slice a' n c'] V fun e w' => e = .returned (.int .u64 (numN (r.drop k) n : Nat)) ∧ w' = V := by
  obtain ⟨a', c', hr, hs, _⟩ := h.mid Tryz.underlying23 u8size (show k ≤ k + n by omega) hk
  have e1 : k + n - k = n := by omega
  rw [e1] at hr hs
  refine ⟨a', c', hr, fun V hV => ?_⟩
  have hl := pre_len (r := r.drop k) (n := n) (by simp; omega)
  have hs' := hs.kp hV (fun _ _ q => q)
  simp only [Nat.mul_one, ← List.map_drop, ← List.map_take] at hs'
  have := number_p V ((r.drop k).take n) a' c' (by rw [hl]; exact hs') (by rw [hl]; omega) (by rw [hl]; omega)
  rw [hl, numN_take _ _ _ (Nat.le_refl _)] at this
  exact this
theorem ix4 (a b c d : Int) (w : World) : (Instr.index 208 (.agg #[.int .u64 a, .int .u64 b, .int .u64 c, .int .u64 d]) (.int .i64 0)).run Tryz.prog w = .ok (.int .u64 a) w ∧ (Instr.index 208 (.agg #[.int .u64 a, .int .u64 b, .int .u64 c, .int .u64 d]) (.int .i64 1)).run Tryz.prog w = .ok (.int .u64 b) w ∧ (Instr.index 208 (.agg #[.int .u64 a, .int .u64 b, .int .u64 c, .int .u64 d]) (.int .i64 2)).run Tryz.prog w = .ok (.int .u64 c) w ∧ (Instr.index 208 (.agg #[.int .u64 a, .int .u64 b, .int .u64 c, .int .u64 d]) (.int .i64 3)).run Tryz.prog w = .ok (.int .u64 d) w := ⟨by kernel_rfl, by kernel_rfl, by kernel_rfl, by kernel_rfl⟩
set_option maxRecDepth 100000 in
set_option maxHeartbeats 2000000 in
theorem begins_p (w : World) (l : List UInt8) (a : Option Addr) (c : Nat) (h : SlR w 1 (.slice a l.length c) l.length (l.map u8c)) (hl : l.length ≤ 100000) :
    Calls Tryz.prog 122 #[.int .u64 0, .slice a l.length c] w (BegPost w l) := by
  by_cases h32 : 32 ≤ l.length
  · have HE : Hid (begH l = mixAll (eat l.length lanes0 l).1 (addL (eat l.length lanes0 l).1 4) 4) := Lib.hid (by unfold begH; rw [if_pos h32])
    have HR : Hid (begR l = (eat l.length lanes0 l).2) := Lib.hid (by unfold begR; rw [if_pos h32])
    obtain ⟨E, hE⟩ : ∃ E, E = eat l.length lanes0 l := ⟨_, rfl⟩
    rw [← hE] at HE HR
    have H := Lib.hid h
    have HLE := Lib.hid hE.symm
    obtain ⟨n, hn⟩ : ∃ n, n = l.length := ⟨_, rfl⟩
    rw [← hn] at hl h32 ⊢
    have HN := Lib.hid hn
    have h32' : decide ((n : Int) < 32) = false := decide_eq_false (by omega)
    clear h hE hn
    go_enter Tryz.func122, Tryz.ntmps122
    go_wp2_with fail
    have K0 := Lib.hid (kp_alloc w (.cells #[.int .u64 (IntKind.u64.wrap 25430182151971714518), .int .u64 14029467366897019727, .int .u64 0, .int .u64 (IntKind.u64.wrap (-11400714785074694791))] 208))
    have L0 := Lib.hid (show LaneAt (w.alloc (.cells #[.int .u64 (IntKind.u64.wrap 25430182151971714518), .int .u64 14029467366897019727, .int .u64 0, .int .u64 (IntKind.u64.wrap (-11400714785074694791))] 208)) w.heap.size lanes0 from alloc_at w _)
    go_loopw [1] (fun v wr => ∃ (f : Nat) (L : Nat → Int) (r : List UInt8) (ab : Option Addr) (cb : Nat), v = .slice ab r.length cb ∧ SlR w 1 v r.length (r.map u8c) ∧ LaneAt wr w.heap.size L ∧ eat f L r = E ∧ r.length ≤ f ∧ r.length ≤ n ∧ Kp (fun _ => False) w wr) (fun v _ => match v with | .slice _ k _ => k | _ => 0)
    case atStart => exact ⟨l.length, lanes0, l, a, c, by rw [HN.out], by rw [HN.out]; exact H.out, L0.out, HLE.out, Nat.le_refl _, Nat.le_of_eq HN.out.symm, K0.out⟩
    case round =>
      obtain ⟨f, L, r, ab, cb, rfl, hr, hL, he, hf, hrn, hk⟩ := hrel
      have HRW := Lib.hid hr
      have HLA := Lib.hid hL
      have HEE := Lib.hid he
      have HK := Lib.hid hk
      obtain ⟨m, hm⟩ : ∃ m, m = r.length := ⟨_, rfl⟩
      rw [← hm] at hrn ⊢
      have HM := Lib.hid hm
      have HF := Lib.hid hf
      clear hr hL he hk hm hf L0 K0 HLE H
      by_cases hge : 32 ≤ m
      · have hge' : decide ((32 : Int) ≤ (m : Int)) = true := decide_eq_true (by omega)
        obtain ⟨wo, rfl⟩ : ∃ wo : World, wo = wr := ⟨_, rfl⟩
        go_wp2_with fail
        go_loopw [36] (fun i wx => ∃ j : Nat, j ≤ 4 ∧ i = .int .i64 j ∧ LaneAt wx w.heap.size (part L (rnd L r) j) ∧ Kp (fun _ => False) w wx) (fun i _ => 4 - (intOf i).toNat)
        case atStart => exact ⟨0, by omega, rfl, by rw [part_zero]; exact HLA.out, HK.out⟩
        case round =>
          obtain ⟨j, hj, rfl, hlj, hkj⟩ := hrel
          have HLJ := Lib.hid hlj
          have HKJ := Lib.hid hkj
          clear hlj hkj
          by_cases hj4 : j < 4
          · have d0 : wr.cell? ⟨w.heap.size, j, none⟩ = some (.int .u64 (L j)) := by rw [HLJ.out.cell hj4, part_at]
            have d1 : wr.drew.cell? ⟨w.heap.size, j, none⟩ = some (.int .u64 (L j)) := d0
            have f0 : wr.frozen? ⟨w.heap.size, j, none⟩ = false := free_of HLJ.out _
            have f1 : wr.drew.frozen? ⟨w.heap.size, j, none⟩ = false := f0
            obtain ⟨a8, c8, hrun, hnum⟩ := num_at wr r (8 * j) ab cb (HRW.out.kp HKJ.out (fun _ _ q => q)) 8 (by omega) (by omega) (by rw [← HM.out]; omega)
            have e1 : ((8 * j : Nat) : Int) = 8 * (j : Int) := by push_cast; rfl
            have e2 : ((8 * j + 8 : Nat) : Int) = 8 * ((j : Int) + 1) := by push_cast; omega
            rw [e1, e2, ← HM.out] at hrun
            have hsh : IntKind.i64.wrap (8 * (j : Int)) = 8 * (j : Int) := by rw [IntKind.wrap_i64]; omega
            have hsh1 : IntKind.i64.wrap (8 * ((j : Int) + 1)) = 8 * ((j : Int) + 1) := by rw [IntKind.wrap_i64]; omega
            have hj1 : IntKind.i64.wrap ((j : Int) + 1) = (j : Int) + 1 := by rw [IntKind.wrap_i64]; omega
            have hj0 : (0 : Int) ≤ (j : Int) := by omega
            have hj4' : (j : Int) < 4 := by omega
            have NU := Lib.hid hnum
            have ST := Lib.hid (fun V x v => stir_p V x v)
            have HV : Hid (rnd L r j = stirI (L j) (numN (r.drop (8 * j)) 8 : Nat)) := Lib.hid rfl
            generalize numN (r.drop (8 * j)) 8 = nv at NU HV
            clear hnum e1 e2
            go_wp2_with fail
            go_region_law (first
              | (go_simp; go_at_call 125; refine (NU.out _ (Kp.refl _ _).drew).mono ?_; rintro e w2 ⟨rfl, rfl⟩)
              | (go_simp; go_at_call 124; refine (ST.out _ _ _).mono ?_; rintro e w2 ⟨rfl, rfl⟩))
            all_goals (go_wp2_with fail)
            all_goals exact ⟨⟨j + 1, by omega, by go_num, by rw [← part_set, HV.out]; exact HLJ.out.set hj4 _, (HKJ.out.setCell (fun q => absurd q (Nat.lt_irrefl _)) _).drew⟩, by simp [intOf]; omega⟩
          · obtain rfl : j = 4 := by omega
            obtain ⟨a9, c9, hfr, hs9, _⟩ := HRW.out.from_ Tryz.underlying23 u8size (k := 32) (by rw [← HM.out]; exact hge)
            rw [show ((32 : Nat) : Int) = 32 from rfl, ← HM.out] at hfr
            go_wp2_with fail
            obtain ⟨f', rfl⟩ : ∃ f', f = f' + 1 := ⟨f - 1, by have := HF.out; rw [← HM.out] at this; omega⟩
            have h32r : 32 ≤ r.length := by rw [← HM.out]; exact hge
            have hdl : (r.drop 32).length = m - 32 := by rw [List.length_drop, HM.out]
            have hEE := HEE.out
            rw [eat_go h32r] at hEE
            refine ⟨⟨f', rnd L r, r.drop 32, a9, c9, by rw [hdl], ?_, HLJ.out.congr (fun j hj => part_four _ _ hj), hEE, ?_, ?_, HKJ.out⟩, ?_⟩
            · rw [hdl]
              have := hs9
              simp only [Nat.mul_one, ← List.map_drop] at this
              rw [← HM.out] at this
              exact this
            · rw [hdl]; have := HF.out; rw [← HM.out] at this; omega
            · rw [hdl]; omega
            · simp; omega
      · have hge' : decide ((32 : Int) ≤ (m : Int)) = false := decide_eq_false (by omega)
        obtain ⟨wo, rfl⟩ : ∃ wo : World, wo = wr := ⟨_, rfl⟩
        have HEQ : Hid (E = (L, r)) := Lib.hid (by rw [← HEE.out]; exact eat_stop (by rw [← HM.out]; exact hge))
        go_wp2_with fail
        have KW := Lib.hid (HK.out.alloc (.cells #[.int .i64 1, .int .i64 7, .int .i64 12, .int .i64 18] 3))
        have LW := Lib.hid (HLA.out.kp (kp_alloc wo (.cells #[.int .i64 1, .int .i64 7, .int .i64 12, .int .i64 18] 3)) (fun q => q))
        have CW : Hid (∀ i, i < 4 → (wo.alloc (.cells #[.int .i64 1, .int .i64 7, .int .i64 12, .int .i64 18] 3)).cell? ⟨wo.heap.size, i, none⟩ = some (.int .i64 (by_ i : Nat))) := Lib.hid (fun i hi => by
          rw [cell_of (alloc_at _ _)]
          have : i = 0 ∨ i = 1 ∨ i = 2 ∨ i = 3 := by omega
          rcases this with rfl | rfl | rfl | rfl <;> rfl)
        obtain ⟨W, hW⟩ : ∃ W, W = wo.alloc (.cells #[.int .i64 1, .int .i64 7, .int .i64 12, .int .i64 18] 3) := ⟨_, rfl⟩
        rw [← hW] at KW LW CW ⊢
        clear hW
        go_loopw [9, 56] (fun h i wx => ∃ j : Nat, j ≤ 4 ∧ i = .int .i64 j ∧ h = .int .u64 (addL L j) ∧ wx = W) (fun _ i _ => 4 - (intOf i).toNat)
        case atStart => exact ⟨0, by omega, rfl, rfl, rfl⟩
        case round =>
          obtain ⟨j, hj, rfl, rfl, hwr⟩ := hrel
          obtain rfl := hwr
          by_cases hj4 : j < 4
          · have d0 := CW.out j hj4
            have d1 := LW.out.cell hj4
            have hj0 : (0 : Int) ≤ (j : Int) := by omega
            have hj4' : (j : Int) < 4 := by omega
            have hj1 : IntKind.i64.wrap ((j : Int) + 1) = (j : Int) + 1 := by rw [IntKind.wrap_i64]; omega
            have RO := Lib.hid (fun x => rot_p wr x (by_ j) (by
              have : j = 0 ∨ j = 1 ∨ j = 2 ∨ j = 3 := by omega
              unfold Turn
              rcases this with rfl | rfl | rfl | rfl <;> simp [by_]))
            have HA : Hid (addL L (j + 1) = IntKind.u64.wrap (addL L j + rl (L j) (by_ j))) := Lib.hid rfl
            go_wp2_with fail
            refine (RO.out _).mono ?_
            rintro e w2 ⟨rfl, rfl⟩
            go_wp2_with fail
            exact ⟨⟨j + 1, by omega, by go_num, by rw [HA.out], trivial⟩, by simp [intOf]; omega⟩
          · obtain rfl : j = 4 := by omega
            have c0 := LW.out.cell (i := 0) (by omega)
            have c1 := LW.out.cell (i := 1) (by omega)
            have c2 := LW.out.cell (i := 2) (by omega)
            have c3 := LW.out.cell (i := 3) (by omega)
            obtain ⟨wo2, rfl⟩ : ∃ wo2 : World, wo2 = wr := ⟨_, rfl⟩
            go_wp2_with fail
            go_loopw [9, 70] (fun h i wx => ∃ j : Nat, j ≤ 4 ∧ i = .int .i64 j ∧ h = .int .u64 (mixAll L (addL L 4) j) ∧ wx = wo2) (fun _ i _ => 4 - (intOf i).toNat)
            case atStart => exact ⟨0, by omega, rfl, rfl, rfl⟩
            case round =>
              obtain ⟨j, hj, rfl, rfl, hwr⟩ := hrel
              obtain rfl := hwr
              have ST := Lib.hid (fun V x v => stir_p V x v)
              by_cases hj4 : j < 4
              · have hix : (Instr.index 208 (.agg #[.int .u64 (L 0), .int .u64 (L 1), .int .u64 (L 2), .int .u64 (L 3)]) (.int .i64 (j : Nat))).run Tryz.prog wr = .ok (.int .u64 (L j)) wr := by
                  obtain ⟨i0, i1, i2, i3⟩ := ix4 (L 0) (L 1) (L 2) (L 3) wr
                  have hs : j = 0 ∨ j = 1 ∨ j = 2 ∨ j = 3 := by omega
                  rcases hs with rfl | rfl | rfl | rfl
                  · exact i0
                  · exact i1
                  · exact i2
                  · exact i3
                have hj4' : (j : Int) < 4 := by omega
                have hj1 : IntKind.i64.wrap ((j : Int) + 1) = (j : Int) + 1 := by rw [IntKind.wrap_i64]; omega
                have HMX : Hid (mixAll L (addL L 4) (j + 1) = mixL (mixAll L (addL L 4) j) (L j)) := Lib.hid rfl
                go_wp2_with fail
                refine (ST.out _ _ _).mono ?_
                rintro e w2 ⟨rfl, rfl⟩
                go_wp2_with fail
                refine ⟨⟨_, _, _, _, _, _, _, _, _, _, _, _, ⟨j + 1, by omega, ?_, ?_, trivial⟩, rfl⟩, ?_⟩
                · show Value.int .i64 ((j : Int) + 1) = _
                  go_num
                · rw [HMX.out]; rfl
                · show 4 - (intOf (.int .i64 ((j : Int) + 1))).toNat < 4 - (intOf (.int .i64 (j : Nat))).toNat
                  simp [intOf]; omega
              · obtain rfl : j = 4 := by omega
                go_wp2_with fail
                go_ret2
                refine ⟨ab, cb, ?_, ?_, KW.out⟩
                · rw [HE.out, HR.out, HEQ.out, HM.out]; rfl
                · rw [HR.out, HEQ.out]; exact HRW.out
  · have e1 : begH l = 2870177450012600261 := by unfold begH; rw [if_neg h32]
    have e2 : begR l = l := by unfold begR; rw [if_neg h32]
    have HE := Lib.hid e1
    have HR := Lib.hid e2
    have H := Lib.hid h
    obtain ⟨n, hn⟩ : ∃ n, n = l.length := ⟨_, rfl⟩
    rw [← hn] at hl h32 ⊢
    have HN := Lib.hid hn
    have h32' : decide ((n : Int) < 32) = true := decide_eq_true (by omega)
    clear h hn e1 e2
    go_enter Tryz.func122, Tryz.ntmps122
    go_wp2_with fail
    go_ret2
    exact ⟨a, c, by rw [HE.out, HR.out, ← HN.out]; rfl, by rw [HR.out]; exact H.out, Kp.refl _ _⟩
end Go.Proofs.YtmioiaeiflbmhaaGreat.Str
namespace Go.Proofs.YtmioiaeiflbmhaaGreat.Str
open Go Go.RowKit Go.ChangeMaps Go.MapKept Go.Mg Go.Mt Go.Proofs.YtmioiaeiflbmhaaGreat.Ma
def mixW (h : Int) (n : Nat) : Int := IntKind.u64.wrap (IntKind.u64.wrap (rl (bits .xor .u64 h (stirI 0 (n : Nat))) 27 * 11400714785074694791) + 9650029242287828579)
def words : Nat → Int → List UInt8 → Int × List UInt8
  | 0, h, r => (h, r)
  | f + 1, h, r => if 8 ≤ r.length then words f (mixW h (numN r 8)) (r.drop 8) else (h, r)
theorem words_stop {f : Nat} {h : Int} {r : List UInt8} (hh : ¬ 8 ≤ r.length) : words f h r = (h, r) := by
  cases f with
  | zero => rfl
  | succ f => simp only [words, if_neg hh]
theorem words_go {f : Nat} {h : Int} {r : List UInt8} (hh : 8 ≤ r.length) : words (f + 1) h r = words f (mixW h (numN r 8)) (r.drop 8) := by simp only [words, if_pos hh]
def mix4 (h : Int) (n : Nat) : Int := IntKind.u64.wrap (IntKind.u64.wrap (rl (bits .xor .u64 h (IntKind.u64.wrap ((n : Int) * 11400714785074694791))) 23 * 14029467366897019727) + 1609587929392839161)
def four4 (x : Int × List UInt8) : Int × List UInt8 := if 4 ≤ x.2.length then (mix4 x.1 (numN x.2 4), x.2.drop 4) else x
def mixB (h : Int) (b : Nat) : Int := IntKind.u64.wrap (rl (bits .xor .u64 h (IntKind.u64.wrap ((b : Int) * 2870177450012600261))) 11 * 11400714785074694791)
def byteS (h : Int) (l : List UInt8) : Nat → Int
  | 0 => h
  | i + 1 => mixB (byteS h l i) (byt l i)
def fin1 (h : Int) : Int := IntKind.u64.wrap (bits .xor .u64 h (h / 8589934592) * 14029467366897019727)
def fin2 (h : Int) : Int := IntKind.u64.wrap (bits .xor .u64 h (h / 536870912) * 1609587929392839161)
def fin3 (h : Int) : Int := bits .xor .u64 h (h / 4294967296)
def endS (x : Int × List UInt8) : Int := fin3 (fin2 (fin1 (byteS x.1 x.2 x.2.length)))
def sumI (l : List UInt8) : Int := endS (four4 (words l.length (IntKind.u64.wrap (begH l + (l.length : Nat))) (begR l)))
theorem eat_len : ∀ f (L : Nat → Int) (r : List UInt8), (eat f L r).2.length ≤ r.length
  | 0, L, r => Nat.le_refl _
  | f + 1, L, r => by
    simp only [eat]
    split
    · have := eat_len f (rnd L r) (r.drop 32)
      rw [List.length_drop] at this
      omega
    · exact Nat.le_refl _
theorem begR_len (l : List UInt8) : (begR l).length ≤ l.length := by
  unfold begR
  split
  · exact eat_len _ _ _
  · exact Nat.le_refl _
theorem num_up (w : World) (r : List UInt8) (a : Option Addr) (c : Nat) (h : SlR w 1 (.slice a r.length c) r.length (r.map u8c)) (n : Nat) (hn : 0 < n) (hn8 : n ≤ 8) (hk : n ≤ r.length) :
    ∃ a' c', (∀ w', (Instr.slice 23 (.slice a r.length c) none (some (.int .i64 (n : Nat))) none).run Tryz.prog w' = .ok (.slice a n c) w') ∧
      (Calls Tryz.prog 125 #[.slice a n c] w fun e w' => e = .returned (.int .u64 (numN r n : Nat)) ∧ w' = w) ∧
      (∀ w', (Instr.slice 23 (.slice a r.length c) (some (.int .i64 (n : Nat))) none none).run Tryz.prog w' = .ok (.slice a' (r.length - n) c') w') ∧
      SlR w 1 (.slice a' (r.drop n).length c') (r.drop n).length ((r.drop n).map u8c) := by
  obtain ⟨hr, hs⟩ := h.upto Tryz.underlying23 u8size hk
  obtain ⟨a', c', hr2, hs2, _⟩ := h.from_ Tryz.underlying23 u8size hk
  refine ⟨a', c', hr, ?_, hr2, ?_⟩
  · have hl := pre_len hk
    simp only [Nat.mul_one, ← List.map_take] at hs
    have := number_p w (r.take n) a c (by rw [hl]; exact hs) (by rw [hl]; omega) (by rw [hl]; omega)
    rw [hl, numN_take _ _ _ (Nat.le_refl _)] at this
    exact this
  · simp only [Nat.mul_one, ← List.map_drop] at hs2
    rw [List.length_drop]
    exact hs2
def SumPost (w : World) (l : List UInt8) (e : Ending) (w' : World) : Prop := e = .returned (.int .u64 (sumI l)) ∧ Kp (fun _ => False) w w'
set_option maxRecDepth 100000 in
set_option maxHeartbeats 2000000 in
theorem sum_h (w : World) (g : Nat) (l : List UInt8) (a : Option Addr) (c : Nat) (hg : w.cell? ⟨g, 0, none⟩ = some (.slice a l.length c)) (h : SlR w 1 (.slice a l.length c) l.length (l.map u8c)) (hl : l.length ≤ 100000) :
    Calls Tryz.prog 105 #[.int .u64 0, .slice (some ⟨g, 0, none⟩) 1 1] w (SumPost w l) := by
  have hgl : g < w.heap.size := by
    rcases Nat.lt_or_ge g w.heap.size with q | q
    · exact q
    · simp [World.cell?, Array.getElem?_eq_none_iff.2 q] at hg
  have ec : cat [(a, c, l)] 1 = l := by simp [cat]
  have CO := Lib.hid (concat_u w g 0 1 [(a, c, l)] hgl (Nat.le_refl _) (fun i hi => by
    obtain rfl : i = 0 := by simp at hi; omega
    simpa using hg) (fun i hi => by
    obtain rfl : i = 0 := by simp at hi; omega
    exact h) (by simp) (by rw [show [(a, c, l)].length = 1 from rfl, ec]; exact hl))
  have HCO : Hid (cat [(a, c, l)] [(a, c, l)].length = l) := Lib.hid ec
  rw [HCO.out] at CO
  have HS : Hid (sumI l = endS (four4 (words l.length (IntKind.u64.wrap (begH l + (l.length : Nat))) (begR l)))) := Lib.hid rfl
  clear h hg ec
  go_enter Tryz.func105, Tryz.ntmps105
  go_wp2_with fail
  refine CO.out.mono ?_
  rintro e w1 ⟨a1, c1, rfl, p1, p2⟩
  obtain ⟨_, _, e1, p3, p4⟩ := p1
  simp only [Value.slice.injEq, true_and] at e1
  obtain ⟨rfl, rfl⟩ := e1
  have BE := Lib.hid (begins_p w1 l a1 c1 p3.sl hl)
  have K1 := Lib.hid p2
  have BL := Lib.hid (begR_len l)
  obtain ⟨n, hn⟩ : ∃ n, n = l.length := ⟨_, rfl⟩
  rw [← hn] at BE BL HS hl ⊢
  clear p2 p3 p4 hn CO HCO
  go_wp2_with fail
  refine BE.out.mono ?_
  rintro e w2 ⟨a2, c2, rfl, q1, q2⟩
  have K2 := Lib.hid (K1.out.trans q2)
  have Q2 := Lib.hid q2
  have Q1 := Lib.hid q1
  obtain ⟨r0, hr0⟩ : ∃ r0, r0 = begR l := ⟨_, rfl⟩
  obtain ⟨h0, hh0⟩ : ∃ h0, h0 = begH l := ⟨_, rfl⟩
  rw [← hr0] at Q1 HS BL ⊢
  rw [← hh0] at HS ⊢
  obtain ⟨E, hE⟩ : ∃ E, E = words n (IntKind.u64.wrap (h0 + (n : Nat))) r0 := ⟨_, rfl⟩
  rw [← hE] at HS
  have HE := Lib.hid hE.symm
  obtain ⟨m0, hm0⟩ : ∃ m0, m0 = r0.length := ⟨_, rfl⟩
  rw [← hm0] at BL ⊢
  have HM0 := Lib.hid hm0
  clear q1 q2 hr0 hh0 hE hm0
  have hwn : IntKind.u64.wrap (n : Int) = (n : Int) := wraps_u64 _ (by omega) (by omega)
  go_wp2_with fail
  go_loopw [6, 7] (fun hv v wx => ∃ (f : Nat) (h : Int) (r : List UInt8) (ab : Option Addr) (cb : Nat), hv = .int .u64 h ∧ v = .slice ab r.length cb ∧ SlR w2 1 v r.length (r.map u8c) ∧ words f h r = E ∧ r.length ≤ f ∧ r.length ≤ n ∧ wx = w2) (fun _ v _ => match v with | .slice _ k _ => k | _ => 0)
  case atStart => exact ⟨n, _, r0, a2, c2, rfl, by rw [HM0.out], by rw [HM0.out]; exact Q1.out.kp Q2.out (fun _ _ q => q), HE.out, by rw [← HM0.out]; exact BL.out, by rw [← HM0.out]; exact BL.out, rfl⟩
  case round =>
    obtain ⟨f, h, r, ab, cb, rfl, rfl, hr, he, hf, hrn, hwr⟩ := hrel
    obtain rfl := hwr
    have HRW := Lib.hid hr
    have HEE := Lib.hid he
    obtain ⟨m, hm⟩ : ∃ m, m = r.length := ⟨_, rfl⟩
    rw [← hm] at hrn ⊢
    have HM := Lib.hid hm
    have HF := Lib.hid hf
    clear hr he hm hf HE Q1
    by_cases hge : 8 ≤ m
    · have hge' : decide ((8 : Int) ≤ (m : Int)) = true := decide_eq_true (by omega)
      obtain ⟨a9, c9, h1, h2, h3, h4⟩ := num_up wr r ab cb HRW.out 8 (by omega) (by omega) (by rw [← HM.out]; exact hge)
      rw [show ((8 : Nat) : Int) = 8 from rfl, ← HM.out] at h1 h3
      have N8 := Lib.hid h2
      have H4 := Lib.hid h4
      have ST := Lib.hid (fun x v => stir_p wr x v)
      have RO := Lib.hid (fun x => rot_p wr x 27 (by unfold Turn; omega))
      have HX : Hid (mixW h (numN r 8) = IntKind.u64.wrap (IntKind.u64.wrap (rl (bits .xor .u64 h (stirI 0 (numN r 8 : Nat))) 27 * 11400714785074694791) + 9650029242287828579)) := Lib.hid rfl
      generalize hnv : numN r 8 = nv at N8 HX
      have HNV := Lib.hid hnv
      clear h2 h4 hnv
      go_wp2_with fail
      refine N8.out.mono ?_
      rintro e w3 ⟨rfl, rfl⟩
      go_wp2_with fail
      refine (ST.out _ _).mono ?_
      rintro e w4 ⟨rfl, rfl⟩
      go_wp2_with fail
      refine (RO.out _).mono ?_
      rintro e w5 ⟨rfl, rfl⟩
      go_wp2_with fail
      obtain ⟨f', rfl⟩ : ∃ f', f = f' + 1 := ⟨f - 1, by have := HF.out; rw [← HM.out] at this; omega⟩
      have h8r : 8 ≤ r.length := by rw [← HM.out]; exact hge
      have hdl : (r.drop 8).length = m - 8 := by rw [List.length_drop, HM.out]
      have hEE := HEE.out
      rw [words_go h8r, HNV.out] at hEE
      refine ⟨⟨f', _, r.drop 8, a9, c9, by rw [← HX.out], by rw [hdl], ?_, hEE, ?_, ?_, trivial⟩, ?_⟩
      · rw [← hdl]; exact H4.out
      · rw [hdl]; have := HF.out; rw [← HM.out] at this; omega
      · rw [hdl]; omega
      · simp; omega
    · have hge' : decide ((8 : Int) ≤ (m : Int)) = false := decide_eq_false (by omega)
      obtain ⟨wo, rfl⟩ : ∃ wo : World, wo = wr := ⟨_, rfl⟩
      have HEQ : Hid (E = (h, r)) := Lib.hid (by rw [← HEE.out]; exact words_stop (by rw [← HM.out]; exact hge))
      by_cases h4 : 4 ≤ m
      · have h4' : decide ((4 : Int) ≤ (m : Int)) = true := decide_eq_true (by omega)
        obtain ⟨a9, c9, h1, h2, h3, h5⟩ := num_up wo r ab cb HRW.out 4 (by omega) (by omega) (by rw [← HM.out]; exact h4)
        rw [show ((4 : Nat) : Int) = 4 from rfl, ← HM.out] at h1 h3
        have N4 := Lib.hid h2
        have HT := Lib.hid h5
        have RO := Lib.hid (fun x => rot_p wo x 23 (by unfold Turn; omega))
        have HF4 : Hid (four4 (h, r) = (mix4 h (numN r 4), r.drop 4)) := Lib.hid (by unfold four4; rw [if_pos (by rw [← HM.out]; exact h4)])
        have HX : Hid (mix4 h (numN r 4) = IntKind.u64.wrap (IntKind.u64.wrap (rl (bits .xor .u64 h (IntKind.u64.wrap (((numN r 4 : Nat) : Int) * 11400714785074694791))) 23 * 14029467366897019727) + 1609587929392839161)) := Lib.hid rfl
        have HTL : Hid (m - 4 = (r.drop 4).length) := Lib.hid (by rw [List.length_drop, HM.out])
        obtain ⟨x, hx⟩ : ∃ x, x = m - 4 := ⟨_, rfl⟩
        rw [← hx] at HTL h3
        have hxm : x ≤ 100000 := by omega
        obtain ⟨y, hy⟩ : ∃ y, y = mix4 h (numN r 4) := ⟨_, rfl⟩
        rw [← hy] at HF4 HX
        obtain ⟨t, ht⟩ : ∃ t, t = r.drop 4 := ⟨_, rfl⟩
        rw [← ht] at HF4 HT HTL
        generalize hnv : numN r 4 = nv at N4 HX
        clear h2 h5 hnv hy ht hx
        go_wp2_with fail
        refine N4.out.mono ?_
        rintro e w3 ⟨rfl, rfl⟩
        go_wp2_with fail
        refine (RO.out _).mono ?_
        rintro e w5 ⟨rfl, rfl⟩
        go_wp2_with fail
        rw [← HX.out]
        obtain ⟨wo, rfl⟩ : ∃ wo : World, wo = w5 := ⟨_, rfl⟩
        clear N4 RO HRW
        go_loopw [6, 53] (fun hv i wx => ∃ j : Nat, j ≤ x ∧ i = .int .i64 j ∧ hv = .int .u64 (byteS y t j) ∧ wx = wo) (fun _ i _ => x - (intOf i).toNat)
        case atStart => exact ⟨0, Nat.zero_le _, rfl, rfl, rfl⟩
        case round =>
          obtain ⟨j, hj, rfl, rfl, hwr⟩ := hrel
          obtain rfl := hwr
          by_cases hlt : j < x
          · obtain ⟨gg, oo, ea, hgg, _, hcc⟩ := byts_at HT.out (by rw [← HTL.out]; omega)
            have d0 := hcc j (by rw [← HTL.out]; exact hlt)
            have hlt' : (j : Int) < (x : Int) := by omega
            have hb := byt_lt t j
            have HB : Hid (byteS y t (j + 1) = mixB (byteS y t j) (byt t j)) := Lib.hid rfl
            generalize byt t j = bv at d0 hb HB
            have hub : IntKind.u64.wrap (bv : Int) = (bv : Int) := wraps_u64 _ (by omega) (by omega)
            have RO := Lib.hid (fun x => rot_p wr x 11 (by unfold Turn; omega))
            clear hcc
            subst ea
            go_wp2_with fail
            refine (RO.out _).mono ?_
            rintro e w5 ⟨rfl, rfl⟩
            go_wp2_with fail
            exact ⟨⟨j + 1, by omega, by go_num, by rw [HB.out]; rfl, trivial⟩, by simp [intOf]; omega⟩
          · obtain rfl : j = x := by omega
            obtain ⟨wo2, rfl⟩ : ∃ wo2 : World, wo2 = wr := ⟨_, rfl⟩
            go_wp2_with fail
            go_ret
            refine ⟨?_, K2.out⟩
            rw [HS.out, HEQ.out, HF4.out]
            unfold endS
            rw [← HTL.out]
            rfl
      · have h4' : decide ((4 : Int) ≤ (m : Int)) = false := decide_eq_false (by omega)
        have HF4 : Hid (four4 (h, r) = (h, r)) := Lib.hid (by unfold four4; rw [if_neg (by rw [← HM.out]; exact h4)])
        obtain ⟨t, ht⟩ : ∃ t, t = r := ⟨_, rfl⟩
        rw [← ht] at HF4 HRW HM HEQ
        obtain ⟨x, hx⟩ : ∃ x, x = m := ⟨_, rfl⟩
        have HTL : Hid (x = t.length) := Lib.hid (by rw [hx]; exact HM.out)
        have HT := HRW
        obtain ⟨y, hy⟩ : ∃ y, y = h := ⟨_, rfl⟩
        rw [← hy] at HF4 HEQ ⊢
        rw [← hx]
        rw [← hx] at h4 h4'
        have hxm : x ≤ 100000 := by omega
        clear hx hy ht
        go_wp2_with fail
        go_loopw [6, 53] (fun hv i wx => ∃ j : Nat, j ≤ x ∧ i = .int .i64 j ∧ hv = .int .u64 (byteS y t j) ∧ wx = wo) (fun _ i _ => x - (intOf i).toNat)
        case atStart => exact ⟨0, Nat.zero_le _, rfl, rfl, rfl⟩
        case round =>
          obtain ⟨j, hj, rfl, rfl, hwr⟩ := hrel
          obtain rfl := hwr
          by_cases hlt : j < x
          · obtain ⟨gg, oo, ea, hgg, _, hcc⟩ := byts_at HT.out (by rw [← HTL.out]; omega)
            have d0 := hcc j (by rw [← HTL.out]; exact hlt)
            have hlt' : (j : Int) < (x : Int) := by omega
            have hb := byt_lt t j
            have HB : Hid (byteS y t (j + 1) = mixB (byteS y t j) (byt t j)) := Lib.hid rfl
            generalize byt t j = bv at d0 hb HB
            have hub : IntKind.u64.wrap (bv : Int) = (bv : Int) := wraps_u64 _ (by omega) (by omega)
            have RO := Lib.hid (fun x => rot_p wr x 11 (by unfold Turn; omega))
            clear hcc
            subst ea
            go_wp2_with fail
            refine (RO.out _).mono ?_
            rintro e w5 ⟨rfl, rfl⟩
            go_wp2_with fail
            exact ⟨⟨j + 1, by omega, by go_num, by rw [HB.out]; rfl, trivial⟩, by simp [intOf]; omega⟩
          · obtain rfl : j = x := by omega
            obtain ⟨wo2, rfl⟩ : ∃ wo2 : World, wo2 = wr := ⟨_, rfl⟩
            go_wp2_with fail
            go_ret
            refine ⟨?_, K2.out⟩
            rw [HS.out, HEQ.out, HF4.out]
            unfold endS
            rw [← HTL.out]
            rfl
end Go.Proofs.YtmioiaeiflbmhaaGreat.Str
namespace Go.Proofs.YtmioiaeiflbmhaaGreat.Str
open Go Go.RowKit Go.ChangeMaps Go.MapKept Go.Mg Go.Mt Go.Proofs.YtmioiaeiflbmhaaGreat.Ma
def lowK (n j : Nat) : List UInt8 := (List.range j).map fun i => UInt8.ofNat (n / 2 ^ (8 * i))
theorem lowK_succ (n j : Nat) : lowK n (j + 1) = lowK n j ++ [UInt8.ofNat (n / 2 ^ (8 * j))] := by simp [lowK, List.range_succ]
theorem lowK_len (n j : Nat) : (lowK n j).length = j := by simp [lowK]
theorem lit_sl1 (w : World) (v : Value) (y : UInt8) (hv : u8c y = v) : SlR (w.alloc (.cells #[v] 5)) 1 (.slice (some ⟨w.heap.size, 0, none⟩) 1 1) 1 ([y].map u8c) := by
  obtain ⟨_, _, _, h, _⟩ := lit_one w 5 v w.heap.size (Nat.le_refl _) y hv
  exact h.sl
def LowPost (w : World) (n : Nat) (e : Ending) (w' : World) : Prop := ∃ a c, e = .returned (.slice a 4 c) ∧ RowB w.heap.size w' (.slice a 4 c) (lowB n) ∧ Kp (fun _ => False) w w'
theorem low_val (n j : Nat) : u8c (UInt8.ofNat (n / 2 ^ (8 * j))) = .int .u8 ((n : Int) / 2 ^ (8 * j) % 256) := by
  unfold u8c
  rw [UInt8.toNat_ofNat']
  congr 1
set_option maxRecDepth 100000 in
set_option maxHeartbeats 1000000 in
theorem low_p (w : World) (n : Nat) : Calls Tryz.prog 104 #[.int .u64 (n : Nat)] w (LowPost w n) := by
  obtain ⟨j0, hj0, hy0, hy1, hy2⟩ := info_parts infoU8c
  have HZ : Hid (lowB n = lowK n 4) := Lib.hid rfl
  have HK := Lib.hid (fun j => lowK_succ n j)
  have HL := Lib.hid (fun j => lowK_len n j)
  have HV := Lib.hid (fun j => low_val n j)
  have H0 : Hid (lowK n 0 = []) := Lib.hid rfl
  go_enter Tryz.func104, Tryz.ntmps104
  go_wp2_with fail
  go_loopw [3, 5] (fun v i wx => ∃ (j : Nat) (a : Option Addr) (c : Nat), j ≤ 4 ∧ i = .int .i64 j ∧ v = .slice a j c ∧ RowM 5 u8c w.heap.size wx v (lowK n j) ∧ Kp (fun _ => False) w wx) (fun _ i _ => 4 - (intOf i).toNat)
  case atStart => exact ⟨0, none, 0, by omega, rfl, rfl, by rw [H0.out]; exact RowM.nil _ _ _, Kp.refl _ _⟩
  case round =>
    obtain ⟨j, a, c, hj, rfl, rfl, hrow, hk⟩ := hrel
    have HR := Lib.hid hrow
    have HKW := Lib.hid hk
    clear hrow hk
    by_cases hj4 : j < 4
    · have hj4' : (j : Int) < 4 := by omega
      have hsh : IntKind.i64.wrap (8 * (j : Int)) = 8 * (j : Int) := by rw [IntKind.wrap_i64]; omega
      have h8 : (0 : Int) ≤ 8 * (j : Int) := by omega
      have hj1 : IntKind.i64.wrap ((j : Int) + 1) = (j : Int) + 1 := by rw [IntKind.wrap_i64]; omega
      have hm : (8 * (j : Int)).toNat = 8 * j := by omega
      have LI := Lib.hid (lit_sl1 wr (.int .u8 ((n : Int) / 2 ^ (8 * j) % 256)) _ (HV.out j))
      have KA := Lib.hid (HKW.out.alloc (.cells #[.int .u8 ((n : Int) / 2 ^ (8 * j) % 256)] 5))
      have RA := Lib.hid (HR.out.kp (kp_alloc wr (.cells #[.int .u8 ((n : Int) / 2 ^ (8 * j) % 256)] 5)) (fun _ q => q.elim))
      go_wp2_with (at_builtin; refine wpList_appM (w0 := w) _ rfl _ _ 23 rfl 5 j0 _ 1 Tryz.underlying23 hj0 hy0 hy1 hy2 rfl (by decide) (by decide) u8c_1c (.slice a j c) (lowK n j) rfl RA.out (.slice (some ⟨wr.heap.size, 0, none⟩) 1 1) 1 [UInt8.ofNat (n / 2 ^ (8 * j))] rfl LI.out rfl KA.out (j + 1) (by rw [HL.out]) (by omega) ?_; intro a5 c5 w5 g1 g2 _; have G1 := Lib.hid g1; have G2 := Lib.hid g2; clear g1 g2)
      exact ⟨⟨j + 1, a5, c5, by omega, by go_num, rfl, by rw [HK.out]; exact G1.out, G2.out⟩, by simp [intOf]; omega⟩
    · obtain rfl : j = 4 := by omega
      go_wp2_with fail
      go_ret
      exact ⟨a, c, rfl, by rw [HZ.out]; exact HR.out, HKW.out⟩
/-! ### Head -/
def HeadPost (w : World) (id : Nat) (e : Ending) (w' : World) : Prop := ∃ a c, e = .returned (.slice a 8 c) ∧ RowB w.heap.size w' (.slice a 8 c) (headB id) ∧ Kp (fun _ => False) w w'
theorem title_row (w : World) : RowM 5 u8c w.heap.size (w.alloc (.cells #[.int .u8 77, .int .u8 78, .int .u8 71, .int .u8 76] 5 (4, 5))) (.slice (some ⟨w.heap.size, 0, none⟩) 4 4) [77, 78, 71, 76] :=
  ⟨_, _, rfl, ⟨by simp, .inr ⟨w.heap.size, 4, #[.int .u8 77, .int .u8 78, .int .u8 71, .int .u8 76], (4, 5), rfl, alloc_at w _, .inr (by decide), by decide, by unfold maxLen; omega, rfl, rfl⟩⟩, fun k hk => by have := own_b hk; omega⟩
set_option maxRecDepth 100000 in
set_option maxHeartbeats 1000000 in
theorem head_p (w : World) (id : Nat) (hid : id ≤ 2147483647) : Calls Tryz.prog 99 #[.int .i64 (id : Nat)] w (HeadPost w id) := by
  obtain ⟨j0, hj0, hy0, hy1, hy2⟩ := info_parts infoU8c
  have hu : IntKind.u64.wrap (id : Int) = (id : Int) := wraps_u64 _ (by omega) (by omega)
  have LO := Lib.hid (fun V => low_p V id)
  have TI := Lib.hid (title_row w)
  have KA := Lib.hid (kp_alloc w (.cells #[.int .u8 77, .int .u8 78, .int .u8 71, .int .u8 76] 5 (4, 5)))
  have kc := fun (w : World) (C : Array Value) (n c : Nat) => Lib.run_convert_bytes_const (P := Tryz.prog) w 23 5 C n c Tryz.underlying23 Tryz.underlying5
  have HH : Hid (headB id = [77, 78, 71, 76] ++ lowB id) := Lib.hid rfl
  have HL := Lib.hid (lowB_len id)
  clear hid
  go_enter Tryz.func99, Tryz.ntmps99
  go_wp2_with fail
  refine (LO.out _).mono ?_
  rintro e w1 ⟨a1, c1, rfl, p1, p2⟩
  have TI1 := Lib.hid (TI.out.kp p2 (fun _ q => q.elim))
  have K1 := Lib.hid (KA.out.trans p2)
  obtain ⟨_, _, e1, p3, _⟩ := p1
  simp only [Value.slice.injEq] at e1
  obtain ⟨rfl, _, rfl⟩ := e1
  have P3 := Lib.hid p3.sl
  rw [HL.out] at P3
  clear p2 p3
  go_wp2_with (at_builtin; refine wpList_appM (w0 := w) _ rfl _ _ 23 rfl 5 j0 _ 1 Tryz.underlying23 hj0 hy0 hy1 hy2 rfl (by decide) (by decide) u8c_1c (.slice (some ⟨w.heap.size, 0, none⟩) 4 4) [77, 78, 71, 76] rfl TI1.out (.slice a1 4 c1) 4 (lowB id) rfl P3.out HL.out K1.out 8 rfl (by omega) ?_; intro a5 c5 w5 g1 g2 _; have G1 := Lib.hid g1; have G2 := Lib.hid g2; clear g1 g2)
  go_ret
  exact ⟨a5, c5, rfl, by rw [HH.out]; exact G1.out, G2.out⟩
/-! ### Window -/
def WinPost (w : World) (l : List UInt8) (e : Ending) (w' : World) : Prop := ∃ a c, e = .returned (.slice a l.length c) ∧ SlR w' 1 (.slice a l.length c) l.length (l.map u8c) ∧ (∀ b, (Value.slice a l.length c).ownBlock = some b → w.heap.size ≤ b ∧ b < w'.heap.size) ∧ Kp (fun _ => False) w w'
set_option maxRecDepth 100000 in
set_option maxHeartbeats 1000000 in
theorem window_f (w : World) (p d : List UInt8) (ap : Option Addr) (cp : Nat) (hp : SlR w 1 (.slice ap p.length cp) p.length (p.map u8c)) (ad : Option Addr) (cd : Nat) (hd : SlR w 1 (.slice ad d.length cd) d.length (d.map u8c)) (hl : p.length + d.length ≤ 100000) :
    Calls Tryz.prog 101 #[.slice ap p.length cp, .slice ad d.length cd] w (WinPost w (win p d)) := by
  have ka := kp_alloc w (.cells #[.slice ap p.length cp, .slice ad d.length cd] 23)
  have ec : cat [(ap, cp, p), (ad, cd, d)] 2 = p ++ d := by simp [cat]
  have CO := concat_u (w.alloc (.cells #[.slice ap p.length cp, .slice ad d.length cd] 23)) w.heap.size 0 2 [(ap, cp, p), (ad, cd, d)] (by simp) (Nat.le_refl _) (fun i hi => by
    have hi' : i = 0 ∨ i = 1 := by simp at hi; omega
    rw [cell_of (alloc_at _ _)]
    rcases hi' with rfl | rfl <;> rfl) (fun i hi => by
    have hi' : i = 0 ∨ i = 1 := by simp at hi; omega
    rcases hi' with rfl | rfl
    · exact hp.kp ka (fun _ _ q => q)
    · exact hd.kp ka (fun _ _ q => q)) (by simp) (by rw [show [(ap, cp, p), (ad, cd, d)].length = 2 from rfl, ec, List.length_append]; exact hl)
  rw [show [(ap, cp, p), (ad, cd, d)].length = 2 from rfl, ec] at CO
  have CO := Lib.hid CO
  have KA := Lib.hid ka
  have HW : Hid (win p d = (p ++ d).drop ((p ++ d).length - 2000)) := Lib.hid rfl
  obtain ⟨l, hll⟩ : ∃ l, l = p ++ d := ⟨_, rfl⟩
  have hl2 : l.length ≤ 100000 := by rw [hll, List.length_append]; exact hl
  rw [← hll] at CO HW
  obtain ⟨r, hr⟩ : ∃ r, r = win p d := ⟨_, rfl⟩
  rw [← hr] at HW ⊢
  clear hp hd ka ec hll hr hl
  go_enter Tryz.func101, Tryz.ntmps101
  go_wp2_with fail
  refine CO.out.mono ?_
  rintro e w1 ⟨a1, c1, rfl, p1, p2⟩
  obtain ⟨_, _, e1, p3, p4⟩ := p1
  simp only [Value.slice.injEq, true_and] at e1
  obtain ⟨rfl, rfl⟩ := e1
  have K1 := Lib.hid (KA.out.trans p2)
  have HB := Lib.hid p4
  have HLT := Lib.hid (fun (b : Nat) hb => p3.lt (b := b) hb)
  have HS := Lib.hid p3.sl
  clear p2 p3 p4 CO
  obtain ⟨n, hn⟩ : ∃ n, n = l.length := ⟨_, rfl⟩
  rw [← hn] at HB HS hl2 HW ⊢
  obtain ⟨a2, c2, h1, h2, h3⟩ := HS.out.from_ Tryz.underlying23 u8size (k := n - 2000) (by omega)
  have HB2 := Lib.hid h3
  have HS2 := Lib.hid h2
  obtain ⟨k, hk⟩ : ∃ k, k = n - 2000 := ⟨_, rfl⟩
  rw [← hk] at h1 HB2 HS2 HW
  have hw1 : IntKind.i64.wrap ((n : Int) - 2000) = (n : Int) - 2000 := by rw [IntKind.wrap_i64]; omega
  have HN := Lib.hid hn
  have HRL : Hid (n - k = r.length) := Lib.hid (by rw [HW.out, List.length_drop, HN.out])
  clear h2 h3 hn
  have hmx : max ((n : Int) - 2000) 0 = ((k : Nat) : Int) := by omega
  clear hk
  go_wp2_with fail
  go_ret
  have HRL := HRL.out
  have HS2 := HS2.out
  rw [HRL] at HS2
  refine ⟨a2, c2, by rw [← HRL]; rfl, ?_, fun b hb => ?_, K1.out⟩
  · rw [HW.out]
    rw [HW.out] at HS2
    simpa using HS2
  · have h1 := HB2.out b (by rw [HRL]; exact hb)
    have h2 := HB.out b h1
    have h3 := HLT.out b (by rw [← HN.out]; exact h1)
    simp at h2
    omega
/-! ### Sum -/
theorem xor_nonneg (a b : Int) : 0 ≤ bits .xor .u64 a b := by
  have h : ∀ n : Int, 0 ≤ IntKind.u64.wrap n := fun n => by
    have : IntKind.u64.wrap n = n % 18446744073709551616 := by simp [IntKind.wrap, IntKind.bits, IntKind.signed]
    rw [this]; omega
  exact h _
def sumN (l : List UInt8) : Nat := (sumI l).toNat
theorem sumN_eq (l : List UInt8) : ((sumN l : Nat) : Int) = sumI l := Int.toNat_of_nonneg (xor_nonneg _ _)
def SumFPost (w : World) (l : List UInt8) (e : Ending) (w' : World) : Prop := ∃ a c, e = .returned (.slice a 4 c) ∧ RowB w.heap.size w' (.slice a 4 c) (lowB (sumN l)) ∧ Kp (fun _ => False) w w'
set_option maxRecDepth 100000 in
set_option maxHeartbeats 1000000 in
theorem sum_f (w : World) (l : List UInt8) (a : Option Addr) (c : Nat) (h : SlR w 1 (.slice a l.length c) l.length (l.map u8c)) (hl : l.length ≤ 100000) :
    Calls Tryz.prog 88 #[.slice a l.length c] w (SumFPost w l) := by
  have ka := kp_alloc w (.cells #[.slice a l.length c] 23)
  have SU := sum_h (w.alloc (.cells #[.slice a l.length c] 23)) w.heap.size l a c (by rw [cell_of (alloc_at _ _)]; rfl) (h.kp ka (fun _ _ q => q)) hl
  unfold SumPost at SU
  rw [← sumN_eq] at SU
  have SU := Lib.hid SU
  have KA := Lib.hid ka
  have LO := Lib.hid (fun V => low_p V (sumN l))
  obtain ⟨sn, hsn⟩ : ∃ sn, sn = sumN l := ⟨_, rfl⟩
  rw [← hsn] at SU LO
  have HSN := Lib.hid hsn
  clear h ka hsn
  go_enter Tryz.func88, Tryz.ntmps88
  go_wp2_with fail
  refine SU.out.mono ?_
  rintro e w1 ⟨rfl, k1⟩
  have K1 := Lib.hid (KA.out.trans k1)
  clear k1
  go_wp2_with fail
  refine (LO.out w1).mono ?_
  rintro e w2 ⟨a2, c2, rfl, p1, p2⟩
  have P1 := Lib.hid p1
  have K2 := Lib.hid (K1.out.trans p2)
  clear p1 p2
  go_wp2_with fail
  go_ret
  exact ⟨a2, c2, rfl, by rw [← HSN.out]; exact P1.out.low (by have := K1.out.size; omega), K2.out⟩
end Go.Proofs.YtmioiaeiflbmhaaGreat.Str
namespace Go.Proofs.YtmioiaeiflbmhaaGreat.Str
open Go Go.RowKit Go.ChangeMaps Go.MapKept Go.Mg Go.Mt Go.Proofs.YtmioiaeiflbmhaaGreat.Hu Go.Proofs.YtmioiaeiflbmhaaGreat.Sq Go.Proofs.YtmioiaeiflbmhaaGreat.Bk Go.Proofs.YtmioiaeiflbmhaaGreat.Ma
def dep (l : Int) : Int := if l = 1 then 1 else if l = 2 then 8 else if l = 3 then 32 else 0
theorem depth_c (l : Int) (w : World) : Calls Tryz.prog 83 #[.int .i64 l] w fun e w' => e = .returned (.int .i64 (dep l)) ∧ w' = w := by
  unfold dep
  by_cases h1 : l = 1
  · subst h1
    go_enter Tryz.func83, Tryz.ntmps83
    go_wp2_with fail
    go_ret
    exact ⟨rfl, rfl⟩
  · have h1' : (l == 1) = false := by simpa using h1
    by_cases h2 : l = 2
    · subst h2
      go_enter Tryz.func83, Tryz.ntmps83
      go_wp2_with fail
      go_ret
      exact ⟨rfl, rfl⟩
    · have h2' : (l == 2) = false := by simpa using h2
      by_cases h3 : l = 3
      · subst h3
        go_enter Tryz.func83, Tryz.ntmps83
        go_wp2_with fail
        go_ret
        exact ⟨rfl, rfl⟩
      · have h3' : (l == 3) = false := by simpa using h3
        rw [if_neg h1, if_neg h2, if_neg h3]
        clear h1 h2 h3
        go_enter Tryz.func83, Tryz.ntmps83
        go_wp2_with fail
        go_ret
        exact ⟨rfl, rfl⟩
def BeginPost (w : World) (e : Ending) (w' : World) : Prop := e = .returned (.agg #[.int .i64 1, .int .i64 4, .int .i64 8]) ∧ Kp (fun _ => False) w w'
theorem results_cell1 {fn : Func} {p : Tmp} {ty : TypeId} (h : fn.results = #[.cell p ty]) (tmps : Array Value) (P : Program) (w : World) :
    (results fn tmps).run P w = ((asAddr (tmps.getD p undef)).run P w).andThen fun a w₁ => (loadVar ty a).run P w₁ := by
  simp only [results, h]
  simp [Sem.run_bind, Result.andThen]
set_option maxHeartbeats 1000000 in
theorem begin_c (w : World) : Calls Tryz.prog 84 #[] w (BeginPost w) := by
  go_enter Tryz.func84, Tryz.ntmps84
  go_wp2_with fail
  have y0 : (w.alloc (.cells #[.int .i64 1, .int .i64 4, .int .i64 8] 82)).cell? ⟨w.heap.size, 0, none⟩ = some (.int .i64 1) := by rw [cell_of (alloc_at _ _)]; rfl
  have y1 : (w.alloc (.cells #[.int .i64 1, .int .i64 4, .int .i64 8] 82)).cell? ⟨w.heap.size, 1, none⟩ = some (.int .i64 4) := by rw [cell_of (alloc_at _ _)]; rfl
  have y2 : (w.alloc (.cells #[.int .i64 1, .int .i64 4, .int .i64 8] 82)).cell? ⟨w.heap.size, 2, none⟩ = some (.int .i64 8) := by rw [cell_of (alloc_at _ _)]; rfl
  refine bodyPost_ret (v := .agg #[.int .i64 1, .int .i64 4, .int .i64 8]) ?_ rfl ⟨rfl, kp_alloc _ _⟩
  rw [results_cell1 rfl]
  simp [go_sem, y0, y1, y2]
theorem bytesS : ∃ i, Tryz.prog.info? 23 = some i ∧ i.bytes = 24 := by
  have h : (Tryz.prog.info? 23).map (·.bytes) = some 24 := by kernel_rfl
  obtain ⟨i, hi, hb⟩ := Option.map_eq_some_iff.1 h
  exact ⟨i, hi, hb⟩
theorem mkchan (w : World) : (Instr.makeChan 132 (.int .i64 1)).run Tryz.prog w = .ok (.chan (some w.heap.size)) (w.alloc (.chan 1 #[] false 0 0 false)) := by
  obtain ⟨i, hi, hb⟩ := bytesS
  simpa using Go.Conc.run_makeChan (P := Tryz.prog) (w := w) Tryz.underlying132 hi .i64 1 (by omega) (by rw [hb]; omega)
theorem none0U {w : World} {n c : Nat} {xs : List Value} (h : SlR w 1 (.slice none n c) n xs) : n = 0 ∧ c = 0 := by
  obtain ⟨_, a0, c0, e0, h1, _, h2, _⟩ := h
  simp only [Value.slice.injEq, true_and] at e0
  obtain ⟨rfl, rfl⟩ := e0
  have := h2 rfl
  omega
set_option maxRecDepth 100000 in
set_option maxHeartbeats 1000000 in
theorem cloneU_p (w : World) (l : List UInt8) (a : Option Addr) (c : Nat) (h : SlR w 1 (.slice a l.length c) l.length (l.map u8c)) (hlen : l.length ≤ 1000000) :
    Calls Tryz.prog 81 #[.slice a l.length c] w fun e w' => ∃ a' c', e = .returned (.slice a' l.length c') ∧ RowB w.heap.size w' (.slice a' l.length c') l ∧ Kp (fun _ => False) w w' := by
  have hnil := @Lib.run_eql_slice_nil Tryz.prog
  cases a with
  | none =>
    obtain ⟨h1, rfl⟩ := none0U h
    have : l = [] := List.eq_nil_of_length_eq_zero h1
    subst this
    clear h
    go_enter Tryz.func81, Tryz.ntmps81
    go_wp2_with fail
    go_ret
    exact ⟨none, 0, rfl, RowM.nil _ _ _, Kp.refl _ _⟩
  | some p =>
    obtain ⟨j0, hj0, hy0, hy1, hy2⟩ := info_parts infoU8c
    have k0 : Kp (fun _ => False) w (w.alloc (.cells #[] 5)) := (Kp.refl _ _).alloc _
    have HN := Lib.hid (own_none w 5 1)
    have HC := Lib.hid (h.kp k0 (fun _ _ q => q))
    have K0 := Lib.hid k0
    clear h k0
    go_enter Tryz.func81, Tryz.ntmps81
    go_wp2_with (at_builtin; refine wpList_app _ rfl _ _ 23 rfl 5 j0 _ 1 1 Tryz.underlying23 hj0 hy0 hy1 hy2 rfl (by decide) (by decide) (.slice (some ⟨w.heap.size, 0, none⟩) 0 0) 0 [] rfl HN.out (.slice (some p) l.length c) l.length _ rfl HC.out (u8c_one l) (by omega) ?_; intro v' w1 g1 g2 g3 g4 g5; rw [Nat.zero_add, List.nil_append] at g1; obtain ⟨b1, d1, rfl⟩ := g1.form; have G1 := Lib.hid g1; have G2 := Lib.hid (K0.out.up g2 (fun i e => (by have := own_b e; omega))); have G3 := Lib.hid g3; clear g1 g2 g3 g4 g5)
    go_ret
    refine ⟨b1, d1, rfl, ⟨b1, d1, rfl, G1.out, fun b hb => ?_⟩, G2.out⟩
    rcases G3.out with q | q
    · have := own_b (q.symm.trans hb); omega
    · have := q.symm.trans hb; simp at this; omega
def S0 (id d : Nat) (dict : List UInt8) : Str := ⟨id, d, dict, [], [], ⟨1, 4, 8⟩, false, false⟩
theorem st_new {V : World} {id dl : Nat} {a : Option Addr} {c ch : Nat} {dict : List UInt8} (hr : SlR V 1 (.slice a dict.length c) dict.length (dict.map u8c)) (hch : V.heap[ch]? = some (.chan 1 #[] false 0 0 false)) (hne : ∀ b, (Value.slice a dict.length c).ownBlock = some b → b ≠ ch ∧ b < V.heap.size) :
    StAt (fun k => k = V.heap.size ∨ k = ch) (V.alloc (.cells #[.int .i64 (id : Nat), .int .i64 (dl : Nat), .slice a dict.length c, .slice none 0 0, .slice none 0 0, .int .i64 1, .int .i64 4, .int .i64 8, .bool false, .bool false, .chan (some ch)] 134)) V.heap.size (S0 id dl dict) := by
  have k := kp_alloc V (.cells #[.int .i64 (id : Nat), .int .i64 (dl : Nat), .slice a dict.length c, .slice none 0 0, .slice none 0 0, .int .i64 1, .int .i64 4, .int .i64 8, .bool false, .bool false, .chan (some ch)] 134)
  refine ⟨⟨a, none, none, c, 0, 0, ch, alloc_at V _, hr.kp k (fun _ _ q => q), fun b hb => ⟨fun q => ?_, by have := (hne b hb).2; simp; omega⟩, SlR.nil _ 1, (fun b hb => by cases hb), OwnR.nil _ _ _, (fun b hb => by cases hb), ⟨#[], 0, 0, k.at_ hch (fun q => q), .inl rfl⟩, .inr rfl⟩, .inl rfl, fun k q => by have := lt_of_at hch; rcases q with q | q <;> (subst q; simp; try omega)⟩
  rcases q with q | q
  · have := (hne b hb).2; omega
  · exact (hne b hb).1 q
def rd (w : World) (s k : Nat) : Prop := (∃ v, w.cell? ⟨s, 2, none⟩ = some v ∧ v.ownBlock = some k) ∨ ∃ v, w.cell? ⟨s, 4, none⟩ = some v ∧ v.ownBlock = some k
def NewRPost (w : World) (S : Str) (e : Ending) (w' : World) : Prop := ∃ (s : Nat) (F : Nat → Prop), e = .returned (.pointer (some ⟨s, 0, none⟩)) ∧ StAt F w' s S ∧ (∀ k, F k → w.heap.size ≤ k) ∧ Kp (fun _ => False) w w' ∧ ∀ k, rd w' s k → w.heap.size ≤ k
theorem st_end {w V : World} {id dl : Nat} {a : Option Addr} {c ch : Nat} {dict : List UInt8} (hk : Kp (fun _ => False) w V) (hr : RowB w.heap.size V (.slice a dict.length c) dict) (hch : V.heap[ch]? = some (.chan 1 #[] false 0 0 false)) (hc : w.heap.size ≤ ch) :
    NewRPost w (S0 id dl dict) (.returned (.pointer (some ⟨V.heap.size, 0, none⟩))) (V.alloc (.cells #[.int .i64 (id : Nat), .int .i64 (dl : Nat), .slice a dict.length c, .slice none 0 0, .slice none 0 0, .int .i64 1, .int .i64 4, .int .i64 8, .bool false, .bool false, .chan (some ch)] 134)) := by
  obtain ⟨_, _, e1, h1, h2⟩ := hr
  simp only [Value.slice.injEq, true_and] at e1
  obtain ⟨rfl, rfl⟩ := e1
  refine ⟨_, _, rfl, st_new h1.sl hch (fun b hb => ⟨fun q => ?_, h1.lt hb⟩), fun k q => ?_, hk.alloc _, fun k q => ?_⟩
  · subst q
    rcases h1.2 with ⟨e, _⟩ | ⟨g, _, _, _, e, hg, _⟩
    · rw [e] at hb; cases hb
    · rw [e] at hb
      have := own_b hb
      subst this
      rw [hch] at hg; cases hg
  · rcases q with rfl | rfl
    · exact hk.size
    · exact hc
  · rcases q with ⟨v, q1, q2⟩ | ⟨v, q1, q2⟩
    · rw [cell_of (alloc_at V _)] at q1
      simp only [List.getElem?_toArray, List.getElem?_cons_succ, List.getElem?_cons_zero, Option.some.injEq] at q1
      subst q1
      exact h2 k q2
    · rw [cell_of (alloc_at V _)] at q1
      simp only [List.getElem?_toArray, List.getElem?_cons_succ, List.getElem?_cons_zero, Option.some.injEq] at q1
      subst q1
      cases q2
set_option maxRecDepth 100000 in
set_option maxHeartbeats 2000000 in
theorem new_r (w : World) (dict : List UInt8) (a : Option Addr) (c : Nat) (id : Nat) (lv : Int) (dl : Nat) (hd : dep lv = (dl : Nat)) (h : SlR w 1 (.slice a dict.length c) dict.length (dict.map u8c)) (h1 : 0 < dl) (h3 : id ≤ 2147483647) (h4 : dict.length ≤ 2000) :
    Calls Tryz.prog 52 #[.slice a dict.length c, .int .i64 (id : Nat), .int .i64 lv] w (NewRPost w (S0 id dl dict)) := by
  have h1' : (((dl : Nat) : Int) == 0) = false := by rw [beq_eq_false_iff_ne]; omega
  have h2' : decide (((id : Nat) : Int) < 0) = false := decide_eq_false (by omega)
  have h3' : decide ((2147483647 : Int) < ((id : Nat) : Int)) = false := decide_eq_false (by omega)
  have h4' : decide ((2000 : Int) < ((dict.length : Nat) : Int)) = false := decide_eq_false (by omega)
  have D := Lib.hid (fun V => depth_c lv V)
  rw [hd] at D
  have B := Lib.hid begin_c
  have CL := Lib.hid (fun V (k : Kp (fun _ => False) w V) => cloneU_p V dict a c (h.kp k (fun _ _ q => q)) (by omega))
  obtain ⟨n, hn⟩ : ∃ n, n = dict.length := ⟨_, rfl⟩
  have HE := Lib.hid (fun V a c ch (hk : Kp (fun _ => False) w V) hr hch hc => st_end (w := w) (V := V) (id := id) (dl := dl) (a := a) (c := c) (ch := ch) (dict := dict) hk hr hch hc)
  rw [← hn] at CL h4' HE ⊢
  clear h hd hn
  have hmc := mkchan
  go_enter Tryz.func52, Tryz.ntmps52
  go_wp2_with fail
  refine (D.out w).mono ?_
  rintro e w1 ⟨rfl, rfl⟩
  go_wp2_with fail
  have KK := Lib.hid (Kp.refl (fun _ => False) w1).drew
  go_region_law (first
    | (go_simp; go_at_call 83; refine (D.out _).mono ?_; rintro e w2 ⟨rfl, rfl⟩)
    | (go_simp; go_at_call 84; refine (B.out _).mono ?_; rintro e w2 ⟨rfl, kb⟩
       (try have CH := Lib.hid (And.intro (kb.at_ CH.out.1 (fun q => q)) CH.out.2))
       (try have CH := Lib.hid (And.intro (kb.at_ (alloc_at _ _) (fun q => q)) KK.out.size))
       (try have RC := Lib.hid (RC.out.kp kb (fun _ q => q.elim)))
       (try have RC := Lib.hid (RC.out.kp ((kp_alloc _ _).trans kb) (fun _ q => q.elim)))
       have KK : Hid (Kp (fun _ => False) w1 w2) := Lib.hid (by first | exact KK.out.trans kb | exact (KK.out.alloc _).trans kb)
       clear kb)
    | (go_simp; go_at_call 81; refine (CL.out _ (by first | exact KK.out | exact KK.out.alloc _)).mono ?_; rintro e w2 ⟨a2, c2, rfl, rc, kb⟩
       (try have CH := Lib.hid (And.intro (kb.at_ CH.out.1 (fun q => q)) CH.out.2))
       (try have CH := Lib.hid (And.intro (kb.at_ (alloc_at _ _) (fun q => q)) KK.out.size))
       have RC : Hid (RowM 5 u8c w1.heap.size w2 (.slice a2 n c2) dict) := Lib.hid (rc.low (by first | exact KK.out.size | exact (KK.out.alloc _).size))
       clear rc
       have KK : Hid (Kp (fun _ => False) w1 w2) := Lib.hid (by first | exact KK.out.trans kb | exact (KK.out.alloc _).trans kb)
       clear kb))
  all_goals (go_wp2_with fail; go_ret)
  all_goals (first
    | exact HE.out _ _ _ _ KK.out RC.out CH.out.1 CH.out.2
    | (have h9 := HE.out (w2.alloc (.chan 1 #[] false 0 0 false)) a2 c2 w2.heap.size (KK.out.alloc _) (RC.out.kp (kp_alloc _ _) (fun _ q => q.elim)) (alloc_at _ _) KK.out.size
       rw [World.size_alloc] at h9
       exact h9))
end Go.Proofs.YtmioiaeiflbmhaaGreat.Str
