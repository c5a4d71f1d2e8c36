/- The walk of ShelfBytes. -/
import Derived.Test.YtnjkchbombjemaaShelfBytesP
namespace Go.Proofs.Ytnjkchbombjemaa.shelfBytes
open Go Go.RowKit Go.ChangeMaps Go.MapKept Go.Mg Go.Proofs.Ytnjkchbombjemaa.Sh Go.Proofs.Ytnjkchbombjemaa.Op
theorem i64_and255 (n : Int) : bits .and .i64 n 255 = n % 256 := by
  have h255 : (BitVec.ofInt 64 255).toNat = 2 ^ 8 - 1 := by decide
  have key : (BitVec.ofInt 64 n &&& BitVec.ofInt 64 255).toNat = (n % ((2 ^ 64 : Nat) : Int)).toNat % 2 ^ 8 := by
    rw [BitVec.toNat_and, BitVec.toNat_ofInt, h255, Nat.and_two_pow_sub_one_eq_mod]
  show IntKind.i64.wrap ((BitVec.ofInt 64 n &&& BitVec.ofInt 64 255).toNat : Nat) = n % 256
  rw [key, IntKind.wrap_i64]
  omega
theorem and_n (x : Int) : ∃ n : Nat, Hid (wrap64 (1 + bits .and .i64 x 255) = ((n + 1 : Nat) : Int)) ∧ n ≤ 255 := by
  have h : bits .and .i64 x 255 = (((x % 256).toNat : Nat) : Int) := by rw [i64_and255]; omega
  rw [h]
  exact ⟨(x % 256).toNat, Lib.hid (by unfold wrap64; omega), by omega⟩
theorem dat_cells (m : Nat) : ([77, 68, 73, 67] : List UInt8).map u8c ++ (Builtin.zeroCells (Value.int .u8 0).cells m).toList = (dat (zs m)).map u8c := by
  have : (Builtin.zeroCells (Value.int .u8 0).cells m).toList = List.replicate m (.int .u8 0) := zeroCells_one _ _
  rw [this, dat, zs, List.map_append, List.map_replicate]
  rfl
theorem zero_one : ∀ m, ∀ u ∈ (Builtin.zeroCells (Value.int .u8 0).cells m).toList, u.oneCell' = true := by
  intro m u hu
  have : (Builtin.zeroCells (Value.int .u8 0).cells m).toList = List.replicate m (.int .u8 0) := zeroCells_one _ _
  rw [this] at hu
  rw [List.eq_of_mem_replicate hu]
  rfl
theorem ownR_dat {w : World} {m : Nat} {a : Option Addr} {c : Nat} (h : OwnR w 5 1 (.slice a (4 + m) c) (4 + m) (([77, 68, 73, 67] : List UInt8).map u8c ++ (Builtin.zeroCells (Value.int .u8 0).cells m).toList)) :
    OwnR w 5 1 (.slice a (4 + m) c) (4 + m) ((dat (zs m)).map u8c) := by rw [← dat_cells]; exact h
set_option maxHeartbeats 1000000 in
theorem walk (w : World) (a0 : Option Addr) (c0 : Nat) (l0 : List Int) (r0 : SlR w 1 (.slice a0 l0.length c0) l0.length (l0.map (Value.int .i64))) (_ : ∀ x ∈ l0, (Lit.int .i64 x).wf = true)
    (a1 : Option Addr) (c1 : Nat) (l1 : List Bool) (r1 : SlR w 1 (.slice a1 l1.length c1) l1.length (l1.map Value.bool)) :
    Calls Try.prog 5 #[.slice a0 l0.length c0, .slice a1 l1.length c1] w (LawPost w) := by
  by_cases h : 30 < l0.length ∨ 30 < l1.length
  · go_enter Try.func5, Try.ntmps5
    go_wp2_with fail
    all_goals (go_ret; exact ⟨rfl, Below.refl _ _⟩)
  have hl0 : l0.length ≤ 30 := by omega
  have hl1 : l1.length ≤ 30 := by omega
  have t1 : decide ((30 : Int) < (l0.length : Int)) = false := by simp; omega
  have t2 : decide ((30 : Int) < (l1.length : Int)) = false := by simp; omega
  clear h
  have kc := fun (w : World) (C : Array Value) (n c : Nat) => Lib.run_convert_bytes_const (P := Try.prog) w 22 5 C n c Try.underlying22 Try.underlying5
  obtain ⟨i0, hi, hz0, hz1, hz2⟩ := info_parts info5
  go_enter Try.func5, Try.ntmps5
  go_wp2_with fail
  refine (new_o _).mono ?_
  rintro e w1 ⟨s, rfl, h1⟩
  go_wp2_with fail
  go_loopw [6, 7, 8] (fun a b i wr => ∃ (k wt lt : Nat) (S : Shs) (B : Nat), k ≤ l0.length ∧ i = .int .i64 k ∧ a = .int .i64 wt ∧ b = .int .i64 lt ∧ ShO w B wr s S ∧ Inv k wt lt S) (fun _ _ i _ => l0.length - (intOf i).toNat)
  case atStart => exact ⟨0, 0, 0, sh0, _, Nat.zero_le _, rfl, rfl, rfl, h1, inv0⟩
  case round =>
    obtain ⟨k, wt, lt, S, B, hk, rfl, rfl, rfl, hr, hI⟩ := hrel
    by_cases hlt : k < l0.length
    · obtain ⟨_, b0, d0, e0, _, _, _, hc⟩ := r0.kp hr.kp (fun _ _ q => q)
      cases e0
      obtain ⟨g, o, rfl, hg, hc⟩ := hc (by omega)
      obtain ⟨x, hx0⟩ : ∃ x, x = l0[k] := ⟨_, rfl⟩
      have hx := hc k (.int .i64 l0[k]) (by simp [hlt])
      have hr2 := hr.new (kp_lit _ (.cells #[.int .u8 77, .int .u8 68, .int .u8 73, .int .u8 67] 5 (4, 5)))
      have hlo := lit_own wr [77, 68, 73, 67] #[.int .u8 77, .int .u8 68, .int .u8 73, .int .u8 67] rfl (4, 5) (.inr (Nat.le_refl _)) 4 rfl (by decide)
      rw [← hx0] at hx; clear hx0 hc
      obtain ⟨n, HV, hn1⟩ := and_n x
      obtain ⟨S1, f, hS1, hI1, hP1⟩ := load_step (n := n + 1) hI (Nat.succ_le_succ (Nat.zero_le n)) (Nat.succ_le_succ hn1)
      have HO := Lib.hid hlo
      have HI := Lib.hid hI
      have HI1 := Lib.hid hI1
      have HS1 := Lib.hid hS1
      have HP1 := Lib.hid hP1
      have hB := hr.B
      clear hlo hI hI1 hS1 hP1
      go_wp2_with (at_builtin; go_must (refine wpList_appz _ rfl _ _ 22 3 rfl 5 i0 (.int .u8 0) .i64 1 1 Try.underlying22 Try.underlying3 hi hz0 hz1 hz2 rfl (by decide) (by decide) zero_one (.slice (some ⟨wr.heap.size, 0, none⟩) 4 4) 4 _ rfl HO.out .i64 (n + 1) (congrArg (Value.int .i64) HV.out) (by omega) ?_; intro v' w2 g1 g2 g3 g4 g5; obtain ⟨b1, d1, rfl⟩ := g1.form; have g1 := ownR_dat g1; have G1 := Lib.hid g1; have G3 := Lib.hid g3; clear g1 g3 g4 g5; have hv := HV.out; clear HV; generalize wrap64 (1 + bits BinOp.and IntKind.i64 x 255) = y at hv ⊢; have hy0 : 1 ≤ y := (by omega); have hy1 : y ≤ 256 := (by omega); have HV := Lib.hid hv; clear hv))
      have hw := hr2.set (g := wr.heap.size) (g2.mono (fun i _ e => by have := own_b e; omega)) (by omega) (by have := hr.kp.size; omega)
      have hwt : wt ≤ 10000 := by have := HI.out.le; omega
      have hll : lt ≤ wt := HI.out.ll
      refine (load_o hw (by rw [HI.out.last]; omega) nameA b1 (4 + (n + 1)) d1 (dat (zs (n + 1))) G1.out.sl (fun b hb => ?_) (by decide) (by simp [dat, zs]; omega)).mono ?_
      · rcases G3.out with e | e
        · rw [hb] at e; have := own_b e.symm; omega
        · rw [hb] at e; simp at e; omega
      unfold LoadO
      rw [HS1.out]
      rintro e w3 ⟨rfl, h3⟩
      clear hw G1 G3 g2 HO HS1 hx hr hr2 hB HI hg
      have HB := Lib.hid (show S1.bytes = (wt : Int) + y - lt by have e1 : S1.bytes = ((sm S1.books : Nat) : Int) := rfl; rw [e1, HI1.out.by_, HV.out]; omega)
      have hbb : (wt : Int) + y - lt < 4611686018427387904 := by omega
      have e3 : (wt : Int) + y - lt = ((wt + (n + 1) - lt : Nat) : Int) := by rw [HV.out]; omega
      have E3 := Lib.hid e3
      clear e3
      by_cases hp : k < l1.length
      · obtain ⟨_, b0, d0, e0, _, _, _, hc⟩ := r1.kp h3.kp (fun _ _ q => q)
        cases e0
        obtain ⟨g', o', rfl, hg', hc⟩ := hc (by omega)
        have hx := hc k (.bool l1[k]) (by simp [hp])
        obtain ⟨x', hx0⟩ : ∃ x, x = l1[k] := ⟨_, rfl⟩
        rw [← hx0] at hx
        clear hc hx0
        cases x' with
        | true =>
          go_wp2_with fail
          obtain ⟨S2, d, hS2, hI2⟩ := pin_step HI1.out HP1.out
          have HS2 := Lib.hid hS2
          have HI2 := Lib.hid hI2
          clear hS2 hI2
          refine (pin_o h3 (fun id q hq => by have := HI1.out.pins id q hq; omega) nameA).mono ?_
          unfold PinO
          rw [HS2.out]
          rintro e w4 ⟨a, c, rfl, h4, h5, h6, h7⟩
          clear h5 h6 h7
          go_wp2_with fail
          have HB2 := Lib.hid (show S2.bytes = (wt : Int) + y - lt by have e1 : S2.bytes = ((sm S2.books : Nat) : Int) := rfl; rw [e1, HI2.out.by_, E3.out])
          refine (bytes_o h4 (by rw [HB2.out]; exact hbb)).mono ?_
          unfold BytesO
          rw [HB2.out]
          rintro e w5 ⟨rfl, h5⟩
          go_wp2_with fail
          exact ⟨⟨k + 1, wt + (n + 1) - lt, 0, S2, _, by omega, by go_num, by rw [E3.out], rfl, h5, HI2.out⟩, by simp [intOf]; omega⟩
        | false =>
          go_wp2_with fail
          refine (bytes_o h3 (by rw [HB.out]; exact hbb)).mono ?_
          unfold BytesO
          rw [HB.out]
          rintro e w5 ⟨rfl, h5⟩
          go_wp2_with fail
          exact ⟨⟨k + 1, wt + (n + 1) - lt, n + 1, S1, _, by omega, by go_num, by rw [E3.out], by rw [HV.out], h5, HI1.out⟩, by simp [intOf]; omega⟩
      · go_wp2_with fail
        refine (bytes_o h3 (by rw [HB.out]; exact hbb)).mono ?_
        unfold BytesO
        rw [HB.out]
        rintro e w5 ⟨rfl, h5⟩
        go_wp2_with fail
        exact ⟨⟨k + 1, wt + (n + 1) - lt, n + 1, S1, _, by omega, by go_num, by rw [E3.out], by rw [HV.out], h5, HI1.out⟩, by simp [intOf]; omega⟩
    · clear hI
      go_wp2_with fail
      refine (known_any _).mono ?_
      rintro e w6 ⟨rfl, k6⟩
      go_wp2_with fail
      go_ret
      exact ⟨rfl, (hr.kp.trans k6).below⟩
end Go.Proofs.Ytnjkchbombjemaa.shelfBytes
