/- The library's iterators over numbers: Values, AppendSeq, Collect. The library over numbers: Collect, Grow, Concat. The library over numbers: Sorted. The document's huff: joining. -/
import Derived.RangeFuncBox
import Derived.RangeFuncLeaves
import Derived.Shelf.Abstract
import Derived.WalkKit
import Derived.OwnWalkIn
import Derived.TacticsInMore
import Derived.LoopNIn
import Derived.LoopIn
import Derived.Maps.AppendAt
import Derived.Laws.MakeOwn
import Derived.Laws.OwnMore
import Derived.Deep.DeepCutAuto
import Derived.Test.YtphakpikalmghaaGreatJ12
namespace Go.Proofs.YtphakpikalmghaaGreat.It
open Go Go.RowKit Go.Shelf Go.Mg Go.Proofs.YtphakpikalmghaaGreat.Hu

attribute [local go_sem] Oper.semAt_some

/-- What has come when k rounds are over. -/
def upto {α : Type} (f : Nat → α) (k : Nat) : List α := (List.range k).map f
theorem upto_succ {α : Type} (f : Nat → α) (k : Nat) : upto f (k + 1) = upto f k ++ [f k] := by simp [upto, List.range_succ]
theorem upto_length {α : Type} (f : Nat → α) (k : Nat) : (upto f k).length = k := by simp [upto]
theorem upto_take (zs : List Int) {k : Nat} (hk : k ≤ zs.length) : upto (fun j => zs[j]?.getD 0) k = zs.take k := by
  apply List.ext_getElem
  · simp [upto, hk]
  · intro i h1 h2
    have : i < zs.length := by simp [upto] at h1; omega
    simp [upto, this]

set_option maxRecDepth 100000 in
set_option maxHeartbeats 2000000 in
theorem values1_in (F : Fence) (n : Nat) (h7 : F.fn 145) (hro : F.round = none) (hn : 1 ≤ n) (l Bs n₀ b off len cap : Nat) (zs : List Int) (hreach : len * 8 ≤ 140737488351232) (hb : b < n₀) (J Jx : List Int → World → Prop)
    (hY : ∀ pre x W, J pre W → pre.length < len → YieldAt F (n - 1) Tryz.prog l #[.int .i64 x] W fun e W' =>
      (e = .returned (.bool true) ∧ J (pre ++ [x]) W' ∧ Below n₀ W W') ∨ (e = .returned (.bool false) ∧ Jx (pre ++ [x]) W'))
    (W : World) (hBs : W.cell? ⟨Bs, 0, none⟩ = some (.slice (some ⟨b, off, none⟩) len cap)) (hc : ∀ j, j < len → W.cell? ⟨b, off + j, none⟩ = some (.int .i64 (zs[j]?.getD 0))) (h0 : J [] W) :
    CallsIn F n Tryz.prog 145 #[.func (.yield l) #[] #[], .pointer (some ⟨Bs, 0, none⟩)] W fun e W' => (∃ v, e = .returned v) ∧
      ((∃ ys, ys = upto (fun j => zs[j]?.getD 0) len ∧ J ys W') ∨ (∃ pre, (∃ k, k ≤ len ∧ pre = upto (fun j => zs[j]?.getD 0) k) ∧ Jx pre W')) := by
  refine callsIn_of_wp Tryz.func145 rfl h7 ?_ hro
  simp only [Tryz.ntmps145, List.size_toArray, List.length_cons, List.length_nil, Nat.reduceAdd, Nat.reduceSub, Array.replicate_succ, Array.replicate_zero, List.push_toArray, List.append_toArray, List.nil_append, List.cons_append]
  gi_wp2
  gi_loopw [7] (fun i wr => ∃ k : Nat, k ≤ len ∧ i = .int .i64 k ∧ J (upto (fun j => zs[j]?.getD 0) k) wr ∧ Below n₀ W wr)
    (fun i _ => len - (intOf i).toNat)
  case atStart => exact ⟨0, Nat.zero_le _, rfl, h0, Below.refl _ _⟩
  case round =>
    obtain ⟨k, hk, rfl, hJs, hnx⟩ := hrel
    have hcx : k < len → wr.cell? ⟨b, off + k, none⟩ = some (.int .i64 (zs[k]?.getD 0)) := fun h => (hnx.cell (p := ⟨b, off + k, none⟩) hb).trans (hc k h)
    by_cases hlt : k < len
    · obtain ⟨fn, tmps, assign, body, hy, hR⟩ := hY _ (zs[k]?.getD 0) wr hJs (by rw [upto_length]; exact hlt)
      have hcx' := hcx hlt
      gi_wp2
      refine hR.mono ?_
      rintro e W3 (⟨rfl, hJ3, hk3⟩ | ⟨rfl, hJx3⟩)
      · gi_wp2
        go_roundw
        case rel => exact ⟨k + 1, by omega, by simp, by rw [upto_succ]; exact hJ3, hnx.trans hk3⟩
        case measure => simp [intOf]; omega
      · gi_wp2
        refine bodyPost_ret (results_none rfl _ _ _) rfl ?_
        exact ⟨⟨_, rfl⟩, .inr ⟨_, ⟨k + 1, by omega, (upto_succ _ _).symm⟩, hJx3⟩⟩
    · obtain rfl : k = len := by omega
      gi_wp2
      go_end0
      exact ⟨⟨_, rfl⟩, .inl ⟨_, rfl, hJs⟩⟩

/-- The slice holds the numbers zs, in a block below n₀; there is one. -/
def Ints (n₀ : Nat) (W : World) (sv : Value) (zs : List Int) : Prop :=
  ∃ b off cap, sv = .slice (some ⟨b, off, none⟩) zs.length cap ∧ b < n₀ ∧ ∀ j, j < zs.length → W.cell? ⟨b, off + j, none⟩ = some (.int .i64 (zs[j]?.getD 0))
theorem Ints.below {n₀ : Nat} {A B : World} (h : Below n₀ A B) {sv : Value} {zs : List Int} : Ints n₀ A sv zs → Ints n₀ B sv zs
  | ⟨b, off, cap, e, hb, hc⟩ => ⟨b, off, cap, e, hb, fun j hj => (h.cell (p := ⟨b, off + j, none⟩) hb).trans (hc j hj)⟩
set_option maxHeartbeats 1000000 in
theorem values_in (F : Fence) (n : Nat) (h5 : F.fn 120) (hro : F.round = none) (a : Option Addr) (len cap : Nat) (w : World) :
    CallsIn F n Tryz.prog 120 #[.slice a len cap] w fun e w' => e = .returned (.func (.func 145) #[] #[.pointer (some ⟨w.heap.size, 0, none⟩)]) ∧ w' = w.alloc (.cells #[.slice a len cap] 51) := by
  refine callsIn_of_wp Tryz.func120 rfl h5 ?_ hro
  simp only [Tryz.ntmps120, List.size_toArray, List.length_cons, List.length_nil, Nat.reduceAdd, Nat.reduceSub, Array.replicate_succ, Array.replicate_zero, List.push_toArray, List.append_toArray, List.nil_append, List.cons_append]
  gi_wp2
  go_ret
  exact ⟨rfl, rfl⟩
theorem values_stops (F : Fence) (n : Nat) (h7 : F.fn 145) (hro : F.round = none) (hn : 1 ≤ n) (Bs n₀ : Nat) (sv : Value) (zs : List Int) (hreach : zs.length * 8 ≤ 140737488351232) (w : World) (hBs : Bs < w.heap.size) (hn₀ : n₀ ≤ w.heap.size)
    (hc : w.cell? ⟨Bs, 0, none⟩ = some sv) (hI : Ints n₀ w sv zs) :
    SeqStopsK F n Tryz.prog 145 #[.pointer (some ⟨Bs, 0, none⟩)] (fun x : Int => #[Value.int .i64 x]) (Below n₀) (fun ys => ys = zs) (fun pre => pre <+: zs) zs.length w := fun l J Jx W hW _ _ hY h0 => by
  have hc' := (hW.cell (p := ⟨Bs, 0, none⟩) hBs).trans hc
  obtain ⟨b, off, cap, rfl, hb, hcs⟩ := hI.below (hW.mono hn₀)
  refine (values1_in F n h7 hro hn l Bs n₀ b off zs.length cap zs hreach hb J Jx hY W hc' hcs h0).mono ?_
  rintro e W' ⟨he, ⟨ys, rfl, hj⟩ | ⟨pre, ⟨k, hk, rfl⟩, hj⟩⟩
  · exact ⟨he, .inl ⟨_, by rw [upto_take zs (Nat.le_refl _), List.take_length], hj⟩⟩
  · exact ⟨he, .inr ⟨_, by rw [upto_take zs hk]; exact List.take_prefix _ _, hj⟩⟩

set_option maxRecDepth 100000 in
set_option maxHeartbeats 2000000 in
/-- slices.AppendSeq(nil, slices.Values(s)). -/
theorem appendSeq_in (F : Fence) (n : Nat) (h3 : F.fn 161) (h7 : F.fn 145) (hro : F.round = none) (hn : 3 ≤ n) (vb : Nat) (sv : Value) (zs : List Int) (hlen : zs.length ≤ 1000) (w : World)
    (hvb : vb < w.heap.size) (hvc : w.cell? ⟨vb, 0, none⟩ = some sv) (hI : Ints w.heap.size w sv zs) :
    CallsIn F n Tryz.prog 161 #[.slice none 0 0, .func (.func 145) #[] #[.pointer (some ⟨vb, 0, none⟩)]] w fun e W' =>
      ∃ v, e = .returned v ∧ W'.ownsRow w.heap.size 3 1 v zs.length (zs.map (Value.int .i64)) ∧ (v = .slice none 0 0 ↔ zs = []) ∧ Below w.heap.size w W' := by
  have h1 : 1 ≤ n := by omega
  obtain ⟨i0, hi, hz0, hz1, hz2⟩ := info_parts infoI
  refine callsIn_of_wp_marks Tryz.func161 rfl h3 ?_ hro
  simp only [Tryz.ntmps161, List.size_toArray, List.length_cons, List.length_nil, Nat.reduceAdd, Nat.reduceSub, Array.replicate_succ, Array.replicate_zero, List.push_toArray, List.append_toArray, List.nil_append, List.cons_append]
  gi_wp2
  have bO := Boxed.new w 51 (.slice none 0 0)
  have hB0 : Below w.heap.size w (w.alloc (.cells #[.slice none 0 0] 51)) := (Below.refl _ w).alloc (Nat.le_refl _) _
  refine wpIn_rangeFunc_ownG hro h1 (gf := 145) (lb := #[.pointer (some ⟨vb, 0, none⟩)]) rfl h7 (enters_of Tryz.func145 (by kernel_rfl) rfl)
    (values_stops F (n - 1) h7 hro (by omega) vb w.heap.size sv zs (by omega) _ (by simp; omega) (by simp) ((hB0.cell (p := ⟨vb, 0, none⟩) hvb).trans hvc) (hI.below hB0)) belowK_t (belowK_b (by simp)) (Below.refl _ _) (fun _ => rfl)
    (fun pre W => (∃ v, Boxed W w.heap.size 51 v ∧ W.ownsRow w.heap.size 3 1 v pre.length (pre.map (Value.int .i64)) ∧ (v = .slice none 0 0 ↔ pre = [])) ∧ Below w.heap.size w W)
    (fun _ _ _ => False)
    (OwnFrom.and (Own.from (holdsRow_own w.heap.size w.heap.size 51 3 1 (fun pre : List Int => pre.length) (fun pre => pre.map (Value.int .i64)) (fun pre v => v = .slice none 0 0 ↔ pre = [])) _) (ownFrom_below (Nat.le_refl _) (by simp)))
    (fun _ _ _ _ _ hs _ _ => hs)
    ⟨⟨_, bO, World.ownsRow_nil _ _ _ _, by simp⟩, hB0⟩
    (fun x => { tmps := #[.slice none 0 0, .func (.func 145) #[] #[.pointer (some ⟨vb, 0, none⟩)], .pointer (some ⟨w.heap.size, 0, none⟩), undef, .slice none 0 0, .int .i64 x, .func (.func 145) #[] #[.pointer (some ⟨vb, 0, none⟩)], .int .i64 x, undef, undef, undef, undef, undef], defers := [] }) ?assign ?body ?done ?stop
  case assign =>
    intro l x W K hK
    gi_wp2
    exact hK
  case body =>
    rintro l pre x W ⟨⟨v, hv, hrow, hnil⟩, hB⟩ hlt
    have hc := hv.cell
    gi_wp2_with (gi_at_builtin; refine wpListIn_append_own _ rfl _ _ 51 rfl w.heap.size 3 i0 (.int .i64 0) 1 8 Tryz.underlying51 hi hz0 hz1 hz2 rfl (by decide) _ _ _ rfl (hrow.alloc _) ⟨W.heap.size, 0, none⟩ 1 1 [.int .i64 x] rfl rfl (cell_one_new _ _ _) (by simp [Value.oneCell']) (by unfold maxLen; omega) (by omega) (by have := hB.size; simp; omega) ?_; intro v' w1 hown' hgrow _; obtain ⟨g', cap', rfl⟩ := ownsRow_succ hown'; obtain ⟨hv1, hv2, hr2, hk2, hb2⟩ := hv.appended (by decide) hrow hB.size (Nat.le_refl _) hown' hgrow; have hc1 := hv1.cell; have hf1 := hv1.frozen)
    exact ⟨hk2.from _, hb2, ⟨_, hv2, by simpa using hr2, by simp⟩, hB.trans hb2⟩
  case done =>
    rintro D ys W hD rfl ⟨⟨v, hv, hrow, hnil⟩, hB⟩ hK
    have hc := hv.cell
    gi_wp2
    refine ⟨by simp, .inl ⟨_, _, rfl, run_takeDeferred hK, ?_⟩⟩
    exact ⟨_, results_tmp rfl _ _ _, v, rfl, ownsRow_putObj hrow _ hK rfl, hnil, hB.trans (belowK_b (w := w) (Nat.le_refl _) W D _ _ (by simp at hD; omega) hK rfl rfl)⟩
  case stop =>
    rintro D c pre W _ _ h _
    exact h.elim
end Go.Proofs.YtphakpikalmghaaGreat.It
namespace Go.Proofs.YtphakpikalmghaaGreat.It
open Go Go.RowKit Go.ChangeMaps Go.MapKept Go.Mg Go.Proofs.YtphakpikalmghaaGreat.Hu

theorem values_c (a : Option Addr) (len cap : Nat) (w : World) :
    Calls Tryz.prog 120 #[.slice a len cap] w fun e w' => e = .returned (.func (.func 145) #[] #[.pointer (some ⟨w.heap.size, 0, none⟩)]) ∧ w' = w.alloc (.cells #[.slice a len cap] 51) :=
  callsIn_wide.1 (values_in Fence.wide 3 trivial rfl a len cap w)
/-- A new row of the numbers zs. -/
def RowPost (w : World) (zs : List Int) (e : Ending) (w' : World) : Prop :=
  ∃ a c, e = .returned (.slice a zs.length c) ∧ OwnR w' 3 1 (.slice a zs.length c) zs.length (zs.map (Value.int .i64)) ∧ (∀ b, (Value.slice a zs.length c).ownBlock = some b → w.heap.size ≤ b) ∧ Kp (fun _ => False) w w'
theorem appendSeq_c (vb : Nat) (sv : Value) (zs : List Int) (hlen : zs.length ≤ 1000) (w : World) (hvb : vb < w.heap.size) (hvc : w.cell? ⟨vb, 0, none⟩ = some sv) (hI : Ints w.heap.size w sv zs) :
    Calls Tryz.prog 161 #[.slice none 0 0, .func (.func 145) #[] #[.pointer (some ⟨vb, 0, none⟩)]] w (RowPost w zs) :=
  (callsIn_wide.1 (appendSeq_in Fence.wide 3 trivial trivial rfl (by omega) vb sv zs hlen w hvb hvc hI)).mono fun e w' ⟨v, he, ho, _, hb⟩ => by
    obtain ⟨h1, h2⟩ := OwnR.of_owns ho
    obtain ⟨a, c, rfl⟩ := h1.form
    exact ⟨a, c, he, h1, h2, Kp.of_below hb⟩
set_option maxHeartbeats 1000000 in
theorem collect_c (vb : Nat) (sv : Value) (zs : List Int) (hlen : zs.length ≤ 1000) (w : World) (hvb : vb < w.heap.size) (hvc : w.cell? ⟨vb, 0, none⟩ = some sv) (hI : Ints w.heap.size w sv zs) :
    Calls Tryz.prog 143 #[.func (.func 145) #[] #[.pointer (some ⟨vb, 0, none⟩)]] w (RowPost w zs) := by
  have C := Lib.hid (appendSeq_c vb sv zs hlen w hvb hvc hI)
  clear hvc hI
  go_enter Tryz.func143, Tryz.ntmps143
  go_wp2_with fail
  refine C.out.mono ?_
  rintro e w' ⟨a, c, rfl, h⟩
  have H := Lib.hid h
  clear h
  go_wp2_with fail
  go_ret
  exact ⟨a, c, rfl, H.out⟩
theorem zero_oneI : ∀ m, ∀ u ∈ (Builtin.zeroCells (Value.int IntKind.i64 0).cells m).toList, u.oneCell' = true := by
  intro m u hu
  have e : (Builtin.zeroCells (Value.int IntKind.i64 0).cells m).toList = List.replicate m (.int .i64 0) := zeroCells_one _ m
  rw [e] at hu
  rw [(List.mem_replicate.1 hu).2]
  rfl
theorem own_any (a : Option Addr) (n c m d : Nat) : (Value.slice a n c).ownBlock = (Value.slice a m d).ownBlock := by cases a <;> rfl
theorem OwnR.upto0 {w : World} {e : TypeId} {n cap : Nat} {a : Option Addr} {xs : List Value} (h : OwnR w e 1 (.slice a n cap) n xs) (h0 : 0 < n) : OwnR w e 1 (.slice a 0 cap) 0 [] := by
  rcases h.2 with ⟨_, h1⟩ | ⟨g, c, cur, fr, e1, hg, hfr, h1, h2, h3, h4⟩
  · omega
  · simp only [Value.slice.injEq, true_and] at e1
    obtain ⟨rfl, rfl⟩ := e1
    exact ⟨rfl, .inr ⟨g, cap, cur, fr, rfl, hg, hfr, Nat.zero_le _, h2, h3, by simp⟩⟩
set_option maxRecDepth 100000 in
set_option maxHeartbeats 1000000 in
theorem grow_c (n : Nat) (h0 : 0 < n) (hn : n ≤ 1000) (w : World) :
    Calls Tryz.prog 146 #[.slice none 0 0, .int .i64 (n : Nat)] w fun e w' => ∃ a c, e = .returned (.slice a 0 c) ∧ OwnR w' 3 1 (.slice a 0 c) 0 [] ∧ (∀ b, (Value.slice a 0 c).ownBlock = some b → w.heap.size ≤ b) ∧ Kp (fun _ => False) w w' := by
  obtain ⟨j0, hj0, hy0, hy1, hy2⟩ := info_parts infoI
  have HN := Lib.hid (OwnR.nil w 3 1)
  have hnp : 0 < n := h0
  go_enter Tryz.func146, Tryz.ntmps146
  go_wp2_with (at_builtin; go_must (refine wpList_appz _ rfl _ _ 51 3 rfl 3 j0 (.int .i64 0) .i64 1 8 Tryz.underlying51 Tryz.underlying3 hj0 hy0 hy1 hy2 rfl (by decide) (by decide) zero_oneI (.slice none 0 0) 0 [] rfl HN.out .i64 n rfl (by omega) ?_; intro v' w2 g1 g2 g3 g4 g5; rw [Nat.zero_add, List.nil_append] at g1; obtain ⟨b1, d1, rfl⟩ := g1.form; have G1 := Lib.hid g1; have G2 := Lib.hid g2; have G3 := Lib.hid g3; have hle : (0:Int) ≤ n := (by omega); clear g1 g2 g3 g4 g5))
  go_ret
  refine ⟨b1, d1, rfl, OwnR.upto0 G1.out h0, fun b hb => ?_, G2.out.mono (fun k _ e => by cases e)⟩
  have hb' : (Value.slice b1 n d1).ownBlock = some b := (own_any b1 n d1 0 d1).trans hb
  rcases G3.out with q | q
  · rw [hb'] at q; cases q
  · rw [hb'] at q; simp at q; omega
/-- slices.Concat of two. -/
def CatPost (w : World) (n : Nat) (xs : List Value) (e : Ending) (w' : World) : Prop :=
  ∃ a c, e = .returned (.slice a n c) ∧ OwnR w' 3 1 (.slice a n c) n xs ∧ (∀ b, (Value.slice a n c).ownBlock = some b → w.heap.size ≤ b) ∧ Kp (fun _ => False) w w'
def part (k n1 n2 : Nat) : Nat := match k with
  | 0 => 0
  | 1 => n1
  | _ => n1 + n2
set_option maxRecDepth 100000 in
set_option maxHeartbeats 1000000 in
theorem concat_c (g : Nat) (a1 a2 : Option Addr) (c1 c2 : Nat) (s1 s2 : List Nat) (w : World) (hg : g < w.heap.size) (h1 : w.cell? ⟨g, 0, none⟩ = some (.slice a1 s1.length c1)) (h2 : w.cell? ⟨g, 1, none⟩ = some (.slice a2 s2.length c2))
    (hs1 : SlR w 1 (.slice a1 s1.length c1) s1.length (s1.map nv)) (hs2 : SlR w 1 (.slice a2 s2.length c2) s2.length (s2.map nv)) (h0 : 0 < s1.length) (hl : s1.length + s2.length ≤ 1000) :
    Calls Tryz.prog 121 #[.slice (some ⟨g, 0, none⟩) 2 2] w (CatPost w (s1.length + s2.length) (s1.map nv ++ s2.map nv)) := by
  obtain ⟨j0, hj0, hy0, hy1, hy2⟩ := info_parts infoI
  have O1 := Lib.hid (nv_one s1)
  have O2 := Lib.hid (nv_one s2)
  have S1 := Lib.hid hs1
  have S2 := Lib.hid hs2
  clear hs1 hs2
  generalize hn1 : s1.length = n1 at *
  generalize hn2 : s2.length = n2 at *
  have HN1 := Lib.hid hn1
  have HN2 := Lib.hid hn2
  clear hn1 hn2
  go_enter Tryz.func121, Tryz.ntmps121
  go_wp2_with fail
  go_loopw [3, 11] (fun z i wr => wr = w ∧ ((i = .int .i64 0 ∧ z = .int .i64 0) ∨ (i = .int .i64 1 ∧ z = .int .i64 (n1 : Nat)) ∨ (i = .int .i64 2 ∧ z = .int .i64 ((n1 : Nat) + (n2 : Nat))))) (fun _ i _ => 2 - (intOf i).toNat)
  case atStart => exact ⟨rfl, .inl ⟨rfl, rfl⟩⟩
  case round =>
    obtain ⟨rfl, ⟨rfl, rfl⟩ | ⟨rfl, rfl⟩ | ⟨rfl, rfl⟩⟩ := hrel
    · go_wp2_with fail
      exact ⟨⟨by first | trivial | rfl, .inr (.inl ⟨by go_num, by go_num⟩)⟩, by simp [intOf]⟩
    · go_wp2_with fail
      exact ⟨⟨by first | trivial | rfl, .inr (.inr ⟨by go_num, by go_num⟩)⟩, by simp [intOf]⟩
    · go_wp2_with fail
      refine (grow_c (n1 + n2) (by omega) hl wr).mono ?_
      rintro e w1 ⟨b, d, rfl, p1, p2, p3⟩
      have P1 := Lib.hid p1
      have P2 := Lib.hid p2
      have P3 := Lib.hid p3
      have d1 := (p3.cell (p := ⟨g, 0, none⟩) hg (fun q => q)).trans h1
      have d2 := (p3.cell (p := ⟨g, 1, none⟩) hg (fun q => q)).trans h2
      have T1 := Lib.hid (S1.out.kp p3 (fun _ _ q => q))
      clear p1 p2 p3
      go_wp2_with fail
      go_loopw [6, 27] (fun v i wx => ∃ a c, Kp (fun _ => False) wr wx ∧ (∀ m, ∀ b, (Value.slice a m c).ownBlock = some b → wr.heap.size ≤ b) ∧ ((i = .int .i64 0 ∧ v = .slice a 0 c ∧ OwnR wx 3 1 (.slice a 0 c) 0 []) ∨ (i = .int .i64 1 ∧ v = .slice a n1 c ∧ OwnR wx 3 1 (.slice a n1 c) n1 (s1.map nv)) ∨ (i = .int .i64 2 ∧ v = .slice a (n1 + n2) c ∧ OwnR wx 3 1 (.slice a (n1 + n2) c) (n1 + n2) (s1.map nv ++ s2.map nv)))) (fun _ i _ => 2 - (intOf i).toNat)
      case atStart => exact ⟨b, d, P3.out, fun m i hi => P2.out i ((own_any b 0 d m d).trans hi), .inl ⟨rfl, rfl, P1.out⟩⟩
      case round =>
        obtain ⟨a, c, hk, hnw, ⟨rfl, rfl, ho⟩ | ⟨rfl, rfl, ho⟩ | ⟨rfl, rfl, ho⟩⟩ := hrel
        all_goals
          have f1 := (hk.cell (p := ⟨g, 0, none⟩) hg (fun q => q)).trans h1
          have f2 := (hk.cell (p := ⟨g, 1, none⟩) hg (fun q => q)).trans h2
          have KX := Lib.hid hk
          have NW := Lib.hid hnw
          have HO := Lib.hid ho
          clear hk hnw ho d1 d2
        · have T := Lib.hid (S1.out.kp KX.out (fun _ _ q => q))
          go_wp2_with (at_builtin; refine wpList_app _ rfl _ _ 51 rfl 3 j0 _ 1 8 Tryz.underlying51 hj0 hy0 hy1 hy2 rfl (by decide) (by decide) (.slice a 0 c) 0 [] rfl HO.out (.slice a1 n1 c1) n1 _ rfl T.out O1.out (by omega) ?_; intro v' w2 g1 g2 g3 g4 g5; rw [Nat.zero_add, List.nil_append] at g1; obtain ⟨b1, e1, rfl⟩ := g1.form; have G1 := Lib.hid g1; have G2 := Lib.hid g2; have G3 := Lib.hid g3; clear g1 g2 g3 g4 g5)
          refine ⟨⟨b1, e1, KX.out.up G2.out (fun i q => NW.out 0 i q), fun m i hi => ?_, .inr (.inl ⟨by go_num, rfl, G1.out⟩)⟩, by simp [intOf]⟩
          have hi' : (Value.slice b1 n1 e1).ownBlock = some i := (own_any b1 n1 e1 m e1).trans hi
          rcases G3.out with q | q
          · exact NW.out 0 i (by rw [← q]; exact hi')
          · rw [hi'] at q; simp at q; have := KX.out.size; omega
        · have T := Lib.hid (S2.out.kp KX.out (fun _ _ q => q))
          go_wp2_with (at_builtin; refine wpList_app _ rfl _ _ 51 rfl 3 j0 _ 1 8 Tryz.underlying51 hj0 hy0 hy1 hy2 rfl (by decide) (by decide) (.slice a n1 c) n1 _ rfl HO.out (.slice a2 n2 c2) n2 _ rfl T.out O2.out (by omega) ?_; intro v' w2 g1 g2 g3 g4 g5; obtain ⟨b1, e1, rfl⟩ := g1.form; have G1 := Lib.hid g1; have G2 := Lib.hid g2; have G3 := Lib.hid g3; clear g1 g2 g3 g4 g5)
          refine ⟨⟨b1, e1, KX.out.up G2.out (fun i q => NW.out n1 i q), fun m i hi => ?_, .inr (.inr ⟨by go_num, rfl, G1.out⟩)⟩, by simp [intOf]⟩
          have hi' : (Value.slice b1 (n1 + n2) e1).ownBlock = some i := (own_any b1 (n1 + n2) e1 m e1).trans hi
          rcases G3.out with q | q
          · exact NW.out n1 i (by rw [← q]; exact hi')
          · rw [hi'] at q; simp at q; have := KX.out.size; omega
        · go_wp2_with fail
          go_ret
          exact ⟨a, c, rfl, HO.out, fun b hb => NW.out _ b hb, KX.out⟩
end Go.Proofs.YtphakpikalmghaaGreat.It
namespace Go.Proofs.YtphakpikalmghaaGreat.It
open Go Go.RowKit Go.ChangeMaps Go.MapKept Go.Mg Go.Sort Go.Proofs.YtphakpikalmghaaGreat.Hu

theorem nats_sorted (s : List Nat) : ∃ ys : List Nat, ys.Perm s ∧ ys.Pairwise (· ≤ ·) ∧ ((s.map fun i : Nat => (i : Int)).mergeSort fun x y => decide (x ≤ y)) = ys.map fun i : Nat => (i : Int) := by
  obtain ⟨zs, hz⟩ : ∃ zs, zs = (s.map fun i : Nat => (i : Int)).mergeSort fun x y => decide (x ≤ y) := ⟨_, rfl⟩
  have hp : zs.Perm (s.map fun i : Nat => (i : Int)) := by rw [hz]; exact List.mergeSort_perm _ _
  have hs : zs.Pairwise fun x y => decide (x ≤ y) = true := by
    rw [hz]
    exact List.pairwise_mergeSort (fun a b c h1 h2 => by simp at *; omega) (fun a b => by simp; omega) _
  have hpos : ∀ z, z ∈ zs → 0 ≤ z := fun z hz' => by
    obtain ⟨i, _, rfl⟩ := List.mem_map.1 (hp.mem_iff.1 hz')
    omega
  refine ⟨zs.map Int.toNat, ?_, ?_, ?_⟩
  · have := hp.map Int.toNat
    rw [List.map_map] at this
    have e : s.map (Int.toNat ∘ fun i : Nat => (i : Int)) = s := by
      have : (Int.toNat ∘ fun i : Nat => (i : Int)) = id := by funext i; simp
      rw [this, List.map_id]
    rwa [e] at this
  · rw [List.pairwise_map]
    exact hs.imp (fun h => by simp at h; omega)
  · rw [← hz, List.map_map]
    have : ∀ z, z ∈ zs → ((fun i : Nat => (i : Int)) ∘ Int.toNat) z = id z := fun z hz' => by have := hpos z hz'; simp; omega
    rw [List.map_congr_left this, List.map_id]
def SrtPost (w : World) (g : Nat) (zs : List Int) (e : Ending) (w' : World) : Prop :=
  e = .returned (.tuple #[]) ∧ ∃ n os, w' = grow (putRow (Value.int .i64) (Sort.ahead w n) g 0 (zs.mergeSort fun x y => decide (x ≤ y)).toArray) os
theorem srt_c (g cap : Nat) (zs : List Int) (w : World) (hH : Holds (Value.int .i64) w g 0 zs.toArray) (hg : g < w.heap.size) (hl : zs.length < 4611686018427387904) :
    Calls Tryz.prog 144 #[.slice (some ⟨g, 0, none⟩) zs.length cap] w (SrtPost w g zs) := AnyM.slices_Sort_int Tryz.sortInts g 0 cap zs w hH hg hl
def SortedPost (w : World) (s : List Nat) (e : Ending) (w' : World) : Prop :=
  ∃ ys : List Nat, ys.Perm s ∧ ys.Pairwise (· ≤ ·) ∧ ∃ a c, e = .returned (.slice a s.length c) ∧ OwnR w' 3 1 (.slice a s.length c) s.length (ys.map nv) ∧ (∀ b, (Value.slice a s.length c).ownBlock = some b → w.heap.size ≤ b) ∧ Kp (fun _ => False) w w'
theorem ints_of {w : World} {a : Option Addr} {c : Nat} {s : List Nat} (h : SlR w 1 (.slice a s.length c) s.length (s.map nv)) (h0 : 0 < s.length) : Ints w.heap.size w (.slice a s.length c) (s.map fun i : Nat => (i : Int)) := by
  obtain ⟨g, off, rfl, hg, hcap, hc⟩ := at_nv h h0
  refine ⟨g, off, c, by simp, hg, fun j hj => ?_⟩
  have hj' : j < s.length := by simpa using hj
  rw [hc j hj']
  simp [hj']
set_option maxRecDepth 100000 in
set_option maxHeartbeats 1000000 in
theorem sorted_c (vb : Nat) (a : Option Addr) (c : Nat) (s : List Nat) (h0 : 0 < s.length) (hlen : s.length ≤ 1000) (w : World) (hvb : vb < w.heap.size) (hvc : w.cell? ⟨vb, 0, none⟩ = some (.slice a s.length c)) (hI : SlR w 1 (.slice a s.length c) s.length (s.map nv)) :
    Calls Tryz.prog 119 #[.func (.func 145) #[] #[.pointer (some ⟨vb, 0, none⟩)]] w (SortedPost w s) := by
  have C := Lib.hid (collect_c vb _ (s.map fun i : Nat => (i : Int)) (by simpa using hlen) w hvb hvc (ints_of hI h0))
  obtain ⟨ys, y1, y2, y3⟩ := nats_sorted s
  have Y1 := Lib.hid y1
  have Y2 := Lib.hid y2
  have Y3 := Lib.hid y3
  clear hvc hI y1 y2 y3
  go_enter Tryz.func119, Tryz.ntmps119
  go_wp2_with fail
  refine C.out.mono ?_
  rintro e w1 ⟨a1, c1, rfl, h1, h2, h3⟩
  obtain ⟨zs, hz⟩ : ∃ zs : List Int, zs = s.map fun i : Nat => (i : Int) := ⟨_, rfl⟩
  have hzl : zs.length = s.length := by rw [hz]; simp
  rw [← hz] at h1 h2 ⊢
  rw [← hz] at Y3
  obtain ⟨g, eg, hcap, hat⟩ := h1.at1 (by omega)
  subst eg
  have hH : Holds (Value.int .i64) w1 g 0 zs.toArray := by
    intro j hj
    have hj' : j < zs.length := by simpa using hj
    obtain ⟨q1, q2, _⟩ := hat j hj'
    rw [Nat.zero_add]
    refine ⟨q1 _ ?_, q2⟩
    rw [List.getElem?_map, List.getElem?_eq_getElem hj', getElem!_pos _ j hj]
    simp
  have hg : g < w1.heap.size := h1.lt rfl
  have HC := Lib.hid (srt_c g c1 zs w1 hH hg (by omega))
  have H1 := Lib.hid h1
  have H2 := Lib.hid h2
  have H3 := Lib.hid h3
  have HZ := Lib.hid hzl
  clear h1 h2 h3 hH hat hz hzl
  go_wp2_with fail
  refine Calls.mono HC.out ?_
  rintro e w' ⟨rfl, n, os, rfl⟩
  rw [Y3.out]
  have hyl : ys.length = zs.length := by rw [HZ.out]; exact Y1.out.length_eq
  have k2 := sorted_kp (Value.int .i64) w1 g n 0 (ys.map fun i : Nat => (i : Int)).toArray os
  have o2 := H1.out.sortedI (k := n) (ys.map fun i : Nat => (i : Int)) (by simpa using hyl) os
  generalize grow (putRow (Value.int .i64) (Sort.ahead w1 n) g 0 (ys.map fun i : Nat => (i : Int)).toArray) os = w2 at k2 o2 ⊢
  have K2 := Lib.hid k2
  have O2 := Lib.hid o2
  clear k2 o2 hyl
  go_wp2_with fail
  go_ret
  have o3 := O2.out
  rw [List.map_map] at o3
  refine ⟨ys, Y1.out, Y2.out, some ⟨g, 0, none⟩, c1, by rw [← HZ.out]; rfl, ?_, fun b hb => ?_, H3.out.up K2.out (fun i e => by rw [e]; exact H2.out g rfl)⟩
  · rw [← HZ.out]; exact o3
  · exact H2.out b ((own_any _ _ _ _ _).trans hb)
theorem values_o (a : Option Addr) (len cap : Nat) (w : World) :
    Calls Tryz.prog 120 #[.slice a len cap] w fun e w' => ∃ vb, e = .returned (.func (.func 145) #[] #[.pointer (some ⟨vb, 0, none⟩)]) ∧ vb < w'.heap.size ∧ w'.cell? ⟨vb, 0, none⟩ = some (.slice a len cap) ∧ Kp (fun _ => False) w w' :=
  (values_c a len cap w).mono fun e w' ⟨he, hw⟩ => ⟨w.heap.size, he, by rw [hw]; simp, by rw [hw, cell_of (alloc_at w _)]; rfl, by rw [hw]; exact (Kp.refl _ _).alloc _⟩
end Go.Proofs.YtphakpikalmghaaGreat.It
namespace Go.Proofs.YtphakpikalmghaaGreat.Hu
open Go Go.RowKit Go.ChangeMaps Go.MapKept Go.Mg Go.Hf Go.Sort

def OncePost (w : World) (cs : List Nat) (e : Ending) (w' : World) : Prop :=
  ∃ (L : Nat → Nat) (m : Nat) (a : Option Addr) (c : Nat), e = .returned (.tuple #[.slice a cs.length c, .int .i64 m]) ∧ Jd cs L ∧ Lo w.heap.size w' (.slice a cs.length c) cs.length L ∧ Kp (fun _ => False) w w' ∧
    (∀ i, i < cs.length → L i ≤ m) ∧ (11 < m → ∃ i, i < cs.length ∧ 11 < L i)
theorem make_ints (w : World) (n : Nat) (hn : n ≤ 1000) : ∃ cur : Array Value, cur.toList = List.replicate n (nv 0) ∧
    (Instr.makeSlice 51 (.int .i64 (n : Nat)) (.int .i64 (n : Nat))).run Tryz.prog w = .ok (.slice (some ⟨w.heap.size, 0, none⟩) n n) (w.alloc (.cells cur 3)) := by
  obtain ⟨i0, hi0, hz0, hz1, hz2⟩ := info_parts infoI
  have h := run_make (P := Tryz.prog) w 51 3 i0 _ Tryz.underlying51 hi0 hz0 .i64 .i64 (n : Int) (n : Int) (by omega) (by omega) (by rw [hz2]; omega) (by omega)
  rw [hz1] at h
  refine ⟨_, ?_, h⟩
  show (madeCells #[_] _).toList = _
  rw [toList_madeCells_one]
  simp [nv]
theorem Lo.made {w : World} {n : Nat} {cur : Array Value} (hn : n ≤ 1000) (hc : cur.toList = List.replicate n (nv 0)) : Lo w.heap.size (w.alloc (.cells cur 3)) (.slice (some ⟨w.heap.size, 0, none⟩) n n) n (fun _ => 0) := by
  have hs : cur.size = n := by rw [← Array.length_toList, hc, List.length_replicate]
  refine ⟨⟨by simp, .inr ⟨_, n, cur, (0, 0), rfl, alloc_at w _, .inl rfl, Nat.le_refl _, by unfold maxLen; omega, by omega, ?_⟩⟩, fun b hb => Nat.le_of_eq (own_b hb).symm⟩
  rw [hc, Nat.mul_one, List.take_of_length_le (by simp)]
  apply List.ext_getElem
  · simp
  · intro i h1 h2; simp
set_option maxRecDepth 100000 in
set_option maxHeartbeats 2000000 in
theorem once_c (w : World) (cs : List Nat) (a : Option Addr) (c : Nat) (h : SlR w 1 (.slice a cs.length c) cs.length (cs.map nv)) (hlen : cs.length ≤ 256) (hS : cs.sum ≤ 1125899906842624) :
    Calls Tryz.prog 63 #[.slice a cs.length c] w (OncePost w cs) := by
  have mixed : Tryz.prog.follows .mixedOrders = true := by kernel_rfl
  obtain ⟨cur, hcur, hmk⟩ := make_ints w cs.length (by omega)
  have L0 := Lib.hid (Lo.made (w := w) (n := cs.length) (by omega) hcur)
  have K0 : Hid (Kp (fun _ => False) w (w.alloc (.cells cur 3))) := Lib.hid ((Kp.refl _ _).alloc _)
  have HS := Lib.hid hS
  have HC := Lib.hid h
  clear h hcur hS
  go_enter Tryz.func63, Tryz.ntmps63
  go_wp2_with fail
  generalize hW : w.alloc (.cells cur 3) = W at L0 K0 ⊢
  have hwW : w.heap.size < W.heap.size := by rw [← hW]; simp
  clear hmk hW
  obtain ⟨i0, hi0, hz0, hz1, hz2⟩ := info_parts infoT
  obtain ⟨j0, hj0, hy0, hy1, hy2⟩ := info_parts infoI
  go_loopw [5, 6] (fun l i wr => ∃ (k : Nat) (Fs : List (Tr × Value)) (aL : Option Addr) (cL : Nat), k ≤ cs.length ∧ i = .int .i64 k ∧ l = .slice aL Fs.length cL ∧ Fo w.heap.size wr 120 (.slice aL Fs.length cL) Fs ∧ Fs.map (·.1) = forest (cs.take k) ∧ Fs.length ≤ k ∧
    Lo w.heap.size wr (.slice (some ⟨w.heap.size, 0, none⟩) cs.length cs.length) cs.length (fun _ => 0) ∧ Apart (.slice (some ⟨w.heap.size, 0, none⟩) cs.length cs.length) (.slice aL Fs.length cL) Fs ∧ Kp (fun _ => False) w wr ∧ w.heap.size < wr.heap.size) (fun _ i _ => cs.length - (intOf i).toNat)
  case atStart => exact ⟨0, [], none, 0, Nat.zero_le _, rfl, rfl, Fo.nil _ _ _, rfl, Nat.le_refl _, L0.out, fun b hb => ⟨(by simp [Value.ownBlock]), fun p hp => by cases hp⟩, K0.out, hwW⟩
  case round =>
    obtain ⟨k, Fs, aL, cL, hk, rfl, rfl, hF, hm, hfl, hL, hA, hkp, hwr⟩ := hrel
    have HF := Lib.hid hF
    have HM := Lib.hid hm
    have HL := Lib.hid hL
    have HA := Lib.hid hA
    have HK := Lib.hid hkp
    clear hF hm hL hA hkp
    by_cases hlt : k < cs.length
    · obtain ⟨g, off, ea, hg, hcap, hc⟩ := at_nv (HC.out.kp HK.out (fun _ _ q => q)) (show 0 < cs.length by omega)
      have d0 := hc k hlt
      clear hc
      obtain ⟨ck, hck⟩ : ∃ ck, ck = cs[k] := ⟨_, rfl⟩
      rw [← hck] at d0
      have hcm : ck ∈ cs := by rw [hck]; exact List.getElem_mem _
      have HCM := Lib.hid (forest_snoc (cs.take k) ck)
      have HT : Hid (cs.take (k + 1) = cs.take k ++ [ck]) := Lib.hid (by rw [hck, List.take_succ_eq_append_getElem hlt])
      have hlk : (cs.take k).length = k := by rw [List.length_take]; omega
      have HLK := Lib.hid hlk
      clear hck hcm hlk
      subst ea
      by_cases hpos : 0 < ck
      · -- a leaf
        have n1 : (wr.alloc (.cells #[.int .i64 (k : Nat)] 3)).heap[wr.heap.size]? = some (.cells #[nv k] 3 (0, 0)) := alloc_at wr _
        obtain ⟨w2, hw2⟩ : ∃ w2, w2 = (wr.alloc (.cells #[.int .i64 (k : Nat)] 3)).alloc (.cells #[.int .i64 (ck : Nat), .slice (some ⟨wr.heap.size, 0, none⟩) 1 1] 120) := ⟨_, rfl⟩
        have k2 : Kp (fun _ => False) wr w2 := by rw [hw2]; exact ((Kp.refl _ _).alloc _).alloc _
        have n1' : w2.heap[wr.heap.size]? = some (.cells #[nv k] 3 (0, 0)) := by rw [hw2]; exact (Below.heap_alloc _ _ _ (by simp)).trans n1
        have n2 : w2.heap[wr.heap.size + 1]? = some (.cells #[.int .i64 ((leaf k ck).n : Nat), .slice (some ⟨wr.heap.size, 0, none⟩) 1 1] 120 (0, 0)) := by
          rw [hw2]; have := alloc_at (wr.alloc (.cells #[.int .i64 (k : Nat)] 3)) (.cells #[.int .i64 (ck : Nat), .slice (some ⟨wr.heap.size, 0, none⟩) 1 1] 120); rwa [World.size_alloc] at this
        have hs2 : w2.heap.size = wr.heap.size + 2 := by rw [hw2]; simp
        have T2 := leaf_tv (i := k) (c := ck) n1'
        have F2 := HF.out.kp k2 (fun _ _ q => q) (fun _ _ _ _ q => q)
        have S2 := one_sl (t := leaf k ck) n2
        have TT := Lib.hid T2
        have FF := Lib.hid F2
        have SS := Lib.hid S2
        have KK := Lib.hid k2
        have O2 := Lib.hid (E_one1 T2)
        clear n1 n1' n2 k2 T2 F2 S2
        have hb32 : (Fs.length + 1) * 32 ≤ 140737488355328 := by omega
        go_wp2_with (at_builtin; rw [← hw2]; refine wpList_appO _ rfl _ _ 118 rfl 120 i0 _ 2 32 Tryz.underlying118 hi0 hz0 hz1 hz2 rfl (by decide) (by decide) (.slice aL Fs.length cL) Fs.length _ rfl FF.out.row (.slice (some ⟨wr.heap.size + 1, 0, none⟩) 1 1) 1 _ rfl SS.out O2.out hb32 ?_; intro v' w3 g1 g2 g3 g4 g5; obtain ⟨b1, d1, rfl⟩ := g1.form; have G1 := Lib.hid g1; have G2 := Lib.hid g2; have G3 := Lib.hid g3; clear g1 g2 g3 g4 g5)
        have P3 := FF.out.push (by omega) TT.out (fun b hb q => by have h1 := own_b hb; have := HF.out.row.lt q; omega) G1.out G2.out G3.out
        refine ⟨⟨k + 1, Fs ++ [(leaf k ck, .slice (some ⟨wr.heap.size, 0, none⟩) 1 1)], b1, d1, by omega, by go_num, by simp, by simpa using P3, ?_, by simp; omega, ?_, ?_, ?_, ?_⟩, by simp [intOf]; omega⟩
        · rw [HT.out, HCM.out, List.map_append, HM.out, HLK.out, if_pos hpos]; rfl
        · exact (HL.out.kp KK.out (fun _ _ q => q)).kp G2.out (fun b hb q => (HA.out b hb).1 q)
        · intro b hb
          have e := own_b hb
          subst e
          refine ⟨fun q => ?_, fun p hp q => ?_⟩
          · rw [List.length_append] at q
            rcases G3.out with q' | q'
            · exact (HA.out _ hb).1 (q'.symm.trans q)
            · have q'' := q'.symm.trans q; simp at q''; omega
          · rcases List.mem_append.1 hp with hp | hp
            · exact (HA.out _ hb).2 p hp q
            · rw [List.mem_singleton] at hp; subst hp
              have := own_b q; omega
        · exact (HK.out.trans KK.out).up G2.out (fun i q => HF.out.new i q)
        · have := G2.out.size; omega
      · obtain rfl : ck = 0 := by omega
        go_wp2_with fail
        refine ⟨⟨k + 1, Fs, aL, cL, by omega, by go_num, rfl, HF.out, ?_, by omega, HL.out, HA.out, HK.out, hwr⟩, by simp [intOf]; omega⟩
        rw [HT.out, HCM.out, HM.out]
        simp
    · obtain rfl : k = cs.length := by omega
      have hforest : Fs.map (·.1) = forest cs := by rw [HM.out, List.take_length]
      have HFO := Lib.hid hforest
      clear HM hforest
      by_cases h1 : Fs.length = 1
      · obtain ⟨p, rfl⟩ : ∃ p, Fs = [p] := List.length_eq_one_iff.1 h1
        obtain ⟨t, v⟩ := p
        obtain ⟨g, off, ea, hg, hcap, hc⟩ := at_E HF.out.row.sl (by simp)
        obtain ⟨d0, d1⟩ := hc 0 (by simp)
        have ht : t ∈ forest cs := by rw [← HFO.out]; simp
        obtain ⟨j, hj, et, _⟩ := mem_forestFrom ht
        rw [Nat.zero_add] at et
        obtain ⟨xa, xc, ev, hxs, _, _⟩ := HF.out.trees _ (List.mem_singleton.2 rfl)
        simp only at ev
        have hs1 : t.s = [j] := by rw [et]; rfl
        simp only [ev, hs1] at hxs
        obtain ⟨g2, off2, ex, hg2, hcap2, hc2⟩ := at_nv (s := [j]) hxs (by simp)
        have e0 := hc2 0 (by simp)
        simp only [ex, ev, hs1, List.length_singleton, List.getElem_cons_zero, Nat.zero_mul, Nat.add_zero] at d0 d1 e0 hcap2
        subst ea
        obtain ⟨g3, eg3, hg3, _, _, f0, f1, f2, f3⟩ := HL.out.at_ hj
        simp only [Option.some.injEq, Addr.mk.injEq, and_true] at eg3
        subst eg3
        have hj' : j < cs.length := hj
        have HTM : Hid (t.m = j) := Lib.hid (by rw [et]; rfl)
        have F2 := Lib.hid f2
        have F3 := Lib.hid f3
        clear hc hc2 f2 f3 ht et ev hs1 hxs
        simp only [List.length_singleton] at h1 hcap
        go_wp2_with fail
        go_ret2
        refine ⟨bump [j] (fun _ => 0), 1, _, _, rfl, .inl ⟨t, by rw [← HFO.out]; rfl, ?_⟩, F2.out, (HK.out.trans2 F3.out (fun i hi e => by omega)), ?_, fun q => by omega⟩
        · rw [bump_one, HTM.out]
        · intro i hi
          rw [bump_one]
          simp only
          split <;> omega
      · have hst : Fst cs.length cs.sum (forest cs) (Fs.map (·.1)) (fun _ => 0) := by rw [HFO.out]; exact Fst.start cs
        have ST := Lib.hid hst
        have h1' : ((Fs.length : Int) == 1) = false := by rw [beq_eq_false_iff_ne]; omega
        have H1 : Hid ((forest cs).length ≠ 1) := Lib.hid (by rw [← HFO.out, List.length_map]; exact h1)
        clear hst
        go_wp2_with fail
        go_loopw [5, 7] (fun l m wr => ∃ (Fs : List (Tr × Value)) (L : Nat → Nat) (mm : Nat) (aL : Option Addr) (cL : Nat), m = .int .i64 mm ∧ l = .slice aL Fs.length cL ∧ Fo w.heap.size wr 120 (.slice aL Fs.length cL) Fs ∧ Fst cs.length cs.sum (forest cs) (Fs.map (·.1)) L ∧
          Lo w.heap.size wr (.slice (some ⟨w.heap.size, 0, none⟩) cs.length cs.length) cs.length L ∧ Apart (.slice (some ⟨w.heap.size, 0, none⟩) cs.length cs.length) (.slice aL Fs.length cL) Fs ∧ Kp (fun _ => False) w wr ∧ w.heap.size < wr.heap.size ∧ Most cs.length L mm) (fun l _ _ => lenOf l)
        case atStart => exact ⟨Fs, _, 0, aL, cL, rfl, rfl, HF.out, ST.out, HL.out, HA.out, HK.out, hwr, ⟨fun i _ => Nat.le_refl _, .inl rfl⟩⟩
        case round =>
          clear HFO HF HL HA HK ST h1 h1'
          obtain ⟨Gs, L, mm, bL, dL, rfl, rfl, hF, hst, hL, hA, hkp, hwr, hmo⟩ := hrel
          have HF := Lib.hid hF
          have ST := Lib.hid hst
          have HL := Lib.hid hL
          have HA := Lib.hid hA
          have HK := Lib.hid hkp
          have HMO := Lib.hid hmo
          clear hF hst hL hA hkp hmo
          by_cases h1 : 1 < Gs.length
          · have hlg : Gs.length ≤ 256 := by have := ST.out.len 0; simp at this; omega
            go_wp2_with fail
            refine (take_c _ Gs bL dL HF.out.row.sl HF.out.trees (by omega) (by omega)).mono ?_
            rintro e w1 ⟨k1, hk1, a1, c1, rfl, t1, t2, t3, t4⟩
            obtain ⟨⟨ta, va⟩, hpa⟩ : ∃ p, p = Gs[k1] := ⟨_, rfl⟩
            rw [← hpa] at t4 ⊢
            obtain ⟨Rs, hRs⟩ : ∃ r, r = Gs.take k1 ++ Gs.drop (k1 + 1) := ⟨_, rfl⟩
            have hperm1 : Gs.Perm ((ta, va) :: Rs) := by rw [hpa, hRs]; exact pick_perm hk1
            have hlen1 : Gs.length - 1 = Rs.length := by have := hperm1.length_eq; simp at this; omega
            rw [← hRs, hlen1] at t1
            rw [hlen1] at t2 ⊢
            obtain ⟨xa, ya, eva, _⟩ := HF.out.trees (ta, va) (hperm1.mem_iff.2 (by simp))
            simp only at eva
            have TA := Lib.hid (HF.out.trees (ta, va) (hperm1.mem_iff.2 (by simp)))
            have P1 := Lib.hid hperm1
            have T1 := Lib.hid t1
            have T2 := Lib.hid t2
            have T3 := Lib.hid t3
            have T4 := Lib.hid t4
            clear t1 t2 t3 t4 hpa hRs hperm1 hlen1
            go_wp2_with fail
            obtain ⟨W1, hW1⟩ : ∃ W, W = w1.alloc (.cells #[.int .i64 (ta.n : Nat), .slice xa ta.s.length ya] 120) := ⟨_, rfl⟩
            have k1 : Kp (fun _ => False) wr W1 := by rw [hW1]; exact T3.out.alloc _
            have b1 : W1.heap[w1.heap.size]? = some (.cells #[.int .i64 (ta.n : Nat), .slice xa ta.s.length ya] 120 (0, 0)) := by rw [hW1]; exact alloc_at _ _
            have hs1 : W1.heap.size = w1.heap.size + 1 := by rw [hW1]; simp
            have hRT : ∀ p, p ∈ Rs → Tv wr p.1 p.2 := fun p hp => HF.out.trees p (P1.out.mem_iff.2 (by simp [hp]))
            have hR1 : 0 < Rs.length := by have := P1.out.length_eq; simp at this; omega
            have hR2 : Rs.length ≤ 256 := by have := P1.out.length_eq; simp at this; omega
            rw [← hW1]
            have hsl1 : SlR W1 2 (.slice a1 Rs.length c1) Rs.length (Rs.flatMap E) := T1.out.sl.kp (by rw [hW1]; exact (Kp.refl (fun _ => False) _).alloc _) (fun _ _ q => q)
            refine (take_c _ Rs a1 c1 hsl1 (fun p hp => (hRT p hp).kp k1 (fun _ _ q => q)) hR1 (by omega)).mono ?_
            rintro e w2 ⟨k2, hk2, a2, c2, rfl, t1, t2, t3, t4⟩
            obtain ⟨⟨tb, vb⟩, hpb⟩ : ∃ p, p = Rs[k2] := ⟨_, rfl⟩
            rw [← hpb] at t4 ⊢
            obtain ⟨Qs, hQs⟩ : ∃ r, r = Rs.take k2 ++ Rs.drop (k2 + 1) := ⟨_, rfl⟩
            have hperm2 : Rs.Perm ((tb, vb) :: Qs) := by rw [hpb, hQs]; exact pick_perm hk2
            have hlen2 : Rs.length - 1 = Qs.length := by have := hperm2.length_eq; simp at this; omega
            rw [← hQs, hlen2] at t1
            rw [hlen2] at t2 ⊢
            obtain ⟨xb, yb, evb, _⟩ := hRT (tb, vb) (hperm2.mem_iff.2 (by simp))
            simp only at evb
            have TB := Lib.hid (hRT (tb, vb) (hperm2.mem_iff.2 (by simp)))
            have P2 := Lib.hid hperm2
            have U1 := Lib.hid t1
            have U2 := Lib.hid t2
            have U3 := Lib.hid t3
            have U4 := Lib.hid t4
            have K1 := Lib.hid k1
            have B1 := Lib.hid b1
            have RT := Lib.hid hRT
            clear t1 t2 t3 t4 hpb hQs hperm2 hlen2 hsl1 k1 b1 hW1 hRT
            subst eva
            subst evb
            go_wp2_with fail
            -- the two trees joined
            obtain ⟨W2, hW2⟩ : ∃ W, W = w2.alloc (.cells #[.int .i64 (tb.n : Nat), .slice xb tb.s.length yb] 120) := ⟨_, rfl⟩
            rw [← hW2]
            have k2' : Kp (fun _ => False) W1 W2 := by rw [hW2]; exact U3.out.alloc _
            have b2 : W2.heap[w2.heap.size]? = some (.cells #[.int .i64 (tb.n : Nat), .slice xb tb.s.length yb] 120 (0, 0)) := by rw [hW2]; exact alloc_at _ _
            have b1' := k2'.at_ B1.out (fun q => q)
            have hs2 : W2.heap.size = w2.heap.size + 1 := by rw [hW2]; simp
            have hszW : W1.heap.size ≤ w2.heap.size := U3.out.size
            have kW : Kp (fun _ => False) wr W2 := K1.out.trans k2'
            have hQ1 : OwnR W2 120 2 (.slice a2 Qs.length c2) Qs.length (Qs.flatMap E) := U1.out.kp (F := fun _ => False) (by rw [hW2]; exact (Kp.refl _ _).alloc _) (fun _ _ q => q)
            have hpm : Gs.Perm ((ta, .slice xa ta.s.length ya) :: (tb, .slice xb tb.s.length yb) :: Qs) := P1.out.trans (P2.out.cons _)
            have hpmT : (Gs.map (·.1)).Perm (ta :: tb :: Qs.map (·.1)) := hpm.map _
            obtain ⟨hcn, hcl⟩ := ST.out.two hpmT
            obtain ⟨tc, hj, hjs, hjt⟩ := joins_tv TA.out TB.out (by omega)
            have hcm : tc.n = ta.n + tb.n := hj.n
            have hsum : ta.n + tb.n ≤ 1125899906842624 := Nat.le_trans hcn HS.out
            have hA1 : ∀ t, t ∈ tb :: Qs.map (·.1) → ¬ Lt t ta := fun t ht => by
              obtain ⟨p, hp, e⟩ := List.mem_map.1 (show t ∈ ((tb, Value.slice xb tb.s.length yb) :: Qs).map (·.1) from ht)
              subst e
              exact T4.out p (P1.out.mem_iff.2 (List.mem_cons_of_mem _ (P2.out.mem_iff.2 hp)))
            have hA2 : ∀ t, t ∈ Qs.map (·.1) → ¬ Lt t tb := fun t ht => by
              obtain ⟨p, hp, e⟩ := List.mem_map.1 ht
              subst e
              exact U4.out p (P2.out.mem_iff.2 (by simp [hp]))
            have QT : Hid (∀ p, p ∈ Qs → Tv W2 p.1 p.2 ∧ ∀ b, p.2.ownBlock = some b → b < wr.heap.size) := Lib.hid (fun p hp => ⟨(RT.out p (P2.out.mem_iff.2 (by simp [hp]))).kp kW (fun _ _ q => q), fun b hb => (RT.out p (P2.out.mem_iff.2 (by simp [hp]))).lt hb⟩)
            obtain ⟨xa', ya', exa, sA, mA, lA⟩ := TA.out
            obtain ⟨xb', yb', exb, sB, mB, lB⟩ := TB.out
            have c10 : W2.cell? ⟨w1.heap.size, 0, none⟩ = some (.int .i64 (ta.n : Nat)) := by rw [cell_of b1']; rfl
            have c11 : W2.cell? ⟨w1.heap.size, 1, none⟩ = some (.slice xa ta.s.length ya) := by rw [cell_of b1']; rfl
            have c20 : W2.cell? ⟨w2.heap.size, 0, none⟩ = some (.int .i64 (tb.n : Nat)) := by rw [cell_of b2]; rfl
            have c21 : W2.cell? ⟨w2.heap.size, 1, none⟩ = some (.slice xb tb.s.length yb) := by rw [cell_of b2]; rfl
            have l1 : w1.heap.size < W2.heap.size := lt_of_at b1'
            have l2 : w2.heap.size < W2.heap.size := lt_of_at b2
            have G0 := Lib.hid (Gro.start 120 W2)
            have G00 := Lib.hid (Gro.start2 120 W2)
            have G01 : Hid (Gro 120 W2 ((W2.drew.alloc (.cells #[] 3)).alloc (.cells #[.int .i64 0, .slice none 0 0] 120)) (.slice (some ⟨W2.heap.size, 0, none⟩) 0 0) 0 [] (some (W2.heap.size + 1))) := Lib.hid (by have := G0.out.alloc; rw [World.size_alloc] at this; exact this)
            have SA := Lib.hid (sA.kp kW (fun _ _ q => q))
            have SB := Lib.hid (sB.kp kW (fun _ _ q => q))
            have cells : ∀ V, Kp (fun _ => False) W2 V → (V.cell? ⟨w1.heap.size, 0, none⟩ = some (.int .i64 (ta.n : Nat)) ∧ V.cell? ⟨w1.heap.size, 1, none⟩ = some (.slice xa ta.s.length ya)) ∧ V.cell? ⟨w2.heap.size, 0, none⟩ = some (.int .i64 (tb.n : Nat)) ∧ V.cell? ⟨w2.heap.size, 1, none⟩ = some (.slice xb tb.s.length yb) := fun V kk =>
              ⟨⟨(kk.cell (p := ⟨w1.heap.size, 0, none⟩) l1 (fun q => q)).trans c10, (kk.cell (p := ⟨w1.heap.size, 1, none⟩) l1 (fun q => q)).trans c11⟩, (kk.cell (p := ⟨w2.heap.size, 0, none⟩) l2 (fun q => q)).trans c20, (kk.cell (p := ⟨w2.heap.size, 1, none⟩) l2 (fun q => q)).trans c21⟩
            have CE := Lib.hid cells
            obtain ⟨⟨q10, q11⟩, q20, q21⟩ := cells _ G0.out.kp
            obtain ⟨⟨p10, p11⟩, p20, p21⟩ := cells _ G00.out.kp
            obtain ⟨⟨o10, o11⟩, o20, o21⟩ := cells _ G01.out.kp
            obtain ⟨⟨m10, m11⟩, m20, m21⟩ := cells (W2.drew.alloc (.cells #[.int .i64 0, .slice none 0 0] 120)) (((Kp.refl _ _).drew).alloc _)
            have hws : IntKind.i64.wrap ((ta.n : Int) + (tb.n : Int)) = (ta.n : Int) + (tb.n : Int) := by rw [IntKind.wrap_i64]; omega
            have KW := Lib.hid kW
            have HQ1 := Lib.hid hQ1
            have PT := Lib.hid hpmT
            have HJ := Lib.hid hj
            have HJS := Lib.hid hjs
            have HJT := Lib.hid hjt
            have HA1 := Lib.hid hA1
            have HA2 := Lib.hid hA2
            have HCM := Lib.hid hcm
            have HW2s := Lib.hid hs2
            have HSZ := Lib.hid hszW
            have HS1 := Lib.hid hs1
            clear kW hQ1 hpm hpmT hj hjs hjt hA1 hA2 hcm sA sB mA mB k2' b1' b2 hW2 hs2 exa exb hszW hs1 cells
            have O1 := Lib.hid (nv_one ta.s)
            have O2 := Lib.hid (nv_one tb.s)
            have hl8 : ta.s.length + tb.s.length ≤ 256 := Nat.le_trans hcl hlen
            have n1 : w1.heap.size ≠ W2.heap.size := by omega
            have n2 : w2.heap.size ≠ W2.heap.size := by omega
            have n3 : w1.heap.size ≠ W2.heap.size + 1 := by omega
            have n4 : w2.heap.size ≠ W2.heap.size + 1 := by omega
            have n1' := n1.symm
            have n2' := n2.symm
            have n3' := n3.symm
            have n4' := n4.symm
            generalize ta.s.length = na at *
            generalize tb.s.length = nb at *
            go_cut [12] (fun s12 wx => JoinAt 120 W2 (ta.n + tb.n) (na + nb) (ta.s.map nv ++ tb.s.map nv) s12 wx)
            case first =>
              go_region_held3 (fun w' => (w'.cell? ⟨w1.heap.size, 0, none⟩ = some (.int .i64 (ta.n : Nat)) ∧ w'.cell? ⟨w1.heap.size, 1, none⟩ = some (.slice xa na ya)) ∧ w'.cell? ⟨w2.heap.size, 0, none⟩ = some (.int .i64 (tb.n : Nat)) ∧ w'.cell? ⟨w2.heap.size, 1, none⟩ = some (.slice xb nb yb)) (go_keep) ((first
                | (refine step_app (W2.drew.alloc (.cells #[] 3)) rfl (.tmp 68) (.tmp 70) 51 rfl 3 j0 _ 1 8 Tryz.underlying51 hj0 hy0 hy1 hy2 rfl (by decide) (by decide) (.slice (some ⟨W2.heap.size, 0, none⟩) 0 0) 0 [] (by simp [Act.eval]) G0.out.own (.slice xa na ya) na _ (by simp [Act.eval]) (SA.out.kp G0.out.kp (fun _ _ q => q)) O1.out (by omega) ?_; intro v1 w3 g1 g2 g3 g4 g5; obtain ⟨b1, d1, rfl⟩ := g1.form; have G3 := Lib.hid (G0.out.app g1 g2 g3); obtain ⟨⟨r10, r11⟩, r20, r21⟩ := CE.out _ G3.out.kp; have n5 : w1.heap.size ≠ w3.heap.size := (by have := G3.out.kp.size; omega); have n6 : w2.heap.size ≠ w3.heap.size := (by have := G3.out.kp.size; omega); have n5' := n5.symm; have n6' := n6.symm; clear g1 g2 g3 g4 g5)
                | (refine step_app ((W2.drew.alloc (.cells #[.int .i64 0, .slice none 0 0] 120)).alloc (.cells #[] 3)) rfl (.tmp 68) (.tmp 70) 51 rfl 3 j0 _ 1 8 Tryz.underlying51 hj0 hy0 hy1 hy2 rfl (by decide) (by decide) (.slice (some ⟨W2.heap.size + 1, 0, none⟩) 0 0) 0 [] (by simp [Act.eval]) G00.out.own (.slice xa na ya) na _ (by simp [Act.eval]) (SA.out.kp G00.out.kp (fun _ _ q => q)) O1.out (by omega) ?_; intro v1 w3 g1 g2 g3 g4 g5; obtain ⟨b1, d1, rfl⟩ := g1.form; have G3 := Lib.hid (G00.out.app g1 g2 g3); obtain ⟨⟨r10, r11⟩, r20, r21⟩ := CE.out _ G3.out.kp; have n5 : w1.heap.size ≠ w3.heap.size := (by have := G3.out.kp.size; omega); have n6 : w2.heap.size ≠ w3.heap.size := (by have := G3.out.kp.size; omega); have n5' := n5.symm; have n6' := n6.symm; clear g1 g2 g3 g4 g5)
                | (refine step_app ((W2.drew.alloc (.cells #[] 3)).alloc (.cells #[.int .i64 0, .slice none 0 0] 120)) rfl (.tmp 68) (.tmp 70) 51 rfl 3 j0 _ 1 8 Tryz.underlying51 hj0 hy0 hy1 hy2 rfl (by decide) (by decide) (.slice (some ⟨W2.heap.size, 0, none⟩) 0 0) 0 [] (by simp [Act.eval]) G01.out.own (.slice xa na ya) na _ (by simp [Act.eval]) (SA.out.kp G01.out.kp (fun _ _ q => q)) O1.out (by omega) ?_; intro v1 w3 g1 g2 g3 g4 g5; obtain ⟨b1, d1, rfl⟩ := g1.form; have G3 := Lib.hid (G01.out.app g1 g2 g3); obtain ⟨⟨r10, r11⟩, r20, r21⟩ := CE.out _ G3.out.kp; have n5 : w1.heap.size ≠ w3.heap.size := (by have := G3.out.kp.size; omega); have n6 : w2.heap.size ≠ w3.heap.size := (by have := G3.out.kp.size; omega); have n5' := n5.symm; have n6' := n6.symm; clear g1 g2 g3 g4 g5)
                | (refine step_app (w3) rfl (.tmp 71) (.tmp 73) 51 rfl 3 j0 _ 1 8 Tryz.underlying51 hj0 hy0 hy1 hy2 rfl (by decide) (by decide) (.slice b1 (0 + na) d1) (0 + na) _ (by simp [Act.eval]) G3.out.own (.slice xb nb yb) nb _ (by simp [Act.eval]) (SB.out.kp G3.out.kp (fun _ _ q => q)) O2.out (by omega) ?_; intro v2 w5 f1 f2 f3 f4 f5; obtain ⟨b2, d2, rfl⟩ := f1.form; have G5 := Lib.hid (G3.out.app f1 f2 f3); obtain ⟨⟨s10, s11⟩, s20, s21⟩ := CE.out _ G5.out.kp; try (have z5 := (G5.out.at_ _ rfl).2; have x50 := (cell_of z5 0); have x51 := (cell_of z5 1); have f50 := free_of z5 0; have f51 := free_of z5 1; simp only [List.getElem?_toArray, List.getElem?_cons_zero, List.getElem?_cons_succ] at x50 x51); clear f1 f2 f3 f4 f5)
                | (refine step_app (w3.alloc (.cells #[.int .i64 0, .slice none 0 0] 120)) rfl (.tmp 71) (.tmp 73) 51 rfl 3 j0 _ 1 8 Tryz.underlying51 hj0 hy0 hy1 hy2 rfl (by decide) (by decide) (.slice b1 (0 + na) d1) (0 + na) _ (by simp [Act.eval]) G3.out.alloc.own (.slice xb nb yb) nb _ (by simp [Act.eval]) (SB.out.kp G3.out.alloc.kp (fun _ _ q => q)) O2.out (by omega) ?_; intro v2 w5 f1 f2 f3 f4 f5; obtain ⟨b2, d2, rfl⟩ := f1.form; have G5 := Lib.hid (G3.out.alloc.app f1 f2 f3); obtain ⟨⟨s10, s11⟩, s20, s21⟩ := CE.out _ G5.out.kp; try (have z5 := (G5.out.at_ _ rfl).2; have x50 := (cell_of z5 0); have x51 := (cell_of z5 1); have f50 := free_of z5 0; have f51 := free_of z5 1; simp only [List.getElem?_toArray, List.getElem?_cons_zero, List.getElem?_cons_succ] at x50 x51); clear f1 f2 f3 f4 f5)))
              all_goals (go_wp2_with fail; go_meet; have G6 := G5.out; rw [Nat.zero_add, List.nil_append] at G6; rw [← Int.natCast_add]; first | exact G6.fin_alloc | exact G6.fin_set)
            case rest =>
              obtain ⟨g, bC, dC, rfl, hg, hC, hO, hN, hK⟩ := hcut
              have hsC : SlR wc 1 (.slice bC (na + nb) dC) (na + nb) (ta.s.map nv ++ tb.s.map nv) := hO.sl
              have hTC := HJT.out wc bC dC hsC
              have hlC : tc.s.length = na + nb := hTC.len
              have hltN : ∀ i, i ∈ tc.s → i < cs.length := fun i hi => by
                have hpp := PT.out
                rcases HJ.out.mem_s.1 hi with q | q
                · exact ST.out.lt ta (hpp.mem_iff.2 (by simp)) i q
                · exact ST.out.lt tb (hpp.mem_iff.2 (by simp)) i q
              have hgo : g ≠ w.heap.size := by have := KW.out.size; omega
              have hwW1 : w.heap.size < W1.heap.size := by have := K1.out.size; omega
              have QT2 : Hid (∀ p, p ∈ Qs → Tv W2 p.1 p.2 ∧ ∀ b, p.2.ownBlock = some b → b < W1.heap.size ∧ b ≠ w.heap.size) := Lib.hid (fun p hp => ⟨(QT.out p hp).1, fun b hb => ⟨by have := (QT.out p hp).2 b hb; have := K1.out.size; omega, fun e => (HA.out w.heap.size rfl).2 p (P1.out.mem_iff.2 (List.mem_cons_of_mem _ (P2.out.mem_iff.2 (List.mem_cons_of_mem _ hp)))) (by rw [hb, e])⟩⟩)
              have hLx := HL.out.kp (KW.out.trans hK) (fun _ _ q => q)
              have HC1 := Lib.hid hC
              have HTC := Lib.hid hTC
              have HNX := Lib.hid hN
              have HKX := Lib.hid hK
              have HLT := Lib.hid hltN
              have HLC := Lib.hid hlC
              have hmc : 0 < tc.s.length := hTC.pos
              clear hC hO hN hK hsC hTC hltN
              go_wp2_with fail
              go_loopw [7, 13] (fun m i wr => ∃ (j : Nat) (m' : Nat), j ≤ tc.s.length ∧ i = .int .i64 j ∧ m = .int .i64 m' ∧ Lo w.heap.size wr (.slice (some ⟨w.heap.size, 0, none⟩) cs.length cs.length) cs.length (bump (tc.s.take j) L) ∧ Most cs.length (bump (tc.s.take j) L) m' ∧ Kp (· = w.heap.size) wc wr) (fun _ i _ => tc.s.length - (intOf i).toNat)
              case atStart => exact ⟨0, mm, Nat.zero_le _, rfl, rfl, by rw [List.take_zero, bump_nil]; exact hLx, by rw [List.take_zero, bump_nil]; exact HMO.out, Kp.refl _ _⟩
              case round =>
                clear hLx
                obtain ⟨j, m', hj, rfl, rfl, hL, hM, hk⟩ := hrel
                have hbox := cell_of (hk.at_ HC1.out (fun q => hgo q))
                have hb1 : wr.cell? ⟨g, 1, none⟩ = some (.slice bC (na + nb) dC) := by rw [hbox]; rfl
                have hb0 : wr.cell? ⟨g, 0, none⟩ = some (.int .i64 ((ta.n + tb.n : Nat) : Int)) := by rw [hbox]; rfl
                have hS1 := HTC.out.sl
                have hS2 : SlR wr 1 (.slice bC tc.s.length dC) tc.s.length (tc.s.map nv) := by
                  have := hS1.kp hk (fun b hb e => by have := (HNX.out b hb).1; have := KW.out.size; omega)
                  rw [← HLC.out] at this; exact this
                obtain ⟨g2, off2, eb, hg2, hcap2, hc2⟩ := at_nv hS2 hmc
                have hg2o : g2 ≠ w.heap.size := by
                  have := (HNX.out g2 (by rw [eb]; rfl)).1
                  have := KW.out.size
                  omega
                have HLo := Lib.hid hL
                have HMo := Lib.hid hM
                have HKo := Lib.hid hk
                rw [HLC.out] at hcap2
                by_cases hlt : j < tc.s.length
                · have hcj := hc2 j hlt
                  have hsN := HLT.out _ (List.getElem_mem hlt)
                  have hBT := Lib.hid (bump_take hlt L)
                  obtain ⟨s, hs⟩ : ∃ s, s = tc.s[j] := ⟨_, rfl⟩
                  rw [← hs] at hcj hsN
                  obtain ⟨g3, eg3, hg3, _, _, f0, f1, f2, f3⟩ := hL.at_ hsN
                  simp only [Option.some.injEq, Addr.mk.injEq, and_true] at eg3
                  subst eg3
                  have hlv : bump (tc.s.take j) L s ≤ m' := hM.le s hsN
                  have hbd : bump (tc.s.take j) L s ≤ 1000 := by
                    have h1 := ST.out.len s
                    have h2 : (tc.s.take j).count s ≤ (tc.s.take j).length := List.count_le_length
                    rw [List.length_take] at h2
                    unfold bump
                    omega
                  obtain ⟨x, hx⟩ : ∃ x, x = bump (tc.s.take j) L s := ⟨_, rfl⟩
                  rw [← hx] at f0 f2 f3 hlv hbd
                  have F2 := Lib.hid f2
                  have F3 := Lib.hid f3
                  have HX := Lib.hid hx
                  have HSS := Lib.hid hs
                  subst eb
                  have hjn : j < na + nb := by omega
                  clear hc2 hS1 hS2 f2 f3 hx hs hL hM hk hbox
                  go_wp2_with fail
                  refine ⟨⟨j + 1, max m' (x + 1), by omega, by go_num, by go_num, ?_, ?_, ?_⟩, by simp [intOf]; omega⟩
                  · rw [hBT.out, ← HSS.out]; exact F2.out
                  · rw [hBT.out, ← HSS.out, HX.out]; exact HMo.out.bump hsN
                  · exact HKo.out.trans F3.out
                · obtain rfl : j = tc.s.length := by omega
                  rw [← HCM.out] at hb0
                  have hTr := HTC.out.kp hk (fun b hb e => by have := (HNX.out b hb).1; have := KW.out.size; omega)
                  have hsz2 : W2.heap.size ≤ wr.heap.size := Nat.le_trans HKX.out.size hk.size
                  have hwr2 : w.heap.size < wr.heap.size := by have := KW.out.size; omega
                  have hF : Fo w.heap.size wr 120 (.slice a2 Qs.length c2) Qs := ⟨((HQ1.out.kp HKX.out (fun _ _ q => q)).kp hk (fun b hb e => by have := U2.out b hb; omega)).toO, (fun b hb => by have := U2.out b hb; omega),
                    (fun p hp => ((QT2.out p hp).1.kp HKX.out (fun _ _ q => q)).kp hk (fun b hb e => ((QT2.out p hp).2 b hb).2 e)), fun p hp b hb e => by have := ((QT2.out p hp).2 b hb).1; have := U2.out b e; omega⟩
                  have hst2 := ST.out.step PT.out HA1.out HA2.out HJ.out (r' := Qs.map (·.1) ++ [tc]) (List.perm_append_comm (l₁ := Qs.map (·.1)) (l₂ := [tc]))
                  rw [List.take_length] at hL hM
                  have hkw : Kp (fun _ => False) w wr := (HK.out.trans (KW.out.trans HKX.out)).up hk (fun i e => by rw [e]; exact Nat.le_refl _)
                  have hql : Qs.length + 2 = Gs.length := by have h1 := P1.out.length_eq; have h2 := P2.out.length_eq; simp only [List.length_cons] at h1 h2; omega
                  obtain ⟨Wd, hWd⟩ : ∃ W, W = wr.alloc (.cells #[.int .i64 (tc.n : Nat), .slice bC (na + nb) dC] 120) := ⟨_, rfl⟩
                  have kd : Kp (fun _ => False) wr Wd := by rw [hWd]; exact (Kp.refl _ _).alloc _
                  have bd : Wd.heap[wr.heap.size]? = some (.cells #[.int .i64 (tc.n : Nat), .slice bC (na + nb) dC] 120 (0, 0)) := by rw [hWd]; exact alloc_at _ _
                  have hsd : Wd.heap.size = wr.heap.size + 1 := by rw [hWd]; simp
                  have FQ := Lib.hid (hF.kp kd (fun _ _ q => q) (fun _ _ _ _ q => q))
                  have SS := Lib.hid (one_sl bd)
                  have TT := Lib.hid (hTr.kp kd (fun _ _ q => q))
                  have O3 := Lib.hid (E_one1 hTr)
                  have LL := Lib.hid (hL.kp kd (fun _ _ q => q))
                  have KWD := Lib.hid (hkw.trans kd)
                  have SZ := Lib.hid hsd
                  have ST2 := Lib.hid hst2
                  have MM := Lib.hid hM
                  have HQL := Lib.hid hql
                  have hb32 : (Qs.length + 1) * 32 ≤ 140737488355328 := by omega
                  clear hc2 hS1 hS2 hL hM hk hbox hF hst2 hkw kd bd hsd hTr hql eb
                  go_wp2_with (at_builtin; rw [← hWd]; refine wpList_appO _ rfl _ _ 118 rfl 120 i0 _ 2 32 Tryz.underlying118 hi0 hz0 hz1 hz2 rfl (by decide) (by decide) (.slice a2 Qs.length c2) Qs.length _ rfl FQ.out.row (.slice (some ⟨wr.heap.size, 0, none⟩) 1 1) 1 _ rfl SS.out O3.out hb32 ?_; intro v' w7 g1 g2 g3 g4 g5; obtain ⟨b7, d7, rfl⟩ := g1.form; have G1 := Lib.hid g1; have G2 := Lib.hid g2; have G3 := Lib.hid g3; clear g1 g2 g3 g4 g5)
                  have hbC : ∀ b, (Value.slice bC (na + nb) dC).ownBlock = some b → b ≠ w.heap.size ∧ W2.heap.size ≤ b := fun b hb => by have h7 := (HNX.out b hb).1; have := KW.out.size; exact ⟨by omega, h7⟩
                  have P3 := FQ.out.push (by have := SZ.out; omega) TT.out (fun b hb q => by have := U2.out b q; have := (hbC b hb).2; have := FQ.out.row.lt q; have := HQ1.out.lt q; omega) G1.out G2.out G3.out
                  refine ⟨?_, (by have := HQL.out; simp [lenOf]; omega)⟩
                  refine ⟨Qs ++ [(tc, .slice bC (na + nb) dC)], bump tc.s L, m', b7, d7, rfl, by simp, by simpa using P3, by rw [List.map_append]; exact ST2.out, ?_, ?_, ?_, ?_, MM.out⟩
                  · exact LL.out.kp G2.out (fun b hb e => by have := U2.out b e; have := own_b hb; omega)
                  · intro b hb
                    have e := own_b hb
                    subst e
                    refine ⟨fun q => ?_, fun p hp q => ?_⟩
                    · rw [List.length_append] at q
                      rcases G3.out with q' | q'
                      · have := U2.out _ (q'.symm.trans q); omega
                      · have q'' := q'.symm.trans q; simp at q''; have := SZ.out; omega
                    · rcases List.mem_append.1 hp with hp | hp
                      · exact ((QT2.out p hp).2 _ q).2 rfl
                      · rw [List.mem_singleton] at hp; subst hp
                        exact (hbC _ q).1 rfl
                  · exact KWD.out.up G2.out (fun i q => FQ.out.new i q)
                  · have := G2.out.size; have := SZ.out; omega
          · go_wp2_with fail
            go_ret2
            refine ⟨L, mm, _, _, rfl, .inr ⟨H1.out, ST.out.done (by simp; omega)⟩, HL.out, HK.out, HMO.out.le, fun q => ?_⟩
            rcases HMO.out.is with e | ⟨i, hi, e⟩
            · omega
            · exact ⟨i, hi, by omega⟩
end Go.Proofs.YtphakpikalmghaaGreat.Hu
