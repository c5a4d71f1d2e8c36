/- A new Stream: Depth, Begin, Clone, New. -/
import Derived.Test.YthbmfhnkhkhcmaaGreatNoA
import Derived.Deep.RegionHeld3
import Derived.Deep.DeepCutAuto
import Derived.Laws.ResultCell
import Derived.Conc.SmallLaws
namespace Go.Proofs.YthbmfhnkhkhcmaaGreat.No
open Go Go.RowKit Go.ChangeMaps Go.MapKept Go.Mg

def dep (l : Int) : Int := if l = 1 then 1 else if l = 2 then 8 else if l = 3 then 32 else 0
theorem depth_c (l : Int) (w : World) : Calls Tryz.prog 52 #[.int .i64 l] w fun e w' => e = .returned (.int .i64 (dep l)) ∧ w' = w := by
  unfold dep
  by_cases h1 : l = 1
  · subst h1
    go_enter Tryz.func52, Tryz.ntmps52
    go_wp2_with fail
    go_ret
    exact ⟨rfl, rfl⟩
  · have h1' : (l == 1) = false := by simpa using h1
    by_cases h2 : l = 2
    · subst h2
      go_enter Tryz.func52, Tryz.ntmps52
      go_wp2_with fail
      go_ret
      exact ⟨rfl, rfl⟩
    · have h2' : (l == 2) = false := by simpa using h2
      by_cases h3 : l = 3
      · subst h3
        go_enter Tryz.func52, Tryz.ntmps52
        go_wp2_with fail
        go_ret
        exact ⟨rfl, rfl⟩
      · have h3' : (l == 3) = false := by simpa using h3
        rw [if_neg h1, if_neg h2, if_neg h3]
        clear h1 h2 h3
        go_enter Tryz.func52, Tryz.ntmps52
        go_wp2_with fail
        go_ret
        exact ⟨rfl, rfl⟩
def BeginPost (w : World) (e : Ending) (w' : World) : Prop := e = .returned (.agg #[.int .i64 1, .int .i64 4, .int .i64 8]) ∧ Kp (fun _ => False) w w'
theorem results_cell1 {fn : Func} {p : Tmp} {ty : TypeId} (h : fn.results = #[.cell p ty]) (tmps : Array Value) (P : Program) (w : World) :
    (results fn tmps).run P w = ((asAddr (tmps.getD p undef)).run P w).andThen fun a w₁ => (loadVar ty a).run P w₁ := by
  simp only [results, h]
  simp [Sem.run_bind, Result.andThen]
set_option maxHeartbeats 1000000 in
theorem begin_c (w : World) : Calls Tryz.prog 54 #[] w (BeginPost w) := by
  go_enter Tryz.func54, Tryz.ntmps54
  go_wp2_with fail
  have y0 : (w.alloc (.cells #[.int .i64 1, .int .i64 4, .int .i64 8] 84)).cell? ⟨w.heap.size, 0, none⟩ = some (.int .i64 1) := by rw [cell_of (alloc_at _ _)]; rfl
  have y1 : (w.alloc (.cells #[.int .i64 1, .int .i64 4, .int .i64 8] 84)).cell? ⟨w.heap.size, 1, none⟩ = some (.int .i64 4) := by rw [cell_of (alloc_at _ _)]; rfl
  have y2 : (w.alloc (.cells #[.int .i64 1, .int .i64 4, .int .i64 8] 84)).cell? ⟨w.heap.size, 2, none⟩ = some (.int .i64 8) := by rw [cell_of (alloc_at _ _)]; rfl
  refine bodyPost_ret (v := .agg #[.int .i64 1, .int .i64 4, .int .i64 8]) ?_ rfl ⟨rfl, kp_new⟩
  rw [results_cell1 rfl]
  simp [go_sem, y0, y1, y2]
theorem infoU : (Tryz.prog.info? 5).map (fun i => (i.zero, i.size, i.bytes)) = some (some (.int .u8 0), 1, 1) := by kernel_rfl
theorem one_u (n : Nat) : ∀ u ∈ List.replicate n (Value.int .u8 0), u.oneCell' = true := by
  intro u hu
  rw [(List.mem_replicate.1 hu).2]
  rfl
/-- A clone: a slice of as many. -/
def ClPost (w : World) (n : Nat) (e : Ending) (w' : World) : Prop := ∃ a c, e = .returned (.slice a n c) ∧ Kp (fun _ => False) w w'
theorem SlR.none0 {w : World} {size n c : Nat} {xs : List Value} (h : SlR w size (.slice none n c) n xs) : n = 0 ∧ c = 0 := by
  obtain ⟨_, a0, c0, e0, h1, _, h2, _⟩ := h
  simp only [Value.slice.injEq, true_and] at e0
  obtain ⟨rfl, rfl⟩ := e0
  have := h2 rfl
  omega
set_option maxRecDepth 100000 in
set_option maxHeartbeats 1000000 in
theorem sclone_c (w : World) (n : Nat) (a : Option Addr) (c : Nat) (h : SlR w 1 (.slice a n c) n (List.replicate n (.int .u8 0))) (hlen : n ≤ 100000) :
    Calls Tryz.prog 53 #[.slice a n c] w (ClPost w n) := by
  have hnil := @Lib.run_eql_slice_nil Tryz.prog
  cases a with
  | none =>
    obtain ⟨rfl, rfl⟩ := SlR.none0 h
    clear h
    go_enter Tryz.func53, Tryz.ntmps53
    go_wp2_with fail
    go_ret
    exact ⟨none, 0, rfl, Kp.refl _ _⟩
  | some p =>
    obtain ⟨j0, hj0, hy0, hy1, hy2⟩ := info_parts infoU
    have k0 : Kp (fun _ => False) w (w.alloc (.cells #[] 5)) := (Kp.refl _ _).alloc _
    have HN := Lib.hid (own_none w 5 1)
    have HC := Lib.hid (h.kp k0 (fun _ _ q => q))
    have K0 := Lib.hid k0
    clear h k0
    go_enter Tryz.func53, Tryz.ntmps53
    go_wp2_with (at_builtin; refine wpList_app _ rfl _ _ 22 rfl 5 j0 _ 1 1 Tryz.underlying22 hj0 hy0 hy1 hy2 rfl (by decide) (by decide) (.slice (some ⟨w.heap.size, 0, none⟩) 0 0) 0 [] rfl HN.out (.slice (some p) n c) n _ rfl HC.out (one_u n) (by omega) ?_; intro v' w1 g1 g2 g3 g4 g5; rw [Nat.zero_add, List.nil_append] at g1; obtain ⟨b1, d1, rfl⟩ := g1.form; have G2 := Lib.hid (K0.out.up g2 (fun i e => (by have := own_b e; omega))); clear g1 g2 g3 g4 g5)
    go_ret
    exact ⟨b1, d1, rfl, G2.out⟩
/-- A new Stream at p. -/
structure StreamE (w : World) (p : Nat) : Prop where
  kept : w.cell? ⟨p, 4, none⟩ = some (.slice none 0 0)
  ended : w.cell? ⟨p, 9, none⟩ = some (.bool false)
  lt : p < w.heap.size
theorem StreamE.kp {w w' : World} {p : Nat} (h : StreamE w p) (hk : Kp (fun _ => False) w w') : StreamE w' p :=
  ⟨(hk.cell (p := ⟨p, 4, none⟩) h.lt (fun q => q)).trans h.kept, (hk.cell (p := ⟨p, 9, none⟩) h.lt (fun q => q)).trans h.ended, by have := hk.size; have := h.lt; omega⟩
def may (n id lv : Int) : Bool := decide (1 ≤ lv ∧ lv ≤ 3 ∧ 0 ≤ id ∧ id ≤ 2147483647 ∧ n ≤ 2000)
theorem bytesS : ∃ i, Tryz.prog.info? 22 = some i ∧ i.bytes = 24 := by
  have h : (Tryz.prog.info? 22).map (·.bytes) = some 24 := by kernel_rfl
  obtain ⟨i, hi, hb⟩ := Option.map_eq_some_iff.1 h
  exact ⟨i, hi, hb⟩
theorem mkchan (w : World) : (Instr.makeChan 86 (.int .i64 1)).run Tryz.prog w = .ok (.chan (some w.heap.size)) (w.alloc (.chan 1 #[] false 0 0 false)) := by
  obtain ⟨i, hi, hb⟩ := bytesS
  simpa using Go.Conc.run_makeChan (P := Tryz.prog) (w := w) Tryz.underlying86 hi .i64 1 (by omega) (by rw [hb]; omega)
theorem streamE_new (V : World) (id dl : Int) (a : Option Addr) (n c : Nat) (ch : Value) : StreamE (V.alloc (.cells #[.int .i64 id, .int .i64 dl, .slice a n c, .slice none 0 0, .slice none 0 0, .int .i64 1, .int .i64 4, .int .i64 8, .bool false, .bool false, ch] 88)) V.heap.size :=
  ⟨by rw [cell_of (alloc_at _ _)]; rfl, by rw [cell_of (alloc_at _ _)]; rfl, by simp⟩
set_option maxRecDepth 100000 in
set_option maxHeartbeats 2000000 in
theorem stream_new (w : World) (n : Nat) (a : Option Addr) (c : Nat) (id lv : Int) (h : SlR w 1 (.slice a n c) n (List.replicate n (.int .u8 0))) (h1 : dep lv ≠ 0) (h2 : 0 ≤ id) (h3 : id ≤ 2147483647) (h4 : n ≤ 2000) :
    Calls Tryz.prog 16 #[.slice a n c, .int .i64 id, .int .i64 lv] w (NewPost StreamE w) := by
  have h1' : (dep lv == 0) = false := by simpa using h1
  have h2' : decide (id < 0) = false := decide_eq_false (by omega)
  have h3' : decide (2147483647 < id) = false := decide_eq_false (by omega)
  have D := Lib.hid (fun V => depth_c lv V)
  have B := Lib.hid begin_c
  have CL := Lib.hid (fun V (k : Kp (fun _ => False) w V) => sclone_c V n a c (h.kp k (fun _ _ q => q)) (by omega))
  clear h
  generalize dep lv = dl at *
  have hmc := mkchan
  go_enter Tryz.func16, Tryz.ntmps16
  go_wp2_with fail
  refine (D.out w).mono ?_
  rintro e w1 ⟨rfl, rfl⟩
  go_wp2_with fail
  have KK := Lib.hid (Kp.refl (fun _ => False) w1).drew
  go_region_law (first
    | (go_simp; go_at_call 52; refine (D.out _).mono ?_; rintro e w2 ⟨rfl, rfl⟩)
    | (go_simp; go_at_call 54; refine (B.out _).mono ?_; rintro e w2 ⟨rfl, kb⟩; have KK : Hid (Kp (fun _ => False) w1 w2) := Lib.hid (by first | exact KK.out.trans kb | exact (KK.out.alloc _).trans kb); clear kb)
    | (go_simp; go_at_call 53; refine (CL.out _ (by first | exact KK.out | exact KK.out.alloc _)).mono ?_; rintro e w2 ⟨a2, c2, rfl, kb⟩; have KK : Hid (Kp (fun _ => False) w1 w2) := Lib.hid (by first | exact KK.out.trans kb | exact (KK.out.alloc _).trans kb); clear kb))
  all_goals (go_wp2_with fail; go_ret; refine ⟨_, rfl, (by have := KK.out.size; simp; try omega), ?_, (by first | exact KK.out.alloc _ | exact (KK.out.alloc _).alloc _)⟩; first | exact streamE_new _ _ _ _ _ _ _ | (have h9 := streamE_new (World.alloc w2 (.chan 1 #[] false 0 0 false)) id dl a2 n c2 (.chan (some w2.heap.size)); rw [World.size_alloc] at h9; exact h9))
end Go.Proofs.YthbmfhnkhkhcmaaGreat.No
