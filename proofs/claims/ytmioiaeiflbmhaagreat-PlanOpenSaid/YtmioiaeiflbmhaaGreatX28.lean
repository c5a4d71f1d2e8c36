/- stream: window, gives: a channel of one window, in one goroutine. A Stream in memory, cell by cell. stream: block. stream: Ended, Total, Write, Flush. -/
import Derived.Test.YtmioiaeiflbmhaaGreatChecked
import Derived.Conc.LoneSelect
import Derived.KernelRfl
import Derived.Laws.MakeOwn
import Derived.Laws.BitsLemmas
import Derived.Laws.Rows
import Derived.Test.YtmioiaeiflbmhaaGreatX01
import Derived.Test.YtmioiaeiflbmhaaGreatX27
import Derived.Test.YtmioiaeiflbmhaaGreatX26
namespace Go.Proofs.YtmioiaeiflbmhaaGreat.Str
open Go Go.Conc Go.RowKit
theorem infoW : (Tryz.prog.info? 5).map (fun i => (i.zero, i.size, i.bytes)) = some (some (.int .u8 0), 1, 1) := by kernel_rfl
theorem mk2000 (w : World) : (Instr.makeSlice 23 (.int .i64 0) (.int .i64 2000)).run Tryz.prog w = .ok (.slice (some ⟨w.heap.size, 0, none⟩) 0 2000) (w.alloc (.cells (madeCells #[.int .u8 0] 2000) 5)) := by
  have h := infoW
  obtain ⟨i, hi, hb⟩ := Option.map_eq_some_iff.1 h
  simp only [Prod.mk.injEq] at hb
  obtain ⟨h1, h2, h3⟩ := hb
  have := run_makeSlice (P := Tryz.prog) (w := w) 23 5 i (.int .u8 0) Tryz.underlying23 hi h1 .i64 .i64 0 2000 (by omega) (by omega) (by rw [h2]; decide) (by rw [h3]; decide) (by decide)
  rw [h2] at this
  exact this
set_option maxRecDepth 100000 in
set_option maxHeartbeats 1000000 in
theorem window_new (w : World) (s ch m r : Nat) (h : w.cell? ⟨s, 10, none⟩ = some (.chan (some ch))) (hc : w.heap[ch]? = some (.chan 1 #[] false m r false)) :
    Calls Tryz.prog 100 #[.pointer (some ⟨s, 0, none⟩)] w fun e w' => e = .returned (.slice (some ⟨w.heap.size, 0, none⟩) 0 2000) ∧ w' = w.alloc (.cells (madeCells #[.int .u8 0] 2000) 5) := by
  refine calls_of_loneTo fun cs => ?_
  have e : Frame.enter Tryz.prog 100 #[.pointer (some ⟨s, 0, none⟩)] .normal = (base 100).at ⟨#[.pointer (some ⟨s, 0, none⟩), undef, undef, undef, undef, undef, undef, undef, undef, undef, undef, undef, undef, undef, undef], []⟩ [.code (Tryz.f100.body.getD .skip)] := by
    simp [Frame.enter, Frame.at, Tryz.func100, base, Tryz.f100]
  rw [e]
  have hmk := mk2000
  refine LoneTo.goes (n := 20) ?_
  simp only [Tryz.f100, Option.getD_some]
  s_c stepG_seq
  s_reg
  s_op
  s_c stepG_region_end
  s_c stepG_seq
  s_reg
  s_op
  s_op
  s_op
  s_op
  s_c stepG_region_end
  s_c stepG_seq
  s_reg
  s_stop
  refine LoneTo.step (step_lone_select_default (c := ch) (z := .slice none 0 0) (cap := 1) (s := m) (r := r) (tm := false) (stepG_comm (cases := #[rcase ch (.slice none 0 0)]) (blocking := false) (shape := .select) (w' := w) rfl rfl (by decide) (by simp [go_sem, execOp, rcase, Act.eval])) hc) ?_
  rw [Frame.finish_at]
  walk_nrm
  refine LoneTo.goes (n := 20) ?_
  s_op
  s_op
  s_c stepG_region_end
  s_c stepG_block
  s_cond false
  s_c stepG_seq
  s_reg
  s_op
  s_op
  s_c stepG_region_end
  s_c stepG_ret'
  s_stop
  refine LoneTo.done ⟨.returned (.slice (some ⟨w.heap.size, 0, none⟩) 0 2000), _, rfl, ⟨rfl, ?_⟩, rfl, rfl, rfl, rfl, _, Tryz.func100, by simp [results, Tryz.f100, Frame.at]⟩
  rfl
set_option maxRecDepth 100000 in
set_option maxHeartbeats 1000000 in
theorem window_old (w : World) (s ch m r g n c : Nat) (h : w.cell? ⟨s, 10, none⟩ = some (.chan (some ch))) (hc : w.heap[ch]? = some (.chan 1 #[.slice (some ⟨g, 0, none⟩) n c] false m r false)) :
    Calls Tryz.prog 100 #[.pointer (some ⟨s, 0, none⟩)] w fun e w' => e = .returned (.slice (some ⟨g, 0, none⟩) 0 c) ∧ w' = w.setChan ch 1 #[] false m (r + 1) false := by
  refine calls_of_loneTo fun cs => ?_
  have e : Frame.enter Tryz.prog 100 #[.pointer (some ⟨s, 0, none⟩)] .normal = (base 100).at ⟨#[.pointer (some ⟨s, 0, none⟩), undef, undef, undef, undef, undef, undef, undef, undef, undef, undef, undef, undef, undef, undef], []⟩ [.code (Tryz.f100.body.getD .skip)] := by
    simp [Frame.enter, Frame.at, Tryz.func100, base, Tryz.f100]
  rw [e]
  refine LoneTo.goes (n := 20) ?_
  simp only [Tryz.f100, Option.getD_some]
  s_c stepG_seq
  s_reg
  s_op
  s_c stepG_region_end
  s_c stepG_seq
  s_reg
  s_op
  s_op
  s_op
  s_op
  s_c stepG_region_end
  s_c stepG_seq
  s_reg
  s_stop
  refine LoneTo.step (step_lone_select_recv_buf (c := ch) (z := .slice none 0 0) (cap := 1) (s := m) (r := r) (tm := false) (stepG_comm (cases := #[rcase ch (.slice none 0 0)]) (blocking := false) (shape := .select) (w' := w) rfl rfl (by decide) (by simp [go_sem, execOp, rcase, Act.eval])) hc (by simp)) ?_
  rw [Frame.finish_at]
  walk_nrm
  refine LoneTo.goes (n := 20) ?_
  s_op
  s_op
  s_c stepG_region_end
  s_c stepG_block
  s_cond true
  s_c stepG_seq
  s_reg
  s_op
  s_op
  s_c stepG_region_end
  s_c stepG_seq
  s_reg
  s_op
  s_op
  s_op
  s_c stepG_region_end
  s_c stepG_ret'
  s_stop
  refine LoneTo.done ⟨.returned (.slice (some ⟨g, 0, none⟩) 0 c), _, rfl, ⟨rfl, ?_⟩, rfl, rfl, rfl, rfl, _, Tryz.func100, by simp [results, Tryz.f100, Frame.at]⟩
  rfl
set_option maxRecDepth 100000 in
set_option maxHeartbeats 1000000 in
theorem gives_room (w : World) (s ch m r : Nat) (v : Value) (h : w.cell? ⟨s, 10, none⟩ = some (.chan (some ch))) (hc : w.heap[ch]? = some (.chan 1 #[] false m r false)) :
    Calls Tryz.prog 103 #[.pointer (some ⟨s, 0, none⟩), v] w fun e w' => e = .returned (.tuple #[]) ∧ w' = w.setChan ch 1 #[v] false (m + 1) r false := by
  refine calls_of_loneTo fun cs => ?_
  have e : Frame.enter Tryz.prog 103 #[.pointer (some ⟨s, 0, none⟩), v] .normal = (base 103).at ⟨#[.pointer (some ⟨s, 0, none⟩), v, undef, undef, undef, undef, undef, undef, undef, undef, undef, undef], []⟩ [.code (Tryz.f103.body.getD .skip)] := by
    simp [Frame.enter, Frame.at, Tryz.func103, base, Tryz.f103]
  rw [e]
  refine LoneTo.goes (n := 20) ?_
  simp only [Tryz.f103, Option.getD_some]
  s_c stepG_seq
  s_c stepG_seq
  s_reg
  s_op
  s_op
  s_op
  s_op
  s_c stepG_region_end
  s_reg
  s_op
  s_c stepG_region_end
  s_c stepG_seq
  s_reg
  s_stop
  refine LoneTo.step (step_lone_select_send_room (c := ch) (cap := 1) (s := m) (r := r) (tm := false) (stepG_comm (cases := #[scase ch v (.slice none 0 0)]) (blocking := false) (shape := .select) (w' := w) rfl rfl (by decide) (by simp [go_sem, execOp, scase, Act.eval])) hc (by simp)) ?_
  rw [Frame.finish_at]
  walk_nrm
  refine LoneTo.goes (n := 20) ?_
  s_op
  s_op
  s_c stepG_region_end
  s_c stepG_block
  s_cond true
  s_c stepG_skip
  s_c stepG_inBlock
  s_c stepG_end
  s_stop
  refine LoneTo.done ⟨.returned (.tuple #[]), _, rfl, ⟨rfl, ?_⟩, rfl, rfl, rfl, rfl, _, Tryz.func103, by simp [results, Tryz.f103, Frame.at]⟩
  simp
end Go.Proofs.YtmioiaeiflbmhaaGreat.Str
namespace Go.Proofs.YtmioiaeiflbmhaaGreat.Str
open Go Go.RowKit Go.ChangeMaps Go.MapKept Go.Mg Go.Mt Go.Proofs.YtmioiaeiflbmhaaGreat.Hu Go.Proofs.YtmioiaeiflbmhaaGreat.Sq Go.Proofs.YtmioiaeiflbmhaaGreat.Bk Go.Proofs.YtmioiaeiflbmhaaGreat.Ma
def cellsC (S : Str) (sa aa ka : Option Addr) (sc ac kc ch : Nat) : Array Value :=
  #[.int .i64 (S.id : Nat), .int .i64 (S.d : Nat), .slice sa S.seen.length sc, .slice aa S.all.length ac, .slice ka S.kept.length kc, .int .i64 (S.h.a : Nat), .int .i64 (S.h.b : Nat), .int .i64 (S.h.c : Nat), .bool S.begun, .bool S.ended, .chan (some ch)]
structure StC (F : Nat → Prop) (w : World) (s : Nat) (S : Str) (sa aa ka : Option Addr) (sc ac kc ch : Nat) : Prop where
  hs : w.heap[s]? = some (.cells (cellsC S sa aa ka sc ac kc ch) 134 (0, 0))
  seen : SlR w 1 (.slice sa S.seen.length sc) S.seen.length (S.seen.map u8c)
  seenF : ∀ b, (Value.slice sa S.seen.length sc).ownBlock = some b → ¬ F b ∧ b < w.heap.size
  kept : SlR w 1 (.slice ka S.kept.length kc) S.kept.length (S.kept.map u8c)
  keptF : ∀ b, (Value.slice ka S.kept.length kc).ownBlock = some b → ¬ F b ∧ b < w.heap.size
  all : OwnR w 5 1 (.slice aa S.all.length ac) S.all.length (S.all.map u8c)
  allF : ∀ b, (Value.slice aa S.all.length ac).ownBlock = some b → F b
  fs : F s
  fc : F ch
  kc_ : ∃ buf m r, w.heap[ch]? = some (.chan 1 buf false m r false)
  fl : ∀ k, F k → k < w.heap.size
section
variable {F G : Nat → Prop} {w w' : World} {s : Nat} {S S' : Str} {sa aa ka sa' aa' ka' : Option Addr} {sc ac kc ch sc' ac' kc' : Nat}
theorem StC.lt (h : StC F w s S sa aa ka sc ac kc ch) : s < w.heap.size := lt_of_at h.hs
theorem StC.ltc (h : StC F w s S sa aa ka sc ac kc ch) : ch < w.heap.size := by
  obtain ⟨_, _, _, h1⟩ := h.kc_
  exact lt_of_at h1
theorem StC.ne (h : StC F w s S sa aa ka sc ac kc ch) : s ≠ ch := by
  rintro rfl
  obtain ⟨_, _, _, h1⟩ := h.kc_
  rw [h.hs] at h1; cases h1
theorem StC.row_ne (h : StC F w s S sa aa ka sc ac kc ch) {v : Value} {n : Nat} {xs : List Value} (ho : OwnR w 5 1 v n xs) {b : Nat} (hb : v.ownBlock = some b) : b ≠ s ∧ b ≠ ch := by
  rcases ho.2 with ⟨rfl, _⟩ | ⟨g, cap, cur, fr, rfl, hg, _⟩
  · cases hb
  · have := own_b hb
    subst this
    constructor
    · rintro rfl
      rw [h.hs] at hg
      simp only [Option.some.injEq, Obj.cells.injEq] at hg
      exact absurd hg.2.1 (by decide)
    · rintro rfl
      obtain ⟨_, _, _, h1⟩ := h.kc_
      rw [h1] at hg; cases hg
theorem SlR.kpF {v : Value} {n : Nat} {xs : List Value} (h : SlR w 1 v n xs) (hk : Kp G w w') (hn : ∀ b, b < w.heap.size → v.ownBlock = some b → ¬ G b) : SlR w' 1 v n xs :=
  h.kept hk.size (fun b hb hl => hk.block b hl (hn b hl hb))
theorem StC.kp (h : StC F w s S sa aa ka sc ac kc ch) (hk : Kp G w w') (hs : ¬ G s) (hc : ¬ G ch) (ha : ∀ b, (Value.slice aa S.all.length ac).ownBlock = some b → ¬ G b) (hsn : ∀ b, (Value.slice sa S.seen.length sc).ownBlock = some b → ¬ G b) (hkn : ∀ b, (Value.slice ka S.kept.length kc).ownBlock = some b → ¬ G b) : StC F w' s S sa aa ka sc ac kc ch := by
  obtain ⟨buf, m, r, h1⟩ := h.kc_
  exact ⟨hk.at_ h.hs hs, SlR.kpF h.seen hk (fun b _ hb => hsn b hb), fun b hb => ⟨(h.seenF b hb).1, by have := (h.seenF b hb).2; have := hk.size; omega⟩, SlR.kpF h.kept hk (fun b _ hb => hkn b hb), fun b hb => ⟨(h.keptF b hb).1, by have := (h.keptF b hb).2; have := hk.size; omega⟩, h.all.kp hk ha, h.allF, h.fs, h.fc, ⟨buf, m, r, hk.at_ h1 hc⟩, fun k q => by have := h.fl k q; have := hk.size; omega⟩
theorem StC.kp0 (h : StC F w s S sa aa ka sc ac kc ch) (hk : Kp (fun _ => False) w w') : StC F w' s S sa aa ka sc ac kc ch := h.kp hk (fun q => q) (fun q => q) (fun _ _ q => q) (fun _ _ q => q) (fun _ _ q => q)
theorem StC.more (h : StC F w s S sa aa ka sc ac kc ch) {F' : Nat → Prop} (hF : ∀ k, F k → F' k) (hl : ∀ k, F' k → k < w.heap.size) (hs : ∀ b, (Value.slice sa S.seen.length sc).ownBlock = some b → ¬ F' b) (hk : ∀ b, (Value.slice ka S.kept.length kc).ownBlock = some b → ¬ F' b) : StC F' w s S sa aa ka sc ac kc ch :=
  ⟨h.hs, h.seen, fun b hb => ⟨hs b hb, (h.seenF b hb).2⟩, h.kept, fun b hb => ⟨hk b hb, (h.keptF b hb).2⟩, h.all, fun b hb => hF b (h.allF b hb), hF _ h.fs, hF _ h.fc, h.kc_, hl⟩
theorem StC.put (h : StC F w s S sa aa ka sc ac kc ch) (i : Nat) (v : Value) (he : (cellsC S sa aa ka sc ac kc ch).setIfInBounds i v = cellsC S' sa' aa' ka' sc' ac' kc' ch)
    (h1 : SlR w 1 (.slice sa' S'.seen.length sc') S'.seen.length (S'.seen.map u8c)) (h1F : ∀ b, (Value.slice sa' S'.seen.length sc').ownBlock = some b → ¬ F b ∧ b < w.heap.size)
    (h2 : SlR w 1 (.slice ka' S'.kept.length kc') S'.kept.length (S'.kept.map u8c)) (h2F : ∀ b, (Value.slice ka' S'.kept.length kc').ownBlock = some b → ¬ F b ∧ b < w.heap.size)
    (h3 : OwnR w 5 1 (.slice aa' S'.all.length ac') S'.all.length (S'.all.map u8c)) (h3F : ∀ b, (Value.slice aa' S'.all.length ac').ownBlock = some b → F b) :
    StC F (w.setCell ⟨s, i, none⟩ v) s S' sa' aa' ka' sc' ac' kc' ch ∧ Kp (· = s) w (w.setCell ⟨s, i, none⟩ v) := by
  have k : Kp (· = s) w (w.setCell ⟨s, i, none⟩ v) := (Kp.refl (· = s) w).setCell (p := ⟨s, i, none⟩) (fun _ => rfl) _
  obtain ⟨buf, m, r, h5⟩ := h.kc_
  refine ⟨⟨by rw [setCell_at h.hs, he], SlR.kpF h1 k (fun b _ hb q => by subst q; exact (h1F b hb).1 h.fs), fun b hb => ⟨(h1F b hb).1, by have := (h1F b hb).2; have := k.size; omega⟩, SlR.kpF h2 k (fun b _ hb q => by subst q; exact (h2F b hb).1 h.fs), fun b hb => ⟨(h2F b hb).1, by have := (h2F b hb).2; have := k.size; omega⟩, h3.kp k (fun b hb q => (h.row_ne h3 hb).1 q), h3F, h.fs, h.fc, ⟨buf, m, r, k.at_ h5 (fun q => h.ne q.symm)⟩, fun j q => by have := h.fl j q; have := k.size; omega⟩, k⟩
theorem StC.cell (h : StC F w s S sa aa ka sc ac kc ch) (i : Nat) : w.cell? ⟨s, i, none⟩ = (cellsC S sa aa ka sc ac kc ch)[i]? := cell_of h.hs i
theorem StC.free (h : StC F w s S sa aa ka sc ac kc ch) (i : Nat) : w.frozen? ⟨s, i, none⟩ = false := free_of h.hs i
end
theorem StC.rd {F : Nat → Prop} {w : World} {s : Nat} {S : Str} {sa aa ka : Option Addr} {sc ac kc ch : Nat} (h : StC F w s S sa aa ka sc ac kc ch) (k : Nat) : Str.rd w s k ↔ (Value.slice sa S.seen.length sc).ownBlock = some k ∨ (Value.slice ka S.kept.length kc).ownBlock = some k := by
  have e2 : w.cell? ⟨s, 2, none⟩ = some (.slice sa S.seen.length sc) := by rw [h.cell]; rfl
  have e4 : w.cell? ⟨s, 4, none⟩ = some (.slice ka S.kept.length kc) := by rw [h.cell]; rfl
  unfold Str.rd
  rw [e2, e4]
  constructor
  · rintro (⟨v, h1, h2⟩ | ⟨v, h1, h2⟩)
    · cases h1; exact .inl h2
    · cases h1; exact .inr h2
  · rintro (q | q)
    · exact .inl ⟨_, rfl, q⟩
    · exact .inr ⟨_, rfl, q⟩
theorem StAt.core {F : Nat → Prop} {w : World} {s : Nat} {S : Str} (h : StAt F w s S) : ∃ sa aa ka sc ac kc ch, StC F w s S sa aa ka sc ac kc ch ∧
    (∃ (buf : Array Value) (m r : Nat), w.heap[ch]? = some (.chan 1 buf false m r false) ∧ (buf = #[] ∨ ∃ g n c xs, buf = #[.slice (some ⟨g, 0, none⟩) n c] ∧ OwnR w 5 1 (.slice (some ⟨g, 0, none⟩) n c) n xs ∧ F g ∧ ¬ (Value.slice aa S.all.length ac).ownBlock = some g)) := by
  obtain ⟨sa, aa, ka, sc, ac, kc, ch, h1, h2, h3, h4, h5, h6, h7, ⟨buf, m, r, h8, h9⟩, h10⟩ := h.at_
  exact ⟨sa, aa, ka, sc, ac, kc, ch, ⟨h1, h2, h3, h4, h5, h6, h7, h.fs, h10, ⟨buf, m, r, h8⟩, h.fl⟩, buf, m, r, h8, h9⟩
theorem StC.st {F : Nat → Prop} {w : World} {s : Nat} {S : Str} {sa aa ka : Option Addr} {sc ac kc ch : Nat} (h : StC F w s S sa aa ka sc ac kc ch) {buf : Array Value} {m r : Nat} (h1 : w.heap[ch]? = some (.chan 1 buf false m r false))
    (h2 : buf = #[] ∨ ∃ g n c xs, buf = #[.slice (some ⟨g, 0, none⟩) n c] ∧ OwnR w 5 1 (.slice (some ⟨g, 0, none⟩) n c) n xs ∧ F g ∧ ¬ (Value.slice aa S.all.length ac).ownBlock = some g) : StAt F w s S :=
  ⟨⟨sa, aa, ka, sc, ac, kc, ch, h.hs, h.seen, h.seenF, h.kept, h.keptF, h.all, h.allF, ⟨buf, m, r, h1, h2⟩, h.fc⟩, h.fs, h.fl⟩
theorem rd_kp {G : Nat → Prop} {w w' : World} {s k : Nat} (hk : Kp G w w') (hs : s < w.heap.size) (hG : ¬ G s) : rd w' s k ↔ rd w s k := by
  unfold rd
  rw [hk.cell (p := ⟨s, 2, none⟩) hs hG, hk.cell (p := ⟨s, 4, none⟩) hs hG]
theorem StAt.kpR {F G : Nat → Prop} {w w' : World} {s : Nat} {S : Str} (h : StAt F w s S) (hk : Kp G w w') (hF : ∀ k, F k → ¬ G k) (hR : ∀ k, rd w s k → ¬ G k) : StAt F w' s S := by
  obtain ⟨sa, aa, ka, sc, ac, kc, ch, hc, buf, m, r, h1, h2⟩ := h.core
  have hc' := hc.kp hk (hF _ hc.fs) (hF _ hc.fc) (fun b hb => hF b (hc.allF b hb)) (fun b hb => hR b ((hc.rd b).2 (.inl hb))) (fun b hb => hR b ((hc.rd b).2 (.inr hb)))
  refine hc'.st (hk.at_ h1 (hF _ hc.fc)) ?_
  rcases h2 with e | ⟨g, n, c, xs, e, h3, h4, h5⟩
  · exact .inl e
  · exact .inr ⟨g, n, c, xs, e, h3.kp hk (fun b hb q => by rw [own_b hb] at q; exact hF g h4 q), h4, h5⟩
def OutPost (F : Nat → Prop) (w : World) (s : Nat) (O : List UInt8) (S' : Str) (e : Ending) (w' : World) : Prop :=
  ∃ (a : Option Addr) (c : Nat) (F' : Nat → Prop), e = .returned (.slice a O.length c) ∧ RowB w.heap.size w' (.slice a O.length c) O ∧ (∀ b, (Value.slice a O.length c).ownBlock = some b → ¬ F' b ∧ ¬ rd w' s b) ∧
    StAt F' w' s S' ∧ Kp F w w' ∧ (∀ k, F' k → F k ∨ w.heap.size ≤ k) ∧ ∀ k, rd w' s k → rd w s k ∨ w.heap.size ≤ k
/-! ### a window is taken, and given back -/
structure Pre (F : Nat → Prop) (w : World) (aa : Option Addr) (an ac : Nat) (v : Value) (l : List UInt8) (g c : Nat) : Prop where
  e : v = .slice (some ⟨g, 0, none⟩) l.length c
  row : OwnR w 5 1 (.slice (some ⟨g, 0, none⟩) l.length c) l.length (l.map u8c)
  f : F g
  na : ¬ (Value.slice aa an ac).ownBlock = some g
def WndPost (F : Nat → Prop) (w : World) (s : Nat) (S : Str) (sa aa ka : Option Addr) (sc ac kc ch : Nat) (e : Ending) (w' : World) : Prop :=
  ∃ (F' : Nat → Prop) (v : Value) (g c m r : Nat), e = .returned v ∧ StC F' w' s S sa aa ka sc ac kc ch ∧ w'.heap[ch]? = some (.chan 1 #[] false m r false) ∧ Pre F' w' aa S.all.length ac v [] g c ∧ Kp (fun k => k = ch) w w' ∧ (∀ k, F k → F' k) ∧ ∀ k, F' k → F k ∨ w.heap.size ≤ k
theorem window_p {F : Nat → Prop} {w : World} {s : Nat} {S : Str} {sa aa ka : Option Addr} {sc ac kc ch : Nat} (h : StC F w s S sa aa ka sc ac kc ch)
    (hb : ∃ (buf : Array Value) (m r : Nat), w.heap[ch]? = some (.chan 1 buf false m r false) ∧ (buf = #[] ∨ ∃ g n c xs, buf = #[.slice (some ⟨g, 0, none⟩) n c] ∧ OwnR w 5 1 (.slice (some ⟨g, 0, none⟩) n c) n xs ∧ F g ∧ ¬ (Value.slice aa S.all.length ac).ownBlock = some g)) :
    Calls Tryz.prog 100 #[.pointer (some ⟨s, 0, none⟩)] w (WndPost F w s S sa aa ka sc ac kc ch) := by
  obtain ⟨buf, m, r, h1, h2⟩ := hb
  have hc : w.cell? ⟨s, 10, none⟩ = some (.chan (some ch)) := by rw [h.cell]; rfl
  rcases h2 with rfl | ⟨g, n, c, xs, rfl, h3, h4, h5⟩
  · refine (window_new w s ch m r hc h1).mono ?_
    rintro e w' ⟨rfl, rfl⟩
    have k := kp_alloc w (.cells (madeCells #[.int .u8 0] 2000) 5)
    have hO : OwnR (w.alloc (.cells (madeCells #[.int .u8 0] 2000) 5)) 5 1 (.slice (some ⟨w.heap.size, 0, none⟩) 0 2000) 0 [] :=
      ⟨by simp, .inr ⟨w.heap.size, 2000, _, (0, 0), rfl, alloc_at w _, .inl rfl, by omega, by unfold maxLen; omega, by rw [size_madeCells], by simp⟩⟩
    have h' := (h.kp0 k).more (F' := fun k => F k ∨ k = w.heap.size) (fun _ q => .inl q) (fun j q => by
      simp
      rcases q with q | q
      · have := h.fl j q; omega
      · omega) (fun b hb q => by
      have := h.seenF b hb
      rcases q with q | q
      · exact this.1 q
      · omega) (fun b hb q => by
      have := h.keptF b hb
      rcases q with q | q
      · exact this.1 q
      · omega)
    refine ⟨fun k => F k ∨ k = w.heap.size, _, w.heap.size, 2000, m, r, rfl, h', k.at_ h1 (fun q => q), ⟨rfl, hO, .inr rfl, fun q => ?_⟩, k.mono (fun _ _ q => q.elim), fun _ q => .inl q, fun _ q => q.imp id (fun q => by omega)⟩
    have := h.all.lt q
    omega
  · refine (window_old w s ch m r g n c hc h1).mono ?_
    rintro e w' ⟨rfl, rfl⟩
    have k : Kp (fun k => k = ch) w (w.setChan ch 1 #[] false m (r + 1) false) := ⟨rfl, rfl, rfl, by simp [World.setChan], fun k _ hn => by simp only [World.setChan]; rw [Array.getElem?_setIfInBounds_ne (fun q => hn q.symm)]⟩
    have hcc := Go.Conc.heap_setChan w ch 1 #[] false m (r + 1) false h.ltc
    have hra := h.row_ne h3 rfl
    refine ⟨F, _, g, c, m, r + 1, rfl, ?_, hcc, ⟨rfl, ?_, h4, h5⟩, k, fun _ q => q, fun _ q => .inl q⟩
    · exact ⟨k.at_ h.hs (fun q => h.ne q), SlR.kpF h.seen k (fun b _ hb q => by subst q; exact (h.seenF _ hb).1 h.fc), fun b hb => ⟨(h.seenF b hb).1, by have := (h.seenF b hb).2; have := k.size; omega⟩, SlR.kpF h.kept k (fun b _ hb q => by subst q; exact (h.keptF _ hb).1 h.fc), fun b hb => ⟨(h.keptF b hb).1, by have := (h.keptF b hb).2; have := k.size; omega⟩, h.all.kp k (fun b hb q => (h.row_ne h.all hb).2 q), h.allF, h.fs, h.fc, ⟨_, _, _, hcc⟩, fun j q => by have := h.fl j q; have := k.size; omega⟩
    · have h3' := h3.kp k (fun b hb q => by rw [own_b hb] at q; exact hra.2 q)
      rcases h3'.2 with ⟨e, _⟩ | ⟨g', cap, cur, fr, e, hg, hfr, q1, q2, q3, q4⟩
      · cases e
      · simp only [Value.slice.injEq, Option.some.injEq, Addr.mk.injEq, and_true, true_and] at e
        obtain ⟨rfl, rfl⟩ := e
        exact ⟨rfl, .inr ⟨g, c, cur, fr, rfl, hg, hfr, Nat.zero_le _, q2, q3, by simp⟩⟩
theorem gives_p {F : Nat → Prop} {w : World} {s : Nat} {S : Str} {sa aa ka : Option Addr} {sc ac kc ch m r : Nat} (h : StC F w s S sa aa ka sc ac kc ch) (hc : w.heap[ch]? = some (.chan 1 #[] false m r false)) {v : Value} {l : List UInt8} {g c : Nat} (hp : Pre F w aa S.all.length ac v l g c) :
    Calls Tryz.prog 103 #[.pointer (some ⟨s, 0, none⟩), v] w fun e w' => e = .returned (.tuple #[]) ∧ StC F w' s S sa aa ka sc ac kc ch ∧ w'.heap[ch]? = some (.chan 1 #[v] false (m + 1) r false) ∧ Pre F w' aa S.all.length ac v l g c ∧ Kp (fun k => k = ch) w w' := by
  have hcl : w.cell? ⟨s, 10, none⟩ = some (.chan (some ch)) := by rw [h.cell]; rfl
  refine (gives_room w s ch m r v hcl hc).mono ?_
  rintro e w' ⟨rfl, rfl⟩
  have k : Kp (fun k => k = ch) w (w.setChan ch 1 #[v] false (m + 1) r false) := ⟨rfl, rfl, rfl, by simp [World.setChan], fun k _ hn => by simp only [World.setChan]; rw [Array.getElem?_setIfInBounds_ne (fun q => hn q.symm)]⟩
  have hcc := Go.Conc.heap_setChan w ch 1 #[v] false (m + 1) r false h.ltc
  have hra := h.row_ne hp.row rfl
  refine ⟨rfl, ?_, hcc, ⟨hp.e, hp.row.kp k (fun b hb q => by rw [own_b hb] at q; exact hra.2 q), hp.f, hp.na⟩, k⟩
  exact ⟨k.at_ h.hs (fun q => h.ne q), SlR.kpF h.seen k (fun b _ hb q => by subst q; exact (h.seenF _ hb).1 h.fc), fun b hb => ⟨(h.seenF b hb).1, by have := (h.seenF b hb).2; have := k.size; omega⟩, SlR.kpF h.kept k (fun b _ hb q => by subst q; exact (h.keptF _ hb).1 h.fc), fun b hb => ⟨(h.keptF b hb).1, by have := (h.keptF b hb).2; have := k.size; omega⟩, h.all.kp k (fun b hb q => (h.row_ne h.all hb).2 q), h.allF, h.fs, h.fc, ⟨_, _, _, hcc⟩, fun j q => by have := h.fl j q; have := k.size; omega⟩
end Go.Proofs.YtmioiaeiflbmhaaGreat.Str
namespace Go.Proofs.YtmioiaeiflbmhaaGreat.Str
open Go Go.RowKit Go.ChangeMaps Go.MapKept Go.Mg Go.Mt Go.Proofs.YtmioiaeiflbmhaaGreat.Hu Go.Proofs.YtmioiaeiflbmhaaGreat.Sq Go.Proofs.YtmioiaeiflbmhaaGreat.Bk Go.Proofs.YtmioiaeiflbmhaaGreat.Ma
def BlkPost (F : Nat → Prop) (w : World) (s : Nat) (S : Str) (n : Nat) (last : UInt8) (e : Ending) (w' : World) : Prop := OutPost F w s (blkO S n last) (blkS S n) e w'
def pre (S : Str) : List UInt8 := if S.begun = true then [] else headB S.id
def HdAt (F : Nat → Prop) (w : World) (s : Nat) (S : Str) (sa aa ka : Option Addr) (sc ac kc ch : Nat) (v : Value) (wx : World) : Prop :=
  ∃ a c, v = .slice a (pre S).length c ∧ RowB w.heap.size wx (.slice a (pre S).length c) (pre S) ∧ StC F wx s { S with begun := true } sa aa ka sc ac kc ch ∧ Kp (· = s) w wx
theorem begun_put {F : Nat → Prop} {w : World} {s : Nat} {S : Str} {sa aa ka : Option Addr} {sc ac kc ch : Nat} (h : StC F w s S sa aa ka sc ac kc ch) :
    StC F (w.setCell ⟨s, 8, none⟩ (.bool true)) s { S with begun := true } sa aa ka sc ac kc ch ∧ Kp (· = s) w (w.setCell ⟨s, 8, none⟩ (.bool true)) :=
  h.put 8 (.bool true) rfl h.seen h.seenF h.kept h.keptF h.all h.allF
def ChB (F : Nat → Prop) (w : World) (aa : Option Addr) (an ac ch : Nat) : Prop := ∃ (buf : Array Value) (m r : Nat), w.heap[ch]? = some (.chan 1 buf false m r false) ∧ (buf = #[] ∨ ∃ g n c xs, buf = #[.slice (some ⟨g, 0, none⟩) n c] ∧ OwnR w 5 1 (.slice (some ⟨g, 0, none⟩) n c) n xs ∧ F g ∧ ¬ (Value.slice aa an ac).ownBlock = some g)
theorem ChB.kp {F : Nat → Prop} {w w' : World} {s : Nat} {S : Str} {sa aa ka : Option Addr} {sc ac kc ch an : Nat} (hb : ChB F w aa an ac ch) (h : StC F w s S sa aa ka sc ac kc ch) (hk : Kp (· = s) w w') : ChB F w' aa an ac ch := by
  obtain ⟨buf, m, r, h1, h2⟩ := hb
  refine ⟨buf, m, r, hk.at_ h1 (fun q => h.ne q.symm), ?_⟩
  rcases h2 with e | ⟨g, n, c, xs, e, h3, h4, h5⟩
  · exact .inl e
  · exact .inr ⟨g, n, c, xs, e, h3.kp hk (fun b hb q => (h.row_ne h3 hb).1 q), h4, h5⟩
theorem ChB.kp0 {F : Nat → Prop} {w w' : World} {aa : Option Addr} {ac ch an : Nat} (hb : ChB F w aa an ac ch) (hk : Kp (fun _ => False) w w') : ChB F w' aa an ac ch := by
  obtain ⟨buf, m, r, h1, h2⟩ := hb
  refine ⟨buf, m, r, hk.at_ h1 (fun q => q), ?_⟩
  rcases h2 with e | ⟨g, n, c, xs, e, h3, h4, h5⟩
  · exact .inl e
  · exact .inr ⟨g, n, c, xs, e, h3.kp hk (fun _ _ q => q), h4, h5⟩
theorem encB_le (p d : List UInt8) (depth : Nat) (h : H3) : (encB p d depth h).1.length ≤ d.length + 4 := by
  unfold Bk.encB
  split
  · simp [two]
  · split
    · simp [two]; omega
    · simp [two]
def EnAt (W : World) (r : List UInt8) (h : H3) (v10 v11 : Value) (wx : World) : Prop :=
  ∃ a c p, v10 = .slice a r.length c ∧ v11 = .pointer (some ⟨p, 0, none⟩) ∧ RowB W.heap.size wx (.slice a r.length c) r ∧ wx.heap[p]? = some (.cells #[.int .i64 (h.a : Nat), .int .i64 (h.b : Nat), .int .i64 (h.c : Nat)] 82 (0, 0)) ∧ Kp (fun _ => False) W wx
theorem EnAt.after {W Y : World} {r : List UInt8} {h : H3} {a : Option Addr} {c : Nat} (q1 : RowB W.heap.size Y (.slice a r.length c) r) (q2 : Kp (fun _ => False) W Y) :
    EnAt W r h (.slice a r.length c) (.pointer (some ⟨Y.heap.size, 0, none⟩)) (Y.alloc (.cells #[.int .i64 (h.a : Nat), .int .i64 (h.b : Nat), .int .i64 (h.c : Nat)] 82)) :=
  ⟨a, c, _, rfl, rfl, q1.kp (kp_alloc _ _) (fun _ q => q.elim), alloc_at _ _, q2.alloc _⟩
theorem EnAt.before {W Y : World} {r : List UInt8} {h : H3} {a : Option Addr} {c p : Nat} (q1 : RowB W.heap.size Y (.slice a r.length c) r) (q2 : Kp (fun _ => False) W Y) (hp : Y.heap[p]? = some (.cells #[.int .i64 0, .int .i64 0, .int .i64 0] 82 (0, 0))) (hpW : W.heap.size ≤ p) :
    EnAt W r h (.slice a r.length c) (.pointer (some ⟨p, 0, none⟩)) (((Y.setCell ⟨p, 0, none⟩ (.int .i64 (h.a : Nat))).setCell ⟨p, 1, none⟩ (.int .i64 (h.b : Nat))).setCell ⟨p, 2, none⟩ (.int .i64 (h.c : Nat))) := by
  have k1 : Kp (· = p) Y (Y.setCell ⟨p, 0, none⟩ (.int .i64 (h.a : Nat))) := (Kp.refl (· = p) Y).setCell (p := ⟨p, 0, none⟩) (fun _ => rfl) _
  have k2 := k1.setCell (p := ⟨p, 1, none⟩) (fun _ => rfl) (.int .i64 (h.b : Nat))
  have k3 := k2.setCell (p := ⟨p, 2, none⟩) (fun _ => rfl) (.int .i64 (h.c : Nat))
  have h1 := setCell_at (i := 0) hp (.int .i64 (h.a : Nat))
  have h2 := setCell_at (i := 1) h1 (.int .i64 (h.b : Nat))
  have h3 := setCell_at (i := 2) h2 (.int .i64 (h.c : Nat))
  refine ⟨a, c, p, rfl, rfl, ?_, h3, q2.up k3 (fun i q => by omega)⟩
  obtain ⟨a0, c0, e, o1, o2⟩ := q1
  refine ⟨a0, c0, e, o1.kp k3 (fun b hb q => ?_), o2⟩
  rcases o1.2 with ⟨e2, _⟩ | ⟨g, _, _, _, e2, hg, _⟩
  · rw [e2] at hb; cases hb
  · rw [e2] at hb
    have := own_b hb
    subst this
    subst q
    rw [hp] at hg
    simp only [Option.some.injEq, Obj.cells.injEq] at hg
    exact absurd hg.2.1 (by decide)
structure OutOk (F : Nat → Prop) (w : World) (B : Nat) (S : Str) (sa ka : Option Addr) (sc kc : Nat) (v : Value) (n : Nat) (xs : List Value) : Prop where
  own : OwnR w 5 1 v n xs
  out : ∀ b, v.ownBlock = some b → B ≤ b ∧ ¬ F b ∧ ¬ (Value.slice sa S.seen.length sc).ownBlock = some b ∧ ¬ (Value.slice ka S.kept.length kc).ownBlock = some b
theorem app_ok {F : Nat → Prop} {w w' : World} {B s : Nat} {S : Str} {sa aa ka : Option Addr} {sc ac kc ch : Nat} (h : StC F w s S sa aa ka sc ac kc ch) (hb : ChB F w aa S.all.length ac ch) {v v' : Value} {n n' : Nat} {xs xs' : List Value} (ho : OutOk F w B S sa ka sc kc v n xs) (hB : B ≤ w.heap.size)
    (g1 : OwnR w' 5 1 v' n' xs') (g2 : Kp (fun k => v.ownBlock = some k) w w') (g3 : v'.ownBlock = v.ownBlock ∨ v'.ownBlock = some w.heap.size) :
    StC F w' s S sa aa ka sc ac kc ch ∧ ChB F w' aa S.all.length ac ch ∧ OutOk F w' B S sa ka sc kc v' n' xs' := by
  have hne : ∀ b, v.ownBlock = some b → b ≠ s ∧ b ≠ ch := fun b hb' => h.row_ne ho.own hb'
  have hF : ∀ k, F k → ¬ v.ownBlock = some k := fun k q e => (ho.out k e).2.1 q
  refine ⟨h.kp g2 (hF _ h.fs) (hF _ h.fc) (fun b hb' q => hF b (h.allF b hb') q) (fun b hb' q => (ho.out b q).2.2.1 hb') (fun b hb' q => (ho.out b q).2.2.2 hb'), ?_, ⟨g1, fun b hb' => ?_⟩⟩
  · obtain ⟨buf, m, r, h1, h2⟩ := hb
    refine ⟨buf, m, r, g2.at_ h1 (hF _ h.fc), ?_⟩
    rcases h2 with e | ⟨g, n, c, xs, e, h3, h4, h5⟩
    · exact .inl e
    · exact .inr ⟨g, n, c, xs, e, h3.kp g2 (fun b hb' q => by rw [own_b hb'] at q; exact hF g h4 q), h4, h5⟩
  · rcases g3 with e | e
    · exact ho.out b (e.symm.trans hb')
    · rw [e] at hb'
      simp only [Option.some.injEq] at hb'
      subst hb'
      exact ⟨hB, fun q => Nat.lt_irrefl _ (h.fl _ q), fun q => Nat.lt_irrefl _ (h.seenF _ q).2, fun q => Nat.lt_irrefl _ (h.keptF _ q).2⟩
theorem h_put {F : Nat → Prop} {w : World} {s : Nat} {S : Str} {sa aa ka : Option Addr} {sc ac kc ch : Nat} (h : StC F w s S sa aa ka sc ac kc ch) (t : H3) :
    StC F (((w.setCell ⟨s, 5, none⟩ (.int .i64 (t.a : Nat))).setCell ⟨s, 6, none⟩ (.int .i64 (t.b : Nat))).setCell ⟨s, 7, none⟩ (.int .i64 (t.c : Nat))) s { S with h := t } sa aa ka sc ac kc ch ∧ Kp (· = s) w (((w.setCell ⟨s, 5, none⟩ (.int .i64 (t.a : Nat))).setCell ⟨s, 6, none⟩ (.int .i64 (t.b : Nat))).setCell ⟨s, 7, none⟩ (.int .i64 (t.c : Nat))) := by
  have p1 := h.put (S' := { S with h := ⟨t.a, S.h.b, S.h.c⟩ }) 5 (.int .i64 (t.a : Nat)) rfl h.seen h.seenF h.kept h.keptF h.all h.allF
  have p2 := p1.1.put (S' := { S with h := ⟨t.a, t.b, S.h.c⟩ }) 6 (.int .i64 (t.b : Nat)) rfl p1.1.seen p1.1.seenF p1.1.kept p1.1.keptF p1.1.all p1.1.allF
  have p3 := p2.1.put (S' := { S with h := t }) 7 (.int .i64 (t.c : Nat)) rfl p2.1.seen p2.1.seenF p2.1.kept p2.1.keptF p2.1.all p2.1.allF
  exact ⟨p3.1, (p1.2.trans p2.2).trans p3.2⟩
theorem begun_eq {S : Str} (h : S.begun = true) : { S with begun := true } = S := by cases S; simp at h; simp [h]
def WnAt (F : Nat → Prop) (X : World) (s : Nat) (S : Str) (sa aa ka : Option Addr) (sc ac kc ch : Nat) (l : List UInt8) (v : Value) (wx : World) : Prop :=
  ∃ (F' : Nat → Prop) (g c m r : Nat), StC F' wx s S sa aa ka sc ac kc ch ∧ wx.heap[ch]? = some (.chan 1 #[] false m r false) ∧ Pre F' wx aa S.all.length ac v l g c ∧ Kp F X wx ∧ (∀ k, F k → F' k) ∧ ∀ k, F' k → F k ∨ X.heap.size ≤ k
theorem WnAt.done {F F1 : Nat → Prop} {X Y w5 : World} {s : Nat} {S : Str} {sa aa ka : Option Addr} {sc ac kc ch : Nat} {l : List UInt8} {g c m r : Nat} {v' : Value} (hF : F ch) (st : StC F1 Y s S sa aa ka sc ac kc ch) (ce : Y.heap[ch]? = some (.chan 1 #[] false m r false))
    (pr : Pre F1 Y aa S.all.length ac (.slice (some ⟨g, 0, none⟩) 0 c) [] g c) (k0 : Kp (fun k => k = ch) X Y) (u1 : ∀ k, F k → F1 k) (u2 : ∀ k, F1 k → F k ∨ X.heap.size ≤ k)
    (g1 : OwnR w5 5 1 v' (0 + l.length) ([] ++ l.map u8c)) (g2 : Kp (fun k => (Value.slice (some ⟨g, 0, none⟩) 0 c).ownBlock = some k) Y w5) (g3 : v'.ownBlock = (Value.slice (some ⟨g, 0, none⟩) 0 c).ownBlock ∨ v'.ownBlock = some Y.heap.size) : WnAt F X s S sa aa ka sc ac kc ch l v' w5 := by
  rw [Nat.zero_add, List.nil_append] at g1
  have hg : g < Y.heap.size := pr.row.lt rfl
  obtain ⟨g', c', rfl, hg'⟩ : ∃ g' c', v' = .slice (some ⟨g', 0, none⟩) l.length c' ∧ (g' = g ∨ g' = Y.heap.size) := by
    rcases g1.2 with ⟨e, _⟩ | ⟨g', c', _, _, e, _⟩
    · rw [e] at g3
      rcases g3 with q | q <;> cases q
    · refine ⟨g', c', e, ?_⟩
      rw [e] at g3
      rcases g3 with q | q
      · left; simpa [Value.ownBlock] using q
      · right; simpa [Value.ownBlock] using q
  have hk : Kp (fun k => k = g) Y w5 := g2.mono (fun k _ q => own_b q)
  have hgs := st.row_ne pr.row rfl
  have st5 := st.kp hk (fun q => hgs.1 q.symm) (fun q => hgs.2 q.symm) (fun b hb q => pr.na (by rw [q] at hb; exact hb)) (fun b hb q => (st.seenF b hb).1 (by rw [q]; exact pr.f)) (fun b hb q => (st.keptF b hb).1 (by rw [q]; exact pr.f))
  have hsz := k0.size
  have st6 := st5.more (F' := fun k => F1 k ∨ k = g') (fun _ q => .inl q) (fun k q => by
    rcases q with q | q
    · exact st5.fl k q
    · rw [q]; exact g1.lt rfl) (fun b hb q => by
    have := st.seenF b hb
    rcases q with q | q
    · exact this.1 q
    · rcases hg' with e | e
      · rw [q, e] at this; exact this.1 pr.f
      · omega) (fun b hb q => by
    have := st.keptF b hb
    rcases q with q | q
    · exact this.1 q
    · rcases hg' with e | e
      · rw [q, e] at this; exact this.1 pr.f
      · omega)
  refine ⟨fun k => F1 k ∨ k = g', g', c', m, r, st6, hk.at_ ce (fun q => hgs.2 q.symm), ⟨rfl, g1, .inr rfl, fun q => ?_⟩, ?_, fun k q => .inl (u1 k q), fun k q => ?_⟩
  · rcases hg' with e | e
    · rw [e] at q; exact pr.na q
    · have := st.all.lt q; omega
  · exact (k0.mono (fun k _ q => by rw [q]; exact hF)).trans2 hk (fun i hi q => by
      subst q
      rcases u2 i pr.f with q | q
      · exact q
      · omega)
  · rcases q with q | q
    · exact u2 k q
    · subst q
      rcases hg' with e | e
      · rw [e]; exact u2 g pr.f
      · rw [e]; right; exact hsz
set_option maxRecDepth 100000 in
set_option maxHeartbeats 4000000 in
theorem block_p {F : Nat → Prop} {w : World} {s : Nat} {S : Str} {sa aa ka : Option Addr} {sc ac kc ch : Nat} (h : StC F w s S sa aa ka sc ac kc ch)
    (hb : ChB F w aa S.all.length ac ch)
    (n : Nat) (last : UInt8) (hn : n ≤ S.kept.length) (hn5 : n ≤ 500) (hw : S.Wf 100000) :
    Calls Tryz.prog 86 #[.pointer (some ⟨s, 0, none⟩), .int .i64 (n : Nat), .int .u8 (last.toNat : Nat)] w (BlkPost F w s S n last) := by
  have c8 : w.cell? ⟨s, 8, none⟩ = some (.bool S.begun) := by rw [h.cell]; rfl
  have c0 : w.cell? ⟨s, 0, none⟩ = some (.int .i64 (S.id : Nat)) := by rw [h.cell]; rfl
  have f8 : w.frozen? ⟨s, 8, none⟩ = false := h.free 8
  have H := Lib.hid h
  have HP : Hid (S.begun = true → pre S = []) := Lib.hid (fun q => by unfold pre; rw [if_pos q])
  have HP2 : Hid (S.begun = false → pre S = headB S.id ∧ (headB S.id).length = 8) := Lib.hid (fun q => ⟨by unfold pre; rw [if_neg (by rw [q]; decide)], headB_len _⟩)
  have HD := Lib.hid (head_p w S.id hw.id)
  have HB := Lib.hid hb
  have HW := Lib.hid hw
  have HN := Lib.hid hn
  have HLS := Lib.hid h.lt
  have HFL := Lib.hid h.fl
  have HCL := Lib.hid h.ltc
  have HKF := Lib.hid (fun (b : Nat) hb => And.intro (h.keptF b hb).2 ((h.rd b).2 (.inr hb)))
  clear h hb hn
  go_enter Tryz.func86, Tryz.ntmps86
  go_upto_if 16 with fail
  go_cut [7] (fun s7 wx => HdAt F w s S sa aa ka sc ac kc ch s7 wx)
  case first =>
    cases hbeg : S.begun with
    | true =>
      rw [hbeg] at c8
      go_wp2_with fail
      go_meet
      exact ⟨none, 0, by rw [HP.out hbeg]; rfl, by rw [HP.out hbeg]; exact RowM.nil _ _ _, by rw [begun_eq hbeg]; exact H.out, Kp.refl _ _⟩
    | false =>
      rw [hbeg] at c8
      go_wp2_with fail
      refine HD.out.mono ?_
      rintro e w1 ⟨a1, c1, rfl, p1, p2⟩
      have h1 := H.out.kp0 p2
      have f81 : w1.frozen? ⟨s, 8, none⟩ = false := h1.free 8
      have c81 : w1.cell? ⟨s, 8, none⟩ = some (.bool S.begun) := by rw [h1.cell]; rfl
      rw [hbeg] at c81
      have HH := Lib.hid (begun_put h1)
      have P1 := Lib.hid p1
      have P2 := Lib.hid p2
      clear h1 p1 p2
      go_wp2_with fail
      go_meet
      have hrow : RowB w.heap.size w1 (.slice a1 8 c1) (headB S.id) := P1.out
      refine ⟨a1, c1, by rw [(HP2.out hbeg).1, (HP2.out hbeg).2], by rw [(HP2.out hbeg).1, (HP2.out hbeg).2]; exact hrow.kp HH.out.2 (fun k q => by rw [q]; exact HLS.out), HH.out.1, (P2.out.mono (fun _ _ q => q.elim)).trans HH.out.2⟩
  case rest =>
    obtain ⟨a7, c7, rfl, p7, h7, k7⟩ := hcut
    have hup := (SlR.upto (P := Tryz.prog) h7.kept Tryz.underlying23 u8size (k := n) HN.out)
    obtain ⟨a4, cc4, hfr, hs4, hb4⟩ := (SlR.from_ (P := Tryz.prog) h7.kept Tryz.underlying23 u8size (k := n) HN.out)
    have e4 : S.kept.length - n = (S.kept.drop n).length := by rw [List.length_drop]
    have P4 := h7.put (S' := { S with begun := true, kept := S.kept.drop n }) (sa' := sa) (aa' := aa) (ka' := a4) (sc' := sc) (ac' := ac) (kc' := cc4) 4 (.slice a4 (S.kept.length - n) cc4) (by rw [e4]; rfl) h7.seen h7.seenF
      (by show SlR wc 1 (.slice a4 (S.kept.drop n).length cc4) _ _; rw [← e4]; simp only [Nat.mul_one, ← List.map_drop] at hs4; exact hs4)
      (fun b hb => h7.keptF b (hb4 b (by rw [e4]; exact hb))) h7.all h7.allF
    have c4 : wc.cell? ⟨s, 4, none⟩ = some (.slice ka S.kept.length kc) := by rw [h7.cell]; rfl
    have f4 : wc.frozen? ⟨s, 4, none⟩ = false := h7.free 4
    have hup1 := hup.1
    have DA : Hid (SlR wc 1 (.slice ka (S.kept.take n).length kc) (S.kept.take n).length ((S.kept.take n).map u8c) ∧ ∀ b, (Value.slice ka (S.kept.take n).length kc).ownBlock = some b → ¬ F b ∧ b < wc.heap.size) := Lib.hid (by
      have e5 : (S.kept.take n).length = n := pre_len HN.out
      rw [e5]
      have := hup.2
      simp only [Nat.mul_one, ← List.map_take] at this
      exact ⟨this, fun b hb => h7.keptF b ((own_anyU ka _ _ _ _).trans hb)⟩)
    have P4 := Lib.hid P4
    have P7 := Lib.hid p7
    have HKB := Lib.hid (fun (b : Nat) (hb : (Value.slice a4 (S.kept.drop n).length cc4).ownBlock = some b) => HKF.out b (hb4 b (by rw [e4]; exact hb)))
    have K7 := Lib.hid k7
    obtain ⟨kl, hkl⟩ : ∃ kl, kl = S.kept.length := ⟨_, rfl⟩
    have HKL := Lib.hid hkl
    rw [← hkl] at hup1 hfr c4 P4 HN
    have HN := HN.out
    have HB7 := Lib.hid ((HB.out.kp H.out k7).kp h7 P4.out.2)
    clear hup hs4 hb4 p7 h7 k7 e4 hkl c8 c0 f8 HD HP HP2 H HB
    go_upto_region 7 with fail
    have KX0 := Lib.hid P4.out.2
    have SX := Lib.hid P4.out.1
    clear P4
    generalize wc.setCell ⟨s, 4, none⟩ (.slice a4 (kl - n) cc4) = X at SX KX0 HB7 ⊢
    have DX := Lib.hid (And.intro (SlR.kpF DA.out.1 KX0.out (fun b _ hb q => by subst q; exact (DA.out.2 _ hb).1 SX.out.fs)) (fun b hb => ((DA.out.2 b hb).1 : ¬ F b)))
    have x2 : X.cell? ⟨s, 2, none⟩ = some (.slice sa S.seen.length sc) := by rw [SX.out.cell]; rfl
    have WN := Lib.hid (window_p (SX.out.kp0 (Kp.refl _ X).drew) (HB7.out.kp0 (Kp.refl _ X).drew))
    have WF : Hid (∀ V, Kp (fun k => k = ch) X V → Calls Tryz.prog 101 #[.slice none 0 0, .slice sa S.seen.length sc] V (WinPost V (win [] S.seen))) := Lib.hid (fun V (hV : Kp (fun k => k = ch) X V) => window_f V [] S.seen none 0 (SlR.nil _ _) sa sc (SlR.kpF SX.out.seen hV (fun b _ hb q => by subst q; exact (SX.out.seenF _ hb).1 SX.out.fc)) (by have := HW.out.seen; simp; omega))
    have LW : Hid ((win [] S.seen).length ≤ 2000) := Lib.hid (win_len _ _)
    obtain ⟨sl, hsl⟩ : ∃ sl, sl = S.seen.length := ⟨_, rfl⟩
    rw [← hsl] at x2 WF
    obtain ⟨P, hP⟩ : ∃ P, P = win [] S.seen := ⟨_, rfl⟩
    rw [← hP] at WF LW
    have HP := Lib.hid hP
    have HSL := Lib.hid hsl
    obtain ⟨j0, hj0, hy0, hy1, hy2⟩ := info_parts infoU8c
    clear DA hP hsl c4 f4 hup1 hfr
    go_cut [9] (fun s9 wx => WnAt F X s { S with begun := true, kept := S.kept.drop n } sa aa a4 sc ac cc4 ch P s9 wx)
    case first =>
      go_region_law (first
        | (go_simp; go_at_call 100; apply Calls.mono; (with_reducible exact WN.out); rintro e Y ⟨F1, v, g, c, m, r, rfl, st, ce, pr, ky, u1, u2⟩; obtain rfl := pr.e; have x2 : Y.cell? ⟨s, 2, none⟩ = some (.slice sa sl sc) := (by rw [st.cell, HSL.out]; rfl); have ST := Lib.hid st; have CE := Lib.hid ce; have PR := Lib.hid pr; have K0 : Hid (Kp (fun k => k = ch) X Y) := Lib.hid ((Kp.refl _ X).drew.trans ky); have U1 := Lib.hid u1; have U2 := Lib.hid u2; clear st ce pr ky u1 u2)
        | (go_simp; go_at_call 101; apply Calls.mono; (with_reducible exact WF.out _ K0.out); rintro e Y2 ⟨a9, c9, rfl, q1, q2, q3⟩; have ST := Lib.hid (ST.out.kp0 q3); have CE := Lib.hid (q3.at_ CE.out (fun q => q)); have PR := Lib.hid (Pre.mk PR.out.e (PR.out.row.kp q3 (fun _ _ q => q)) PR.out.f PR.out.na); have K0 := Lib.hid (K0.out.trans (q3.mono (fun _ _ q => q.elim))); have HR := Lib.hid q1; clear q1 q2 q3)
        | (refine step_app _ rfl (.tmp 41) (.tmp 46) 23 rfl 5 j0 _ 1 1 Tryz.underlying23 hj0 hy0 hy1 hy2 rfl (by decide) (by decide) (.slice (some ⟨g, 0, none⟩) 0 c) 0 [] (by simp [Act.eval]) PR.out.row (.slice a9 P.length c9) P.length (P.map u8c) (by simp [Act.eval]) HR.out (u8c_one _) (by have := LW.out; omega) ?_; intro v' w5 g1 g2 g3 _ _; have FIN := Lib.hid (WnAt.done SX.out.fc ST.out CE.out PR.out K0.out U1.out U2.out g1 g2 g3); clear g1 g2 g3))
      all_goals (go_wp2_with fail; go_meet; exact FIN.out)
    case rest =>
      obtain ⟨W, rfl⟩ : ∃ W : World, W = wc := ⟨_, rfl⟩
      obtain ⟨F1, g, c, m, r, st, ce, pr, kx, u1, u2⟩ := hcut
      obtain rfl := pr.e
      have DW := Lib.hid (SlR.kpF DX.out.1 kx (fun b _ hb q => DX.out.2 b hb q))
      have hDn : (S.kept.take n).length = n := pre_len (by rw [← HKL.out]; exact HN)
      obtain ⟨D, hD⟩ : ∃ D, D = S.kept.take n := ⟨_, rfl⟩
      rw [← hD] at DW DX hDn
      have EN : Hid (∀ V, Kp (fun _ => False) W V → Calls Tryz.prog 102 #[.slice (some ⟨g, 0, none⟩) P.length c, .slice ka n kc, .int .i64 (S.d : Nat), .agg #[.int .i64 (S.h.a : Nat), .int .i64 (S.h.b : Nat), .int .i64 (S.h.c : Nat)]] V fun e w' => ∃ a c, e = .returned (.tuple #[.slice a (encB P D S.d S.h).1.length c, .agg #[.int .i64 ((encB P D S.d S.h).2.a : Nat), .int .i64 ((encB P D S.d S.h).2.b : Nat), .int .i64 ((encB P D S.d S.h).2.c : Nat)]]) ∧ RowB V.heap.size w' (.slice a (encB P D S.d S.h).1.length c) (encB P D S.d S.h).1 ∧ Kp (fun _ => False) V w') := Lib.hid (fun V hV => by
        have := encP_p V P D (some ⟨g, 0, none⟩) c (pr.row.sl.kp hV (fun _ _ q => q)) ka kc (DW.out.kp hV (fun _ _ q => q)) LW.out (by rw [hDn]; exact hn5) S.d HW.out.d1 HW.out.d2 S.h
        rw [hDn] at this
        exact this)
      have HEN : Hid ((encB P D S.d S.h).1.length ≤ n + 4) := Lib.hid (by rw [← hDn]; exact encB_le _ _ _ _)
      have d1 : W.cell? ⟨s, 1, none⟩ = some (.int .i64 (S.d : Nat)) := by rw [st.cell]; rfl
      have d5 : W.cell? ⟨s, 5, none⟩ = some (.int .i64 (S.h.a : Nat)) := by rw [st.cell]; rfl
      have d6 : W.cell? ⟨s, 6, none⟩ = some (.int .i64 (S.h.b : Nat)) := by rw [st.cell]; rfl
      have d7 : W.cell? ⟨s, 7, none⟩ = some (.int .i64 (S.h.c : Nat)) := by rw [st.cell]; rfl
      have ST := Lib.hid st
      have CE := Lib.hid ce
      have PR := Lib.hid pr
      have KX := Lib.hid kx
      have U1 := Lib.hid u1
      have U2 := Lib.hid u2
      have HD := Lib.hid hD
      have HDN := Lib.hid hDn
      obtain ⟨EB, hEB⟩ : ∃ EB, EB = encB P D S.d S.h := ⟨_, rfl⟩
      rw [← hEB] at EN HEN
      have HEB := Lib.hid hEB
      obtain ⟨el, hel⟩ : ∃ el, el = EB.1.length := ⟨_, rfl⟩
      have HS := Lib.hid st.lt
      have HC := Lib.hid (fun (V : World) (hV : Kp (fun _ => False) W V) (i : Nat) => (hV.cell (p := ⟨s, i, none⟩) st.lt (fun q => q)))
      clear st ce pr kx u1 u2 hD hDn hEB x2 WN WF hel
      go_upto_region 8 with fail
      go_cut [10, 11] (fun s10 s11 wx => EnAt W EB.1 EB.2 s10 s11 wx)
      case first =>
        have a1 := (HC.out _ (kp_alloc W (.cells #[.int .i64 0, .int .i64 0, .int .i64 0] 82)) 1).trans d1
        have a5 := (HC.out _ (kp_alloc W (.cells #[.int .i64 0, .int .i64 0, .int .i64 0] 82)) 5).trans d5
        have a6 := (HC.out _ (kp_alloc W (.cells #[.int .i64 0, .int .i64 0, .int .i64 0] 82)) 6).trans d6
        have a7 := (HC.out _ (kp_alloc W (.cells #[.int .i64 0, .int .i64 0, .int .i64 0] 82)) 7).trans d7
        go_region_law (first
          | (go_simp; go_at_call 102; apply Calls.mono; (with_reducible exact EN.out _ (Kp.refl _ W).drew); rintro e Y ⟨a9, c9, rfl, q1, q2⟩; have Q1 := Lib.hid (q1 : RowB W.heap.size Y _ _); have Q2 := Lib.hid ((Kp.refl _ W).drew.trans q2); clear q1 q2)
          | (go_simp; go_at_call 102; apply Calls.mono; (with_reducible exact EN.out _ (((Kp.refl _ W).drew).alloc _)); rintro e Y ⟨a9, c9, rfl, q1, q2⟩; have Q1 := Lib.hid (q1.low (by simp) : RowB W.heap.size Y _ _); have QZ := Lib.hid (q2.at_ (alloc_at _ _) (fun q => q)); have Q2 := Lib.hid (((Kp.refl _ W).drew.alloc _).trans q2); have f0 := free_of QZ.out 0; have f1 := free_of QZ.out 1; have f2 := free_of QZ.out 2; have e0 := cell_of QZ.out 0; have e1 := cell_of QZ.out 1; have e2 := cell_of QZ.out 2; simp only [List.getElem?_toArray, List.getElem?_cons_succ, List.getElem?_cons_zero] at e0 e1 e2; clear q1 q2))
        all_goals (go_wp2_with fail; go_meet)
        all_goals first | exact EnAt.after Q1.out Q2.out | exact EnAt.before Q1.out Q2.out QZ.out (Nat.le_refl _)
      case rest =>
        obtain ⟨a9, c9, p, rfl, rfl, q1, q2, q3⟩ := hcut
        have st := ST.out.kp0 q3
        have ce := q3.at_ CE.out (fun q => q)
        have pr : Pre F1 wc aa S.all.length ac (.slice (some ⟨g, 0, none⟩) P.length c) P g c := ⟨PR.out.e, PR.out.row.kp q3 (fun _ _ q => q), PR.out.f, PR.out.na⟩
        have GV := Lib.hid (gives_p st ce pr)
        have hpne : p ≠ ch ∧ p ≠ s := by
          constructor
          · rintro rfl; rw [q2] at ce; cases ce
          · rintro rfl
            rw [st.hs] at q2
            simp only [Option.some.injEq, Obj.cells.injEq] at q2
            exact absurd q2.2.1 (by decide)
        obtain ⟨_, _, eb, ob, lb⟩ := q1
        simp only [Value.slice.injEq, true_and] at eb
        obtain ⟨rfl, rfl⟩ := eb
        have NB := Lib.hid (fun (b : Nat) (hb : (Value.slice a9 EB.1.length c9).ownBlock = some b) => st.row_ne ob hb)
        have OB := Lib.hid ob
        have LB := Lib.hid lb
        have Q2 := Lib.hid q2
        have Q3 := Lib.hid q3
        have HPN := Lib.hid hpne
        have hl7 := HS.out
        clear st ce pr ob lb q2 q3 hpne d1 d5 d6 d7 EN
        go_wp2_with fail
        refine GV.out.mono ?_
        rintro e Y ⟨rfl, st, ce, pr, ky⟩
        have z0 : Y.cell? ⟨p, 0, none⟩ = some (.int .i64 (EB.2.a : Nat)) := by rw [cell_of (ky.at_ Q2.out HPN.out.1)]; rfl
        have z1 : Y.cell? ⟨p, 1, none⟩ = some (.int .i64 (EB.2.b : Nat)) := by rw [cell_of (ky.at_ Q2.out HPN.out.1)]; rfl
        have z2 : Y.cell? ⟨p, 2, none⟩ = some (.int .i64 (EB.2.c : Nat)) := by rw [cell_of (ky.at_ Q2.out HPN.out.1)]; rfl
        have y5 : Y.cell? ⟨s, 5, none⟩ = some (.int .i64 (S.h.a : Nat)) := by rw [st.cell]; rfl
        have y6 : Y.cell? ⟨s, 6, none⟩ = some (.int .i64 (S.h.b : Nat)) := by rw [st.cell]; rfl
        have y7 : Y.cell? ⟨s, 7, none⟩ = some (.int .i64 (S.h.c : Nat)) := by rw [st.cell]; rfl
        have g5 : Y.frozen? ⟨s, 5, none⟩ = false := st.free 5
        have g6 : Y.frozen? ⟨s, 6, none⟩ = false := st.free 6
        have g7 : Y.frozen? ⟨s, 7, none⟩ = false := st.free 7
        have PH := Lib.hid (h_put st EB.2)
        have CB : Hid (ChB F1 Y aa S.all.length ac ch) := Lib.hid ⟨_, _, _, ce, .inr ⟨g, P.length, c, _, by rw [pr.e], pr.row, pr.f, pr.na⟩⟩
        have STY := Lib.hid st
        have KY := Lib.hid ky
        clear st ce pr ky GV
        go_upto_region 11 with fail
        have PX := Lib.hid PH.out.1
        have KS := Lib.hid PH.out.2
        clear PH z0 z1 z2 y5 y6 y7 g5 g6 g7
        generalize ((Y.setCell ⟨s, 5, none⟩ (.int .i64 (EB.2.a : Nat))).setCell ⟨s, 6, none⟩ (.int .i64 (EB.2.b : Nat))).setCell ⟨s, 7, none⟩ (.int .i64 (EB.2.c : Nat)) = X2 at PX KS ⊢
        have x2 : X2.cell? ⟨s, 2, none⟩ = some (.slice sa S.seen.length sc) := by rw [PX.out.cell]; rfl
        have hDs : SlR X2 1 (.slice ka D.length kc) D.length (D.map u8c) := SlR.kpF (SlR.kpF (DW.out.kp Q3.out (fun _ _ q => q)) KY.out (fun b _ hb q => by subst q; exact DX.out.2 _ hb SX.out.fc)) KS.out (fun b _ hb q => by subst q; exact DX.out.2 _ hb SX.out.fs)
        have WF2 := window_f X2 S.seen D sa sc PX.out.seen ka kc hDs (by have := HW.out.seen; rw [HDN.out]; omega)
        rw [HDN.out] at WF2
        have WF2 := Lib.hid WF2
        obtain ⟨R, hR⟩ : ∃ R, R = win S.seen D := ⟨_, rfl⟩
        rw [← hR] at WF2
        have HR := Lib.hid hR
        clear hDs hR
        have hl7b := HCL.out
        go_wp2_with fail
        apply Calls.mono
        · with_reducible exact WF2.out
        rintro e Y3 ⟨a10, c10, rfl, r1, r2, r3⟩
        have st3 := PX.out.kp0 r3
        have g2 : Y3.frozen? ⟨s, 2, none⟩ = false := st3.free 2
        have y2 : Y3.cell? ⟨s, 2, none⟩ = some (.slice sa S.seen.length sc) := by rw [st3.cell]; rfl
        have P2 := Lib.hid (st3.put (S' := { S with seen := R, kept := S.kept.drop n, h := EB.2, begun := true }) (sa' := a10) (sc' := c10) 2 (.slice a10 R.length c10) rfl r1 (fun b hb => ⟨fun q => by have h1 := PX.out.fl b q; have h2 := (r2 b hb).1; omega, (r2 b hb).2⟩) st3.kept st3.keptF st3.all st3.allF)
        have R2 := Lib.hid r2
        have R3 := Lib.hid r3
        clear st3 r1 r2 r3 x2 WF2
        go_upto_region 12 with fail
        have SZ := Lib.hid P2.out.1
        have KZ := Lib.hid P2.out.2
        clear P2 g2 y2
        generalize Y3.setCell ⟨s, 2, none⟩ (.slice a10 R.length c10) = X3 at SZ KZ ⊢
        have CZ : Hid (ChB F1 X3 aa S.all.length ac ch) := Lib.hid (((CB.out.kp STY.out KS.out).kp0 R3.out).kp (PX.out.kp0 R3.out) KZ.out)
        obtain ⟨_, _, e7, o7, l7⟩ := P7.out
        simp only [Value.slice.injEq, true_and] at e7
        obtain ⟨rfl, rfl⟩ := e7
        have hXX := KX0.out.size
        have hXW := KX.out.size
        have hWc := Q3.out.size
        have hcY := KY.out.size
        have hYX := KS.out.size
        have hX3 := R3.out.size
        have hYZ := KZ.out.size
        have hw0 := K7.out.size
        have OU : Hid (OutOk F1 X3 w.heap.size { S with seen := R, kept := S.kept.drop n, h := EB.2, begun := true } a10 a4 c10 cc4 (.slice a7 (pre S).length c7) (pre S).length ((pre S).map u8c)) := Lib.hid (by
          refine ⟨?_, fun b hb => ?_⟩
          · have q1 := o7.kp KX0.out (fun b hb q => by have := l7 b hb; have := HLS.out; omega)
            have q2 := q1.kp KX.out (fun b hb q => by have := l7 b hb; have := HFL.out b q; omega)
            have q3 := q2.kp Q3.out (fun _ _ q => q)
            have q4 := q3.kp KY.out (fun b hb q => by have := l7 b hb; have := HCL.out; omega)
            have q5 := q4.kp KS.out (fun b hb q => by have := l7 b hb; have := HLS.out; omega)
            have q6 := q5.kp R3.out (fun _ _ q => q)
            exact q6.kp KZ.out (fun b hb q => by have := l7 b hb; have := HLS.out; omega)
          · have h1 := l7 b hb
            have h2 := o7.lt hb
            refine ⟨h1, fun q => ?_, fun q => ?_, fun q => ?_⟩
            · rcases U2.out b q with q | q
              · have := HFL.out b q; omega
              · omega
            · have := (R2.out b q).1; omega
            · have := (HKB.out b q).1; omega)
        have OBX : Hid (OwnR X3 5 1 (.slice a9 EB.1.length c9) EB.1.length (EB.1.map u8c)) := Lib.hid ((((OB.out.kp KY.out (fun b hb q => (NB.out b hb).2 q)).kp KS.out (fun b hb q => (NB.out b hb).1 q)).kp R3.out (fun _ _ q => q)).kp KZ.out (fun b hb q => (NB.out b hb).1 q))
        have HNE : Hid (∀ b, (Value.slice a9 EB.1.length c9).ownBlock = some b → ¬ (Value.slice a7 (pre S).length c7).ownBlock = some b) := Lib.hid (fun b hb q => by have := LB.out b hb; have := o7.lt q; omega)
        have KT := Lib.hid (show Kp (fun k => F k ∨ w.heap.size ≤ k) w X3 from (((((((K7.out.mono (fun k _ q => by rw [q]; exact .inl SX.out.fs)).trans (KX0.out.mono (fun k _ q => by rw [q]; exact .inl SX.out.fs))).trans (KX.out.mono (fun k _ q => .inl q))).trans (Q3.out.mono (fun _ _ q => q.elim))).trans (KY.out.mono (fun k _ q => by rw [q]; exact .inl SX.out.fc))).trans (KS.out.mono (fun k _ q => by rw [q]; exact .inl SX.out.fs))).trans (R3.out.mono (fun _ _ q => q.elim))).trans (KZ.out.mono (fun k _ q => by rw [q]; exact .inl SX.out.fs)))
        have hB3 : Hid (w.heap.size ≤ X3.heap.size) := Lib.hid (by omega)
        have hF1 : Hid (∀ k, F1 k → F k ∨ w.heap.size ≤ k) := Lib.hid (fun k q => (U2.out k q).imp id (fun q => by omega))
        have HRN : Hid (∀ b, (Value.slice a10 R.length c10).ownBlock = some b → w.heap.size ≤ b) := Lib.hid (fun b hb => by have := (R2.out b hb).1; omega)
        clear o7 l7 hXX hXW hWc hcY hYX hX3 hYZ hw0
        have KA := Lib.hid (kp_alloc X3 (.cells #[.int .u8 (last.toNat : Nat)] 5))
        have LI := Lib.hid (lit_sl1 X3 (.int .u8 (last.toNat : Nat)) last rfl)
        have SZ4 := Lib.hid (SZ.out.kp0 KA.out)
        have CZ4 := Lib.hid (CZ.out.kp0 KA.out)
        have OU4 := Lib.hid (OutOk.mk (OU.out.own.kp KA.out (fun _ _ q => q)) OU.out.out)
        have HPL : Hid ((pre S).length ≤ 8) := Lib.hid (by unfold pre; split; simp; rw [headB_len]; omega)
        have HEQ : Hid (blkO S n last = pre S ++ [last] ++ EB.1) := Lib.hid (by rw [HEB.out, HP.out, HD.out]; rfl)
        have HEQS : Hid (blkS S n = { S with seen := R, kept := S.kept.drop n, h := EB.2, begun := true }) := Lib.hid (by rw [HR.out, HEB.out, HP.out, HD.out]; unfold blkS; rfl)
        obtain ⟨m7, hm7⟩ : ∃ m7, m7 = (pre S).length := ⟨_, rfl⟩
        have HM7 := Lib.hid hm7
        rw [← hm7] at OU4 HPL HNE ⊢
        obtain ⟨el, hel⟩ : ∃ el, el = EB.1.length := ⟨_, rfl⟩
        have HEL := Lib.hid hel
        rw [← hel] at OBX HEN HNE ⊢
        clear hm7 hel SZ CZ OU
        go_wp2_with (first
          | (at_builtin; (refine wpList_app (X3.alloc (.cells #[.int .u8 (last.toNat : Nat)] 5)) rfl (.tmp 78) (.tmp 80) 23 rfl 5 j0 _ 1 1 Tryz.underlying23 hj0 hy0 hy1 hy2 rfl (by decide) (by decide) (.slice a7 m7 c7) m7 ((pre S).map u8c) rfl OU4.out.own (.slice (some ⟨X3.heap.size, 0, none⟩) 1 1) 1 ([last].map u8c) rfl LI.out (u8c_one _) (by have := HPL.out; omega) ?_; intro v1 w1 g1 g2 g3 _ _; obtain ⟨b1, d1, rfl⟩ := g1.form; have A1 := Lib.hid (app_ok SZ4.out CZ4.out OU4.out (by have := KA.out.size; have := hB3.out; omega) g1 g2 g3); have B1 := Lib.hid (((OBX.out.kp KA.out (fun _ _ q => q)).kp g2 (fun b hb q => HNE.out b hb q)).sl); have K1 := Lib.hid (((KT.out.trans (KA.out.mono (fun _ _ q => q.elim))).trans2 g2 (fun i _ q => .inr (OU4.out.out i q).1))); have hs1 := Lib.hid g2.size; clear g1 g2 g3))
          | (at_builtin; (refine wpList_app w1 rfl (.tmp 81) (.tmp 82) 23 rfl 5 j0 _ 1 1 Tryz.underlying23 hj0 hy0 hy1 hy2 rfl (by decide) (by decide) (.slice b1 (m7 + 1) d1) (m7 + 1) ((pre S).map u8c ++ [last].map u8c) rfl A1.out.2.2.own (.slice a9 el c9) el (EB.1.map u8c) rfl B1.out (u8c_one _) (by have := HPL.out; have := HEN.out; omega) ?_; intro v2 w2 g1 g2 g3 _ _; obtain ⟨b2, d2, rfl⟩ := g1.form; have A2 := Lib.hid (app_ok A1.out.1 A1.out.2.1 A1.out.2.2 (by have := K1.out.size; omega) g1 g2 g3); have K2 := Lib.hid ((K1.out.trans2 g2 (fun i _ q => .inr (A1.out.2.2.out i q).1))); clear g1 g2 g3)))
        go_ret
        have hlen : (blkO S n last).length = m7 + 1 + el := by rw [HEQ.out, HM7.out, HEL.out]; simp; omega
        obtain ⟨buf, m', r', h1, h2⟩ := A2.out.2.1
        refine ⟨b2, d2, F1, by rw [hlen]; rfl, ?_, ?_, by rw [HEQS.out]; exact A2.out.1.st h1 h2, K2.out.mono (fun k hk q => q.resolve_right (by omega)), hF1.out, fun k hk => ?_⟩
        · rw [hlen, HEQ.out]
          refine ⟨b2, d2, by rw [← HEQ.out, hlen], ?_, fun b hb => (A2.out.2.2.out b ((own_anyU b2 _ d2 _ d2).trans hb)).1⟩
          rw [← HEQ.out, hlen, HEQ.out]
          have := A2.out.2.2.own
          rw [← List.map_append, ← List.map_append] at this
          exact this
        · intro b hb
          rw [hlen] at hb
          refine ⟨(A2.out.2.2.out b hb).2.1, fun q => ?_⟩
          rcases (A2.out.1.rd b).1 q with q | q
          · exact (A2.out.2.2.out b hb).2.2.1 q
          · exact (A2.out.2.2.out b hb).2.2.2 q
        · rcases (A2.out.1.rd k).1 hk with q | q
          · exact .inr (HRN.out k q)
          · exact .inl (HKB.out k q).2
end Go.Proofs.YtmioiaeiflbmhaaGreat.Str
namespace Go.Proofs.YtmioiaeiflbmhaaGreat.Str
open Go Go.RowKit Go.ChangeMaps Go.MapKept Go.Mg Go.Mt Go.Proofs.YtmioiaeiflbmhaaGreat.Hu Go.Proofs.YtmioiaeiflbmhaaGreat.Sq Go.Proofs.YtmioiaeiflbmhaaGreat.Bk Go.Proofs.YtmioiaeiflbmhaaGreat.Ma
theorem StAt.cell3 {F : Nat → Prop} {w : World} {s : Nat} {S : Str} (h : StAt F w s S) : ∃ aa ac, w.cell? ⟨s, 3, none⟩ = some (.slice aa S.all.length ac) ∧ OwnR w 5 1 (.slice aa S.all.length ac) S.all.length (S.all.map u8c) := by
  obtain ⟨sa, aa, ka, sc, ac, kc, ch, hc, _⟩ := h.core
  exact ⟨aa, ac, by rw [hc.cell]; rfl, hc.all⟩
theorem StAt.cell4 {F : Nat → Prop} {w : World} {s : Nat} {S : Str} (h : StAt F w s S) : ∃ ka kc, w.cell? ⟨s, 4, none⟩ = some (.slice ka S.kept.length kc) := by
  obtain ⟨sa, aa, ka, sc, ac, kc, ch, hc, _⟩ := h.core
  exact ⟨ka, kc, by rw [hc.cell]; rfl⟩
theorem StAt.kept4 {F : Nat → Prop} {w : World} {s : Nat} {S : Str} (h : StAt F w s S) : ∃ ka kc, w.cell? ⟨s, 4, none⟩ = some (.slice ka S.kept.length kc) ∧ SlR w 1 (.slice ka S.kept.length kc) S.kept.length (S.kept.map u8c) := by
  obtain ⟨sa, aa, ka, sc, ac, kc, ch, hc, _⟩ := h.core
  exact ⟨ka, kc, by rw [hc.cell]; rfl, hc.kept⟩
theorem StAt.cell9 {F : Nat → Prop} {w : World} {s : Nat} {S : Str} (h : StAt F w s S) : w.cell? ⟨s, 9, none⟩ = some (.bool S.ended) := by
  obtain ⟨sa, aa, ka, sc, ac, kc, ch, hc, _⟩ := h.core
  rw [hc.cell]; rfl
theorem ended_p {F : Nat → Prop} {w : World} {s : Nat} {S : Str} (h : StAt F w s S) : Calls Tryz.prog 85 #[.pointer (some ⟨s, 0, none⟩)] w fun e w' => e = .returned (.bool S.ended) ∧ w' = w := by
  have d0 := h.cell9
  generalize S.ended = b at *
  clear h
  go_enter Tryz.func85, Tryz.ntmps85
  go_wp2_with fail
  go_ret
  exact ⟨rfl, rfl⟩
theorem blockA {F : Nat → Prop} {w : World} {s : Nat} {S : Str} (h : StAt F w s S) (n : Nat) (last : UInt8) (hn : n ≤ S.kept.length) (hn5 : n ≤ 500) (hw : S.Wf 100000) :
    Calls Tryz.prog 86 #[.pointer (some ⟨s, 0, none⟩), .int .i64 (n : Nat), .int .u8 (last.toNat : Nat)] w (OutPost F w s (blkO S n last) (blkS S n)) := by
  obtain ⟨sa, aa, ka, sc, ac, kc, ch, hc, hb⟩ := h.core
  exact block_p hc hb n last hn hn5 hw
theorem ended_put {F : Nat → Prop} {w : World} {s : Nat} {S : Str} (h : StAt F w s S) : StAt F (w.setCell ⟨s, 9, none⟩ (.bool true)) s { S with ended := true } ∧ Kp (· = s) w (w.setCell ⟨s, 9, none⟩ (.bool true)) ∧ (∀ k, rd (w.setCell ⟨s, 9, none⟩ (.bool true)) s k ↔ rd w s k) ∧ w.frozen? ⟨s, 9, none⟩ = false := by
  obtain ⟨sa, aa, ka, sc, ac, kc, ch, hc, hb⟩ := h.core
  have p := hc.put (S' := { S with ended := true }) 9 (.bool true) rfl hc.seen hc.seenF hc.kept hc.keptF hc.all hc.allF
  obtain ⟨buf, m, r, h1, h2⟩ := ChB.kp hb hc p.2
  exact ⟨p.1.st h1 h2, p.2, fun k => by rw [p.1.rd, hc.rd], hc.free 9⟩
/-! ### Flush -/
set_option maxRecDepth 100000 in
set_option maxHeartbeats 1000000 in
theorem flush_go {F : Nat → Prop} {w : World} {s : Nat} {S : Str} (h : StAt F w s S) (he : S.ended = false) (hk : 0 < S.kept.length) (hk5 : S.kept.length ≤ 500) (hw : S.Wf 100000) :
    Calls Tryz.prog 53 #[.pointer (some ⟨s, 0, none⟩)] w (OutPost F w s (blkO S S.kept.length 0) (blkS S S.kept.length)) := by
  have EN := Lib.hid (ended_p h)
  rw [he] at EN
  obtain ⟨ka, kc, d4⟩ := h.cell4
  have BL := Lib.hid (blockA h S.kept.length 0 (Nat.le_refl _) hk5 hw)
  obtain ⟨n, hn⟩ : ∃ n, n = S.kept.length := ⟨_, rfl⟩
  rw [← hn] at BL d4 hk ⊢
  have hk0 : ((n : Int) == 0) = false := by rw [beq_eq_false_iff_ne]; omega
  clear h hn hk5
  go_enter Tryz.func53, Tryz.ntmps53
  go_wp2_with fail
  refine EN.out.mono ?_
  rintro e w1 ⟨rfl, rfl⟩
  go_wp2_with fail
  refine Calls.mono BL.out ?_
  rintro e w2 ⟨a, c, F', rfl, q⟩
  have Q := Lib.hid q
  clear q
  go_wp2_with fail
  go_ret
  exact ⟨a, c, F', rfl, Q.out⟩
set_option maxRecDepth 100000 in
set_option maxHeartbeats 1000000 in
theorem flush_no {F : Nat → Prop} {w : World} {s : Nat} {S : Str} (h : StAt F w s S) (hk : S.ended = true ∨ S.kept.length = 0) :
    Calls Tryz.prog 53 #[.pointer (some ⟨s, 0, none⟩)] w fun e w' => e = .returned (.slice none 0 0) ∧ w' = w := by
  have EN := Lib.hid (ended_p h)
  obtain ⟨ka, kc, d4⟩ := h.cell4
  obtain ⟨n, hn⟩ : ∃ n, n = S.kept.length := ⟨_, rfl⟩
  rw [← hn] at d4 hk
  clear h hn
  cases he : S.ended with
  | true =>
    rw [he] at EN
    clear he hk
    go_enter Tryz.func53, Tryz.ntmps53
    go_wp2_with fail
    refine EN.out.mono ?_
    rintro e w1 ⟨rfl, rfl⟩
    go_wp2_with fail
    go_ret
    exact ⟨rfl, rfl⟩
  | false =>
    rw [he] at EN hk
    obtain rfl : n = 0 := by rcases hk with q | q; cases q; exact q
    clear he hk
    go_enter Tryz.func53, Tryz.ntmps53
    go_wp2_with fail
    refine EN.out.mono ?_
    rintro e w1 ⟨rfl, rfl⟩
    go_wp2_with fail
    go_ret
    exact ⟨rfl, rfl⟩
/-! ### Write -/
theorem StAt.rd_lt {F : Nat → Prop} {w : World} {s k : Nat} {S : Str} (h : StAt F w s S) (hk : rd w s k) : k < w.heap.size ∧ ¬ F k := by
  obtain ⟨sa, aa, ka, sc, ac, kc, ch, hc, _⟩ := h.core
  rcases (hc.rd k).1 hk with q | q
  · exact ⟨(hc.seenF k q).2, (hc.seenF k q).1⟩
  · exact ⟨(hc.keptF k q).2, (hc.keptF k q).1⟩
theorem all_put {F : Nat → Prop} {w w' : World} {s : Nat} {S : Str} {aa aa' : Option Addr} {ac ac' n' : Nat} {l : List UInt8} (h : StAt F w s S) (h3 : w.cell? ⟨s, 3, none⟩ = some (.slice aa S.all.length ac)) (hn : n' = S.all.length + l.length)
    (g1 : OwnR w' 5 1 (.slice aa' n' ac') n' (S.all.map u8c ++ l.map u8c)) (g2 : Kp (fun k => (Value.slice aa S.all.length ac).ownBlock = some k) w w') (g3 : (Value.slice aa' n' ac').ownBlock = (Value.slice aa S.all.length ac).ownBlock ∨ (Value.slice aa' n' ac').ownBlock = some w.heap.size) :
    w'.frozen? ⟨s, 3, none⟩ = false ∧ w'.cell? ⟨s, 3, none⟩ = some (.slice aa S.all.length ac) ∧ ∃ F', StAt F' (w'.setCell ⟨s, 3, none⟩ (.slice aa' n' ac')) s { S with all := S.all ++ l } ∧ Kp F w (w'.setCell ⟨s, 3, none⟩ (.slice aa' n' ac')) ∧ (∀ k, F' k → F k ∨ w.heap.size ≤ k) ∧ ∀ k, rd (w'.setCell ⟨s, 3, none⟩ (.slice aa' n' ac')) s k ↔ rd w s k := by
  obtain ⟨sa, aa0, ka, sc, ac0, kc, ch, hc, hb⟩ := h.core
  have e3 : w.cell? ⟨s, 3, none⟩ = some (.slice aa0 S.all.length ac0) := by rw [hc.cell]; rfl
  rw [e3] at h3
  simp only [Option.some.injEq, Value.slice.injEq, true_and] at h3
  obtain ⟨rfl, rfl⟩ := h3
  have hne : ∀ b, (Value.slice aa0 S.all.length ac0).ownBlock = some b → b ≠ s ∧ b ≠ ch := fun b hb' => hc.row_ne hc.all hb'
  have hs' := g2.at_ hc.hs (fun q => (hne _ q).1 rfl)
  have hne' : ∀ b, (Value.slice aa' n' ac').ownBlock = some b → b ≠ s ∧ b ≠ ch := fun b hb' => by
    rcases g3 with q | q
    · exact hne b (q.symm.trans hb')
    · rw [hb'] at q
      simp only [Option.some.injEq] at q
      have := hc.lt; have := hc.ltc
      omega
  subst hn
  have e4 : S.all.length + l.length = (S.all ++ l).length := by simp
  have k3 : Kp (· = s) w' (w'.setCell ⟨s, 3, none⟩ (.slice aa' (S.all.length + l.length) ac')) := (Kp.refl (· = s) w').setCell (p := ⟨s, 3, none⟩) (fun _ => rfl) _
  have hsz := g2.size
  have hsz3 := k3.size
  have hF : ∀ k, F k → F k ∨ (Value.slice aa' (S.all.length + l.length) ac').ownBlock = some k := fun k q => .inl q
  have hn1 : ∀ b, ¬ F b → b < w.heap.size → ¬ (F b ∨ (Value.slice aa' (S.all.length + l.length) ac').ownBlock = some b) := fun b h1 h2 q => by
    rcases q with q | q
    · exact h1 q
    · rcases g3 with e | e
      · exact h1 (hc.allF b (e.symm.trans q))
      · rw [q] at e; simp only [Option.some.injEq] at e; omega
  have hc' : StC (fun k => F k ∨ (Value.slice aa' (S.all.length + l.length) ac').ownBlock = some k) (w'.setCell ⟨s, 3, none⟩ (.slice aa' (S.all.length + l.length) ac')) s { S with all := S.all ++ l } sa aa' ka sc ac' kc ch := by
    obtain ⟨buf, m, r, h5, _⟩ := hb
    refine ⟨?_, SlR.kpF (SlR.kpF hc.seen g2 (fun b _ hb' q => (hc.seenF b hb').1 (hc.allF b q))) k3 (fun b _ hb' q => by subst q; exact (hc.seenF _ hb').1 hc.fs), fun b hb' => ⟨hn1 b (hc.seenF b hb').1 (hc.seenF b hb').2, by have := (hc.seenF b hb').2; omega⟩, SlR.kpF (SlR.kpF hc.kept g2 (fun b _ hb' q => (hc.keptF b hb').1 (hc.allF b q))) k3 (fun b _ hb' q => by subst q; exact (hc.keptF _ hb').1 hc.fs), fun b hb' => ⟨hn1 b (hc.keptF b hb').1 (hc.keptF b hb').2, by have := (hc.keptF b hb').2; omega⟩, ?_, ?_, .inl hc.fs, .inl hc.fc, ⟨buf, m, r, k3.at_ (g2.at_ h5 (fun q => (hne _ q).2 rfl)) (fun q => hc.ne q.symm)⟩, ?_⟩
    · rw [setCell_at hs']
      congr 2
      show _ = cellsC _ _ _ _ _ _ _ _
      unfold cellsC
      rw [← e4]
      rfl
    · show OwnR _ _ 1 (.slice aa' (S.all ++ l).length ac') (S.all ++ l).length ((S.all ++ l).map u8c)
      rw [← e4, List.map_append]
      exact g1.kp k3 (fun b hb' q => (hne' b hb').1 q)
    · intro b hb'
      exact .inr ((own_anyU aa' _ ac' _ ac').trans hb')
    · intro k q
      rcases q with q | q
      · have := hc.fl k q; omega
      · have := g1.lt q; omega
  obtain ⟨buf, m, r, h5, h6⟩ := hb
  refine ⟨free_of hs' 3, by rw [cell_of hs']; rfl, _, hc'.st (k3.at_ (g2.at_ h5 (fun q => (hne _ q).2 rfl)) (fun q => hc.ne q.symm)) ?_, ?_, ?_, fun k => ?_⟩
  · rcases h6 with e | ⟨g, n, c, xs, e, h3, h4, h5⟩
    · exact .inl e
    · refine .inr ⟨g, n, c, xs, e, (h3.kp g2 (fun b hb' q => h5 (by rw [own_b hb'] at q; exact q))).kp k3 (fun b hb' q => (hc.row_ne h3 hb').1 q), .inl h4, fun q => ?_⟩
      have q := (own_anyU aa' (S.all.length + l.length) ac' _ ac').trans q
      rcases g3 with e' | e'
      · exact h5 (e'.symm.trans q)
      · rw [q] at e'; simp only [Option.some.injEq] at e'
        have : g < w.heap.size := h3.lt rfl
        omega
  · exact (g2.mono (fun k _ q => hc.allF k q)).trans (k3.mono (fun k _ q => by rw [q]; exact hc.fs))
  · intro k q
    rcases q with q | q
    · exact .inl q
    · rcases g3 with e | e
      · exact .inl (hc.allF k (e.symm.trans q))
      · rw [q] at e; simp only [Option.some.injEq] at e; right; omega
  · rw [hc'.rd, hc.rd]
theorem kept_put {F : Nat → Prop} {w : World} {s : Nat} {S : Str} {ka' : Option Addr} {kc' : Nat} {l : List UInt8} (h : StAt F w s S) (g1 : SlR w 1 (.slice ka' l.length kc') l.length (l.map u8c)) (g2 : ∀ b, (Value.slice ka' l.length kc').ownBlock = some b → ¬ F b ∧ b < w.heap.size) :
    w.frozen? ⟨s, 4, none⟩ = false ∧ StAt F (w.setCell ⟨s, 4, none⟩ (.slice ka' l.length kc')) s { S with kept := l } ∧ Kp (· = s) w (w.setCell ⟨s, 4, none⟩ (.slice ka' l.length kc')) ∧ ∀ k, rd (w.setCell ⟨s, 4, none⟩ (.slice ka' l.length kc')) s k → rd w s k ∨ (Value.slice ka' l.length kc').ownBlock = some k := by
  obtain ⟨sa, aa, ka, sc, ac, kc, ch, hc, hb⟩ := h.core
  have p := hc.put (S' := { S with kept := l }) (ka' := ka') (kc' := kc') 4 (.slice ka' l.length kc') rfl hc.seen hc.seenF g1 g2 hc.all hc.allF
  obtain ⟨buf, m, r, h1, h2⟩ := ChB.kp hb hc p.2
  refine ⟨hc.free 4, p.1.st h1 h2, p.2, fun k hk => ?_⟩
  rcases (p.1.rd k).1 hk with q | q
  · exact .inl ((hc.rd k).2 (.inl q))
  · exact .inr q
theorem blkO_le (S : Str) (n : Nat) (last : UInt8) : (blkO S n last).length ≤ n + 13 := by
  unfold blkO enc
  have h1 := encB_le (win [] S.seen) (S.kept.take n) S.d S.h
  have h2 : (S.kept.take n).length ≤ n := by simp; omega
  simp only [List.length_append, List.length_cons, List.length_nil]
  split
  · simp only [List.length_nil]; omega
  · rw [headB_len]; omega
end Go.Proofs.YtmioiaeiflbmhaaGreat.Str
