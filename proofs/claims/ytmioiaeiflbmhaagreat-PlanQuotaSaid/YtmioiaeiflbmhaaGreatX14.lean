/- huff: which of two trees is joined first; trees sorted. huff: trees sorted. The library's iterators over numbers: Values, AppendSeq, Collect. The library over numbers: Collect, Grow, Concat. -/
import Derived.RangeFuncBox
import Derived.RangeFuncLeaves
import Derived.Shelf.Abstract
import Derived.WalkKit
import Derived.OwnWalkIn
import Derived.TacticsInMore
import Derived.LoopNIn
import Derived.LoopIn
import Derived.Maps.AppendAt
import Derived.Test.YtmioiaeiflbmhaaGreatX12
import Derived.Test.YtmioiaeiflbmhaaGreatX13
namespace Go.Proofs.YtmioiaeiflbmhaaGreat.Hu
open Go Go.RowKit Go.ChangeMaps Go.MapKept Go.Mg Go.Hf Go.Sort
theorem cmp_c (x y : Int) (w : World) : Calls Tryz.prog 237 #[.int .i64 x, .int .i64 y] w fun e w' => e = .returned (.int .i64 (Lib.compareInt x y)) ∧ w' = w :=
  AnyG.cmp_Compare_int Tryz.cmpInt x y w
set_option maxHeartbeats 1000000 in
theorem or_c (g : Nat) (x y : Int) (w : World) (h0 : w.cell? ⟨g, 0, none⟩ = some (.int .i64 x)) (h1 : w.cell? ⟨g, 1, none⟩ = some (.int .i64 y)) :
    Calls Tryz.prog 236 #[.slice (some ⟨g, 0, none⟩) 2 2] w fun e w' => e = .returned (.int .i64 (if x = 0 then y else x)) ∧ w' = w := by
  by_cases hx : x = 0
  · subst hx
    go_enter Tryz.func236, Tryz.ntmps236
    go_wp2_with fail
    go_loopw [8] (fun i wr => wr = w ∧ (i = .int .i64 0 ∨ i = .int .i64 1 ∨ (i = .int .i64 2 ∧ y = 0))) (fun i _ => 2 - (intOf i).toNat)
    case atStart => exact ⟨rfl, .inl rfl⟩
    case round =>
      obtain ⟨rfl, rfl | rfl | ⟨rfl, rfl⟩⟩ := hrel
      · go_wp2_with fail
        exact ⟨⟨by first | trivial | rfl, .inr (.inl (by go_num))⟩, by simp [intOf]⟩
      · by_cases hy : y = 0
        · subst hy
          go_wp2_with fail
          exact ⟨⟨by first | trivial | rfl, .inr (.inr ⟨by go_num, by first | trivial | rfl⟩)⟩, by simp [intOf]⟩
        · have hy' : (y == 0) = false := by simpa using hy
          go_wp2_with fail
          go_ret
          exact ⟨by simp, rfl⟩
      · go_wp2_with fail
        go_ret
        exact ⟨by simp, rfl⟩
  · have hx' : (x == 0) = false := by simpa using hx
    go_enter Tryz.func236, Tryz.ntmps236
    go_wp2_with fail
    go_loopw [8] (fun i wr => wr = w ∧ i = .int .i64 0) (fun i _ => 2 - (intOf i).toNat)
    case atStart => exact ⟨rfl, rfl⟩
    case round =>
      obtain ⟨rfl, rfl⟩ := hrel
      go_wp2_with fail
      go_ret
      exact ⟨by simp, rfl⟩
def Srt (t : Tr) : Prop := t.s.Pairwise (· ≤ ·)
theorem head_eq {t : Tr} (hm : IsMin t.m t.s) (hs : Srt t) : ∃ l, t.s = t.m :: l := by
  obtain ⟨h1, h2⟩ := hm
  unfold Srt at hs
  cases e : t.s with
  | nil => rw [e] at h1; cases h1
  | cons x l =>
    refine ⟨l, ?_⟩
    rw [e] at h1 h2 hs
    have e1 := h2 x (by simp)
    rcases List.mem_cons.1 h1 with q | q
    · rw [q]
    · have := (List.pairwise_cons.1 hs).1 _ q
      have : x = t.m := by omega
      rw [this]
def cfT (t u : Tr) : Int := if Lib.compareInt (t.n : Nat) (u.n : Nat) = 0 then Lib.compareInt (t.m : Nat) (u.m : Nat) else Lib.compareInt (t.n : Nat) (u.n : Nat)
theorem cfT_lt (t u : Tr) : cfT t u < 0 ↔ Lt t u := by
  unfold cfT Lib.compareInt Lt
  by_cases h1 : ((t.n : Nat) : Int) < (u.n : Nat)
  · simp [h1]; omega
  · by_cases h2 : ((u.n : Nat) : Int) < (t.n : Nat)
    · simp [h1, h2]; omega
    · by_cases h3 : ((t.m : Nat) : Int) < (u.m : Nat)
      · simp [h1, h2, h3]; omega
      · by_cases h4 : ((u.m : Nat) : Int) < (t.m : Nat)
        · simp [h1, h2, h3, h4]; omega
        · simp [h1, h2, h3, h4]; omega
set_option maxRecDepth 100000 in
set_option maxHeartbeats 2000000 in
theorem first_c (w : World) (t u : Tr) (v x : Value) (ht : Tv w t v) (hu : Tv w u x) (st : Srt t) (su : Srt u) :
    Calls Tryz.prog 227 #[.agg #[.int .i64 (t.n : Nat), v], .agg #[.int .i64 (u.n : Nat), x]] w fun e w' => e = .returned (.int .i64 (cfT t u)) ∧ ∃ q os', w' = grow (w.drewN q) os' := by
  obtain ⟨a, c, rfl, h1, h2, h3⟩ := ht
  obtain ⟨a', c', rfl, h1', h2', h3'⟩ := hu
  obtain ⟨lt, et⟩ := head_eq h2 st
  obtain ⟨lu, eu⟩ := head_eq h2' su
  obtain ⟨g, off, rfl, hg, hcap, hc⟩ := at_nv h1 h2.pos
  obtain ⟨g', off', rfl, hg', hcap', hc'⟩ := at_nv h1' h2'.pos
  have c0 := hc 0 h2.pos
  have c0' := hc' 0 h2'.pos
  have p1 := h2.pos
  have p1' := h2'.pos
  simp only [et, eu, List.getElem_cons_zero, Nat.add_zero] at c0 c0'
  obtain ⟨W, hW⟩ : ∃ W, W = (w.alloc (.cells #[.int .i64 (t.n : Nat), .slice (some ⟨g, off, none⟩) t.s.length c] 272)).alloc (.cells #[.int .i64 (u.n : Nat), .slice (some ⟨g', off', none⟩) u.s.length c'] 272) := ⟨_, rfl⟩
  have k1 : Kp (fun _ => False) w W := by rw [hW]; exact ((Kp.refl _ _).alloc _).alloc _
  have hWt : W.heap[w.heap.size]? = some (.cells #[.int .i64 (t.n : Nat), .slice (some ⟨g, off, none⟩) t.s.length c] 272 (0, 0)) := by
    rw [hW]; exact (Below.heap_alloc _ _ _ (by simp)).trans (alloc_at w _)
  have hWu : W.heap[w.heap.size + 1]? = some (.cells #[.int .i64 (u.n : Nat), .slice (some ⟨g', off', none⟩) u.s.length c'] 272 (0, 0)) := by
    rw [hW]; have := alloc_at (w.alloc (.cells #[.int .i64 (t.n : Nat), .slice (some ⟨g, off, none⟩) t.s.length c] 272)) (.cells #[.int .i64 (u.n : Nat), .slice (some ⟨g', off', none⟩) u.s.length c'] 272); rwa [World.size_alloc] at this
  have hsz : W.heap.size = w.heap.size + 2 := by rw [hW]; simp
  have ct0 : W.cell? ⟨w.heap.size, 0, none⟩ = some (.int .i64 (t.n : Nat)) := by rw [cell_of hWt]; rfl
  have ct1 : W.cell? ⟨w.heap.size, 1, none⟩ = some (.slice (some ⟨g, off, none⟩) t.s.length c) := by rw [cell_of hWt]; rfl
  have cu0 : W.cell? ⟨w.heap.size + 1, 0, none⟩ = some (.int .i64 (u.n : Nat)) := by rw [cell_of hWu]; rfl
  have cu1 : W.cell? ⟨w.heap.size + 1, 1, none⟩ = some (.slice (some ⟨g', off', none⟩) u.s.length c') := by rw [cell_of hWu]; rfl
  have d0 := (k1.cell (p := ⟨g, off, none⟩) hg (fun q => q)).trans c0
  have d0' := (k1.cell (p := ⟨g', off', none⟩) hg' (fun q => q)).trans c0'
  have hWg : W = grow w (#[Obj.cells #[.int .i64 (t.n : Nat), .slice (some ⟨g, off, none⟩) t.s.length c] 272] ++ #[Obj.cells #[.int .i64 (u.n : Nat), .slice (some ⟨g', off', none⟩) u.s.length c'] 272]) := by rw [hW, alloc_eq_grow, alloc_eq_grow, grow_grow]
  have fin : ∀ n o, ∃ q os', (W.drewN n).alloc o = grow (w.drewN q) os' := fun n o => ⟨n, _, by rw [hWg, alloc_eq_grow]; exact grow_grow (w.drewN n) _ _⟩
  have FIN := Lib.hid fin
  have HSZ := Lib.hid hsz
  clear hc hc' h1 h1' h2 h2' k1 hWt hWu fin c0 c0' st su et eu hsz hWg
  generalize t.s.length = nt at *
  generalize u.s.length = nu at *
  unfold cfT
  generalize hx1 : Lib.compareInt (t.n : Nat) (u.n : Nat) = z1
  generalize hx2 : Lib.compareInt (t.m : Nat) (u.m : Nat) = z2
  have C1 : ∀ V, Calls Tryz.prog 237 #[.int .i64 (t.n : Nat), .int .i64 (u.n : Nat)] V fun e w' => e = .returned (.int .i64 z1) ∧ w' = V := fun V => by rw [← hx1]; exact cmp_c _ _ V
  have C2 : ∀ V, Calls Tryz.prog 237 #[.int .i64 (t.m : Nat), .int .i64 (u.m : Nat)] V fun e w' => e = .returned (.int .i64 z2) ∧ w' = V := fun V => by rw [← hx2]; exact cmp_c _ _ V
  have HC1 := Lib.hid C1
  have HC2 := Lib.hid C2
  have HC3 := Lib.hid (fun (gg : Nat) V p q => or_c gg z1 z2 V p q)
  generalize (if z1 = 0 then z2 else z1) = r at HC3 ⊢
  clear C1 C2 hx1 hx2
  go_enter Tryz.func227, Tryz.ntmps227
  go_wp2_with fail
  rw [← hW]
  clear hW
  go_region_held3 (fun w' => (w'.cell? ⟨w.heap.size, 0, none⟩ = some (.int .i64 (t.n : Nat)) ∧ w'.cell? ⟨w.heap.size, 1, none⟩ = some (.slice (some ⟨g, off, none⟩) nt c)) ∧ (w'.cell? ⟨w.heap.size + 1, 0, none⟩ = some (.int .i64 (u.n : Nat)) ∧ w'.cell? ⟨w.heap.size + 1, 1, none⟩ = some (.slice (some ⟨g', off', none⟩) nu c')) ∧ w'.cell? ⟨g, off, none⟩ = some (.int .i64 (t.m : Nat)) ∧ w'.cell? ⟨g', off', none⟩ = some (.int .i64 (u.m : Nat))) (go_keep) ((first
    | (go_simp; go_at_call 237; first | (refine (Calls.mono (by with_reducible exact HC1.out _) ?_); rintro e w' ⟨rfl, rfl⟩) | (refine (Calls.mono (by with_reducible exact HC2.out _) ?_); rintro e w' ⟨rfl, rfl⟩))
    | (go_simp; go_at_call 236; refine (HC3.out _ _ (by simp [World.cell?_alloc_new]) (by simp [World.cell?_alloc_new])).mono ?_; rintro e w' ⟨rfl, rfl⟩)))
  all_goals (go_wp2_with fail; go_ret; exact ⟨rfl, FIN.out 1 _⟩)
end Go.Proofs.YtmioiaeiflbmhaaGreat.Hu
namespace Go.Proofs.YtmioiaeiflbmhaaGreat.Hu
open Go Go.RowKit Go.ChangeMaps Go.MapKept Go.Mg Go.Hf Go.Sort Go.Shelf Go.Proofs.YtmioiaeiflbmhaaGreat.Op
theorem flat_toList {α : Type} [Inhabited α] (enc : α → List Value) (h : ∀ x, (enc x).length = 2) (d : Array α) : (flatK enc 2 d).toList = d.toList.flatMap enc := by
  apply List.ext_getElem?
  intro t
  have hl : (d.toList.flatMap enc).length = d.size * 2 := by rw [flatMap_len (fun y _ => h y), Array.length_toList]
  by_cases ht : t < d.size * 2
  · have h1 : t / 2 < d.size := by omega
    have e := flatMap_at (E := enc) (k := 2) (l := d.toList) (fun y _ => h y) (i := t / 2) (j := t % 2) (Nat.mod_lt _ (by omega)) (y := d[t / 2]) (by simp [h1])
    rw [show t / 2 * 2 + t % 2 = t by omega] at e
    rw [e]
    have hs : t < (flatK enc 2 d).size := by simpa using ht
    rw [Array.getElem?_toList, Array.getElem?_eq_getElem hs]
    have e2 := get_flatK enc 2 d t ht
    rw [getElem!_pos _ t hs] at e2
    rw [e2, getElem!_pos d _ h1]
    have hlt : t % 2 < (enc d[t / 2]).length := by rw [h]; exact Nat.mod_lt _ (by omega)
    rw [getElem!_pos (enc d[t / 2]) (t % 2) hlt, List.getElem?_eq_getElem hlt]
  · rw [List.getElem?_eq_none (by simp; omega), List.getElem?_eq_none (by omega)]
theorem swo_cfT {α : Type} (f : α → Tr) : SWO (ltOf fun x y => cfT (f x) (f y)) where
  irrefl x := by unfold ltOf; rw [decide_eq_false_iff_not, cfT_lt]; unfold Lt; omega
  trans x y z h1 h2 := by unfold ltOf at *; rw [decide_eq_true_iff, cfT_lt] at *; unfold Lt at *; omega
  ntrans x y z h1 h2 := by unfold ltOf at *; rw [decide_eq_false_iff_not, cfT_lt] at *; unfold Lt at *; omega
def SortPost (B : Nat) (w : World) (g : Nat) (vl : Value) (Fs : List (Tr × Value)) (e : Ending) (w' : World) : Prop :=
  e = .returned (.tuple #[]) ∧ ∃ Fs', Fs'.Perm Fs ∧ Fo B w' 272 vl Fs' ∧ (∀ i j (hi : i < j) (hj : j < Fs'.length), ¬ Lt Fs'[j].1 Fs'[i].1) ∧ Kp (· = g) w w'
set_option maxHeartbeats 1000000 in
theorem sort_c {B : Nat} (w : World) (g off cap : Nat) (Fs : List (Tr × Value)) (h : Fo B w 272 (.slice (some ⟨g, off, none⟩) Fs.length cap) Fs) (hS : ∀ p, p ∈ Fs → Srt p.1) (h0 : 0 < Fs.length) (hl : Fs.length ≤ 1000) :
    Calls Tryz.prog 226 #[.slice (some ⟨g, off, none⟩) Fs.length cap, .func (.func 227) #[] #[]] w (SortPost B w g (.slice (some ⟨g, off, none⟩) Fs.length cap) Fs) := by
  haveI : Inhabited {p : Tr × Value // p ∈ Fs} := ⟨⟨Fs[0], List.getElem_mem h0⟩⟩
  obtain ⟨d, hd⟩ : ∃ d : Array {p : Tr × Value // p ∈ Fs}, d = Fs.attach.toArray := ⟨_, rfl⟩
  have hds : d.size = Fs.length := by rw [hd]; simp
  have hdl : d.toList.map (·.1) = Fs := by rw [hd]; exact List.attach_map_subtype_val Fs
  let enc : {p : Tr × Value // p ∈ Fs} → List Value := fun x => E x.1
  have hk2 : ∀ x, (enc x).length = 2 := fun x => rfl
  have h1 : ∀ x, ∀ v ∈ enc x, v.oneCell' = true := fun x v hv => E_one1 (h.trees x.1 x.2) v hv
  have hgl : g < w.heap.size := h.row.lt rfl
  have hfm : d.toList.flatMap enc = Fs.flatMap E :=
    (show d.toList.flatMap enc = (d.toList.map (·.1)).flatMap E by rw [List.flatMap_map]).trans (congrArg (fun l => l.flatMap E) hdl)
  have hH : HoldsK enc 2 w g off d := by
    intro j hj
    have hj2 : j < d.size * 2 := by simpa using hj
    refine ⟨?_, h.row.free j (by omega)⟩
    obtain ⟨_, a0, c0, e0, _, _, _, hc⟩ := h.row.sl
    simp only [Value.slice.injEq, true_and] at e0
    obtain ⟨g', off', e1, _, hc⟩ := hc h0
    rw [e1] at e0
    simp only [Option.some.injEq, Addr.mk.injEq, and_true] at e0
    obtain ⟨⟨rfl, rfl⟩, _⟩ := e0
    refine hc j _ ?_
    rw [← hfm, ← flat_toList enc hk2 d, Array.getElem?_toList, getElem!_pos _ j hj]
    simp
  have eg : ∀ args w, (callFunc 227 args).run Tryz.prog w = .ok (.enter 227 args) w := enters_of Tryz.func227 (by kernel_rfl) rfl
  have hcmp : CmpLays Tryz.prog 227 #[] enc 2 (fun x y => cfT x.1.1 y.1.1) g off d.size w := by
    intro m os dk _ x y
    have kk : Kp (· = g) w (sortWorldK enc 2 w g off m dk os) := sorted_kp id w g m off (flatK enc 2 dk) os
    have t : ∀ z : {p : Tr × Value // p ∈ Fs}, Tv (sortWorldK enc 2 w g off m dk os) z.1.1 z.1.2 := fun z => (h.trees z.1 z.2).kp kk (fun b hb e => h.apart z.1 z.2 b hb (by rw [e]; rfl))
    exact first_c _ x.1.1 y.1.1 x.1.2 y.1.2 (t x) (t y) (hS x.1 x.2) (hS y.1 y.2)
  have hcon := AnyQ.slices_SortFunc Tryz.sortTrees 2 Tryz.isAgg272 Tryz.sizeOf272 enc hk2 h1 (fun x y => cfT x.1.1 y.1.1) (swo_cfT (fun x : {p : Tr × Value // p ∈ Fs} => x.1.1)) 227 #[] g off cap d w eg hcmp hH hgl (by omega)
  rw [hds] at hcon
  refine Calls.mono hcon ?_
  rintro e w' ⟨rfl, d', n, os, hp, hs, rfl⟩
  have hsz : d'.size = Fs.length := by rw [hp.1, hds]
  refine ⟨rfl, d'.toList.map (·.1), ?_, ?_, ?_, sorted_kp id w g n off (flatK enc 2 d') os⟩
  · have h2 := hp.2.2
    rw [show d'.extract 0 Fs.length = d' by rw [← hsz]; simp, show d.extract 0 Fs.length = d by rw [← hds]; simp] at h2
    have h5 := h2.map (·.1)
    rwa [hdl] at h5
  · have hperm : (d'.toList.map (·.1)).Perm Fs := by
      have h2 := hp.2.2
      rw [show d'.extract 0 Fs.length = d' by rw [← hsz]; simp, show d.extract 0 Fs.length = d by rw [← hds]; simp] at h2
      have := h2.map (·.1)
      rwa [hdl] at this
    have hlen : (d'.toList.map (·.1)).length = Fs.length := hperm.length_eq
    have kk : Kp (· = g) w (sortWorldK enc 2 w g off n d' os) := sorted_kp id w g n off (flatK enc 2 d') os
    refine ⟨?_, h.new, fun p hp' => (h.trees p (hperm.mem_iff.1 hp')).kp kk (fun b hb e => h.apart p (hperm.mem_iff.1 hp') b hb (by rw [e]; rfl)), fun p hp' => h.apart p (hperm.mem_iff.1 hp')⟩
    have h3 := h.row.sorted (k := n) h0 (flatK enc 2 d') (by rw [size_flatK, hsz]) os
    rw [flat_toList enc hk2 d'] at h3
    rw [hlen, List.flatMap_map]
    exact h3
  · intro i j hi hj
    have hj' : j < d'.size := by simpa using hj
    have hi' : i < d'.size := by omega
    have h4 := hs i j (Nat.zero_le _) hi (by omega)
    unfold ltOf at h4
    rw [decide_eq_false_iff_not, cfT_lt, getElem!_pos d' i hi', getElem!_pos d' j hj'] at h4
    simpa using h4
end Go.Proofs.YtmioiaeiflbmhaaGreat.Hu
namespace Go.Proofs.YtmioiaeiflbmhaaGreat.It
open Go Go.RowKit Go.Shelf Go.Mg Go.Proofs.YtmioiaeiflbmhaaGreat.Hu
attribute [local go_sem] Oper.semAt_some
def upto {α : Type} (f : Nat → α) (k : Nat) : List α := (List.range k).map f
theorem upto_succ {α : Type} (f : Nat → α) (k : Nat) : upto f (k + 1) = upto f k ++ [f k] := by simp [upto, List.range_succ]
theorem upto_length {α : Type} (f : Nat → α) (k : Nat) : (upto f k).length = k := by simp [upto]
theorem upto_take (zs : List Int) {k : Nat} (hk : k ≤ zs.length) : upto (fun j => zs[j]?.getD 0) k = zs.take k := by
  apply List.ext_getElem
  · simp [upto, hk]
  · intro i h1 h2
    have : i < zs.length := by simp [upto] at h1; omega
    simp [upto, this]
set_option maxRecDepth 100000 in
set_option maxHeartbeats 2000000 in
theorem values1_in (F : Fence) (n : Nat) (h7 : F.fn 240) (hro : F.round = none) (hn : 1 ≤ n) (l Bs n₀ b off len cap : Nat) (zs : List Int) (hreach : len * 8 ≤ 140737488351232) (hb : b < n₀) (J Jx : List Int → World → Prop)
    (hY : ∀ pre x W, J pre W → pre.length < len → YieldAt F (n - 1) Tryz.prog l #[.int .i64 x] W fun e W' =>
      (e = .returned (.bool true) ∧ J (pre ++ [x]) W' ∧ Below n₀ W W') ∨ (e = .returned (.bool false) ∧ Jx (pre ++ [x]) W'))
    (W : World) (hBs : W.cell? ⟨Bs, 0, none⟩ = some (.slice (some ⟨b, off, none⟩) len cap)) (hc : ∀ j, j < len → W.cell? ⟨b, off + j, none⟩ = some (.int .i64 (zs[j]?.getD 0))) (h0 : J [] W) :
    CallsIn F n Tryz.prog 240 #[.func (.yield l) #[] #[], .pointer (some ⟨Bs, 0, none⟩)] W fun e W' => (∃ v, e = .returned v) ∧
      ((∃ ys, ys = upto (fun j => zs[j]?.getD 0) len ∧ J ys W') ∨ (∃ pre, (∃ k, k ≤ len ∧ pre = upto (fun j => zs[j]?.getD 0) k) ∧ Jx pre W')) := by
  refine callsIn_of_wp Tryz.func240 rfl h7 ?_ hro
  simp only [Tryz.ntmps240, List.size_toArray, List.length_cons, List.length_nil, Nat.reduceAdd, Nat.reduceSub, Array.replicate_succ, Array.replicate_zero, List.push_toArray, List.append_toArray, List.nil_append, List.cons_append]
  gi_wp2
  gi_loopw [7] (fun i wr => ∃ k : Nat, k ≤ len ∧ i = .int .i64 k ∧ J (upto (fun j => zs[j]?.getD 0) k) wr ∧ Below n₀ W wr)
    (fun i _ => len - (intOf i).toNat)
  case atStart => exact ⟨0, Nat.zero_le _, rfl, h0, Below.refl _ _⟩
  case round =>
    obtain ⟨k, hk, rfl, hJs, hnx⟩ := hrel
    have hcx : k < len → wr.cell? ⟨b, off + k, none⟩ = some (.int .i64 (zs[k]?.getD 0)) := fun h => (hnx.cell (p := ⟨b, off + k, none⟩) hb).trans (hc k h)
    by_cases hlt : k < len
    · obtain ⟨fn, tmps, assign, body, hy, hR⟩ := hY _ (zs[k]?.getD 0) wr hJs (by rw [upto_length]; exact hlt)
      have hcx' := hcx hlt
      gi_wp2
      refine hR.mono ?_
      rintro e W3 (⟨rfl, hJ3, hk3⟩ | ⟨rfl, hJx3⟩)
      · gi_wp2
        go_roundw
        case rel => exact ⟨k + 1, by omega, by simp, by rw [upto_succ]; exact hJ3, hnx.trans hk3⟩
        case measure => simp [intOf]; omega
      · gi_wp2
        refine bodyPost_ret (results_none rfl _ _ _) rfl ?_
        exact ⟨⟨_, rfl⟩, .inr ⟨_, ⟨k + 1, by omega, (upto_succ _ _).symm⟩, hJx3⟩⟩
    · obtain rfl : k = len := by omega
      gi_wp2
      go_end0
      exact ⟨⟨_, rfl⟩, .inl ⟨_, rfl, hJs⟩⟩
def Ints (n₀ : Nat) (W : World) (sv : Value) (zs : List Int) : Prop :=
  ∃ b off cap, sv = .slice (some ⟨b, off, none⟩) zs.length cap ∧ b < n₀ ∧ ∀ j, j < zs.length → W.cell? ⟨b, off + j, none⟩ = some (.int .i64 (zs[j]?.getD 0))
theorem Ints.below {n₀ : Nat} {A B : World} (h : Below n₀ A B) {sv : Value} {zs : List Int} : Ints n₀ A sv zs → Ints n₀ B sv zs
  | ⟨b, off, cap, e, hb, hc⟩ => ⟨b, off, cap, e, hb, fun j hj => (h.cell (p := ⟨b, off + j, none⟩) hb).trans (hc j hj)⟩
set_option maxHeartbeats 1000000 in
theorem values_in (F : Fence) (n : Nat) (h5 : F.fn 229) (hro : F.round = none) (a : Option Addr) (len cap : Nat) (w : World) :
    CallsIn F n Tryz.prog 229 #[.slice a len cap] w fun e w' => e = .returned (.func (.func 240) #[] #[.pointer (some ⟨w.heap.size, 0, none⟩)]) ∧ w' = w.alloc (.cells #[.slice a len cap] 179) := by
  refine callsIn_of_wp Tryz.func229 rfl h5 ?_ hro
  simp only [Tryz.ntmps229, List.size_toArray, List.length_cons, List.length_nil, Nat.reduceAdd, Nat.reduceSub, Array.replicate_succ, Array.replicate_zero, List.push_toArray, List.append_toArray, List.nil_append, List.cons_append]
  gi_wp2
  go_ret
  exact ⟨rfl, rfl⟩
theorem values_stops (F : Fence) (n : Nat) (h7 : F.fn 240) (hro : F.round = none) (hn : 1 ≤ n) (Bs n₀ : Nat) (sv : Value) (zs : List Int) (hreach : zs.length * 8 ≤ 140737488351232) (w : World) (hBs : Bs < w.heap.size) (hn₀ : n₀ ≤ w.heap.size)
    (hc : w.cell? ⟨Bs, 0, none⟩ = some sv) (hI : Ints n₀ w sv zs) :
    SeqStopsK F n Tryz.prog 240 #[.pointer (some ⟨Bs, 0, none⟩)] (fun x : Int => #[Value.int .i64 x]) (Below n₀) (fun ys => ys = zs) (fun pre => pre <+: zs) zs.length w := fun l J Jx W hW _ _ hY h0 => by
  have hc' := (hW.cell (p := ⟨Bs, 0, none⟩) hBs).trans hc
  obtain ⟨b, off, cap, rfl, hb, hcs⟩ := hI.below (hW.mono hn₀)
  refine (values1_in F n h7 hro hn l Bs n₀ b off zs.length cap zs hreach hb J Jx hY W hc' hcs h0).mono ?_
  rintro e W' ⟨he, ⟨ys, rfl, hj⟩ | ⟨pre, ⟨k, hk, rfl⟩, hj⟩⟩
  · exact ⟨he, .inl ⟨_, by rw [upto_take zs (Nat.le_refl _), List.take_length], hj⟩⟩
  · exact ⟨he, .inr ⟨_, by rw [upto_take zs hk]; exact List.take_prefix _ _, hj⟩⟩
set_option maxRecDepth 100000 in
set_option maxHeartbeats 2000000 in
theorem appendSeq_in (F : Fence) (n : Nat) (h3 : F.fn 253) (h7 : F.fn 240) (hro : F.round = none) (hn : 3 ≤ n) (vb : Nat) (sv : Value) (zs : List Int) (hlen : zs.length ≤ 1000) (w : World)
    (hvb : vb < w.heap.size) (hvc : w.cell? ⟨vb, 0, none⟩ = some sv) (hI : Ints w.heap.size w sv zs) :
    CallsIn F n Tryz.prog 253 #[.slice none 0 0, .func (.func 240) #[] #[.pointer (some ⟨vb, 0, none⟩)]] w fun e W' =>
      ∃ v, e = .returned v ∧ W'.ownsRow w.heap.size 3 1 v zs.length (zs.map (Value.int .i64)) ∧ (v = .slice none 0 0 ↔ zs = []) ∧ Below w.heap.size w W' := by
  have h1 : 1 ≤ n := by omega
  obtain ⟨i0, hi, hz0, hz1, hz2⟩ := info_parts infoI
  refine callsIn_of_wp_marks Tryz.func253 rfl h3 ?_ hro
  simp only [Tryz.ntmps253, List.size_toArray, List.length_cons, List.length_nil, Nat.reduceAdd, Nat.reduceSub, Array.replicate_succ, Array.replicate_zero, List.push_toArray, List.append_toArray, List.nil_append, List.cons_append]
  gi_wp2
  have bO := Boxed.new w 179 (.slice none 0 0)
  have hB0 : Below w.heap.size w (w.alloc (.cells #[.slice none 0 0] 179)) := (Below.refl _ w).alloc (Nat.le_refl _) _
  refine wpIn_rangeFunc_ownG hro h1 (gf := 240) (lb := #[.pointer (some ⟨vb, 0, none⟩)]) rfl h7 (enters_of Tryz.func240 (by kernel_rfl) rfl)
    (values_stops F (n - 1) h7 hro (by omega) vb w.heap.size sv zs (by omega) _ (by simp; omega) (by simp) ((hB0.cell (p := ⟨vb, 0, none⟩) hvb).trans hvc) (hI.below hB0)) belowK_t (belowK_b (by simp)) (Below.refl _ _) (fun _ => rfl)
    (fun pre W => (∃ v, Boxed W w.heap.size 179 v ∧ W.ownsRow w.heap.size 3 1 v pre.length (pre.map (Value.int .i64)) ∧ (v = .slice none 0 0 ↔ pre = [])) ∧ Below w.heap.size w W)
    (fun _ _ _ => False)
    (OwnFrom.and (Own.from (holdsRow_own w.heap.size w.heap.size 179 3 1 (fun pre : List Int => pre.length) (fun pre => pre.map (Value.int .i64)) (fun pre v => v = .slice none 0 0 ↔ pre = [])) _) (ownFrom_below (Nat.le_refl _) (by simp)))
    (fun _ _ _ _ _ hs _ _ => hs)
    ⟨⟨_, bO, World.ownsRow_nil _ _ _ _, by simp⟩, hB0⟩
    (fun x => { tmps := #[.slice none 0 0, .func (.func 240) #[] #[.pointer (some ⟨vb, 0, none⟩)], .pointer (some ⟨w.heap.size, 0, none⟩), undef, .slice none 0 0, .int .i64 x, .func (.func 240) #[] #[.pointer (some ⟨vb, 0, none⟩)], .int .i64 x, undef, undef, undef, undef, undef], defers := [] }) ?assign ?body ?done ?stop
  case assign =>
    intro l x W K hK
    gi_wp2
    exact hK
  case body =>
    rintro l pre x W ⟨⟨v, hv, hrow, hnil⟩, hB⟩ hlt
    have hc := hv.cell
    gi_wp2_with (gi_at_builtin; refine wpListIn_append_own _ rfl _ _ 179 rfl w.heap.size 3 i0 (.int .i64 0) 1 8 Tryz.underlying179 hi hz0 hz1 hz2 rfl (by decide) _ _ _ rfl (hrow.alloc _) ⟨W.heap.size, 0, none⟩ 1 1 [.int .i64 x] rfl rfl (cell_one_new _ _ _) (by simp [Value.oneCell']) (by unfold maxLen; omega) (by omega) (by have := hB.size; simp; omega) ?_; intro v' w1 hown' hgrow _; obtain ⟨g', cap', rfl⟩ := ownsRow_succ hown'; obtain ⟨hv1, hv2, hr2, hk2, hb2⟩ := hv.appended (by decide) hrow hB.size (Nat.le_refl _) hown' hgrow; have hc1 := hv1.cell; have hf1 := hv1.frozen)
    exact ⟨hk2.from _, hb2, ⟨_, hv2, by simpa using hr2, by simp⟩, hB.trans hb2⟩
  case done =>
    rintro D ys W hD rfl ⟨⟨v, hv, hrow, hnil⟩, hB⟩ hK
    have hc := hv.cell
    gi_wp2
    refine ⟨by simp, .inl ⟨_, _, rfl, run_takeDeferred hK, ?_⟩⟩
    exact ⟨_, results_tmp rfl _ _ _, v, rfl, ownsRow_putObj hrow _ hK rfl, hnil, hB.trans (belowK_b (w := w) (Nat.le_refl _) W D _ _ (by simp at hD; omega) hK rfl rfl)⟩
  case stop =>
    rintro D c pre W _ _ h _
    exact h.elim
end Go.Proofs.YtmioiaeiflbmhaaGreat.It
namespace Go.Proofs.YtmioiaeiflbmhaaGreat.It
open Go Go.RowKit Go.ChangeMaps Go.MapKept Go.Mg Go.Proofs.YtmioiaeiflbmhaaGreat.Hu
theorem values_c (a : Option Addr) (len cap : Nat) (w : World) :
    Calls Tryz.prog 229 #[.slice a len cap] w fun e w' => e = .returned (.func (.func 240) #[] #[.pointer (some ⟨w.heap.size, 0, none⟩)]) ∧ w' = w.alloc (.cells #[.slice a len cap] 179) :=
  callsIn_wide.1 (values_in Fence.wide 3 trivial rfl a len cap w)
def RowPost (w : World) (zs : List Int) (e : Ending) (w' : World) : Prop :=
  ∃ a c, e = .returned (.slice a zs.length c) ∧ OwnR w' 3 1 (.slice a zs.length c) zs.length (zs.map (Value.int .i64)) ∧ (∀ b, (Value.slice a zs.length c).ownBlock = some b → w.heap.size ≤ b) ∧ Kp (fun _ => False) w w'
theorem appendSeq_c (vb : Nat) (sv : Value) (zs : List Int) (hlen : zs.length ≤ 1000) (w : World) (hvb : vb < w.heap.size) (hvc : w.cell? ⟨vb, 0, none⟩ = some sv) (hI : Ints w.heap.size w sv zs) :
    Calls Tryz.prog 253 #[.slice none 0 0, .func (.func 240) #[] #[.pointer (some ⟨vb, 0, none⟩)]] w (RowPost w zs) :=
  (callsIn_wide.1 (appendSeq_in Fence.wide 3 trivial trivial rfl (by omega) vb sv zs hlen w hvb hvc hI)).mono fun e w' ⟨v, he, ho, _, hb⟩ => by
    obtain ⟨h1, h2⟩ := OwnR.of_owns ho
    obtain ⟨a, c, rfl⟩ := h1.form
    exact ⟨a, c, he, h1, h2, Kp.of_below hb⟩
set_option maxHeartbeats 1000000 in
theorem collect_c (vb : Nat) (sv : Value) (zs : List Int) (hlen : zs.length ≤ 1000) (w : World) (hvb : vb < w.heap.size) (hvc : w.cell? ⟨vb, 0, none⟩ = some sv) (hI : Ints w.heap.size w sv zs) :
    Calls Tryz.prog 238 #[.func (.func 240) #[] #[.pointer (some ⟨vb, 0, none⟩)]] w (RowPost w zs) := by
  have C := Lib.hid (appendSeq_c vb sv zs hlen w hvb hvc hI)
  clear hvc hI
  go_enter Tryz.func238, Tryz.ntmps238
  go_wp2_with fail
  refine C.out.mono ?_
  rintro e w' ⟨a, c, rfl, h⟩
  have H := Lib.hid h
  clear h
  go_wp2_with fail
  go_ret
  exact ⟨a, c, rfl, H.out⟩
theorem zero_oneI : ∀ m, ∀ u ∈ (Builtin.zeroCells (Value.int IntKind.i64 0).cells m).toList, u.oneCell' = true := by
  intro m u hu
  have e : (Builtin.zeroCells (Value.int IntKind.i64 0).cells m).toList = List.replicate m (.int .i64 0) := zeroCells_one _ m
  rw [e] at hu
  rw [(List.mem_replicate.1 hu).2]
  rfl
theorem own_any (a : Option Addr) (n c m d : Nat) : (Value.slice a n c).ownBlock = (Value.slice a m d).ownBlock := by cases a <;> rfl
theorem OwnR.upto0 {w : World} {e : TypeId} {n cap : Nat} {a : Option Addr} {xs : List Value} (h : OwnR w e 1 (.slice a n cap) n xs) (h0 : 0 < n) : OwnR w e 1 (.slice a 0 cap) 0 [] := by
  rcases h.2 with ⟨_, h1⟩ | ⟨g, c, cur, fr, e1, hg, hfr, h1, h2, h3, h4⟩
  · omega
  · simp only [Value.slice.injEq, true_and] at e1
    obtain ⟨rfl, rfl⟩ := e1
    exact ⟨rfl, .inr ⟨g, cap, cur, fr, rfl, hg, hfr, Nat.zero_le _, h2, h3, by simp⟩⟩
set_option maxRecDepth 100000 in
set_option maxHeartbeats 1000000 in
theorem grow_c (n : Nat) (h0 : 0 < n) (hn : n ≤ 1000) (w : World) :
    Calls Tryz.prog 241 #[.slice none 0 0, .int .i64 (n : Nat)] w fun e w' => ∃ a c, e = .returned (.slice a 0 c) ∧ OwnR w' 3 1 (.slice a 0 c) 0 [] ∧ (∀ b, (Value.slice a 0 c).ownBlock = some b → w.heap.size ≤ b) ∧ Kp (fun _ => False) w w' := by
  obtain ⟨j0, hj0, hy0, hy1, hy2⟩ := info_parts infoI
  have HN := Lib.hid (OwnR.nil w 3 1)
  have hnp : 0 < n := h0
  go_enter Tryz.func241, Tryz.ntmps241
  go_wp2_with (at_builtin; go_must (refine wpList_appz _ rfl _ _ 179 3 rfl 3 j0 (.int .i64 0) .i64 1 8 Tryz.underlying179 Tryz.underlying3 hj0 hy0 hy1 hy2 rfl (by decide) (by decide) zero_oneI (.slice none 0 0) 0 [] rfl HN.out .i64 n rfl (by omega) ?_; intro v' w2 g1 g2 g3 g4 g5; rw [Nat.zero_add, List.nil_append] at g1; obtain ⟨b1, d1, rfl⟩ := g1.form; have G1 := Lib.hid g1; have G2 := Lib.hid g2; have G3 := Lib.hid g3; have hle : (0:Int) ≤ n := (by omega); clear g1 g2 g3 g4 g5))
  go_ret
  refine ⟨b1, d1, rfl, OwnR.upto0 G1.out h0, fun b hb => ?_, G2.out.mono (fun k _ e => by cases e)⟩
  have hb' : (Value.slice b1 n d1).ownBlock = some b := (own_any b1 n d1 0 d1).trans hb
  rcases G3.out with q | q
  · rw [hb'] at q; cases q
  · rw [hb'] at q; simp at q; omega
def CatPost (w : World) (n : Nat) (xs : List Value) (e : Ending) (w' : World) : Prop :=
  ∃ a c, e = .returned (.slice a n c) ∧ OwnR w' 3 1 (.slice a n c) n xs ∧ (∀ b, (Value.slice a n c).ownBlock = some b → w.heap.size ≤ b) ∧ Kp (fun _ => False) w w'
def part (k n1 n2 : Nat) : Nat := match k with
  | 0 => 0
  | 1 => n1
  | _ => n1 + n2
set_option maxRecDepth 100000 in
set_option maxHeartbeats 1000000 in
theorem concat_c (g : Nat) (a1 a2 : Option Addr) (c1 c2 : Nat) (s1 s2 : List Nat) (w : World) (hg : g < w.heap.size) (h1 : w.cell? ⟨g, 0, none⟩ = some (.slice a1 s1.length c1)) (h2 : w.cell? ⟨g, 1, none⟩ = some (.slice a2 s2.length c2))
    (hs1 : SlR w 1 (.slice a1 s1.length c1) s1.length (s1.map nv)) (hs2 : SlR w 1 (.slice a2 s2.length c2) s2.length (s2.map nv)) (h0 : 0 < s1.length) (hl : s1.length + s2.length ≤ 1000) :
    Calls Tryz.prog 230 #[.slice (some ⟨g, 0, none⟩) 2 2] w (CatPost w (s1.length + s2.length) (s1.map nv ++ s2.map nv)) := by
  obtain ⟨j0, hj0, hy0, hy1, hy2⟩ := info_parts infoI
  have O1 := Lib.hid (nv_one s1)
  have O2 := Lib.hid (nv_one s2)
  have S1 := Lib.hid hs1
  have S2 := Lib.hid hs2
  clear hs1 hs2
  generalize hn1 : s1.length = n1 at *
  generalize hn2 : s2.length = n2 at *
  have HN1 := Lib.hid hn1
  have HN2 := Lib.hid hn2
  clear hn1 hn2
  go_enter Tryz.func230, Tryz.ntmps230
  go_wp2_with fail
  go_loopw [3, 11] (fun z i wr => wr = w ∧ ((i = .int .i64 0 ∧ z = .int .i64 0) ∨ (i = .int .i64 1 ∧ z = .int .i64 (n1 : Nat)) ∨ (i = .int .i64 2 ∧ z = .int .i64 ((n1 : Nat) + (n2 : Nat))))) (fun _ i _ => 2 - (intOf i).toNat)
  case atStart => exact ⟨rfl, .inl ⟨rfl, rfl⟩⟩
  case round =>
    obtain ⟨rfl, ⟨rfl, rfl⟩ | ⟨rfl, rfl⟩ | ⟨rfl, rfl⟩⟩ := hrel
    · go_wp2_with fail
      exact ⟨⟨by first | trivial | rfl, .inr (.inl ⟨by go_num, by go_num⟩)⟩, by simp [intOf]⟩
    · go_wp2_with fail
      exact ⟨⟨by first | trivial | rfl, .inr (.inr ⟨by go_num, by go_num⟩)⟩, by simp [intOf]⟩
    · go_wp2_with fail
      refine (grow_c (n1 + n2) (by omega) hl wr).mono ?_
      rintro e w1 ⟨b, d, rfl, p1, p2, p3⟩
      have P1 := Lib.hid p1
      have P2 := Lib.hid p2
      have P3 := Lib.hid p3
      have d1 := (p3.cell (p := ⟨g, 0, none⟩) hg (fun q => q)).trans h1
      have d2 := (p3.cell (p := ⟨g, 1, none⟩) hg (fun q => q)).trans h2
      have T1 := Lib.hid (S1.out.kp p3 (fun _ _ q => q))
      clear p1 p2 p3
      go_wp2_with fail
      go_loopw [6, 27] (fun v i wx => ∃ a c, Kp (fun _ => False) wr wx ∧ (∀ m, ∀ b, (Value.slice a m c).ownBlock = some b → wr.heap.size ≤ b) ∧ ((i = .int .i64 0 ∧ v = .slice a 0 c ∧ OwnR wx 3 1 (.slice a 0 c) 0 []) ∨ (i = .int .i64 1 ∧ v = .slice a n1 c ∧ OwnR wx 3 1 (.slice a n1 c) n1 (s1.map nv)) ∨ (i = .int .i64 2 ∧ v = .slice a (n1 + n2) c ∧ OwnR wx 3 1 (.slice a (n1 + n2) c) (n1 + n2) (s1.map nv ++ s2.map nv)))) (fun _ i _ => 2 - (intOf i).toNat)
      case atStart => exact ⟨b, d, P3.out, fun m i hi => P2.out i ((own_any b 0 d m d).trans hi), .inl ⟨rfl, rfl, P1.out⟩⟩
      case round =>
        obtain ⟨a, c, hk, hnw, ⟨rfl, rfl, ho⟩ | ⟨rfl, rfl, ho⟩ | ⟨rfl, rfl, ho⟩⟩ := hrel
        all_goals
          have f1 := (hk.cell (p := ⟨g, 0, none⟩) hg (fun q => q)).trans h1
          have f2 := (hk.cell (p := ⟨g, 1, none⟩) hg (fun q => q)).trans h2
          have KX := Lib.hid hk
          have NW := Lib.hid hnw
          have HO := Lib.hid ho
          clear hk hnw ho d1 d2
        · have T := Lib.hid (S1.out.kp KX.out (fun _ _ q => q))
          go_wp2_with (at_builtin; refine wpList_app _ rfl _ _ 179 rfl 3 j0 _ 1 8 Tryz.underlying179 hj0 hy0 hy1 hy2 rfl (by decide) (by decide) (.slice a 0 c) 0 [] rfl HO.out (.slice a1 n1 c1) n1 _ rfl T.out O1.out (by omega) ?_; intro v' w2 g1 g2 g3 g4 g5; rw [Nat.zero_add, List.nil_append] at g1; obtain ⟨b1, e1, rfl⟩ := g1.form; have G1 := Lib.hid g1; have G2 := Lib.hid g2; have G3 := Lib.hid g3; clear g1 g2 g3 g4 g5)
          refine ⟨⟨b1, e1, KX.out.up G2.out (fun i q => NW.out 0 i q), fun m i hi => ?_, .inr (.inl ⟨by go_num, rfl, G1.out⟩)⟩, by simp [intOf]⟩
          have hi' : (Value.slice b1 n1 e1).ownBlock = some i := (own_any b1 n1 e1 m e1).trans hi
          rcases G3.out with q | q
          · exact NW.out 0 i (by rw [← q]; exact hi')
          · rw [hi'] at q; simp at q; have := KX.out.size; omega
        · have T := Lib.hid (S2.out.kp KX.out (fun _ _ q => q))
          go_wp2_with (at_builtin; refine wpList_app _ rfl _ _ 179 rfl 3 j0 _ 1 8 Tryz.underlying179 hj0 hy0 hy1 hy2 rfl (by decide) (by decide) (.slice a n1 c) n1 _ rfl HO.out (.slice a2 n2 c2) n2 _ rfl T.out O2.out (by omega) ?_; intro v' w2 g1 g2 g3 g4 g5; obtain ⟨b1, e1, rfl⟩ := g1.form; have G1 := Lib.hid g1; have G2 := Lib.hid g2; have G3 := Lib.hid g3; clear g1 g2 g3 g4 g5)
          refine ⟨⟨b1, e1, KX.out.up G2.out (fun i q => NW.out n1 i q), fun m i hi => ?_, .inr (.inr ⟨by go_num, rfl, G1.out⟩)⟩, by simp [intOf]⟩
          have hi' : (Value.slice b1 (n1 + n2) e1).ownBlock = some i := (own_any b1 (n1 + n2) e1 m e1).trans hi
          rcases G3.out with q | q
          · exact NW.out n1 i (by rw [← q]; exact hi')
          · rw [hi'] at q; simp at q; have := KX.out.size; omega
        · go_wp2_with fail
          go_ret
          exact ⟨a, c, rfl, HO.out, fun b hb => NW.out _ b hb, KX.out⟩
end Go.Proofs.YtmioiaeiflbmhaaGreat.It
