/- The library over numbers: Sorted. The document's huff: joining. The document's huff: lengths. huff: joining. -/
import Derived.Laws.MakeOwn
import Derived.Laws.OwnMore
import Derived.Deep.DeepCutAuto
import Derived.IntWalk
import Derived.Test.YtmioiaeiflbmhaaGreatX12
import Derived.Test.YtmioiaeiflbmhaaGreatX14
import Derived.Test.YtmioiaeiflbmhaaGreatX13
namespace Go.Proofs.YtmioiaeiflbmhaaGreat.It
open Go Go.RowKit Go.ChangeMaps Go.MapKept Go.Mg Go.Sort Go.Proofs.YtmioiaeiflbmhaaGreat.Hu
theorem nats_sorted (s : List Nat) : ∃ ys : List Nat, ys.Perm s ∧ ys.Pairwise (· ≤ ·) ∧ ((s.map fun i : Nat => (i : Int)).mergeSort fun x y => decide (x ≤ y)) = ys.map fun i : Nat => (i : Int) := by
  obtain ⟨zs, hz⟩ : ∃ zs, zs = (s.map fun i : Nat => (i : Int)).mergeSort fun x y => decide (x ≤ y) := ⟨_, rfl⟩
  have hp : zs.Perm (s.map fun i : Nat => (i : Int)) := by rw [hz]; exact List.mergeSort_perm _ _
  have hs : zs.Pairwise fun x y => decide (x ≤ y) = true := by
    rw [hz]
    exact List.pairwise_mergeSort (fun a b c h1 h2 => by simp at *; omega) (fun a b => by simp; omega) _
  have hpos : ∀ z, z ∈ zs → 0 ≤ z := fun z hz' => by
    obtain ⟨i, _, rfl⟩ := List.mem_map.1 (hp.mem_iff.1 hz')
    omega
  refine ⟨zs.map Int.toNat, ?_, ?_, ?_⟩
  · have := hp.map Int.toNat
    rw [List.map_map] at this
    have e : s.map (Int.toNat ∘ fun i : Nat => (i : Int)) = s := by
      have : (Int.toNat ∘ fun i : Nat => (i : Int)) = id := by funext i; simp
      rw [this, List.map_id]
    rwa [e] at this
  · rw [List.pairwise_map]
    exact hs.imp (fun h => by simp at h; omega)
  · rw [← hz, List.map_map]
    have : ∀ z, z ∈ zs → ((fun i : Nat => (i : Int)) ∘ Int.toNat) z = id z := fun z hz' => by have := hpos z hz'; simp; omega
    rw [List.map_congr_left this, List.map_id]
def SrtPost (w : World) (g : Nat) (zs : List Int) (e : Ending) (w' : World) : Prop :=
  e = .returned (.tuple #[]) ∧ ∃ n os, w' = grow (putRow (Value.int .i64) (Sort.ahead w n) g 0 (zs.mergeSort fun x y => decide (x ≤ y)).toArray) os
theorem srt_c (g cap : Nat) (zs : List Int) (w : World) (hH : Holds (Value.int .i64) w g 0 zs.toArray) (hg : g < w.heap.size) (hl : zs.length < 4611686018427387904) :
    Calls Tryz.prog 239 #[.slice (some ⟨g, 0, none⟩) zs.length cap] w (SrtPost w g zs) := AnyM.slices_Sort_int Tryz.sortInts g 0 cap zs w hH hg hl
def SortedPost (w : World) (s : List Nat) (e : Ending) (w' : World) : Prop :=
  ∃ ys : List Nat, ys.Perm s ∧ ys.Pairwise (· ≤ ·) ∧ ∃ a c, e = .returned (.slice a s.length c) ∧ OwnR w' 3 1 (.slice a s.length c) s.length (ys.map nv) ∧ (∀ b, (Value.slice a s.length c).ownBlock = some b → w.heap.size ≤ b) ∧ Kp (fun _ => False) w w'
theorem ints_of {w : World} {a : Option Addr} {c : Nat} {s : List Nat} (h : SlR w 1 (.slice a s.length c) s.length (s.map nv)) (h0 : 0 < s.length) : Ints w.heap.size w (.slice a s.length c) (s.map fun i : Nat => (i : Int)) := by
  obtain ⟨g, off, rfl, hg, hcap, hc⟩ := at_nv h h0
  refine ⟨g, off, c, by simp, hg, fun j hj => ?_⟩
  have hj' : j < s.length := by simpa using hj
  rw [hc j hj']
  simp [hj']
set_option maxRecDepth 100000 in
set_option maxHeartbeats 1000000 in
theorem sorted_c (vb : Nat) (a : Option Addr) (c : Nat) (s : List Nat) (h0 : 0 < s.length) (hlen : s.length ≤ 1000) (w : World) (hvb : vb < w.heap.size) (hvc : w.cell? ⟨vb, 0, none⟩ = some (.slice a s.length c)) (hI : SlR w 1 (.slice a s.length c) s.length (s.map nv)) :
    Calls Tryz.prog 228 #[.func (.func 240) #[] #[.pointer (some ⟨vb, 0, none⟩)]] w (SortedPost w s) := by
  have C := Lib.hid (collect_c vb _ (s.map fun i : Nat => (i : Int)) (by simpa using hlen) w hvb hvc (ints_of hI h0))
  obtain ⟨ys, y1, y2, y3⟩ := nats_sorted s
  have Y1 := Lib.hid y1
  have Y2 := Lib.hid y2
  have Y3 := Lib.hid y3
  clear hvc hI y1 y2 y3
  go_enter Tryz.func228, Tryz.ntmps228
  go_wp2_with fail
  refine C.out.mono ?_
  rintro e w1 ⟨a1, c1, rfl, h1, h2, h3⟩
  obtain ⟨zs, hz⟩ : ∃ zs : List Int, zs = s.map fun i : Nat => (i : Int) := ⟨_, rfl⟩
  have hzl : zs.length = s.length := by rw [hz]; simp
  rw [← hz] at h1 h2 ⊢
  rw [← hz] at Y3
  obtain ⟨g, eg, hcap, hat⟩ := h1.at1 (by omega)
  subst eg
  have hH : Holds (Value.int .i64) w1 g 0 zs.toArray := by
    intro j hj
    have hj' : j < zs.length := by simpa using hj
    obtain ⟨q1, q2, _⟩ := hat j hj'
    rw [Nat.zero_add]
    refine ⟨q1 _ ?_, q2⟩
    rw [List.getElem?_map, List.getElem?_eq_getElem hj', getElem!_pos _ j hj]
    simp
  have hg : g < w1.heap.size := h1.lt rfl
  have HC := Lib.hid (srt_c g c1 zs w1 hH hg (by omega))
  have H1 := Lib.hid h1
  have H2 := Lib.hid h2
  have H3 := Lib.hid h3
  have HZ := Lib.hid hzl
  clear h1 h2 h3 hH hat hz hzl
  go_wp2_with fail
  refine Calls.mono HC.out ?_
  rintro e w' ⟨rfl, n, os, rfl⟩
  rw [Y3.out]
  have hyl : ys.length = zs.length := by rw [HZ.out]; exact Y1.out.length_eq
  have k2 := sorted_kp (Value.int .i64) w1 g n 0 (ys.map fun i : Nat => (i : Int)).toArray os
  have o2 := H1.out.sortedI (k := n) (ys.map fun i : Nat => (i : Int)) (by simpa using hyl) os
  generalize grow (putRow (Value.int .i64) (Sort.ahead w1 n) g 0 (ys.map fun i : Nat => (i : Int)).toArray) os = w2 at k2 o2 ⊢
  have K2 := Lib.hid k2
  have O2 := Lib.hid o2
  clear k2 o2 hyl
  go_wp2_with fail
  go_ret
  have o3 := O2.out
  rw [List.map_map] at o3
  refine ⟨ys, Y1.out, Y2.out, some ⟨g, 0, none⟩, c1, by rw [← HZ.out]; rfl, ?_, fun b hb => ?_, H3.out.up K2.out (fun i e => by rw [e]; exact H2.out g rfl)⟩
  · rw [← HZ.out]; exact o3
  · exact H2.out b ((own_any _ _ _ _ _).trans hb)
theorem values_o (a : Option Addr) (len cap : Nat) (w : World) :
    Calls Tryz.prog 229 #[.slice a len cap] w fun e w' => ∃ vb, e = .returned (.func (.func 240) #[] #[.pointer (some ⟨vb, 0, none⟩)]) ∧ vb < w'.heap.size ∧ w'.cell? ⟨vb, 0, none⟩ = some (.slice a len cap) ∧ Kp (fun _ => False) w w' :=
  (values_c a len cap w).mono fun e w' ⟨he, hw⟩ => ⟨w.heap.size, he, by rw [hw]; simp, by rw [hw, cell_of (alloc_at w _)]; rfl, by rw [hw]; exact (Kp.refl _ _).alloc _⟩
end Go.Proofs.YtmioiaeiflbmhaaGreat.It
namespace Go.Proofs.YtmioiaeiflbmhaaGreat.Hu
open Go Go.RowKit Go.ChangeMaps Go.MapKept Go.Mg Go.Hf Go.Sort
theorem make_ints (w : World) (n : Nat) (hn : n ≤ 1000) : ∃ cur : Array Value, cur.toList = List.replicate n (nv 0) ∧
    (Instr.makeSlice 179 (.int .i64 (n : Nat)) (.int .i64 (n : Nat))).run Tryz.prog w = .ok (.slice (some ⟨w.heap.size, 0, none⟩) n n) (w.alloc (.cells cur 3)) := by
  obtain ⟨i0, hi0, hz0, hz1, hz2⟩ := info_parts infoI
  have h := run_make (P := Tryz.prog) w 179 3 i0 _ Tryz.underlying179 hi0 hz0 .i64 .i64 (n : Int) (n : Int) (by omega) (by omega) (by rw [hz2]; omega) (by omega)
  rw [hz1] at h
  refine ⟨_, ?_, h⟩
  show (madeCells #[_] _).toList = _
  rw [toList_madeCells_one]
  simp [nv]
theorem Lo.made {w : World} {n : Nat} {cur : Array Value} (hn : n ≤ 1000) (hc : cur.toList = List.replicate n (nv 0)) : Lo w.heap.size (w.alloc (.cells cur 3)) (.slice (some ⟨w.heap.size, 0, none⟩) n n) n (fun _ => 0) := by
  have hs : cur.size = n := by rw [← Array.length_toList, hc, List.length_replicate]
  refine ⟨⟨by simp, .inr ⟨_, n, cur, (0, 0), rfl, alloc_at w _, .inl rfl, Nat.le_refl _, by unfold maxLen; omega, by omega, ?_⟩⟩, fun b hb => Nat.le_of_eq (own_b hb).symm⟩
  rw [hc, Nat.mul_one, List.take_of_length_le (by simp)]
  apply List.ext_getElem
  · simp
  · intro i h1 h2; simp
end Go.Proofs.YtmioiaeiflbmhaaGreat.Hu
namespace Go.Proofs.YtmioiaeiflbmhaaGreat.Hu
open Go Go.RowKit Go.ChangeMaps Go.MapKept Go.Mg Go.Hf Go.Sort
def LensPost (w : World) (cs : List Nat) (e : Ending) (w' : World) : Prop :=
  ∃ (L : Nat → Nat) (a : Option Addr) (c : Nat), e = .returned (.slice a cs.length c) ∧ IsLens cs L ∧ Lo w.heap.size w' (.slice a cs.length c) cs.length L ∧ Kp (fun _ => False) w w'
def rowSum (w : World) (v : Value) (n : Nat) : Nat := ((List.range n).map fun i => match v with
  | .slice (some ⟨g, off, _⟩) _ _ => (match w.cell? ⟨g, off + i, none⟩ with | some (.int _ x) => x.toNat | _ => 0)
  | _ => 0).sum
theorem rowSum_eq {w : World} {a : Option Addr} {c : Nat} {cs : List Nat} (h : SlR w 1 (.slice a cs.length c) cs.length (cs.map nv)) : rowSum w (.slice a cs.length c) cs.length = cs.sum := by
  by_cases h0 : 0 < cs.length
  · obtain ⟨g, off, rfl, _, _, hc⟩ := at_nv h h0
    unfold rowSum
    congr 1
    apply List.ext_getElem
    · simp
    · intro i h1 h2
      simp only [List.getElem_map, List.getElem_range]
      rw [hc i h2]
      simp
  · have : cs = [] := List.eq_nil_of_length_eq_zero (by omega)
    subst this
    rfl
theorem half_set {cs : List Nat} {j : Nat} (hj : j < cs.length) : (((cs.take j).map half ++ cs.drop j).map nv).set j (nv (half cs[j])) = ((cs.take (j + 1)).map half ++ cs.drop (j + 1)).map nv := by
  rw [← List.map_set]
  congr 1
  have e : ((cs.take j).map half).length = j := by simp; omega
  rw [List.set_append_right (h := by omega), e, Nat.sub_self, List.drop_eq_getElem_cons hj, List.set_cons_zero, List.take_succ_eq_append_getElem hj, List.map_append, List.append_assoc]
  rfl
theorem half_at {cs : List Nat} {j : Nat} (hj : j < cs.length) : (((cs.take j).map half ++ cs.drop j).map nv)[j]? = some (nv cs[j]) := by
  rw [List.getElem?_map, List.getElem?_append_right (by simp; omega)]
  simp [Nat.min_eq_left (Nat.le_of_lt hj), hj]
end Go.Proofs.YtmioiaeiflbmhaaGreat.Hu
namespace Go.Proofs.YtmioiaeiflbmhaaGreat.Hu
open Go Go.RowKit Go.ChangeMaps Go.MapKept Go.Mg Go.Hf Go.Sort Go.Proofs.YtmioiaeiflbmhaaGreat.It
def JoinedPost (w : World) (cs : List Nat) (e : Ending) (w' : World) : Prop :=
  ∃ (L : Nat → Nat) (a : Option Addr) (c : Nat), e = .returned (.slice a cs.length c) ∧ Jd cs L ∧ Lo w.heap.size w' (.slice a cs.length c) cs.length L ∧ Kp (fun _ => False) w w'
def JoinP (ta tb : Tr) (ys : List Nat) : Prop := ∃ tc : Tr, Joins ta tb tc ∧ tc.s = ys ∧ IsMin tc.m tc.s ∧ Srt tc
theorem joinP {ta tb : Tr} {ys : List Nat} (mA : IsMin ta.m ta.s) (mB : IsMin tb.m tb.s) (h1 : ys.Perm (ta.s ++ tb.s)) (h2 : ys.Pairwise (· ≤ ·)) : JoinP ta tb ys := by
  refine ⟨⟨ta.n + tb.n, min ta.m tb.m, ys⟩, ⟨rfl, rfl, h1⟩, rfl, ⟨?_, ?_⟩, h2⟩
  · show min ta.m tb.m ∈ ys
    rw [h1.mem_iff, List.mem_append]
    rcases Nat.le_total ta.m tb.m with q | q
    · rw [Nat.min_eq_left q]; exact .inl mA.1
    · rw [Nat.min_eq_right q]; exact .inr mB.1
  · intro i hi
    show min ta.m tb.m ≤ i
    rcases List.mem_append.1 (h1.mem_iff.1 hi) with q | q
    · exact Nat.le_trans (Nat.min_le_left _ _) (mA.2 i q)
    · exact Nat.le_trans (Nat.min_le_right _ _) (mB.2 i q)
def JoinAtP (e : TypeId) (W : World) (ta tb : Tr) (s : Value) (w' : World) : Prop :=
  ∃ tc : Tr, Joins ta tb tc ∧ IsMin tc.m tc.s ∧ Srt tc ∧ tc.s.length = ta.s.length + tb.s.length ∧ JoinAt e W (ta.n + tb.n) (ta.s.length + tb.s.length) (tc.s.map nv) s w'
theorem sorted_o (vb : Nat) (a : Option Addr) (c n : Nat) (s : List Nat) (hn : s.length = n) (h0 : 0 < n) (hlen : n ≤ 1000) (w : World) (hvb : vb < w.heap.size) (hvc : w.cell? ⟨vb, 0, none⟩ = some (.slice a n c)) (hI : SlR w 1 (.slice a n c) n (s.map nv)) :
    Calls Tryz.prog 228 #[.func (.func 240) #[] #[.pointer (some ⟨vb, 0, none⟩)]] w fun e w' =>
      ∃ ys : List Nat, ys.Perm s ∧ ys.Pairwise (· ≤ ·) ∧ ∃ a c, e = .returned (.slice a n c) ∧ OwnR w' 3 1 (.slice a n c) n (ys.map nv) ∧ (∀ b, (Value.slice a n c).ownBlock = some b → w.heap.size ≤ b) ∧ Kp (fun _ => False) w w' := by
  subst hn
  exact sorted_c vb a c s h0 hlen w hvb hvc hI
theorem leaf_srt (i c : Nat) : Srt (leaf i c) := by simp [Srt, leaf]
set_option maxRecDepth 100000 in
set_option maxHeartbeats 6000000 in
theorem joined_c (w : World) (cs : List Nat) (a : Option Addr) (c : Nat) (h : SlR w 1 (.slice a cs.length c) cs.length (cs.map nv)) (hlen0 : cs.length ≤ 256) (hS : cs.sum ≤ 1125899906842624) :
    Calls Tryz.prog 212 #[.slice a cs.length c] w (JoinedPost w cs) := by
  have mixed : Tryz.prog.follows .mixedOrders = true := by kernel_rfl
  obtain ⟨cur, hcur, hmk⟩ := make_ints w cs.length (by omega)
  have L0 := Lib.hid (Lo.made (w := w) (n := cs.length) (by omega) hcur)
  have K0 : Hid (Kp (fun _ => False) w (w.alloc (.cells cur 3))) := Lib.hid ((Kp.refl _ _).alloc _)
  have HS := Lib.hid hS
  have HC := Lib.hid h
  clear h hcur hS
  go_enter Tryz.func212, Tryz.ntmps212
  go_wp2_with fail
  generalize hW : w.alloc (.cells cur 3) = W at L0 K0 ⊢
  have hwW : w.heap.size < W.heap.size := by rw [← hW]; simp
  clear hmk hW
  obtain ⟨i0, hi0, hz0, hz1, hz2⟩ := info_parts infoR
  obtain ⟨j0, hj0, hy0, hy1, hy2⟩ := info_parts infoI
  go_loopw [4, 15] (fun l i wr => ∃ (k : Nat) (Fs : List (Tr × Value)) (aL : Option Addr) (cL : Nat), k ≤ cs.length ∧ i = .int .i64 k ∧ l = .slice aL Fs.length cL ∧ Fo w.heap.size wr 272 (.slice aL Fs.length cL) Fs ∧ Fs.map (·.1) = forest (cs.take k) ∧ Fs.length ≤ k ∧ (∀ p, p ∈ Fs → Srt p.1) ∧
    Lo w.heap.size wr (.slice (some ⟨w.heap.size, 0, none⟩) cs.length cs.length) cs.length (fun _ => 0) ∧ Apart (.slice (some ⟨w.heap.size, 0, none⟩) cs.length cs.length) (.slice aL Fs.length cL) Fs ∧ Kp (fun _ => False) w wr ∧ w.heap.size < wr.heap.size) (fun _ i _ => cs.length - (intOf i).toNat)
  case atStart => exact ⟨0, [], none, 0, Nat.zero_le _, rfl, rfl, Fo.nil _ _ _, rfl, Nat.le_refl _, (fun p hp => by cases hp), L0.out, fun b hb => ⟨(by simp [Value.ownBlock]), fun p hp => by cases hp⟩, K0.out, hwW⟩
  case round =>
    obtain ⟨k, Fs, aL, cL, hk, rfl, rfl, hF, hm, hfl, hsr, hL, hA, hkp, hwr⟩ := hrel
    have HSR := Lib.hid hsr
    clear hsr
    have HF := Lib.hid hF
    have HM := Lib.hid hm
    have HL := Lib.hid hL
    have HA := Lib.hid hA
    have HK := Lib.hid hkp
    clear hF hm hL hA hkp
    by_cases hlt : k < cs.length
    · obtain ⟨g, off, ea, hg, hcap, hc⟩ := at_nv (HC.out.kp HK.out (fun _ _ q => q)) (show 0 < cs.length by omega)
      have d0 := hc k hlt
      clear hc
      obtain ⟨ck, hck⟩ : ∃ ck, ck = cs[k] := ⟨_, rfl⟩
      rw [← hck] at d0
      have hcm : ck ∈ cs := by rw [hck]; exact List.getElem_mem _
      have HCM := Lib.hid (forest_snoc (cs.take k) ck)
      have HT : Hid (cs.take (k + 1) = cs.take k ++ [ck]) := Lib.hid (by rw [hck, List.take_succ_eq_append_getElem hlt])
      have hlk : (cs.take k).length = k := by rw [List.length_take]; omega
      have HLK := Lib.hid hlk
      clear hck hcm hlk
      subst ea
      by_cases hpos : 0 < ck
      · -- a leaf
        have n1 : (wr.alloc (.cells #[.int .i64 (k : Nat)] 3)).heap[wr.heap.size]? = some (.cells #[nv k] 3 (0, 0)) := alloc_at wr _
        obtain ⟨w2, hw2⟩ : ∃ w2, w2 = (wr.alloc (.cells #[.int .i64 (k : Nat)] 3)).alloc (.cells #[.int .i64 (ck : Nat), .slice (some ⟨wr.heap.size, 0, none⟩) 1 1] 272) := ⟨_, rfl⟩
        have k2 : Kp (fun _ => False) wr w2 := by rw [hw2]; exact ((Kp.refl _ _).alloc _).alloc _
        have n1' : w2.heap[wr.heap.size]? = some (.cells #[nv k] 3 (0, 0)) := by rw [hw2]; exact (Below.heap_alloc _ _ _ (by simp)).trans n1
        have n2 : w2.heap[wr.heap.size + 1]? = some (.cells #[.int .i64 ((leaf k ck).n : Nat), .slice (some ⟨wr.heap.size, 0, none⟩) 1 1] 272 (0, 0)) := by
          rw [hw2]; have := alloc_at (wr.alloc (.cells #[.int .i64 (k : Nat)] 3)) (.cells #[.int .i64 (ck : Nat), .slice (some ⟨wr.heap.size, 0, none⟩) 1 1] 272); rwa [World.size_alloc] at this
        have hs2 : w2.heap.size = wr.heap.size + 2 := by rw [hw2]; simp
        have T2 := leaf_tv (i := k) (c := ck) n1'
        have F2 := HF.out.kp k2 (fun _ _ q => q) (fun _ _ _ _ q => q)
        have S2 := one_sl (t := leaf k ck) n2
        have TT := Lib.hid T2
        have FF := Lib.hid F2
        have SS := Lib.hid S2
        have KK := Lib.hid k2
        have O2 := Lib.hid (E_one1 T2)
        clear n1 n1' n2 k2 T2 F2 S2
        have hb32 : (Fs.length + 1) * 32 ≤ 140737488355328 := by omega
        go_wp2_with (at_builtin; rw [← hw2]; refine wpList_appO _ rfl _ _ 270 rfl 272 i0 _ 2 32 Tryz.underlying270 hi0 hz0 hz1 hz2 rfl (by decide) (by decide) (.slice aL Fs.length cL) Fs.length _ rfl FF.out.row (.slice (some ⟨wr.heap.size + 1, 0, none⟩) 1 1) 1 _ rfl SS.out O2.out hb32 ?_; intro v' w3 g1 g2 g3 g4 g5; obtain ⟨b1, d1, rfl⟩ := g1.form; have G1 := Lib.hid g1; have G2 := Lib.hid g2; have G3 := Lib.hid g3; clear g1 g2 g3 g4 g5)
        have P3 := FF.out.push (by omega) TT.out (fun b hb q => by have h1 := own_b hb; have := HF.out.row.lt q; omega) G1.out G2.out G3.out
        refine ⟨⟨k + 1, Fs ++ [(leaf k ck, .slice (some ⟨wr.heap.size, 0, none⟩) 1 1)], b1, d1, by omega, by go_num, by simp, by simpa using P3, ?_, by simp; omega, ?_, ?_, ?_, ?_, ?_⟩, by simp [intOf]; omega⟩
        · rw [HT.out, HCM.out, List.map_append, HM.out, HLK.out, if_pos hpos]; rfl
        · intro p hp
          rcases List.mem_append.1 hp with hp | hp
          · exact HSR.out p hp
          · rw [List.mem_singleton] at hp; subst hp; exact leaf_srt _ _
        · exact (HL.out.kp KK.out (fun _ _ q => q)).kp G2.out (fun b hb q => (HA.out b hb).1 q)
        · intro b hb
          have e := own_b hb
          subst e
          refine ⟨fun q => ?_, fun p hp q => ?_⟩
          · rw [List.length_append] at q
            rcases G3.out with q' | q'
            · exact (HA.out _ hb).1 (q'.symm.trans q)
            · have q'' := q'.symm.trans q; simp at q''; omega
          · rcases List.mem_append.1 hp with hp | hp
            · exact (HA.out _ hb).2 p hp q
            · rw [List.mem_singleton] at hp; subst hp
              have := own_b q; omega
        · exact (HK.out.trans KK.out).up G2.out (fun i q => HF.out.new i q)
        · have := G2.out.size; omega
      · obtain rfl : ck = 0 := by omega
        go_wp2_with fail
        refine ⟨⟨k + 1, Fs, aL, cL, by omega, by go_num, rfl, HF.out, ?_, by omega, HSR.out, HL.out, HA.out, HK.out, hwr⟩, by simp [intOf]; omega⟩
        rw [HT.out, HCM.out, HM.out]
        simp
    · obtain rfl : k = cs.length := by omega
      have hforest : Fs.map (·.1) = forest cs := by rw [HM.out, List.take_length]
      have HFO := Lib.hid hforest
      clear HM hforest
      by_cases h1 : Fs.length = 1
      · obtain ⟨p, rfl⟩ : ∃ p, Fs = [p] := List.length_eq_one_iff.1 h1
        obtain ⟨t, v⟩ := p
        obtain ⟨g, off, ea, hg, hcap, hc⟩ := at_E HF.out.row.sl (by simp)
        obtain ⟨d0, d1⟩ := hc 0 (by simp)
        have ht : t ∈ forest cs := by rw [← HFO.out]; simp
        obtain ⟨j, hj, et, _⟩ := mem_forestFrom ht
        rw [Nat.zero_add] at et
        obtain ⟨xa, xc, ev, hxs, _, _⟩ := HF.out.trees _ (List.mem_singleton.2 rfl)
        simp only at ev
        have hs1 : t.s = [j] := by rw [et]; rfl
        simp only [ev, hs1] at hxs
        obtain ⟨g2, off2, ex, hg2, hcap2, hc2⟩ := at_nv (s := [j]) hxs (by simp)
        have e0 := hc2 0 (by simp)
        simp only [ex, ev, hs1, List.length_singleton, List.getElem_cons_zero, Nat.zero_mul, Nat.add_zero] at d0 d1 e0 hcap2
        subst ea
        obtain ⟨g3, eg3, hg3, _, _, f0, f1, f2, f3⟩ := HL.out.at_ hj
        simp only [Option.some.injEq, Addr.mk.injEq, and_true] at eg3
        subst eg3
        have hj' : j < cs.length := hj
        have HTM : Hid (t.m = j) := Lib.hid (by rw [et]; rfl)
        have F2 := Lib.hid f2
        have F3 := Lib.hid f3
        clear hc hc2 f2 f3 ht et ev hs1 hxs
        simp only [List.length_singleton] at h1 hcap
        go_wp2_with fail
        go_ret
        refine ⟨bump [j] (fun _ => 0), _, _, rfl, .inl ⟨t, by rw [← HFO.out]; rfl, ?_⟩, F2.out, (HK.out.trans2 F3.out (fun i hi e => by omega))⟩
        rw [bump_one, HTM.out]
      · have hst : Fst cs.length cs.sum (forest cs) (Fs.map (·.1)) (fun _ => 0) := by rw [HFO.out]; exact Fst.start cs
        have ST := Lib.hid hst
        have h1' : ((Fs.length : Int) == 1) = false := by rw [beq_eq_false_iff_ne]; omega
        have H1 : Hid ((forest cs).length ≠ 1) := Lib.hid (by rw [← HFO.out, List.length_map]; exact h1)
        clear hst
        go_wp2_with fail
        go_loopw [4] (fun l wr => ∃ (Fs : List (Tr × Value)) (L : Nat → Nat) (aL : Option Addr) (cL : Nat), l = .slice aL Fs.length cL ∧ Fo w.heap.size wr 272 (.slice aL Fs.length cL) Fs ∧ (∀ p, p ∈ Fs → Srt p.1) ∧ Fst cs.length cs.sum (forest cs) (Fs.map (·.1)) L ∧
          Lo w.heap.size wr (.slice (some ⟨w.heap.size, 0, none⟩) cs.length cs.length) cs.length L ∧ Apart (.slice (some ⟨w.heap.size, 0, none⟩) cs.length cs.length) (.slice aL Fs.length cL) Fs ∧ Kp (fun _ => False) w wr ∧ w.heap.size < wr.heap.size) (fun l _ => lenOf l)
        case atStart => exact ⟨Fs, _, aL, cL, rfl, HF.out, HSR.out, ST.out, HL.out, HA.out, HK.out, hwr⟩
        case round =>
          clear HFO HF HL HA HK ST HSR h1 h1'
          obtain ⟨Gs, L, bL, dL, rfl, hF, hsr, hst, hL, hA, hkp, hwr⟩ := hrel
          have HF := Lib.hid hF
          have HSR := Lib.hid hsr
          have ST := Lib.hid hst
          have HL := Lib.hid hL
          have HA := Lib.hid hA
          have HK := Lib.hid hkp
          clear hF hsr hst hL hA hkp
          by_cases h1 : 1 < Gs.length
          · have hlg : Gs.length ≤ 256 := by have := ST.out.len 0; simp at this; omega
            obtain ⟨gl, ol, el, hgl, hcl, _⟩ := at_E HF.out.row.sl (by omega)
            subst el
            go_wp2_with fail
            refine (sort_c wr gl ol dL Gs HF.out HSR.out (by omega) (by omega)).mono ?_
            rintro e w1 ⟨rfl, Hs, hperm, hF, hpair, hk1⟩
            have hlen : Hs.length = Gs.length := hperm.length_eq
            have hsr : ∀ p, p ∈ Hs → Srt p.1 := fun p hp => HSR.out p (hperm.mem_iff.1 hp)
            have hst := ST.out.perm (hperm.symm.map (·.1))
            have hglo : gl ≠ w.heap.size := fun e => (HA.out w.heap.size rfl).1 (by rw [e]; rfl)
            have hglB : w.heap.size ≤ gl := HF.out.new gl rfl
            have hL : Lo w.heap.size w1 (.slice (some ⟨w.heap.size, 0, none⟩) cs.length cs.length) cs.length L := HL.out.kp hk1 (fun b hb e => by have := own_b hb; omega)
            have hA : ∀ p, p ∈ Hs → p.2.ownBlock ≠ some w.heap.size := fun p hp => (HA.out w.heap.size rfl).2 p (hperm.mem_iff.1 hp)
            have hk : Kp (fun _ => False) w w1 := HK.out.up hk1 (fun i e => by rw [e]; exact hglB)
            have hw1 : w.heap.size < w1.heap.size := Nat.lt_of_lt_of_le hwr hk1.size
            have hgl1 : gl < w1.heap.size := Nat.lt_of_lt_of_le hgl hk1.size
            have hF0 : Fo w.heap.size w1 272 (.slice (some ⟨gl, ol, none⟩) Hs.length dL) Hs := by rw [hlen]; exact hF
            obtain ⟨nl, hnl⟩ : ∃ nl, nl = Gs.length := ⟨_, rfl⟩
            rw [← hnl] at hF hcl h1 hlg hlen ⊢
            have HNL := Lib.hid hnl
            clear hnl
            have hn0 : 0 < nl := by omega
            have hnz0 : (0 : Int) < (nl : Int) := by omega
            have hnz1 : (1 : Int) < (nl : Int) := by omega
            clear HF HSR ST HL HA HK hperm hk1
            obtain ⟨⟨ta, va⟩, Rs, rfl⟩ : ∃ p Rs, Hs = p :: Rs := by
              cases Hs with
              | nil => simp at hlen; omega
              | cons p Rs => exact ⟨p, Rs, rfl⟩
            obtain ⟨⟨tb, vb⟩, Qs, rfl⟩ : ∃ p Qs, Rs = p :: Qs := by
              cases Rs with
              | nil => simp at hlen; omega
              | cons p Qs => exact ⟨p, Qs, rfl⟩
            obtain ⟨g', o', eg, _, _, hc⟩ := at_E hF0.row.sl (by simp)
            simp only [Option.some.injEq, Addr.mk.injEq, and_true] at eg
            obtain ⟨rfl, rfl⟩ := eg
            obtain ⟨c10, c11⟩ := hc 0 (by simp)
            obtain ⟨c20, c21⟩ := hc 1 (by simp)
            simp only [List.getElem_cons_zero, List.getElem_cons_succ, Nat.zero_mul, Nat.add_zero, Nat.one_mul] at c10 c11 c20 c21
            have hTA := hF.trees (ta, va) (by simp)
            have hTB := hF.trees (tb, vb) (by simp)
            obtain ⟨xa, ya, eva, _⟩ := hTA
            obtain ⟨xb, yb, evb, _⟩ := hTB
            simp only at eva evb
            subst eva
            subst evb
            have hpmT : (((ta, Value.slice xa ta.s.length ya) :: (tb, Value.slice xb tb.s.length yb) :: Qs).map (·.1)).Perm (ta :: tb :: Qs.map (·.1)) := List.Perm.refl _
            obtain ⟨hcn, hcl2⟩ := hst.two hpmT
            have hA1 : ∀ t, t ∈ tb :: Qs.map (·.1) → ¬ Lt t ta := fun t ht => by
              obtain ⟨p, hp, e⟩ := List.mem_map.1 (show t ∈ ((tb, Value.slice xb tb.s.length yb) :: Qs).map (·.1) from ht)
              subst e
              obtain ⟨i, hi, rfl⟩ := List.getElem_of_mem hp
              exact hpair 0 (i + 1) (by omega) (by simp at hi ⊢; omega)
            have hA2 : ∀ t, t ∈ Qs.map (·.1) → ¬ Lt t tb := fun t ht => by
              obtain ⟨p, hp, e⟩ := List.mem_map.1 ht
              subst e
              obtain ⟨i, hi, rfl⟩ := List.getElem_of_mem hp
              exact hpair 1 (i + 2) (by omega) (by simp at hi ⊢; omega)
            have hsA := (hF.trees (ta, .slice xa ta.s.length ya) (by simp)).sl
            have hsB := (hF.trees (tb, .slice xb tb.s.length yb) (by simp)).sl
            have hpA := (hF.trees (ta, .slice xa ta.s.length ya) (by simp)).pos
            have hpB := (hF.trees (tb, .slice xb tb.s.length yb) (by simp)).pos
            obtain ⟨_, _, _, _, mA, _⟩ := hF.trees (ta, .slice xa ta.s.length ya) (by simp)
            obtain ⟨_, _, _, _, mB, _⟩ := hF.trees (tb, .slice xb tb.s.length yb) (by simp)
            have hJ : ∀ ys : List Nat, ys.Perm (ta.s ++ tb.s) → ys.Pairwise (· ≤ ·) → JoinP ta tb ys := fun ys h1 h2 => joinP mA mB h1 h2
            have HJ := Lib.hid hJ
            have HF := Lib.hid hF
            have HSR := Lib.hid hsr
            have ST := Lib.hid hst
            have HL := Lib.hid hL
            have HA := Lib.hid hA
            have HK := Lib.hid hk
            have HA1 := Lib.hid hA1
            have HA2 := Lib.hid hA2
            have SA := Lib.hid hsA
            have SB := Lib.hid hsB
            have hws : IntKind.i64.wrap ((ta.n : Int) + (tb.n : Int)) = (ta.n : Int) + (tb.n : Int) := by rw [IntKind.wrap_i64]; have := HS.out; omega
            have hl8 : ta.s.length + tb.s.length ≤ 256 := Nat.le_trans hcl2 hlen0
            have HLEN := Lib.hid hlen
            clear hF hF0 hsr hst hL hA hk hA1 hA2 hsA hsB mA mB hJ hc hpair hlen hpmT
            have c21' : w1.cell? ⟨gl, ol + 3, none⟩ = some (.slice xb tb.s.length yb) := c21
            have G0 := Lib.hid (Gro.pair 272 w1 (.cells #[.slice xa ta.s.length ya, .slice xb tb.s.length yb] 179))
            have G00 := Lib.hid (Gro.pair2 272 w1 (.cells #[.slice xa ta.s.length ya, .slice xb tb.s.length yb] 179))
            have G01 := Lib.hid (Gro.pair3 272 w1 (.cells #[.slice xa ta.s.length ya, .slice xb tb.s.length yb] 179))
            have bf0 : (w1.drew.alloc (.cells #[.slice xa ta.s.length ya, .slice xb tb.s.length yb] 179)).heap[w1.heap.size]? = some (.cells #[.slice xa ta.s.length ya, .slice xb tb.s.length yb] 179 (0, 0)) := alloc_at w1.drew _
            have bf1 : ((w1.drew.alloc (.cells #[.int .i64 0, .slice none 0 0] 272)).alloc (.cells #[.slice xa ta.s.length ya, .slice xb tb.s.length yb] 179)).heap[w1.heap.size + 1]? = some (.cells #[.slice xa ta.s.length ya, .slice xb tb.s.length yb] 179 (0, 0)) := by have := alloc_at (w1.drew.alloc (.cells #[.int .i64 0, .slice none 0 0] 272)) (.cells #[.slice xa ta.s.length ya, .slice xb tb.s.length yb] 179); rwa [World.size_alloc] at this
            have bf2 : ((w1.drew.alloc (.cells #[.slice xa ta.s.length ya, .slice xb tb.s.length yb] 179)).alloc (.cells #[.int .i64 0, .slice none 0 0] 272)).heap[w1.heap.size]? = some (.cells #[.slice xa ta.s.length ya, .slice xb tb.s.length yb] 179 (0, 0)) := (Below.heap_alloc _ _ _ (by simp)).trans (alloc_at w1.drew _)
            have BF0 := Lib.hid bf0
            have BF1 := Lib.hid bf1
            have BF2 := Lib.hid bf2
            have cells : ∀ V, Kp (fun _ => False) w1 V → (V.cell? ⟨gl, ol, none⟩ = some (.int .i64 (ta.n : Nat)) ∧ V.cell? ⟨gl, ol + 1, none⟩ = some (.slice xa ta.s.length ya)) ∧ V.cell? ⟨gl, ol + 2, none⟩ = some (.int .i64 (tb.n : Nat)) ∧ V.cell? ⟨gl, ol + 3, none⟩ = some (.slice xb tb.s.length yb) := fun V kk =>
              ⟨⟨(kk.cell (p := ⟨gl, ol, none⟩) hgl1 (fun q => q)).trans c10, (kk.cell (p := ⟨gl, ol + 1, none⟩) hgl1 (fun q => q)).trans c11⟩, (kk.cell (p := ⟨gl, ol + 2, none⟩) hgl1 (fun q => q)).trans c20, (kk.cell (p := ⟨gl, ol + 3, none⟩) hgl1 (fun q => q)).trans c21'⟩
            have CE := Lib.hid cells
            obtain ⟨⟨q10, q11⟩, q20, q21⟩ := cells _ G0.out.kp
            obtain ⟨⟨p10, p11⟩, p20, p21⟩ := cells _ G00.out.kp
            obtain ⟨⟨o10, o11⟩, o20, o21⟩ := cells _ G01.out.kp
            obtain ⟨⟨m10, m11⟩, m20, m21⟩ := cells (w1.drew.alloc (.cells #[.int .i64 0, .slice none 0 0] 272)) (((Kp.refl _ _).drew).alloc _)
            have n1 : gl ≠ w1.heap.size := by omega
            have n3 : gl ≠ w1.heap.size + 1 := by omega
            have n1' := n1.symm
            have n3' := n3.symm
            have hmm : ta.s.map nv ++ tb.s.map nv = (ta.s ++ tb.s).map nv := List.map_append.symm
            have HMM := Lib.hid hmm
            clear cells bf0 bf1 bf2 hmm
            have CC0 := Lib.hid (concat_c (w1.heap.size) xa xb ya yb ta.s tb.s ((w1.alloc (.cells #[.slice xa ta.s.length ya, .slice xb tb.s.length yb] 179)).drew) (lt_of_at BF0.out) ((cell_of BF0.out 0).trans rfl) ((cell_of BF0.out 1).trans rfl) (SA.out.kp G0.out.kp (fun _ _ q => q)) (SB.out.kp G0.out.kp (fun _ _ q => q)) hpA (by omega))
            have CC1 := Lib.hid (concat_c (w1.heap.size + 1) xa xb ya yb ta.s tb.s (((w1.alloc (.cells #[.int .i64 0, .slice none 0 0] 272)).alloc (.cells #[.slice xa ta.s.length ya, .slice xb tb.s.length yb] 179)).drew) (lt_of_at BF1.out) ((cell_of BF1.out 0).trans rfl) ((cell_of BF1.out 1).trans rfl) (SA.out.kp G00.out.kp (fun _ _ q => q)) (SB.out.kp G00.out.kp (fun _ _ q => q)) hpA (by omega))
            have CC2 := Lib.hid (concat_c (w1.heap.size) xa xb ya yb ta.s tb.s (((w1.alloc (.cells #[.slice xa ta.s.length ya, .slice xb tb.s.length yb] 179)).alloc (.cells #[.int .i64 0, .slice none 0 0] 272)).drew) (lt_of_at BF2.out) ((cell_of BF2.out 0).trans rfl) ((cell_of BF2.out 1).trans rfl) (SA.out.kp G01.out.kp (fun _ _ q => q)) (SB.out.kp G01.out.kp (fun _ _ q => q)) hpA (by omega))
            go_wp2_with fail
            go_cut [7] (fun s7 wx => JoinAtP 272 w1 ta tb s7 wx)
            case first =>
              go_region_held3 (fun w' => (w'.cell? ⟨gl, ol, none⟩ = some (.int .i64 (ta.n : Nat)) ∧ w'.cell? ⟨gl, ol + 1, none⟩ = some (.slice xa ta.s.length ya)) ∧ w'.cell? ⟨gl, ol + 2, none⟩ = some (.int .i64 (tb.n : Nat)) ∧ w'.cell? ⟨gl, ol + 3, none⟩ = some (.slice xb tb.s.length yb)) (go_keep) ((first
                | (go_simp; go_at_call 230; apply Calls.mono; (with_reducible exact CC0.out); rintro e w3 ⟨ac, cc, rfl, p1, p2, p3⟩; have G3 := Lib.hid (G0.out.call p1 p3 p2); obtain ⟨⟨r10, r11⟩, r20, r21⟩ := CE.out _ G3.out.kp; have n5 : gl ≠ w3.heap.size := (by have := G3.out.kp.size; omega); have n5' := n5.symm; clear p1 p2 p3)
                | (go_simp; go_at_call 230; apply Calls.mono; (with_reducible exact CC1.out); rintro e w3 ⟨ac, cc, rfl, p1, p2, p3⟩; have G3 := Lib.hid (G00.out.call p1 p3 p2); obtain ⟨⟨r10, r11⟩, r20, r21⟩ := CE.out _ G3.out.kp; have n5 : gl ≠ w3.heap.size := (by have := G3.out.kp.size; omega); have n5' := n5.symm; clear p1 p2 p3)
                | (go_simp; go_at_call 230; apply Calls.mono; (with_reducible exact CC2.out); rintro e w3 ⟨ac, cc, rfl, p1, p2, p3⟩; have G3 := Lib.hid (G01.out.call p1 p3 p2); obtain ⟨⟨r10, r11⟩, r20, r21⟩ := CE.out _ G3.out.kp; have n5 : gl ≠ w3.heap.size := (by have := G3.out.kp.size; omega); have n5' := n5.symm; clear p1 p2 p3)
                | (go_simp; go_at_call 229; refine (values_o _ _ _ _).mono ?_; rintro e w4 ⟨vb, rfl, q1, q2, q3⟩; (first | have G4 := Lib.hid (G3.out.later q3) | have G4 := Lib.hid (G3.out.alloc.later q3)); obtain ⟨⟨t10, t11⟩, t20, t21⟩ := CE.out _ G4.out.kp; have n7 : gl ≠ w4.heap.size := (by have := G4.out.kp.size; omega); have n7' := n7.symm; have Q1 := Lib.hid q1; have Q2 := Lib.hid q2; have SC0 := Lib.hid (sorted_o vb ac cc (ta.s.length + tb.s.length) (ta.s ++ tb.s) List.length_append (by omega) (by omega) (w4) Q1.out Q2.out (by have := G4.out.own.sl; rwa [HMM.out] at this)); try (have SC1 := Lib.hid (sorted_o vb ac cc (ta.s.length + tb.s.length) (ta.s ++ tb.s) List.length_append (by omega) (by omega) (w4.alloc (.cells #[.int .i64 0, .slice none 0 0] 272)) (by have := Q1.out; simp; omega) (((Kp.refl (fun _ => False) _).alloc _).cell (p := ⟨vb, 0, none⟩) Q1.out (fun q => q) |>.trans Q2.out) (by have := G4.out.alloc.own.sl; rwa [HMM.out] at this))); clear q1 q2 q3)
                | (go_simp; go_at_call 228; apply Calls.mono; (with_reducible exact SC0.out); rintro e w5 ⟨ys, y1, y2, a5, c5, rfl, r1, r2, r3⟩; have G5 := Lib.hid (G4.out.call r1 r3 r2); have Y1 := Lib.hid y1; have Y2 := Lib.hid y2; obtain ⟨⟨s10, s11⟩, s20, s21⟩ := CE.out _ G5.out.kp; try (have z5 := (G5.out.at_ _ rfl).2; have x50 := (cell_of z5 0); have x51 := (cell_of z5 1); have f50 := free_of z5 0; have f51 := free_of z5 1; simp only [List.getElem?_toArray, List.getElem?_cons_zero, List.getElem?_cons_succ] at x50 x51); clear y1 y2 r1 r2 r3)
                | (go_simp; go_at_call 228; apply Calls.mono; (with_reducible exact SC1.out); rintro e w5 ⟨ys, y1, y2, a5, c5, rfl, r1, r2, r3⟩; have G5 := Lib.hid (G4.out.alloc.call r1 r3 r2); have Y1 := Lib.hid y1; have Y2 := Lib.hid y2; obtain ⟨⟨s10, s11⟩, s20, s21⟩ := CE.out _ G5.out.kp; try (have z5 := (G5.out.at_ _ rfl).2; have x50 := (cell_of z5 0); have x51 := (cell_of z5 1); have f50 := free_of z5 0; have f51 := free_of z5 1; simp only [List.getElem?_toArray, List.getElem?_cons_zero, List.getElem?_cons_succ] at x50 x51); clear y1 y2 r1 r2 r3)))
              all_goals (go_wp2_with fail; go_meet; obtain ⟨tc, j1, j2, j3, j4⟩ := HJ.out ys Y1.out Y2.out; refine ⟨tc, j1, j3, j4, by rw [j2]; exact Y1.out.length_eq.trans List.length_append, ?_⟩; rw [j2, ← Int.natCast_add]; first | exact G5.out.fin_alloc | exact G5.out.fin_set)
            case rest =>
              obtain ⟨tc, hj, hmn, hsr, hlc, g, bC, dC, rfl, hg, hC, hO, hN, hK⟩ := hcut
              rw [← hlc] at hC hO hN
              rw [← hj.n] at hC
              have hTC : Tv wc tc (.slice bC tc.s.length dC) := ⟨bC, dC, rfl, hO.sl, hmn, by omega⟩
              have hltN : ∀ i, i ∈ tc.s → i < cs.length := fun i hi => by
                rcases hj.mem_s.1 hi with q | q
                · exact ST.out.lt ta (by simp) i q
                · exact ST.out.lt tb (by simp) i q
              have hgo : g ≠ w.heap.size := by omega
              have hLx := HL.out.kp hK (fun _ _ q => q)
              have b1 : wc.cell? ⟨g, 1, none⟩ = some (.slice bC tc.s.length dC) := by rw [cell_of hC]; rfl
              have HC1 := Lib.hid hC
              have HTC := Lib.hid hTC
              have HNX := Lib.hid hN
              have HKX := Lib.hid hK
              have HLT := Lib.hid hltN
              have HLC := Lib.hid hlc
              have HJJ := Lib.hid hj
              have HSC := Lib.hid hsr
              have hmc : 0 < tc.s.length := hmn.pos
              have htc6 : tc.s.length ≤ 256 := by omega
              clear hC hO hN hK hTC hltN hlc hj hmn hsr
              go_wp2_with fail
              go_loopw [72] (fun i wr => ∃ (j : Nat), j ≤ tc.s.length ∧ i = .int .i64 j ∧ Lo w.heap.size wr (.slice (some ⟨w.heap.size, 0, none⟩) cs.length cs.length) cs.length (bump (tc.s.take j) L) ∧ Kp (· = w.heap.size) wc wr) (fun i _ => tc.s.length - (intOf i).toNat)
              case atStart => exact ⟨0, Nat.zero_le _, rfl, by rw [List.take_zero, bump_nil]; exact hLx, Kp.refl _ _⟩
              case round =>
                clear hLx
                obtain ⟨j, hj, rfl, hL, hk⟩ := hrel
                have hS2 : SlR wr 1 (.slice bC tc.s.length dC) tc.s.length (tc.s.map nv) := HTC.out.sl.kp hk (fun b hb e => by have := (HNX.out b hb).1; omega)
                obtain ⟨g2, off2, eb, hg2, hcap2, hc2⟩ := at_nv hS2 hmc
                have hg2o : g2 ≠ w.heap.size := by
                  have := (HNX.out g2 (by rw [eb]; rfl)).1
                  omega
                have HLo := Lib.hid hL
                have HKo := Lib.hid hk
                by_cases hlt : j < tc.s.length
                · have hcj := hc2 j hlt
                  have hsN := HLT.out _ (List.getElem_mem hlt)
                  have hBT := Lib.hid (bump_take hlt L)
                  obtain ⟨s, hs⟩ : ∃ s, s = tc.s[j] := ⟨_, rfl⟩
                  rw [← hs] at hcj hsN
                  obtain ⟨g3, eg3, hg3, _, _, f0, f1, f2, f3⟩ := hL.at_ hsN
                  simp only [Option.some.injEq, Addr.mk.injEq, and_true] at eg3
                  subst eg3
                  have hbd : bump (tc.s.take j) L s ≤ 1000 := by
                    have h1 := ST.out.len s
                    have h2 : (tc.s.take j).count s ≤ (tc.s.take j).length := List.count_le_length
                    rw [List.length_take] at h2
                    unfold bump
                    omega
                  obtain ⟨x, hx⟩ : ∃ x, x = bump (tc.s.take j) L s := ⟨_, rfl⟩
                  rw [← hx] at f0 f2 f3 hbd
                  have F2 := Lib.hid f2
                  have F3 := Lib.hid f3
                  have HX := Lib.hid hx
                  have HSS := Lib.hid hs
                  subst eb
                  clear hc2 hS2 f2 f3 hx hs hL hk
                  go_wp2_with fail
                  refine ⟨⟨j + 1, by omega, by go_num, ?_, ?_⟩, by simp [intOf]; omega⟩
                  · rw [hBT.out, ← HSS.out]; exact F2.out
                  · exact HKo.out.trans F3.out
                · obtain rfl : j = tc.s.length := by omega
                  rw [List.take_length] at hL
                  have hbox := cell_of (hk.at_ HC1.out (fun q => hgo q))
                  have hb0 : wr.cell? ⟨g, 0, none⟩ = some (.int .i64 (tc.n : Nat)) := by rw [hbox]; rfl
                  have hb1 : wr.cell? ⟨g, 1, none⟩ = some (.slice bC tc.s.length dC) := by rw [hbox]; rfl
                  have hTr := HTC.out.kp hk (fun b hb e => by have := (HNX.out b hb).1; omega)
                  have hsz2 : w1.heap.size ≤ wr.heap.size := Nat.le_trans HKX.out.size hk.size
                  have hr0 : OwnO wr 272 2 (.slice (some ⟨gl, ol, none⟩) nl dL) nl (((ta, Value.slice xa ta.s.length ya) :: (tb, Value.slice xb tb.s.length yb) :: Qs).flatMap E) := by
                    have := (HF.out.row.kp HKX.out (fun _ _ q => q)).kp hk (fun b hb e => by have := own_b hb; omega)
                    rw [HLEN.out] at this
                    exact this
                  obtain ⟨a4, c4, hsl, ho4, hown4⟩ := hr0.from_ (P := Tryz.prog) Tryz.underlying270 (by kernel_rfl) (show 2 ≤ nl by omega)
                  rw [drop_E] at ho4
                  have hql : nl - 2 = Qs.length := by have := HLEN.out; simp only [List.length_cons] at this; omega
                  rw [hql] at ho4 hown4
                  have hsl' : ∀ w', (Instr.slice 270 (.slice (some ⟨gl, ol, none⟩) nl dL) (some (.int .i64 2)) none none).run Tryz.prog w' = .ok (.slice a4 Qs.length c4) w' := fun w' => by have := hsl w'; rw [hql] at this; exact this
                  have hgl4 : ∀ b, (Value.slice a4 Qs.length c4).ownBlock = some b → b = gl := fun b hb => own_b (hown4 b hb)
                  have hF : Fo w.heap.size wr 272 (.slice a4 Qs.length c4) Qs := ⟨ho4, (fun b hb => by have := hgl4 b hb; omega),
                    (fun p hp => ((HF.out.trees p (by simp [hp])).kp HKX.out (fun _ _ q => q)).kp hk (fun b hb e => HA.out p (by simp [hp]) (by rw [hb, e]))), fun p hp b hb e => HF.out.apart p (by simp [hp]) b hb (hown4 b e)⟩
                  have hst2 := ST.out.step (List.Perm.refl _) HA1.out HA2.out HJJ.out (r' := Qs.map (·.1) ++ [tc]) (List.perm_append_comm (l₁ := Qs.map (·.1)) (l₂ := [tc]))
                  have hkw : Kp (fun _ => False) w wr := (HK.out.trans HKX.out).up hk (fun i e => by rw [e]; exact Nat.le_refl _)
                  obtain ⟨Wd, hWd⟩ : ∃ W, W = wr.drew.alloc (.cells #[.int .i64 (tc.n : Nat), .slice bC tc.s.length dC] 272) := ⟨_, rfl⟩
                  have kd : Kp (fun _ => False) wr Wd := by rw [hWd]; exact ((Kp.refl _ _).drew).alloc _
                  have bd : Wd.heap[wr.heap.size]? = some (.cells #[.int .i64 (tc.n : Nat), .slice bC tc.s.length dC] 272 (0, 0)) := by rw [hWd]; exact alloc_at wr.drew _
                  have hsd : Wd.heap.size = wr.heap.size + 1 := by rw [hWd]; simp
                  have e0 := (kd.cell (p := ⟨g, 0, none⟩) (lt_of_at (hk.at_ HC1.out (fun q => hgo q))) (fun q => q)).trans hb0
                  have e1 := (kd.cell (p := ⟨g, 1, none⟩) (lt_of_at (hk.at_ HC1.out (fun q => hgo q))) (fun q => q)).trans hb1
                  have hgr : g < wr.heap.size := lt_of_at (hk.at_ HC1.out (fun q => hgo q))
                  have hggl : g ≠ gl := by omega
                  have FQ := Lib.hid (hF.kp kd (fun _ _ q => q) (fun _ _ _ _ q => q))
                  have SS := Lib.hid (one_sl bd)
                  have TT := Lib.hid (hTr.kp kd (fun _ _ q => q))
                  have O3 := Lib.hid (E_one1 hTr)
                  have LL := Lib.hid (hL.kp kd (fun _ _ q => q))
                  have KD := Lib.hid kd
                  have KWD := Lib.hid (hkw.trans kd)
                  have SZ := Lib.hid hsd
                  have ST2 := Lib.hid hst2
                  have GL4 := Lib.hid hgl4
                  have HQL := Lib.hid hql
                  have hb32 : (Qs.length + 1) * 32 ≤ 140737488355328 := by omega
                  clear hc2 hS2 hL hk hbox hF hst2 hkw kd bd hsd hTr eb hsl ho4 hown4 hr0 hgl4 hql
                  subst hWd
                  go_wp2_with fail
                  go_region_held3 (fun w' => w'.cell? ⟨g, 0, none⟩ = some (.int .i64 (tc.n : Nat)) ∧ w'.cell? ⟨g, 1, none⟩ = some (.slice bC tc.s.length dC)) (go_keep) ((refine step_appO (wr.drew.alloc (.cells #[.int .i64 (tc.n : Nat), .slice bC tc.s.length dC] 272)) rfl (.tmp 84) (.tmp 86) 270 rfl 272 i0 _ 2 32 Tryz.underlying270 hi0 hz0 hz1 hz2 rfl (by decide) (by decide) (.slice a4 Qs.length c4) Qs.length _ (by simp [Act.eval]) FQ.out.row (.slice (some ⟨wr.heap.size, 0, none⟩) 1 1) 1 _ (by simp [Act.eval]) SS.out O3.out hb32 ?_; intro v' w7 g1 g2 g3 g4 g5; obtain ⟨b7, d7, rfl⟩ := g1.form; have r0 := (g2.cell (p := ⟨g, 0, none⟩) (by simp only; have := SZ.out; omega) (fun q => hggl (GL4.out _ q))).trans e0; have r1 := (g2.cell (p := ⟨g, 1, none⟩) (by simp only; have := SZ.out; omega) (fun q => hggl (GL4.out _ q))).trans e1; have G1 := Lib.hid g1; have G2 := Lib.hid g2; have G3 := Lib.hid g3; clear g1 g2 g3 g4 g5))
                  go_wp2_with fail
                  have hbC : ∀ b, (Value.slice bC tc.s.length dC).ownBlock = some b → b ≠ w.heap.size ∧ w1.heap.size ≤ b := fun b hb => by have h7 := (HNX.out b hb).1; exact ⟨by omega, h7⟩
                  have P3 := FQ.out.push (by have := SZ.out; omega) TT.out (fun b hb q => by have := GL4.out b q; have := (hbC b hb).2; omega) G1.out G2.out G3.out
                  refine ⟨?_, (by have := HQL.out; have := HNL.out; simp [lenOf]; omega)⟩
                  refine ⟨Qs ++ [(tc, .slice bC tc.s.length dC)], bump tc.s L, b7, d7, by simp, by simpa using P3, ?_, by rw [List.map_append]; exact ST2.out, ?_, ?_, ?_, ?_⟩
                  · intro p hp
                    rcases List.mem_append.1 hp with hp | hp
                    · exact HSR.out p (by simp [hp])
                    · rw [List.mem_singleton] at hp; subst hp; exact HSC.out
                  · exact LL.out.kp G2.out (fun b hb e => by have := GL4.out b e; have := own_b hb; omega)
                  · intro b hb
                    have e := own_b hb
                    subst e
                    refine ⟨fun q => ?_, fun p hp q => ?_⟩
                    · rw [List.length_append] at q
                      rcases G3.out with q' | q'
                      · have := GL4.out _ (q'.symm.trans q); omega
                      · have q'' := q'.symm.trans q; simp at q''; omega
                    · rcases List.mem_append.1 hp with hp | hp
                      · exact HA.out p (by simp [hp]) q
                      · rw [List.mem_singleton] at hp; subst hp
                        exact (hbC _ q).1 rfl
                  · exact KWD.out.up G2.out (fun i q => FQ.out.new i q)
                  · have := G2.out.size; have := SZ.out; omega
          · go_wp2_with fail
            go_ret
            exact ⟨L, _, _, rfl, .inr ⟨H1.out, ST.out.done (by simp; omega)⟩, HL.out, HK.out⟩
end Go.Proofs.YtmioiaeiflbmhaaGreat.Hu
