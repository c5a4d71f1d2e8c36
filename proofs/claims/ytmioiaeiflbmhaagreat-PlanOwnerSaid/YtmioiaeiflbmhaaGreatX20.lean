/- The library's iterator Backward over bytes. The program's Encode: what its loop keeps. A region in a round of a range over a function, of what is shown of it elsewhere. The program's Encode. seqs, block: the program's Code, sized. seqs: the program's moved, sized, may. seqs: slices.ContainsFunc of steps that may be. -/
import Derived.RangeFuncWrites
import Derived.OrdersIn
import Derived.OrdersHeld
import Derived.Deep.RegionHeld
import Derived.RangeFuncCalls
import Derived.RangeFuncIn
import Derived.RangeFuncLeaves
import Derived.Test.YtmioiaeiflbmhaaGreatX14
import Derived.Test.YtmioiaeiflbmhaaGreatX17
import Derived.Test.YtmioiaeiflbmhaaGreatX19
import Derived.Test.YtmioiaeiflbmhaaGreatX10
import Derived.Test.YtmioiaeiflbmhaaGreatX12
namespace Go.Proofs.YtmioiaeiflbmhaaGreat.He
open Go Go.RowKit Go.Shelf Go.ChangeMaps Go.MapKept Go.Mg Go.Hf Go.Sort Go.Proofs.YtmioiaeiflbmhaaGreat.Hu Go.Proofs.YtmioiaeiflbmhaaGreat.Bw Go.Proofs.YtmioiaeiflbmhaaGreat.It
attribute [local go_sem] Oper.semAt_some
structure KB (n₀ Bs : Nat) (A B : World) : Prop where
  size : A.heap.size ≤ B.heap.size
  block : ∀ k, k < A.heap.size → (k < n₀ ∨ k = Bs) → B.heap[k]? = A.heap[k]?
theorem KB.refl (n₀ Bs : Nat) (A : World) : KB n₀ Bs A A := ⟨Nat.le_refl _, fun _ _ _ => rfl⟩
theorem KB.trans {n₀ Bs : Nat} {A B C : World} (h : KB n₀ Bs A B) (k : KB n₀ Bs B C) : KB n₀ Bs A C :=
  ⟨Nat.le_trans h.size k.size, fun i hi hn => (k.block i (Nat.lt_of_lt_of_le hi h.size) hn).trans (h.block i hi hn)⟩
theorem KB.cell {n₀ Bs : Nat} {A B : World} (h : KB n₀ Bs A B) {p : Addr} (hp : p.block < A.heap.size) (hn : p.block < n₀ ∨ p.block = Bs) : B.cell? p = A.cell? p :=
  World.cell?_of_block (w := A) (h.block p.block hp hn)
theorem KB.of_below {n₀ Bs : Nat} {A B : World} (h : Below A.heap.size A B) : KB n₀ Bs A B := ⟨h.size, fun k hk _ => h.block k hk⟩
theorem KB.putObj {n₀ Bs : Nat} (W : World) (l : Nat) (o : Obj) (h1 : n₀ ≤ l) (h2 : l ≠ Bs) : KB n₀ Bs W (W.putObj l o) :=
  ⟨by simp [World.putObj], fun k _ hn => World.putObj_heap_other (by omega)⟩
def Rd (n₀ Bs : Nat) (W : World) (a : Option Addr) (cap : Nat) (l : List UInt8) : Prop :=
  (∀ V, KB n₀ Bs W V → V.cell? ⟨Bs, 0, none⟩ = some (.slice a l.length cap)) ∧
  (0 < l.length → ∃ g o, a = some ⟨g, o, none⟩ ∧ l.length ≤ cap ∧ ∀ V, KB n₀ Bs W V → ∀ i, i < l.length → V.cell? ⟨g, o + i, none⟩ = some (.int .u8 (l[i]?.getD 0).toNat))
def bk (l : List UInt8) (j : Nat) : Int × UInt8 := (((l.length - 1 - j : Nat) : Int), l[l.length - 1 - j]?.getD 0)
abbrev enc2 (x : Int × UInt8) : Array Value := #[.int .i64 x.1, .int .u8 (x.2.toNat : Nat)]
set_option maxRecDepth 100000 in
set_option maxHeartbeats 2000000 in
theorem backward1_in (F : Fence) (n : Nat) (h7 : F.fn 232) (hro : F.round = none) (hn : 1 ≤ n) (lp Bs n₀ cap : Nat) (a : Option Addr) (l : List UInt8) (hreach : l.length ≤ 100000) (J Jx : List (Int × UInt8) → World → Prop)
    (hY : ∀ pre x W, J pre W → pre.length < l.length → YieldAt F (n - 1) Tryz.prog lp (enc2 x) W fun e W' =>
      (e = .returned (.bool true) ∧ J (pre ++ [x]) W' ∧ KB n₀ Bs W W') ∨ (e = .returned (.bool false) ∧ Jx (pre ++ [x]) W'))
    (W : World) (hR : Rd n₀ Bs W a cap l) (h0 : J [] W) :
    CallsIn F n Tryz.prog 232 #[.func (.yield lp) #[] #[], .pointer (some ⟨Bs, 0, none⟩)] W fun e W' => (∃ v, e = .returned v) ∧
      ((∃ ys, ys = upto (bk l) l.length ∧ J ys W') ∨ (∃ pre, (∃ k, k ≤ l.length ∧ pre = upto (bk l) k) ∧ Jx pre W')) := by
  have HRB := Lib.hid hR.1
  have HRC := Lib.hid hR.2
  have HBK : Hid (∀ k q, q = l.length - 1 - k → bk l k = (((q : Nat) : Int), l[q]?.getD 0)) := Lib.hid (fun k q e => by subst e; rfl)
  obtain ⟨f, hf⟩ : ∃ f, f = bk l := ⟨_, rfl⟩
  rw [← hf] at HBK ⊢
  have d0 := hR.1 _ (KB.refl _ _ _)
  clear hR hf
  refine callsIn_of_wp Tryz.func232 rfl h7 ?_ hro
  simp only [Tryz.ntmps232, List.size_toArray, List.length_cons, List.length_nil, Nat.reduceAdd, Nat.reduceSub, Array.replicate_succ, Array.replicate_zero, List.push_toArray, List.append_toArray, List.nil_append, List.cons_append]
  obtain ⟨m, hm⟩ : ∃ m, m = l.length := ⟨_, rfl⟩
  rw [← hm] at HRB HRC HBK hY hreach d0 ⊢
  have HM := Lib.hid hm
  clear hm
  gi_wp2
  gi_loopw [3] (fun i wr => ∃ k : Nat, k ≤ m ∧ i = .int .i64 ((m : Int) - 1 - (k : Nat)) ∧ J (upto f k) wr ∧ KB n₀ Bs W wr)
    (fun i _ => (intOf i + 1).toNat)
  case atStart => exact ⟨0, Nat.zero_le _, by simp, h0, KB.refl _ _ _⟩
  case round =>
    obtain ⟨k, hk, rfl, hJs, hnx⟩ := hrel
    have hcx := HRB.out _ hnx
    by_cases hlt : k < m
    · obtain ⟨q, hq⟩ : ∃ q, q = m - 1 - k := ⟨_, rfl⟩
      have hqn : q < m := by omega
      have hqi : ((m : Int) - 1 - (k : Nat)) = (q : Nat) := by omega
      rw [hqi]
      have HQI := Lib.hid hqi
      have HFK := HBK.out k q hq
      clear hqi hq
      obtain ⟨g, o, rfl, hcap, hcells⟩ := HRC.out (by omega)
      have hcq := hcells _ hnx q hqn
      obtain ⟨u, hu⟩ : ∃ u, u = l[q]?.getD 0 := ⟨_, rfl⟩
      rw [← hu] at hcq HFK
      obtain ⟨fn, tmps, assign, body, hy, hR⟩ := hY _ (((q : Nat) : Int), u) wr hJs (by rw [upto_length]; exact hlt)
      dsimp only [enc2] at hy
      clear hcells hu
      gi_wp2
      refine hR.mono ?_
      rintro e W3 (⟨rfl, hJ3, hk3⟩ | ⟨rfl, hJx3⟩)
      · gi_wp2
        go_roundw
        case rel => exact ⟨k + 1, by omega, by have := HQI.out; congr 1; omega, by rw [upto_succ, HFK]; exact hJ3, hnx.trans hk3⟩
        case measure => simp [intOf]; try omega
      · gi_wp2
        refine bodyPost_ret (results_none rfl _ _ _) rfl ?_
        exact ⟨⟨_, rfl⟩, .inr ⟨_, ⟨k + 1, by omega, by rw [upto_succ, HFK]⟩, hJx3⟩⟩
    · obtain rfl : k = m := by omega
      have hi1 : ((k : Int) - 1 - (k : Nat)) = -1 := by omega
      rw [hi1]
      gi_wp2
      go_end0
      exact ⟨⟨_, rfl⟩, .inl ⟨_, rfl, hJs⟩⟩
theorem backward_stops (F : Fence) (n : Nat) (h7 : F.fn 232) (hro : F.round = none) (hn : 1 ≤ n) (Bs n₀ cap : Nat) (a : Option Addr) (l : List UInt8) (hreach : l.length ≤ 100000) (w : World) (hR : Rd n₀ Bs w a cap l) :
    SeqStopsK F n Tryz.prog 232 #[.pointer (some ⟨Bs, 0, none⟩)] enc2 (KB n₀ Bs) (fun ys => ys = upto (bk l) l.length) (fun pre => ∃ k, k ≤ l.length ∧ pre = upto (bk l) k) l.length w := fun lp J Jx W hW _ _ hY h0 =>
  backward1_in F n h7 hro hn lp Bs n₀ cap a l hreach J Jx hY W ⟨fun V hV => hR.1 V ((KB.of_below hW).trans hV), fun h => by
    obtain ⟨g, o, e, h1, h2⟩ := hR.2 h
    exact ⟨g, o, e, h1, fun V hV => h2 V ((KB.of_below hW).trans hV)⟩⟩ h0
set_option maxHeartbeats 1000000 in
theorem backward_in (F : Fence) (n : Nat) (h5 : F.fn 215) (hro : F.round = none) (a : Option Addr) (len cap : Nat) (w : World) :
    CallsIn F n Tryz.prog 215 #[.slice a len cap] w fun e w' => e = .returned (.func (.func 232) #[] #[.pointer (some ⟨w.heap.size, 0, none⟩)]) ∧ w' = w.alloc (.cells #[.slice a len cap] 23) := by
  refine callsIn_of_wp Tryz.func215 rfl h5 ?_ hro
  simp only [Tryz.ntmps215, List.size_toArray, List.length_cons, List.length_nil, Nat.reduceAdd, Nat.reduceSub, Array.replicate_succ, Array.replicate_zero, List.push_toArray, List.append_toArray, List.nil_append, List.cons_append]
  gi_wp2
  go_ret
  exact ⟨rfl, rfl⟩
theorem bt_upto (xs : List Int) (l : List UInt8) (j : Nat) : bt xs l j = (upto (bk l) j).flatMap (fun x => cb xs x.2.toNat) := by
  induction j with
  | zero => rfl
  | succ j ih => rw [upto_succ, List.flatMap_append, bt, ih]; simp [bk, sym]
end Go.Proofs.YtmioiaeiflbmhaaGreat.He
namespace Go.Proofs.YtmioiaeiflbmhaaGreat.He
open Go Go.RowKit Go.Shelf Go.ChangeMaps Go.MapKept Go.Mg Go.Hf Go.Sort Go.Proofs.YtmioiaeiflbmhaaGreat.Hu Go.Proofs.YtmioiaeiflbmhaaGreat.Bw Go.Proofs.YtmioiaeiflbmhaaGreat.It
theorem WrAt.min {ty : TypeId} {F : Nat → Prop} {w : World} {p : Nat} {a : Option Addr} {c : Nat} {B : List Bool} (h : WrAt ty F w p a c B) :
    WrAt ty (fun k => k = p ∨ (Value.slice a B.length c).ownBlock = some k) w p a c B :=
  ⟨h.hp, h.own, .inl rfl, fun k hk => ⟨.inr hk, (h.ne k hk).2⟩⟩
theorem OwnR.cells {w : World} {e : TypeId} {size : Nat} {v : Value} {n : Nat} {xs : List Value} (h : OwnR w e size v n xs) {b : Nat} (hb : v.ownBlock = some b) : ∃ o, w.heap[b]? = some o ∧ o.isCells = true := by
  rcases h.2 with ⟨rfl, _⟩ | ⟨g, cap, cur, fr, rfl, hg, _⟩
  · cases hb
  · cases hb; exact ⟨_, hg, rfl⟩
theorem WrAt.grown {ty : TypeId} {F : Nat → Prop} {w w' : World} {p : Nat} {a : Option Addr} {c : Nat} {B : List Bool} (h : WrAt ty F w p a c B) {row : Option Nat} (hg : w.grownBy w' row)
    (hr : ∀ r, row = some r → ∃ o : Obj, w.heap[r]? = some o ∧ o.isCells = false) : WrAt ty F w' p a c B :=
  ⟨(grownBy_keeps_cells hg hr h.hp rfl).trans h.hp, h.own.kept (fun b hb _ => by
    obtain ⟨o, ho, hc⟩ := OwnR.cells h.own hb
    exact grownBy_keeps_cells hg hr ho hc), h.fp, h.ne⟩
theorem Kp.keeps {F : Nat → Prop} {w w' : World} (h : Kp F w w') (hF : ∀ k, F k → ∃ o, w.heap[k]? = some o ∧ o.isCells = true) (B : Nat) : KeepsFrom B w w' :=
  ⟨h.size, fun k o _ hk ho => h.at_ hk (fun q => by obtain ⟨o', ho', hc⟩ := hF k q; rw [hk] at ho'; cases ho'; rw [ho] at hc; cases hc)⟩
theorem Kp.kb {F : Nat → Prop} {w w' : World} (h : Kp F w w') {n₀ Bs : Nat} (hF : ∀ k, F k → n₀ ≤ k ∧ k ≠ Bs) : KB n₀ Bs w w' :=
  ⟨h.size, fun k hk hn => h.block k hk (fun q => by have := hF k q; omega)⟩
def flat (xs : List Int) (pre : List (Int × UInt8)) : List Bool := pre.flatMap (fun x => cb xs x.2.toNat)
theorem flat_snoc (xs : List Int) (pre : List (Int × UInt8)) (x : Int × UInt8) : flat xs (pre ++ [x]) = flat xs pre ++ cb xs x.2.toNat := by simp [flat]
theorem flat_len {xs : List Int} (h : InR xs) : ∀ pre : List (Int × UInt8), (flat xs pre).length ≤ 11 * pre.length := by
  intro pre
  induction pre with
  | nil => simp [flat]
  | cons x pre ih =>
    simp only [flat, List.flatMap_cons, List.length_append, cb, bitsOf_len, List.length_cons] at ih ⊢
    have := lf_le h x.2.toNat
    omega
theorem flat_all (xs : List Int) (l : List UInt8) : flat xs (upto (bk l) l.length) = bt xs l l.length := (bt_upto xs l _).symm
theorem up_mem {l : List UInt8} {k : Nat} (hk : k ≤ l.length) {x : Int × UInt8} (hx : x ∈ upto (bk l) k) : ∃ q, q < l.length ∧ x.2.toNat = sym l q := by
  simp only [upto, List.mem_map, List.mem_range] at hx
  obtain ⟨j, hj, rfl⟩ := hx
  exact ⟨l.length - 1 - j, by omega, rfl⟩
theorem up_all {l : List UInt8} {q : Nat} (hq : q < l.length) : ∃ x ∈ upto (bk l) l.length, x.2.toNat = sym l q := by
  refine ⟨bk l (l.length - 1 - q), ?_, ?_⟩
  · simp only [upto, List.mem_map, List.mem_range]
    exact ⟨_, by omega, rfl⟩
  · simp [bk, sym, show l.length - 1 - (l.length - 1 - q) = q by omega]
structure EncI (xs : List Int) (W0 : World) (p : Nat) (pre : List (Int × UInt8)) (W : World) : Prop where
  gs : ∀ x ∈ pre, gd xs x.2.toNat
  kp : Kp (· = p) W0 W
  wr : ∃ F a c, WrAt 227 F W p a c (flat xs pre) ∧ ∀ k, F k → k = p ∨ W0.heap.size ≤ k
structure EncX (xs : List Int) (W0 : World) (p r1 r2 : Nat) (c : Code) (pre : List (Int × UInt8)) (W : World) : Prop where
  ret : c = .ret
  bad : ∃ x ∈ pre, ¬ gd xs x.2.toNat
  c1 : W.cell? ⟨r1, 0, none⟩ = some (.slice none 0 0)
  c2 : W.cell? ⟨r2, 0, none⟩ = some (.bool false)
  kp : Kp (fun k => k = p ∨ k = r1 ∨ k = r2) W0 W
theorem EncI.own (xs : List Int) (W0 : World) (p : Nat) : OwnFrom W0.heap.size (EncI xs W0 p) := fun s A B row h hg hr =>
  ⟨h.gs, h.kp.grown hg (fun k hk e => by have := (hr k e).1; omega), by
    obtain ⟨F, a, c, h1, h2⟩ := h.wr
    exact ⟨F, a, c, WrAt.grown h1 hg (fun r e => (hr r e).2), h2⟩⟩
theorem EncX.own (xs : List Int) (W0 : World) (p r1 r2 : Nat) (c : Code) : OwnFrom W0.heap.size (EncX xs W0 p r1 r2 c) := fun s A B row h hg hr =>
  ⟨h.ret, h.bad, cell_kept h.c1 hg (fun r e => (hr r e).2), cell_kept h.c2 hg (fun r e => (hr r e).2), h.kp.grown hg (fun k hk e => by have := (hr k e).1; omega)⟩
theorem EncI.step {xs : List Int} {W0 W V : World} {p n₀ Bs : Nat} {pre : List (Int × UInt8)} (h : EncI xs W0 p pre W) (hp : p < W0.heap.size) (hn : n₀ ≤ p) (hB : Bs ≠ p) (hBs : Bs < W0.heap.size)
    {x : Int × UInt8} (hx : gd xs x.2.toNat) {F : Nat → Prop} {a : Option Addr} {c : Nat} (hw : WrAt 227 F W p a c (flat xs pre)) (hF : ∀ k, F k → k = p ∨ W0.heap.size ≤ k)
    (hV : WrPost 227 (fun k => k = p ∨ (Value.slice a (flat xs pre).length c).ownBlock = some k) W p (flat xs pre ++ cb xs x.2.toNat) V) :
    KeepsFrom W0.heap.size W V ∧ KB n₀ Bs W V ∧ EncI xs W0 p (pre ++ [x]) V := by
  obtain ⟨F', a', c', h1, h2, h3⟩ := hV
  have hmin : ∀ k, (k = p ∨ (Value.slice a (flat xs pre).length c).ownBlock = some k) → k = p ∨ W0.heap.size ≤ k := by
    rintro k (rfl | q)
    · exact .inl rfl
    · exact hF k (hw.ne k q).1
  refine ⟨Kp.keeps h2 ?_ _, Kp.kb h2 ?_, ⟨?_, h.kp.trans2 h2 (fun i hi q => by rcases hmin i q with q | q; exact q; omega), F', a', c', by rw [flat_snoc]; exact h1, ?_⟩⟩
  · rintro k (rfl | q)
    · exact ⟨_, hw.hp, rfl⟩
    · exact OwnR.cells hw.own q
  · intro k q
    rcases hmin k q with rfl | q
    · exact ⟨hn, fun e => hB e.symm⟩
    · omega
  · intro y hy
    rcases List.mem_append.1 hy with hy | hy
    · exact h.gs y hy
    · rw [List.mem_singleton.1 hy]; exact hx
  · intro k q
    rcases h3 k q with q | q
    · exact hmin k q
    · have := h.kp.size; omega
theorem EncI.drew {xs : List Int} {W0 W : World} {p : Nat} {pre : List (Int × UInt8)} (h : EncI xs W0 p pre W) : EncI xs W0 p pre W.drew :=
  ⟨h.gs, h.kp.drew, by obtain ⟨F, a, c, h1, h2⟩ := h.wr; exact ⟨F, a, c, h1.kp (Kp.refl (fun _ => False) _).drew (fun _ _ q => q), h2⟩⟩
theorem back_drew {B n₀ Bs : Nat} {V W : World} {X : Prop} (h : KeepsFrom B V.drew W ∧ KB n₀ Bs V.drew W ∧ X) : KeepsFrom B V W ∧ KB n₀ Bs V W ∧ X :=
  ⟨⟨h.1.size, h.1.same⟩, ⟨h.2.1.size, h.2.1.block⟩, h.2.2⟩
end Go.Proofs.YtmioiaeiflbmhaaGreat.He
namespace Go.Mg
open Go Go.RowKit
variable {P : Program} {ops : Array Oper} {Q : Exit → Act → World → Prop} {md : Region.Mode} {l n : Nat}
theorem wpOpIn_of {i : Nat} {K : Act → World → Prop} {a : Act} {w : World} (hd : ∀ (j : Nat) (o : Oper) c, ops[j]? = some o → o.op ≠ .defer c) (hL : ¬ LetsOut Q) (h : wpOp P ops Q i K a w) : wpOpIn (Fence.wide.inRound l) n P ops Q i K a w := by
  unfold wpOp at h
  unfold wpOpIn
  cases ho : ops[i]? with
  | none => rw [ho] at h; exact h
  | some o =>
    rw [ho] at h
    simp only at h ⊢
    split
    · rename_i hw
      rw [if_pos hw] at h
      rcases h with h | ⟨_, h⟩
      · refine ⟨fun _ _ => trivial, ?_⟩
        unfold Oper.wp at h
        rw [Oper.semAt_eq _ _ _ (fun c => hd i o c ho)]
        generalize (execOp a.eval o).run P w = r at h ⊢
        cases r with
        | ok x w' =>
          cases x <;> simp only [Oper.upon, Oper.uponIn] at h ⊢
          case value => exact h
          case skip => exact h
          case defer => exact h
          case enter f args => exact ⟨(fun q => by cases q), CallsIn.inRound l (callsIn_wide.2 h)⟩
          case row row args =>
            refine ⟨(fun q => by cases q), fun c cs _ => ?_⟩
            obtain ⟨v, w', hr, hs⟩ := h c cs
            exact ⟨v, w', hr, stepsIn_wide.2 hs⟩
        | halt x w' => cases x <;> simp only [Oper.upon, Oper.uponIn] at h ⊢ <;> exact h
      · exact (hL h).elim
    · rename_i hw
      rw [if_neg hw] at h
      exact ⟨fun _ _ => trivial, h⟩
theorem wpAnyIn_of (hd : ∀ (j : Nat) (o : Oper) c, ops[j]? = some o → o.op ≠ .defer c) (hL : ¬ LetsOut Q) : ∀ (fuel : Nat) (listed : Array Bool) (a : Act) (w : World), wpAny P md ops Q fuel listed a w → wpAnyIn (Fence.wide.inRound l) n P md ops Q fuel listed a w
  | 0, _, _, _, h => h
  | fuel + 1, _, _, _, h => ⟨h.1, fun i hi => wpOpIn_mono (fun a' w' h' => wpAnyIn_of hd hL fuel _ a' w' h') (wpOpIn_of hd hL (h.2 i hi))⟩
theorem wpIn_round_of_held {S : World → Prop} {id : Nat} {a : Act} {w : World} (hm : P.follows .mixedOrders = true) (hd : (ops.all fun o => match o.op with | .defer _ => false | _ => true) = true) (hL : ¬ LetsOut Q)
    (h : wpAnyH P .any ops Q S ops.size (Array.replicate ops.size false) a w.drew) : (Code.region id ops true).wpIn (Fence.wide.inRound l) n P Q a w :=
  wpIn_region_any hm (wpAnyIn_of (fun j o c ho hc => by
    rw [Array.all_eq_true] at hd
    obtain ⟨hj, e⟩ := Array.getElem?_eq_some_iff.1 ho
    have := hd j hj
    rw [e, hc] at this
    cases this) hL _ _ _ _ (wpAny_of_held _ _ _ _ h))
end Go.Mg
namespace Go.Proofs.YtmioiaeiflbmhaaGreat.He
open Go Go.RowKit Go.Shelf Go.ChangeMaps Go.MapKept Go.Mg Go.Hf Go.Sort Go.Proofs.YtmioiaeiflbmhaaGreat.Hu Go.Proofs.YtmioiaeiflbmhaaGreat.Bw Go.Proofs.YtmioiaeiflbmhaaGreat.It
theorem neww_c (w : World) : Calls Tryz.prog 147 #[] w fun e w' => e = .returned (.pointer (some ⟨w.heap.size, 0, none⟩)) ∧ w' = w.alloc (.cells #[.slice none 0 0] 227) := by
  go_enter Tryz.func147, Tryz.ntmps147
  go_wp2_with fail
  go_ret
  exact ⟨rfl, rfl⟩
theorem back_c (a : Option Addr) (len cap : Nat) (w : World) :
    Calls Tryz.prog 215 #[.slice a len cap] w fun e w' => e = .returned (.func (.func 232) #[] #[.pointer (some ⟨w.heap.size, 0, none⟩)]) ∧ w' = w.alloc (.cells #[.slice a len cap] 23) :=
  callsIn_wide.1 (backward_in Fence.wide 3 trivial rfl a len cap w)
theorem Kp.put (W : World) (D : Nat) (o : Obj) : Kp (· = D) W (W.putObj D o) := ⟨rfl, rfl, rfl, by simp [World.putObj], fun k _ hn => World.putObj_heap_other hn⟩
theorem results_cc {fn : Func} {p q : Tmp} {ty ty2 : TypeId} (h : fn.results = #[.cell p ty, .cell q ty2]) (tmps : Array Value) (P : Program) (w : World) :
    (results fn tmps).run P w = ((asAddr (tmps.getD p undef)).run P w).andThen fun a w₁ => ((loadVar ty a).run P w₁).andThen fun v w₂ => ((asAddr (tmps.getD q undef)).run P w₂).andThen fun b w₃ => ((loadVar ty2 b).run P w₃).andThen fun u w₄ => .ok (.tuple #[v, u]) w₄ := by
  simp only [results, h]
  simp [Sem.run_bind, Result.andThen]
attribute [local go_sem] Oper.semAt_some
set_option maxRecDepth 100000 in
set_option maxHeartbeats 4000000 in
theorem encode_p (w : World) (xs : List Int) (a : Option Addr) (c : Nat) (h : Nm w a c xs) (hl : xs.length ≤ 300) (l : List UInt8) (ab : Option Addr) (cb' : Nat) (hb : SlR w 1 (.slice ab l.length cb') l.length (l.map u8c)) (hlb : l.length ≤ 1000) :
    Calls Tryz.prog 180 #[.slice a xs.length c, .slice ab l.length cb'] w (EncPost w xs l) := by
  refine (callsIn_wide (n := 5)).1 ?_
  obtain ⟨W, hW⟩ : ∃ W, W = ((w.alloc (.cells #[.slice a xs.length c] 179)).alloc (.cells #[.slice none 0 0] 23)).alloc (.cells #[.bool false] 4) := ⟨_, rfl⟩
  have HWE := Lib.hid hW
  have hWs : W.heap.size = w.heap.size + 3 := by rw [hW]; simp
  have hWk : Kp (fun _ => False) w W := by rw [hW]; exact (((Kp.refl _ _).alloc _).alloc _).alloc _
  have b0 : W.heap[w.heap.size]? = some (.cells #[.slice a xs.length c] 179 (0, 0)) := by
    rw [hW]; exact ((Kp.refl (fun _ => False) _).alloc _).at_ (((Kp.refl (fun _ => False) _).alloc _).at_ (alloc_at w _) (fun q => q)) (fun q => q)
  have b1 : W.heap[w.heap.size + 1]? = some (.cells #[.slice none 0 0] 23 (0, 0)) := by
    rw [hW]; have := alloc_at (w.alloc (.cells #[.slice a xs.length c] 179)) (.cells #[.slice none 0 0] 23); rw [World.size_alloc] at this
    exact ((Kp.refl (fun _ => False) _).alloc _).at_ this (fun q => q)
  have b2 : W.heap[w.heap.size + 2]? = some (.cells #[.bool false] 4 (0, 0)) := by
    rw [hW]; have := alloc_at ((w.alloc (.cells #[.slice a xs.length c] 179)).alloc (.cells #[.slice none 0 0] 23)) (.cells #[.bool false] 4); rw [World.size_alloc, World.size_alloc] at this
    exact this
  have D1 := Lib.hid (is_p W xs a c (h.kp hWk) (by omega))
  have C1 := Lib.hid (fun h0 => codes_p W xs a c (h.kp hWk) h0 hl)
  have R0 := Lib.hid h
  have RB := Lib.hid hb
  have HWK := Lib.hid hWk
  have HB0 := Lib.hid b0
  have HB1 := Lib.hid b1
  have HB2 := Lib.hid b2
  have d0 : W.cell? ⟨w.heap.size, 0, none⟩ = some (.slice a xs.length c) := by rw [cell_of b0]; rfl
  have d1 : W.cell? ⟨w.heap.size + 1, 0, none⟩ = some (.slice none 0 0) := by rw [cell_of b1]; rfl
  have d2 : W.cell? ⟨w.heap.size + 2, 0, none⟩ = some (.bool false) := by rw [cell_of b2]; rfl
  have f1 := free_of b1 0
  have f2 := free_of b2 0
  clear h hb hW hWk b0 b1 b2
  refine callsIn_of_wp_marks Tryz.func180 rfl trivial ?_ rfl
  refine wpIn_wide.2 ?_
  simp only [Tryz.ntmps180, List.size_toArray, List.length_cons, List.length_nil, Nat.reduceAdd, Nat.reduceSub, Array.replicate_succ, Array.replicate_zero, List.push_toArray, List.append_toArray, List.nil_append, List.cons_append]
  go_wp2_with fail
  rw [← HWE.out]
  refine D1.out.mono ?_
  rintro e w' ⟨z, hz, rfl, hw'⟩
  obtain rfl := hw'
  cases z with
  | false =>
    have HZ := Lib.hid (show ¬ EncOk xs l from fun q => by have := hz.2 q.1; cases this)
    have b1 := HB1.out
    have b2 := HB2.out
    have K5 := Lib.hid ((HWK.out.setCell (p := ⟨w.heap.size + 1, 0, none⟩) (fun q => by dsimp only at q; omega) (.slice none 0 0)).setCell (p := ⟨w.heap.size + 1 + 1, 0, none⟩) (fun q => by dsimp only at q; omega) (.bool false))
    have y1 : ((w'.setCell ⟨w.heap.size + 1, 0, none⟩ (.slice none 0 0)).setCell ⟨w.heap.size + 1 + 1, 0, none⟩ (.bool false)).cell? ⟨w.heap.size + 1, 0, none⟩ = some (.slice none 0 0) := by
      rw [cell_of (Kp.at_ ((Kp.refl (· = w.heap.size + 1 + 1) _).setCell (p := ⟨w.heap.size + 1 + 1, 0, none⟩) (fun _ => rfl) _) (setCell_at (i := 0) b1 _) (by omega))]
      rfl
    have y2 : ((w'.setCell ⟨w.heap.size + 1, 0, none⟩ (.slice none 0 0)).setCell ⟨w.heap.size + 1 + 1, 0, none⟩ (.bool false)).cell? ⟨w.heap.size + 1 + 1, 0, none⟩ = some (.bool false) := by
      rw [cell_of (setCell_at (i := 0) (Kp.at_ ((Kp.refl (· = w.heap.size + 1) _).setCell (p := ⟨w.heap.size + 1, 0, none⟩) (fun _ => rfl) _) b2 (by omega)) _)]
      rfl
    clear hz D1 C1 b1 b2
    go_wp2_with fail
    refine ⟨.tuple #[.slice none 0 0, .bool false], ?_, .inr ⟨HZ.out, rfl, K5.out⟩⟩
    rw [results_cc rfl]
    simp [go_sem, y1, y2]
  | true =>
    have hok : IsOk xs := hz.1 rfl
    have hpos : 0 < xs.length := by
      apply Nat.pos_of_ne_zero
      intro e
      have : xs = [] := List.eq_nil_of_length_eq_zero e
      subst this
      obtain ⟨_, _, h | h⟩ := hok <;> simp [isSt] at h
    have HOK := Lib.hid hok
    clear hz D1 hok
    go_wp2_with fail
    refine (C1.out hpos).mono ?_
    rintro e w3 ⟨gc, rfl, p1, p2, p3⟩
    have P1 := Lib.hid p1
    have P2 := Lib.hid p2
    have P3 := Lib.hid p3
    clear p1 p2 p3 C1
    go_wp2_with (go_at_call 147; refine (neww_c _).mono ?_; rintro e w' ⟨rfl, rfl⟩)
    refine (back_c ab l.length cb' _).mono ?_
    rintro e w' ⟨rfl, rfl⟩
    obtain ⟨W0, hW0⟩ : ∃ W0, W0 = (((w3.alloc (.cells #[.slice (some ⟨gc, 0, none⟩) xs.length xs.length] 179)).alloc (.cells #[.slice none 0 0] 227)).alloc (.cells #[.pointer (some ⟨w3.heap.size + 1, 0, none⟩)] 198)).alloc (.cells #[.slice ab l.length cb'] 23) := ⟨_, rfl⟩
    go_wp2_with fail
    rw [← hW0]
    have H3 := Lib.hid (HWK.out.trans P3.out)
    have hw3 : w.heap.size + 3 ≤ w3.heap.size := by have := P3.out.size; omega
    have HW0s := Lib.hid (show W0.heap.size = w3.heap.size + 4 by rw [hW0]; simp)
    have W0s := HW0s.out
    have kr : ∀ X, Kp (fun _ => False) X X := fun X => Kp.refl _ X
    have W0k : Kp (fun _ => False) w3 W0 := by rw [hW0]; exact ((((kr _).alloc _).alloc _).alloc _).alloc _
    have x0 : W0.heap[w3.heap.size]? = some (.cells #[.slice (some ⟨gc, 0, none⟩) xs.length xs.length] 179 (0, 0)) := by
      rw [hW0]; exact ((((kr _).alloc _).alloc _).alloc _).at_ (alloc_at w3 _) (fun q => q)
    have x1 : WrAt 227 (· = w3.heap.size + 1) W0 (w3.heap.size + 1) none 0 [] := by
      have := wr_new 227 (w3.alloc (.cells #[.slice (some ⟨gc, 0, none⟩) xs.length xs.length] 179))
      rw [World.size_alloc] at this
      rw [hW0]; exact this.kp (((kr _).alloc _).alloc _) (fun _ _ q => q)
    have x2 : W0.heap[w3.heap.size + 1 + 1]? = some (.cells #[.pointer (some ⟨w3.heap.size + 1, 0, none⟩)] 198 (0, 0)) := by
      have := alloc_at ((w3.alloc (.cells #[.slice (some ⟨gc, 0, none⟩) xs.length xs.length] 179)).alloc (.cells #[.slice none 0 0] 227)) (.cells #[.pointer (some ⟨w3.heap.size + 1, 0, none⟩)] 198)
      rw [World.size_alloc, World.size_alloc] at this
      rw [hW0]; exact ((kr _).alloc _).at_ this (fun q => q)
    have x3 : W0.heap[w3.heap.size + 1 + 1 + 1]? = some (.cells #[.slice ab l.length cb'] 23 (0, 0)) := by
      have := alloc_at (((w3.alloc (.cells #[.slice (some ⟨gc, 0, none⟩) xs.length xs.length] 179)).alloc (.cells #[.slice none 0 0] 227)).alloc (.cells #[.pointer (some ⟨w3.heap.size + 1, 0, none⟩)] 198)) (.cells #[.slice ab l.length cb'] 23)
      rw [World.size_alloc, World.size_alloc, World.size_alloc] at this
      rw [hW0]; exact this
    have z0 := W0k.at_ (P3.out.at_ HB0.out (fun q => q)) (fun q => q)
    have z1 := W0k.at_ (P3.out.at_ HB1.out (fun q => q)) (fun q => q)
    have z2 := W0k.at_ (P3.out.at_ HB2.out (fun q => q)) (fun q => q)
    have HK0 := Lib.hid (H3.out.trans W0k)
    obtain ⟨g, o, rfl, hg, hcap, hc⟩ := R0.out.lf_ hpos
    have hgc : gc < w3.heap.size := lt_of_at P2.out
    have HC : Hid (∀ V, Kp (· = w3.heap.size + 1) W0 V → ∀ i, i < xs.length → V.cell? ⟨gc, i, none⟩ = some (.int .i64 (codes xs i)) ∧ V.cell? ⟨g, o + i, none⟩ = some (.int .i64 (lf xs i))) := Lib.hid (fun V hk i hi =>
      ⟨(hk.cell (p := ⟨gc, i, none⟩) (by have := W0k.size; dsimp only; omega) (by dsimp only; omega)).trans ((W0k.cell (p := ⟨gc, i, none⟩) hgc (fun q => q)).trans (P2.out.cell hi)),
       (hk.cell (p := ⟨g, o + i, none⟩) (by have := HK0.out.size; dsimp only; omega) (by dsimp only; omega)).trans ((HK0.out.cell (p := ⟨g, o + i, none⟩) hg (fun q => q)).trans (hc i hi))⟩)
    have HX : Hid (∀ V, Kp (· = w3.heap.size + 1) W0 V → V.cell? ⟨w.heap.size, 0, none⟩ = some (.slice (some ⟨g, o, none⟩) xs.length c) ∧ V.cell? ⟨w3.heap.size, 0, none⟩ = some (.slice (some ⟨gc, 0, none⟩) xs.length xs.length) ∧ V.cell? ⟨w3.heap.size + 1 + 1, 0, none⟩ = some (.pointer (some ⟨w3.heap.size + 1, 0, none⟩)) ∧
      V.heap[w.heap.size + 1]? = some (.cells #[.slice none 0 0] 23 (0, 0)) ∧ V.heap[w.heap.size + 1 + 1]? = some (.cells #[.bool false] 4 (0, 0))) := Lib.hid (fun V hk =>
      ⟨by rw [cell_of (hk.at_ z0 (by omega))]; rfl, by rw [cell_of (hk.at_ x0 (by omega))]; rfl, by rw [cell_of (hk.at_ x2 (by omega))]; rfl, hk.at_ z1 (by omega), hk.at_ z2 (by omega)⟩)
    have HRD : Hid (Rd w.heap.size (w3.heap.size + 1 + 1 + 1) W0 ab cb' l) := Lib.hid ⟨fun V hk => by
        rw [hk.cell (p := ⟨w3.heap.size + 1 + 1 + 1, 0, none⟩) (by dsimp only; omega) (.inr rfl), cell_of x3]; rfl, fun h0 => by
        obtain ⟨gb, ob, rfl, hgb, hcb, hcc⟩ := bytes_at RB.out h0
        exact ⟨gb, ob, rfl, hcb, fun V hk i hi => (hk.cell (p := ⟨gb, ob + i, none⟩) (by have := HK0.out.size; dsimp only; omega) (.inl hgb)).trans ((HK0.out.cell (p := ⟨gb, ob + i, none⟩) hgb (fun q => q)).trans (hcc i hi))⟩⟩
    have HI0 : Hid (EncI xs W0 (w3.heap.size + 1) [] W0) := Lib.hid ⟨(fun x hx => by cases hx), Kp.refl _ _, (· = w3.heap.size + 1), none, 0, x1, fun k q => .inl q⟩
    clear W0s x0 x1 x2 x3 z0 z1 z2 W0k kr hg hc hW0 R0 RB HB0 HB1 HB2 HWE d0 d1 d2 f1 f2
    refine (wpIn_wide (n := 5)).1 ?_
    refine wpIn_rangeFunc_ownG rfl (by omega) (gf := 232) (lb := #[.pointer (some ⟨w3.heap.size + 1 + 1 + 1, 0, none⟩)]) rfl trivial (enters_of Tryz.func232 (by kernel_rfl) rfl)
      (backward_stops Fence.wide 4 trivial rfl (by omega) (w3.heap.size + 1 + 1 + 1) w.heap.size cb' ab l (by omega) W0 HRD.out) (fun h k => h.trans k) (fun V lp o1 o2 h1 _ _ _ => KB.putObj V lp o2 (by have := HW0s.out; omega) (by have := HW0s.out; omega)) (Below.refl _ _) (fun _ => rfl)
      (EncI xs W0 (w3.heap.size + 1)) (EncX xs W0 (w3.heap.size + 1) (w.heap.size + 1) (w.heap.size + 1 + 1)) (EncI.own xs W0 (w3.heap.size + 1)) (EncX.own xs W0 (w3.heap.size + 1) _ _) HI0.out
      (fun x => { tmps := #[.slice (some ⟨g, o, none⟩) xs.length c, .slice ab l.length cb', .pointer (some ⟨w.heap.size, 0, none⟩), undef, .pointer (some ⟨w.heap.size + 1, 0, none⟩), .pointer (some ⟨w.heap.size + 1 + 1, 0, none⟩), .pointer (some ⟨w3.heap.size, 0, none⟩), .pointer (some ⟨w3.heap.size + 1 + 1, 0, none⟩), undef, .int .u8 (x.2.toNat : Nat), .slice (some ⟨g, o, none⟩) xs.length c, .bool true, .bool false, .slice (some ⟨g, o, none⟩) xs.length c, .slice (some ⟨gc, 0, none⟩) xs.length xs.length, .pointer (some ⟨w3.heap.size + 1, 0, none⟩), .slice ab l.length cb', .func (.func 232) #[] #[.pointer (some ⟨w3.heap.size + 1 + 1 + 1, 0, none⟩)], .int .i64 x.1, .int .u8 (x.2.toNat : Nat), undef, undef, undef, undef, undef, undef, undef, undef, undef, undef, undef, undef, undef, undef, undef, undef, undef, undef, undef, undef, undef, undef, undef, undef], defers := [] }) ?assign ?body ?done ?stop
    case assign =>
      intro lp x V K hK
      gi_wp2
      exact hK
    case body =>
      rintro lp pre x V hI hlt
      have HI := Lib.hid hI
      obtain ⟨e0, e1, e2, e3, e4⟩ := HX.out V hI.kp
      have f1 := free_of e3 0
      have f2 := free_of e4 0
      have r1 : V.cell? ⟨w.heap.size + 1, 0, none⟩ = some (.slice none 0 0) := by rw [cell_of e3]; rfl
      have r2 : V.cell? ⟨w.heap.size + 1 + 1, 0, none⟩ = some (.bool false) := by rw [cell_of e4]; rfl
      have HBAD : Hid (¬ gd xs x.2.toNat → KeepsFrom W0.heap.size V ((V.setCell ⟨w.heap.size + 1, 0, none⟩ (.slice none 0 0)).setCell ⟨w.heap.size + 1 + 1, 0, none⟩ (.bool false)) ∧
          EncX xs W0 (w3.heap.size + 1) (w.heap.size + 1) (w.heap.size + 1 + 1) .ret (pre ++ [x]) ((V.setCell ⟨w.heap.size + 1, 0, none⟩ (.slice none 0 0)).setCell ⟨w.heap.size + 1 + 1, 0, none⟩ (.bool false))) := Lib.hid (fun hx => by
        refine ⟨((KeepsOthers.setCell _ _ _).trans (KeepsOthers.setCell _ _ _)).from _, rfl, ⟨x, by simp, hx⟩, ?_, ?_, ((hI.kp.mono (fun k _ q => .inl q)).setCell (p := ⟨w.heap.size + 1, 0, none⟩) (fun _ => .inr (.inl rfl)) _).setCell (p := ⟨w.heap.size + 1 + 1, 0, none⟩) (fun _ => .inr (.inr rfl)) _⟩
        · rw [cell_of (Kp.at_ ((Kp.refl (· = w.heap.size + 1 + 1) _).setCell (p := ⟨w.heap.size + 1 + 1, 0, none⟩) (fun _ => rfl) _) (setCell_at (i := 0) e3 _) (by omega))]
          rfl
        · rw [cell_of (setCell_at (i := 0) (Kp.at_ ((Kp.refl (· = w.heap.size + 1) _).setCell (p := ⟨w.heap.size + 1, 0, none⟩) (fun _ => rfl) _) e4 (by omega)) _)]
          rfl)
      clear hI e3 e4
      obtain ⟨s, hs⟩ : ∃ s, s = x.2.toNat := ⟨_, rfl⟩
      have hs256 : s < 256 := by rw [hs]; exact x.2.toNat_lt
      have HS := Lib.hid hs
      rw [← hs] at HBAD ⊢
      clear hs
      by_cases g1 : s < xs.length
      · obtain ⟨c2, c1⟩ := HC.out V HI.out.kp s g1
        by_cases g2 : lf xs s = 0
        · have HNG := Lib.hid (show ¬ gd xs s from fun q => q.2 g2)
          rw [g2] at c1
          clear c2 g2
          gi_wp2
          exact HBAD.out HNG.out
        · obtain ⟨cq, m, hm1, hm2, hm0, hm11, hcq⟩ := code_nat HOK.out ⟨g1, g2⟩
          have HCBE := Lib.hid (show cb xs s = bitsOf cq m by unfold cb; rw [hm1, hm2]; simp)
          have HCQ := Lib.hid hm1.symm
          have HMQ := Lib.hid hm2.symm
          rw [hm1] at c2
          rw [hm2] at c1
          have hm00 : ((m : Int) == 0) = false := by rw [beq_eq_false_iff_ne]; omega
          have HG := Lib.hid (show gd xs s from ⟨g1, g2⟩)
          obtain ⟨F, aw, cw, hw, hF⟩ := HI.out.drew.wr
          have PUT := Lib.hid (put_p (WrAt.min hw) cq m (by omega) hcq (by have := flat_len HOK.out.2.1 pre; omega))
          have STEP := Lib.hid (fun V' (hV : WrPost 227 _ V.drew _ _ V') => back_drew (HI.out.drew.step (n₀ := w.heap.size) (Bs := w3.heap.size + 1 + 1 + 1) (by have := HW0s.out; omega) (by omega) (by omega) (by have := HW0s.out; omega) (x := x) (by rw [← HS.out]; exact HG.out) hw hF (by rw [← HS.out, HCBE.out]; exact hV)))
          clear hm1 hm2 g2 hcq hw hF HBAD
          gi_wp2
          have HCS : Hid (∀ w', Kp (· = w3.heap.size + 1) W0 w' → w'.cell? ⟨gc, s, none⟩ = some (.int .i64 (cq : Nat)) ∧ w'.cell? ⟨g, o + s, none⟩ = some (.int .i64 (m : Nat))) := Lib.hid (fun w' hSw => by
            obtain ⟨q2, q1⟩ := HC.out w' hSw s g1
            rw [q2, q1, ← HCQ.out, ← HMQ.out]
            exact ⟨rfl, rfl⟩)
          have hS0 : Kp (· = w3.heap.size + 1) W0 V.drew := HI.out.kp.drew
          clear c1 c2 e0 e1 e2 r1 r2 f1 f2
          refine wpIn_round_of_held (S := Kp (· = w3.heap.size + 1) W0) (by kernel_rfl) (by kernel_rfl) (by rintro ⟨_, _, q⟩; exact q) ?_
          refine wpAnyH_take (i := 0) (v := ?_) rfl (by kernel_rfl) (by kernel_rfl) (by kernel_rfl) (fun _ _ _ h => h) (Or.inl ⟨by rfl, ?_⟩) hS0 ?_
          rotate_left 1
          · intro w' hSw
            obtain ⟨c2, c1⟩ := HCS.out w' hSw
            obtain ⟨e0, e1, e2, _, _⟩ := HX.out w' hSw
            go_simp
            first | done | with_reducible rfl
          simp only [Act.put, List.setIfInBounds_toArray]
          refine wpAnyH_take (i := 1) (v := ?_) rfl (by kernel_rfl) (by kernel_rfl) (by kernel_rfl) (fun _ _ _ h => h) (Or.inl ⟨by rfl, ?_⟩) hS0 ?_
          rotate_left 1
          · intro w' hSw
            obtain ⟨c2, c1⟩ := HCS.out w' hSw
            obtain ⟨e0, e1, e2, _, _⟩ := HX.out w' hSw
            go_simp
            first | done | with_reducible rfl
          simp only [Act.put]
          refine wpAnyH_take (i := 2) (v := ?_) rfl (by kernel_rfl) (by kernel_rfl) (by kernel_rfl) (fun _ _ _ h => h) (Or.inl ⟨by rfl, ?_⟩) hS0 ?_
          rotate_left 1
          · intro w' hSw
            obtain ⟨c2, c1⟩ := HCS.out w' hSw
            obtain ⟨e0, e1, e2, _, _⟩ := HX.out w' hSw
            go_simp
            first | done | with_reducible rfl
          simp only [Act.put]
          refine wpAnyH_take (i := 3) (v := ?_) rfl (by kernel_rfl) (by kernel_rfl) (by kernel_rfl) (fun _ _ _ h => h) (Or.inl ⟨by rfl, ?_⟩) hS0 ?_
          rotate_left 1
          · intro w' hSw
            obtain ⟨c2, c1⟩ := HCS.out w' hSw
            obtain ⟨e0, e1, e2, _, _⟩ := HX.out w' hSw
            go_simp
            first | done | with_reducible rfl
          simp only [Act.put]
          refine wpAnyH_take (i := 4) (v := ?_) rfl (by kernel_rfl) (by kernel_rfl) (by kernel_rfl) (fun _ _ _ h => h) (Or.inl ⟨by rfl, ?_⟩) hS0 ?_
          rotate_left 1
          · intro w' hSw
            obtain ⟨c2, c1⟩ := HCS.out w' hSw
            obtain ⟨e0, e1, e2, _, _⟩ := HX.out w' hSw
            go_simp
            first | done | with_reducible rfl
          simp only [Act.put]
          refine wpAnyH_take (i := 5) (v := ?_) rfl (by kernel_rfl) (by kernel_rfl) (by kernel_rfl) (fun _ _ _ h => h) (Or.inl ⟨by rfl, ?_⟩) hS0 ?_
          rotate_left 1
          · intro w' hSw
            obtain ⟨c2, c1⟩ := HCS.out w' hSw
            obtain ⟨e0, e1, e2, _, _⟩ := HX.out w' hSw
            go_simp
            first | done | with_reducible rfl
          simp only [Act.put]
          refine wpAnyH_take (i := 6) (v := ?_) rfl (by kernel_rfl) (by kernel_rfl) (by kernel_rfl) (fun _ _ _ h => h) (Or.inl ⟨by rfl, ?_⟩) hS0 ?_
          rotate_left 1
          · intro w' hSw
            obtain ⟨c2, c1⟩ := HCS.out w' hSw
            obtain ⟨e0, e1, e2, _, _⟩ := HX.out w' hSw
            go_simp
            first | done | with_reducible rfl
          simp only [Act.put]
          refine wpAnyH_take (i := 7) (v := ?_) rfl (by kernel_rfl) (by kernel_rfl) (by kernel_rfl) (fun _ _ _ h => h) (Or.inl ⟨by rfl, ?_⟩) hS0 ?_
          rotate_left 1
          · intro w' hSw
            obtain ⟨c2, c1⟩ := HCS.out w' hSw
            obtain ⟨e0, e1, e2, _, _⟩ := HX.out w' hSw
            go_simp
            first | done | with_reducible rfl
          simp only [Act.put]
          refine wpAnyH_take (i := 8) (v := ?_) rfl (by kernel_rfl) (by kernel_rfl) (by kernel_rfl) (fun _ _ _ h => h) (Or.inl ⟨by rfl, ?_⟩) hS0 ?_
          rotate_left 1
          · intro w' hSw
            obtain ⟨c2, c1⟩ := HCS.out w' hSw
            obtain ⟨e0, e1, e2, _, _⟩ := HX.out w' hSw
            go_simp
            first | done | with_reducible rfl
          simp only [Act.put]
          refine wpAnyH_ready (rs := [9]) (by kernel_rfl) (by simp) ?_
          refine AllReadyH.cons rfl (fun K hK => ?_) AllReadyH.nil
          go_simp
          refine PUT.out.mono ?_
          rintro e V2 ⟨rfl, hV⟩
          obtain ⟨q1, q2, q3⟩ := STEP.out V2 hV
          go_simp
          refine hK.out _ _ q3.kp (fun _ => ?_)
          refine wpAnyH_done (by kernel_rfl) ?_ _
          exact ⟨q1, q2, q3⟩
      · have HNG := Lib.hid (show ¬ gd xs s from fun q => g1 q.1)
        have g1' : (xs.length : Int) ≤ (s : Int) := by omega
        gi_wp2
        exact HBAD.out HNG.out
    case done =>
      rintro D ys V hD rfl hI hK
      have HI := Lib.hid hI
      obtain ⟨e0, e1, e2, e3, e4⟩ := HX.out V hI.kp
      obtain ⟨F, aw, cw, hw, hF⟩ := hI.wr
      rw [flat_all] at hw
      have hbl := bt_len HOK.out.2.1 l l.length
      have BY := Lib.hid (bytes_p hw (by omega))
      have HYES : Hid (EncOk xs l) := Lib.hid ⟨HOK.out, fun q hq => by
        obtain ⟨x, hx, e⟩ := up_all hq
        rw [← e]; exact hI.gs x hx⟩
      have HKD := Lib.hid hK
      have HD := Lib.hid hD
      have HE3 := Lib.hid e3
      have HE4 := Lib.hid e4
      clear hI hw hF e0 e1 e3 e4 hK hD hbl
      go_wp2_with fail
      refine BY.out.mono ?_
      rintro e w5 ⟨g5, rfl, b1, b2, b3⟩
      have B1 := Lib.hid b1
      have B2 := Lib.hid b2
      have B3 := Lib.hid b3
      have v3 := b3.at_ HE3.out (fun q => q)
      have v4 := b3.at_ HE4.out (fun q => q)
      have HV3 := Lib.hid v3
      have HV4 := Lib.hid v4
      have f1 := free_of v3 0
      have f2 := free_of v4 0
      have r1 : w5.cell? ⟨w.heap.size + 1, 0, none⟩ = some (.slice none 0 0) := by rw [cell_of v3]; rfl
      have r2 : w5.cell? ⟨w.heap.size + 1 + 1, 0, none⟩ = some (.bool false) := by rw [cell_of v4]; rfl
      clear b1 b2 b3 v3 v4
      go_wp2_with fail
      obtain ⟨m, hm⟩ : ∃ m, m = (bt xs l l.length).length / 8 + 1 := ⟨_, rfl⟩
      have HM := Lib.hid hm
      rw [← hm]
      have kX := ((Kp.refl (fun k => k = w.heap.size + 1 ∨ k = w.heap.size + 1 + 1) w5).setCell (p := ⟨w.heap.size + 1, 0, none⟩) (fun _ => .inl rfl) (.slice (some ⟨g5, 0, none⟩) m m)).setCell (p := ⟨w.heap.size + 1 + 1, 0, none⟩) (fun _ => .inr rfl) (.bool true)
      have z1 := Kp.at_ ((Kp.refl (· = w.heap.size + 1 + 1) _).setCell (p := ⟨w.heap.size + 1 + 1, 0, none⟩) (fun _ => rfl) (.bool true)) (setCell_at (i := 0) HV3.out (.slice (some ⟨g5, 0, none⟩) m m)) (by omega)
      have z2 := setCell_at (i := 0) (Kp.at_ ((Kp.refl (· = w.heap.size + 1) _).setCell (p := ⟨w.heap.size + 1, 0, none⟩) (fun _ => rfl) (.slice (some ⟨g5, 0, none⟩) m m)) HV4.out (by omega)) (.bool true)
      obtain ⟨X, hX⟩ : ∃ X, X = (w5.setCell ⟨w.heap.size + 1, 0, none⟩ (.slice (some ⟨g5, 0, none⟩) m m)).setCell ⟨w.heap.size + 1 + 1, 0, none⟩ (.bool true) := ⟨_, rfl⟩
      rw [← hX] at kX z1 z2 ⊢
      clear hX
      have hs0 := HW0s.out
      have hsD := HD.out
      have hKX := kX.at_ (B3.out.at_ HKD.out (fun q => q)) (by omega)
      have kY := Kp.put X D (.deferred none)
      have y1 : (X.putObj D (.deferred none)).cell? ⟨w.heap.size + 1, 0, none⟩ = some (.slice (some ⟨g5, 0, none⟩) m m) := by rw [cell_of (kY.at_ z1 (by omega))]; rfl
      have y2 : (X.putObj D (.deferred none)).cell? ⟨w.heap.size + 1 + 1, 0, none⟩ = some (.bool true) := by rw [cell_of (kY.at_ z2 (by omega))]; rfl
      have hDV := lt_of_at HKD.out
      have hB1 := B1.out
      have hVs := HI.out.kp.size
      have hU := (B2.out.kp kX (by omega)).kp kY (by omega)
      have hKK : Kp (fun _ => False) w (X.putObj D (.deferred none)) := (((HK0.out.trans2 HI.out.kp (fun i hi q => by omega)).trans B3.out).trans2 kX (fun i hi q => by omega)).trans2 kY (fun i hi q => by omega)
      refine ⟨by simp, .inl ⟨_, _, rfl, run_takeDeferred hKX, ?_⟩⟩
      refine ⟨.tuple #[.slice (some ⟨g5, 0, none⟩) m m, .bool true], ?_, .inl ⟨HYES.out, g5, ?_, by omega, ?_, hKK⟩⟩
      · rw [results_cc rfl]
        simp [go_sem, y1, y2]
      · rw [← hm]
      · exact hU
    case stop =>
      rintro D c0 pre V hD ⟨k, hk, rfl⟩ hX hK
      obtain rfl := hX.ret
      have HNO : Hid (¬ EncOk xs l) := Lib.hid (fun q => by
        obtain ⟨x, hx, hb⟩ := hX.bad
        obtain ⟨j, hj, e⟩ := up_mem hk hx
        exact hb (by rw [e]; exact q.2 j hj))
      refine wpIn_wide.2 ?_
      have HX2 := Lib.hid hX
      have HKD := Lib.hid hK
      have HD := Lib.hid hD
      clear hX hK hD
      go_wp2_with fail
      have hs0 := HW0s.out
      have hsD := HD.out
      have kY := Kp.put V D (.deferred none)
      have y1 := cell_kept HX2.out.c1 (grownBy_putObj' _ D (.deferred none)) (fun r e => by cases e; exact ⟨_, HKD.out, rfl⟩)
      have y2 := cell_kept HX2.out.c2 (grownBy_putObj' _ D (.deferred none)) (fun r e => by cases e; exact ⟨_, HKD.out, rfl⟩)
      have hKK : Kp (fun _ => False) w (V.putObj D (.deferred none)) := (HK0.out.trans2 HX2.out.kp (fun i hi q => by omega)).trans2 kY (fun i hi q => by omega)
      refine ⟨by simp, .inl ⟨_, _, rfl, run_takeDeferred HKD.out, ?_⟩⟩
      refine ⟨.tuple #[.slice none 0 0, .bool false], ?_, .inr ⟨HNO.out, rfl, hKK⟩⟩
      rw [results_cc rfl]
      simp [go_sem, y1, y2]
end Go.Proofs.YtmioiaeiflbmhaaGreat.He
namespace Go.Proofs.YtmioiaeiflbmhaaGreat.Ma
open Go Go.RowKit Go.ChangeMaps Go.MapKept Go.Mg Go.Mt Go.Proofs.YtmioiaeiflbmhaaGreat.Hu Go.Proofs.YtmioiaeiflbmhaaGreat.Bw Go.Proofs.YtmioiaeiflbmhaaGreat.He Go.Proofs.YtmioiaeiflbmhaaGreat.Sq
theorem andNot_top {k r : Nat} (hr : r < 2 ^ k) (hk : k ≤ 12) : Go.bits .andNot .i64 ((2 ^ k + r : Nat) : Int) ((2 ^ k : Nat) : Int) = (r : Int) := by
  have h12 : 2 ^ k ≤ 2 ^ 12 := Nat.pow_le_pow_right (by omega) hk
  have e12 : 2 ^ 12 = 4096 := rfl
  have key : (BitVec.ofInt 64 ((2 ^ k + r : Nat) : Int) &&& ~~~BitVec.ofInt 64 ((2 ^ k : Nat) : Int)) = BitVec.ofNat 64 r := by
    rw [BitVec.ofInt_natCast, BitVec.ofInt_natCast]
    apply BitVec.eq_of_getLsbD_eq
    intro i hi
    simp only [BitVec.getLsbD_and, BitVec.getLsbD_not, BitVec.getLsbD_ofNat, hi, decide_true, Bool.true_and]
    by_cases e : i = k
    · subst e
      rw [Nat.testBit_two_pow_self, Nat.testBit_lt_two_pow hr]
      simp
    · have e2 : (2 ^ k).testBit i = false := Nat.testBit_two_pow_of_ne (fun q => e q.symm)
      rw [e2]
      by_cases h : i < k
      · rw [Nat.testBit_two_pow_add_gt h]; simp
      · have h2 : 2 ^ (k + 1) ≤ 2 ^ i := Nat.pow_le_pow_right (by omega) (by omega)
        have h3 : 2 ^ (k + 1) = 2 ^ k * 2 := Nat.pow_succ 2 k
        rw [Nat.testBit_lt_two_pow (show 2 ^ k + r < 2 ^ i by omega), Nat.testBit_lt_two_pow (show r < 2 ^ i by omega)]
        simp
  show IntKind.i64.wrap ((BitVec.ofInt 64 ((2 ^ k + r : Nat) : Int) &&& ~~~BitVec.ofInt 64 ((2 ^ k : Nat) : Int)).toNat : Int) = (r : Int)
  rw [key, BitVec.toNat_ofNat, IntKind.wrap_i64]
  omega
theorem bitsLen_p (v : Nat) (hv : v < 4096) (w : World) : Calls Tryz.prog 177 #[.int .u64 (v : Nat)] w fun e w' => e = .returned (.int .i64 (Lib.bitLen v : Nat)) ∧ w' = w := by
  have h := Any.bits_Len Tryz.lays125 (v : Int) w (by omega) (by omega)
  refine Calls.mono h ?_
  rintro e w' ⟨rfl, rfl⟩
  exact ⟨by rw [Int.toNat_natCast], rfl⟩
set_option maxRecDepth 100000 in
set_option maxHeartbeats 1000000 in
theorem code_p (v : Nat) (hv : v < 4096) (w : World) : Calls Tryz.prog 150 #[.int .i64 (v : Nat)] w fun e w' => e = .returned (.tuple #[.int .i64 (Lib.bitLen v : Nat), .int .i64 (nb v : Nat), .int .i64 (ex v : Nat)]) ∧ Kp (fun _ => False) w w' := by
  have mixed : Tryz.prog.follows .mixedOrders = true := by kernel_rfl
  have LN := Lib.hid (bitsLen_p v hv)
  have hb12 := cd_le hv
  have HX : nb v = Lib.bitLen v - 1 ∧ ex v = if v = 0 then 0 else v - 2 ^ (Lib.bitLen v - 1) := ⟨rfl, rfl⟩
  have HP : v ≠ 0 → 1 ≤ Lib.bitLen v ∧ 2 ^ (Lib.bitLen v - 1) ≤ v ∧ v < 2 ^ Lib.bitLen v := fun h => by
    have := Fse.bitLen_spec (x := v) (by omega) (by omega)
    exact ⟨by omega, this.2.1, this.2.2⟩
  have HZ : v = 0 → Lib.bitLen v = 0 := fun h => by subst h; rfl
  obtain ⟨NB, hNB⟩ : ∃ NB, NB = nb v := ⟨_, rfl⟩
  obtain ⟨EX, hEX⟩ : ∃ EX, EX = ex v := ⟨_, rfl⟩
  obtain ⟨B, hB⟩ : ∃ B, B = Lib.bitLen v := ⟨_, rfl⟩
  rw [← hB] at LN hb12 HP HZ
  rw [← hNB, ← hEX, ← hB] at HX
  rw [← hNB, ← hEX, ← hB]
  clear hNB hEX hB
  have HAN : Hid (Go.bits .andNot .i64 (v : Int) ((2 : Int) ^ NB) = (EX : Int)) := Lib.hid (by
    have e2 : (2 : Int) ^ NB = ((2 ^ NB : Nat) : Int) := by simp
    rw [e2]
    by_cases h0 : v = 0
    · have := HZ h0
      have e : NB = 0 := by rw [HX.1]; omega
      rw [e, HX.2, if_pos h0, h0]
      rfl
    · obtain ⟨p0, p1, p2⟩ := HP h0
      rw [HX.1]
      have h3 : 2 ^ B = 2 ^ (B - 1) * 2 := by rw [← Nat.pow_succ]; congr 1; omega
      have := andNot_top (k := B - 1) (r := v - 2 ^ (B - 1)) (by omega) (by omega)
      rw [show 2 ^ (B - 1) + (v - 2 ^ (B - 1)) = v by omega] at this
      rw [this, HX.2, if_neg h0])
  have hnb : NB = B - 1 := HX.1
  have HNB := Lib.hid hnb
  have HP2 : Hid ((2 : Int) ^ NB ≤ 4096) := Lib.hid (by
    have h12 : 2 ^ NB ≤ 2 ^ 12 := Nat.pow_le_pow_right (by omega) (by omega)
    have e12 : 2 ^ 12 = 4096 := rfl
    have e2 : (2 : Int) ^ NB = ((2 ^ NB : Nat) : Int) := by simp
    rw [e2]; omega)
  have hNB12 : NB ≤ 11 := by omega
  have hmx : max ((B : Int) - 1) 0 = (NB : Int) := by omega
  clear HX HP HZ hnb
  go_enter Tryz.func150, Tryz.ntmps150
  go_wp2_with fail
  refine (LN.out w).mono ?_
  rintro e w' ⟨rfl, hw⟩
  obtain rfl := hw
  have han := HAN.out
  have hw1 : IntKind.i64.wrap ((B : Int) - 1) = (B : Int) - 1 := by rw [IntKind.wrap_i64]; omega
  have hn0 : (0 : Int) ≤ (NB : Int) := by omega
  have hw2 : IntKind.i64.wrap ((2 : Int) ^ NB) = (2 : Int) ^ NB := by
    have := HP2.out
    have h0 : (0 : Int) ≤ (2 : Int) ^ NB := by
      have e2 : (2 : Int) ^ NB = ((2 ^ NB : Nat) : Int) := by simp
      rw [e2]; exact Int.natCast_nonneg _
    rw [IntKind.wrap_i64]; omega
  have hw3 : wrap64 ((2 : Int) ^ NB) = (2 : Int) ^ NB := by
    rw [IntKind.wrap_i64] at hw2
    unfold wrap64
    omega
  go_wp2_with fail
  go_quiet (fail)
  go_wp2_with fail
  go_ret3
  exact ⟨rfl, by first | exact (Kp.refl _ _).drewN _ | exact Kp.refl _ _⟩
set_option maxRecDepth 100000 in
set_option maxHeartbeats 1000000 in
theorem sized_p (n : Nat) (w : World) : Calls Tryz.prog 116 #[.int .i64 (n : Nat)] w (TwoPost w n) := by
  have HR := Lib.hid (two_row w n)
  go_enter Tryz.func116, Tryz.ntmps116
  go_wp2_with fail
  go_ret
  exact ⟨_, rfl, Nat.le_refl _, HR.out, kp_alloc _ _⟩
end Go.Proofs.YtmioiaeiflbmhaaGreat.Ma
namespace Go.Proofs.YtmioiaeiflbmhaaGreat.Ma
open Go Go.RowKit Go.ChangeMaps Go.MapKept Go.Mg Go.Mt Go.Proofs.YtmioiaeiflbmhaaGreat.Hu Go.Proofs.YtmioiaeiflbmhaaGreat.Bw Go.Proofs.YtmioiaeiflbmhaaGreat.He Go.Proofs.YtmioiaeiflbmhaaGreat.Sq
set_option maxRecDepth 100000 in
set_option maxHeartbeats 1000000 in
theorem moved_p (h : H3) (v off : Nat) (w : World) : Calls Tryz.prog 199 #[hv3 h, .int .i64 (v : Nat), .int .i64 (off : Nat)] w (FrontPost w (mv h v off)) := by
  obtain ⟨a, b, c⟩ := h
  unfold hv3
  have fin : ∀ (x y z : Nat) (tm : Array Value) (o : Obj), mv ⟨a, b, c⟩ v off = ⟨x, y, z⟩ → tm[6]?.getD undef = .pointer (some ⟨w.heap.size + 1, 0, none⟩) →
      bodyPost Tryz.prog Tryz.f199 (FrontPost w (mv ⟨a, b, c⟩ v off)) Exit.ret ⟨tm, []⟩ ((w.alloc o).alloc (.cells #[.int .i64 (x : Nat), .int .i64 (y : Nat), .int .i64 (z : Nat)] 82)) := by
    intro x y z tm o hm ht
    rw [hm]
    refine bodyPost_ret (v := hv3 ⟨x, y, z⟩) ?_ rfl ⟨rfl, (kp_alloc _ _).trans (kp_alloc _ _)⟩
    simp [results, Tryz.results199, ht, hv3, go_sem]
  have HF := Lib.hid fin
  by_cases h0 : v = 0
  · have HM : Hid (mv ⟨a, b, c⟩ v off = ⟨a, b, c⟩) := Lib.hid (by unfold mv; rw [if_pos h0])
    have b0 : ((v : Int) == 0) = true := by rw [beq_iff_eq]; omega
    clear fin h0
    go_enter Tryz.func199, Tryz.ntmps199
    go_wp2_with fail
    exact HF.out _ _ _ _ _ HM.out rfl
  · have b0 : ((v : Int) == 0) = false := by rw [beq_eq_false_iff_ne]; omega
    by_cases h1 : v = 1
    · have HM : Hid (mv ⟨a, b, c⟩ v off = ⟨off, a, c⟩) := Lib.hid (by unfold mv; rw [if_neg h0, if_pos h1])
      have b1 : ((v : Int) == 1) = true := by rw [beq_iff_eq]; omega
      clear fin h0 h1
      go_enter Tryz.func199, Tryz.ntmps199
      go_wp2_with fail
      exact HF.out _ _ _ _ _ HM.out rfl
    · have HM : Hid (mv ⟨a, b, c⟩ v off = ⟨off, a, b⟩) := Lib.hid (by unfold mv; rw [if_neg h0, if_neg h1])
      have b1 : ((v : Int) == 1) = false := by rw [beq_eq_false_iff_ne]; omega
      clear fin h0 h1
      go_enter Tryz.func199, Tryz.ntmps199
      go_wp2_with fail
      exact HF.out _ _ _ _ _ HM.out rfl
def SizedPost (w : World) (b : List UInt8) (e : Ending) (w' : World) : Prop := ∃ a c, e = .returned (.slice a (2 + b.length) c) ∧ RowB w.heap.size w' (.slice a (2 + b.length) c) (sized b) ∧ Kp (fun _ => False) w w'
set_option maxRecDepth 100000 in
set_option maxHeartbeats 1000000 in
theorem sized6_p (w : World) (b : List UInt8) (a : Option Addr) (c : Nat) (h : SlR w 1 (.slice a b.length c) b.length (b.map u8c)) (hl : b.length ≤ 100000) :
    Calls Tryz.prog 152 #[.slice a b.length c] w (SizedPost w b) := by
  obtain ⟨j0, hj0, hy0, hy1, hy2⟩ := info_parts infoU8
  have HSZ : Hid (two b.length ++ b = sized b) := Lib.hid rfl
  obtain ⟨n, hn⟩ : ∃ n, n = b.length := ⟨_, rfl⟩
  have HN := Lib.hid hn
  unfold SizedPost
  rw [← hn] at h hl HSZ ⊢
  have T := Lib.hid (two_row w n)
  have KA := Lib.hid (kp_alloc w (.cells #[.int .u8 ((n : Int) % 256), .int .u8 ((n : Int) / 256 % 256)] 5))
  have H := Lib.hid (h.kp KA.out (fun _ _ q => q))
  clear h hn
  go_enter Tryz.func152, Tryz.ntmps152
  go_wp2_with (at_builtin; refine wpList_appM (w0 := w) _ rfl _ _ 23 rfl 5 j0 _ 1 Tryz.underlying23 hj0 hy0 hy1 hy2 rfl (by decide) (by decide) u8c_1 (.slice (some ⟨w.heap.size, 0, none⟩) 2 2) (two n) rfl T.out (.slice a n c) n b rfl H.out HN.out.symm KA.out (2 + n) rfl (by omega) ?_; intro a5 c5 w5 g1 g2 g3; have G1 := Lib.hid g1; have G2 := Lib.hid g2; clear g1 g2 g3)
  go_ret
  exact ⟨a5, c5, rfl, by rw [← HSZ.out]; exact G1.out, G2.out⟩
set_option maxRecDepth 100000 in
set_option maxHeartbeats 1000000 in
theorem may_p (x y z : Nat) (hx : x ≤ 500) (hy : 1 ≤ y) (hy2 : y ≤ 2500) (hz : 4 ≤ z) (hz2 : z ≤ 500) (w : World) : Calls Tryz.prog 144 #[.agg #[.int .i64 (x : Nat), .int .i64 (y : Nat), .int .i64 (z : Nat)]] w fun e w' => e = .returned (.bool true) ∧ Kp (fun _ => False) w w' := by
  have b1 : decide ((0 : Int) ≤ (x : Int)) = true := decide_eq_true (by omega)
  have b2 : decide ((x : Int) ≤ 500) = true := decide_eq_true (by omega)
  have b3 : decide ((1 : Int) ≤ (y : Int)) = true := decide_eq_true (by omega)
  have b4 : decide ((y : Int) ≤ 2500) = true := decide_eq_true (by omega)
  have b5 : decide ((4 : Int) ≤ (z : Int)) = true := decide_eq_true (by omega)
  have b6 : decide ((z : Int) ≤ 500) = true := decide_eq_true (by omega)
  go_enter Tryz.func144, Tryz.ntmps144
  go_wp2_with fail
  go_ret
  exact ⟨rfl, kp_alloc _ _⟩
end Go.Proofs.YtmioiaeiflbmhaaGreat.Ma
namespace Go.Proofs.YtmioiaeiflbmhaaGreat.Ma
open Go Go.RowKit Go.ChangeMaps Go.MapKept Go.Mg Go.Mt Go.Proofs.YtmioiaeiflbmhaaGreat.Hu Go.Proofs.YtmioiaeiflbmhaaGreat.Bw Go.Proofs.YtmioiaeiflbmhaaGreat.He Go.Proofs.YtmioiaeiflbmhaaGreat.Sq
set_option maxRecDepth 100000 in
set_option maxHeartbeats 1000000 in
theorem not_may_p (x y z : Nat) (hx : x ≤ 500) (hy : 1 ≤ y) (hy2 : y ≤ 2500) (hz : 4 ≤ z) (hz2 : z ≤ 500) (w : World) : Calls Tryz.prog 143 #[.agg #[.int .i64 (x : Nat), .int .i64 (y : Nat), .int .i64 (z : Nat)]] w fun e w' => e = .returned (.bool false) ∧ Kp (fun _ => False) w w' := by
  have M := Lib.hid (fun V => may_p x y z hx hy hy2 hz hz2 V)
  have KA := Lib.hid (kp_alloc w (.cells #[.int .i64 (x : Nat), .int .i64 (y : Nat), .int .i64 (z : Nat)] 186))
  clear hx hy hy2 hz hz2
  go_enter Tryz.func143, Tryz.ntmps143
  go_wp2_with fail
  refine (M.out _).mono ?_
  rintro e w' ⟨rfl, hk⟩
  have K := Lib.hid (KA.out.trans hk)
  clear hk
  go_wp2_with fail
  go_ret
  exact ⟨rfl, K.out⟩
set_option maxRecDepth 100000 in
set_option maxHeartbeats 1000000 in
theorem indexSq_p (w : World) (l : List Sq) (al : Option Addr) (cl : Nat) (hl : SlR w 3 (.slice al l.length cl) l.length (l.flatMap sqc)) (hm : May l) :
    Calls Tryz.prog 171 #[.slice al l.length cl, .func (.func 143) #[] #[]] w fun e w' => e = .returned (.int .i64 (-1)) ∧ Kp (fun _ => False) w w' := by
  have hlen := hm.1
  have HL : Hid (0 < l.length → ∃ g o, al = some ⟨g, o, none⟩ ∧ l.length ≤ cl ∧ ∀ V, Kp (fun _ => False) w V → ∀ i, i < l.length → V.cell? ⟨g, o + i * 3, none⟩ = some (.int .i64 (lit l i : Nat)) ∧ V.cell? ⟨g, o + i * 3 + 1, none⟩ = some (.int .i64 (ofs l i : Nat)) ∧ V.cell? ⟨g, o + i * 3 + 2, none⟩ = some (.int .i64 ((sqAt l i).len : Nat))) := Lib.hid (fun h0 => by
    obtain ⟨g, o, e, hg, hc, hs⟩ := sq_at hl h0
    exact ⟨g, o, e, hc, fun V hk i hi => ⟨(hk.cell (p := ⟨g, o + i * 3, none⟩) hg (fun q => q)).trans (hs i hi).1, (hk.cell (p := ⟨g, o + i * 3 + 1, none⟩) hg (fun q => q)).trans (hs i hi).2.1, (hk.cell (p := ⟨g, o + i * 3 + 2, none⟩) hg (fun q => q)).trans (hs i hi).2.2⟩⟩)
  have HBD := Lib.hid (fun i (hi : i < l.length) => hm.at_ hi)
  obtain ⟨n, hn⟩ : ∃ n, n = l.length := ⟨_, rfl⟩
  rw [← hn] at HL hlen HBD ⊢
  clear hl hm hn
  go_enter Tryz.func171, Tryz.ntmps171
  go_wp2_with fail
  go_loopw [5, 8] (fun _ i wr => ∃ k : Nat, k ≤ n ∧ i = .int .i64 k ∧ Kp (fun _ => False) w wr) (fun _ i _ => n - (intOf i).toNat)
  case atStart => exact ⟨0, Nat.zero_le _, rfl, Kp.refl _ _⟩
  case round =>
    obtain ⟨k, hk, rfl, hkw⟩ := hrel
    have HKR := Lib.hid hkw
    clear hkw
    by_cases hlt : k < n
    · obtain ⟨g, o, rfl, hcl, hcc⟩ := HL.out (by omega)
      obtain ⟨d0, d1, d2⟩ := hcc _ HKR.out k hlt
      obtain ⟨b1, b2, b3, b4, b5⟩ := HBD.out k hlt
      obtain ⟨x, hx⟩ : ∃ x, x = lit l k := ⟨_, rfl⟩
      obtain ⟨y, hy⟩ : ∃ y, y = ofs l k := ⟨_, rfl⟩
      obtain ⟨z, hz⟩ : ∃ z, z = (sqAt l k).len := ⟨_, rfl⟩
      rw [← hx] at d0 b1
      rw [← hy] at d1 b2 b3
      rw [← hz] at d2 b4 b5
      have MY := Lib.hid (fun V => not_may_p x y z b1 b2 b3 b4 b5 V)
      clear hcc hx hy hz b1 b2 b3 b4 b5
      go_wp2_with fail
      refine (MY.out _).mono ?_
      rintro e w5 ⟨rfl, hk5⟩
      have HK5 := Lib.hid (HKR.out.trans hk5)
      clear hk5 d0 d1 d2
      go_wp2_with fail
      exact ⟨⟨k + 1, by omega, by go_num, HK5.out⟩, by simp [intOf]; try omega⟩
    · obtain rfl : k = n := by omega
      go_wp2_with fail
      go_ret
      exact ⟨rfl, HKR.out⟩
set_option maxRecDepth 100000 in
set_option maxHeartbeats 1000000 in
theorem containsSq_p (w : World) (l : List Sq) (al : Option Addr) (cl : Nat) (hl : SlR w 3 (.slice al l.length cl) l.length (l.flatMap sqc)) (hm : May l) :
    Calls Tryz.prog 142 #[.slice al l.length cl, .func (.func 143) #[] #[]] w fun e w' => e = .returned (.bool false) ∧ Kp (fun _ => False) w w' := by
  have IX := Lib.hid (indexSq_p w l al cl hl hm)
  clear hl hm
  go_enter Tryz.func142, Tryz.ntmps142
  go_wp2_with fail
  refine IX.out.mono ?_
  rintro e w' ⟨rfl, hk⟩
  have K := Lib.hid hk
  clear hk
  go_wp2_with fail
  go_ret
  exact ⟨rfl, K.out⟩
end Go.Proofs.YtmioiaeiflbmhaaGreat.Ma
