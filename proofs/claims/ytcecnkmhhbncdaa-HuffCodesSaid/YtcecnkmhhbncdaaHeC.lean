/- The library's iterator Backward over bytes. -/
import Derived.Test.YtcecnkmhhbncdaaHfG
import Derived.Test.YtcecnkmhhbncdaaHeA
namespace Go.Proofs.Ytcecnkmhhbncdaa.He
open Go Go.RowKit Go.Shelf Go.ChangeMaps Go.MapKept Go.Mg Go.Hf Go.Sort Go.Proofs.Ytcecnkmhhbncdaa.Hu Go.Proofs.Ytcecnkmhhbncdaa.Bw Go.Proofs.Ytcecnkmhhbncdaa.It

attribute [local go_sem] Oper.semAt_some

/-- What lies below n₀, and the block Bs, are as they were. -/
structure KB (n₀ Bs : Nat) (A B : World) : Prop where
  size : A.heap.size ≤ B.heap.size
  block : ∀ k, k < A.heap.size → (k < n₀ ∨ k = Bs) → B.heap[k]? = A.heap[k]?
theorem KB.refl (n₀ Bs : Nat) (A : World) : KB n₀ Bs A A := ⟨Nat.le_refl _, fun _ _ _ => rfl⟩
theorem KB.trans {n₀ Bs : Nat} {A B C : World} (h : KB n₀ Bs A B) (k : KB n₀ Bs B C) : KB n₀ Bs A C :=
  ⟨Nat.le_trans h.size k.size, fun i hi hn => (k.block i (Nat.lt_of_lt_of_le hi h.size) hn).trans (h.block i hi hn)⟩
theorem KB.cell {n₀ Bs : Nat} {A B : World} (h : KB n₀ Bs A B) {p : Addr} (hp : p.block < A.heap.size) (hn : p.block < n₀ ∨ p.block = Bs) : B.cell? p = A.cell? p :=
  World.cell?_of_block (w := A) (h.block p.block hp hn)
theorem KB.of_below {n₀ Bs : Nat} {A B : World} (h : Below A.heap.size A B) : KB n₀ Bs A B := ⟨h.size, fun k hk _ => h.block k hk⟩
theorem KB.putObj {n₀ Bs : Nat} (W : World) (l : Nat) (o : Obj) (h1 : n₀ ≤ l) (h2 : l ≠ Bs) : KB n₀ Bs W (W.putObj l o) :=
  ⟨by simp [World.putObj], fun k _ hn => World.putObj_heap_other (by omega)⟩
/-- The bytes of a slice, wherever what is told of is kept. -/
def Rd (n₀ Bs : Nat) (W : World) (a : Option Addr) (cap : Nat) (l : List UInt8) : Prop :=
  (∀ V, KB n₀ Bs W V → V.cell? ⟨Bs, 0, none⟩ = some (.slice a l.length cap)) ∧
  (0 < l.length → ∃ g o, a = some ⟨g, o, none⟩ ∧ l.length ≤ cap ∧ ∀ V, KB n₀ Bs W V → ∀ i, i < l.length → V.cell? ⟨g, o + i, none⟩ = some (.int .u8 (l[i]?.getD 0).toNat))
def bk (l : List UInt8) (j : Nat) : Int × UInt8 := (((l.length - 1 - j : Nat) : Int), l[l.length - 1 - j]?.getD 0)
abbrev enc2 (x : Int × UInt8) : Array Value := #[.int .i64 x.1, .int .u8 (x.2.toNat : Nat)]

set_option maxRecDepth 100000 in
set_option maxHeartbeats 2000000 in
theorem backward1_in (F : Fence) (n : Nat) (h7 : F.fn 53) (hro : F.round = none) (hn : 1 ≤ n) (lp Bs n₀ cap : Nat) (a : Option Addr) (l : List UInt8) (hreach : l.length ≤ 100000) (J Jx : List (Int × UInt8) → World → Prop)
    (hY : ∀ pre x W, J pre W → pre.length < l.length → YieldAt F (n - 1) Try.prog lp (enc2 x) W fun e W' =>
      (e = .returned (.bool true) ∧ J (pre ++ [x]) W' ∧ KB n₀ Bs W W') ∨ (e = .returned (.bool false) ∧ Jx (pre ++ [x]) W'))
    (W : World) (hR : Rd n₀ Bs W a cap l) (h0 : J [] W) :
    CallsIn F n Try.prog 53 #[.func (.yield lp) #[] #[], .pointer (some ⟨Bs, 0, none⟩)] W fun e W' => (∃ v, e = .returned v) ∧
      ((∃ ys, ys = upto (bk l) l.length ∧ J ys W') ∨ (∃ pre, (∃ k, k ≤ l.length ∧ pre = upto (bk l) k) ∧ Jx pre W')) := by
  have HRB := Lib.hid hR.1
  have HRC := Lib.hid hR.2
  have HBK : Hid (∀ k q, q = l.length - 1 - k → bk l k = (((q : Nat) : Int), l[q]?.getD 0)) := Lib.hid (fun k q e => by subst e; rfl)
  obtain ⟨f, hf⟩ : ∃ f, f = bk l := ⟨_, rfl⟩
  rw [← hf] at HBK ⊢
  have d0 := hR.1 _ (KB.refl _ _ _)
  clear hR hf
  refine callsIn_of_wp Try.func53 rfl h7 ?_ hro
  simp only [Try.ntmps53, List.size_toArray, List.length_cons, List.length_nil, Nat.reduceAdd, Nat.reduceSub, Array.replicate_succ, Array.replicate_zero, List.push_toArray, List.append_toArray, List.nil_append, List.cons_append]
  obtain ⟨m, hm⟩ : ∃ m, m = l.length := ⟨_, rfl⟩
  rw [← hm] at HRB HRC HBK hY hreach d0 ⊢
  have HM := Lib.hid hm
  clear hm
  gi_wp2
  gi_loopw [3] (fun i wr => ∃ k : Nat, k ≤ m ∧ i = .int .i64 ((m : Int) - 1 - (k : Nat)) ∧ J (upto f k) wr ∧ KB n₀ Bs W wr)
    (fun i _ => (intOf i + 1).toNat)
  case atStart => exact ⟨0, Nat.zero_le _, by simp, h0, KB.refl _ _ _⟩
  case round =>
    obtain ⟨k, hk, rfl, hJs, hnx⟩ := hrel
    have hcx := HRB.out _ hnx
    by_cases hlt : k < m
    · obtain ⟨q, hq⟩ : ∃ q, q = m - 1 - k := ⟨_, rfl⟩
      have hqn : q < m := by omega
      have hqi : ((m : Int) - 1 - (k : Nat)) = (q : Nat) := by omega
      rw [hqi]
      have HQI := Lib.hid hqi
      have HFK := HBK.out k q hq
      clear hqi hq
      obtain ⟨g, o, rfl, hcap, hcells⟩ := HRC.out (by omega)
      have hcq := hcells _ hnx q hqn
      obtain ⟨u, hu⟩ : ∃ u, u = l[q]?.getD 0 := ⟨_, rfl⟩
      rw [← hu] at hcq HFK
      obtain ⟨fn, tmps, assign, body, hy, hR⟩ := hY _ (((q : Nat) : Int), u) wr hJs (by rw [upto_length]; exact hlt)
      dsimp only [enc2] at hy
      clear hcells hu
      gi_wp2
      refine hR.mono ?_
      rintro e W3 (⟨rfl, hJ3, hk3⟩ | ⟨rfl, hJx3⟩)
      · gi_wp2
        go_roundw
        case rel => exact ⟨k + 1, by omega, by have := HQI.out; congr 1; omega, by rw [upto_succ, HFK]; exact hJ3, hnx.trans hk3⟩
        case measure => simp [intOf]; try omega
      · gi_wp2
        refine bodyPost_ret (results_none rfl _ _ _) rfl ?_
        exact ⟨⟨_, rfl⟩, .inr ⟨_, ⟨k + 1, by omega, by rw [upto_succ, HFK]⟩, hJx3⟩⟩
    · obtain rfl : k = m := by omega
      have hi1 : ((k : Int) - 1 - (k : Nat)) = -1 := by omega
      rw [hi1]
      gi_wp2
      go_end0
      exact ⟨⟨_, rfl⟩, .inl ⟨_, rfl, hJs⟩⟩
theorem backward_stops (F : Fence) (n : Nat) (h7 : F.fn 53) (hro : F.round = none) (hn : 1 ≤ n) (Bs n₀ cap : Nat) (a : Option Addr) (l : List UInt8) (hreach : l.length ≤ 100000) (w : World) (hR : Rd n₀ Bs w a cap l) :
    SeqStopsK F n Try.prog 53 #[.pointer (some ⟨Bs, 0, none⟩)] enc2 (KB n₀ Bs) (fun ys => ys = upto (bk l) l.length) (fun pre => ∃ k, k ≤ l.length ∧ pre = upto (bk l) k) l.length w := fun lp J Jx W hW _ _ hY h0 =>
  backward1_in F n h7 hro hn lp Bs n₀ cap a l hreach J Jx hY W ⟨fun V hV => hR.1 V ((KB.of_below hW).trans hV), fun h => by
    obtain ⟨g, o, e, h1, h2⟩ := hR.2 h
    exact ⟨g, o, e, h1, fun V hV => h2 V ((KB.of_below hW).trans hV)⟩⟩ h0
set_option maxHeartbeats 1000000 in
theorem backward_in (F : Fence) (n : Nat) (h5 : F.fn 35) (hro : F.round = none) (a : Option Addr) (len cap : Nat) (w : World) :
    CallsIn F n Try.prog 35 #[.slice a len cap] w fun e w' => e = .returned (.func (.func 53) #[] #[.pointer (some ⟨w.heap.size, 0, none⟩)]) ∧ w' = w.alloc (.cells #[.slice a len cap] 30) := by
  refine callsIn_of_wp Try.func35 rfl h5 ?_ hro
  simp only [Try.ntmps35, List.size_toArray, List.length_cons, List.length_nil, Nat.reduceAdd, Nat.reduceSub, Array.replicate_succ, Array.replicate_zero, List.push_toArray, List.append_toArray, List.nil_append, List.cons_append]
  gi_wp2
  go_ret
  exact ⟨rfl, rfl⟩
theorem bt_upto (xs : List Int) (l : List UInt8) (j : Nat) : bt xs l j = (upto (bk l) j).flatMap (fun x => cb xs x.2.toNat) := by
  induction j with
  | zero => rfl
  | succ j ih => rw [upto_succ, List.flatMap_append, bt, ih]; simp [bk, sym]
end Go.Proofs.Ytcecnkmhhbncdaa.He
