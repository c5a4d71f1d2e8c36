/- Writers: Bytes. -/
import Derived.Test.YtcecnkmhhbncdaaBwB
import Derived.Laws.MakeOwn
namespace Go.Proofs.Ytcecnkmhhbncdaa.Bw
open Go Go.RowKit Go.ChangeMaps Go.MapKept Go.Mg Go.Hf Go.Sort Go.Proofs.Ytcecnkmhhbncdaa.Hu

/-- The bytes of the first k bits. -/
def pk (B : Nat → Bool) : Nat → Nat → Nat
  | 0, _ => 0
  | k + 1, j => if B k = true ∧ j = k / 8 then pk B k j ||| 2 ^ (k % 8) else pk B k j
theorem pk_lt (B : Nat → Bool) (k j : Nat) : pk B k j < 256 := by
  induction k with
  | zero => simp [pk]
  | succ k ih =>
    simp only [pk]
    split
    · have h1 : 2 ^ (k % 8) < 2 ^ 8 := Nat.pow_lt_pow_right (by omega) (by omega)
      exact Nat.or_lt_two_pow (n := 8) ih h1
    · exact ih
def fin (B : Nat → Bool) (n j : Nat) : Nat := if j = n / 8 then pk B n j ||| 2 ^ (n % 8) else pk B n j
theorem fin_lt (B : Nat → Bool) (n j : Nat) : fin B n j < 256 := by
  unfold fin
  split
  · have h1 : 2 ^ (n % 8) < 2 ^ 8 := Nat.pow_lt_pow_right (by omega) (by omega)
    exact Nat.or_lt_two_pow (n := 8) (pk_lt B n j) h1
  · exact pk_lt B n j
def UAt (w : World) (g N : Nat) (out : Nat → Nat) : Prop := w.heap[g]? = some (.cells ((List.range N).map fun i => Value.int .u8 (out i : Nat)).toArray 5 (0, 0))
theorem UAt.set {w : World} {g N : Nat} {out : Nat → Nat} (h : UAt w g N out) {i : Nat} (hi : i < N) (x : Nat) : UAt (w.setCell ⟨g, i, none⟩ (.int .u8 (x : Nat))) g N (fun j => if j = i then x else out j) := by
  have h2 := setCell_at (i := i) h (.int .u8 (x : Nat))
  unfold UAt
  rw [h2]
  congr 2
  apply Array.ext_getElem?
  intro k
  rw [Array.getElem?_setIfInBounds]
  simp only [List.size_toArray, List.length_map, List.length_range, List.getElem?_toArray, List.getElem?_map]
  by_cases hk : i = k
  · subst hk
    rw [if_pos rfl, if_pos hi, List.getElem?_range hi]
    simp
  · rw [if_neg hk]
    by_cases hkn : k < N
    · rw [List.getElem?_range hkn]
      have : ¬ k = i := fun e => hk e.symm
      simp [this]
    · rw [List.getElem?_eq_none (by simpa using hkn)]
      rfl
theorem UAt.cell {w : World} {g N : Nat} {out : Nat → Nat} (h : UAt w g N out) {i : Nat} (hi : i < N) : w.cell? ⟨g, i, none⟩ = some (.int .u8 (out i : Nat)) := by
  rw [cell_of h]; simp [hi]
theorem UAt.kp {w w' : World} {g N : Nat} {out : Nat → Nat} {F : Nat → Prop} (h : UAt w g N out) (hk : Kp F w w') (hn : ¬ F g) : UAt w' g N out := hk.at_ h hn
theorem UAt.sl {w : World} {g N : Nat} {out : Nat → Nat} (h : UAt w g N out) (hN : N ≤ 100000) : SlR w 1 (.slice (some ⟨g, 0, none⟩) N N) N ((List.range N).map fun i => .int .u8 (out i : Nat)) := by
  refine ⟨by simp, _, _, rfl, Nat.le_refl _, by unfold maxLen; omega, (fun h => by cases h), fun _ => ⟨g, 0, rfl, lt_of_at h, fun i u hu => ?_⟩⟩
  rw [Nat.zero_add, cell_of h]
  simpa using hu
theorem infoU : (Try.prog.info? 5).map (fun i => (i.zero, i.size, i.bytes)) = some (some (.int .u8 0), 1, 1) := by kernel_rfl
theorem make_u8 (w : World) (n : Nat) (hn : n ≤ 1000000) : ∃ cur : Array Value, cur.toList = List.replicate n (.int .u8 0) ∧
    (Instr.makeSlice 30 (.int .i64 (n : Nat)) (.int .i64 (n : Nat))).run Try.prog w = .ok (.slice (some ⟨w.heap.size, 0, none⟩) n n) (w.alloc (.cells cur 5)) := by
  obtain ⟨i0, hi0, hz0, hz1, hz2⟩ := info_parts infoU
  have h := run_make (P := Try.prog) w 30 5 i0 _ Try.underlying30 hi0 hz0 .i64 .i64 (n : Int) (n : Int) (by omega) (by omega) (by rw [hz2]; omega) (by omega)
  rw [hz1] at h
  refine ⟨_, ?_, h⟩
  show (madeCells #[_] _).toList = _
  rw [toList_madeCells_one]
  simp
theorem UAt.made {w : World} {n : Nat} {cur : Array Value} (hc : cur.toList = List.replicate n (.int .u8 0)) : UAt (w.alloc (.cells cur 5)) w.heap.size n (fun _ => 0) := by
  unfold UAt
  rw [alloc_at w _]
  congr 2
  apply Array.toList_inj.1
  rw [hc]
  apply List.ext_getElem
  · simp
  · intro i h1 h2
    simp
/-- A new row of the bytes of the bits B. -/
def BytesPost (w : World) (B : List Bool) (e : Ending) (w' : World) : Prop := ∃ g, e = .returned (.slice (some ⟨g, 0, none⟩) (B.length / 8 + 1) (B.length / 8 + 1)) ∧ w.heap.size ≤ g ∧ UAt w' g (B.length / 8 + 1) (fin (fun i => B[i]?.getD false) B.length) ∧ Kp (fun _ => False) w w'
theorem own_bit {w : World} {a : Option Addr} {c : Nat} {B : List Bool} (h : OwnR w 4 1 (.slice a B.length c) B.length (B.map Value.bool)) (h0 : 0 < B.length) : ∃ g, a = some ⟨g, 0, none⟩ ∧ g < w.heap.size ∧ B.length ≤ c ∧ ∀ i, i < B.length → w.cell? ⟨g, i, none⟩ = some (.bool (B[i]?.getD false)) := by
  obtain ⟨g, rfl, hc, hat⟩ := h.at1 h0
  refine ⟨g, rfl, h.lt rfl, hc, fun i hi => (hat i hi).1 _ ?_⟩
  simp [hi]
/-- What a set bit turns. -/
theorem or_val (x k : Nat) (hx : x < 256) : Go.bits .or .u8 (x : Int) (2 ^ (k % 8) % 256) = ((x ||| 2 ^ (k % 8) : Nat) : Int) := by
  have h1 : 2 ^ (k % 8) < 2 ^ 8 := Nat.pow_lt_pow_right (by omega) (by omega)
  have h2 : 2 ^ 8 = 256 := rfl
  have := (bits_nat .u8 8 (by decide) wraps_u8 x (2 ^ (k % 8)) hx h1).2
  have e : ((2 : Int) ^ (k % 8) % 256) = ((2 ^ (k % 8) : Nat) : Int) := by
    have e2 : ((2 ^ (k % 8) : Nat) : Int) = (2 : Int) ^ (k % 8) := by simp
    rw [← e2]
    rw [h2] at h1
    clear this
    generalize 2 ^ (k % 8) = y at h1
    omega
  rw [e]
  exact this
theorem pk_set (bt : Nat → Bool) (k x : Nat) (hx : x = pk bt k (k / 8)) (hb : bt k = true) : (fun j => if j = k / 8 then x ||| 2 ^ (k % 8) else pk bt k j) = pk bt (k + 1) := by
  funext j
  simp only [pk, hb, true_and]
  by_cases h : j = k / 8
  · rw [if_pos h, if_pos h, hx, h]
  · rw [if_neg h, if_neg h]
theorem pk_skip (bt : Nat → Bool) (k : Nat) (hb : bt k = false) : pk bt k = pk bt (k + 1) := by
  funext j
  simp [pk, hb]
theorem fin_set (bt : Nat → Bool) (k x : Nat) (hx : x = pk bt k (k / 8)) : (fun j => if j = k / 8 then x ||| 2 ^ (k % 8) else pk bt k j) = fin bt k := by
  funext j
  unfold fin
  by_cases h : j = k / 8
  · rw [if_pos h, if_pos h, hx, h]
  · rw [if_neg h, if_neg h]
set_option maxRecDepth 100000 in
set_option maxHeartbeats 2000000 in
theorem bytes_d {F : Nat → Prop} {w : World} {p : Nat} {a : Option Addr} {c : Nat} {B : List Bool} (h : WrAt 53 F w p a c B) (hB : B.length ≤ 100000) :
    Calls Try.prog 39 #[.pointer (some ⟨p, 0, none⟩)] w (BytesPost w B) := by
  obtain ⟨n, hn⟩ : ∃ n, n = B.length := ⟨_, rfl⟩
  obtain ⟨m, hm⟩ : ∃ m, m = n / 8 + 1 := ⟨_, rfl⟩
  have hmi : ((n : Int) / 8 + 1) = (m : Int) := by omega
  obtain ⟨cur, hcur, hmk⟩ := make_u8 w m (by omega)
  have U0 : Hid (UAt (w.alloc (.cells cur 5)) w.heap.size m (pk (fun i => B[i]?.getD false) 0)) := Lib.hid (UAt.made hcur)
  have K0 : Hid (Kp (fun _ => False) w (w.alloc (.cells cur 5))) := Lib.hid ((Kp.refl _ _).alloc _)
  have d0 := h.cell
  have HB := Lib.hid (fun h0 => own_bit h.own h0)
  unfold BytesPost
  rw [← hn] at HB hB d0 ⊢
  rw [← hm]
  obtain ⟨bt, hbt⟩ : ∃ bt : Nat → Bool, bt = fun i => B[i]?.getD false := ⟨_, rfl⟩
  have HBT := Lib.hid hbt
  rw [← hbt] at U0 ⊢
  have hps : p < w.heap.size := lt_of_at h.hp
  have HNN := Lib.hid hn
  have HMM := Lib.hid hm
  have hm1 : n < 8 * m := by omega
  have hm2 : m ≤ 12501 := by omega
  clear hcur h hbt hn hm
  go_enter Try.func39, Try.ntmps39
  go_wp2_with fail
  generalize hW : w.alloc (.cells cur 5) = W at U0 K0 ⊢
  clear hmk hW
  go_loopw [4] (fun i wr => ∃ k : Nat, k ≤ n ∧ i = .int .i64 k ∧ UAt wr w.heap.size m (pk bt k) ∧ Kp (fun _ => False) w wr) (fun i _ => n - (intOf i).toNat)
  case atStart => exact ⟨0, Nat.zero_le _, rfl, U0.out, K0.out⟩
  case round =>
    clear U0 K0
    obtain ⟨k, hk, rfl, hu, hkp⟩ := hrel
    have d1 := (hkp.cell (p := ⟨p, 0, none⟩) hps (fun q => q)).trans d0
    have HK := Lib.hid hkp
    have HU := Lib.hid hu
    by_cases hkn : k < n
    · obtain ⟨gb, rfl, hgb, hcap, hbit⟩ := HB.out (by omega)
      have d2 := (hkp.cell (p := ⟨gb, k, none⟩) hgb (fun q => q)).trans (hbit k hkn)
      rw [show B[k]?.getD false = bt k by rw [HBT.out]] at d2
      have hk8 : k / 8 < m := by omega
      have f1 := hu.cell hk8
      have f2 : wr.frozen? ⟨w.heap.size, k / 8, none⟩ = false := free_of hu (k / 8)
      have hlt := pk_lt bt k (k / 8)
      have HSET := Lib.hid (hu.set hk8 (pk bt k (k / 8) ||| 2 ^ (k % 8)))
      obtain ⟨x, hx⟩ : ∃ x, x = pk bt k (k / 8) := ⟨_, rfl⟩
      rw [← hx] at f1 hlt HSET
      have HX := Lib.hid hx
      have E1 := Lib.hid (or_val x k hlt)
      obtain ⟨tb, htb⟩ : ∃ tb, tb = bt k := ⟨_, rfl⟩
      rw [← htb] at d2
      have HTB := Lib.hid htb
      clear hu hkp hbit hx htb
      cases tb with
      | true =>
        go_wp2_with fail
        refine ⟨⟨k + 1, by omega, by go_num, ?_, ?_⟩, by simp [intOf]; omega⟩
        · rw [E1.out, ← pk_set bt k x HX.out HTB.out.symm]
          exact HSET.out
        · exact HK.out.setCell (p := ⟨w.heap.size, k / 8, none⟩) (fun q => by simp only at q; omega) _
      | false =>
        go_wp2_with fail
        refine ⟨⟨k + 1, by omega, by go_num, ?_, HK.out⟩, by simp [intOf]; omega⟩
        rw [← pk_skip bt k HTB.out.symm]
        exact HU.out
    · obtain rfl : k = n := by omega
      have hk8 : k / 8 < m := by have := HMM.out; omega
      have f1 := hu.cell hk8
      have f2 : wr.frozen? ⟨w.heap.size, k / 8, none⟩ = false := free_of hu (k / 8)
      have hlt := pk_lt bt k (k / 8)
      have HSET := Lib.hid (hu.set hk8 (pk bt k (k / 8) ||| 2 ^ (k % 8)))
      obtain ⟨x, hx⟩ : ∃ x, x = pk bt k (k / 8) := ⟨_, rfl⟩
      rw [← hx] at f1 hlt HSET
      have HX := Lib.hid hx
      have E1 := Lib.hid (or_val x k hlt)
      clear hu hkp hx d0
      go_wp2_with fail
      go_ret
      refine ⟨w.heap.size, rfl, Nat.le_refl _, ?_, ?_⟩
      · rw [E1.out, ← fin_set bt k x HX.out]
        exact HSET.out
      · exact HK.out.setCell (p := ⟨w.heap.size, k / 8, none⟩) (fun q => by simp only at q; omega) _
end Go.Proofs.Ytcecnkmhhbncdaa.Bw
