/- bits: a Writer in memory; Put. Writers: Bytes. The program's Writer: Bytes. Rows of one's own, all beyond a bound: what an append makes of them. Of no program. -/
import Derived.Laws.BitsLemmas
import Derived.Laws.MakeOwn
import Derived.Test.YtmioiaeiflbmhaaGreatX04
import Derived.Test.YtmioiaeiflbmhaaGreatX01
namespace Go.Proofs.YtmioiaeiflbmhaaGreat.Bw
open Go Go.RowKit Go.ChangeMaps Go.MapKept Go.Mg Go.Hf Go.Sort Go.Proofs.YtmioiaeiflbmhaaGreat.Hu
def bitsOf (q n : Nat) : List Bool := (List.range n).map fun i => decide (q / 2 ^ i % 2 = 1)
theorem bitsOf_len (q n : Nat) : (bitsOf q n).length = n := by simp [bitsOf]
theorem bitsOf_succ (q n : Nat) : bitsOf q (n + 1) = bitsOf q n ++ [decide (q / 2 ^ n % 2 = 1)] := by simp [bitsOf, List.range_succ]
theorem digit (q k : Nat) (hq : q ≤ 16777216) : (Go.bits .and .i64 ((q : Int) / 2 ^ k) 1 == 1) = decide (q / 2 ^ k % 2 = 1) := by
  have e : (q : Int) / 2 ^ k = ((q / 2 ^ k : Nat) : Int) := by simp
  have hle : q / 2 ^ k ≤ q := Nat.div_le_self _ _
  rw [e]
  generalize q / 2 ^ k = x at hle
  have h := bits_mask .i64 62 (by decide) (fun n h0 h1 => by rw [IntKind.wrap_i64]; omega) 1 (by decide) (x : Int) (Int.natCast_nonneg _) (by
    have e62 : (2 : Int) ^ 62 = 4611686018427387904 := rfl
    rw [e62]; omega)
  have e1 : (2 : Int) ^ 1 - 1 = 1 := rfl
  rw [e1] at h
  rw [h]
  have e2 : (2 : Int) ^ 1 = 2 := rfl
  rw [e2]
  by_cases h : x % 2 = 1
  · have : ((x : Int) % 2 == 1) = true := by rw [beq_iff_eq]; omega
    rw [this]; simp [h]
  · have : ((x : Int) % 2 == 1) = false := by rw [beq_eq_false_iff_ne]; omega
    rw [this]; simp [h]
structure WrAt (ty : TypeId) (F : Nat → Prop) (w : World) (p : Nat) (a : Option Addr) (c : Nat) (B : List Bool) : Prop where
  hp : w.heap[p]? = some (.cells #[.slice a B.length c] ty (0, 0))
  own : OwnR w 4 1 (.slice a B.length c) B.length (B.map Value.bool)
  fp : F p
  ne : ∀ k, (Value.slice a B.length c).ownBlock = some k → F k ∧ k ≠ p
theorem WrAt.kp {ty : TypeId} {F G : Nat → Prop} {w w' : World} {p : Nat} {a : Option Addr} {c : Nat} {B : List Bool} (h : WrAt ty F w p a c B) (hk : Kp G w w') (hn : ∀ k, F k → ¬ G k) : WrAt ty F w' p a c B :=
  ⟨hk.at_ h.hp (hn _ h.fp), h.own.kp hk (fun k hk => hn k (h.ne k hk).1), h.fp, h.ne⟩
theorem WrAt.cell {ty : TypeId} {F : Nat → Prop} {w : World} {p : Nat} {a : Option Addr} {c : Nat} {B : List Bool} (h : WrAt ty F w p a c B) : w.cell? ⟨p, 0, none⟩ = some (.slice a B.length c) := by rw [cell_of h.hp]; rfl
theorem WrAt.free {ty : TypeId} {F : Nat → Prop} {w : World} {p : Nat} {a : Option Addr} {c : Nat} {B : List Bool} (h : WrAt ty F w p a c B) : w.frozen? ⟨p, 0, none⟩ = false := free_of h.hp 0
def WrPost (ty : TypeId) (F : Nat → Prop) (w : World) (p : Nat) (B : List Bool) (w' : World) : Prop := ∃ F' a' c', WrAt ty F' w' p a' c' B ∧ Kp F w w' ∧ ∀ k, F' k → F k ∨ w.heap.size ≤ k
theorem lit_b (w : World) (z : Bool) : SlR (w.alloc (.cells #[.bool z] 4)) 1 (.slice (some ⟨w.heap.size, 0, none⟩) 1 1) 1 ([z].map Value.bool) := by
  refine ⟨by simp, _, _, rfl, Nat.le_refl _, by unfold maxLen; omega, (fun h => by cases h), fun _ => ⟨w.heap.size, 0, rfl, by simp, fun i u hu => ?_⟩⟩
  rw [Nat.zero_add, cell_of (alloc_at w _)]
  simpa using hu
theorem one_b (l : List Bool) : ∀ u ∈ l.map Value.bool, u.oneCell' = true := by
  intro u hu
  obtain ⟨b, _, rfl⟩ := List.mem_map.1 hu
  rfl
theorem WrAt.app {ty : TypeId} {F : Nat → Prop} {w w2 w3 : World} {p : Nat} {a : Option Addr} {c : Nat} {B : List Bool} (h : WrAt ty F w p a c B) (k2 : Kp (fun _ => False) w w2) {a' : Option Addr} {c' : Nat} {z : Bool}
    (g1 : OwnR w3 4 1 (.slice a' (B.length + 1) c') (B.length + 1) (B.map Value.bool ++ [z].map Value.bool)) (g2 : Kp (fun k => (Value.slice a B.length c).ownBlock = some k) w2 w3) (g3 : (Value.slice a' (B.length + 1) c').ownBlock = (Value.slice a B.length c).ownBlock ∨ (Value.slice a' (B.length + 1) c').ownBlock = some w2.heap.size) :
    w3.frozen? ⟨p, 0, none⟩ = false ∧ w3.cell? ⟨p, 0, none⟩ = some (.slice a B.length c) ∧ WrPost ty F w p (B ++ [z]) (w3.setCell ⟨p, 0, none⟩ (.slice a' (B.length + 1) c')) := by
  have hp2 := k2.at_ h.hp (fun q => q)
  have hp3 := g2.at_ hp2 (fun q => (h.ne p q).2 rfl)
  have hps := lt_of_at h.hp
  have hs2 := k2.size
  have hset := setCell_at (i := 0) hp3 (.slice a' (B.length + 1) c')
  have hks : Kp (· = p) w3 (w3.setCell ⟨p, 0, none⟩ (.slice a' (B.length + 1) c')) := (Kp.refl (· = p) w3).setCell (p := ⟨p, 0, none⟩) (fun _ => rfl) _
  have hne : ∀ k, (Value.slice a' (B.length + 1) c').ownBlock = some k → (F k ∨ k = w2.heap.size) ∧ k ≠ p := by
    intro k hk
    rcases g3 with q | q
    · have := h.ne k (q.symm.trans hk); exact ⟨.inl this.1, this.2⟩
    · rw [hk] at q; simp at q; exact ⟨.inr q, by omega⟩
  refine ⟨free_of hp3 0, by rw [cell_of hp3]; rfl, fun k => F k ∨ k = w2.heap.size, a', c', ⟨?_, ?_, .inl h.fp, ?_⟩, ?_, ?_⟩
  · rw [hset]; simp
  · rw [List.length_append, List.map_append]
    exact g1.kp hks (fun k hk => (hne k hk).2)
  · rw [List.length_append]; exact hne
  · refine ((k2.mono (fun _ _ q => q.elim)).trans (g2.mono (fun k _ q => (h.ne k q).1))).trans (hks.mono (fun k _ q => by rw [q]; exact h.fp))
  · rintro k (q | q)
    · exact .inl q
    · exact .inr (by omega)
def PutPost (ty : TypeId) (F : Nat → Prop) (w : World) (p : Nat) (B : List Bool) (e : Ending) (w' : World) : Prop := e = .returned (.bool true) ∧ WrPost ty F w p B w'
theorem infoB : (Tryz.prog.info? 4).map (fun i => (i.zero, i.size, i.bytes)) = some (some (.bool false), 1, 1) := by kernel_rfl
theorem many_c (n : Nat) (hn : n ≤ 24) (w : World) : Calls Tryz.prog 178 #[.int .i64 (n : Nat)] w fun e w' => e = .returned (.bool true) ∧ w' = w := by
  have hn1 : (n : Int) ≤ 24 := by omega
  go_enter Tryz.func178, Tryz.ntmps178
  go_wp2_with fail
  go_ret
  exact ⟨by simp, rfl⟩
theorem WrPost.trans {ty : TypeId} {F F' : Nat → Prop} {w w' w3 : World} {p : Nat} {B : List Bool} (hk : Kp F w w') (hF : ∀ k, F' k → F k ∨ w.heap.size ≤ k) (h : WrPost ty F' w' p B w3) : WrPost ty F w p B w3 := by
  obtain ⟨F3, a3, c3, h1, h2, h3⟩ := h
  have := hk.size
  refine ⟨F3, a3, c3, h1, hk.trans2 h2 (fun i hi q => (hF i q).elim id (fun q => by omega)), fun k q => ?_⟩
  rcases h3 k q with q | q
  · exact hF k q
  · exact .inr (by omega)
set_option maxRecDepth 100000 in
set_option maxHeartbeats 2000000 in
theorem put_p {F : Nat → Prop} {w : World} {p : Nat} {a : Option Addr} {c : Nat} {B : List Bool} (h : WrAt 227 F w p a c B) (q n : Nat) (hn : n ≤ 24) (hq : q < 2 ^ n) (hB : B.length ≤ 1000000) :
    Calls Tryz.prog 151 #[.pointer (some ⟨p, 0, none⟩), .int .i64 (q : Nat), .int .i64 (n : Nat)] w (PutPost 227 F w p (B ++ bitsOf q n)) := by
  have mixed : Tryz.prog.follows .mixedOrders = true := by kernel_rfl
  obtain ⟨i0, hi0, hz0, hz1, hz2⟩ := info_parts infoB
  have HM := Lib.hid (many_c n hn)
  have hP : 2 ^ n ≤ 2 ^ 24 := Nat.pow_le_pow_right (by omega) hn
  have hP2 : 2 ^ 24 = 16777216 := rfl
  obtain ⟨P, hPe⟩ : ∃ P, P = 2 ^ n := ⟨_, rfl⟩
  have hPi : (2 : Int) ^ n = (P : Int) := by rw [hPe]; simp
  rw [← hPe] at hq hP
  rw [hP2] at hP
  clear hPe hP2
  have hwP : IntKind.i64.wrap (P : Int) = (P : Int) := by rw [IntKind.wrap_i64]; omega
  have hq0 : decide ((q : Int) < 0) = false := decide_eq_false (by omega)
  have hqP : decide ((P : Int) ≤ (q : Int)) = false := decide_eq_false (by omega)
  have hqP2 : decide (P ≤ q) = false := decide_eq_false (by omega)
  have H := Lib.hid h
  clear h
  go_enter Tryz.func151, Tryz.ntmps151
  go_wp2_with fail
  refine (HM.out w).mono ?_
  rintro e w' ⟨rfl, rfl⟩
  go_wp2_with fail
  go_loopw [26] (fun i wr => ∃ k : Nat, k ≤ n ∧ i = .int .i64 k ∧ WrPost 227 F w' p (B ++ bitsOf q k) wr) (fun i _ => n - (intOf i).toNat)
  case atStart => exact ⟨0, Nat.zero_le _, rfl, F, a, c, by simpa [bitsOf] using H.out, Kp.refl _ _, fun k h => .inl h⟩
  case round =>
    obtain ⟨k, hk, rfl, F', a', c', h1, h2, h3⟩ := hrel
    by_cases hkn : k < n
    · obtain ⟨R, hR⟩ : ∃ R, R = B ++ bitsOf q k := ⟨_, rfl⟩
      have hRl : R.length ≤ 2000000 := by rw [hR, List.length_append, bitsOf_len]; omega
      have HR : Hid (B ++ bitsOf q (k + 1) = R ++ [Go.bits .and .i64 ((q : Int) / 2 ^ k) 1 == 1]) := Lib.hid (by rw [hR, bitsOf_succ, digit q k (by omega), List.append_assoc])
      rw [← hR] at h1
      clear hR
      have d0 := h1.cell
      have H1 := Lib.hid h1
      have H2 := Lib.hid h2
      have H3 := Lib.hid h3
      clear h1 h2 h3
      go_wp2_with fail
      have T := Lib.hid (lit_b wr.drew)
      have kA : ∀ z, Kp (fun _ => False) wr (wr.drew.alloc (.cells #[.bool z] 4)) := fun z => ((Kp.refl _ _).drew).alloc _
      have KA := Lib.hid kA
      have d1 := (((Kp.refl (fun _ => False) wr).alloc (.cells #[.bool (Go.bits .and .i64 ((q : Int) / 2 ^ k) 1 == 1)] 4)).cell (p := ⟨p, 0, none⟩) (lt_of_at H1.out.hp) (fun q => q)).trans d0
      have HO := Lib.hid (fun z => H1.out.own.kp (kA z) (fun _ _ q => q))
      clear kA
      go_region_law (first
        | (refine step_app _ rfl (.tmp 33) (.tmp 39) 225 rfl 4 i0 _ 1 1 Tryz.underlying225 hi0 hz0 hz1 hz2 rfl (by decide) (by decide) (.slice a' R.length c') R.length _ (by simp [Act.eval]) (HO.out _) (.slice (some ⟨wr.heap.size, 0, none⟩) 1 1) 1 _ (by simp [Act.eval]) (T.out _) (one_b _) (by omega) ?_; intro v1 w3 g1 g2 g3 g4 g5; obtain ⟨b1, d1, rfl⟩ := g1.form; obtain ⟨f1, f2, f3⟩ := H1.out.app (KA.out _) g1 g2 g3; have F3 := Lib.hid f3; clear g1 g2 g3 g4 g5 f3))
      all_goals (go_wp2_with fail; exact ⟨⟨k + 1, by omega, by go_num, by rw [HR.out]; exact WrPost.trans H2.out H3.out F3.out⟩, by simp [intOf]; omega⟩)
    · obtain rfl : k = n := by omega
      have HW : Hid (WrPost 227 F w' p (B ++ bitsOf q k) wr) := Lib.hid ⟨F', a', c', h1, h2, h3⟩
      clear h1 h2 h3
      go_wp2_with fail
      go_ret
      exact ⟨rfl, HW.out⟩
end Go.Proofs.YtmioiaeiflbmhaaGreat.Bw
namespace Go.Proofs.YtmioiaeiflbmhaaGreat.Bw
open Go Go.RowKit Go.ChangeMaps Go.MapKept Go.Mg Go.Hf Go.Sort Go.Proofs.YtmioiaeiflbmhaaGreat.Hu
def pk (B : Nat → Bool) : Nat → Nat → Nat
  | 0, _ => 0
  | k + 1, j => if B k = true ∧ j = k / 8 then pk B k j ||| 2 ^ (k % 8) else pk B k j
theorem pk_lt (B : Nat → Bool) (k j : Nat) : pk B k j < 256 := by
  induction k with
  | zero => simp [pk]
  | succ k ih =>
    simp only [pk]
    split
    · have h1 : 2 ^ (k % 8) < 2 ^ 8 := Nat.pow_lt_pow_right (by omega) (by omega)
      exact Nat.or_lt_two_pow (n := 8) ih h1
    · exact ih
def fin (B : Nat → Bool) (n j : Nat) : Nat := if j = n / 8 then pk B n j ||| 2 ^ (n % 8) else pk B n j
theorem fin_lt (B : Nat → Bool) (n j : Nat) : fin B n j < 256 := by
  unfold fin
  split
  · have h1 : 2 ^ (n % 8) < 2 ^ 8 := Nat.pow_lt_pow_right (by omega) (by omega)
    exact Nat.or_lt_two_pow (n := 8) (pk_lt B n j) h1
  · exact pk_lt B n j
def UAt (w : World) (g N : Nat) (out : Nat → Nat) : Prop := w.heap[g]? = some (.cells ((List.range N).map fun i => Value.int .u8 (out i : Nat)).toArray 5 (0, 0))
theorem UAt.set {w : World} {g N : Nat} {out : Nat → Nat} (h : UAt w g N out) {i : Nat} (hi : i < N) (x : Nat) : UAt (w.setCell ⟨g, i, none⟩ (.int .u8 (x : Nat))) g N (fun j => if j = i then x else out j) := by
  have h2 := setCell_at (i := i) h (.int .u8 (x : Nat))
  unfold UAt
  rw [h2]
  congr 2
  apply Array.ext_getElem?
  intro k
  rw [Array.getElem?_setIfInBounds]
  simp only [List.size_toArray, List.length_map, List.length_range, List.getElem?_toArray, List.getElem?_map]
  by_cases hk : i = k
  · subst hk
    rw [if_pos rfl, if_pos hi, List.getElem?_range hi]
    simp
  · rw [if_neg hk]
    by_cases hkn : k < N
    · rw [List.getElem?_range hkn]
      have : ¬ k = i := fun e => hk e.symm
      simp [this]
    · rw [List.getElem?_eq_none (by simpa using hkn)]
      rfl
theorem UAt.cell {w : World} {g N : Nat} {out : Nat → Nat} (h : UAt w g N out) {i : Nat} (hi : i < N) : w.cell? ⟨g, i, none⟩ = some (.int .u8 (out i : Nat)) := by
  rw [cell_of h]; simp [hi]
theorem UAt.kp {w w' : World} {g N : Nat} {out : Nat → Nat} {F : Nat → Prop} (h : UAt w g N out) (hk : Kp F w w') (hn : ¬ F g) : UAt w' g N out := hk.at_ h hn
theorem UAt.sl {w : World} {g N : Nat} {out : Nat → Nat} (h : UAt w g N out) (hN : N ≤ 100000) : SlR w 1 (.slice (some ⟨g, 0, none⟩) N N) N ((List.range N).map fun i => .int .u8 (out i : Nat)) := by
  refine ⟨by simp, _, _, rfl, Nat.le_refl _, by unfold maxLen; omega, (fun h => by cases h), fun _ => ⟨g, 0, rfl, lt_of_at h, fun i u hu => ?_⟩⟩
  rw [Nat.zero_add, cell_of h]
  simpa using hu
theorem infoU : (Tryz.prog.info? 5).map (fun i => (i.zero, i.size, i.bytes)) = some (some (.int .u8 0), 1, 1) := by kernel_rfl
theorem make_u8 (w : World) (n : Nat) (hn : n ≤ 1000000) : ∃ cur : Array Value, cur.toList = List.replicate n (.int .u8 0) ∧
    (Instr.makeSlice 23 (.int .i64 (n : Nat)) (.int .i64 (n : Nat))).run Tryz.prog w = .ok (.slice (some ⟨w.heap.size, 0, none⟩) n n) (w.alloc (.cells cur 5)) := by
  obtain ⟨i0, hi0, hz0, hz1, hz2⟩ := info_parts infoU
  have h := run_make (P := Tryz.prog) w 23 5 i0 _ Tryz.underlying23 hi0 hz0 .i64 .i64 (n : Int) (n : Int) (by omega) (by omega) (by rw [hz2]; omega) (by omega)
  rw [hz1] at h
  refine ⟨_, ?_, h⟩
  show (madeCells #[_] _).toList = _
  rw [toList_madeCells_one]
  simp
theorem UAt.made {w : World} {n : Nat} {cur : Array Value} (hc : cur.toList = List.replicate n (.int .u8 0)) : UAt (w.alloc (.cells cur 5)) w.heap.size n (fun _ => 0) := by
  unfold UAt
  rw [alloc_at w _]
  congr 2
  apply Array.toList_inj.1
  rw [hc]
  apply List.ext_getElem
  · simp
  · intro i h1 h2
    simp
def BytesPost (w : World) (B : List Bool) (e : Ending) (w' : World) : Prop := ∃ g, e = .returned (.slice (some ⟨g, 0, none⟩) (B.length / 8 + 1) (B.length / 8 + 1)) ∧ w.heap.size ≤ g ∧ UAt w' g (B.length / 8 + 1) (fin (fun i => B[i]?.getD false) B.length) ∧ Kp (fun _ => False) w w'
theorem own_bit {w : World} {a : Option Addr} {c : Nat} {B : List Bool} (h : OwnR w 4 1 (.slice a B.length c) B.length (B.map Value.bool)) (h0 : 0 < B.length) : ∃ g, a = some ⟨g, 0, none⟩ ∧ g < w.heap.size ∧ B.length ≤ c ∧ ∀ i, i < B.length → w.cell? ⟨g, i, none⟩ = some (.bool (B[i]?.getD false)) := by
  obtain ⟨g, rfl, hc, hat⟩ := h.at1 h0
  refine ⟨g, rfl, h.lt rfl, hc, fun i hi => (hat i hi).1 _ ?_⟩
  simp [hi]
theorem or_val (x k : Nat) (hx : x < 256) : Go.bits .or .u8 (x : Int) (2 ^ (k % 8) % 256) = ((x ||| 2 ^ (k % 8) : Nat) : Int) := by
  have h1 : 2 ^ (k % 8) < 2 ^ 8 := Nat.pow_lt_pow_right (by omega) (by omega)
  have h2 : 2 ^ 8 = 256 := rfl
  have := (bits_nat .u8 8 (by decide) wraps_u8 x (2 ^ (k % 8)) hx h1).2
  have e : ((2 : Int) ^ (k % 8) % 256) = ((2 ^ (k % 8) : Nat) : Int) := by
    have e2 : ((2 ^ (k % 8) : Nat) : Int) = (2 : Int) ^ (k % 8) := by simp
    rw [← e2]
    rw [h2] at h1
    clear this
    generalize 2 ^ (k % 8) = y at h1
    omega
  rw [e]
  exact this
theorem pk_set (bt : Nat → Bool) (k x : Nat) (hx : x = pk bt k (k / 8)) (hb : bt k = true) : (fun j => if j = k / 8 then x ||| 2 ^ (k % 8) else pk bt k j) = pk bt (k + 1) := by
  funext j
  simp only [pk, hb, true_and]
  by_cases h : j = k / 8
  · rw [if_pos h, if_pos h, hx, h]
  · rw [if_neg h, if_neg h]
theorem pk_skip (bt : Nat → Bool) (k : Nat) (hb : bt k = false) : pk bt k = pk bt (k + 1) := by
  funext j
  simp [pk, hb]
theorem fin_set (bt : Nat → Bool) (k x : Nat) (hx : x = pk bt k (k / 8)) : (fun j => if j = k / 8 then x ||| 2 ^ (k % 8) else pk bt k j) = fin bt k := by
  funext j
  unfold fin
  by_cases h : j = k / 8
  · rw [if_pos h, if_pos h, hx, h]
  · rw [if_neg h, if_neg h]
end Go.Proofs.YtmioiaeiflbmhaaGreat.Bw
namespace Go.Proofs.YtmioiaeiflbmhaaGreat.Bw
open Go Go.RowKit Go.ChangeMaps Go.MapKept Go.Mg Go.Hf Go.Sort Go.Proofs.YtmioiaeiflbmhaaGreat.Hu
set_option maxRecDepth 100000 in
set_option maxHeartbeats 2000000 in
theorem bytes_p {F : Nat → Prop} {w : World} {p : Nat} {a : Option Addr} {c : Nat} {B : List Bool} (h : WrAt 227 F w p a c B) (hB : B.length ≤ 100000) :
    Calls Tryz.prog 153 #[.pointer (some ⟨p, 0, none⟩)] w (BytesPost w B) := by
  obtain ⟨n, hn⟩ : ∃ n, n = B.length := ⟨_, rfl⟩
  obtain ⟨m, hm⟩ : ∃ m, m = n / 8 + 1 := ⟨_, rfl⟩
  have hmi : ((n : Int) / 8 + 1) = (m : Int) := by omega
  obtain ⟨cur, hcur, hmk⟩ := make_u8 w m (by omega)
  have U0 : Hid (UAt (w.alloc (.cells cur 5)) w.heap.size m (pk (fun i => B[i]?.getD false) 0)) := Lib.hid (UAt.made hcur)
  have K0 : Hid (Kp (fun _ => False) w (w.alloc (.cells cur 5))) := Lib.hid ((Kp.refl _ _).alloc _)
  have d0 := h.cell
  have HB := Lib.hid (fun h0 => own_bit h.own h0)
  unfold BytesPost
  rw [← hn] at HB hB d0 ⊢
  rw [← hm]
  obtain ⟨bt, hbt⟩ : ∃ bt : Nat → Bool, bt = fun i => B[i]?.getD false := ⟨_, rfl⟩
  have HBT := Lib.hid hbt
  rw [← hbt] at U0 ⊢
  have hps : p < w.heap.size := lt_of_at h.hp
  have HNN := Lib.hid hn
  have HMM := Lib.hid hm
  have hm1 : n < 8 * m := by omega
  have hm2 : m ≤ 12501 := by omega
  clear hcur h hbt hn hm
  go_enter Tryz.func153, Tryz.ntmps153
  go_wp2_with fail
  generalize hW : w.alloc (.cells cur 5) = W at U0 K0 ⊢
  clear hmk hW
  go_loopw [21] (fun i wr => ∃ k : Nat, k ≤ n ∧ i = .int .i64 k ∧ UAt wr w.heap.size m (pk bt k) ∧ Kp (fun _ => False) w wr) (fun i _ => n - (intOf i).toNat)
  case atStart => exact ⟨0, Nat.zero_le _, rfl, U0.out, K0.out⟩
  case round =>
    clear U0 K0
    obtain ⟨k, hk, rfl, hu, hkp⟩ := hrel
    have d1 := (hkp.cell (p := ⟨p, 0, none⟩) hps (fun q => q)).trans d0
    have HK := Lib.hid hkp
    have HU := Lib.hid hu
    by_cases hkn : k < n
    · obtain ⟨gb, rfl, hgb, hcap, hbit⟩ := HB.out (by omega)
      have d2 := (hkp.cell (p := ⟨gb, k, none⟩) hgb (fun q => q)).trans (hbit k hkn)
      rw [show B[k]?.getD false = bt k by rw [HBT.out]] at d2
      have hk8 : k / 8 < m := by omega
      have f1 := hu.cell hk8
      have f2 : wr.frozen? ⟨w.heap.size, k / 8, none⟩ = false := free_of hu (k / 8)
      have hlt := pk_lt bt k (k / 8)
      have HSET := Lib.hid (UAt.set (w := wr.drew) hu hk8 (pk bt k (k / 8) ||| 2 ^ (k % 8)))
      obtain ⟨x, hx⟩ : ∃ x, x = pk bt k (k / 8) := ⟨_, rfl⟩
      rw [← hx] at f1 hlt HSET
      have HX := Lib.hid hx
      have E1 := Lib.hid (or_val x k hlt)
      obtain ⟨tb, htb⟩ : ∃ tb, tb = bt k := ⟨_, rfl⟩
      rw [← htb] at d2
      have HTB := Lib.hid htb
      clear hu hkp hbit hx htb
      cases tb with
      | true =>
        go_wp2_with fail
        have q1 : IntKind.i64.wrap ((k : Int) / 8) = (k : Int) / 8 := by rw [IntKind.wrap_i64]; omega
        have q2 : 0 ≤ (k : Int) / 8 := by omega
        have q3 : (k : Int) / 8 < (m : Int) := by omega
        have q4 : ((k : Int) / 8).toNat = k / 8 := by omega
        have q5 : (k : Int).tmod 8 = (k : Int) % 8 := Int.tmod_eq_emod_of_nonneg (by omega)
        have q6 : 0 ≤ (k : Int) % 8 := by omega
        have q7 : (k : Int) % 8 ≤ 8 := by omega
        have q8 : ((k : Int) % 8).toNat = k % 8 := by omega
        go_region_law (fail)
        all_goals
          go_wp2_with fail
          refine ⟨⟨k + 1, by omega, by go_num, ?_, ?_⟩, by simp [intOf]; omega⟩
          · rw [E1.out, ← pk_set bt k x HX.out HTB.out.symm]
            exact HSET.out
          · exact HK.out.drew.setCell (p := ⟨w.heap.size, k / 8, none⟩) (fun q => by simp only at q; omega) _
      | false =>
        go_wp2_with fail
        refine ⟨⟨k + 1, by omega, by go_num, ?_, HK.out⟩, by simp [intOf]; omega⟩
        rw [← pk_skip bt k HTB.out.symm]
        exact HU.out
    · obtain rfl : k = n := by omega
      have hk8 : k / 8 < m := by have := HMM.out; omega
      have f1 := hu.cell hk8
      have f2 : wr.frozen? ⟨w.heap.size, k / 8, none⟩ = false := free_of hu (k / 8)
      have hlt := pk_lt bt k (k / 8)
      have HSET := Lib.hid (UAt.set (w := wr.drew) hu hk8 (pk bt k (k / 8) ||| 2 ^ (k % 8)))
      obtain ⟨x, hx⟩ : ∃ x, x = pk bt k (k / 8) := ⟨_, rfl⟩
      rw [← hx] at f1 hlt HSET
      have HX := Lib.hid hx
      have E1 := Lib.hid (or_val x k hlt)
      clear hu hkp hx d0
      go_wp2_with fail
      have q1 : IntKind.i64.wrap ((k : Int) / 8) = (k : Int) / 8 := by rw [IntKind.wrap_i64]; omega
      have q2 : 0 ≤ (k : Int) / 8 := by omega
      have q3 : (k : Int) / 8 < (m : Int) := by omega
      have q4 : ((k : Int) / 8).toNat = k / 8 := by omega
      have q5 : (k : Int).tmod 8 = (k : Int) % 8 := Int.tmod_eq_emod_of_nonneg (by omega)
      have q6 : 0 ≤ (k : Int) % 8 := by omega
      have q7 : (k : Int) % 8 ≤ 8 := by omega
      have q8 : ((k : Int) % 8).toNat = k % 8 := by omega
      go_region_law (fail)
      all_goals
        go_wp2_with fail
        go_ret
        refine ⟨w.heap.size, rfl, Nat.le_refl _, ?_, ?_⟩
        · first
            | rw [E1.out, ← fin_set bt k x HX.out]
            | rw [IntKind.wrap_u8, E1.out, ← fin_set bt k x HX.out]
          exact HSET.out
        · first
            | exact HK.out.drew.setCell (p := ⟨w.heap.size, k / 8, none⟩) (fun q => by simp only at q; omega) _
            | exact (HK.out.setCell (p := ⟨w.heap.size, k / 8, none⟩) (fun q => by simp only at q; omega) _).drew
end Go.Proofs.YtmioiaeiflbmhaaGreat.Bw
namespace Go.Mg
open Go Go.RowKit Go.ChangeMaps Go.MapKept
def RowM {α : Type} (e : TypeId) (enc : α → Value) (B : Nat) (w : World) (v : Value) (l : List α) : Prop := ∃ a c, v = .slice a l.length c ∧ OwnR w e 1 v l.length (l.map enc) ∧ ∀ k, v.ownBlock = some k → B ≤ k
def RowG {α : Type} (e : TypeId) (size : Nat) (enc : α → List Value) (B : Nat) (w : World) (v : Value) (l : List α) : Prop := ∃ a c, v = .slice a l.length c ∧ OwnR w e size v l.length (l.flatMap enc) ∧ ∀ k, v.ownBlock = some k → B ≤ k
variable {α : Type} {e : TypeId} {size B : Nat} {w w' : World} {v : Value}
theorem RowM.nil {enc : α → Value} (e : TypeId) (B : Nat) (w : World) : RowM e enc B w (.slice none 0 0) [] := ⟨none, 0, rfl, OwnR.nil _ _ _, fun k h => by cases h⟩
theorem RowG.nil {enc : α → List Value} (e : TypeId) (size B : Nat) (w : World) : RowG e size enc B w (.slice none 0 0) [] := ⟨none, 0, rfl, OwnR.nil _ _ _, fun k h => by cases h⟩
theorem RowM.kp {enc : α → Value} {l : List α} {F : Nat → Prop} (h : RowM e enc B w v l) (hk : Kp F w w') (hF : ∀ k, F k → k < B) : RowM e enc B w' v l := by
  obtain ⟨a, c, q, h1, h2⟩ := h
  exact ⟨a, c, q, h1.kp hk (fun k q r => by have := h2 k q; have := hF k r; omega), h2⟩
theorem RowG.kp {enc : α → List Value} {l : List α} {F : Nat → Prop} (h : RowG e size enc B w v l) (hk : Kp F w w') (hF : ∀ k, F k → k < B) : RowG e size enc B w' v l := by
  obtain ⟨a, c, q, h1, h2⟩ := h
  exact ⟨a, c, q, h1.kp hk (fun k q r => by have := h2 k q; have := hF k r; omega), h2⟩
theorem RowM.kp0 {enc : α → Value} {l : List α} (h : RowM e enc B w v l) (hk : Kp (fun _ => False) w w') : RowM e enc B w' v l := h.kp hk (fun _ q => q.elim)
theorem RowG.kp0 {enc : α → List Value} {l : List α} (h : RowG e size enc B w v l) (hk : Kp (fun _ => False) w w') : RowG e size enc B w' v l := h.kp hk (fun _ q => q.elim)
theorem RowM.low {enc : α → Value} {l : List α} {B' : Nat} (h : RowM e enc B w v l) (hb : B' ≤ B) : RowM e enc B' w v l := by
  obtain ⟨a, c, q, h1, h2⟩ := h
  exact ⟨a, c, q, h1, fun k q => by have := h2 k q; omega⟩
theorem RowG.low {enc : α → List Value} {l : List α} {B' : Nat} (h : RowG e size enc B w v l) (hb : B' ≤ B) : RowG e size enc B' w v l := by
  obtain ⟨a, c, q, h1, h2⟩ := h
  exact ⟨a, c, q, h1, fun k q => by have := h2 k q; omega⟩
theorem RowM.lt {enc : α → Value} {l : List α} (h : RowM e enc B w v l) {k : Nat} (hk : v.ownBlock = some k) : B ≤ k ∧ k < w.heap.size := by
  obtain ⟨_, _, _, ho, hb⟩ := h
  exact ⟨hb k hk, ho.lt hk⟩
theorem RowG.lt {enc : α → List Value} {l : List α} (h : RowG e size enc B w v l) {k : Nat} (hk : v.ownBlock = some k) : B ≤ k ∧ k < w.heap.size := by
  obtain ⟨_, _, _, ho, hb⟩ := h
  exact ⟨hb k hk, ho.lt hk⟩
theorem RowM.sl {enc : α → Value} {l : List α} {a : Option Addr} {n c : Nat} (h : RowM e enc B w (.slice a n c) l) : SlR w 1 (.slice a l.length c) l.length (l.map enc) ∧ n = l.length := by
  obtain ⟨a', c', q, h1, h2⟩ := h
  simp only [Value.slice.injEq] at q
  obtain ⟨rfl, rfl, rfl⟩ := q
  exact ⟨h1.sl, rfl⟩
theorem RowG.sl {enc : α → List Value} {l : List α} {a : Option Addr} {n c : Nat} (h : RowG e size enc B w (.slice a n c) l) : SlR w size (.slice a l.length c) l.length (l.flatMap enc) ∧ n = l.length := by
  obtain ⟨a', c', q, h1, h2⟩ := h
  simp only [Value.slice.injEq] at q
  obtain ⟨rfl, rfl, rfl⟩ := q
  exact ⟨h1.sl, rfl⟩
theorem RowM.app {enc : α → Value} {wr w2 w5 : World} {a : Option Addr} {n c : Nat} {l r : List α} (hw : Kp (fun _ => False) w wr) (h2 : Kp (fun _ => False) wr w2) (hn : l.length = n) (ho : ∀ k, (Value.slice a n c).ownBlock = some k → w.heap.size ≤ k)
    {a' : Option Addr} {m c' : Nat} (hm : l.length + r.length = m) (g1 : OwnR w5 e 1 (.slice a' m c') m (l.map enc ++ r.map enc)) (g2 : Kp (fun k => (Value.slice a n c).ownBlock = some k) w2 w5)
    (g3 : (Value.slice a' m c').ownBlock = (Value.slice a n c).ownBlock ∨ (Value.slice a' m c').ownBlock = some w2.heap.size) :
    RowM e enc w.heap.size w5 (.slice a' m c') (l ++ r) ∧ Kp (fun _ => False) w w5 := by
  subst hn
  subst hm
  refine ⟨⟨a', c', by simp, by rw [List.length_append, List.map_append]; exact g1, fun k hk => ?_⟩, (hw.trans h2).trans2 g2 (fun i hi q => by have := ho i q; omega)⟩
  rcases g3 with q | q
  · exact ho k (q.symm.trans hk)
  · rw [hk] at q
    cases q
    have := hw.size; have := h2.size; omega
theorem RowG.app {enc : α → List Value} {wr w2 w5 : World} {a : Option Addr} {n c : Nat} {l r : List α} (hw : Kp (fun _ => False) w wr) (h2 : Kp (fun _ => False) wr w2) (hn : l.length = n) (ho : ∀ k, (Value.slice a n c).ownBlock = some k → w.heap.size ≤ k)
    {a' : Option Addr} {m c' : Nat} (hm : l.length + r.length = m) (g1 : OwnR w5 e size (.slice a' m c') m (l.flatMap enc ++ r.flatMap enc)) (g2 : Kp (fun k => (Value.slice a n c).ownBlock = some k) w2 w5)
    (g3 : (Value.slice a' m c').ownBlock = (Value.slice a n c).ownBlock ∨ (Value.slice a' m c').ownBlock = some w2.heap.size) :
    RowG e size enc w.heap.size w5 (.slice a' m c') (l ++ r) ∧ Kp (fun _ => False) w w5 := by
  subst hn
  subst hm
  refine ⟨⟨a', c', by simp, by rw [List.length_append, List.flatMap_append]; exact g1, fun k hk => ?_⟩, (hw.trans h2).trans2 g2 (fun i hi q => by have := ho i q; omega)⟩
  rcases g3 with q | q
  · exact ho k (q.symm.trans hk)
  · rw [hk] at q
    cases q
    have := hw.size; have := h2.size; omega
theorem lit_g (w : World) (e : TypeId) (cs : List Value) (hc : cs.length = size) : SlR (w.alloc (.cells cs.toArray e)) size (.slice (some ⟨w.heap.size, 0, none⟩) 1 1) 1 cs := by
  refine ⟨by simp [hc], _, _, rfl, Nat.le_refl _, by unfold maxLen; omega, (fun h => by cases h), fun _ => ⟨w.heap.size, 0, rfl, by simp, fun i u hu => ?_⟩⟩
  rw [Nat.zero_add, cell_of (alloc_at w _)]
  simpa using hu
theorem lit_m (w : World) (e : TypeId) (cs : List Value) {n : Nat} (hn : cs.length = n) (hc : n ≤ 1000) : SlR (w.alloc (.cells cs.toArray e)) 1 (.slice (some ⟨w.heap.size, 0, none⟩) n n) n cs := by
  subst hn
  refine ⟨by simp, _, _, rfl, Nat.le_refl _, by unfold maxLen; omega, (fun h => by cases h), fun _ => ⟨w.heap.size, 0, rfl, by simp, fun i u hu => ?_⟩⟩
  rw [Nat.zero_add, cell_of (alloc_at w _)]
  simpa using hu
theorem own_m (w : World) (e : TypeId) (cs : List Value) {n : Nat} (hn : cs.length = n) (hc : n ≤ 1000) : OwnR (w.alloc (.cells cs.toArray e)) e 1 (.slice (some ⟨w.heap.size, 0, none⟩) n n) n cs := by
  subst hn
  exact ⟨by simp, .inr ⟨w.heap.size, _, cs.toArray, (0, 0), rfl, alloc_at w _, .inl rfl, Nat.le_refl _, by unfold maxLen; omega, by simp, by simp⟩⟩
theorem kp_alloc (w : World) (o : Obj) : Kp (fun _ => False) w (w.alloc o) := (Kp.refl _ _).alloc _
theorem wpList_appM {P : Program} {w0 : World} (w : World) {ops : Array Oper} {rest : List Oper} {o : Oper} {a : Act} {Q : Exit → Act → World → Prop} (hgd : o.guard = none) (s x : Operand) (t : TypeId) (ho : o.op = .call { callee := .builtin .append, args := #[s, x], argTypes := #[t, t] })
    (e : TypeId) (i : TypeInfo) (z : Value) (bytes : Nat) (ht : P.underlying t = some (.slice e)) (hi : P.info? e = some i) (hz : i.zero = some z) (hsize : i.size = 1) (hby : i.bytes = bytes) (hzs : z.cells.size = 1) (hsz : 0 < 1) (hbp : 0 < bytes)
    {enc : α → Value} (h1 : ∀ y, (enc y).oneCell' = true) (v : Value) (l : List α) (hs : a.eval s = v) (hrow : RowM e enc w0.heap.size w v l) (xv : Value) (m : Nat) (r : List α) (hx : a.eval x = xv) (hsl : SlR w 1 xv m (r.map enc)) (hm : r.length = m) (hw : Kp (fun _ => False) w0 w) (n' : Nat) (hn : l.length + m = n') (hbytes : n' * bytes ≤ 140737488355328)
    (h : ∀ a' c' w', RowM e enc w0.heap.size w' (.slice a' n' c') (l ++ r) → Kp (fun _ => False) w0 w' → Kp (fun k => v.ownBlock = some k) w w' → wpList P ops Q rest (a.put o.dst (.slice a' n' c')) w') : wpList P ops Q (o :: rest) a w := by
  have e1 : ∀ u ∈ r.map enc, u.oneCell' = true := by
    intro u hu
    obtain ⟨y, _, rfl⟩ := List.mem_map.1 hu
    exact h1 y
  obtain ⟨av, cv, rfl, hown, hb⟩ := hrow
  exact wpList_app w hgd s x t ho e i z 1 bytes ht hi hz hsize hby hzs hsz hbp _ _ _ hs hown xv m _ hx hsl e1 (by rw [hn]; exact hbytes) (fun v' w' g1 g2 g3 g4 g5 => by
    obtain ⟨b1, d1, rfl⟩ := g1.form
    subst hn
    have G := RowM.app (w := w0) (l := l) (r := r) hw (Kp.refl _ _) rfl hb (by rw [hm]) g1 g2 g3
    exact h _ _ _ G.1 G.2 g2)
theorem step_appM {P : Program} {w0 : World} (w : World) {ops : Array Oper} {o : Oper} {a : Act} {Q : Exit → Act → World → Prop} {E : Prop} (hgd : o.guard = none) (s x : Operand) (t : TypeId) (ho : o.op = .call { callee := .builtin .append, args := #[s, x], argTypes := #[t, t] })
    (e : TypeId) (i : TypeInfo) (z : Value) (bytes : Nat) (ht : P.underlying t = some (.slice e)) (hi : P.info? e = some i) (hz : i.zero = some z) (hsize : i.size = 1) (hby : i.bytes = bytes) (hzs : z.cells.size = 1) (hsz : 0 < 1) (hbp : 0 < bytes)
    {enc : α → Value} (h1 : ∀ y, (enc y).oneCell' = true) (v : Value) (l : List α) (hs : a.eval s = v) (hrow : RowM e enc w0.heap.size w v l) (xv : Value) (m : Nat) (r : List α) (hx : a.eval x = xv) (hsl : SlR w 1 xv m (r.map enc)) (hm : r.length = m) (hw : Kp (fun _ => False) w0 w) (n' : Nat) (hn : l.length + m = n') (hbytes : n' * bytes ≤ 140737488355328)
    {K : Act → World → Prop} (h : ∀ a' c' w', RowM e enc w0.heap.size w' (.slice a' n' c') (l ++ r) → Kp (fun _ => False) w0 w' → Kp (fun k => v.ownBlock = some k) w w' → K (a.put o.dst (.slice a' n' c')) w') : if Region.wanted o (yielded ops a.tmps) = true then Oper.wp P o a w K Q else E := by
  have e1 : ∀ u ∈ r.map enc, u.oneCell' = true := by
    intro u hu
    obtain ⟨y, _, rfl⟩ := List.mem_map.1 hu
    exact h1 y
  obtain ⟨av, cv, rfl, hown, hb⟩ := hrow
  exact step_app w hgd s x t ho e i z 1 bytes ht hi hz hsize hby hzs hsz hbp _ _ _ hs hown xv m _ hx hsl e1 (by rw [hn]; exact hbytes) (fun v' w' g1 g2 g3 g4 g5 => by
    obtain ⟨b1, d1, rfl⟩ := g1.form
    subst hn
    have G := RowM.app (w := w0) (l := l) (r := r) hw (Kp.refl _ _) rfl hb (by rw [hm]) g1 g2 g3
    exact h _ _ _ G.1 G.2 g2)
theorem wpList_appG {P : Program} {w0 : World} (w : World) {ops : Array Oper} {rest : List Oper} {o : Oper} {a : Act} {Q : Exit → Act → World → Prop} (hgd : o.guard = none) (s x : Operand) (t : TypeId) (ho : o.op = .call { callee := .builtin .append, args := #[s, x], argTypes := #[t, t] })
    (e : TypeId) (i : TypeInfo) (z : Value) (size bytes : Nat) (ht : P.underlying t = some (.slice e)) (hi : P.info? e = some i) (hz : i.zero = some z) (hsize : i.size = size) (hby : i.bytes = bytes) (hzs : z.cells.size = size) (hsz : 0 < size) (hbp : 0 < bytes)
    {enc : α → List Value} (h1 : ∀ y, ∀ u ∈ enc y, u.oneCell' = true) (v : Value) (l : List α) (hs : a.eval s = v) (hrow : RowG e size enc w0.heap.size w v l) (xv : Value) (m : Nat) (r : List α) (hx : a.eval x = xv) (hsl : SlR w size xv m (r.flatMap enc)) (hm : r.length = m) (hw : Kp (fun _ => False) w0 w) (n' : Nat) (hn : l.length + m = n') (hbytes : n' * bytes ≤ 140737488355328)
    (h : ∀ a' c' w', RowG e size enc w0.heap.size w' (.slice a' n' c') (l ++ r) → Kp (fun _ => False) w0 w' → Kp (fun k => v.ownBlock = some k) w w' → wpList P ops Q rest (a.put o.dst (.slice a' n' c')) w') : wpList P ops Q (o :: rest) a w := by
  have e1 : ∀ u ∈ r.flatMap enc, u.oneCell' = true := by
    intro u hu
    obtain ⟨y, _, hy⟩ := List.mem_flatMap.1 hu
    exact h1 y u hy
  obtain ⟨av, cv, rfl, hown, hb⟩ := hrow
  exact wpList_app w hgd s x t ho e i z size bytes ht hi hz hsize hby hzs hsz hbp _ _ _ hs hown xv m _ hx hsl e1 (by rw [hn]; exact hbytes) (fun v' w' g1 g2 g3 g4 g5 => by
    obtain ⟨b1, d1, rfl⟩ := g1.form
    subst hn
    have G := RowG.app (w := w0) (l := l) (r := r) hw (Kp.refl _ _) rfl hb (by rw [hm]) g1 g2 g3
    exact h _ _ _ G.1 G.2 g2)
theorem step_appG {P : Program} {w0 : World} (w : World) {ops : Array Oper} {o : Oper} {a : Act} {Q : Exit → Act → World → Prop} {E : Prop} (hgd : o.guard = none) (s x : Operand) (t : TypeId) (ho : o.op = .call { callee := .builtin .append, args := #[s, x], argTypes := #[t, t] })
    (e : TypeId) (i : TypeInfo) (z : Value) (size bytes : Nat) (ht : P.underlying t = some (.slice e)) (hi : P.info? e = some i) (hz : i.zero = some z) (hsize : i.size = size) (hby : i.bytes = bytes) (hzs : z.cells.size = size) (hsz : 0 < size) (hbp : 0 < bytes)
    {enc : α → List Value} (h1 : ∀ y, ∀ u ∈ enc y, u.oneCell' = true) (v : Value) (l : List α) (hs : a.eval s = v) (hrow : RowG e size enc w0.heap.size w v l) (xv : Value) (m : Nat) (r : List α) (hx : a.eval x = xv) (hsl : SlR w size xv m (r.flatMap enc)) (hm : r.length = m) (hw : Kp (fun _ => False) w0 w) (n' : Nat) (hn : l.length + m = n') (hbytes : n' * bytes ≤ 140737488355328)
    {K : Act → World → Prop} (h : ∀ a' c' w', RowG e size enc w0.heap.size w' (.slice a' n' c') (l ++ r) → Kp (fun _ => False) w0 w' → Kp (fun k => v.ownBlock = some k) w w' → K (a.put o.dst (.slice a' n' c')) w') : if Region.wanted o (yielded ops a.tmps) = true then Oper.wp P o a w K Q else E := by
  have e1 : ∀ u ∈ r.flatMap enc, u.oneCell' = true := by
    intro u hu
    obtain ⟨y, _, hy⟩ := List.mem_flatMap.1 hu
    exact h1 y u hy
  obtain ⟨av, cv, rfl, hown, hb⟩ := hrow
  exact step_app w hgd s x t ho e i z size bytes ht hi hz hsize hby hzs hsz hbp _ _ _ hs hown xv m _ hx hsl e1 (by rw [hn]; exact hbytes) (fun v' w' g1 g2 g3 g4 g5 => by
    obtain ⟨b1, d1, rfl⟩ := g1.form
    subst hn
    have G := RowG.app (w := w0) (l := l) (r := r) hw (Kp.refl _ _) rfl hb (by rw [hm]) g1 g2 g3
    exact h _ _ _ G.1 G.2 g2)
theorem wpList_appBM {P : Program} {B : Nat} (w : World) {ops : Array Oper} {rest : List Oper} {o : Oper} {a : Act} {Q : Exit → Act → World → Prop} (hgd : o.guard = none) (s x : Operand) (t : TypeId) (ho : o.op = .call { callee := .builtin .append, args := #[s, x], argTypes := #[t, t] })
    (e : TypeId) (i : TypeInfo) (z : Value) (bytes : Nat) (ht : P.underlying t = some (.slice e)) (hi : P.info? e = some i) (hz : i.zero = some z) (hsize : i.size = 1) (hby : i.bytes = bytes) (hzs : z.cells.size = 1) (hsz : 0 < 1) (hbp : 0 < bytes)
    {enc : α → Value} (h1 : ∀ y, (enc y).oneCell' = true) (v : Value) (l : List α) (hs : a.eval s = v) (hrow : RowM e enc B w v l) (hB : B ≤ w.heap.size) (xv : Value) (m : Nat) (r : List α) (hx : a.eval x = xv) (hsl : SlR w 1 xv m (r.map enc)) (hm : r.length = m) (n' : Nat) (hn : l.length + m = n') (hbytes : n' * bytes ≤ 140737488355328)
    (h : ∀ a' c' w', RowM e enc B w' (.slice a' n' c') (l ++ r) → Kp (fun k => B ≤ k) w w' → wpList P ops Q rest (a.put o.dst (.slice a' n' c')) w') : wpList P ops Q (o :: rest) a w := by
  have e1 : ∀ u ∈ r.map enc, u.oneCell' = true := by
    intro u hu
    obtain ⟨y, _, rfl⟩ := List.mem_map.1 hu
    exact h1 y
  obtain ⟨av, cv, rfl, hown, hb⟩ := hrow
  exact wpList_app w hgd s x t ho e i z 1 bytes ht hi hz hsize hby hzs hsz hbp _ _ _ hs hown xv m _ hx hsl e1 (by rw [hn]; exact hbytes) (fun v' w' g1 g2 g3 g4 g5 => by
    obtain ⟨b1, d1, rfl⟩ := g1.form
    subst hn
    subst hm
    refine h _ _ _ ⟨b1, d1, by simp, by rw [List.length_append, List.map_append]; exact g1, fun k hk => ?_⟩ (g2.mono (fun k _ q => hb k q))
    rcases g3 with q | q
    · exact hb k (q.symm.trans hk)
    · rw [hk] at q
      cases q
      exact hB)
theorem step_appBM {P : Program} {B : Nat} (w : World) {ops : Array Oper} {o : Oper} {a : Act} {Q : Exit → Act → World → Prop} {E : Prop} (hgd : o.guard = none) (s x : Operand) (t : TypeId) (ho : o.op = .call { callee := .builtin .append, args := #[s, x], argTypes := #[t, t] })
    (e : TypeId) (i : TypeInfo) (z : Value) (bytes : Nat) (ht : P.underlying t = some (.slice e)) (hi : P.info? e = some i) (hz : i.zero = some z) (hsize : i.size = 1) (hby : i.bytes = bytes) (hzs : z.cells.size = 1) (hsz : 0 < 1) (hbp : 0 < bytes)
    {enc : α → Value} (h1 : ∀ y, (enc y).oneCell' = true) (v : Value) (l : List α) (hs : a.eval s = v) (hrow : RowM e enc B w v l) (hB : B ≤ w.heap.size) (xv : Value) (m : Nat) (r : List α) (hx : a.eval x = xv) (hsl : SlR w 1 xv m (r.map enc)) (hm : r.length = m) (n' : Nat) (hn : l.length + m = n') (hbytes : n' * bytes ≤ 140737488355328)
    {K : Act → World → Prop} (h : ∀ a' c' w', RowM e enc B w' (.slice a' n' c') (l ++ r) → Kp (fun k => B ≤ k) w w' → K (a.put o.dst (.slice a' n' c')) w') : if Region.wanted o (yielded ops a.tmps) = true then Oper.wp P o a w K Q else E := by
  have e1 : ∀ u ∈ r.map enc, u.oneCell' = true := by
    intro u hu
    obtain ⟨y, _, rfl⟩ := List.mem_map.1 hu
    exact h1 y
  obtain ⟨av, cv, rfl, hown, hb⟩ := hrow
  exact step_app w hgd s x t ho e i z 1 bytes ht hi hz hsize hby hzs hsz hbp _ _ _ hs hown xv m _ hx hsl e1 (by rw [hn]; exact hbytes) (fun v' w' g1 g2 g3 g4 g5 => by
    obtain ⟨b1, d1, rfl⟩ := g1.form
    subst hn
    subst hm
    refine h _ _ _ ⟨b1, d1, by simp, by rw [List.length_append, List.map_append]; exact g1, fun k hk => ?_⟩ (g2.mono (fun k _ q => hb k q))
    rcases g3 with q | q
    · exact hb k (q.symm.trans hk)
    · rw [hk] at q
      cases q
      exact hB)
theorem wpList_appBG {P : Program} {B : Nat} (w : World) {ops : Array Oper} {rest : List Oper} {o : Oper} {a : Act} {Q : Exit → Act → World → Prop} (hgd : o.guard = none) (s x : Operand) (t : TypeId) (ho : o.op = .call { callee := .builtin .append, args := #[s, x], argTypes := #[t, t] })
    (e : TypeId) (i : TypeInfo) (z : Value) (size bytes : Nat) (ht : P.underlying t = some (.slice e)) (hi : P.info? e = some i) (hz : i.zero = some z) (hsize : i.size = size) (hby : i.bytes = bytes) (hzs : z.cells.size = size) (hsz : 0 < size) (hbp : 0 < bytes)
    {enc : α → List Value} (h1 : ∀ y, ∀ u ∈ enc y, u.oneCell' = true) (v : Value) (l : List α) (hs : a.eval s = v) (hrow : RowG e size enc B w v l) (hB : B ≤ w.heap.size) (xv : Value) (m : Nat) (r : List α) (hx : a.eval x = xv) (hsl : SlR w size xv m (r.flatMap enc)) (hm : r.length = m) (n' : Nat) (hn : l.length + m = n') (hbytes : n' * bytes ≤ 140737488355328)
    (h : ∀ a' c' w', RowG e size enc B w' (.slice a' n' c') (l ++ r) → Kp (fun k => B ≤ k) w w' → wpList P ops Q rest (a.put o.dst (.slice a' n' c')) w') : wpList P ops Q (o :: rest) a w := by
  have e1 : ∀ u ∈ r.flatMap enc, u.oneCell' = true := by
    intro u hu
    obtain ⟨y, _, hy⟩ := List.mem_flatMap.1 hu
    exact h1 y u hy
  obtain ⟨av, cv, rfl, hown, hb⟩ := hrow
  exact wpList_app w hgd s x t ho e i z size bytes ht hi hz hsize hby hzs hsz hbp _ _ _ hs hown xv m _ hx hsl e1 (by rw [hn]; exact hbytes) (fun v' w' g1 g2 g3 g4 g5 => by
    obtain ⟨b1, d1, rfl⟩ := g1.form
    subst hn
    subst hm
    refine h _ _ _ ⟨b1, d1, by simp, by rw [List.length_append, List.flatMap_append]; exact g1, fun k hk => ?_⟩ (g2.mono (fun k _ q => hb k q))
    rcases g3 with q | q
    · exact hb k (q.symm.trans hk)
    · rw [hk] at q
      cases q
      exact hB)
theorem step_appBG {P : Program} {B : Nat} (w : World) {ops : Array Oper} {o : Oper} {a : Act} {Q : Exit → Act → World → Prop} {E : Prop} (hgd : o.guard = none) (s x : Operand) (t : TypeId) (ho : o.op = .call { callee := .builtin .append, args := #[s, x], argTypes := #[t, t] })
    (e : TypeId) (i : TypeInfo) (z : Value) (size bytes : Nat) (ht : P.underlying t = some (.slice e)) (hi : P.info? e = some i) (hz : i.zero = some z) (hsize : i.size = size) (hby : i.bytes = bytes) (hzs : z.cells.size = size) (hsz : 0 < size) (hbp : 0 < bytes)
    {enc : α → List Value} (h1 : ∀ y, ∀ u ∈ enc y, u.oneCell' = true) (v : Value) (l : List α) (hs : a.eval s = v) (hrow : RowG e size enc B w v l) (hB : B ≤ w.heap.size) (xv : Value) (m : Nat) (r : List α) (hx : a.eval x = xv) (hsl : SlR w size xv m (r.flatMap enc)) (hm : r.length = m) (n' : Nat) (hn : l.length + m = n') (hbytes : n' * bytes ≤ 140737488355328)
    {K : Act → World → Prop} (h : ∀ a' c' w', RowG e size enc B w' (.slice a' n' c') (l ++ r) → Kp (fun k => B ≤ k) w w' → K (a.put o.dst (.slice a' n' c')) w') : if Region.wanted o (yielded ops a.tmps) = true then Oper.wp P o a w K Q else E := by
  have e1 : ∀ u ∈ r.flatMap enc, u.oneCell' = true := by
    intro u hu
    obtain ⟨y, _, hy⟩ := List.mem_flatMap.1 hu
    exact h1 y u hy
  obtain ⟨av, cv, rfl, hown, hb⟩ := hrow
  exact step_app w hgd s x t ho e i z size bytes ht hi hz hsize hby hzs hsz hbp _ _ _ hs hown xv m _ hx hsl e1 (by rw [hn]; exact hbytes) (fun v' w' g1 g2 g3 g4 g5 => by
    obtain ⟨b1, d1, rfl⟩ := g1.form
    subst hn
    subst hm
    refine h _ _ _ ⟨b1, d1, by simp, by rw [List.length_append, List.flatMap_append]; exact g1, fun k hk => ?_⟩ (g2.mono (fun k _ q => hb k q))
    rcases g3 with q | q
    · exact hb k (q.symm.trans hk)
    · rw [hk] at q
      cases q
      exact hB)
theorem SlR.mid {P : Program} {w : World} {size n cap : Nat} {a : Option Addr} {xs : List Value} (h : SlR w size (.slice a n cap) n xs) {t e : TypeId} (ht : P.underlying t = some (.slice e)) (hi : (P.info? e).map (·.size) = some size) {lo hi' : Nat} (h1 : lo ≤ hi') (h2 : hi' ≤ n) :
    ∃ a' c', (∀ w', (Instr.slice t (.slice a n cap) (some (.int .i64 lo)) (some (.int .i64 hi')) none).run P w' = .ok (.slice a' (hi' - lo) c') w') ∧ SlR w size (.slice a' (hi' - lo) c') (hi' - lo) ((xs.drop (lo * size)).take ((hi' - lo) * size)) ∧
      (∀ b, (Value.slice a' (hi' - lo) c').ownBlock = some b → (Value.slice a n cap).ownBlock = some b) := by
  obtain ⟨a', c', hr, hs, hb⟩ := h.from_ ht hi (show lo ≤ n by omega)
  have hu := (hs.upto ht hi (show hi' - lo ≤ n - lo by omega)).2
  obtain ⟨h0, a0, c0, e0, q1, q2, q3, q4⟩ := h
  simp only [Value.slice.injEq, true_and] at e0
  obtain ⟨rfl, rfl⟩ := e0
  have he : P.elem t = e := by have := elem_of ht; rw [ht] at this; simp at this; exact this.symm
  refine ⟨a', c', fun w' => ?_, hu, fun b hbb => hb b (by cases a' <;> exact hbb)⟩
  have r1 := hr w'
  rw [run_slice_l (P := P) w' t a n cap (elem_of ht) .i64 (lo : Int) (by omega) (by omega), he, sizeOf_run hi] at r1
  rw [run_slice_lh (P := P) w' t a n cap (elem_of ht) .i64 .i64 (lo : Int) (hi' : Int) (by omega) (by omega) (by omega), he, sizeOf_run hi]
  simp only [Result.andThen, sliced, Result.ok.injEq, Value.slice.injEq, and_true, Int.toNat_natCast] at r1 ⊢
  exact ⟨r1.1, trivial, r1.2.2⟩
end Go.Mg
