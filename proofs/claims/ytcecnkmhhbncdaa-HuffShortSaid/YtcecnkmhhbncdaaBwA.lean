/- bits: a Writer in memory; Put. -/
import Derived.Test.YtcecnkmhhbncdaaHfA
import Derived.Test.YtcecnkmhhbncdaaHuffC
import Derived.Laws.BitsLemmas
namespace Go.Proofs.Ytcecnkmhhbncdaa.Bw
open Go Go.RowKit Go.ChangeMaps Go.MapKept Go.Mg Go.Hf Go.Sort Go.Proofs.Ytcecnkmhhbncdaa.Hu

/-- The n lowest digits of q. -/
def bitsOf (q n : Nat) : List Bool := (List.range n).map fun i => decide (q / 2 ^ i % 2 = 1)
theorem bitsOf_len (q n : Nat) : (bitsOf q n).length = n := by simp [bitsOf]
theorem bitsOf_succ (q n : Nat) : bitsOf q (n + 1) = bitsOf q n ++ [decide (q / 2 ^ n % 2 = 1)] := by simp [bitsOf, List.range_succ]
theorem digit (q k : Nat) (hq : q ≤ 16777216) : (Go.bits .and .i64 ((q : Int) / 2 ^ k) 1 == 1) = decide (q / 2 ^ k % 2 = 1) := by
  have e : (q : Int) / 2 ^ k = ((q / 2 ^ k : Nat) : Int) := by simp
  have hle : q / 2 ^ k ≤ q := Nat.div_le_self _ _
  rw [e]
  generalize q / 2 ^ k = x at hle
  have h := bits_mask .i64 62 (by decide) (fun n h0 h1 => by rw [IntKind.wrap_i64]; omega) 1 (by decide) (x : Int) (Int.natCast_nonneg _) (by
    have e62 : (2 : Int) ^ 62 = 4611686018427387904 := rfl
    rw [e62]; omega)
  have e1 : (2 : Int) ^ 1 - 1 = 1 := rfl
  rw [e1] at h
  rw [h]
  have e2 : (2 : Int) ^ 1 = 2 := rfl
  rw [e2]
  by_cases h : x % 2 = 1
  · have : ((x : Int) % 2 == 1) = true := by rw [beq_iff_eq]; omega
    rw [this]; simp [h]
  · have : ((x : Int) % 2 == 1) = false := by rw [beq_eq_false_iff_ne]; omega
    rw [this]; simp [h]
/-- A Writer of the bits B, in the blocks F. -/
structure WrAt (ty : TypeId) (F : Nat → Prop) (w : World) (p : Nat) (a : Option Addr) (c : Nat) (B : List Bool) : Prop where
  hp : w.heap[p]? = some (.cells #[.slice a B.length c] ty (0, 0))
  own : OwnR w 4 1 (.slice a B.length c) B.length (B.map Value.bool)
  fp : F p
  ne : ∀ k, (Value.slice a B.length c).ownBlock = some k → F k ∧ k ≠ p
theorem WrAt.kp {ty : TypeId} {F G : Nat → Prop} {w w' : World} {p : Nat} {a : Option Addr} {c : Nat} {B : List Bool} (h : WrAt ty F w p a c B) (hk : Kp G w w') (hn : ∀ k, F k → ¬ G k) : WrAt ty F w' p a c B :=
  ⟨hk.at_ h.hp (hn _ h.fp), h.own.kp hk (fun k hk => hn k (h.ne k hk).1), h.fp, h.ne⟩
theorem WrAt.cell {ty : TypeId} {F : Nat → Prop} {w : World} {p : Nat} {a : Option Addr} {c : Nat} {B : List Bool} (h : WrAt ty F w p a c B) : w.cell? ⟨p, 0, none⟩ = some (.slice a B.length c) := by rw [cell_of h.hp]; rfl
theorem WrAt.free {ty : TypeId} {F : Nat → Prop} {w : World} {p : Nat} {a : Option Addr} {c : Nat} {B : List Bool} (h : WrAt ty F w p a c B) : w.frozen? ⟨p, 0, none⟩ = false := free_of h.hp 0
def WrPost (ty : TypeId) (F : Nat → Prop) (w : World) (p : Nat) (B : List Bool) (w' : World) : Prop := ∃ F' a' c', WrAt ty F' w' p a' c' B ∧ Kp F w w' ∧ ∀ k, F' k → F k ∨ w.heap.size ≤ k
theorem lit_b (w : World) (z : Bool) : SlR (w.alloc (.cells #[.bool z] 4)) 1 (.slice (some ⟨w.heap.size, 0, none⟩) 1 1) 1 ([z].map Value.bool) := by
  refine ⟨by simp, _, _, rfl, Nat.le_refl _, by unfold maxLen; omega, (fun h => by cases h), fun _ => ⟨w.heap.size, 0, rfl, by simp, fun i u hu => ?_⟩⟩
  rw [Nat.zero_add, cell_of (alloc_at w _)]
  simpa using hu
theorem one_b (l : List Bool) : ∀ u ∈ l.map Value.bool, u.oneCell' = true := by
  intro u hu
  obtain ⟨b, _, rfl⟩ := List.mem_map.1 hu
  rfl
/-- What an append and a store of the row leave. -/
theorem WrAt.app {ty : TypeId} {F : Nat → Prop} {w w2 w3 : World} {p : Nat} {a : Option Addr} {c : Nat} {B : List Bool} (h : WrAt ty F w p a c B) (k2 : Kp (fun _ => False) w w2) {a' : Option Addr} {c' : Nat} {z : Bool}
    (g1 : OwnR w3 4 1 (.slice a' (B.length + 1) c') (B.length + 1) (B.map Value.bool ++ [z].map Value.bool)) (g2 : Kp (fun k => (Value.slice a B.length c).ownBlock = some k) w2 w3) (g3 : (Value.slice a' (B.length + 1) c').ownBlock = (Value.slice a B.length c).ownBlock ∨ (Value.slice a' (B.length + 1) c').ownBlock = some w2.heap.size) :
    w3.frozen? ⟨p, 0, none⟩ = false ∧ w3.cell? ⟨p, 0, none⟩ = some (.slice a B.length c) ∧ WrPost ty F w p (B ++ [z]) (w3.setCell ⟨p, 0, none⟩ (.slice a' (B.length + 1) c')) := by
  have hp2 := k2.at_ h.hp (fun q => q)
  have hp3 := g2.at_ hp2 (fun q => (h.ne p q).2 rfl)
  have hps := lt_of_at h.hp
  have hs2 := k2.size
  have hset := setCell_at (i := 0) hp3 (.slice a' (B.length + 1) c')
  have hks : Kp (· = p) w3 (w3.setCell ⟨p, 0, none⟩ (.slice a' (B.length + 1) c')) := (Kp.refl (· = p) w3).setCell (p := ⟨p, 0, none⟩) (fun _ => rfl) _
  have hne : ∀ k, (Value.slice a' (B.length + 1) c').ownBlock = some k → (F k ∨ k = w2.heap.size) ∧ k ≠ p := by
    intro k hk
    rcases g3 with q | q
    · have := h.ne k (q.symm.trans hk); exact ⟨.inl this.1, this.2⟩
    · rw [hk] at q; simp at q; exact ⟨.inr q, by omega⟩
  refine ⟨free_of hp3 0, by rw [cell_of hp3]; rfl, fun k => F k ∨ k = w2.heap.size, a', c', ⟨?_, ?_, .inl h.fp, ?_⟩, ?_, ?_⟩
  · rw [hset]; simp
  · rw [List.length_append, List.map_append]
    exact g1.kp hks (fun k hk => (hne k hk).2)
  · rw [List.length_append]; exact hne
  · refine ((k2.mono (fun _ _ q => q.elim)).trans (g2.mono (fun k _ q => (h.ne k q).1))).trans (hks.mono (fun k _ q => by rw [q]; exact h.fp))
  · rintro k (q | q)
    · exact .inl q
    · exact .inr (by omega)
def PutPost (ty : TypeId) (F : Nat → Prop) (w : World) (p : Nat) (B : List Bool) (e : Ending) (w' : World) : Prop := e = .returned (.bool true) ∧ WrPost ty F w p B w'
theorem infoB : (Try.prog.info? 4).map (fun i => (i.zero, i.size, i.bytes)) = some (some (.bool false), 1, 1) := by kernel_rfl
theorem many_c (n : Nat) (hn : n ≤ 24) (w : World) : Calls Try.prog 54 #[.int .i64 (n : Nat)] w fun e w' => e = .returned (.bool true) ∧ w' = w := by
  have hn1 : (n : Int) ≤ 24 := by omega
  go_enter Try.func54, Try.ntmps54
  go_wp2_with fail
  go_ret
  exact ⟨by simp, rfl⟩
theorem WrPost.trans {ty : TypeId} {F F' : Nat → Prop} {w w' w3 : World} {p : Nat} {B : List Bool} (hk : Kp F w w') (hF : ∀ k, F' k → F k ∨ w.heap.size ≤ k) (h : WrPost ty F' w' p B w3) : WrPost ty F w p B w3 := by
  obtain ⟨F3, a3, c3, h1, h2, h3⟩ := h
  have := hk.size
  refine ⟨F3, a3, c3, h1, hk.trans2 h2 (fun i hi q => (hF i q).elim id (fun q => by omega)), fun k q => ?_⟩
  rcases h3 k q with q | q
  · exact hF k q
  · exact .inr (by omega)
set_option maxRecDepth 100000 in
set_option maxHeartbeats 2000000 in
theorem put_p {F : Nat → Prop} {w : World} {p : Nat} {a : Option Addr} {c : Nat} {B : List Bool} (h : WrAt 85 F w p a c B) (q n : Nat) (hn : n ≤ 24) (hq : q < 2 ^ n) (hB : B.length ≤ 1000000) :
    Calls Try.prog 36 #[.pointer (some ⟨p, 0, none⟩), .int .i64 (q : Nat), .int .i64 (n : Nat)] w (PutPost 85 F w p (B ++ bitsOf q n)) := by
  have mixed : Try.prog.follows .mixedOrders = true := by kernel_rfl
  obtain ⟨i0, hi0, hz0, hz1, hz2⟩ := info_parts infoB
  have HM := Lib.hid (many_c n hn)
  have hP : 2 ^ n ≤ 2 ^ 24 := Nat.pow_le_pow_right (by omega) hn
  have hP2 : 2 ^ 24 = 16777216 := rfl
  obtain ⟨P, hPe⟩ : ∃ P, P = 2 ^ n := ⟨_, rfl⟩
  have hPi : (2 : Int) ^ n = (P : Int) := by rw [hPe]; simp
  rw [← hPe] at hq hP
  rw [hP2] at hP
  clear hPe hP2
  have hwP : IntKind.i64.wrap (P : Int) = (P : Int) := by rw [IntKind.wrap_i64]; omega
  have hq0 : decide ((q : Int) < 0) = false := decide_eq_false (by omega)
  have hqP : decide ((P : Int) ≤ (q : Int)) = false := decide_eq_false (by omega)
  have hqP2 : decide (P ≤ q) = false := decide_eq_false (by omega)
  have H := Lib.hid h
  clear h
  go_enter Try.func36, Try.ntmps36
  go_wp2_with fail
  refine (HM.out w).mono ?_
  rintro e w' ⟨rfl, rfl⟩
  go_wp2_with fail
  go_loopw [26] (fun i wr => ∃ k : Nat, k ≤ n ∧ i = .int .i64 k ∧ WrPost 85 F w' p (B ++ bitsOf q k) wr) (fun i _ => n - (intOf i).toNat)
  case atStart => exact ⟨0, Nat.zero_le _, rfl, F, a, c, by simpa [bitsOf] using H.out, Kp.refl _ _, fun k h => .inl h⟩
  case round =>
    obtain ⟨k, hk, rfl, F', a', c', h1, h2, h3⟩ := hrel
    by_cases hkn : k < n
    · obtain ⟨R, hR⟩ : ∃ R, R = B ++ bitsOf q k := ⟨_, rfl⟩
      have hRl : R.length ≤ 2000000 := by rw [hR, List.length_append, bitsOf_len]; omega
      have HR : Hid (B ++ bitsOf q (k + 1) = R ++ [Go.bits .and .i64 ((q : Int) / 2 ^ k) 1 == 1]) := Lib.hid (by rw [hR, bitsOf_succ, digit q k (by omega), List.append_assoc])
      rw [← hR] at h1
      clear hR
      have d0 := h1.cell
      have H1 := Lib.hid h1
      have H2 := Lib.hid h2
      have H3 := Lib.hid h3
      clear h1 h2 h3
      go_wp2_with fail
      have T := Lib.hid (lit_b wr.drew)
      have kA : ∀ z, Kp (fun _ => False) wr (wr.drew.alloc (.cells #[.bool z] 4)) := fun z => ((Kp.refl _ _).drew).alloc _
      have KA := Lib.hid kA
      have d1 := (((Kp.refl (fun _ => False) wr).alloc (.cells #[.bool (Go.bits .and .i64 ((q : Int) / 2 ^ k) 1 == 1)] 4)).cell (p := ⟨p, 0, none⟩) (lt_of_at H1.out.hp) (fun q => q)).trans d0
      have HO := Lib.hid (fun z => H1.out.own.kp (kA z) (fun _ _ q => q))
      clear kA
      go_region_law (first
        | (refine step_app _ rfl (.tmp 33) (.tmp 39) 51 rfl 4 i0 _ 1 1 Try.underlying51 hi0 hz0 hz1 hz2 rfl (by decide) (by decide) (.slice a' R.length c') R.length _ (by simp [Act.eval]) (HO.out _) (.slice (some ⟨wr.heap.size, 0, none⟩) 1 1) 1 _ (by simp [Act.eval]) (T.out _) (one_b _) (by omega) ?_; intro v1 w3 g1 g2 g3 g4 g5; obtain ⟨b1, d1, rfl⟩ := g1.form; obtain ⟨f1, f2, f3⟩ := H1.out.app (KA.out _) g1 g2 g3; have F3 := Lib.hid f3; clear g1 g2 g3 g4 g5 f3))
      all_goals (go_wp2_with fail; exact ⟨⟨k + 1, by omega, by go_num, by rw [HR.out]; exact WrPost.trans H2.out H3.out F3.out⟩, by simp [intOf]; omega⟩)
    · obtain rfl : k = n := by omega
      have HW : Hid (WrPost 85 F w' p (B ++ bitsOf q k) wr) := Lib.hid ⟨F', a', c', h1, h2, h3⟩
      clear h1 h2 h3
      go_wp2_with fail
      go_ret
      exact ⟨rfl, HW.out⟩
end Go.Proofs.Ytcecnkmhhbncdaa.Bw
