/- huff: rows compared, Is, of the program and the document. -/
import Derived.Test.YtcecnkmhhbncdaaHfM
import Derived.Test.YtcecnkmhhbncdaaHuffC
namespace Go.Proofs.Ytcecnkmhhbncdaa.Hu
open Go Go.RowKit Go.ChangeMaps Go.MapKept Go.Mg Go.Hf Go.Sort Go.Proofs.Ytcecnkmhhbncdaa.It

/-- A slice that reads as the numbers xs. -/
def Nm (w : World) (a : Option Addr) (c : Nat) (xs : List Int) : Prop := SlR w 1 (.slice a xs.length c) xs.length (xs.map (Value.int .i64))
theorem Nm.at_ {w : World} {a : Option Addr} {c : Nat} {xs : List Int} (h : Nm w a c xs) (h0 : 0 < xs.length) :
    ∃ g off, a = some ⟨g, off, none⟩ ∧ g < w.heap.size ∧ xs.length ≤ c ∧ ∀ i (hi : i < xs.length), w.cell? ⟨g, off + i, none⟩ = some (.int .i64 xs[i]) := by
  obtain ⟨_, a0, c0, e0, h1, _, _, hc⟩ := h
  simp only [Value.slice.injEq, true_and] at e0
  obtain ⟨rfl, rfl⟩ := e0
  obtain ⟨g, off, rfl, hg, hc⟩ := hc h0
  exact ⟨g, off, rfl, hg, h1, fun i hi => hc i _ (by rw [List.getElem?_map, List.getElem?_eq_getElem hi]; rfl)⟩
theorem Nm.kp {w w' : World} {a : Option Addr} {c : Nat} {xs : List Int} (h : Nm w a c xs) (hk : Kp (fun _ => False) w w') : Nm w' a c xs := SlR.kp h hk (fun _ _ q => q)

set_option maxRecDepth 100000 in
set_option maxHeartbeats 1000000 in
theorem same_core (w : World) (g o g' o' n c d : Nat) (X Y : Nat → Int) (hX : ∀ k, k < n → w.cell? ⟨g, o + k, none⟩ = some (.int .i64 (X k))) (hY : ∀ k, k < n → w.cell? ⟨g', o' + k, none⟩ = some (.int .i64 (Y k))) (hc : n ≤ c) (hd : n ≤ d) (hl : n ≤ 1000) :
    Calls Try.prog 16 #[.slice (some ⟨g, o, none⟩) n c, .slice (some ⟨g', o', none⟩) n d] w fun e w' => ∃ b : Bool, (b = true ↔ ∀ k, k < n → X k = Y k) ∧ e = .returned (.bool b) ∧ ∃ m, w' = w.drewN m := by
  have HX := Lib.hid hX
  have HY := Lib.hid hY
  clear hX hY
  go_enter Try.func16, Try.ntmps16
  go_wp2_with fail
  go_loopw [5] (fun i wr => ∃ (k m : Nat), k ≤ n ∧ i = .int .i64 k ∧ wr = w.drewN m ∧ ∀ j, j < k → X j = Y j) (fun i _ => n - (intOf i).toNat)
  case atStart => exact ⟨0, 0, Nat.zero_le _, rfl, rfl, fun _ q => by omega⟩
  case round =>
    obtain ⟨k, m, hk, rfl, rfl, hs⟩ := hrel
    have HSM := Lib.hid hs
    clear hs
    by_cases hlt : k < n
    · have d0 : ∀ q, (w.drewN q).cell? ⟨g, o + k, none⟩ = some (.int .i64 (X k)) := fun q => HX.out k hlt
      have d1 : ∀ q, (w.drewN q).cell? ⟨g', o' + k, none⟩ = some (.int .i64 (Y k)) := fun q => HY.out k hlt
      obtain ⟨x, hx⟩ : ∃ x, x = X k := ⟨_, rfl⟩
      obtain ⟨y, hy⟩ : ∃ y, y = Y k := ⟨_, rfl⟩
      rw [← hx] at d0
      rw [← hy] at d1
      have HXX := Lib.hid hx
      have HYY := Lib.hid hy
      clear hx hy
      by_cases he : x = y
      · have HE := Lib.hid he
        have he' : (x == y) = true := by simpa using he
        clear he
        go_wp2_with fail
        go_quiet (fail)
        go_wp2_with fail
        refine ⟨⟨k + 1, m + nq, by omega, by go_num, by first | trivial | rfl, fun j hj => ?_⟩, by simp [intOf]; omega⟩
        by_cases e : j = k
        · subst e; rw [← HXX.out, ← HYY.out]; exact HE.out
        · exact HSM.out j (by omega)
      · have HE := Lib.hid he
        have he' : (x == y) = false := by simpa using he
        clear he
        go_wp2_with fail
        go_quiet (fail)
        go_wp2_with fail
        go_ret
        exact ⟨false, ⟨(fun h => by cases h), fun h => (HE.out (by rw [HXX.out, HYY.out]; exact h k hlt)).elim⟩, rfl, m + nq, by first | trivial | rfl | rw [World.drewN_drewN]⟩
    · obtain rfl : k = n := by omega
      go_wp2_with fail
      go_ret
      exact ⟨true, ⟨fun _ => HSM.out, fun _ => rfl⟩, rfl, m, rfl⟩
set_option maxRecDepth 100000 in
set_option maxHeartbeats 1000000 in
theorem same_nil (w : World) (a b : Option Addr) (c d : Nat) :
    Calls Try.prog 16 #[.slice a 0 c, .slice b 0 d] w fun e w' => e = .returned (.bool true) ∧ ∃ n, w' = w.drewN n := by
  go_enter Try.func16, Try.ntmps16
  go_wp2_with fail
  go_loopw [5] (fun i wr => wr = w ∧ i = .int .i64 0) (fun _ _ => 0)
  case atStart => exact ⟨rfl, rfl⟩
  case round =>
    obtain ⟨rfl, rfl⟩ := hrel
    go_wp2_with fail
    go_ret
    exact ⟨rfl, 0, rfl⟩
/-- Two rows of one length. -/
theorem same_c (w : World) (n : Nat) (X Y : Nat → Int) (a b : Option Addr) (c d : Nat) (hx : SlR w 1 (.slice a n c) n ((List.range n).map fun i => .int .i64 (X i))) (hy : SlR w 1 (.slice b n d) n ((List.range n).map fun i => .int .i64 (Y i))) (hl : n ≤ 1000) :
    Calls Try.prog 16 #[.slice a n c, .slice b n d] w fun e w' => ∃ z : Bool, (z = true ↔ ∀ k, k < n → X k = Y k) ∧ e = .returned (.bool z) ∧ ∃ m, w' = w.drewN m := by
  by_cases h0 : n = 0
  · subst h0
    exact (same_nil w a b c d).mono fun e w' ⟨he, hm⟩ => ⟨true, ⟨fun _ k hk => by omega, fun _ => rfl⟩, he, hm⟩
  · have key : ∀ {a : Option Addr} {c : Nat} {X : Nat → Int}, SlR w 1 (.slice a n c) n ((List.range n).map fun i => .int .i64 (X i)) → ∃ g o, a = some ⟨g, o, none⟩ ∧ n ≤ c ∧ ∀ k, k < n → w.cell? ⟨g, o + k, none⟩ = some (.int .i64 (X k)) := by
      rintro a c X ⟨_, a0, c0, e0, h1, _, _, hc⟩
      simp only [Value.slice.injEq, true_and] at e0
      obtain ⟨rfl, rfl⟩ := e0
      obtain ⟨g, off, rfl, hg, hc⟩ := hc (by omega)
      exact ⟨g, off, rfl, h1, fun k hk => hc k _ (by simp [hk])⟩
    obtain ⟨g, o, rfl, h1, h2⟩ := key hx
    obtain ⟨g', o', rfl, h1', h2'⟩ := key hy
    exact same_core w g o g' o' n c d X Y h2 h2' h1 h1' hl
end Go.Proofs.Ytcecnkmhhbncdaa.Hu
