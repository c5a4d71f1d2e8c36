/- The document's Writer: Put. -/
import Derived.Test.YtcecnkmhhbncdaaBwA
namespace Go.Proofs.Ytcecnkmhhbncdaa.Bw
open Go Go.RowKit Go.ChangeMaps Go.MapKept Go.Mg Go.Hf Go.Sort Go.Proofs.Ytcecnkmhhbncdaa.Hu
set_option maxRecDepth 100000 in
set_option maxHeartbeats 2000000 in
theorem put_d {F : Nat → Prop} {w : World} {p : Nat} {a : Option Addr} {c : Nat} {B : List Bool} (h : WrAt 53 F w p a c B) (q n : Nat) (hn : n ≤ 24) (hq : q < 2 ^ n) (hB : B.length ≤ 1000000) :
    Calls Try.prog 38 #[.pointer (some ⟨p, 0, none⟩), .int .i64 (q : Nat), .int .i64 (n : Nat)] w (PutPost 53 F w p (B ++ bitsOf q n)) := by
  obtain ⟨i0, hi0, hz0, hz1, hz2⟩ := info_parts infoB
  have hP : 2 ^ n ≤ 2 ^ 24 := Nat.pow_le_pow_right (by omega) hn
  have hP2 : 2 ^ 24 = 16777216 := rfl
  obtain ⟨P, hPe⟩ : ∃ P, P = 2 ^ n := ⟨_, rfl⟩
  have hPi : (2 : Int) ^ n = (P : Int) := by rw [hPe]; simp
  rw [← hPe] at hq hP
  rw [hP2] at hP
  clear hPe hP2
  have hwP : IntKind.i64.wrap (P : Int) = (P : Int) := by rw [IntKind.wrap_i64]; omega
  have hq0 : decide ((q : Int) < 0) = false := decide_eq_false (by omega)
  have hqP : decide ((P : Int) ≤ (q : Int)) = false := decide_eq_false (by omega)
  have hqP2 : decide (P ≤ q) = false := decide_eq_false (by omega)
  have hn0 : decide ((n : Int) < 0) = false := decide_eq_false (by omega)
  have hn1 : decide ((24 : Int) < (n : Int)) = false := decide_eq_false (by omega)
  have hn2 : decide (24 < n) = false := decide_eq_false (by omega)
  have H := Lib.hid h
  clear h
  go_enter Try.func38, Try.ntmps38
  go_wp2_with fail
  go_loopw [7] (fun i wr => ∃ k : Nat, k ≤ n ∧ i = .int .i64 k ∧ WrPost 53 F w p (B ++ bitsOf q k) wr) (fun i _ => n - (intOf i).toNat)
  case atStart => exact ⟨0, Nat.zero_le _, rfl, F, a, c, by simpa [bitsOf] using H.out, Kp.refl _ _, fun k h => .inl h⟩
  case round =>
    obtain ⟨k, hk, rfl, F', a', c', h1, h2, h3⟩ := hrel
    by_cases hkn : k < n
    · obtain ⟨R, hR⟩ : ∃ R, R = B ++ bitsOf q k := ⟨_, rfl⟩
      have hRl : R.length ≤ 2000000 := by rw [hR, List.length_append, bitsOf_len]; omega
      have HR : Hid (B ++ bitsOf q (k + 1) = R ++ [Go.bits .and .i64 ((q : Int) / 2 ^ k) 1 == 1]) := Lib.hid (by rw [hR, bitsOf_succ, digit q k (by omega), List.append_assoc])
      rw [← hR] at h1
      clear hR
      have d0 := h1.cell
      have H1 := Lib.hid h1
      have H2 := Lib.hid h2
      have H3 := Lib.hid h3
      clear h1 h2 h3
      have T := Lib.hid (lit_b wr (Go.bits .and .i64 ((q : Int) / 2 ^ k) 1 == 1))
      have kA : Kp (fun _ => False) wr (wr.alloc (.cells #[.bool (Go.bits .and .i64 ((q : Int) / 2 ^ k) 1 == 1)] 4)) := (Kp.refl _ _).alloc _
      have KA := Lib.hid kA
      have HO := Lib.hid (H1.out.own.kp kA (fun _ _ q => q))
      clear kA
      go_wp2_with (at_builtin; refine wpList_app _ rfl _ _ 51 rfl 4 i0 _ 1 1 Try.underlying51 hi0 hz0 hz1 hz2 rfl (by decide) (by decide) (.slice a' R.length c') R.length _ rfl HO.out (.slice (some ⟨wr.heap.size, 0, none⟩) 1 1) 1 _ rfl T.out (one_b _) (by omega) ?_; intro v1 w3 g1 g2 g3 g4 g5; obtain ⟨b1, d1, rfl⟩ := g1.form; obtain ⟨f1, f2, f3⟩ := H1.out.app KA.out g1 g2 g3; have F3 := Lib.hid f3; clear g1 g2 g3 g4 g5 f3)
      exact ⟨⟨k + 1, by omega, by go_num, by rw [HR.out]; exact WrPost.trans H2.out H3.out F3.out⟩, by simp [intOf]; omega⟩
    · obtain rfl : k = n := by omega
      have HW : Hid (WrPost 53 F w p (B ++ bitsOf q k) wr) := Lib.hid ⟨F', a', c', h1, h2, h3⟩
      clear h1 h2 h3
      go_wp2_with fail
      go_ret
      exact ⟨rfl, HW.out⟩
end Go.Proofs.Ytcecnkmhhbncdaa.Bw
