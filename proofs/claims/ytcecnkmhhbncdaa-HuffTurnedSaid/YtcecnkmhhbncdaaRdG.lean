/- The document's one symbol. -/
import Derived.Test.YtcecnkmhhbncdaaRdF
namespace Go.Proofs.Ytcecnkmhhbncdaa.Rd
open Go Go.RowKit Go.Shelf Go.ChangeMaps Go.MapKept Go.Mg Go.Hf Go.Sort Go.Proofs.Ytcecnkmhhbncdaa.Hu Go.Proofs.Ytcecnkmhhbncdaa.Bw Go.Proofs.Ytcecnkmhhbncdaa.He

/-- The bit at a place, as a number. -/
def bn (f : Nat → Bool) (k : Nat) : Nat := if f k = true then 1 else 0
theorem bn_lt (f : Nat → Bool) (k : Nat) : bn f k < 2 := by unfold bn; split <;> omega
theorem nv_one (f : Nat → Bool) (k : Nat) : Hf.nv f k 1 = bn f k := by simp [Hf.nv, bn]
theorem one_end {xs : List Int} {f : Nat → Bool} {n code r : Nat} : oneS xs f 0 n code r = none := rfl
theorem one_dry {xs : List Int} {f : Nat → Bool} {m n code : Nat} : oneS xs f (m + 1) n code 0 = none := by simp [oneS]
theorem one_hit {xs : List Int} {f : Nat → Bool} {m n code r s : Nat} (h : fd xs ((2 * code + bn f r : Nat) : Int) (n : Int) xs.length = some s) : oneS xs f (m + 1) n code (r + 1) = some (s, r) := by
  simp only [oneS, Nat.add_one_sub_one]
  rw [if_neg (by omega)]
  unfold bn at h
  rw [h]
theorem one_miss {xs : List Int} {f : Nat → Bool} {m n code r : Nat} (h : fd xs ((2 * code + bn f r : Nat) : Int) (n : Int) xs.length = none) : oneS xs f (m + 1) n code (r + 1) = oneS xs f m (n + 1) (2 * code + bn f r) r := by
  simp only [oneS, Nat.add_one_sub_one]
  rw [if_neg (by omega)]
  unfold bn at h ⊢
  rw [h]
def OneD (w : World) (xs : List Int) (p r : Nat) (ab : Option Addr) (cb' : Nat) (l : List UInt8) (e : Ending) (w' : World) : Prop :=
  (∃ s r', oneS xs (bb l) 11 1 0 r = some (s, r') ∧ e = .returned (.int .i64 (s : Nat)) ∧ RdD w' p r' ab cb' l ∧ Kp (· = p) w w') ∨
  (oneS xs (bb l) 11 1 0 r = none ∧ e = .returned (.int .i64 (-1)) ∧ Kp (· = p) w w')
set_option maxRecDepth 100000 in
set_option maxHeartbeats 2000000 in
theorem one_d (w : World) (xs : List Int) (g o c gc : Nat) (hl : xs.length ≤ 300) (hcap : xs.length ≤ c) (h : Tab w xs g o gc) (hg : g < w.heap.size) (hgc : gc < w.heap.size) {p r : Nat} (hgp : g ≠ p) (hgcp : gc ≠ p) {ab : Option Addr} {cb' : Nat} {l : List UInt8} (hr : RdD w p r ab cb' l) (hlb : l.length ≤ 100000) :
    Calls Try.prog 45 #[.slice (some ⟨g, o, none⟩) xs.length c, .slice (some ⟨gc, 0, none⟩) xs.length xs.length, .pointer (some ⟨p, 0, none⟩)] w (OneD w xs p r ab cb' l) := by
  have HTAB := Lib.hid (fun V (hk : Kp (· = p) w V) => h.kp hk ⟨hg, hgp⟩ ⟨hgc, hgcp⟩)
  have HR := Lib.hid hr
  have HBN := Lib.hid (fun k => bn_lt (bb l) k)
  unfold OneD
  obtain ⟨ONE, hONE⟩ : ∃ ONE, ONE = oneS xs (bb l) 11 1 0 r := ⟨_, rfl⟩
  have HONE := Lib.hid hONE
  rw [← hONE]
  clear h hr hONE
  go_enter Try.func45, Try.ntmps45
  go_wp2_with fail
  go_loopw [7, 8] (fun u i wr => ∃ n code r' : Nat, n ≤ 11 ∧ i = .int .i64 ((n : Nat) + 1) ∧ u = .int .i64 code ∧ code < 2 ^ n ∧ RdD wr p r' ab cb' l ∧ Kp (· = p) w wr ∧ ONE = oneS xs (bb l) (11 - n) (n + 1) code r') (fun _ i _ => 12 - (intOf i).toNat)
  case atStart => exact ⟨0, 0, r, by omega, rfl, rfl, by omega, HR.out, Kp.refl _ _, HONE.out⟩
  case round =>
    obtain ⟨n, code, r', hn, rfl, rfl, hcode, hrd, hk, hone⟩ := hrel
    have h11 : 2 ^ n ≤ 2 ^ 11 := Nat.pow_le_pow_right (by omega) hn
    have e11 : 2 ^ 11 = 2048 := rfl
    have hc2 : code ≤ 8388608 := by omega
    have hP : 2 ^ (n + 1) = 2 * 2 ^ n := by rw [Nat.pow_succ]; omega
    have HC1 := Lib.hid hcode
    have HP := Lib.hid hP
    have HK := Lib.hid hk
    have TK := Lib.hid (take_d hrd hlb 1 (by omega))
    have HE := Lib.hid hone
    clear hrd hk hone h11 e11 hcode hP
    by_cases hn11 : n = 11
    · subst hn11
      clear TK
      go_wp2_with fail
      go_ret
      exact .inr ⟨HE.out, rfl, HK.out⟩
    · have hn10 : n ≤ 10 := by omega
      obtain ⟨m, hm⟩ : ∃ m, 11 - n = m + 1 := ⟨10 - n, by omega⟩
      have HM := Lib.hid hm
      clear hm hn11
      go_wp2_with fail
      refine TK.out.mono ?_
      rintro e w1 (⟨hr1, rfl, hrd1, hk1⟩ | ⟨hr1, rfl, rfl⟩)
      · obtain ⟨q, rfl⟩ : ∃ q, r' = q + 1 := ⟨r' - 1, by omega⟩
        rw [Nat.add_one_sub_one] at hrd1
        rw [Nat.add_one_sub_one, nv_one]
        have hb2 := HBN.out q
        have or1 := or_low code (bn (bb l) q) hb2 (by have : (2 : Nat) ^ 40 = 1099511627776 := rfl; omega)
        have HSY := Lib.hid (fun V (hk : Kp (· = p) w V) => symbol_d V xs g o c gc hl hcap (HTAB.out V hk) ((2 * code + bn (bb l) q : Nat) : Int) ((n : Int) + 1))
        have HHIT : Hid (∀ s, fd xs ((2 * code + bn (bb l) q : Nat) : Int) ((n : Int) + 1) xs.length = some s → ONE = some (s, q)) := Lib.hid (fun s hs => by
          rw [HE.out, HM.out]; exact one_hit (n := n + 1) (by rw [Int.natCast_add n 1]; exact hs))
        have HMISS : Hid (fd xs ((2 * code + bn (bb l) q : Nat) : Int) ((n : Int) + 1) xs.length = none → ONE = oneS xs (bb l) (11 - (n + 1)) (n + 1 + 1) (2 * code + bn (bb l) q) q) := Lib.hid (fun hs => by
          rw [HE.out, HM.out, show 11 - (n + 1) = m by have := HM.out; omega]; exact one_miss (n := n + 1) (by rw [Int.natCast_add n 1]; exact hs))
        have HRD1 := Lib.hid hrd1
        have HK1 := Lib.hid (HK.out.trans hk1)
        obtain ⟨b, hb⟩ : ∃ b, b = bn (bb l) q := ⟨_, rfl⟩
        rw [← hb] at hb2 or1 HSY HHIT HMISS ⊢
        obtain ⟨C, hC⟩ : ∃ C, C = 2 * code + b := ⟨_, rfl⟩
        have h2c : ((2 * code : Nat) : Int) = (code : Int) * 2 := by omega
        rw [← hC] at or1 HSY HHIT HMISS
        rw [h2c] at or1
        have HCC := Lib.hid hC
        clear TK hrd1 hk1 HE HM hb HK hr1 h2c hC
        go_wp2_with fail
        refine (HSY.out _ HK1.out).mono ?_
        rintro e w2 ⟨rfl, hw2⟩
        obtain rfl := hw2
        cases hfd : fd xs (C : Int) ((n : Int) + 1) xs.length with
        | some s =>
          have HH := Lib.hid (HHIT.out s hfd)
          clear hfd HSY HHIT HMISS
          simp only [fdv]
          go_wp2_with fail
          go_ret
          exact .inl ⟨s, q, HH.out, rfl, HRD1.out, HK1.out⟩
        | none =>
          have HH := Lib.hid (HMISS.out hfd)
          clear hfd HSY HHIT HMISS
          simp only [fdv]
          go_wp2_with fail
          refine ⟨⟨n + 1, C, q, by omega, by go_num, rfl, ?_, HRD1.out, HK1.out, HH.out⟩, by simp [intOf]; omega⟩
          have := HC1.out
          have := HP.out
          have := HCC.out
          have : 0 < 2 ^ n := Nat.two_pow_pos n
          omega
      · obtain rfl : r' = 0 := by omega
        have HH := Lib.hid (show ONE = none by rw [HE.out, HM.out]; exact one_dry)
        clear TK HE HM
        go_wp2_with fail
        go_ret
        exact .inr ⟨HH.out, rfl, HK.out⟩
end Go.Proofs.Ytcecnkmhhbncdaa.Rd
