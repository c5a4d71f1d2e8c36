/- The document's Reader: Take. -/
import Derived.Test.YtcecnkmhhbncdaaRdD
namespace Go.Proofs.Ytcecnkmhhbncdaa.Rd
open Go Go.RowKit Go.Shelf Go.ChangeMaps Go.MapKept Go.Mg Go.Hf Go.Sort Go.Proofs.Ytcecnkmhhbncdaa.Hu Go.Proofs.Ytcecnkmhhbncdaa.Bw Go.Proofs.Ytcecnkmhhbncdaa.He

def TakeDPost (w : World) (p r n : Nat) (ab : Option Addr) (cb' : Nat) (l : List UInt8) (e : Ending) (w' : World) : Prop :=
  (n ≤ r ∧ e = .returned (.tuple #[.int .i64 (nv (bb l) (r - n) n : Nat), .bool true]) ∧ RdD w' p (r - n) ab cb' l ∧ Kp (· = p) w w') ∨
  (r < n ∧ e = .returned (.tuple #[.int .i64 0, .bool false]) ∧ w' = w)
set_option maxRecDepth 100000 in
set_option maxHeartbeats 2000000 in
theorem take_d {w : World} {p r : Nat} {ab : Option Addr} {cb' : Nat} {l : List UInt8} (h : RdD w p r ab cb' l) (hlb : l.length ≤ 100000) (n : Nat) (hn : n ≤ 24) :
    Calls Try.prog 56 #[.pointer (some ⟨p, 0, none⟩), .int .i64 (n : Nat)] w (TakeDPost w p r n ab cb' l) := by
  have hr8 := h.le
  have d0 : w.cell? ⟨p, 0, none⟩ = some (.slice ab l.length cb') := by rw [cell_of h.hp]; rfl
  have d1 : w.cell? ⟨p, 1, none⟩ = some (.int .i64 (r : Nat)) := by rw [cell_of h.hp]; rfl
  have f1 := free_of h.hp 1
  have hn24 : (n : Int) ≤ 24 := by omega
  by_cases hlt : r < n
  · clear h f1
    go_enter Try.func56, Try.ntmps56
    go_wp2_with fail
    go_ret2
    exact .inr ⟨hlt, rfl, rfl⟩
  · obtain ⟨m, rfl⟩ : ∃ m, r = m + n := ⟨r - n, by omega⟩
    have hset := setCell_at (i := 1) h.hp (.int .i64 (m : Nat))
    have hks := (Kp.refl (· = p) w).setCell (p := ⟨p, 1, none⟩) (fun _ => rfl) (.int .i64 (m : Nat))
    obtain ⟨W, hW⟩ : ∃ W, W = w.setCell ⟨p, 1, none⟩ (.int .i64 (m : Nat)) := ⟨_, rfl⟩
    have HWE := Lib.hid hW
    rw [← hW] at hset hks
    have HAT : Hid (RdD W p m ab cb' l) := Lib.hid ⟨hset, h.sl.kp hks h.ne, h.ne, by omega⟩
    have e0 : W.cell? ⟨p, 0, none⟩ = some (.slice ab l.length cb') := by rw [cell_of hset]; rfl
    have e1 : W.cell? ⟨p, 1, none⟩ = some (.int .i64 (m : Nat)) := by rw [cell_of hset]; rfl
    have HKS := Lib.hid hks
    have HC : Hid (0 < l.length → ∃ g o, ab = some ⟨g, o, none⟩ ∧ l.length ≤ cb' ∧ ∀ i, i < l.length → W.cell? ⟨g, o + i, none⟩ = some (.int .u8 (sym l i : Nat))) := Lib.hid (fun h0 => by
      obtain ⟨g, o, e, _, h1, h2⟩ := bytes_at HAT.out.sl h0
      exact ⟨g, o, e, h1, h2⟩)
    have HSL := Lib.hid (sym_lt l)
    have HBB : Hid (∀ k, bb l k = decide (sym l (k / 8) / 2 ^ (k % 8) % 2 = 1)) := Lib.hid (fun _ => rfl)
    unfold TakeDPost
    rw [show m + n - n = m by omega]
    obtain ⟨L, hL⟩ : ∃ L, L = l.length := ⟨_, rfl⟩
    rw [← hL] at HC hr8 d0 e0 hlb
    have HV := Lib.hid (fun k => nv_lt (bb l) (m + k) (n - k))
    have HVS : Hid (∀ q, q < n → nv (bb l) (m + q) (n - q) = 2 * nv (bb l) (m + (q + 1)) (n - (q + 1)) + (if bb l (m + q) = true then 1 else 0)) := Lib.hid (fun q hq => by
      rw [show n - q = (n - (q + 1)) + 1 by omega, nv_low]; rfl)
    obtain ⟨v, hv⟩ : ∃ v, v = fun k => nv (bb l) (m + k) (n - k) := ⟨_, rfl⟩
    have HV1 : Hid (∀ q, q < n → v q = 2 * v (q + 1) + (if bb l (m + q) = true then 1 else 0)) := Lib.hid (by rw [hv]; exact HVS.out)
    have HV2 : Hid (∀ q, v q < 2 ^ 24) := Lib.hid (fun q => by
      rw [hv]; exact Nat.lt_of_lt_of_le (HV.out q) (Nat.pow_le_pow_right (by omega) (by omega)))
    have HV3 : Hid (v n = 0) := Lib.hid (by rw [hv]; simp [Hf.nv])
    have HV4 : Hid (nv (bb l) m n = v 0) := Lib.hid (by rw [hv]; rfl)
    rw [HV4.out]
    clear h hset hks hW hv HV HVS hL
    have hlt2 : decide ((m : Int) + (n : Int) < (n : Int)) = false := decide_eq_false (by omega)
    go_enter Try.func56, Try.ntmps56
    go_wp2_with fail
    rw [← HWE.out]
    clear d0 d1 f1
    go_loopw [6, 7, 8] (fun u i _ wr => ∃ j : Nat, j ≤ n ∧ i = .int .i64 ((j : Int) - 1) ∧ u = .int .i64 (v j : Nat) ∧ wr = W) (fun _ i _ _ => (intOf i + 1).toNat)
    case atStart => exact ⟨n, Nat.le_refl _, by simp, by rw [HV3.out]; rfl, rfl⟩
    case round =>
      obtain ⟨j, hj, rfl, rfl, rfl⟩ := hrel
      cases j with
      | zero =>
        rw [show ((0 : Nat) : Int) - 1 = -1 by rfl]
        go_wp2_with fail
        go_ret2
        exact .inl ⟨by omega, rfl, HAT.out, HKS.out⟩
      | succ q =>
        rw [show (((q + 1 : Nat) : Int) - 1) = (q : Nat) by omega]
        obtain ⟨g, o, rfl, hcap, hcc⟩ := HC.out (by omega)
        obtain ⟨K, hK⟩ : ∃ K, K = m + q := ⟨_, rfl⟩
        have hKi : (m : Int) + (q : Int) = (K : Nat) := by omega
        have hK8 : K / 8 < L := by omega
        have d1 := hcc (K / 8) hK8
        have hs256 := HSL.out (K / 8)
        have HBJ := Lib.hid (HBB.out K)
        have hlow := low_bit (sym l (K / 8)) (K % 8) hs256
        have H1 := Lib.hid (HV1.out q (by omega))
        have h24 := HV2.out (q + 1)
        have h24' : (2 : Nat) ^ 24 = 16777216 := rfl
        rw [h24'] at h24
        obtain ⟨s, hs⟩ : ∃ s, s = sym l (K / 8) := ⟨_, rfl⟩
        rw [← hs] at d1 hs256 hlow HBJ
        obtain ⟨vk, hvk⟩ : ∃ vk, vk = v (q + 1) := ⟨_, rfl⟩
        rw [← hvk, ← hK, HBJ.out] at H1
        rw [← hvk] at h24 ⊢
        have hw2 : ((vk : Int) * 2) = ((2 * vk : Nat) : Int) := by omega
        have q5 : (K : Int).tmod 8 = (K : Int) % 8 := Int.tmod_eq_emod_of_nonneg (by omega)
        have h40 : (2 : Nat) ^ 40 = 1099511627776 := rfl
        by_cases hb : s / 2 ^ (K % 8) % 2 = 1
        · have or1 := or_low vk 1 (by omega) (by omega)
          rw [hb] at hlow
          rw [decide_eq_true hb, if_pos rfl] at H1
          clear hw2 hcc hs hvk hb h24' h40 hK
          go_wp2_with fail
          refine ⟨⟨q, by omega, by first | rfl | trivial, ?_, by first | rfl | trivial⟩, by simp [intOf]; try omega⟩
          rw [H1.out]
          congr 1
          rw [Int.mul_comm]
          exact or1
        · have hb0 : s / 2 ^ (K % 8) % 2 = 0 := by omega
          have or1 := or_low vk 0 (by omega) (by omega)
          rw [hb0] at hlow
          rw [decide_eq_false hb, if_neg (by decide)] at H1
          clear hw2 hcc hs hvk hb hb0 h24' h40 hK
          go_wp2_with fail
          refine ⟨⟨q, by omega, by first | rfl | trivial, ?_, by first | rfl | trivial⟩, by simp [intOf]; try omega⟩
          rw [H1.out]
          congr 1
          rw [Int.mul_comm]
          exact or1
end Go.Proofs.Ytcecnkmhhbncdaa.Rd
