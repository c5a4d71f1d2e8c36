/- The document's Reader. -/
import Derived.Test.YtcecnkmhhbncdaaRdC
namespace Go.Proofs.Ytcecnkmhhbncdaa.Rd
open Go Go.RowKit Go.Shelf Go.ChangeMaps Go.MapKept Go.Mg Go.Hf Go.Sort Go.Proofs.Ytcecnkmhhbncdaa.Hu Go.Proofs.Ytcecnkmhhbncdaa.Bw Go.Proofs.Ytcecnkmhhbncdaa.He

/-- A Reader of the first r of the bits of the bytes l. -/
structure RdD (w : World) (p r : Nat) (ab : Option Addr) (cb' : Nat) (l : List UInt8) : Prop where
  hp : w.heap[p]? = some (.cells #[.slice ab l.length cb', .int .i64 (r : Nat)] 66 (0, 0))
  sl : SlR w 1 (.slice ab l.length cb') l.length (l.map u8c)
  ne : ∀ b, (Value.slice ab l.length cb').ownBlock = some b → b ≠ p
  le : r < 8 * l.length
theorem RdD.kp {G : Nat → Prop} {w w' : World} {p r : Nat} {ab : Option Addr} {cb' : Nat} {l : List UInt8} (h : RdD w p r ab cb' l) (hk : Kp G w w') (h1 : ¬ G p) (h2 : ∀ b, (Value.slice ab l.length cb').ownBlock = some b → ¬ G b) : RdD w' p r ab cb' l :=
  ⟨hk.at_ h.hp h1, h.sl.kp hk h2, h.ne, h.le⟩
def NewDPost (w : World) (ab : Option Addr) (cb' : Nat) (l : List UInt8) (e : Ending) (w' : World) : Prop :=
  (Gb l ∧ ∃ p, e = .returned (.tuple #[.pointer (some ⟨p, 0, none⟩), .bool true]) ∧ w.heap.size ≤ p ∧ RdD w' p (top l) ab cb' l ∧ Kp (fun _ => False) w w') ∨
  (¬ Gb l ∧ e = .returned (.tuple #[.pointer none, .bool false]) ∧ w' = w)
set_option maxRecDepth 100000 in
set_option maxHeartbeats 2000000 in
theorem newr_d (w : World) (l : List UInt8) (ab : Option Addr) (cb' : Nat) (hb : SlR w 1 (.slice ab l.length cb') l.length (l.map u8c)) (hlb : l.length ≤ 100000) :
    Calls Try.prog 44 #[.slice ab l.length cb'] w (NewDPost w ab cb' l) := by
  by_cases h0 : l.length = 0
  · have HNO := Lib.hid (show ¬ Gb l from fun q => by have := q.1; omega)
    clear hb
    unfold NewDPost
    rw [h0]
    go_enter Try.func44, Try.ntmps44
    go_wp2_with fail
    go_ret2
    exact .inr ⟨HNO.out, rfl, rfl⟩
  · have RB := Lib.hid hb
    obtain ⟨g, o, rfl, hg, hcap, hc⟩ := bytes_at hb (by omega)
    obtain ⟨x, hx⟩ : ∃ x, x = sym l (l.length - 1) := ⟨_, rfl⟩
    have d0 := hc (l.length - 1) (by omega)
    rw [← hx] at d0
    have hx256 : x < 256 := by rw [hx]; exact sym_lt _ _
    have HX := Lib.hid hx
    have HC := Lib.hid hc
    have HSL := Lib.hid (sym_lt l)
    have HBB : Hid (∀ k, bb l k = decide (sym l (k / 8) / 2 ^ (k % 8) % 2 = 1)) := Lib.hid (fun _ => rfl)
    obtain ⟨n, hn⟩ : ∃ n, n = l.length - 1 := ⟨_, rfl⟩
    have hcap' : n + 1 ≤ cb' := by omega
    have hn5 : n ≤ 100000 := by omega
    have HLN := Lib.hid (show l.length = n + 1 by omega)
    by_cases hx0 : x = 0
    · have HNO := Lib.hid (show ¬ Gb l from fun q => q.2 (by have := HX.out; rw [hx0] at this; exact this.symm))
      rw [hx0, ← hn] at d0
      unfold NewDPost
      rw [HLN.out]
      clear hb hc hx hx0 h0 hcap hlb hn
      go_enter Try.func44, Try.ntmps44
      go_wp2_with fail
      go_ret2
      exact .inr ⟨HNO.out, rfl, rfl⟩
    · have hgb : Gb l := ⟨by omega, by have := HX.out; intro q; exact hx0 (this.trans q)⟩
      have HGB := Lib.hid hgb
      have htl := top_lt hgb
      have HT1 := Lib.hid (bb_top hgb)
      have HT2 : Hid (∀ k, top l < k → k < 8 * l.length → bb l k = false) := Lib.hid (fun k => bb_above hgb)
      have HTL := Lib.hid htl.1
      obtain ⟨T, hT⟩ : ∃ T, T = top l := ⟨_, rfl⟩
      rw [← hn] at d0
      have hx00 : ((x : Int) == 0) = false := by rw [beq_eq_false_iff_ne]; omega
      rw [← hT, HLN.out] at HT2
      rw [← hT] at HT1
      have hT8 : T < 8 * (n + 1) := by omega
      have HTT := Lib.hid hT
      have HNE : Hid (∀ b, (Value.slice (some ⟨g, o, none⟩) l.length cb').ownBlock = some b → b < w.heap.size) := Lib.hid (fun b hb => by cases hb; exact hg)
      unfold NewDPost
      rw [HLN.out]
      obtain ⟨f, hf⟩ : ∃ f, f = bb l := ⟨_, rfl⟩
      rw [← hf] at HBB HT1 HT2
      clear hb hc hx hx0 h0 hcap hlb hn hT htl hgb hf
      go_enter Try.func44, Try.ntmps44
      go_wp2_with fail
      go_loopw [4] (fun i wr => ∃ j : Nat, T ≤ j ∧ j < 8 * (n + 1) ∧ i = .int .i64 j ∧ wr = w) (fun i _ => (intOf i).toNat)
      case atStart => exact ⟨8 * (n + 1) - 1, by omega, by omega, by congr 1; omega, rfl⟩
      case round =>
        obtain ⟨j, hTj, hj, rfl, rfl⟩ := hrel
        have d1 := HC.out (j / 8) (by have := HLN.out; omega)
        have hs256 := HSL.out (j / 8)
        have HBJ := Lib.hid (HBB.out j)
        have hlow := low_bit (sym l (j / 8)) (j % 8) hs256
        obtain ⟨s, hs⟩ : ∃ s, s = sym l (j / 8) := ⟨_, rfl⟩
        rw [← hs] at d1 hs256 hlow HBJ
        have hj8 : j / 8 < n + 1 := by omega
        have q5 : (j : Int).tmod 8 = (j : Int) % 8 := Int.tmod_eq_emod_of_nonneg (by omega)
        clear hs
        by_cases hb : s / 2 ^ (j % 8) % 2 = 1
        · have hjT : j = T := by
            rcases Nat.lt_or_ge T j with q | q
            · have h1 := HT2.out j q hj
              rw [HBJ.out, decide_eq_true hb] at h1
              cases h1
            · omega
          subst hjT
          rw [hb] at hlow
          clear hb
          go_wp2_with fail
          go_ret2
          refine .inl ⟨HGB.out, _, rfl, Nat.le_refl _, ?_, (Kp.refl _ _).alloc _⟩
          rw [← HTT.out]
          refine ⟨?_, RB.out.kp ((Kp.refl (fun _ => False) _).alloc _) (fun _ _ q => q), fun b hb => by have := HNE.out b hb; omega, ?_⟩
          · rw [alloc_at, HLN.out]
          · rw [HTT.out]; exact HTL.out
        · have hb0 : s / 2 ^ (j % 8) % 2 = 0 := by omega
          have hjT : j ≠ T := by
            intro q
            have h1 := HT1.out
            rw [← q, HBJ.out] at h1
            exact hb (of_decide_eq_true h1)
          rw [hb0] at hlow
          clear hb hb0
          obtain ⟨i, rfl⟩ : ∃ i, j = i + 1 := ⟨j - 1, by omega⟩
          go_wp2_with fail
          exact ⟨⟨i, by omega, by omega, by go_num, by first | rfl | trivial⟩, by simp [intOf]⟩
end Go.Proofs.Ytcecnkmhhbncdaa.Rd
