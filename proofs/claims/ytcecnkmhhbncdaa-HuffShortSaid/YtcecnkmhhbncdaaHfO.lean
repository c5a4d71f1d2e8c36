/- huff: Is; the law's may. -/
import Derived.Test.YtcecnkmhhbncdaaHfN
namespace Go.Proofs.Ytcecnkmhhbncdaa.Hu
open Go Go.RowKit Go.ChangeMaps Go.MapKept Go.Mg Go.Hf Go.Sort Go.Proofs.Ytcecnkmhhbncdaa.It

theorem lf_take {xs : List Int} {k : Nat} (hk : k < xs.length) : xs.take (k + 1) = xs.take k ++ [lf xs k] := by
  rw [List.take_succ_eq_append_getElem hk, lf_at hk]
theorem Nm.lf_ {w : World} {a : Option Addr} {c : Nat} {xs : List Int} (h : Nm w a c xs) (h0 : 0 < xs.length) :
    ∃ g off, a = some ⟨g, off, none⟩ ∧ g < w.heap.size ∧ xs.length ≤ c ∧ ∀ i, i < xs.length → w.cell? ⟨g, off + i, none⟩ = some (.int .i64 (lf xs i)) := by
  obtain ⟨g, off, e, hg, h1, hc⟩ := h.at_ h0
  exact ⟨g, off, e, hg, h1, fun i hi => by rw [lf_at hi]; exact hc i hi⟩
theorem div_val {x : Int} (h0 : 0 < x) (h1 : x ≤ 11) : (2048 : Int) / 2 ^ x.toNat = ((2 ^ (11 - x.toNat) : Nat) : Int) := by
  have : x = 1 ∨ x = 2 ∨ x = 3 ∨ x = 4 ∨ x = 5 ∨ x = 6 ∨ x = 7 ∨ x = 8 ∨ x = 9 ∨ x = 10 ∨ x = 11 := by omega
  rcases this with rfl | rfl | rfl | rfl | rfl | rfl | rfl | rfl | rfl | rfl | rfl <;> decide
theorem beqN (a : Nat) : ((a : Int) == 2048) = decide (a = 2048) := by
  by_cases h : a = 2048
  · subst h; rfl
  · rw [decide_eq_false h, beq_eq_false_iff_ne]; omega
def IsPost (w : World) (xs : List Int) (e : Ending) (w' : World) : Prop := ∃ z : Bool, (z = true ↔ IsOk xs) ∧ e = .returned (.bool z) ∧ w' = w
set_option maxRecDepth 100000 in
set_option maxHeartbeats 2000000 in
theorem is_p (w : World) (xs : List Int) (a : Option Addr) (c : Nat) (h : Nm w a c xs) (hl : xs.length ≤ 1000) :
    Calls Try.prog 21 #[.slice a xs.length c] w (IsPost w xs) := by
  by_cases hlen : xs.length ≤ 256
  · by_cases h0 : xs.length = 0
    · have : xs = [] := List.eq_nil_of_length_eq_zero h0
      subst this
      clear h
      go_enter Try.func21, Try.ntmps21
      go_wp2_with fail
      go_loopw [3, 4, 5, 13] (fun s m l i wr => wr = w ∧ i = .int .i64 0 ∧ s = .int .i64 0 ∧ m = .int .i64 0 ∧ l = .int .i64 0) (fun _ _ _ _ _ => 0)
      case atStart => exact ⟨rfl, rfl, rfl, rfl, rfl⟩
      case round =>
        obtain ⟨rfl, rfl, rfl, rfl, rfl⟩ := hrel
        go_wp2_with fail
        go_ret
        exact ⟨false, ⟨(fun h => by cases h), fun h => by obtain ⟨_, _, h | h⟩ := h <;> simp [isSt] at h⟩, rfl, rfl⟩
    · obtain ⟨g, o, rfl, hg, hcap, hc⟩ := h.lf_ (by omega)
      have HC := Lib.hid hc
      clear hc h
      obtain ⟨n, hn⟩ : ∃ n, n = xs.length := ⟨_, rfl⟩
      rw [← hn] at hlen h0 hcap hl ⊢
      have HN := Lib.hid hn
      clear hn
      go_enter Try.func21, Try.ntmps21
      go_wp2_with fail
      go_loopw [3, 4, 5, 13] (fun s m l i wr => ∃ k : Nat, k ≤ n ∧ wr = w ∧ i = .int .i64 k ∧ s = .int .i64 ((isSt (xs.take k)).1 : Nat) ∧ m = .int .i64 ((isSt (xs.take k)).2.1 : Nat) ∧ l = .int .i64 (isSt (xs.take k)).2.2 ∧ InR (xs.take k)) (fun _ _ _ i _ => n - (intOf i).toNat)
      case atStart => exact ⟨0, Nat.zero_le _, rfl, rfl, rfl, rfl, rfl, fun x hx => by simp at hx⟩
      case round =>
        obtain ⟨k, hk, rfl, rfl, rfl, rfl, rfl, hr⟩ := hrel
        have HR := Lib.hid hr
        clear hr
        by_cases hlt : k < n
        · have d0 := HC.out k (by rw [← HN.out]; exact hlt)
          have HT := Lib.hid (lf_take (xs := xs) (k := k) (by rw [← HN.out]; exact hlt))
          have hle := isSt_le (xs.take k)
          have hlk : (xs.take k).length ≤ k := by rw [List.length_take]; omega
          have hsn := isSt_snoc (xs.take k) (lf xs k)
          rw [← HT.out] at hsn
          have HSN := Lib.hid hsn
          have hxm : lf xs k ∈ xs := by rw [lf_at (by rw [← HN.out]; exact hlt)]; exact List.getElem_mem _
          have HXM := Lib.hid hxm
          obtain ⟨s1, hs1⟩ : ∃ s, s = (isSt (xs.take k)).1 := ⟨_, rfl⟩
          obtain ⟨s2, hs2⟩ : ∃ s, s = (isSt (xs.take k)).2.1 := ⟨_, rfl⟩
          obtain ⟨s3, hs3⟩ : ∃ s, s = (isSt (xs.take k)).2.2 := ⟨_, rfl⟩
          have hst : isSt (xs.take k) = (s1, s2, s3) := by rw [hs1, hs2, hs3]
          rw [hst] at hle
          simp only at hle
          rw [← hs1, ← hs2, ← hs3]
          have HST := Lib.hid hst
          obtain ⟨x, hx⟩ : ∃ x, x = lf xs k := ⟨_, rfl⟩
          rw [← hx] at d0
          have HX := Lib.hid hx
          clear hs1 hs2 hs3 hst hsn hxm hx
          by_cases hxr : 0 ≤ x ∧ x ≤ 11
          · obtain ⟨hx0, hx1⟩ := hxr
            have n1 : ¬ x < 0 := by omega
            have n2 : ¬ x > 11 := by omega
            have hin : InR (xs.take (k + 1)) := by
              rw [HT.out]
              intro y hy
              rcases List.mem_append.1 hy with hy | hy
              · exact HR.out y hy
              · rw [List.mem_singleton] at hy; rw [hy, ← HX.out]; exact ⟨hx0, hx1⟩
            have HIN := Lib.hid hin
            clear hin
            by_cases hp : 0 < x
            · have hb := div_val hp hx1
              obtain ⟨p, hpv⟩ : ∃ p : Nat, p = 2 ^ (11 - x.toNat) := ⟨_, rfl⟩
              have hple : p ≤ 2048 := by
                have : 2 ^ (11 - x.toNat) ≤ 2 ^ 11 := Nat.pow_le_pow_right (by omega) (by omega)
                have e : 2 ^ 11 = 2048 := rfl
                omega
              rw [← hpv] at hb
              have HPV := Lib.hid hpv
              clear hpv
              go_wp2_with fail
              have e := HSN.out
              rw [HST.out, isStep, ← HX.out, if_pos hp, ← HPV.out] at e
              refine ⟨⟨k + 1, by omega, by first | trivial | rfl, by go_num, ?_, ?_, ?_, HIN.out⟩, by simp [intOf]; omega⟩
              · rw [e]; go_num
              · rw [e]; go_num
              · rw [e]
            · go_wp2_with fail
              have e := HSN.out
              rw [HST.out, isStep, ← HX.out, if_neg hp] at e
              refine ⟨⟨k + 1, by omega, by first | trivial | rfl, by go_num, ?_, ?_, ?_, HIN.out⟩, by simp [intOf]; omega⟩
              · rw [e]
              · rw [e]
              · rw [e]
          · have hno : ¬ IsOk xs := fun h => hxr (by rw [HX.out]; exact h.2.1 _ HXM.out)
            have HNO := Lib.hid hno
            clear hno
            by_cases hneg : x < 0
            · go_wp2_with fail
              go_ret
              exact ⟨false, ⟨(fun h => by cases h), fun h => (HNO.out h).elim⟩, rfl, rfl⟩
            · have hgt : 11 < x := by omega
              go_wp2_with fail
              go_ret
              exact ⟨false, ⟨(fun h => by cases h), fun h => (HNO.out h).elim⟩, rfl, rfl⟩
        · obtain rfl : k = n := by omega
          have HR2 := HR.out
          rw [HN.out, List.take_length] at HR2 ⊢
          have hle := isSt_le xs
          obtain ⟨s1, hs1⟩ : ∃ s, s = (isSt xs).1 := ⟨_, rfl⟩
          obtain ⟨s2, hs2⟩ : ∃ s, s = (isSt xs).2.1 := ⟨_, rfl⟩
          obtain ⟨s3, hs3⟩ : ∃ s, s = (isSt xs).2.2 := ⟨_, rfl⟩
          have hiff : IsOk xs ↔ ((s2 = 1 ∧ s3 = 1) ∨ s1 = 2048) := by
            rw [hs1, hs2, hs3]
            exact ⟨fun h => h.2.2, fun h => ⟨by rw [← HN.out]; exact hlen, HR2, h⟩⟩
          have HI := Lib.hid hiff
          rw [← hs1, ← hs2, ← hs3]
          clear hs1 hs2 hs3 hiff HR2 hle
          by_cases q2 : s2 = 1
          · by_cases q3 : s3 = 1
            · have HT : Hid (IsOk xs) := Lib.hid (HI.out.2 (.inl ⟨q2, q3⟩))
              subst q2 q3
              go_wp2_with fail
              go_ret
              exact ⟨true, ⟨fun _ => HT.out, fun _ => rfl⟩, rfl, rfl⟩
            · have q3' : (s3 == 1) = false := by simpa using q3
              have Q3 := Lib.hid q3
              subst q2
              clear q3
              go_wp2_with fail
              go_ret
              refine ⟨decide (s1 = 2048), ?_, ?_, rfl⟩
              · rw [decide_eq_true_iff, HI.out]
                exact ⟨.inr, fun h => h.resolve_left (fun z => Q3.out z.2)⟩
              · simp [beqN]
          · have q2' : ((s2 : Int) == 1) = false := by rw [beq_eq_false_iff_ne]; omega
            have Q2 := Lib.hid q2
            clear q2
            go_wp2_with fail
            go_ret
            refine ⟨decide (s1 = 2048), ?_, ?_, rfl⟩
            · rw [decide_eq_true_iff, HI.out]
              exact ⟨.inr, fun h => h.resolve_left (fun z => Q2.out z.1)⟩
            · simp [beqN]
  · have hgt : 256 < xs.length := by omega
    have hno : ¬ IsOk xs := fun h => hlen h.1
    have HNO := Lib.hid hno
    clear h hno
    go_enter Try.func21, Try.ntmps21
    go_wp2_with fail
    go_ret
    exact ⟨false, ⟨(fun h => by cases h), fun h => (HNO.out h).elim⟩, rfl, rfl⟩
end Go.Proofs.Ytcecnkmhhbncdaa.Hu
