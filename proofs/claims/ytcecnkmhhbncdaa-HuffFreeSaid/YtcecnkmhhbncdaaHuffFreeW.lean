/- The walk of HuffFree. -/
import Derived.Test.YtcecnkmhhbncdaaHfV
import Derived.Test.YtcecnkmhhbncdaaHfX
import Derived.Test.YtcecnkmhhbncdaaHuffE
import Derived.Test.YtcecnkmhhbncdaaQuiet
import Derived.Test.YtcecnkmhhbncdaaOpen
namespace Go.Proofs.Ytcecnkmhhbncdaa.huffFree
open Go Go.RowKit Go.ChangeMaps Go.MapKept Go.Mg Go.Hf Go.Sort Go.Proofs.Ytcecnkmhhbncdaa.Hu Go.Proofs.Ytcecnkmhhbncdaa.Op

/-- A symbol's length and code. -/
def Good (x c : Int) : Prop := (x = 0 ∧ c = -1) ∨ (0 < x ∧ x ≤ 11 ∧ ∃ q P : Nat, c = q ∧ (2 : Int) ^ x.toNat = (P : Nat) ∧ q < P ∧ P ≤ 2048)
theorem good {xs : List Int} (h : IsOk xs) {i : Nat} (hi : i < xs.length) : Good (lf xs i) (codes xs i) := by
  rw [lf_at hi]
  rcases codes_is h.2.1 hi with ⟨h1, h2⟩ | ⟨n, hn, h1, h2⟩
  · exact .inl ⟨h1, h2⟩
  · refine .inr ⟨by omega, by omega, _, 2 ^ (n + 1), h2, ?_, h.lt hi hn h1, ?_⟩
    · rw [h1, show ((n : Int) + 1).toNat = n + 1 by omega]; simp
    · have e : 2 ^ 11 = 2048 := rfl
      rw [← e]
      exact Nat.pow_le_pow_right (by omega) (by omega)
theorem apart {xs : List Int} (h : IsOk xs) {i k : Nat} (hi : i < xs.length) (hk : k < xs.length) (hne : i ≠ k) (h0 : 0 < lf xs i) (hle : lf xs i ≤ lf xs k) :
    ∃ q d : Nat, codes xs k = (q : Nat) ∧ q ≤ 2048 ∧ (q : Int) / 2 ^ (lf xs k - lf xs i).toNat = (d : Nat) ∧ ((d : Int) == codes xs i) = false := by
  rw [lf_at hi, lf_at hk] at *
  rcases codes_is h.2.1 hi with ⟨h1, h2⟩ | ⟨n, hn, h1, h2⟩
  · omega
  · rcases codes_is h.2.1 hk with ⟨h3, h4⟩ | ⟨m, hm, h3, h4⟩
    · omega
    · have hf := free hi hk hne hn hm h1 h3 (by omega)
      have hq := h.lt hk hm h3
      have hp : 2 ^ (m + 1) ≤ 2 ^ 11 := Nat.pow_le_pow_right (by omega) (by omega)
      have e : 2 ^ 11 = 2048 := rfl
      refine ⟨_, stc (lf xs) xs.length m k / 2 ^ (m - n), h4, by omega, ?_, ?_⟩
      · rw [h1, h3, show ((m : Int) + 1 - ((n : Int) + 1)).toNat = m - n by omega]
        simp
      · rw [h2, beq_eq_false_iff_ne]
        intro z
        exact hf (by exact_mod_cast z)
set_option maxRecDepth 100000 in
set_option maxHeartbeats 2000000 in
theorem walk (w : World) (a0 : Option Addr) (c0 : Nat) (l0 : List Int) (r0 : SlR w 1 (.slice a0 l0.length c0) l0.length (l0.map (Value.int .i64))) (_ : ∀ x ∈ l0, (Lit.int .i64 x).wf = true) :
    Calls Try.prog 6 #[.slice a0 l0.length c0] w (LawPost w) := by
  have mixed : Try.prog.follows .mixedOrders = true := by kernel_rfl
  have R0 := Lib.hid (show Nm w a0 c0 l0 from r0)
  clear r0
  by_cases hl : l0.length ≤ 60
  · have D1 := Lib.hid (is_d w l0 a0 c0 R0.out (by omega))
    go_enter Try.func6, Try.ntmps6
    go_wp2_with fail
    refine D1.out.mono ?_
    rintro e w' ⟨z, hz, rfl, hw'⟩
    obtain rfl := hw'
    cases z with
    | false =>
      clear hz D1
      go_wp2_with fail
      go_ret
      exact ⟨rfl, Below.refl _ _⟩
    | true =>
      have hok : IsOk l0 := hz.1 rfl
      have hpos : 0 < l0.length := by
        apply Nat.pos_of_ne_zero
        intro e
        have : l0 = [] := List.eq_nil_of_length_eq_zero e
        subst this
        obtain ⟨_, _, h | h⟩ := hok <;> simp [isSt] at h
      have HG := Lib.hid (fun (i : Nat) (hi : i < l0.length) => good hok hi)
      have HA := Lib.hid (fun (i k : Nat) (hi : i < l0.length) (hk : k < l0.length) => apart hok hi hk)
      clear hz D1 hok
      go_wp2_with fail
      refine (codes_p _ l0 a0 c0 R0.out hpos (by omega)).mono ?_
      rintro e w3 ⟨g1, rfl, p1, p2, p3⟩
      obtain ⟨g, o, rfl, hg, hcap, hc⟩ := (R0.out.kp p3).lf_ hpos
      obtain ⟨n, hn⟩ : ∃ n, n = l0.length := ⟨_, rfl⟩
      have hg1 : g1 < w3.heap.size := lt_of_at p2
      have hcc : ∀ V, Kp (fun _ => False) w3 V → ∀ i, i < n → V.cell? ⟨g1, i, none⟩ = some (.int .i64 (codes l0 i)) ∧ V.cell? ⟨g, o + i, none⟩ = some (.int .i64 (lf l0 i)) := fun V hk i hi =>
        ⟨(hk.cell (p := ⟨g1, i, none⟩) hg1 (fun q => q)).trans (p2.cell (by rw [← hn]; exact hi)), (hk.cell (p := ⟨g, o + i, none⟩) hg (fun q => q)).trans (hc i (by rw [← hn]; exact hi))⟩
      have HCC := Lib.hid hcc
      have P3 := Lib.hid p3
      rw [← hn] at HG HA hcap hl hpos ⊢
      have X := lf l0
      generalize lf l0 = X at *
      generalize codes l0 = C at *
      clear p1 p2 p3 hc hcc R0 hn
      go_wp2_with fail
      go_loopw [4] (fun i wr => ∃ k : Nat, k ≤ n ∧ i = .int .i64 k ∧ Kp (fun _ => False) w3 wr) (fun i _ => n - (intOf i).toNat)
      case atStart => exact ⟨0, Nat.zero_le _, rfl, Kp.refl _ _⟩
      case round =>
        obtain ⟨i, hi, rfl, hk⟩ := hrel
        have HK := Lib.hid hk
        clear hk
        by_cases hin : i < n
        · have d0 : ∀ m os, (grow (wr.drewN m) os).cell? ⟨g1, i, none⟩ = some (.int .i64 (C i)) := fun m os => (HCC.out _ (HK.out.trans (kp_grow wr m os)) i hin).1
          have d1 : ∀ m os, (grow (wr.drewN m) os).cell? ⟨g, o + i, none⟩ = some (.int .i64 (X i)) := fun m os => (HCC.out _ (HK.out.trans (kp_grow wr m os)) i hin).2
          have hgood := HG.out i hin
          have hap := HA.out i
          obtain ⟨x, hx⟩ : ∃ x, x = X i := ⟨_, rfl⟩
          obtain ⟨y, hy⟩ : ∃ y, y = C i := ⟨_, rfl⟩
          rw [← hx, ← hy] at hgood
          rw [← hy] at d0
          rw [← hx] at d1
          have HX := Lib.hid hx
          have HY := Lib.hid hy
          clear hx hy hap
          have inner : ∀ V, Kp (fun _ => False) w3 V → True := fun _ _ => trivial
          clear inner
          rcases hgood with ⟨rfl, rfl⟩ | ⟨hx0, hx1, q, P, rfl, hP, hqP, hP2⟩
          · go_wp2_with fail
            refine WQ.region mixed (by kernel_rfl) ?_
            repeat (refine WQ.step (fun K hK => ?_); go_simp; first | (refine hK _ ?_; clear hK K) | (apply Exists.intro; refine ⟨fun _ => ?_, hK _ ?_⟩; (fail); clear hK K))
            refine WQ.nil ?_
            intro _ hw'
            obtain ⟨⟨nq, osq⟩, hw''⟩ := hw'
            subst hw''
            go_wp2_with fail
            have HK2 := Lib.hid (HK.out.trans (kp_grow wr nq osq))
            clear d0 d1
            go_loopw [5] (fun jj wx => ∃ j : Nat, j ≤ n ∧ jj = .int .i64 j ∧ Kp (fun _ => False) w3 wx) (fun jj _ => n - (intOf jj).toNat)
            case atStart => exact ⟨0, Nat.zero_le _, rfl, HK2.out⟩
            case round =>
              obtain ⟨j, hj, rfl, hk⟩ := hrel
              have HKI := Lib.hid hk
              clear hk
              by_cases hjn : j < n
              · have d0 : ∀ m os, (grow (wr.drewN m) os).cell? ⟨g1, i, none⟩ = some (.int .i64 (-1)) := fun m os => by have := (HCC.out _ (HKI.out.trans (kp_grow wr m os)) i hin).1; rw [← HY.out] at this; exact this
                have d1 : ∀ m os, (grow (wr.drewN m) os).cell? ⟨g, o + i, none⟩ = some (.int .i64 0) := fun m os => by have := (HCC.out _ (HKI.out.trans (kp_grow wr m os)) i hin).2; rw [← HX.out] at this; exact this
                have e0 : ∀ m os, (grow (wr.drewN m) os).cell? ⟨g1, j, none⟩ = some (.int .i64 (C j)) := fun m os => (HCC.out _ (HKI.out.trans (kp_grow wr m os)) j hjn).1
                have e1 : ∀ m os, (grow (wr.drewN m) os).cell? ⟨g, o + j, none⟩ = some (.int .i64 (X j)) := fun m os => (HCC.out _ (HKI.out.trans (kp_grow wr m os)) j hjn).2
                by_cases e : i = j
                · subst e
                  go_wp2_with fail
                  refine WQ.region mixed (by kernel_rfl) ?_
                  repeat (refine WQ.step (fun K hK => ?_); go_simp; first | (refine hK _ ?_; clear hK K) | (apply Exists.intro; refine ⟨fun _ => ?_, hK _ ?_⟩; (fail); clear hK K))
                  refine WQ.nil ?_
                  intro _ hw'
                  obtain ⟨⟨nq, osq⟩, hw''⟩ := hw'
                  subst hw''
                  go_wp2_with fail
                  exact ⟨⟨i + 1, by omega, by go_num, HKI.out.trans (kp_grow wr nq osq)⟩, by simp [intOf]; omega⟩
                · have hne : ((i : Int) == (j : Int)) = false := by rw [beq_eq_false_iff_ne]; omega
                  have hne2 : ¬ (i : Int) = (j : Int) := by omega
                  clear e0
                  generalize X j = z at e1
                  go_wp2_with fail
                  refine WQ.region mixed (by kernel_rfl) ?_
                  repeat (refine WQ.step (fun K hK => ?_); go_simp; first | (refine hK _ ?_; clear hK K) | (apply Exists.intro; refine ⟨fun _ => ?_, hK _ ?_⟩; (fail); clear hK K))
                  refine WQ.nil ?_
                  intro _ hw'
                  obtain ⟨⟨nq, osq⟩, hw''⟩ := hw'
                  subst hw''
                  go_wp2_with fail
                  exact ⟨⟨j + 1, by omega, by go_num, HKI.out.trans (kp_grow wr nq osq)⟩, by simp [intOf]; omega⟩
              · obtain rfl : j = n := by omega
                go_wp2_with fail
                exact ⟨⟨i + 1, by omega, by go_num, HKI.out⟩, by simp [intOf]; omega⟩
          · have hx00 : (x == 0) = false := by rw [beq_eq_false_iff_ne]; omega
            have hwu : IntKind.u64.wrap x = x := by simp [IntKind.wrap, IntKind.bits, IntKind.signed]; omega
            have hwP : IntKind.i64.wrap (P : Int) = (P : Int) := by rw [IntKind.wrap_i64]; omega
            have hnP : ¬ P ≤ q := by omega
            go_wp2_with fail
            refine WQ.region mixed (by kernel_rfl) ?_
            repeat (refine WQ.step (fun K hK => ?_); go_simp; first | (refine hK _ ?_; clear hK K) | (apply Exists.intro; refine ⟨fun _ => ?_, hK _ ?_⟩; (fail); clear hK K))
            refine WQ.nil ?_
            intro _ hw'
            obtain ⟨⟨nq, osq⟩, hw''⟩ := hw'
            subst hw''
            go_wp2_with fail
            have HK2 := Lib.hid (HK.out.trans (kp_grow wr nq osq))
            clear d0 d1
            go_loopw [5] (fun jj wx => ∃ j : Nat, j ≤ n ∧ jj = .int .i64 j ∧ Kp (fun _ => False) w3 wx) (fun jj _ => n - (intOf jj).toNat)
            case atStart => exact ⟨0, Nat.zero_le _, rfl, HK2.out⟩
            case round =>
              obtain ⟨j, hj, rfl, hk⟩ := hrel
              have HKI := Lib.hid hk
              clear hk
              by_cases hjn : j < n
              · have d0 : ∀ m os, (grow (wr.drewN m) os).cell? ⟨g1, i, none⟩ = some (.int .i64 (q : Nat)) := fun m os => by have := (HCC.out _ (HKI.out.trans (kp_grow wr m os)) i hin).1; rw [← HY.out] at this; exact this
                have d1 : ∀ m os, (grow (wr.drewN m) os).cell? ⟨g, o + i, none⟩ = some (.int .i64 x) := fun m os => by have := (HCC.out _ (HKI.out.trans (kp_grow wr m os)) i hin).2; rw [← HX.out] at this; exact this
                have e0 : ∀ m os, (grow (wr.drewN m) os).cell? ⟨g1, j, none⟩ = some (.int .i64 (C j)) := fun m os => (HCC.out _ (HKI.out.trans (kp_grow wr m os)) j hjn).1
                have e1 : ∀ m os, (grow (wr.drewN m) os).cell? ⟨g, o + j, none⟩ = some (.int .i64 (X j)) := fun m os => (HCC.out _ (HKI.out.trans (kp_grow wr m os)) j hjn).2
                by_cases e : i = j
                · subst e
                  go_wp2_with fail
                  refine WQ.region mixed (by kernel_rfl) ?_
                  repeat (refine WQ.step (fun K hK => ?_); go_simp; first | (refine hK _ ?_; clear hK K) | (apply Exists.intro; refine ⟨fun _ => ?_, hK _ ?_⟩; (fail); clear hK K))
                  refine WQ.nil ?_
                  intro _ hw'
                  obtain ⟨⟨nq, osq⟩, hw''⟩ := hw'
                  subst hw''
                  go_wp2_with fail
                  exact ⟨⟨i + 1, by omega, by go_num, HKI.out.trans (kp_grow wr nq osq)⟩, by simp [intOf]; omega⟩
                · have hne : ((i : Int) == (j : Int)) = false := by rw [beq_eq_false_iff_ne]; omega
                  have hne2 : ¬ (i : Int) = (j : Int) := by omega
                  by_cases hle : x ≤ X j
                  · obtain ⟨q2, dd, hq2, hq3, hd1, hd2⟩ := HA.out i j hin hjn e (by rw [← HX.out]; exact hx0) (by rw [← HX.out]; exact hle)
                    have hzg := HG.out j hjn
                    have hz : 0 ≤ X j ∧ X j ≤ 11 := by
                      rcases hzg with ⟨h1, _⟩ | ⟨h1, h2, _⟩ <;> omega
                    obtain ⟨hz0, hz1⟩ := hz
                    rw [hq2] at e0
                    rw [← HX.out] at hd1
                    rw [← HY.out] at hd2
                    clear hzg hq2
                    generalize X j = z at e1 hle hd1 hz0 hz1
                    have hzx : 0 ≤ z - x := by omega
                    have hws : IntKind.i64.wrap (z - x) = z - x := by rw [IntKind.wrap_i64]; omega
                    have hwu2 : IntKind.u64.wrap (z - x) = z - x := by simp [IntKind.wrap, IntKind.bits, IntKind.signed]; omega
                    go_wp2_with fail
                    refine WQ.region mixed (by kernel_rfl) ?_
                    repeat (refine WQ.step (fun K hK => ?_); go_simp; first | (refine hK _ ?_; clear hK K) | (apply Exists.intro; refine ⟨fun _ => ?_, hK _ ?_⟩; (fail); clear hK K))
                    refine WQ.nil ?_
                    intro _ hw'
                    obtain ⟨⟨nq, osq⟩, hw''⟩ := hw'
                    subst hw''
                    go_wp2_with fail
                    exact ⟨⟨j + 1, by omega, by go_num, HKI.out.trans (kp_grow wr nq osq)⟩, by simp [intOf]; omega⟩
                  · clear e0
                    generalize X j = z at e1 hle
                    have hlt : z < x := by omega
                    have hdl : decide (x ≤ z) = false := by simpa using hlt
                    go_wp2_with fail
                    refine WQ.region mixed (by kernel_rfl) ?_
                    repeat (refine WQ.step (fun K hK => ?_); go_simp; first | (refine hK _ ?_; clear hK K) | (apply Exists.intro; refine ⟨fun _ => ?_, hK _ ?_⟩; (fail); clear hK K))
                    refine WQ.nil ?_
                    intro _ hw'
                    obtain ⟨⟨nq, osq⟩, hw''⟩ := hw'
                    subst hw''
                    go_wp2_with fail
                    exact ⟨⟨j + 1, by omega, by go_num, HKI.out.trans (kp_grow wr nq osq)⟩, by simp [intOf]; omega⟩
              · obtain rfl : j = n := by omega
                go_wp2_with fail
                exact ⟨⟨i + 1, by omega, by go_num, HKI.out⟩, by simp [intOf]; omega⟩
        · obtain rfl : i = n := by omega
          go_wp2_with fail
          refine (known_c wr).mono ?_
          rintro e w6 ⟨rfl, k6⟩
          have K6 := Lib.hid ((P3.out.trans HK.out).trans k6)
          clear k6
          go_wp2_with fail
          go_ret
          exact ⟨rfl, K6.out.below⟩
  · have hgt : 60 < l0.length := by omega
    clear R0
    go_enter Try.func6, Try.ntmps6
    go_wp2_with fail
    go_ret
    exact ⟨rfl, Below.refl _ _⟩
end Go.Proofs.Ytcecnkmhhbncdaa.huffFree
