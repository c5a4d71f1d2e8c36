/- The program's Reader: Take. -/
import Derived.Test.YtcecnkmhhbncdaaRdB
namespace Go.Proofs.Ytcecnkmhhbncdaa.Rd
open Go Go.RowKit Go.Shelf Go.ChangeMaps Go.MapKept Go.Mg Go.Hf Go.Sort Go.Proofs.Ytcecnkmhhbncdaa.Hu Go.Proofs.Ytcecnkmhhbncdaa.Bw Go.Proofs.Ytcecnkmhhbncdaa.He

def TakePost (ty : TypeId) (F : Nat → Prop) (w : World) (p r n : Nat) (f : Nat → Bool) (e : Ending) (w' : World) : Prop :=
  (n ≤ r ∧ e = .returned (.tuple #[.int .i64 (nv f (r - n) n : Nat), .bool true]) ∧ RdIn ty F w' p (r - n) f ∧ Kp (· = p) w w') ∨
  (r < n ∧ e = .returned (.tuple #[.int .i64 0, .bool false]) ∧ w' = w)
set_option maxRecDepth 100000 in
set_option maxHeartbeats 2000000 in
theorem take_p {F : Nat → Prop} {w : World} {p r : Nat} {f : Nat → Bool} (h : RdIn 89 F w p r f) (hr : r ≤ 1000000) (n : Nat) (hn : n ≤ 24) :
    Calls Try.prog 42 #[.pointer (some ⟨p, 0, none⟩), .int .i64 (n : Nat)] w (TakePost 89 F w p r n f) := by
  have HM := Lib.hid (many_c n hn)
  obtain ⟨a, c, h1, h2, h3, h4⟩ := h
  have d0 : w.cell? ⟨p, 0, none⟩ = some (.slice a r c) := by rw [cell_of h1]; rfl
  have f0 := free_of h1 0
  by_cases hlt : r < n
  · clear h1 h2 h3 h4 f0
    go_enter Try.func42, Try.ntmps42
    go_wp2_with fail
    refine (HM.out w).mono ?_
    rintro e w' ⟨rfl, rfl⟩
    go_wp2_with fail
    go_ret2
    exact .inr ⟨hlt, rfl, rfl⟩
  · obtain ⟨m, rfl⟩ : ∃ m, r = m + n := ⟨r - n, by omega⟩
    obtain ⟨a', c', e1, e2, e3⟩ := h2.from_ (P := Try.prog) Try.underlying51 (by kernel_rfl) (show m ≤ m + n by omega)
    rw [show m + n - m = n by omega] at e1 e2 e3
    obtain ⟨e4, e5⟩ := h2.upto (P := Try.prog) Try.underlying51 (by kernel_rfl) (show m ≤ m + n by omega)
    have HE5 : Hid (SlR w 1 (.slice a m c) m ((List.range m).map fun i => Value.bool (f i))) := Lib.hid (by
      have e : List.take (m * 1) ((List.range (m + n)).map fun i => Value.bool (f i)) = (List.range m).map fun i => Value.bool (f i) := by
        rw [← List.map_take, Nat.mul_one, List.take_range]; congr 2; omega
      rw [e] at e5; exact e5)
    have HC : Hid (0 < n → ∃ g o, a' = some ⟨g, o, none⟩ ∧ n ≤ c' ∧ ∀ i, i < n → w.cell? ⟨g, o + i, none⟩ = some (.bool (f (m + i)))) := Lib.hid (fun h0 => by
      obtain ⟨_, a0, c0, e0, q1, _, _, q4⟩ := e2
      simp only [Value.slice.injEq, true_and] at e0
      obtain ⟨rfl, rfl⟩ := e0
      obtain ⟨g, o, rfl, _, hc⟩ := q4 h0
      refine ⟨g, o, rfl, q1, fun i hi => hc i _ ?_⟩
      rw [List.getElem?_drop]
      simp [show m + i < m + n by omega])
    have HAT := Lib.hid h1
    have H3 := Lib.hid h3
    have H4 := Lib.hid h4
    have HV := Lib.hid (nv_lt f m)
    have HV0 : Hid (nv f m 0 = 0) := Lib.hid rfl
    have HVS : Hid (∀ k, nv f m (k + 1) = nv f m k + (if f (m + k) = true then 2 ^ k else 0)) := Lib.hid (fun _ => rfl)
    unfold TakePost
    rw [show m + n - n = m by omega]
    obtain ⟨v, hv⟩ : ∃ v, v = nv f m := ⟨_, rfl⟩
    rw [← hv] at HV HV0 HVS ⊢
    clear h1 h2 h3 h4 e2 e3 e5 hv
    have hlt2 : decide ((m : Int) + (n : Int) < (n : Int)) = false := decide_eq_false (by omega)
    go_enter Try.func42, Try.ntmps42
    go_wp2_with fail
    refine (HM.out w).mono ?_
    rintro e w' ⟨rfl, rfl⟩
    go_wp2_with fail
    go_loopw [7, 40] (fun u i wr => ∃ k : Nat, k ≤ n ∧ i = .int .i64 k ∧ u = .int .i64 (v k : Nat) ∧ wr = w') (fun _ i _ => n - (intOf i).toNat)
    case atStart => exact ⟨0, Nat.zero_le _, rfl, by rw [HV0.out]; rfl, rfl⟩
    case round =>
      obtain ⟨k, hk, rfl, rfl, rfl⟩ := hrel
      by_cases hkn : k < n
      · obtain ⟨g, o, rfl, hc1, hcc⟩ := HC.out (by omega)
        have d1 := hcc k hkn
        have hlt := HV.out k
        have HOR := Lib.hid (or_up (v k) k hlt (by omega))
        have h24 : 2 ^ k ≤ 2 ^ 24 := Nat.pow_le_pow_right (by omega) (by omega)
        have HS := HVS.out k
        obtain ⟨P, hP⟩ : ∃ P, P = 2 ^ k := ⟨_, rfl⟩
        have hPi : (2 : Int) ^ k = (P : Int) := by rw [hP]; simp
        rw [hPi] at HOR
        rw [← hP] at HOR HS h24 hlt
        have h24' : (2 : Nat) ^ 24 = 16777216 := rfl
        rw [h24'] at h24
        have hwP : IntKind.i64.wrap (P : Int) = (P : Int) := by rw [IntKind.wrap_i64]; omega
        obtain ⟨b, hb⟩ : ∃ b, b = f (m + k) := ⟨_, rfl⟩
        rw [← hb] at d1 HS
        obtain ⟨vk, hvk⟩ : ∃ vk, vk = v k := ⟨_, rfl⟩
        rw [← hvk] at HOR HS hlt ⊢
        have HSS := Lib.hid HS
        clear hcc hP hb h24' hvk HS
        have or1 := HOR.out
        cases b with
        | true =>
          go_wp2_with fail
          refine ⟨⟨k + 1, by omega, by go_num, ?_, by first | rfl | trivial⟩, by simp [intOf]; omega⟩
          rw [HSS.out, if_pos rfl, Int.natCast_add]
        | false =>
          go_wp2_with fail
          refine ⟨⟨k + 1, by omega, by go_num, ?_, by first | rfl | trivial⟩, by simp [intOf]; omega⟩
          rw [HSS.out]; simp
      · obtain rfl : k = n := by omega
        have hlt := HV.out k
        have HSET := Lib.hid (setCell_at (i := 0) HAT.out (.slice a m c))
        have HKS := Lib.hid ((Kp.refl (· = p) wr).setCell (p := ⟨p, 0, none⟩) (fun _ => rfl) (.slice a m c))
        go_wp2_with fail
        go_ret2
        refine .inl ⟨by omega, rfl, ⟨a, c, HSET.out, HE5.out.kp HKS.out (fun b hb => ?_), H3.out, fun b hb => ?_⟩, HKS.out⟩
        · have : (Value.slice a (m + k) c).ownBlock = some b := by rw [← hb]; cases a <;> rfl
          exact (H4.out b this).2
        · have : (Value.slice a (m + k) c).ownBlock = some b := by rw [← hb]; cases a <;> rfl
          exact H4.out b this
end Go.Proofs.Ytcecnkmhhbncdaa.Rd
