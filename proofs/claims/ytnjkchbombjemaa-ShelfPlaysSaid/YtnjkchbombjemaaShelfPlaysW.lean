/- The walk of ShelfPlays. -/
import Derived.Test.YtnjkchbombjemaaStepC
namespace Go.Proofs.Ytnjkchbombjemaa.shelfPlays
open Go Go.RowKit Go.ChangeMaps Go.MapKept Go.Mg Go.Proofs.Ytnjkchbombjemaa.Sh Go.Proofs.Ytnjkchbombjemaa.Op Go.Proofs.Ytnjkchbombjemaa.Rf
theorem rel_bounds {S : Shs} {last : Int} {R : List It} {k : Nat} (h : Rel S last R) (hb : Bd k last R) (hk : k ≤ 1000) : S.last ≤ 1000 + k ∧ (∀ id x, AL.get S.books id = some x → x.pins < 4611686018427387904) ∧ S.bytes = rBytes R ∧ rBytes R < 4611686018427387904 := by
  have h1 := h.lst
  have h2 := hb.l1
  refine ⟨by omega, fun id x hx => ?_, h.bytes, ?_⟩
  · rw [h.books, get_ent] at hx
    cases hf : R.find? (isId id) with
    | none => rw [hf] at hx; cases hx
    | some y =>
      rw [hf] at hx
      have := hb.it y (List.mem_of_find?_eq_some hf)
      cases hx
      show y.refs.toNat < _
      omega
  · have : ∀ (T : List It), (∀ y, y ∈ T → y.data.length ≤ 2000) → (T.map fun y => y.data.length).sum ≤ 2000 * T.length := by
      intro T
      induction T with
      | nil => intro _; simp
      | cons y T ih =>
        intro hT
        have a := hT y List.mem_cons_self
        have b := ih (fun z hz => hT z (List.mem_cons_of_mem _ hz))
        rw [List.map_cons, List.sum_cons, List.length_cons, Nat.mul_succ]
        omega
    have := this R (fun y hy => (hb.it y hy).2.2)
    have := hb.len
    unfold rBytes
    omega
set_option maxRecDepth 100000 in
set_option maxHeartbeats 1000000 in
theorem walk (w : World) (a0 : Option Addr) (c0 : Nat) (l0 : List Ac) (r0 : SlR w 4 (.slice a0 l0.length c0) l0.length (l0.flatMap actCells)) (z0 : ∀ y ∈ l0, GoodA w y) :
    Calls Try.prog 8 #[.slice a0 l0.length c0] w (LawPost w) := by
  go_enter Try.func8, Try.ntmps8
  go_wp2_with fail
  refine (long_any w a0 c0 l0 r0 z0).mono ?_
  rintro e w' ⟨b, rfl, rfl, hs⟩
  cases b with
  | true =>
    go_wp2_with fail
    go_ret
    exact ⟨rfl, Below.refl _ _⟩
  | false =>
    have hsh := hs rfl
    have HS := Lib.hid hsh
    clear hs hsh
    go_wp2_with fail
    refine (new_o _).mono ?_
    rintro e w1 ⟨s, rfl, h1⟩
    have hT := Two.start h1
    go_wp2_with fail
    go_loopw [5] (fun i wr => ∃ (k : Nat) (S : Shs) (last : Int) (R : List It), k ≤ l0.length ∧ i = .int .i64 k ∧ Two w wr s S w1.heap.size last R ∧ Bd k last R ∧ Rel S last R) (fun i _ => l0.length - (intOf i).toNat)
    case atStart => exact ⟨0, sh0, 0, [], Nat.zero_le _, rfl, hT, ⟨Int.le_refl _, Int.le_refl _, Nat.le_refl _, fun y hy => by cases hy⟩, rel0⟩
    case round =>
      obtain ⟨k, S, last, R, hk, rfl, hr, hB, hR⟩ := hrel
      by_cases hlt : k < l0.length
      · obtain ⟨g, o, rfl, hgw, c0', c1', c2', c3'⟩ := act_at (r0.kp hr.kp (fun _ _ q => q)) hlt
        have hsy := HS.out.2 l0[k] (List.getElem_mem _)
        have hgy := z0 l0[k] (List.getElem_mem _)
        have hl200 := HS.out.1
        obtain ⟨q1, q2, q3, q4⟩ := rel_bounds hR hB (by omega)
        have HR := Lib.hid hR
        have HB := Lib.hid hB
        have HSY := Lib.hid hsy
        have HGY := Lib.hid hgy
        have HQ2 := Lib.hid q2
        generalize l0[k] = y at c0' c1' c2' c3' HSY HGY
        clear hR hB hsy hgy q2 q3 q4 z0
        go_wp2_with fail
        refine (step_any hr (by omega) HB.out q1 HQ2.out y HGY.out HSY.out.1 HSY.out.2).mono ?_
        rintro e w2 ⟨b, last', R', rfl, hT2, hB2, hrel2⟩
        obtain ⟨rfl, hR2⟩ := hrel2 HR.out
        obtain ⟨q1', q2', q3', q4'⟩ := rel_bounds hR2 hB2 (by omega)
        have hRl : R'.length < 100000000000 := by have := hB2.len; omega
        have HB2 := Lib.hid hB2
        have HR2 := Lib.hid hR2
        have hby : (sAct S y).bytes < 4611686018427387904 := by rw [q3']; exact q4'
        have Q3 := Lib.hid q3'
        have Q4 := Lib.hid q4'
        clear hr hB2 hR2 hrel2 q1 q1' q2' q3' q4' c0' c1' c2' c3'
        generalize sAct S y = S2 at hT2 HR2 Q3 hby ⊢
        go_wp2_with fail
        refine (two_bytes hT2 hby).mono ?_
        rw [Q3.out]
        rintro e w3 ⟨rfl, hT3⟩
        go_wp2_with fail
        refine (two_rbytes hT3 hRl Q4.out).mono ?_
        rintro e w4 ⟨rfl, rfl⟩
        have hq : (rBytes R' != rBytes R') = false := by simp
        go_wp2_with fail
        go_loopw [6] (fun i wr => ∃ j : Nat, j ≤ 7 ∧ i = .int .i64 j ∧ wr = w3) (fun i _ => 7 - (intOf i).toNat)
        case atStart => exact ⟨0, by decide, rfl, rfl⟩
        case round =>
          obtain ⟨j, hj, rfl, rfl⟩ := hrel
          by_cases hj7 : j < 7
          · have t1 : decide ((j : Int) ≤ 6) = true := by simp; omega
            go_wp2_with fail
            refine (two_refs hT3 j).mono ?_
            rw [HR2.out.refsOf]
            rintro e w4 ⟨rfl, rfl⟩
            go_wp2_with fail
            refine (two_rrefs hT3 hRl j).mono ?_
            rintro e w4 ⟨rfl, rfl⟩
            have hq1 : (rRefs R' (j : Int) != rRefs R' (j : Int)) = false := by simp
            go_wp2_with fail
            refine (two_size hT3 j).mono ?_
            rw [HR2.out.sizeOf]
            rintro e w4 ⟨rfl, rfl⟩
            go_wp2_with fail
            refine (two_rsize hT3 hRl j).mono ?_
            rintro e w4 ⟨rfl, rfl⟩
            have hq2 : (rSize R' (j : Int) != rSize R' (j : Int)) = false := by simp
            go_wp2_with fail
            exact ⟨⟨j + 1, by omega, by go_num, by first | trivial | rfl⟩, by simp [intOf]; omega⟩
          · have t1 : decide ((j : Int) ≤ 6) = false := by simp; omega
            go_wp2_with fail
            exact ⟨⟨k + 1, S2, last', R', by omega, by go_num, hT3, HB2.out, HR2.out⟩, by simp [intOf]; omega⟩
      · have HR := Lib.hid hr
        clear hR hB z0
        go_wp2_with fail
        refine (known_any _).mono ?_
        rintro e w6 ⟨rfl, k6⟩
        go_wp2_with fail
        go_ret
        exact ⟨rfl, (HR.out.kp.trans k6).below⟩
end Go.Proofs.Ytnjkchbombjemaa.shelfPlays
