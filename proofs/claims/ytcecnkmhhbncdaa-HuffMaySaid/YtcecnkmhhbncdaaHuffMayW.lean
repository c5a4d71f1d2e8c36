/- The walk of HuffMay. -/
import Derived.Test.YtcecnkmhhbncdaaHfY
import Derived.Test.YtcecnkmhhbncdaaHfV
import Derived.Test.YtcecnkmhhbncdaaHuffD
import Derived.Test.YtcecnkmhhbncdaaQuiet
import Derived.Test.YtcecnkmhhbncdaaOpen
namespace Go.Proofs.Ytcecnkmhhbncdaa.huffMay
open Go Go.RowKit Go.ChangeMaps Go.MapKept Go.Mg Go.Hf Go.Sort Go.Proofs.Ytcecnkmhhbncdaa.Hu Go.Proofs.Ytcecnkmhhbncdaa.Op

theorem nats_of (l : List Int) (h : ∀ x, x ∈ l → 0 ≤ x ∧ x ≤ 1073741824) : ∃ cs : List Nat, cs.length = l.length ∧ cs.map nv = l.map (Value.int .i64) ∧ cs.sum ≤ 1073741824 * cs.length := by
  induction l with
  | nil => exact ⟨[], rfl, rfl, by simp⟩
  | cons x l ih =>
    obtain ⟨cs, h1, h2, h3⟩ := ih (fun y hy => h y (List.mem_cons_of_mem _ hy))
    obtain ⟨p, q⟩ := h x List.mem_cons_self
    refine ⟨x.toNat :: cs, by simp [h1], ?_, ?_⟩
    · rw [List.map_cons, List.map_cons, h2]
      congr 1
      unfold nv
      congr 1
      omega
    · simp only [List.sum_cons, List.length_cons]
      omega
theorem lens_row (n : Nat) (L : Nat → Nat) : ((List.range n).map fun i => nv (L i)) = (lensOf n L).map (Value.int .i64) := by
  rw [lensOf, List.map_map]; rfl
/-- Where who has more is longer, counts may have been halved. -/
theorem must {cs : List Nat} {L : Nat → Nat} (h : IsLens cs L) {i k : Nat} (hi : i < cs.length) (hk : k < cs.length) (hpk : 0 < cs[k]) (hlt : cs[k] < cs[i]) (hL : L k < L i) : decide (144 * lstF 1099511627776 cs < cs.sum) = true := by
  have hs := lstF_spec 1099511627776 cs (by decide)
  apply decide_eq_true
  apply Classical.byContradiction
  intro hno
  have := h.more hs.2.2 hs.1 (by omega) hi hk hpk hlt
  omega
def gc (cs : List Nat) (i : Nat) : Nat := cs[i]?.getD 0
theorem gc_at {cs : List Nat} {i : Nat} (h : i < cs.length) : gc cs i = cs[i] := by simp [gc, h]
set_option maxRecDepth 100000 in
set_option maxHeartbeats 4000000 in
theorem walk (w : World) (a0 : Option Addr) (c0 : Nat) (l0 : List Int) (r0 : SlR w 1 (.slice a0 l0.length c0) l0.length (l0.map (Value.int .i64))) (_ : ∀ x ∈ l0, (Lit.int .i64 x).wf = true) :
    Calls Try.prog 5 #[.slice a0 l0.length c0] w (LawPost w) := by
  have mixed : Try.prog.follows .mixedOrders = true := by kernel_rfl
  have hml : l0.length ≤ maxLen := by
    obtain ⟨_, a, c, e, h1, h2, _⟩ := r0
    exact Nat.le_trans h1 h2
  have MC := Lib.hid (may_c w l0 a0 c0 r0 hml)
  have R0 := Lib.hid r0
  clear r0
  go_enter Try.func5, Try.ntmps5
  go_wp2_with fail
  refine MC.out.mono ?_
  rintro e w' ⟨z, hz, rfl, rfl⟩
  cases z with
  | false =>
    clear hz MC hml R0
    go_wp2_with fail
    go_ret
    exact ⟨rfl, Below.refl _ _⟩
  | true =>
    obtain ⟨hl, hx⟩ := hz rfl
    by_cases h100 : l0.length ≤ 100
    · obtain ⟨cs, h1, h2, h3⟩ := nats_of l0 hx
      have r1 := R0.out
      rw [← h2, ← h1] at r1
      rw [← h1] at hl h100
      have hS : cs.sum ≤ 1125899906842624 := by omega
      rw [← h1]
      have LP := Lib.hid (lens_p w' cs a0 c0 r1 hl hS)
      have HC0 := Lib.hid r1
      have HS := Lib.hid hS
      clear hx hz h1 h2 h3 r1 hS R0 MC hml hl
      go_wp2_with fail
      refine LP.out.mono ?_
      rintro e w1 ⟨L, a1, c1, rfl, hL, hLo, hk1⟩
      have HL := Lib.hid hL
      have HP := Lib.hid hL.pos
      have HLE := Lib.hid hL.le
      have HM := Lib.hid (fun i k hi hk hpk hlt hL' => must hL (i := i) (k := k) hi hk hpk hlt hL')
      have HOK := Lib.hid (hL.isOk (by omega))
      have HK1 := Lib.hid hk1
      have HSL := Lib.hid (HC0.out.kp hk1 (fun _ _ q => q))
      have hnm : Nm w1 a1 c1 (lensOf cs.length L) := by
        have := hLo.row.sl
        rw [lens_row] at this
        unfold Nm
        rw [show (lensOf cs.length L).length = cs.length by simp [lensOf]]
        exact this
      have HNM := Lib.hid hnm
      by_cases h0 : cs.length = 0
      · have : cs = [] := List.eq_nil_of_length_eq_zero h0
        subst this
        clear hLo hL hk1 LP
        go_wp2_with fail
        go_loopw [4, 5, 6] (fun a m i wr => a = .bool false ∧ m = .int .i64 0 ∧ i = .int .i64 0 ∧ wr = w1) (fun _ _ _ _ => 0)
        case atStart => exact ⟨rfl, rfl, rfl, rfl⟩
        case round =>
          obtain ⟨rfl, rfl, rfl, rfl⟩ := hrel
          go_wp2_with fail
          go_loopw [7] (fun i wx => i = .int .i64 0 ∧ wx = wr) (fun _ _ => 0)
          case atStart => exact ⟨rfl, rfl⟩
          case round =>
            obtain ⟨rfl, rfl⟩ := hrel
            go_wp2_with fail
            have IP : Hid (Calls Try.prog 21 #[.slice a1 0 c1] wr (IsPost wr (lensOf 0 L))) := Lib.hid (is_p wr (lensOf 0 L) a1 c1 HNM.out (by simp [lensOf]))
            refine IP.out.mono ?_
            rintro e w2 ⟨z, hz, rfl, hw2⟩
            obtain rfl : z = false := by
              cases z with
              | false => rfl
              | true => obtain ⟨c, hc, _⟩ := HOK.out.1 (hz.1 rfl); cases hc
            obtain rfl := hw2
            clear hz IP
            go_wp2_with fail
            refine (known_c w2).mono ?_
            rintro e w6 ⟨rfl, k6⟩
            have K6 := Lib.hid (HK1.out.trans k6)
            clear k6
            go_wp2_with fail
            go_ret
            exact ⟨rfl, K6.out.below⟩
      · obtain ⟨g1, e1, hcap1, hat⟩ := hLo.row.at1 (by omega)
        subst e1
        have hg1 : g1 < w1.heap.size := by
          obtain ⟨g, off, e, hg, _⟩ := HNM.out.lf_ (by simp [lensOf]; omega)
          simp only [Option.some.injEq, Addr.mk.injEq] at e
          omega
        obtain ⟨g, o, rfl, hg, hcap, hc⟩ := at_nv HSL.out (by omega)
        have hcc : ∀ V, Kp (fun _ => False) w1 V → ∀ i, i < cs.length → V.cell? ⟨g1, i, none⟩ = some (.int .i64 (L i : Nat)) ∧ V.cell? ⟨g, o + i, none⟩ = some (.int .i64 (gc cs i : Nat)) := fun V hk i hi =>
          ⟨(hk.cell (p := ⟨g1, i, none⟩) hg1 (fun q => q)).trans ((hat i hi).1 _ (by simp [hi, nv])), (hk.cell (p := ⟨g, o + i, none⟩) hg (fun q => q)).trans (by rw [gc_at hi]; exact hc i hi)⟩
        have hhv : ∀ V, Kp (fun _ => False) w1 V → Calls Try.prog 24 #[.slice (some ⟨g, o, none⟩) cs.length c0] V (HalvedPost V cs) := fun V hk => halved_c V cs (some ⟨g, o, none⟩) c0 (HSL.out.kp hk (fun _ _ q => q)) (by omega) (by omega) HS.out
        have his : ∀ V, Kp (fun _ => False) w1 V → Calls Try.prog 21 #[.slice (some ⟨g1, 0, none⟩) cs.length c1] V (IsPost V (lensOf cs.length L)) := fun V hk => by
          have := is_p V (lensOf cs.length L) (some ⟨g1, 0, none⟩) c1 (HNM.out.kp hk) (by simp [lensOf]; omega)
          rw [show (lensOf cs.length L).length = cs.length by simp [lensOf]] at this
          exact this
        have hpp : ∀ i, i < cs.length → (0 < L i ↔ 0 < gc cs i) ∧ L i ≤ 11 := fun i hi => ⟨by rw [gc_at hi, HP.out i]; exact ⟨fun ⟨_, q⟩ => q, fun q => ⟨hi, q⟩⟩, HLE.out i hi⟩
        have hmu : ∀ i k, i < cs.length → k < cs.length → 0 < gc cs k → gc cs k < gc cs i → L k < L i → decide (144 * lstF 1099511627776 cs < cs.sum) = true := fun i k hi hk h1 h2 h3 => by
          rw [gc_at hk] at h1 h2
          rw [gc_at hi] at h2
          exact HM.out i k hi hk h1 h2 h3
        have hfb : ∀ b : Bool, (b = true ↔ ∃ k, k < cs.length ∧ 0 < gc cs k) → ∀ z : Bool, (z = true ↔ IsOk (lensOf cs.length L)) → z = b := fun b hb z hz => by
          rw [HOK.out] at hz
          have : (∃ k, k < cs.length ∧ 0 < gc cs k) ↔ ∃ c, c ∈ cs ∧ 0 < c := by
            constructor
            · rintro ⟨k, hk, h⟩
              rw [gc_at hk] at h
              exact ⟨_, List.getElem_mem hk, h⟩
            · rintro ⟨c, hc, h⟩
              obtain ⟨k, hk, rfl⟩ := List.getElem_of_mem hc
              exact ⟨k, hk, by rw [gc_at hk]; exact h⟩
          rw [this] at hb
          rw [Bool.eq_iff_iff, hz, hb]
        obtain ⟨n, hn⟩ : ∃ n, n = cs.length := ⟨_, rfl⟩
        have HIS := Lib.hid his
        have HHV := Lib.hid hhv
        have HCC := Lib.hid hcc
        have HPP := Lib.hid hpp
        have HMU := Lib.hid hmu
        have HF := Lib.hid hfb
        rw [← hn] at HIS HHV HCC HPP HMU HF h0 h100 hcap hcap1 ⊢
        have HIS : Hid (∀ V, Kp (fun _ => False) w1 V → Calls Try.prog 21 #[.slice (some ⟨g1, 0, none⟩) n c1] V (IsPost V (lensOf cs.length L))) := Lib.hid (by rw [hn]; exact his)
        have HF : Hid (∀ b : Bool, (b = true ↔ ∃ k, k < n ∧ 0 < gc cs k) → ∀ z : Bool, (z = true ↔ IsOk (lensOf cs.length L)) → z = b) := Lib.hid (by rw [hn]; exact hfb)
        generalize gc cs = C at *
        clear LP hat hcc hc hL hLo hk1 hnm hhv his hpp hmu hfb hn HC0 HS HL HP HLE HM HOK HSL HNM
        go_wp2_with fail
        go_loopw [4, 5, 6] (fun a m i wr => ∃ (j mm : Nat) (b : Bool), j ≤ n ∧ mm ≤ 11 ∧ a = .bool b ∧ m = .int .i64 mm ∧ i = .int .i64 j ∧ (b = true ↔ ∃ k, k < j ∧ 0 < C k) ∧ Kp (fun _ => False) w1 wr) (fun _ _ i _ => n - (intOf i).toNat)
        case atStart => exact ⟨0, 0, false, Nat.zero_le _, by omega, rfl, rfl, rfl, ⟨(fun h => by cases h), (fun ⟨k, hk, _⟩ => by omega)⟩, Kp.refl _ _⟩
        case round =>
          obtain ⟨j, mm, b, hj, hmm, rfl, rfl, rfl, hb, hk⟩ := hrel
          have HK := Lib.hid hk
          have HB := Lib.hid hb
          clear hk hb
          by_cases hjn : j < n
          · have d0 : ∀ m os, (grow (wr.drewN m) os).cell? ⟨g1, j, none⟩ = some (.int .i64 (L j : Nat)) := fun m os => (HCC.out _ (HK.out.trans (kp_grow wr m os)) j hjn).1
            have d1 : ∀ m os, (grow (wr.drewN m) os).cell? ⟨g, o + j, none⟩ = some (.int .i64 (C j : Nat)) := fun m os => (HCC.out _ (HK.out.trans (kp_grow wr m os)) j hjn).2
            have e0 := (HCC.out _ HK.out j hjn).1
            have e1 := (HCC.out _ HK.out j hjn).2
            obtain ⟨hp, hle⟩ := HPP.out j hjn
            obtain ⟨y, hy⟩ : ∃ y, y = C j := ⟨_, rfl⟩
            rw [← hy] at d1 e1 hp
            generalize L j = x at d0 e0 hp hle
            have HY := Lib.hid hy
            clear hy
            by_cases hy0 : 0 < y
            · have hx0 : 0 < x := hp.2 hy0
              clear hp
              cases b with
              | true =>
                go_wp2_with fail
                refine WQ.region mixed (by kernel_rfl) ?_
                repeat (refine WQ.step (fun K hK => ?_); go_simp; first | (refine hK _ ?_; clear hK K) | (apply Exists.intro; refine ⟨fun _ => ?_, hK _ ?_⟩; (fail); clear hK K))
                refine WQ.nil ?_
                intro _ hw'
                obtain ⟨⟨nq, osq⟩, hw''⟩ := hw'
                subst hw''
                go_wp2_with fail
                exact ⟨⟨j + 1, max mm x, true, by omega, by omega, rfl, by go_num, by go_num, ⟨fun _ => ⟨j, by omega, by rw [← HY.out]; exact hy0⟩, fun _ => rfl⟩, HK.out.trans (kp_grow wr nq osq)⟩, by simp [intOf]; omega⟩
              | false =>
                go_wp2_with fail
                refine WQ.region mixed (by kernel_rfl) ?_
                repeat (refine WQ.step (fun K hK => ?_); go_simp; first | (refine hK _ ?_; clear hK K) | (apply Exists.intro; refine ⟨fun _ => ?_, hK _ ?_⟩; (fail); clear hK K))
                refine WQ.nil ?_
                intro _ hw'
                obtain ⟨⟨nq, osq⟩, hw''⟩ := hw'
                subst hw''
                go_wp2_with fail
                exact ⟨⟨j + 1, max mm x, true, by omega, by omega, rfl, by go_num, by go_num, ⟨fun _ => ⟨j, by omega, by rw [← HY.out]; exact hy0⟩, fun _ => rfl⟩, HK.out.trans (kp_grow wr nq osq)⟩, by simp [intOf]; omega⟩
            · have hx0 : ¬ 0 < x := fun q => hy0 (hp.1 q)
              clear hp
              obtain rfl : x = 0 := by omega
              obtain rfl : y = 0 := by omega
              have HB2 : Hid (b = true ↔ ∃ k, k < j + 1 ∧ 0 < C k) := Lib.hid (by
                rw [HB.out]
                constructor
                · rintro ⟨k, hk, h⟩
                  exact ⟨k, by omega, h⟩
                · rintro ⟨k, hk, h⟩
                  by_cases e : k = j
                  · subst e; rw [← HY.out] at h; omega
                  · exact ⟨k, by omega, h⟩)
              cases b with
              | true =>
                go_wp2_with fail
                refine WQ.region mixed (by kernel_rfl) ?_
                repeat (refine WQ.step (fun K hK => ?_); go_simp; first | (refine hK _ ?_; clear hK K) | (apply Exists.intro; refine ⟨fun _ => ?_, hK _ ?_⟩; (fail); clear hK K))
                refine WQ.nil ?_
                intro _ hw'
                obtain ⟨⟨nq, osq⟩, hw''⟩ := hw'
                subst hw''
                go_wp2_with fail
                exact ⟨⟨j + 1, mm, true, by omega, by omega, rfl, by go_num, by go_num, by (have := HB2.out; simpa using this), HK.out.trans (kp_grow wr nq osq)⟩, by simp [intOf]; omega⟩
              | false =>
                go_wp2_with fail
                refine WQ.region mixed (by kernel_rfl) ?_
                repeat (refine WQ.step (fun K hK => ?_); go_simp; first | (refine hK _ ?_; clear hK K) | (apply Exists.intro; refine ⟨fun _ => ?_, hK _ ?_⟩; (fail); clear hK K))
                refine WQ.nil ?_
                intro _ hw'
                obtain ⟨⟨nq, osq⟩, hw''⟩ := hw'
                subst hw''
                go_wp2_with fail
                exact ⟨⟨j + 1, mm, false, by omega, by omega, rfl, by go_num, by go_num, by (have := HB2.out; simpa using this), HK.out.trans (kp_grow wr nq osq)⟩, by simp [intOf]; omega⟩
          · obtain rfl : j = n := by omega
            have HFB := Lib.hid (HF.out b HB.out)
            clear HF HB
            obtain ⟨w3, hw3⟩ : ∃ w3, w3 = wr := ⟨_, rfl⟩
            go_wp2_with fail
            go_loopw [7] (fun i wx => ∃ q : Nat, q ≤ j ∧ i = .int .i64 q ∧ Kp (fun _ => False) w1 wx) (fun i _ => j - (intOf i).toNat)
            case atStart => exact ⟨0, Nat.zero_le _, rfl, HK.out⟩
            case round =>
              clear HK hw3 w3
              obtain ⟨q, hq, rfl, hk⟩ := hrel
              have HK := Lib.hid hk
              clear hk
              by_cases hqj : q < j
              · by_cases hm8 : mm < 8
                · have hm8' : ((mm : Nat) : Int) < 8 := by omega
                  have hm8d : decide (((mm : Nat) : Int) < 8) = true := decide_eq_true hm8'
                  go_wp2_with fail
                  go_loopw [8] (fun i wx => ∃ p : Nat, p ≤ j ∧ i = .int .i64 p ∧ Kp (fun _ => False) w1 wx) (fun i _ => j - (intOf i).toNat)
                  case atStart => exact ⟨0, Nat.zero_le _, rfl, HK.out⟩
                  case round =>
                    clear HK
                    obtain ⟨p, hp, rfl, hk⟩ := hrel
                    have HK := Lib.hid hk
                    clear hk
                    by_cases hpj : p < j
                    · have d0 : ∀ m os, (grow (wr.drewN m) os).cell? ⟨g1, q, none⟩ = some (.int .i64 (L q : Nat)) := fun m os => (HCC.out _ (HK.out.trans (kp_grow wr m os)) q hqj).1
                      have d1 : ∀ m os, (grow (wr.drewN m) os).cell? ⟨g, o + q, none⟩ = some (.int .i64 (C q : Nat)) := fun m os => (HCC.out _ (HK.out.trans (kp_grow wr m os)) q hqj).2
                      have d2 : ∀ m os, (grow (wr.drewN m) os).cell? ⟨g1, p, none⟩ = some (.int .i64 (L p : Nat)) := fun m os => (HCC.out _ (HK.out.trans (kp_grow wr m os)) p hpj).1
                      have d3 : ∀ m os, (grow (wr.drewN m) os).cell? ⟨g, o + p, none⟩ = some (.int .i64 (C p : Nat)) := fun m os => (HCC.out _ (HK.out.trans (kp_grow wr m os)) p hpj).2
                      have C1 : Hid (∀ (m : Nat) (os : Array Obj), 0 < C p → C p < C q → L p < L q → Calls Try.prog 24 #[.slice (some ⟨g, o, none⟩) j c0] (grow (wr.drewN m) os) fun e w' => e = .returned (.bool true) ∧ ∃ q os', w' = grow ((grow (wr.drewN m) os).drewN q) os') := Lib.hid (fun m os h1 h2 h3 => grown_same ((HHV.out _ (HK.out.trans (kp_grow wr m os))).mono (by
                        rintro e w' ⟨rfl, rfl⟩
                        rw [HMU.out q p hqj hpj h1 h2 h3]
                        exact ⟨rfl, rfl⟩)))
                      generalize L q = x at *
                      generalize C q = y at *
                      generalize L p = u at *
                      generalize C p = v at *
                      by_cases hA : v < y
                      · by_cases hB : 0 < v
                        · by_cases hD : u < x
                          · have C2 := Lib.hid (fun m os => C1.out m os hB hA hD)
                            clear C1
                            have hA1 : decide ((v : Int) < (y : Int)) = true := by simpa using hA
                            have hD1 : decide ((u : Int) < (x : Int)) = true := by simpa using hD
                            go_wp2_with fail
                            refine WQ.region mixed (by kernel_rfl) ?_
                            repeat (refine WQ.step (fun K hK => ?_); go_simp; first | (refine hK _ ?_; clear hK K) | (apply Exists.intro; refine ⟨fun _ => ?_, hK _ ?_⟩; (go_at_call 24; apply Calls.grown_of; with_reducible exact C2.out _ _); clear hK K))
                            refine WQ.nil ?_
                            intro _ hw'
                            obtain ⟨⟨nq, osq⟩, hw''⟩ := hw'
                            subst hw''
                            go_wp2_with fail
                            exact ⟨⟨p + 1, by omega, by go_num, HK.out.trans (kp_grow wr nq osq)⟩, by simp [intOf]; omega⟩
                          · clear C1
                            have hA1 : decide ((v : Int) < (y : Int)) = true := by simpa using hA
                            have hD1 : decide ((u : Int) < (x : Int)) = false := by simpa using hD
                            have hD2 : decide (u < x) = false := by simpa using hD
                            go_wp2_with fail
                            refine WQ.region mixed (by kernel_rfl) ?_
                            repeat (refine WQ.step (fun K hK => ?_); go_simp; first | (refine hK _ ?_; clear hK K) | (apply Exists.intro; refine ⟨fun _ => ?_, hK _ ?_⟩; (fail); clear hK K))
                            refine WQ.nil ?_
                            intro _ hw'
                            obtain ⟨⟨nq, osq⟩, hw''⟩ := hw'
                            subst hw''
                            go_wp2_with fail
                            exact ⟨⟨p + 1, by omega, by go_num, HK.out.trans (kp_grow wr nq osq)⟩, by simp [intOf]; omega⟩
                        · clear C1
                          obtain rfl : v = 0 := by omega
                          go_wp2_with fail
                          refine WQ.region mixed (by kernel_rfl) ?_
                          repeat (refine WQ.step (fun K hK => ?_); go_simp; first | (refine hK _ ?_; clear hK K) | (apply Exists.intro; refine ⟨fun _ => ?_, hK _ ?_⟩; (fail); clear hK K))
                          refine WQ.nil ?_
                          intro _ hw'
                          obtain ⟨⟨nq, osq⟩, hw''⟩ := hw'
                          subst hw''
                          go_wp2_with fail
                          exact ⟨⟨p + 1, by omega, by go_num, HK.out.trans (kp_grow wr nq osq)⟩, by simp [intOf]; omega⟩
                      · clear C1
                        have hA1 : decide ((v : Int) < (y : Int)) = false := by simpa using hA
                        have hA2 : decide (v < y) = false := by simpa using hA
                        go_wp2_with fail
                        refine WQ.region mixed (by kernel_rfl) ?_
                        repeat (refine WQ.step (fun K hK => ?_); go_simp; first | (refine hK _ ?_; clear hK K) | (apply Exists.intro; refine ⟨fun _ => ?_, hK _ ?_⟩; (fail); clear hK K))
                        refine WQ.nil ?_
                        intro _ hw'
                        obtain ⟨⟨nq, osq⟩, hw''⟩ := hw'
                        subst hw''
                        go_wp2_with fail
                        exact ⟨⟨p + 1, by omega, by go_num, HK.out.trans (kp_grow wr nq osq)⟩, by simp [intOf]; omega⟩
                    · obtain rfl : p = j := by omega
                      go_wp2_with fail
                      exact ⟨⟨q + 1, by omega, by go_num, HK.out⟩, by simp [intOf]; omega⟩
                · go_wp2_with fail
                  have IP : Hid (Calls Try.prog 21 #[.slice (some ⟨g1, 0, none⟩) j c1] wr (IsPost wr (lensOf cs.length L))) := Lib.hid (HIS.out wr HK.out)
                  refine IP.out.mono ?_
                  rintro e w2 ⟨z, hz, rfl, hw2⟩
                  obtain rfl := hw2
                  have hzb : z = b := HFB.out z hz
                  subst hzb
                  clear hz IP
                  cases z <;> (go_wp2_with fail; refine (known_c w2).mono ?_; rintro e w6 ⟨rfl, k6⟩; have K6 := Lib.hid ((HK1.out.trans HK.out).trans k6); clear k6; go_wp2_with fail; go_ret; exact ⟨rfl, K6.out.below⟩)
              · obtain rfl : q = j := by omega
                go_wp2_with fail
                have IP : Hid (Calls Try.prog 21 #[.slice (some ⟨g1, 0, none⟩) q c1] wr (IsPost wr (lensOf cs.length L))) := Lib.hid (HIS.out wr HK.out)
                refine IP.out.mono ?_
                rintro e w2 ⟨z, hz, rfl, hw2⟩
                obtain rfl := hw2
                have hzb : z = b := HFB.out z hz
                subst hzb
                clear hz IP
                cases z <;> (go_wp2_with fail; refine (known_c w2).mono ?_; rintro e w6 ⟨rfl, k6⟩; have K6 := Lib.hid ((HK1.out.trans HK.out).trans k6); clear k6; go_wp2_with fail; go_ret; exact ⟨rfl, K6.out.below⟩)
    · have hgt : 100 < l0.length := by omega
      clear R0 MC hx hz
      go_wp2_with fail
      go_ret
      exact ⟨rfl, Below.refl _ _⟩
end Go.Proofs.Ytcecnkmhhbncdaa.huffMay
