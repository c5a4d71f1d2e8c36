/- The program's Encode. -/
import Derived.Test.YtcecnkmhhbncdaaHeD
import Derived.Test.YtcecnkmhhbncdaaInRound
import Derived.RangeFuncLeaves
import Derived.RangeFuncCalls
namespace Go.Proofs.Ytcecnkmhhbncdaa.He
open Go Go.RowKit Go.Shelf Go.ChangeMaps Go.MapKept Go.Mg Go.Hf Go.Sort Go.Proofs.Ytcecnkmhhbncdaa.Hu Go.Proofs.Ytcecnkmhhbncdaa.Bw Go.Proofs.Ytcecnkmhhbncdaa.It

theorem neww_c (w : World) : Calls Try.prog 34 #[] w fun e w' => e = .returned (.pointer (some ⟨w.heap.size, 0, none⟩)) ∧ w' = w.alloc (.cells #[.slice none 0 0] 85) := by
  go_enter Try.func34, Try.ntmps34
  go_wp2_with fail
  go_ret
  exact ⟨rfl, rfl⟩
theorem back_c (a : Option Addr) (len cap : Nat) (w : World) :
    Calls Try.prog 35 #[.slice a len cap] w fun e w' => e = .returned (.func (.func 53) #[] #[.pointer (some ⟨w.heap.size, 0, none⟩)]) ∧ w' = w.alloc (.cells #[.slice a len cap] 30) :=
  callsIn_wide.1 (backward_in Fence.wide 3 trivial rfl a len cap w)
theorem Kp.put (W : World) (D : Nat) (o : Obj) : Kp (· = D) W (W.putObj D o) := ⟨rfl, rfl, rfl, by simp [World.putObj], fun k _ hn => World.putObj_heap_other hn⟩
theorem results_cc {fn : Func} {p q : Tmp} {ty ty2 : TypeId} (h : fn.results = #[.cell p ty, .cell q ty2]) (tmps : Array Value) (P : Program) (w : World) :
    (results fn tmps).run P w = ((asAddr (tmps.getD p undef)).run P w).andThen fun a w₁ => ((loadVar ty a).run P w₁).andThen fun v w₂ => ((asAddr (tmps.getD q undef)).run P w₂).andThen fun b w₃ => ((loadVar ty2 b).run P w₃).andThen fun u w₄ => .ok (.tuple #[v, u]) w₄ := by
  simp only [results, h]
  simp [Sem.run_bind, Result.andThen]

attribute [local go_sem] Oper.semAt_some
set_option maxRecDepth 100000 in
set_option maxHeartbeats 4000000 in
theorem encode_p (w : World) (xs : List Int) (a : Option Addr) (c : Nat) (h : Nm w a c xs) (hl : xs.length ≤ 300) (l : List UInt8) (ab : Option Addr) (cb' : Nat) (hb : SlR w 1 (.slice ab l.length cb') l.length (l.map u8c)) (hlb : l.length ≤ 1000) :
    Calls Try.prog 25 #[.slice a xs.length c, .slice ab l.length cb'] w (EncPost w xs l) := by
  refine (callsIn_wide (n := 5)).1 ?_
  obtain ⟨W, hW⟩ : ∃ W, W = ((w.alloc (.cells #[.slice a xs.length c] 22)).alloc (.cells #[.slice none 0 0] 30)).alloc (.cells #[.bool false] 4) := ⟨_, rfl⟩
  have HWE := Lib.hid hW
  have hWs : W.heap.size = w.heap.size + 3 := by rw [hW]; simp
  have hWk : Kp (fun _ => False) w W := by rw [hW]; exact (((Kp.refl _ _).alloc _).alloc _).alloc _
  have b0 : W.heap[w.heap.size]? = some (.cells #[.slice a xs.length c] 22 (0, 0)) := by
    rw [hW]; exact ((Kp.refl (fun _ => False) _).alloc _).at_ (((Kp.refl (fun _ => False) _).alloc _).at_ (alloc_at w _) (fun q => q)) (fun q => q)
  have b1 : W.heap[w.heap.size + 1]? = some (.cells #[.slice none 0 0] 30 (0, 0)) := by
    rw [hW]; have := alloc_at (w.alloc (.cells #[.slice a xs.length c] 22)) (.cells #[.slice none 0 0] 30); rw [World.size_alloc] at this
    exact ((Kp.refl (fun _ => False) _).alloc _).at_ this (fun q => q)
  have b2 : W.heap[w.heap.size + 2]? = some (.cells #[.bool false] 4 (0, 0)) := by
    rw [hW]; have := alloc_at ((w.alloc (.cells #[.slice a xs.length c] 22)).alloc (.cells #[.slice none 0 0] 30)) (.cells #[.bool false] 4); rw [World.size_alloc, World.size_alloc] at this
    exact this
  have D1 := Lib.hid (is_p W xs a c (h.kp hWk) (by omega))
  have C1 := Lib.hid (fun h0 => codes_p W xs a c (h.kp hWk) h0 hl)
  have R0 := Lib.hid h
  have RB := Lib.hid hb
  have HWK := Lib.hid hWk
  have HB0 := Lib.hid b0
  have HB1 := Lib.hid b1
  have HB2 := Lib.hid b2
  have d0 : W.cell? ⟨w.heap.size, 0, none⟩ = some (.slice a xs.length c) := by rw [cell_of b0]; rfl
  have d1 : W.cell? ⟨w.heap.size + 1, 0, none⟩ = some (.slice none 0 0) := by rw [cell_of b1]; rfl
  have d2 : W.cell? ⟨w.heap.size + 2, 0, none⟩ = some (.bool false) := by rw [cell_of b2]; rfl
  have f1 := free_of b1 0
  have f2 := free_of b2 0
  clear h hb hW hWk b0 b1 b2
  refine callsIn_of_wp_marks Try.func25 rfl trivial ?_ rfl
  refine wpIn_wide.2 ?_
  simp only [Try.ntmps25, List.size_toArray, List.length_cons, List.length_nil, Nat.reduceAdd, Nat.reduceSub, Array.replicate_succ, Array.replicate_zero, List.push_toArray, List.append_toArray, List.nil_append, List.cons_append]
  go_wp2_with fail
  rw [← HWE.out]
  refine D1.out.mono ?_
  rintro e w' ⟨z, hz, rfl, hw'⟩
  obtain rfl := hw'
  cases z with
  | false =>
    have HZ := Lib.hid (show ¬ EncOk xs l from fun q => by have := hz.2 q.1; cases this)
    have b1 := HB1.out
    have b2 := HB2.out
    have K5 := Lib.hid ((HWK.out.setCell (p := ⟨w.heap.size + 1, 0, none⟩) (fun q => by dsimp only at q; omega) (.slice none 0 0)).setCell (p := ⟨w.heap.size + 1 + 1, 0, none⟩) (fun q => by dsimp only at q; omega) (.bool false))
    have y1 : ((w'.setCell ⟨w.heap.size + 1, 0, none⟩ (.slice none 0 0)).setCell ⟨w.heap.size + 1 + 1, 0, none⟩ (.bool false)).cell? ⟨w.heap.size + 1, 0, none⟩ = some (.slice none 0 0) := by
      rw [cell_of (Kp.at_ ((Kp.refl (· = w.heap.size + 1 + 1) _).setCell (p := ⟨w.heap.size + 1 + 1, 0, none⟩) (fun _ => rfl) _) (setCell_at (i := 0) b1 _) (by omega))]
      rfl
    have y2 : ((w'.setCell ⟨w.heap.size + 1, 0, none⟩ (.slice none 0 0)).setCell ⟨w.heap.size + 1 + 1, 0, none⟩ (.bool false)).cell? ⟨w.heap.size + 1 + 1, 0, none⟩ = some (.bool false) := by
      rw [cell_of (setCell_at (i := 0) (Kp.at_ ((Kp.refl (· = w.heap.size + 1) _).setCell (p := ⟨w.heap.size + 1, 0, none⟩) (fun _ => rfl) _) b2 (by omega)) _)]
      rfl
    clear hz D1 C1 b1 b2
    go_wp2_with fail
    refine ⟨.tuple #[.slice none 0 0, .bool false], ?_, .inr ⟨HZ.out, rfl, K5.out⟩⟩
    rw [results_cc rfl]
    simp [go_sem, y1, y2]
  | true =>
    have hok : IsOk xs := hz.1 rfl
    have hpos : 0 < xs.length := by
      apply Nat.pos_of_ne_zero
      intro e
      have : xs = [] := List.eq_nil_of_length_eq_zero e
      subst this
      obtain ⟨_, _, h | h⟩ := hok <;> simp [isSt] at h
    have HOK := Lib.hid hok
    clear hz D1 hok
    go_wp2_with fail
    refine (C1.out hpos).mono ?_
    rintro e w3 ⟨gc, rfl, p1, p2, p3⟩
    have P1 := Lib.hid p1
    have P2 := Lib.hid p2
    have P3 := Lib.hid p3
    clear p1 p2 p3 C1
    go_wp2_with (go_at_call 34; refine (neww_c _).mono ?_; rintro e w' ⟨rfl, rfl⟩)
    refine (back_c ab l.length cb' _).mono ?_
    rintro e w' ⟨rfl, rfl⟩
    obtain ⟨W0, hW0⟩ : ∃ W0, W0 = (((w3.alloc (.cells #[.slice (some ⟨gc, 0, none⟩) xs.length xs.length] 22)).alloc (.cells #[.slice none 0 0] 85)).alloc (.cells #[.pointer (some ⟨w3.heap.size + 1, 0, none⟩)] 44)).alloc (.cells #[.slice ab l.length cb'] 30) := ⟨_, rfl⟩
    go_wp2_with fail
    rw [← hW0]
    have H3 := Lib.hid (HWK.out.trans P3.out)
    have hw3 : w.heap.size + 3 ≤ w3.heap.size := by have := P3.out.size; omega
    have HW0s := Lib.hid (show W0.heap.size = w3.heap.size + 4 by rw [hW0]; simp)
    have W0s := HW0s.out
    have kr : ∀ X, Kp (fun _ => False) X X := fun X => Kp.refl _ X
    have W0k : Kp (fun _ => False) w3 W0 := by rw [hW0]; exact ((((kr _).alloc _).alloc _).alloc _).alloc _
    have x0 : W0.heap[w3.heap.size]? = some (.cells #[.slice (some ⟨gc, 0, none⟩) xs.length xs.length] 22 (0, 0)) := by
      rw [hW0]; exact ((((kr _).alloc _).alloc _).alloc _).at_ (alloc_at w3 _) (fun q => q)
    have x1 : WrAt 85 (· = w3.heap.size + 1) W0 (w3.heap.size + 1) none 0 [] := by
      have := wr_new 85 (w3.alloc (.cells #[.slice (some ⟨gc, 0, none⟩) xs.length xs.length] 22))
      rw [World.size_alloc] at this
      rw [hW0]; exact this.kp (((kr _).alloc _).alloc _) (fun _ _ q => q)
    have x2 : W0.heap[w3.heap.size + 1 + 1]? = some (.cells #[.pointer (some ⟨w3.heap.size + 1, 0, none⟩)] 44 (0, 0)) := by
      have := alloc_at ((w3.alloc (.cells #[.slice (some ⟨gc, 0, none⟩) xs.length xs.length] 22)).alloc (.cells #[.slice none 0 0] 85)) (.cells #[.pointer (some ⟨w3.heap.size + 1, 0, none⟩)] 44)
      rw [World.size_alloc, World.size_alloc] at this
      rw [hW0]; exact ((kr _).alloc _).at_ this (fun q => q)
    have x3 : W0.heap[w3.heap.size + 1 + 1 + 1]? = some (.cells #[.slice ab l.length cb'] 30 (0, 0)) := by
      have := alloc_at (((w3.alloc (.cells #[.slice (some ⟨gc, 0, none⟩) xs.length xs.length] 22)).alloc (.cells #[.slice none 0 0] 85)).alloc (.cells #[.pointer (some ⟨w3.heap.size + 1, 0, none⟩)] 44)) (.cells #[.slice ab l.length cb'] 30)
      rw [World.size_alloc, World.size_alloc, World.size_alloc] at this
      rw [hW0]; exact this
    have z0 := W0k.at_ (P3.out.at_ HB0.out (fun q => q)) (fun q => q)
    have z1 := W0k.at_ (P3.out.at_ HB1.out (fun q => q)) (fun q => q)
    have z2 := W0k.at_ (P3.out.at_ HB2.out (fun q => q)) (fun q => q)
    have HK0 := Lib.hid (H3.out.trans W0k)
    obtain ⟨g, o, rfl, hg, hcap, hc⟩ := R0.out.lf_ hpos
    have hgc : gc < w3.heap.size := lt_of_at P2.out
    have HC : Hid (∀ V, Kp (· = w3.heap.size + 1) W0 V → ∀ i, i < xs.length → V.cell? ⟨gc, i, none⟩ = some (.int .i64 (codes xs i)) ∧ V.cell? ⟨g, o + i, none⟩ = some (.int .i64 (lf xs i))) := Lib.hid (fun V hk i hi =>
      ⟨(hk.cell (p := ⟨gc, i, none⟩) (by have := W0k.size; dsimp only; omega) (by dsimp only; omega)).trans ((W0k.cell (p := ⟨gc, i, none⟩) hgc (fun q => q)).trans (P2.out.cell hi)),
       (hk.cell (p := ⟨g, o + i, none⟩) (by have := HK0.out.size; dsimp only; omega) (by dsimp only; omega)).trans ((HK0.out.cell (p := ⟨g, o + i, none⟩) hg (fun q => q)).trans (hc i hi))⟩)
    have HX : Hid (∀ V, Kp (· = w3.heap.size + 1) W0 V → V.cell? ⟨w.heap.size, 0, none⟩ = some (.slice (some ⟨g, o, none⟩) xs.length c) ∧ V.cell? ⟨w3.heap.size, 0, none⟩ = some (.slice (some ⟨gc, 0, none⟩) xs.length xs.length) ∧ V.cell? ⟨w3.heap.size + 1 + 1, 0, none⟩ = some (.pointer (some ⟨w3.heap.size + 1, 0, none⟩)) ∧
      V.heap[w.heap.size + 1]? = some (.cells #[.slice none 0 0] 30 (0, 0)) ∧ V.heap[w.heap.size + 1 + 1]? = some (.cells #[.bool false] 4 (0, 0))) := Lib.hid (fun V hk =>
      ⟨by rw [cell_of (hk.at_ z0 (by omega))]; rfl, by rw [cell_of (hk.at_ x0 (by omega))]; rfl, by rw [cell_of (hk.at_ x2 (by omega))]; rfl, hk.at_ z1 (by omega), hk.at_ z2 (by omega)⟩)
    have HRD : Hid (Rd w.heap.size (w3.heap.size + 1 + 1 + 1) W0 ab cb' l) := Lib.hid ⟨fun V hk => by
        rw [hk.cell (p := ⟨w3.heap.size + 1 + 1 + 1, 0, none⟩) (by dsimp only; omega) (.inr rfl), cell_of x3]; rfl, fun h0 => by
        obtain ⟨gb, ob, rfl, hgb, hcb, hcc⟩ := bytes_at RB.out h0
        exact ⟨gb, ob, rfl, hcb, fun V hk i hi => (hk.cell (p := ⟨gb, ob + i, none⟩) (by have := HK0.out.size; dsimp only; omega) (.inl hgb)).trans ((HK0.out.cell (p := ⟨gb, ob + i, none⟩) hgb (fun q => q)).trans (hcc i hi))⟩⟩
    have HI0 : Hid (EncI xs W0 (w3.heap.size + 1) [] W0) := Lib.hid ⟨(fun x hx => by cases hx), Kp.refl _ _, (· = w3.heap.size + 1), none, 0, x1, fun k q => .inl q⟩
    clear W0s x0 x1 x2 x3 z0 z1 z2 W0k kr hg hc hW0 R0 RB HB0 HB1 HB2 HWE d0 d1 d2 f1 f2
    refine (wpIn_wide (n := 5)).1 ?_
    refine wpIn_rangeFunc_ownG rfl (by omega) (gf := 53) (lb := #[.pointer (some ⟨w3.heap.size + 1 + 1 + 1, 0, none⟩)]) rfl trivial (enters_of Try.func53 (by kernel_rfl) rfl)
      (backward_stops Fence.wide 4 trivial rfl (by omega) (w3.heap.size + 1 + 1 + 1) w.heap.size cb' ab l (by omega) W0 HRD.out) (fun h k => h.trans k) (fun V lp o1 o2 h1 _ _ _ => KB.putObj V lp o2 (by have := HW0s.out; omega) (by have := HW0s.out; omega)) (Below.refl _ _) (fun _ => rfl)
      (EncI xs W0 (w3.heap.size + 1)) (EncX xs W0 (w3.heap.size + 1) (w.heap.size + 1) (w.heap.size + 1 + 1)) (EncI.own xs W0 (w3.heap.size + 1)) (EncX.own xs W0 (w3.heap.size + 1) _ _) HI0.out
      (fun x => { tmps := #[.slice (some ⟨g, o, none⟩) xs.length c, .slice ab l.length cb', .pointer (some ⟨w.heap.size, 0, none⟩), undef, .pointer (some ⟨w.heap.size + 1, 0, none⟩), .pointer (some ⟨w.heap.size + 1 + 1, 0, none⟩), .pointer (some ⟨w3.heap.size, 0, none⟩), .pointer (some ⟨w3.heap.size + 1 + 1, 0, none⟩), undef, .int .u8 (x.2.toNat : Nat), .slice (some ⟨g, o, none⟩) xs.length c, .bool true, .bool false, .slice (some ⟨g, o, none⟩) xs.length c, .slice (some ⟨gc, 0, none⟩) xs.length xs.length, .pointer (some ⟨w3.heap.size + 1, 0, none⟩), .slice ab l.length cb', .func (.func 53) #[] #[.pointer (some ⟨w3.heap.size + 1 + 1 + 1, 0, none⟩)], .int .i64 x.1, .int .u8 (x.2.toNat : Nat), undef, undef, undef, undef, undef, undef, undef, undef, undef, undef, undef, undef, undef, undef, undef, undef, undef, undef, undef, undef, undef, undef, undef, undef], defers := [] }) ?assign ?body ?done ?stop
    case assign =>
      intro lp x V K hK
      gi_wp2
      exact hK
    case body =>
      rintro lp pre x V hI hlt
      have HI := Lib.hid hI
      obtain ⟨e0, e1, e2, e3, e4⟩ := HX.out V hI.kp
      have f1 := free_of e3 0
      have f2 := free_of e4 0
      have r1 : V.cell? ⟨w.heap.size + 1, 0, none⟩ = some (.slice none 0 0) := by rw [cell_of e3]; rfl
      have r2 : V.cell? ⟨w.heap.size + 1 + 1, 0, none⟩ = some (.bool false) := by rw [cell_of e4]; rfl
      have HBAD : Hid (¬ gd xs x.2.toNat → KeepsFrom W0.heap.size V ((V.setCell ⟨w.heap.size + 1, 0, none⟩ (.slice none 0 0)).setCell ⟨w.heap.size + 1 + 1, 0, none⟩ (.bool false)) ∧
          EncX xs W0 (w3.heap.size + 1) (w.heap.size + 1) (w.heap.size + 1 + 1) .ret (pre ++ [x]) ((V.setCell ⟨w.heap.size + 1, 0, none⟩ (.slice none 0 0)).setCell ⟨w.heap.size + 1 + 1, 0, none⟩ (.bool false))) := Lib.hid (fun hx => by
        refine ⟨((KeepsOthers.setCell _ _ _).trans (KeepsOthers.setCell _ _ _)).from _, rfl, ⟨x, by simp, hx⟩, ?_, ?_, ((hI.kp.mono (fun k _ q => .inl q)).setCell (p := ⟨w.heap.size + 1, 0, none⟩) (fun _ => .inr (.inl rfl)) _).setCell (p := ⟨w.heap.size + 1 + 1, 0, none⟩) (fun _ => .inr (.inr rfl)) _⟩
        · rw [cell_of (Kp.at_ ((Kp.refl (· = w.heap.size + 1 + 1) _).setCell (p := ⟨w.heap.size + 1 + 1, 0, none⟩) (fun _ => rfl) _) (setCell_at (i := 0) e3 _) (by omega))]
          rfl
        · rw [cell_of (setCell_at (i := 0) (Kp.at_ ((Kp.refl (· = w.heap.size + 1) _).setCell (p := ⟨w.heap.size + 1, 0, none⟩) (fun _ => rfl) _) e4 (by omega)) _)]
          rfl)
      clear hI e3 e4
      obtain ⟨s, hs⟩ : ∃ s, s = x.2.toNat := ⟨_, rfl⟩
      have hs256 : s < 256 := by rw [hs]; exact x.2.toNat_lt
      have HS := Lib.hid hs
      rw [← hs] at HBAD ⊢
      clear hs
      by_cases g1 : s < xs.length
      · obtain ⟨c2, c1⟩ := HC.out V HI.out.kp s g1
        by_cases g2 : lf xs s = 0
        · have HNG := Lib.hid (show ¬ gd xs s from fun q => q.2 g2)
          rw [g2] at c1
          clear c2 g2
          gi_wp2
          exact HBAD.out HNG.out
        · obtain ⟨cq, m, hm1, hm2, hm0, hm11, hcq⟩ := code_nat HOK.out ⟨g1, g2⟩
          have HCBE := Lib.hid (show cb xs s = bitsOf cq m by unfold cb; rw [hm1, hm2]; simp)
          have HCQ := Lib.hid hm1.symm
          have HMQ := Lib.hid hm2.symm
          rw [hm1] at c2
          rw [hm2] at c1
          have hm00 : ((m : Int) == 0) = false := by rw [beq_eq_false_iff_ne]; omega
          have HG := Lib.hid (show gd xs s from ⟨g1, g2⟩)
          obtain ⟨F, aw, cw, hw, hF⟩ := HI.out.drew.wr
          have PUT := Lib.hid (put_p (WrAt.min hw) cq m (by omega) hcq (by have := flat_len HOK.out.2.1 pre; omega))
          have STEP := Lib.hid (fun V' (hV : WrPost 85 _ V.drew _ _ V') => back_drew (HI.out.drew.step (n₀ := w.heap.size) (Bs := w3.heap.size + 1 + 1 + 1) (by have := HW0s.out; omega) (by omega) (by omega) (by have := HW0s.out; omega) (x := x) (by rw [← HS.out]; exact HG.out) hw hF (by rw [← HS.out, HCBE.out]; exact hV)))
          clear hm1 hm2 g2 hcq hw hF HBAD
          gi_wp2
          have HCS : Hid (∀ w', Kp (· = w3.heap.size + 1) W0 w' → w'.cell? ⟨gc, s, none⟩ = some (.int .i64 (cq : Nat)) ∧ w'.cell? ⟨g, o + s, none⟩ = some (.int .i64 (m : Nat))) := Lib.hid (fun w' hSw => by
            obtain ⟨q2, q1⟩ := HC.out w' hSw s g1
            rw [q2, q1, ← HCQ.out, ← HMQ.out]
            exact ⟨rfl, rfl⟩)
          have hS0 : Kp (· = w3.heap.size + 1) W0 V.drew := HI.out.kp.drew
          clear c1 c2 e0 e1 e2 r1 r2 f1 f2
          refine wpIn_round_of_held (S := Kp (· = w3.heap.size + 1) W0) (by kernel_rfl) (by kernel_rfl) (by rintro ⟨_, _, q⟩; exact q) ?_
          refine wpAnyH_take (i := 0) (v := ?_) rfl (by kernel_rfl) (by kernel_rfl) (by kernel_rfl) (fun _ _ _ h => h) (Or.inl ⟨by rfl, ?_⟩) hS0 ?_
          rotate_left 1
          · intro w' hSw
            obtain ⟨c2, c1⟩ := HCS.out w' hSw
            obtain ⟨e0, e1, e2, _, _⟩ := HX.out w' hSw
            go_simp
            first | done | with_reducible rfl
          simp only [Act.put, List.setIfInBounds_toArray]
          refine wpAnyH_take (i := 1) (v := ?_) rfl (by kernel_rfl) (by kernel_rfl) (by kernel_rfl) (fun _ _ _ h => h) (Or.inl ⟨by rfl, ?_⟩) hS0 ?_
          rotate_left 1
          · intro w' hSw
            obtain ⟨c2, c1⟩ := HCS.out w' hSw
            obtain ⟨e0, e1, e2, _, _⟩ := HX.out w' hSw
            go_simp
            first | done | with_reducible rfl
          simp only [Act.put]
          refine wpAnyH_take (i := 2) (v := ?_) rfl (by kernel_rfl) (by kernel_rfl) (by kernel_rfl) (fun _ _ _ h => h) (Or.inl ⟨by rfl, ?_⟩) hS0 ?_
          rotate_left 1
          · intro w' hSw
            obtain ⟨c2, c1⟩ := HCS.out w' hSw
            obtain ⟨e0, e1, e2, _, _⟩ := HX.out w' hSw
            go_simp
            first | done | with_reducible rfl
          simp only [Act.put]
          refine wpAnyH_take (i := 3) (v := ?_) rfl (by kernel_rfl) (by kernel_rfl) (by kernel_rfl) (fun _ _ _ h => h) (Or.inl ⟨by rfl, ?_⟩) hS0 ?_
          rotate_left 1
          · intro w' hSw
            obtain ⟨c2, c1⟩ := HCS.out w' hSw
            obtain ⟨e0, e1, e2, _, _⟩ := HX.out w' hSw
            go_simp
            first | done | with_reducible rfl
          simp only [Act.put]
          refine wpAnyH_take (i := 4) (v := ?_) rfl (by kernel_rfl) (by kernel_rfl) (by kernel_rfl) (fun _ _ _ h => h) (Or.inl ⟨by rfl, ?_⟩) hS0 ?_
          rotate_left 1
          · intro w' hSw
            obtain ⟨c2, c1⟩ := HCS.out w' hSw
            obtain ⟨e0, e1, e2, _, _⟩ := HX.out w' hSw
            go_simp
            first | done | with_reducible rfl
          simp only [Act.put]
          refine wpAnyH_take (i := 5) (v := ?_) rfl (by kernel_rfl) (by kernel_rfl) (by kernel_rfl) (fun _ _ _ h => h) (Or.inl ⟨by rfl, ?_⟩) hS0 ?_
          rotate_left 1
          · intro w' hSw
            obtain ⟨c2, c1⟩ := HCS.out w' hSw
            obtain ⟨e0, e1, e2, _, _⟩ := HX.out w' hSw
            go_simp
            first | done | with_reducible rfl
          simp only [Act.put]
          refine wpAnyH_take (i := 6) (v := ?_) rfl (by kernel_rfl) (by kernel_rfl) (by kernel_rfl) (fun _ _ _ h => h) (Or.inl ⟨by rfl, ?_⟩) hS0 ?_
          rotate_left 1
          · intro w' hSw
            obtain ⟨c2, c1⟩ := HCS.out w' hSw
            obtain ⟨e0, e1, e2, _, _⟩ := HX.out w' hSw
            go_simp
            first | done | with_reducible rfl
          simp only [Act.put]
          refine wpAnyH_take (i := 7) (v := ?_) rfl (by kernel_rfl) (by kernel_rfl) (by kernel_rfl) (fun _ _ _ h => h) (Or.inl ⟨by rfl, ?_⟩) hS0 ?_
          rotate_left 1
          · intro w' hSw
            obtain ⟨c2, c1⟩ := HCS.out w' hSw
            obtain ⟨e0, e1, e2, _, _⟩ := HX.out w' hSw
            go_simp
            first | done | with_reducible rfl
          simp only [Act.put]
          refine wpAnyH_take (i := 8) (v := ?_) rfl (by kernel_rfl) (by kernel_rfl) (by kernel_rfl) (fun _ _ _ h => h) (Or.inl ⟨by rfl, ?_⟩) hS0 ?_
          rotate_left 1
          · intro w' hSw
            obtain ⟨c2, c1⟩ := HCS.out w' hSw
            obtain ⟨e0, e1, e2, _, _⟩ := HX.out w' hSw
            go_simp
            first | done | with_reducible rfl
          simp only [Act.put]
          refine wpAnyH_ready (rs := [9]) (by kernel_rfl) (by simp) ?_
          refine AllReadyH.cons rfl (fun K hK => ?_) AllReadyH.nil
          go_simp
          refine PUT.out.mono ?_
          rintro e V2 ⟨rfl, hV⟩
          obtain ⟨q1, q2, q3⟩ := STEP.out V2 hV
          go_simp
          refine hK.out _ _ q3.kp (fun _ => ?_)
          refine wpAnyH_done (by kernel_rfl) ?_ _
          exact ⟨q1, q2, q3⟩
      · have HNG := Lib.hid (show ¬ gd xs s from fun q => g1 q.1)
        have g1' : (xs.length : Int) ≤ (s : Int) := by omega
        gi_wp2
        exact HBAD.out HNG.out
    case done =>
      rintro D ys V hD rfl hI hK
      have HI := Lib.hid hI
      obtain ⟨e0, e1, e2, e3, e4⟩ := HX.out V hI.kp
      obtain ⟨F, aw, cw, hw, hF⟩ := hI.wr
      rw [flat_all] at hw
      have hbl := bt_len HOK.out.2.1 l l.length
      have BY := Lib.hid (bytes_p hw (by omega))
      have HYES : Hid (EncOk xs l) := Lib.hid ⟨HOK.out, fun q hq => by
        obtain ⟨x, hx, e⟩ := up_all hq
        rw [← e]; exact hI.gs x hx⟩
      have HKD := Lib.hid hK
      have HD := Lib.hid hD
      have HE3 := Lib.hid e3
      have HE4 := Lib.hid e4
      clear hI hw hF e0 e1 e3 e4 hK hD hbl
      go_wp2_with fail
      refine BY.out.mono ?_
      rintro e w5 ⟨g5, rfl, b1, b2, b3⟩
      have B1 := Lib.hid b1
      have B2 := Lib.hid b2
      have B3 := Lib.hid b3
      have v3 := b3.at_ HE3.out (fun q => q)
      have v4 := b3.at_ HE4.out (fun q => q)
      have HV3 := Lib.hid v3
      have HV4 := Lib.hid v4
      have f1 := free_of v3 0
      have f2 := free_of v4 0
      have r1 : w5.cell? ⟨w.heap.size + 1, 0, none⟩ = some (.slice none 0 0) := by rw [cell_of v3]; rfl
      have r2 : w5.cell? ⟨w.heap.size + 1 + 1, 0, none⟩ = some (.bool false) := by rw [cell_of v4]; rfl
      clear b1 b2 b3 v3 v4
      go_wp2_with fail
      obtain ⟨m, hm⟩ : ∃ m, m = (bt xs l l.length).length / 8 + 1 := ⟨_, rfl⟩
      have HM := Lib.hid hm
      rw [← hm]
      have kX := ((Kp.refl (fun k => k = w.heap.size + 1 ∨ k = w.heap.size + 1 + 1) w5).setCell (p := ⟨w.heap.size + 1, 0, none⟩) (fun _ => .inl rfl) (.slice (some ⟨g5, 0, none⟩) m m)).setCell (p := ⟨w.heap.size + 1 + 1, 0, none⟩) (fun _ => .inr rfl) (.bool true)
      have z1 := Kp.at_ ((Kp.refl (· = w.heap.size + 1 + 1) _).setCell (p := ⟨w.heap.size + 1 + 1, 0, none⟩) (fun _ => rfl) (.bool true)) (setCell_at (i := 0) HV3.out (.slice (some ⟨g5, 0, none⟩) m m)) (by omega)
      have z2 := setCell_at (i := 0) (Kp.at_ ((Kp.refl (· = w.heap.size + 1) _).setCell (p := ⟨w.heap.size + 1, 0, none⟩) (fun _ => rfl) (.slice (some ⟨g5, 0, none⟩) m m)) HV4.out (by omega)) (.bool true)
      obtain ⟨X, hX⟩ : ∃ X, X = (w5.setCell ⟨w.heap.size + 1, 0, none⟩ (.slice (some ⟨g5, 0, none⟩) m m)).setCell ⟨w.heap.size + 1 + 1, 0, none⟩ (.bool true) := ⟨_, rfl⟩
      rw [← hX] at kX z1 z2 ⊢
      clear hX
      have hs0 := HW0s.out
      have hsD := HD.out
      have hKX := kX.at_ (B3.out.at_ HKD.out (fun q => q)) (by omega)
      have kY := Kp.put X D (.deferred none)
      have y1 : (X.putObj D (.deferred none)).cell? ⟨w.heap.size + 1, 0, none⟩ = some (.slice (some ⟨g5, 0, none⟩) m m) := by rw [cell_of (kY.at_ z1 (by omega))]; rfl
      have y2 : (X.putObj D (.deferred none)).cell? ⟨w.heap.size + 1 + 1, 0, none⟩ = some (.bool true) := by rw [cell_of (kY.at_ z2 (by omega))]; rfl
      have hDV := lt_of_at HKD.out
      have hB1 := B1.out
      have hVs := HI.out.kp.size
      have hU := (B2.out.kp kX (by omega)).kp kY (by omega)
      have hKK : Kp (fun _ => False) w (X.putObj D (.deferred none)) := (((HK0.out.trans2 HI.out.kp (fun i hi q => by omega)).trans B3.out).trans2 kX (fun i hi q => by omega)).trans2 kY (fun i hi q => by omega)
      refine ⟨by simp, .inl ⟨_, _, rfl, run_takeDeferred hKX, ?_⟩⟩
      refine ⟨.tuple #[.slice (some ⟨g5, 0, none⟩) m m, .bool true], ?_, .inl ⟨HYES.out, g5, ?_, by omega, ?_, hKK⟩⟩
      · rw [results_cc rfl]
        simp [go_sem, y1, y2]
      · rw [← hm]
      · exact hU
    case stop =>
      rintro D c0 pre V hD ⟨k, hk, rfl⟩ hX hK
      obtain rfl := hX.ret
      have HNO : Hid (¬ EncOk xs l) := Lib.hid (fun q => by
        obtain ⟨x, hx, hb⟩ := hX.bad
        obtain ⟨j, hj, e⟩ := up_mem hk hx
        exact hb (by rw [e]; exact q.2 j hj))
      refine wpIn_wide.2 ?_
      have HX2 := Lib.hid hX
      have HKD := Lib.hid hK
      have HD := Lib.hid hD
      clear hX hK hD
      go_wp2_with fail
      have hs0 := HW0s.out
      have hsD := HD.out
      have kY := Kp.put V D (.deferred none)
      have y1 := cell_kept HX2.out.c1 (grownBy_putObj' _ D (.deferred none)) (fun r e => by cases e; exact ⟨_, HKD.out, rfl⟩)
      have y2 := cell_kept HX2.out.c2 (grownBy_putObj' _ D (.deferred none)) (fun r e => by cases e; exact ⟨_, HKD.out, rfl⟩)
      have hKK : Kp (fun _ => False) w (V.putObj D (.deferred none)) := (HK0.out.trans2 HX2.out.kp (fun i hi q => by omega)).trans2 kY (fun i hi q => by omega)
      refine ⟨by simp, .inl ⟨_, _, rfl, run_takeDeferred HKD.out, ?_⟩⟩
      refine ⟨.tuple #[.slice none 0 0, .bool false], ?_, .inr ⟨HNO.out, rfl, hKK⟩⟩
      rw [results_cc rfl]
      simp [go_sem, y1, y2]
end Go.Proofs.Ytcecnkmhhbncdaa.He
