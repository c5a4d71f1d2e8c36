/- The library over numbers: Collect, Grow, Concat. -/
import Derived.Test.YtcecnkmhhbncdaaHfG
import Derived.Test.YtcecnkmhhbncdaaRowsS
namespace Go.Proofs.Ytcecnkmhhbncdaa.It
open Go Go.RowKit Go.ChangeMaps Go.MapKept Go.Mg Go.Proofs.Ytcecnkmhhbncdaa.Hu

theorem values_c (a : Option Addr) (len cap : Nat) (w : World) :
    Calls Try.prog 49 #[.slice a len cap] w fun e w' => e = .returned (.func (.func 64) #[] #[.pointer (some ⟨w.heap.size, 0, none⟩)]) ∧ w' = w.alloc (.cells #[.slice a len cap] 22) :=
  callsIn_wide.1 (values_in Fence.wide 3 trivial rfl a len cap w)
/-- A new row of the numbers zs. -/
def RowPost (w : World) (zs : List Int) (e : Ending) (w' : World) : Prop :=
  ∃ a c, e = .returned (.slice a zs.length c) ∧ OwnR w' 3 1 (.slice a zs.length c) zs.length (zs.map (Value.int .i64)) ∧ (∀ b, (Value.slice a zs.length c).ownBlock = some b → w.heap.size ≤ b) ∧ Kp (fun _ => False) w w'
theorem appendSeq_c (vb : Nat) (sv : Value) (zs : List Int) (hlen : zs.length ≤ 1000) (w : World) (hvb : vb < w.heap.size) (hvc : w.cell? ⟨vb, 0, none⟩ = some sv) (hI : Ints w.heap.size w sv zs) :
    Calls Try.prog 80 #[.slice none 0 0, .func (.func 64) #[] #[.pointer (some ⟨vb, 0, none⟩)]] w (RowPost w zs) :=
  (callsIn_wide.1 (appendSeq_in Fence.wide 3 trivial trivial rfl (by omega) vb sv zs hlen w hvb hvc hI)).mono fun e w' ⟨v, he, ho, _, hb⟩ => by
    obtain ⟨h1, h2⟩ := OwnR.of_owns ho
    obtain ⟨a, c, rfl⟩ := h1.form
    exact ⟨a, c, he, h1, h2, Kp.of_below hb⟩
set_option maxHeartbeats 1000000 in
theorem collect_c (vb : Nat) (sv : Value) (zs : List Int) (hlen : zs.length ≤ 1000) (w : World) (hvb : vb < w.heap.size) (hvc : w.cell? ⟨vb, 0, none⟩ = some sv) (hI : Ints w.heap.size w sv zs) :
    Calls Try.prog 62 #[.func (.func 64) #[] #[.pointer (some ⟨vb, 0, none⟩)]] w (RowPost w zs) := by
  have C := Lib.hid (appendSeq_c vb sv zs hlen w hvb hvc hI)
  clear hvc hI
  go_enter Try.func62, Try.ntmps62
  go_wp2_with fail
  refine C.out.mono ?_
  rintro e w' ⟨a, c, rfl, h⟩
  have H := Lib.hid h
  clear h
  go_wp2_with fail
  go_ret
  exact ⟨a, c, rfl, H.out⟩
theorem zero_oneI : ∀ m, ∀ u ∈ (Builtin.zeroCells (Value.int IntKind.i64 0).cells m).toList, u.oneCell' = true := by
  intro m u hu
  have e : (Builtin.zeroCells (Value.int IntKind.i64 0).cells m).toList = List.replicate m (.int .i64 0) := zeroCells_one _ m
  rw [e] at hu
  rw [(List.mem_replicate.1 hu).2]
  rfl
theorem own_any (a : Option Addr) (n c m d : Nat) : (Value.slice a n c).ownBlock = (Value.slice a m d).ownBlock := by cases a <;> rfl
theorem OwnR.upto0 {w : World} {e : TypeId} {n cap : Nat} {a : Option Addr} {xs : List Value} (h : OwnR w e 1 (.slice a n cap) n xs) (h0 : 0 < n) : OwnR w e 1 (.slice a 0 cap) 0 [] := by
  rcases h.2 with ⟨_, h1⟩ | ⟨g, c, cur, fr, e1, hg, hfr, h1, h2, h3, h4⟩
  · omega
  · simp only [Value.slice.injEq, true_and] at e1
    obtain ⟨rfl, rfl⟩ := e1
    exact ⟨rfl, .inr ⟨g, cap, cur, fr, rfl, hg, hfr, Nat.zero_le _, h2, h3, by simp⟩⟩
set_option maxRecDepth 100000 in
set_option maxHeartbeats 1000000 in
theorem grow_c (n : Nat) (h0 : 0 < n) (hn : n ≤ 1000) (w : World) :
    Calls Try.prog 65 #[.slice none 0 0, .int .i64 (n : Nat)] w fun e w' => ∃ a c, e = .returned (.slice a 0 c) ∧ OwnR w' 3 1 (.slice a 0 c) 0 [] ∧ (∀ b, (Value.slice a 0 c).ownBlock = some b → w.heap.size ≤ b) ∧ Kp (fun _ => False) w w' := by
  obtain ⟨j0, hj0, hy0, hy1, hy2⟩ := info_parts infoI
  have HN := Lib.hid (OwnR.nil w 3 1)
  have hnp : 0 < n := h0
  go_enter Try.func65, Try.ntmps65
  go_wp2_with (at_builtin; go_must (refine wpList_appz _ rfl _ _ 22 3 rfl 3 j0 (.int .i64 0) .i64 1 8 Try.underlying22 Try.underlying3 hj0 hy0 hy1 hy2 rfl (by decide) (by decide) zero_oneI (.slice none 0 0) 0 [] rfl HN.out .i64 n rfl (by omega) ?_; intro v' w2 g1 g2 g3 g4 g5; rw [Nat.zero_add, List.nil_append] at g1; obtain ⟨b1, d1, rfl⟩ := g1.form; have G1 := Lib.hid g1; have G2 := Lib.hid g2; have G3 := Lib.hid g3; have hle : (0:Int) ≤ n := (by omega); clear g1 g2 g3 g4 g5))
  go_ret
  refine ⟨b1, d1, rfl, OwnR.upto0 G1.out h0, fun b hb => ?_, G2.out.mono (fun k _ e => by cases e)⟩
  have hb' : (Value.slice b1 n d1).ownBlock = some b := (own_any b1 n d1 0 d1).trans hb
  rcases G3.out with q | q
  · rw [hb'] at q; cases q
  · rw [hb'] at q; simp at q; omega
/-- slices.Concat of two. -/
def CatPost (w : World) (n : Nat) (xs : List Value) (e : Ending) (w' : World) : Prop :=
  ∃ a c, e = .returned (.slice a n c) ∧ OwnR w' 3 1 (.slice a n c) n xs ∧ (∀ b, (Value.slice a n c).ownBlock = some b → w.heap.size ≤ b) ∧ Kp (fun _ => False) w w'
def part (k n1 n2 : Nat) : Nat := match k with
  | 0 => 0
  | 1 => n1
  | _ => n1 + n2
set_option maxRecDepth 100000 in
set_option maxHeartbeats 1000000 in
theorem concat_c (g : Nat) (a1 a2 : Option Addr) (c1 c2 : Nat) (s1 s2 : List Nat) (w : World) (hg : g < w.heap.size) (h1 : w.cell? ⟨g, 0, none⟩ = some (.slice a1 s1.length c1)) (h2 : w.cell? ⟨g, 1, none⟩ = some (.slice a2 s2.length c2))
    (hs1 : SlR w 1 (.slice a1 s1.length c1) s1.length (s1.map nv)) (hs2 : SlR w 1 (.slice a2 s2.length c2) s2.length (s2.map nv)) (h0 : 0 < s1.length) (hl : s1.length + s2.length ≤ 1000) :
    Calls Try.prog 50 #[.slice (some ⟨g, 0, none⟩) 2 2] w (CatPost w (s1.length + s2.length) (s1.map nv ++ s2.map nv)) := by
  obtain ⟨j0, hj0, hy0, hy1, hy2⟩ := info_parts infoI
  have O1 := Lib.hid (nv_one s1)
  have O2 := Lib.hid (nv_one s2)
  have S1 := Lib.hid hs1
  have S2 := Lib.hid hs2
  clear hs1 hs2
  generalize hn1 : s1.length = n1 at *
  generalize hn2 : s2.length = n2 at *
  have HN1 := Lib.hid hn1
  have HN2 := Lib.hid hn2
  clear hn1 hn2
  go_enter Try.func50, Try.ntmps50
  go_wp2_with fail
  go_loopw [3, 11] (fun z i wr => wr = w ∧ ((i = .int .i64 0 ∧ z = .int .i64 0) ∨ (i = .int .i64 1 ∧ z = .int .i64 (n1 : Nat)) ∨ (i = .int .i64 2 ∧ z = .int .i64 ((n1 : Nat) + (n2 : Nat))))) (fun _ i _ => 2 - (intOf i).toNat)
  case atStart => exact ⟨rfl, .inl ⟨rfl, rfl⟩⟩
  case round =>
    obtain ⟨rfl, ⟨rfl, rfl⟩ | ⟨rfl, rfl⟩ | ⟨rfl, rfl⟩⟩ := hrel
    · go_wp2_with fail
      exact ⟨⟨by first | trivial | rfl, .inr (.inl ⟨by go_num, by go_num⟩)⟩, by simp [intOf]⟩
    · go_wp2_with fail
      exact ⟨⟨by first | trivial | rfl, .inr (.inr ⟨by go_num, by go_num⟩)⟩, by simp [intOf]⟩
    · go_wp2_with fail
      refine (grow_c (n1 + n2) (by omega) hl wr).mono ?_
      rintro e w1 ⟨b, d, rfl, p1, p2, p3⟩
      have P1 := Lib.hid p1
      have P2 := Lib.hid p2
      have P3 := Lib.hid p3
      have d1 := (p3.cell (p := ⟨g, 0, none⟩) hg (fun q => q)).trans h1
      have d2 := (p3.cell (p := ⟨g, 1, none⟩) hg (fun q => q)).trans h2
      have T1 := Lib.hid (S1.out.kp p3 (fun _ _ q => q))
      clear p1 p2 p3
      go_wp2_with fail
      go_loopw [6, 27] (fun v i wx => ∃ a c, Kp (fun _ => False) wr wx ∧ (∀ m, ∀ b, (Value.slice a m c).ownBlock = some b → wr.heap.size ≤ b) ∧ ((i = .int .i64 0 ∧ v = .slice a 0 c ∧ OwnR wx 3 1 (.slice a 0 c) 0 []) ∨ (i = .int .i64 1 ∧ v = .slice a n1 c ∧ OwnR wx 3 1 (.slice a n1 c) n1 (s1.map nv)) ∨ (i = .int .i64 2 ∧ v = .slice a (n1 + n2) c ∧ OwnR wx 3 1 (.slice a (n1 + n2) c) (n1 + n2) (s1.map nv ++ s2.map nv)))) (fun _ i _ => 2 - (intOf i).toNat)
      case atStart => exact ⟨b, d, P3.out, fun m i hi => P2.out i ((own_any b 0 d m d).trans hi), .inl ⟨rfl, rfl, P1.out⟩⟩
      case round =>
        obtain ⟨a, c, hk, hnw, ⟨rfl, rfl, ho⟩ | ⟨rfl, rfl, ho⟩ | ⟨rfl, rfl, ho⟩⟩ := hrel
        all_goals
          have f1 := (hk.cell (p := ⟨g, 0, none⟩) hg (fun q => q)).trans h1
          have f2 := (hk.cell (p := ⟨g, 1, none⟩) hg (fun q => q)).trans h2
          have KX := Lib.hid hk
          have NW := Lib.hid hnw
          have HO := Lib.hid ho
          clear hk hnw ho d1 d2
        · have T := Lib.hid (S1.out.kp KX.out (fun _ _ q => q))
          go_wp2_with (at_builtin; refine wpList_app _ rfl _ _ 22 rfl 3 j0 _ 1 8 Try.underlying22 hj0 hy0 hy1 hy2 rfl (by decide) (by decide) (.slice a 0 c) 0 [] rfl HO.out (.slice a1 n1 c1) n1 _ rfl T.out O1.out (by omega) ?_; intro v' w2 g1 g2 g3 g4 g5; rw [Nat.zero_add, List.nil_append] at g1; obtain ⟨b1, e1, rfl⟩ := g1.form; have G1 := Lib.hid g1; have G2 := Lib.hid g2; have G3 := Lib.hid g3; clear g1 g2 g3 g4 g5)
          refine ⟨⟨b1, e1, KX.out.up G2.out (fun i q => NW.out 0 i q), fun m i hi => ?_, .inr (.inl ⟨by go_num, rfl, G1.out⟩)⟩, by simp [intOf]⟩
          have hi' : (Value.slice b1 n1 e1).ownBlock = some i := (own_any b1 n1 e1 m e1).trans hi
          rcases G3.out with q | q
          · exact NW.out 0 i (by rw [← q]; exact hi')
          · rw [hi'] at q; simp at q; have := KX.out.size; omega
        · have T := Lib.hid (S2.out.kp KX.out (fun _ _ q => q))
          go_wp2_with (at_builtin; refine wpList_app _ rfl _ _ 22 rfl 3 j0 _ 1 8 Try.underlying22 hj0 hy0 hy1 hy2 rfl (by decide) (by decide) (.slice a n1 c) n1 _ rfl HO.out (.slice a2 n2 c2) n2 _ rfl T.out O2.out (by omega) ?_; intro v' w2 g1 g2 g3 g4 g5; obtain ⟨b1, e1, rfl⟩ := g1.form; have G1 := Lib.hid g1; have G2 := Lib.hid g2; have G3 := Lib.hid g3; clear g1 g2 g3 g4 g5)
          refine ⟨⟨b1, e1, KX.out.up G2.out (fun i q => NW.out n1 i q), fun m i hi => ?_, .inr (.inr ⟨by go_num, rfl, G1.out⟩)⟩, by simp [intOf]⟩
          have hi' : (Value.slice b1 (n1 + n2) e1).ownBlock = some i := (own_any b1 (n1 + n2) e1 m e1).trans hi
          rcases G3.out with q | q
          · exact NW.out n1 i (by rw [← q]; exact hi')
          · rw [hi'] at q; simp at q; have := KX.out.size; omega
        · go_wp2_with fail
          go_ret
          exact ⟨a, c, rfl, HO.out, fun b hb => NW.out _ b hb, KX.out⟩
end Go.Proofs.Ytcecnkmhhbncdaa.It
