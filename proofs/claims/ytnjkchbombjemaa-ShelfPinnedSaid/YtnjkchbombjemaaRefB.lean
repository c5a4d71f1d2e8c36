/- The document's Shelf: what its functions do (the writers). -/
import Derived.Test.YtnjkchbombjemaaRefA
import Derived.Test.YtnjkchbombjemaaRows1
import Derived.Deep.RegionLaw
namespace Go.Proofs.Ytnjkchbombjemaa.Rf
open Go Go.RowKit Go.ChangeMaps Go.MapKept Go.Mg Go.Proofs.Ytnjkchbombjemaa.Sh Go.Proofs.Ytnjkchbombjemaa.Op
def RefAt (G : Nat → Prop) (w : World) (x : Nat) (last : Int) (R : List It) : Prop := ∃ a c, RefRaw G w x a c last R
variable {G : Nat → Prop} {w : World} {x : Nat} {a : Option Addr} {c : Nat} {last : Int} {R : List It}
theorem RefRaw.kp {w' : World} {F : Nat → Prop} (h : RefRaw G w x a c last R) (hk : Kp F w w') (hd : ∀ i, G i → ¬ F i) : RefRaw G w' x a c last R :=
  ⟨by rw [hk.block x (lt_of_at h.hx) (hd x h.gx)]; exact h.hx, h.gx, h.own.kp hk (fun b hb => hd b (h.gl b hb).1), h.gl, fun y hy => (h.dat y hy).kp hk (fun b hb => hd b (h.gd y hy b hb).1), h.gd, fun i hi => Nat.lt_of_lt_of_le (h.fin i hi) hk.size⟩
theorem flatMap_set {y' : It} {k j : Nat} {v : Value} {y : It} (hy : R[k]? = some y) (hj : j < 5) (hc : cellsOf y' = (cellsOf y).set j v) : (R.set k y').flatMap cellsOf = (R.flatMap cellsOf).set (k * 5 + j) v := by
  induction R generalizing k with
  | nil => cases hy
  | cons z R ih =>
    cases k with
    | zero =>
      simp only [List.getElem?_cons_zero, Option.some.injEq] at hy
      subst hy
      rw [List.set_cons_zero, List.flatMap_cons, List.flatMap_cons, hc, Nat.zero_mul, Nat.zero_add, List.set_append_left _ _ (by rw [cells_len]; exact hj)]
    | succ k =>
      rw [List.set_cons_succ, List.flatMap_cons, List.flatMap_cons, List.set_append_right _ _ (by rw [cells_len]; omega), cells_len, ih (k := k) hy]
      congr 2
      omega
/-- A field of an item written. -/
theorem RefRaw.setItem (h : RefRaw G w x a c last R) {k j : Nat} {y y' : It} {v : Value} (hy : R[k]? = some y) (hj : j < 5) (hc : cellsOf y' = (cellsOf y).set j v) (hd : y'.data = y.data ∧ y'.da = y.da ∧ y'.dc = y.dc) :
    ∃ g, a = some ⟨g, 0, none⟩ ∧ G g ∧ w.frozen? ⟨g, k * 5 + j, none⟩ = false ∧ RefRaw G (w.setCell ⟨g, k * 5 + j, none⟩ v) x a c last (R.set k y') ∧ Kp (· = g) w (w.setCell ⟨g, k * 5 + j, none⟩ v) := by
  have hk : k < R.length := (List.getElem?_eq_some_iff.1 hy).1
  obtain ⟨g, rfl, hnc, hat⟩ := h.own.atS (by omega)
  obtain ⟨h1, h2, h3⟩ := hat (k * 5 + j) (by omega)
  obtain ⟨h4, h5⟩ := h3 v
  have hg := h.gl g rfl
  have hm : ∀ z, z ∈ R.set k y' → z ∈ R ∨ z = y' := fun z hz => List.mem_or_eq_of_mem_set hz
  have hyR : y ∈ R := List.mem_of_getElem? hy
  have hl : (R.set k y').length = R.length := List.length_set
  refine ⟨g, rfl, hg.1, h2, ⟨?_, h.gx, ?_, ?_, fun z hz => ?_, fun z hz => ?_, fun i hi => Nat.lt_of_lt_of_le (h.fin i hi) h5.size⟩, h5⟩
  · rw [hl, h5.block x (lt_of_at h.hx) (fun e => hg.2 e.symm)]; exact h.hx
  · rw [hl, flatMap_set hy hj hc]; exact h4
  · rw [hl]; exact h.gl
  · rcases hm z hz with hz | rfl
    · exact (h.dat z hz).kp h5 (fun b hb e => (h.gd z hz b hb).2.2 (by rw [e]; rfl))
    · rw [hd.1, hd.2.1, hd.2.2]; exact (h.dat y hyR).kp h5 (fun b hb e => (h.gd y hyR b hb).2.2 (by rw [e]; rfl))
  · rw [hl]
    rcases hm z hz with hz | rfl
    · exact h.gd z hz
    · rw [hd.1, hd.2.1, hd.2.2]; exact h.gd y hyR
/-! ### drop -/
theorem infoI : (Try.prog.info? 74).map (fun i => (i.zero, i.size, i.bytes)) = some (some (.agg #[.int .i64 0, .string ⟨#[]⟩, .slice none 0 0, .bool false, .int .i64 0]), 5, 64) := by kernel_rfl
theorem cells_one (R : List It) : ∀ u ∈ R.flatMap cellsOf, u.oneCell' = true := by
  intro u hu
  obtain ⟨y, _, hy⟩ := List.mem_flatMap.1 hu
  simp only [cellsOf, List.mem_cons, List.not_mem_nil, or_false] at hy
  rcases hy with rfl | rfl | rfl | rfl | rfl <;> rfl
def rDrop (R : List It) (k : Nat) (y : It) : List It × Int := if y.cur = true ∨ 0 < y.refs then (R, 0) else (R.eraseIdx k, y.id)
def DropPost (G : Nat → Prop) (w : World) (x : Nat) (last : Int) (R : List It) (k : Nat) (y : It) (e : Ending) (w' : World) : Prop :=
  e = .returned (.int .i64 (rDrop R k y).2) ∧ ∃ G', RefAt G' w' x last (rDrop R k y).1 ∧ Kp G w w' ∧ ∀ i, G' i → G i ∨ w.heap.size ≤ i
theorem erase_flat {k : Nat} : (([] : List Value) ++ (R.flatMap cellsOf).take (k * 5)) ++ (R.flatMap cellsOf).drop ((k + 1) * 5) = (R.eraseIdx k).flatMap cellsOf := by
  have h1 : ∀ (S : List It) (m : Nat), (S.flatMap cellsOf).take (m * 5) = (S.take m).flatMap cellsOf := by
    intro S
    induction S with
    | nil => intro m; simp
    | cons y S ih =>
      intro m
      cases m with
      | zero => simp
      | succ m =>
        rw [List.flatMap_cons, List.take_succ_cons, List.flatMap_cons, ← ih m]
        have := List.take_length_add_append (l₁ := cellsOf y) (l₂ := S.flatMap cellsOf) (i := m * 5)
        rw [cells_len] at this
        rw [show (m + 1) * 5 = 5 + m * 5 by omega]; exact this
  have h2 : ∀ (S : List It) (m : Nat), (S.flatMap cellsOf).drop (m * 5) = (S.drop m).flatMap cellsOf := by
    intro S
    induction S with
    | nil => intro m; simp
    | cons y S ih =>
      intro m
      cases m with
      | zero => simp
      | succ m =>
        rw [List.flatMap_cons, List.drop_succ_cons, ← ih m]
        have := List.drop_length_add_append (l₁ := cellsOf y) (l₂ := S.flatMap cellsOf) (i := m * 5)
        rw [cells_len] at this
        rw [show (m + 1) * 5 = 5 + m * 5 by omega]; exact this
  rw [List.nil_append, h1, h2, ← List.flatMap_append, List.eraseIdx_eq_take_drop_succ]
theorem far_of {W : World} {v : Value} (h : RefRaw G W x a c last R) (h2 : v.ownBlock = (Value.slice (some ⟨W.heap.size, 0, none⟩) 0 0).ownBlock ∨ v.ownBlock = some (W.drew.alloc (.cells #[] 74)).heap.size) {i : Nat} (hi : G i) (e : v.ownBlock = some i) : False := by
  have := h.fin i hi
  rcases h2 with q | q
  · rw [e] at q; have := own_b q.symm; omega
  · rw [e] at q; simp at q; omega
theorem drop_end {W w3 w4 : World} {k n' c1 c3 : Nat} {a1 a3 : Option Addr} (h : RefRaw G W x a c last R) (hk : k < R.length) (kW : Kp (fun _ => False) w W)
    (k3 : Kp (fun i => (Value.slice (some ⟨W.heap.size, 0, none⟩) 0 0).ownBlock = some i) (W.drew.alloc (.cells #[] 74)) w3)
    (o3 : (Value.slice a1 (0 + k) c1).ownBlock = (Value.slice (some ⟨W.heap.size, 0, none⟩) 0 0).ownBlock ∨ (Value.slice a1 (0 + k) c1).ownBlock = some (W.drew.alloc (.cells #[] 74)).heap.size)
    (k4 : Kp (fun i => (Value.slice a1 (0 + k) c1).ownBlock = some i) w3 w4) (o4 : (Value.slice a3 n' c3).ownBlock = (Value.slice a1 (0 + k) c1).ownBlock ∨ (Value.slice a3 n' c3).ownBlock = some w3.heap.size)
    (hn' : n' = 0 + k + (R.length - (k + 1)))
    (ow : OwnR w4 74 5 (.slice a3 n' c3) n' ((([] : List Value) ++ (R.flatMap cellsOf).take (k * 5)) ++ (R.flatMap cellsOf).drop ((k + 1) * 5))) :
    Kp (fun _ => False) W w4 ∧ w4.frozen? ⟨x, 0, none⟩ = false ∧ ∃ G', RefAt G' (w4.setCell ⟨x, 0, none⟩ (.slice a3 n' c3)) x last (R.eraseIdx k) ∧ Kp G w (w4.setCell ⟨x, 0, none⟩ (.slice a3 n' c3)) ∧ ∀ i, G' i → G i ∨ w.heap.size ≤ i := by
  have hlen : n' = (R.eraseIdx k).length := by rw [List.length_eraseIdx_of_lt hk]; omega
  subst hn'
  rw [erase_flat] at ow
  rw [hlen] at ow o4 ⊢
  have hb1 : ∀ b, (Value.slice a1 (0 + k) c1).ownBlock = some b → W.heap.size ≤ b := fun b hb => by
    rcases o3 with e | e
    · rw [hb] at e; have := own_b e.symm; omega
    · rw [hb] at e; simp at e; omega
  have kw3 : Kp (fun _ => False) W w3 := (((Kp.refl _ W).drew).alloc _).up k3 (fun i e => by have := own_b e; omega)
  have kw4 : Kp (fun _ => False) W w4 := kw3.up k4 hb1
  have hb3 : ∀ b, (Value.slice a3 (R.eraseIdx k).length c3).ownBlock = some b → W.heap.size ≤ b := fun b hb => by
    rcases o4 with e | e
    · exact hb1 b (e ▸ hb)
    · rw [hb] at e; have := kw3.size; cases e; exact this
  have h4 := h.kp kw4 (fun _ _ q => q)
  have hx4 := setCell_at (i := 0) h4.hx (.slice a3 (R.eraseIdx k).length c3)
  have kx : Kp (fun i => i = x) w4 (w4.setCell ⟨x, 0, none⟩ (.slice a3 (R.eraseIdx k).length c3)) := (Kp.refl (fun i => i = x) w4).setCell (p := ⟨x, 0, none⟩) (fun _ => rfl) _
  have hxW : x < W.heap.size := lt_of_at h.hx
  have hsub : ∀ z, z ∈ R.eraseIdx k → z ∈ R := fun z hz => List.mem_of_mem_eraseIdx hz
  refine ⟨kw4, free_of h4.hx 0, fun i => (G i ∨ w.heap.size ≤ i) ∧ i < w4.heap.size, ⟨a3, c3, ⟨hx4, ⟨.inl h.gx, by have := kw4.size; omega⟩, ow.kp kx (fun b hb e => by have := hb3 b hb; omega), fun b hb => ⟨⟨.inr (by have := hb3 b hb; have := kW.size; omega), ow.lt hb⟩, by have := hb3 b hb; omega⟩, fun z hz => (h4.dat z (hsub z hz)).kp kx (fun b hb e => ((h4.gd z (hsub z hz) b hb).2.1 e)), fun z hz b hb => ?_, fun i hi => by simpa using Nat.lt_of_lt_of_le hi.2 kx.size⟩⟩, ?_, fun i hi => hi.1⟩
  · obtain ⟨q1, q2, _⟩ := h.gd z (hsub z hz) b hb
    refine ⟨⟨.inl q1, h4.fin b q1⟩, q2, fun e => ?_⟩
    have := hb3 b e; have := h.fin b q1; omega
  · exact ((kW.trans kw4).mono (fun _ _ q => q.elim)).trans (kx.mono (fun i _ e => by rw [e]; exact h.gx))
set_option maxHeartbeats 1000000 in
theorem drop_any (h : RefRaw G w x a c last R) (hR : R.length < 100000000000) {k : Nat} {y : It} (hy : R[k]? = some y) :
    Calls Try.prog 41 #[.pointer (some ⟨x, 0, none⟩), .int .i64 k] w (DropPost G w x last R k y) := by
  have h0 := h.cell0
  have hk : k < R.length := (List.getElem?_eq_some_iff.1 hy).1
  obtain ⟨g, rfl, hg, c0, c1, c2, c3, c4⟩ := h.item hy
  obtain ⟨i0, hi, hz0, hz1, hz2⟩ := info_parts infoI
  have hlv : RefRaw G w x (some ⟨g, 0, none⟩) c last R := h
  go_enter Try.func41, Try.ntmps41
  go_wp2_with fail
  · rename_i hc
    go_ret
    exact ⟨by unfold rDrop; rw [if_pos (.inl hc)]; rfl, G, by unfold rDrop; rw [if_pos (.inl hc)]; exact ⟨_, _, hlv.kp (kp_lit _ _) (fun _ _ q => q)⟩, (kp_lit _ _).mono (fun _ _ q => q.elim), fun i hi => .inl hi⟩
  · rename_i hc
    go_ret
    exact ⟨by unfold rDrop; rw [if_pos (.inr hc)]; rfl, G, by unfold rDrop; rw [if_pos (.inr hc)]; exact ⟨_, _, hlv.kp (kp_lit _ _) (fun _ _ q => q)⟩, (kp_lit _ _).mono (fun _ _ q => q.elim), fun i hi => .inl hi⟩
  · have hc1 : ¬ y.cur = true := by assumption
    have hc2 : y.refs ≤ 0 := by assumption
    have HD := Lib.hid (show rDrop R k y = (R.eraseIdx k, y.id) by unfold rDrop; rw [if_neg (by rintro (q | q); exact hc1 q; omega)])
    obtain ⟨W, hW⟩ : ∃ W, W = w.alloc (.cells #[.int .i64 y.id, .string y.nm, .slice y.da y.data.length y.dc, .bool false, .int .i64 y.refs] 74) := ⟨_, rfl⟩
    have kW : Kp (fun _ => False) w W := by rw [hW]; exact kp_lit _ _
    have hwW : w.heap.size < W.heap.size := by rw [hW]; simp
    have hxw : x < w.heap.size := lt_of_at hlv.hx
    have hxw' : x ≠ w.heap.size := by omega
    have cW : W.cell? ⟨w.heap.size, 0, none⟩ = some (.int .i64 y.id) := by rw [hW, cell_of (alloc_at w _)]; rfl
    rw [← hW]
    have hr1 := hlv.kp kW (fun _ _ q => q)
    have e0 := hr1.cell0
    obtain ⟨hsl1, hs1⟩ := hr1.own.sl.upto (P := Try.prog) (k := k) Try.underlying46 (by kernel_rfl) (by omega)
    obtain ⟨a2, c2', hsl2, hs2, ho2⟩ := hr1.own.sl.from_ (P := Try.prog) (k := k + 1) Try.underlying46 (by kernel_rfl) (by omega)
    have hsl3 : ∀ w', (Instr.slice 46 (.slice (some ⟨g, 0, none⟩) R.length c) (some (.int .i64 ((k : Int) + 1))) none none).run Try.prog w' = .ok (.slice a2 (R.length - (k + 1)) c2') w' := hsl2
    have kd : Kp (fun _ => False) W (W.drew.alloc (.cells #[] 74)) := ((Kp.refl _ _).drew).alloc _
    have hr2 := hr1.kp kd (fun _ _ q => q)
    have e2 := hr2.cell0
    have hs1' := hs1.kp kd (fun _ _ q => q)
    have hs2' := hs2.kp kd (fun _ _ q => q)
    have hn := own_none W.drew 74 5
    have HN := Lib.hid hn
    have HR1 := Lib.hid hr1
    have HR2 := Lib.hid hr2
    have HS1 := Lib.hid hs1'
    have HS2 := Lib.hid hs2'
    have HL := Lib.hid hlv
    have hx : x < W.heap.size := lt_of_at hr1.hx
    have hd2 : ∀ b, (Value.slice a2 (R.length - (k + 1)) c2').ownBlock = some b → ¬ (Value.slice (some ⟨W.heap.size, 0, none⟩) 0 0).ownBlock = some b := fun b hb e => by
      have q1 := own_b (ho2 b hb); have q2 := own_b e; have := kW.size; omega
    have HD2 := Lib.hid hd2
    have KW := Lib.hid kW
    have hx' : x ≠ W.heap.size := by omega
    clear hs1 hs2 ho2 h hlv hd2 hr1 hW kW c0 c1 c2 c3 c4 h0 hsl2 hs1' hs2' hn hr2 kd
    have hwr : IntKind.i64.wrap ((k : Int) + 1) = (k : Int) + 1 := by rw [IntKind.wrap_i64]; omega
    go_region_law (first
      | (refine step_app (W.drew.alloc (.cells #[] 74)) rfl (.tmp 21) (.tmp 27) 46 rfl 74 i0 _ 5 64 Try.underlying46 hi hz0 hz1 hz2 rfl (by decide) (by decide) (.slice (some ⟨W.heap.size, 0, none⟩) 0 0) 0 [] (by simp [Act.eval, Act.put]) HN.out (.slice (some ⟨g, 0, none⟩) k c) k _ (by simp [Act.eval, Act.put]) HS1.out (fun u hu => cells_one R u (List.mem_of_mem_take hu)) (by omega) ?_; intro v1 w3 g1 g2 g3 g4 g5; obtain ⟨a1, c1, rfl⟩ := g1.form; have G1 := Lib.hid g1; have G2 := Lib.hid g2; have G3 := Lib.hid g3; clear g1 g2 g3 g4 g5; have e3 : w3.cell? ⟨x, 0, none⟩ = some (.slice (some ⟨g, 0, none⟩) R.length c) := ((HR2.out.kp G2.out (fun i hi e => (by have := own_b e; have := HR1.out.fin i hi; omega))).cell0); have S3 := Lib.hid (HS2.out.kp G2.out HD2.out); have R3 := Lib.hid (HR2.out.kp G2.out (fun i hi e => (by have := own_b e; have := HR1.out.fin i hi; omega))))
      | (refine step_app w3 rfl (.tmp 28) (.tmp 35) 46 rfl 74 i0 _ 5 64 Try.underlying46 hi hz0 hz1 hz2 rfl (by decide) (by decide) (.slice a1 (0 + k) c1) (0 + k) _ (by simp [Act.eval, Act.put]) G1.out (.slice a2 (R.length - (k + 1)) c2') (R.length - (k + 1)) _ (by simp [Act.eval, Act.put]) S3.out (fun u hu => cells_one R u (List.mem_of_mem_drop hu)) (by omega) ?_; intro v2 w4 f1 f2 f3 f4 f5; obtain ⟨a3, c3, rfl⟩ := f1.form; obtain ⟨kk, z1, z2⟩ := drop_end HR1.out hk KW.out G2.out G3.out f2 f3 rfl f1; have e4 : w4.cell? ⟨x, 0, none⟩ = some (.slice (some ⟨g, 0, none⟩) R.length c) := (R3.out.kp f2 (fun i hi e => (far_of HR1.out G3.out hi e))).cell0; have hx4 : x < w4.heap.size := (by have := R3.out.hx; have := lt_of_at this; have := f2.size; omega); have c5 : w4.cell? ⟨w.heap.size, 0, none⟩ = some (.int .i64 y.id) := (kk.cell (p := ⟨w.heap.size, 0, none⟩) hwW (fun q => q)).trans cW; rw [Nat.zero_add] at z2; have Z2 := Lib.hid z2; clear f1 f2 f3 f4 f5 z2 kk))
    all_goals (go_wp2_with fail; go_ret; exact ⟨by rw [HD.out]; rfl, by rw [HD.out]; exact Z2.out⟩)
end Go.Proofs.Ytnjkchbombjemaa.Rf
