/- The document's Shelf: Load. -/
import Derived.Test.YtnjkchbombjemaaRefC
namespace Go.Proofs.Ytnjkchbombjemaa.Rf
open Go Go.RowKit Go.ChangeMaps Go.MapKept Go.Mg Go.Proofs.Ytnjkchbombjemaa.Sh Go.Proofs.Ytnjkchbombjemaa.Op
variable {G : Nat → Prop} {w : World} {x : Nat} {a : Option Addr} {c : Nat} {last : Int} {R : List It}
theorem RefRaw.setLast (h : RefRaw G w x a c last R) (v : Int) : w.frozen? ⟨x, 1, none⟩ = false ∧ RefRaw G (w.setCell ⟨x, 1, none⟩ (.int .i64 v)) x a c v R ∧ Kp (fun i => i = x) w (w.setCell ⟨x, 1, none⟩ (.int .i64 v)) := by
  have kx : Kp (fun i => i = x) w (w.setCell ⟨x, 1, none⟩ (.int .i64 v)) := (Kp.refl (fun i => i = x) w).setCell (p := ⟨x, 1, none⟩) (fun _ => rfl) _
  exact ⟨free_of h.hx 1, ⟨setCell_at (i := 1) h.hx (.int .i64 v), h.gx, h.own.kp kx (fun b hb e => (h.gl b hb).2 e), h.gl, fun y hy => (h.dat y hy).kp kx (fun b hb e => (h.gd y hy b hb).2.1 e), h.gd, fun i hi => Nat.lt_of_lt_of_le (h.fin i hi) kx.size⟩, kx⟩
theorem load_end {w2 w3 w5 : World} {m c1 c5 : Nat} {a1 a5 : Option Addr} {y : It} (h2 : RefRaw G w2 x a c last R)
    (k3 : Kp (fun i => (Value.slice (some ⟨w2.heap.size, 0, none⟩) 0 0).ownBlock = some i) (w2.drew.alloc (.cells #[] 5)) w3)
    (o3 : (Value.slice a1 (0 + m) c1).ownBlock = (Value.slice (some ⟨w2.heap.size, 0, none⟩) 0 0).ownBlock ∨ (Value.slice a1 (0 + m) c1).ownBlock = some (w2.drew.alloc (.cells #[] 5)).heap.size)
    (ow1 : OwnR w3 5 1 (.slice a1 (0 + m) c1) (0 + m) ([] ++ y.data.map u8c)) (hm : 0 + m = y.data.length) (ha : y.da = a1) (hc : y.dc = c1)
    (k5 : Kp (fun i => (Value.slice a R.length c).ownBlock = some i) (w3.alloc (.cells (cellsOf y).toArray 74)) w5)
    (o5 : (Value.slice a5 (R.length + 1) c5).ownBlock = (Value.slice a R.length c).ownBlock ∨ (Value.slice a5 (R.length + 1) c5).ownBlock = some (w3.alloc (.cells (cellsOf y).toArray 74)).heap.size)
    (ow5 : OwnR w5 74 5 (.slice a5 (R.length + 1) c5) (R.length + 1) (R.flatMap cellsOf ++ cellsOf y)) :
    w5.frozen? ⟨x, 0, none⟩ = false ∧ w5.cell? ⟨x, 0, none⟩ = some (.slice a R.length c) ∧ w5.cell? ⟨x, 1, none⟩ = some (.int .i64 last) ∧ x < w5.heap.size ∧ Left G w2 (w5.setCell ⟨x, 0, none⟩ (.slice a5 (R.length + 1) c5)) x last (R ++ [y]) := by
  subst ha hc
  rw [List.nil_append] at ow1
  rw [hm] at ow1 o3
  have hl : R.length + 1 = (R ++ [y]).length := by simp
  have hf : R.flatMap cellsOf ++ cellsOf y = (R ++ [y]).flatMap cellsOf := by simp
  rw [hf] at ow5
  rw [hl] at ow5 o5 ⊢
  have hxw : x < w2.heap.size := lt_of_at h2.hx
  have hb1 : ∀ b, (Value.slice y.da y.data.length y.dc).ownBlock = some b → w2.heap.size ≤ b := fun b hb => by
    rcases o3 with e | e
    · rw [hb] at e; have := own_b e.symm; omega
    · rw [hb] at e; simp at e; omega
  have kw3 : Kp (fun _ => False) w2 w3 := (((Kp.refl _ w2).drew).alloc _).up k3 (fun i e => by have := own_b e; omega)
  have kw4 : Kp (fun _ => False) w2 (w3.alloc (.cells (cellsOf y).toArray 74)) := kw3.alloc _
  have kL : Kp (fun i => (Value.slice a R.length c).ownBlock = some i) w2 w5 := (kw4.mono (fun _ _ q => q.elim)).trans k5
  have hLG : ∀ b, (Value.slice a R.length c).ownBlock = some b → b < w2.heap.size := fun b hb => h2.fin b (h2.gl b hb).1
  have hx5 : w5.heap[x]? = some (.cells #[.slice a R.length c, .int .i64 last] 48 (0, 0)) := kL.at_ h2.hx (fun e => (h2.gl x e).2 rfl)
  have kx : Kp (fun i => i = x) w5 (w5.setCell ⟨x, 0, none⟩ (.slice a5 (R ++ [y]).length c5)) := (Kp.refl (fun i => i = x) w5).setCell (p := ⟨x, 0, none⟩) (fun _ => rfl) _
  have h34 : w3.heap.size < (w3.alloc (.cells (cellsOf y).toArray 74)).heap.size := by simp
  have h5s := k5.size
  have h3s := kw3.size
  have hn5 : ∀ b, (Value.slice a5 (R ++ [y]).length c5).ownBlock = some b → (Value.slice a R.length c).ownBlock = some b ∨ w3.heap.size < b := fun b hb => by
    rcases o5 with e | e
    · exact .inl (e ▸ hb)
    · rw [hb] at e; cases e; exact .inr h34
  have hy1 : ∀ b, (Value.slice y.da y.data.length y.dc).ownBlock = some b → b < w3.heap.size := fun b hb => ow1.lt hb
  have k35 : Kp (fun i => (Value.slice a R.length c).ownBlock = some i) w3 w5 := ((Kp.refl _ w3).alloc _).trans k5
  refine ⟨free_of hx5 0, by rw [cell_of hx5]; rfl, by rw [cell_of hx5]; rfl, lt_of_at hx5, fun i => (G i ∨ w2.heap.size ≤ i) ∧ i < w5.heap.size, ⟨a5, c5, ⟨setCell_at (i := 0) hx5 (.slice a5 (R ++ [y]).length c5), ⟨.inl h2.gx, lt_of_at hx5⟩, ow5.kp kx (fun b hb e => ?_), fun b hb => ⟨⟨?_, ow5.lt hb⟩, ?_⟩, fun z hz => ?_, fun z hz b hb => ?_, fun i hi => by simpa using Nat.lt_of_lt_of_le hi.2 kx.size⟩⟩, ?_, fun i hi => hi.1⟩
  · subst e
    rcases hn5 b hb with q | q
    · exact (h2.gl b q).2 rfl
    · omega
  · rcases hn5 b hb with q | q
    · exact .inl (h2.gl b q).1
    · exact .inr (by omega)
  · rcases hn5 b hb with q | q
    · exact (h2.gl b q).2
    · omega
  · rcases List.mem_append.1 hz with hz | hz
    · exact ((h2.dat z hz).kp kL (fun b hb e => (h2.gd z hz b hb).2.2 e)).kp kx (fun b hb e => (h2.gd z hz b hb).2.1 e)
    · rw [List.mem_singleton] at hz; subst hz
      exact (ow1.sl.kp k35 (fun b hb e => by have := hb1 b hb; have := hLG b e; omega)).kp kx (fun b hb e => by have := hb1 b hb; omega)
  · rcases List.mem_append.1 hz with hz | hz
    · obtain ⟨q1, q2, q3⟩ := h2.gd z hz b hb
      have := h2.fin b q1
      refine ⟨⟨.inl q1, by have := kL.size; omega⟩, q2, fun e => ?_⟩
      rcases hn5 b e with q | q
      · exact q3 q
      · omega
    · rw [List.mem_singleton] at hz; subst hz
      have q1 := hb1 b hb
      have q2 := hy1 b hb
      refine ⟨⟨.inr q1, by omega⟩, by omega, fun e => ?_⟩
      rcases hn5 b e with q | q
      · have := hLG b q; omega
      · omega
  · exact (kL.mono (fun i _ e => (h2.gl i e).1)).trans (kx.mono (fun i _ e => by rw [e]; exact h2.gx))
theorem drop4 {w : World} {a : Option Addr} {n c : Nat} {l : List UInt8} (h : SlR w 1 (.slice a (n - 4) c) (n - 4) ((l.map u8c).drop (4 * 1))) : SlR w 1 (.slice a (n - 4) c) (n - 4) ((l.drop 4).map u8c) := by
  rw [Nat.mul_one, ← List.map_drop] at h
  exact h
theorem one_item {w : World} (y : It) : SlR (w.alloc (.cells (cellsOf y).toArray 74)) 5 (.slice (some ⟨w.heap.size, 0, none⟩) 1 1) 1 (cellsOf y) :=
  ⟨rfl, _, _, rfl, Nat.le_refl _, by unfold maxLen; omega, (fun h => by cases h), fun _ => ⟨_, 0, rfl, by simp, fun i u hu => by rw [cell_of (alloc_at w _), Nat.zero_add]; simpa using hu⟩⟩
theorem item_at {w : World} {last : Int} {n : ByteArray} {l : List UInt8} {b : Option Addr} {d : Nat} : SlR (w.alloc (.cells #[.int .i64 last, .string n, .slice b (l.length - 4) d, .bool true, .int .i64 0] 74)) 5 (.slice (some ⟨w.heap.size, 0, none⟩) 1 1) 1 (cellsOf ⟨last, n, l.drop 4, true, 0, b, d⟩) := by
  have h := one_item (w := w) ⟨last, n, l.drop 4, true, 0, b, d⟩
  have e : (cellsOf ⟨last, n, l.drop 4, true, 0, b, d⟩).toArray = #[.int .i64 last, .string n, .slice b (l.length - 4) d, .bool true, .int .i64 0] := by simp [cellsOf]
  rw [e] at h
  exact h
theorem item_one (y : It) : ∀ u ∈ cellsOf y, u.oneCell' = true := fun u hu => cells_one [y] u (by simpa using hu)
theorem load_endW {w2 w3 w5 : World} {c1 c5 : Nat} {a1 a5 : Option Addr} {n : ByteArray} {l : List UInt8} (h2 : RefRaw G w2 x a c last R)
    (k3 : Kp (fun i => (Value.slice (some ⟨w2.heap.size, 0, none⟩) 0 0).ownBlock = some i) (w2.drew.alloc (.cells #[] 5)) w3)
    (o3 : (Value.slice a1 (0 + (l.length - 4)) c1).ownBlock = (Value.slice (some ⟨w2.heap.size, 0, none⟩) 0 0).ownBlock ∨ (Value.slice a1 (0 + (l.length - 4)) c1).ownBlock = some (w2.drew.alloc (.cells #[] 5)).heap.size)
    (ow1 : OwnR w3 5 1 (.slice a1 (0 + (l.length - 4)) c1) (0 + (l.length - 4)) ([] ++ (l.drop 4).map u8c)) (_ : 4 ≤ l.length)
    (k5 : Kp (fun i => (Value.slice a R.length c).ownBlock = some i) (w3.alloc (.cells #[.int .i64 last, .string n, .slice a1 (l.length - 4) c1, .bool true, .int .i64 0] 74)) w5)
    (o5 : (Value.slice a5 (R.length + 1) c5).ownBlock = (Value.slice a R.length c).ownBlock ∨ (Value.slice a5 (R.length + 1) c5).ownBlock = some (w3.alloc (.cells #[.int .i64 last, .string n, .slice a1 (l.length - 4) c1, .bool true, .int .i64 0] 74)).heap.size)
    (ow5 : OwnR w5 74 5 (.slice a5 (R.length + 1) c5) (R.length + 1) (R.flatMap cellsOf ++ cellsOf ⟨last, n, l.drop 4, true, 0, a1, c1⟩)) :
    w5.frozen? ⟨x, 0, none⟩ = false ∧ w5.cell? ⟨x, 0, none⟩ = some (.slice a R.length c) ∧ w5.cell? ⟨x, 1, none⟩ = some (.int .i64 last) ∧ x < w5.heap.size ∧ Left G w2 (w5.setCell ⟨x, 0, none⟩ (.slice a5 (R.length + 1) c5)) x last (R ++ [⟨last, n, l.drop 4, true, 0, a1, c1⟩]) := by
  have e : (cellsOf ⟨last, n, l.drop 4, true, 0, a1, c1⟩).toArray = #[.int .i64 last, .string n, .slice a1 (l.length - 4) c1, .bool true, .int .i64 0] := by simp [cellsOf]
  rw [← e] at k5 o5
  exact load_end (y := ⟨last, n, l.drop 4, true, 0, a1, c1⟩) h2 k3 o3 ow1 (by simp) rfl rfl k5 o5 ow5
def LoadR (G : Nat → Prop) (w : World) (x : Nat) (last : Int) (R : List It) (n : ByteArray) (l : List UInt8) (e : Ending) (w' : World) : Prop :=
  (isS n l ≠ 0 ∧ e = .returned (.tuple #[.int .i64 0, .int .i64 0, .int .i64 (isS n l)]) ∧ Left G w w' x last R) ∨
  (isS n l = 0 ∧ e = .returned (.tuple #[.int .i64 (last + 1), .int .i64 (rRetire R n).2.1, .int .i64 0]) ∧ ∃ da dc, Left G w w' x (last + 1) ((rRetire R n).1 ++ [⟨last + 1, n, l.drop 4, true, 0, da, dc⟩]))
theorem retire_len (R : List It) (n : ByteArray) : (rRetire R n).1.length ≤ R.length := by
  unfold rRetire rDrop
  split
  · exact Nat.le_refl _
  · split
    · exact Nat.le_refl _
    · split
      · simp
      · simp only
        rw [List.length_eraseIdx]
        split <;> simp
set_option maxHeartbeats 1000000 in
theorem load_r (h : RefAt G w x last R) (hR : R.length < 10000000000) (hlast : 0 ≤ last ∧ last < 4611686018427387904) (n : ByteArray) (a : Option Addr) (cap : Nat) (l : List UInt8)
    (hb : Byt w (.slice a l.length cap) l) (hF : 0 < l.length → ∀ b, (Value.slice a l.length cap).ownBlock = some b → ¬ G b) (hn : n.size ≤ 9223372036854775807) (hl : l.length ≤ 140737488355328) :
    Calls Try.prog 33 #[.pointer (some ⟨x, 0, none⟩), .string n, .slice a l.length cap] w (LoadR G w x last R n l) := by
  by_cases hi : isS n l = 0
  · have Hi := Lib.hid hi
    clear hi
    go_enter Try.func33, Try.ntmps33
    go_wp2_with fail
    refine (is_r n a cap l _ hb hn hl).mono ?_
    rw [Hi.out]
    rintro e w' ⟨rfl, rfl⟩
    go_wp2_with fail
    refine (retire_r h (by omega) n).mono ?_
    rintro e w1 ⟨rfl, G1, ⟨aL, cL, h1⟩, k1, hG1⟩
    obtain ⟨hf1, h2, k2⟩ := h1.setLast (last + 1)
    have e1 := h1.cell1
    go_wp2_with fail
    have hGx : G x := h.choose_spec.choose_spec.gx
    have hll := len_of_is Hi.out
    obtain ⟨i0, hi0, hz0, hz1, hz2⟩ := info_parts info5
    obtain ⟨j0, hj0, hy0, hy1, hy2⟩ := info_parts infoI
    have hF := hF (by omega)
    have hb2 : Byt (w1.setCell ⟨x, 1, none⟩ (.int .i64 (last + 1))) (.slice a l.length cap) l := (hb.kp k1 hF).kp k2 (fun b hb e => by subst e; exact hF _ hb hGx)
    have hR1 := retire_len R n
    have K1 := Lib.hid k1
    have K2 := Lib.hid (k2.mono (fun i _ e => by rw [e]; exact h1.gx) : Kp G1 w1 _)
    have HG1 := Lib.hid hG1
    generalize w1.setCell ⟨x, 1, none⟩ (.int .i64 (last + 1)) = w2 at *
    obtain ⟨a4, c4, hsl, hb4, hob⟩ := hb2.from_ (P := Try.prog) (k := 4) Try.underlying22 (by kernel_rfl) (four_le Hi.out)
    have hsl4 : ∀ w', (Instr.slice 22 (.slice a l.length cap) (some (.int .i64 4)) none none).run Try.prog w' = .ok (.slice a4 (l.length - 4) c4) w' := hsl
    have d0 := h2.cell0
    have d1 := h2.cell1
    have kd : Kp (fun _ => False) w2 (w2.drew.alloc (.cells #[] 5)) := ((Kp.refl _ _).drew).alloc _
    have q0 := (h2.kp kd (fun _ _ q => q)).cell0
    have q1 := (h2.kp kd (fun _ _ q => q)).cell1
    have HN := Lib.hid (own_none w2.drew 5 1)
    have HB4 := Lib.hid (drop4 (hb4.kp kd (fun _ _ q => q)))
    have H2 := Lib.hid h2
    have hx2 : x < w2.heap.size := lt_of_at h2.hx
    have hx2' : x ≠ w2.heap.size := by omega
    have H := Lib.hid h
    have KK := Lib.hid (K1.out.trans2 K2.out (fun i hi q => (HG1.out i q).elim id (fun q => absurd hi (by omega))))
    clear hsl hb4 hob hb2 h1 e1 hf1 h2 kd k1 k2 hG1 h hb hF
    go_region_law (first
      | (refine step_app (w2.drew.alloc (.cells #[] 5)) rfl (.tmp 41) (.tmp 43) 22 rfl 5 i0 _ 1 1 Try.underlying22 hi0 hz0 hz1 hz2 rfl (by decide) (by decide) (.slice (some ⟨w2.heap.size, 0, none⟩) 0 0) 0 [] (by simp [Act.eval]) HN.out (.slice a4 (l.length - 4) c4) (l.length - 4) _ (by simp [Act.eval]) HB4.out (u8c_one _) (by omega) ?_; intro v1 w3 g1 g2 g3 g4 g5; obtain ⟨b1, d1', rfl⟩ := g1.form; have kk : Kp (fun _ => False) w2 w3 := (((Kp.refl _ w2).drew).alloc _).up g2 (fun i e => (by have := own_b e; omega)); have h3 := H2.out.kp kk (fun _ _ q => q); have r0 := h3.cell0; have r1 := h3.cell1; have h4 := h3.kp ((Kp.refl (fun _ => False) w3).alloc (.cells #[.int .i64 (last + 1), .string n, .slice b1 (l.length - 4) d1', .bool true, .int .i64 0] 74)) (fun _ _ q => q); have s0 := h4.cell0; have s1 := h4.cell1; have HI := Lib.hid (item_at (w := w3) (last := last + 1) (n := n) (l := l) (b := b1) (d := d1')); have H4 := Lib.hid h4; have G1' := Lib.hid g1; have G2' := Lib.hid g2; have G3' := Lib.hid g3; clear g1 g2 g3 g4 g5 kk h3 h4)
      | (refine step_app (w3.alloc (.cells #[.int .i64 (last + 1), .string n, .slice b1 (l.length - 4) d1', .bool true, .int .i64 0] 74)) rfl (.tmp 35) (.tmp 46) 46 rfl 74 j0 _ 5 64 Try.underlying46 hj0 hy0 hy1 hy2 rfl (by decide) (by decide) (.slice aL (rRetire R n).1.length cL) (rRetire R n).1.length _ (by simp [Act.eval]) H4.out.own (.slice (some ⟨w3.heap.size, 0, none⟩) 1 1) 1 _ (by simp [Act.eval]) HI.out (item_one _) (by omega) ?_; intro v2 w5 f1 f2 f3 f4 f5; obtain ⟨a5, c5, rfl⟩ := f1.form; obtain ⟨z1, z0, z2, z3, z4⟩ := load_endW H2.out G2'.out G3'.out G1'.out (by omega) f2 f3 f1; have Z4 := Lib.hid z4; clear f1 f2 f3 f4 f5 z4))
    all_goals (go_wp2_with fail; go_ret3; exact .inr ⟨Hi.out, rfl, _, _, Left.trans KK.out HG1.out Z4.out⟩)
  · have Hi := Lib.hid hi
    have hi' : (isS n l == 0) = false := by simpa using hi
    clear hi
    go_enter Try.func33, Try.ntmps33
    go_wp2_with fail
    refine (is_r n a cap l _ hb hn hl).mono ?_
    rintro e w' ⟨rfl, rfl⟩
    go_wp2_with fail
    go_ret3
    exact .inl ⟨Hi.out, rfl, Left.self h⟩
end Go.Proofs.Ytnjkchbombjemaa.Rf
