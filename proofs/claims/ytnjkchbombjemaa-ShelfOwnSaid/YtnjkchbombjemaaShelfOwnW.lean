/- The walk of ShelfOwn. -/
import Derived.Test.YtnjkchbombjemaaShelfE
namespace Go.Proofs.Ytnjkchbombjemaa.shelfOwn
open Go Go.RowKit Go.ChangeMaps Go.MapKept Go.Mg Go.Proofs.Ytnjkchbombjemaa.Sh Go.Proofs.Ytnjkchbombjemaa.Op

def dat (l : List UInt8) : List UInt8 := [77, 68, 73, 67] ++ l
def st (l : List UInt8) (p : Nat) : Shs := ⟨1, [(1, ⟨l, true, p⟩)], [(nameA, 1)]⟩
theorem is_dat {l : List UInt8} (h1 : 1 ≤ l.length) (h2 : l.length ≤ 2000) : isS nameA (dat l) = 0 :=
  isS_ok (by decide) (by decide) (List.prefix_append _ _) (by simp [dat]; omega) (by simp [dat]; omega)
theorem st_load {l : List UInt8} (h1 : 1 ≤ l.length) (h2 : l.length ≤ 2000) : sh0.load nameA (dat l) = (st l 0, 1, 0, 0) := by
  rw [sh0_load _ _ (is_dat h1 h2)]; rfl
theorem st_pin (l : List UInt8) (p : Nat) : (st l p).pin nameA = (st l (p + 1), 1, l, 0) := by
  simp [Shs.pin, st, AL.get, AL.put]
theorem st_ok (l : List UInt8) (p : Nat) : (st l p).Ok := by
  refine ⟨fun n id h => ?_, fun n n' id h h' => ?_, fun id k h => ?_⟩
  · have : id = 1 := by
      simp only [st, AL.get_cons, AL.get_nil] at h
      split at h
      · simpa using h.symm
      · cases h
    subst this
    exact ⟨⟨l, true, p⟩, rfl, rfl⟩
  · simp only [st, AL.get_cons, AL.get_nil] at h h'
    split at h <;> split at h'
    · rename_i a b; rw [← a, ← b]
    · cases h'
    · cases h
    · cases h
  · simp only [st, AL.get_cons, AL.get_nil] at h
    split at h
    · rename_i e; subst e; exact ⟨Int.le_refl _, Int.le_refl _⟩
    · cases h
theorem st_pins (l : List UInt8) (p : Nat) (hp : p ≤ 5) : ∀ id k, AL.get (st l p).books id = some k → k.pins < 4611686018427387904 := by
  intro id k h
  simp only [st, AL.get_cons, AL.get_nil] at h
  split at h
  · cases h; show p < _; omega
  · cases h
theorem str_ne (a : ByteArray) : (!(a.toList == a.toList)) = false := by simp

theorem str_eq (a : ByteArray) : (a.toList == a.toList) = true := by simp
set_option maxHeartbeats 1000000 in
theorem walk (w : World) (a0 : Option Addr) (c0 : Nat) (l0 : List UInt8) (r0 : SlR w 1 (.slice a0 l0.length c0) l0.length (l0.map u8c)) :
    Calls Try.prog 4 #[.slice a0 l0.length c0] w (LawPost w) := by
  by_cases h : l0.length < 1 ∨ 500 < l0.length
  · go_enter Try.func4, Try.ntmps4
    go_wp2_with fail
    all_goals go_ret
    all_goals exact ⟨rfl, Below.refl _ _⟩
  have hl1 : 1 ≤ l0.length := by omega
  have hl2 : l0.length ≤ 500 := by omega
  have t1 : decide ((l0.length : Int) < 1) = false := by simp; omega
  have t2 : decide ((500 : Int) < (l0.length : Int)) = false := by simp; omega
  have kc := fun (w : World) (C : Array Value) (n c : Nat) => Lib.run_convert_bytes_const (P := Try.prog) w 22 5 C n c Try.underlying22 Try.underlying5
  obtain ⟨i0, hi, hz0, hz1, hz2⟩ := info_parts info5
  have HL := Lib.hid (st_load hl1 (by omega))
  clear h
  go_enter Try.func4, Try.ntmps4
  go_wp2_with fail
  refine (new_any _).mono ?_
  rintro e w1 ⟨s, rfl, h1, k1⟩
  have r1 := r0.kp k1 (fun _ _ q => q)
  have ka := kp_lit w1 (.cells #[.int .u8 77, .int .u8 68, .int .u8 73, .int .u8 67] 5 (4, 5))
  have r2 := r1.kp ka (fun _ _ q => q)
  have h1a := h1.kp ka (fun _ _ q => q)
  have hlo := lit_own w1 [77, 68, 73, 67] #[.int .u8 77, .int .u8 68, .int .u8 73, .int .u8 67] rfl (4, 5) (.inr (Nat.le_refl _)) 4 rfl (by decide)
  have HO := Lib.hid hlo
  clear hlo
  go_wp2_with (at_builtin; refine wpList_app _ rfl _ _ 22 rfl 5 i0 (.int .u8 0) 1 1 Try.underlying22 hi hz0 hz1 hz2 rfl (by decide) (by decide) (.slice (some ⟨w1.heap.size, 0, none⟩) 4 4) 4 _ rfl HO.out (.slice a0 l0.length c0) l0.length (l0.map u8c) rfl r2 (u8c_one l0) (by omega) ?_; intro v' w2 g1 g2 g3 g4 g5; obtain ⟨a1, c1, rfl⟩ := g1.form; have G1 := Lib.hid g1; have G3 := Lib.hid g3; clear g1 g3 g4 g5)
  have G2 : OwnR w2 5 1 (.slice a1 (4 + l0.length) c1) (4 + l0.length) ((dat l0).map u8c) := by have := G1.out; rw [← List.map_append] at this; exact this
  obtain ⟨g, rfl, hc1, hat⟩ := G2.at1 (by omega)
  have hg : w1.heap.size ≤ g ∧ g < w2.heap.size := ⟨by
    rcases G3.out with e | e
    · simp only [Value.ownBlock, Option.some.injEq] at e; omega
    · simp only [Value.ownBlock, Option.some.injEq] at e; simp at e; omega, G2.lt rfl⟩
  have s1 : w.heap.size ≤ w1.heap.size := k1.size
  have fF := h1.fin
  have k2 : Kp (fun _ => False) w w2 := (k1.trans ka).up g2 (fun i e => by simp only [Value.ownBlock, Option.some.injEq] at e; omega)
  have h2 := h1a.kp g2 (fun i hi e => by have := fF i hi; simp only [Value.ownBlock, Option.some.injEq] at e; omega)
  refine (load_n sh0 sh0_ok (by decide) nameA (some ⟨g, 0, none⟩) (4 + l0.length) c1 (dat l0) _ h2 G2.sl (fun b hb hf => by rw [own_b hb] at hf; have := fF _ hf; omega) (by decide) (by simp [dat]; omega)).mono ?_
  rintro e w3 ⟨he, F2, h3, k3, f2⟩
  rw [HL.out] at he h3
  subst he
  have k3' : Kp (fun _ => False) w w3 := k2.up k3 (fun i hi => hi.1)
  have s3 := k3.size
  have G3' := G2.kp k3 (fun b hb hf => by rw [own_b hb] at hf; have := fF _ hf; omega)
  have f2' : ∀ i, F2 i → w.heap.size ≤ i ∧ i ≠ g ∧ i < w3.heap.size := fun i hi => by
    have q := h3.fin i hi
    rcases f2 i hi with q1 | q1
    · have := fF i q1; exact ⟨q1.1, by omega, q⟩
    · exact ⟨by omega, by omega, q⟩
  obtain ⟨_, _, _, hat3⟩ := G3'.at1 (by omega)
  rename_i g' e1 _
  obtain rfl : g = g' := by cases e1; rfl
  obtain ⟨b1, b2, b3⟩ := hat3 4 (by omega)
  have b1' := b1 (u8c (l0[0]'(by omega))) (by simp [dat, List.getElem?_eq_getElem (show 0 < l0.length by omega)])
  unfold u8c at b1'
  have hi4 : (4 : Int) < ((4 + l0.length : Nat) : Int) := by omega
  clear b1 hat hat3 G3 G1 HO r2 r1
  go_wp2_with fail
  generalize bits BinOp.xor IntKind.u8 _ 255 = X
  have kx : Kp (· = g) w3 (w3.setCell ⟨g, 4, none⟩ (.int .u8 X)) := (b3 _).2
  obtain ⟨w4, hw4⟩ : ∃ w4, w4 = w3.setCell ⟨g, 4, none⟩ (.int .u8 X) := ⟨_, rfl⟩
  rw [← hw4] at kx ⊢
  clear b3 b2 b1' hw4 G3' G2
  have h4 := h3.kp kx (fun i hi e => (f2' i hi).2.1 e)
  have k4 : Kp (fun _ => False) w w4 := k3'.up kx (fun i e => by omega)
  refine (pin_any (st l0 0) (st_ok l0 0) (st_pins l0 0 (by omega)) nameA _ h4).mono ?_
  rintro e w5 ⟨a5, c5, he, h5, k5, o5, n5⟩
  have HP := st_pin l0 0
  rw [HP] at he h5 o5 n5
  simp only at he h5 o5 n5
  subst he
  clear HP
  have k5' : Kp (fun _ => False) w w5 := k4.up k5 (fun i hi => (f2' i hi).1)
  have cv1 := strOf o5.sl
  have cv2 := strOf (r0.old k5')
  have se := str_ne ⟨l0.toArray⟩
  obtain ⟨g5, rfl, hc5, hat5⟩ := o5.at1 (by omega)
  obtain ⟨d1, d2, d3⟩ := hat5 0 (by omega)
  have d1' := d1 (u8c (l0[0]'(by omega))) (by simp [List.getElem?_eq_getElem (show 0 < l0.length by omega)])
  unfold u8c at d1'
  have n5' := n5 g5 rfl
  have hi0 : (0 : Int) < (l0.length : Int) := by omega
  clear d1 hat5
  go_wp2_with fail
  generalize bits BinOp.xor IntKind.u8 _ 255 = Y
  have ky : Kp (· = g5) w5 (w5.setCell ⟨g5, 0, none⟩ (.int .u8 Y)) := (d3 _).2
  obtain ⟨w6, hw6⟩ : ∃ w6, w6 = w5.setCell ⟨g5, 0, none⟩ (.int .u8 Y) := ⟨_, rfl⟩
  rw [← hw6] at ky ⊢
  clear d3 d2 d1' hw6 o5 cv1 cv2
  have s4 := kx.size
  have f4 := h4.fin
  have h6 := h5.kp ky (fun i hi e => by have := f4 i hi; omega)
  have s5 := k4.size
  have k6 : Kp (fun _ => False) w w6 := k5'.up ky (fun i e => by omega)
  refine (pin_any (st l0 1) (st_ok l0 1) (st_pins l0 1 (by omega)) nameA _ h6).mono ?_
  rintro e w7 ⟨a7, c7, he, h7, k7, o7, n7⟩
  have HP := st_pin l0 1
  rw [HP] at he h7 o7 n7
  simp only at he h7 o7 n7
  subst he
  clear HP
  have k7' : Kp (fun _ => False) w w7 := k6.up k7 (fun i hi => (f2' i hi).1)
  have cv1 := strOf o7.sl
  have cv2 := strOf (r0.old k7')
  have se := str_eq ⟨l0.toArray⟩
  go_wp2_with fail
  refine (known_any _).mono ?_
  rintro e w8 ⟨rfl, k8⟩
  go_wp2_with fail
  go_ret
  exact ⟨rfl, (k7'.trans k8).below⟩
end Go.Proofs.Ytnjkchbombjemaa.shelfOwn
