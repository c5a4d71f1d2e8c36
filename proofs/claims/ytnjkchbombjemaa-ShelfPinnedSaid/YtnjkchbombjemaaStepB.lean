/- One act on both Shelves: Retire, Pin, Unpin. -/
import Derived.Test.YtnjkchbombjemaaStep
namespace Go.Proofs.Ytnjkchbombjemaa.Rf
open Go Go.RowKit Go.ChangeMaps Go.MapKept Go.Mg Go.Proofs.Ytnjkchbombjemaa.Sh Go.Proofs.Ytnjkchbombjemaa.Op
variable {w0 w : World} {s : Nat} {S : Shs} {x : Nat} {last : Int} {R : List It}
set_option maxRecDepth 100000 in
set_option maxHeartbeats 1000000 in
theorem step2 (h : Two w0 w s S x last R) {k : Nat} (hk : k ≤ 1000) (hb : Bd k last R) (y : Ac) (h1 : y.kind = 2) :
    Calls Try.prog 22 #[.pointer (some ⟨s, 0, none⟩), .pointer (some ⟨x, 0, none⟩), .agg #[.int .i64 y.kind, .string y.nm, .slice y.da y.data.length y.dc, .int .i64 y.id]] w (StepPost w0 s S x last R k y) := by
  obtain ⟨W, hW⟩ : ∃ W, W = w.alloc (.cells #[.int .i64 2, .string y.nm, .slice y.da y.data.length y.dc, .int .i64 y.id] 51) := ⟨_, rfl⟩
  have kW : Kp (fun _ => False) w W := by rw [hW]; exact kp_lit _ _
  have hWh := alloc_at w (.cells #[.int .i64 2, .string y.nm, .slice y.da y.data.length y.dc, .int .i64 y.id] 51)
  rw [← hW] at hWh
  have hwW : w.heap.size < W.heap.size := by rw [hW]; simp
  have c1 : W.cell? ⟨w.heap.size, 1, none⟩ = some (.string y.nm) := by rw [cell_of hWh]; rfl
  obtain ⟨F, G, hB⟩ := h.both
  have hFw : ¬ F w.heap.size := fun q => by have := hB.sh.fin _ q; omega
  have hGw : ¬ G w.heap.size := fun q => by have := hB.rf.fin _ q; omega
  have hB := hB.new kW
  have hsa : sAct S y = (S.retire y.nm).1 := by unfold sAct; rw [if_neg (by omega), if_pos h1]
  have HSA := Lib.hid hsa
  clear hWh kW hsa
  go_enter Try.func22, Try.ntmps22
  go_wp2_with fail
  rw [← hW]
  clear hW h
  refine (retire_any S hB.ok y.nm W hB.sh).mono ?_
  rintro e w1 ⟨rfl, p1, p2⟩
  have s1 := (p2.cell (p := ⟨w.heap.size, 1, none⟩) hwW hFw).trans c1
  have hw1 : w.heap.size < w1.heap.size := by have := p2.size; omega
  have hB1 := hB.ofS p1 p2 (fun _ q => .inl q) (retire_ok hB.ok y.nm)
  clear p1 p2
  go_wp2_with fail
  refine (retire_r hB1.rf (by have := hb.len; omega) y.nm).mono ?_
  rintro e w2 ⟨rfl, G', p1, p2, p3⟩
  have B2 := Lib.hid (hB1.ofR p1 p2 p3)
  have hrel : Rel S last R → (S.retire y.nm).2.1 = (rRetire R y.nm).2.1 ∧ (S.retire y.nm).2.2 = (rRetire R y.nm).2.2 := fun hr => by
    have := (hr.retire y.nm).1
    rw [this]; exact ⟨rfl, rfl⟩
  have HREL := Lib.hid hrel
  have hbd := (hb.retire y.nm).up
  have fin : ∀ (b : Bool) (m : Nat), (Rel S last R → b = true) → StepPost w0 s S x last R k y (.returned (.bool b)) (w2.drewN m) := fun b m hq => ⟨b, last, _, rfl, by rw [HSA.out]; exact (B2.out.new ((Kp.refl _ _).drewN _)).two, hbd, fun hr => ⟨hq hr, by rw [HSA.out]; exact (hr.retire y.nm).2⟩⟩
  have FIN := Lib.hid fin
  clear p1 p2 p3 hB1 hrel fin hbd hb
  generalize (S.retire y.nm).2.1 = i1 at HREL ⊢
  generalize (S.retire y.nm).2.2 = i2 at HREL ⊢
  generalize (rRetire R y.nm).2.1 = i3 at HREL ⊢
  generalize (rRetire R y.nm).2.2 = i4 at HREL ⊢
  by_cases hA : i1 = i3
  · by_cases hC : i2 = i4
    · have hA' : (i1 == i3) = true := by simpa using hA
      have hC' : (i2 == i4) = true := by simpa using hC
      clear hA hC
      go_wp2_with fail
      go_ret
      exact FIN.out true 0 (fun _ => rfl)
    · have hA' : (i1 == i3) = true := by simpa using hA
      have hC' : (i2 == i4) = false := by simpa using hC
      have HN := Lib.hid hC
      clear hA hC
      go_wp2_with fail
      go_ret
      exact FIN.out false 0 (fun hr => absurd (HREL.out hr).2 HN.out)
  · have hA' : (i1 == i3) = false := by simpa using hA
    have HN := Lib.hid hA
    clear hA
    go_wp2_with fail
    go_ret
    exact FIN.out false 0 (fun hr => absurd (HREL.out hr).1 HN.out)
theorem Bd.pin {k : Nat} (h : Bd k last R) (n : ByteArray) : Bd (k + 1) last (rPin R n).1 := by
  unfold rPin
  split
  · exact h.up
  · split
    · exact h.up
    · rename_i y hy
      refine ⟨h.l0, by have := h.l1; omega, by rw [List.length_set]; have := h.len; omega, fun z hz => ?_⟩
      rcases List.mem_or_eq_of_mem_set hz with q | rfl
      · have := h.it z q; omega
      · have := h.it y (List.mem_of_getElem? hy)
        exact ⟨by show 0 ≤ y.refs + 1; omega, by show y.refs + 1 ≤ _; omega, this.2.2⟩
theorem Bd.unpin {k : Nat} (h : Bd k last R) (id : Int) : Bd (k + 1) last (rUnpin R id).1 := by
  unfold rUnpin
  split
  · exact h.up
  · split
    · exact h.up
    · rename_i y hy
      split
      · exact h.up
      · rename_i hz
        have hy0 := h.it y (List.mem_of_getElem? hy)
        have hset : ∀ z, z ∈ R.set (ix (isId id) R).toNat { y with refs := y.refs - 1 } → 0 ≤ z.refs ∧ z.refs ≤ k ∧ z.data.length ≤ 2000 := fun z hz => by
          rcases List.mem_or_eq_of_mem_set hz with q | rfl
          · exact h.it z q
          · exact ⟨by show 0 ≤ y.refs - 1; omega, by show y.refs - 1 ≤ _; omega, hy0.2.2⟩
        have hlen : (R.set (ix (isId id) R).toNat { y with refs := y.refs - 1 }).length ≤ k := by rw [List.length_set]; exact h.len
        unfold rDrop
        split
        · exact Bd.up ⟨h.l0, h.l1, hlen, hset⟩
        · have hs := List.eraseIdx_sublist (R.set (ix (isId id) R).toNat { y with refs := y.refs - 1 }) (ix (isId id) R).toNat
          exact Bd.up ⟨h.l0, h.l1, Nat.le_trans hs.length_le hlen, fun z hz => hset z (hs.subset hz)⟩
set_option maxRecDepth 100000 in
set_option maxHeartbeats 1000000 in
theorem step3 (h : Two w0 w s S x last R) {k : Nat} (hk : k ≤ 1000) (hb : Bd k last R) (hp : ∀ id k, AL.get S.books id = some k → k.pins < 4611686018427387904) (y : Ac) (h1 : y.kind = 3) :
    Calls Try.prog 22 #[.pointer (some ⟨s, 0, none⟩), .pointer (some ⟨x, 0, none⟩), .agg #[.int .i64 y.kind, .string y.nm, .slice y.da y.data.length y.dc, .int .i64 y.id]] w (StepPost w0 s S x last R k y) := by
  obtain ⟨W, hW⟩ : ∃ W, W = w.alloc (.cells #[.int .i64 3, .string y.nm, .slice y.da y.data.length y.dc, .int .i64 y.id] 51) := ⟨_, rfl⟩
  have kW : Kp (fun _ => False) w W := by rw [hW]; exact kp_lit _ _
  have hWh := alloc_at w (.cells #[.int .i64 3, .string y.nm, .slice y.da y.data.length y.dc, .int .i64 y.id] 51)
  rw [← hW] at hWh
  have hwW : w.heap.size < W.heap.size := by rw [hW]; simp
  have c1 : W.cell? ⟨w.heap.size, 1, none⟩ = some (.string y.nm) := by rw [cell_of hWh]; rfl
  obtain ⟨F, G, hB⟩ := h.both
  have hFw : ¬ F w.heap.size := fun q => by have := hB.sh.fin _ q; omega
  have hGw : ¬ G w.heap.size := fun q => by have := hB.rf.fin _ q; omega
  have hB := hB.new kW
  have hsa : sAct S y = (S.pin y.nm).1 := by unfold sAct; rw [if_neg (by omega), if_neg (by omega), if_pos h1]
  have HSA := Lib.hid hsa
  clear hWh kW hsa
  go_enter Try.func22, Try.ntmps22
  go_wp2_with fail
  rw [← hW]
  clear hW h
  refine (pin_any S hB.ok hp y.nm W hB.sh).mono ?_
  rintro e w1 ⟨a1, d1, rfl, p1, p2, p4, p5⟩
  have s1 := (p2.cell (p := ⟨w.heap.size, 1, none⟩) hwW hFw).trans c1
  have hw1 : w.heap.size < w1.heap.size := by have := p2.size; omega
  have hGn : ∀ b, (Value.slice a1 (S.pin y.nm).2.2.1.length d1).ownBlock = some b → ¬ G b := fun b hb' hg' => by have := p5 b hb'; have := hB.rf.fin b hg'; omega
  have hB1 := hB.ofS p1 p2 (fun _ q => .inl q) (pin_ok hB.ok y.nm)
  have hsl := p4.sl
  clear p1 p2 p4 p5
  go_wp2_with fail
  refine (pin_r hB1.rf (by have := hb.len; omega) (fun z hz => by have := hb.it z hz; omega) y.nm).mono ?_
  rintro e w2 ⟨a2, d2, rfl, hsl2, _, G', p1, p2, p3⟩
  have hsl1 := hsl.kp p2 hGn
  have B2 := Lib.hid (hB1.ofR p1 p2 p3)
  have hrel : Rel S last R → (S.pin y.nm).2.1 = (rPin R y.nm).2.1 ∧ (S.pin y.nm).2.2.1 = (rPin R y.nm).2.2.1 ∧ (S.pin y.nm).2.2.2 = (rPin R y.nm).2.2.2 := fun hr => by
    have := (hr.pin y.nm).1
    rw [this]; exact ⟨rfl, rfl, rfl⟩
  have HREL := Lib.hid hrel
  have hbd := hb.pin y.nm
  have fin : ∀ (b : Bool) (m : Nat), (Rel S last R → b = true) → StepPost w0 s S x last R k y (.returned (.bool b)) (w2.drewN m) := fun b m hq => ⟨b, last, _, rfl, by rw [HSA.out]; exact (B2.out.new ((Kp.refl _ _).drewN _)).two, hbd, fun hr => ⟨hq hr, by rw [HSA.out]; exact (hr.pin y.nm).2⟩⟩
  have FIN := Lib.hid fin
  clear p1 p2 p3 hB1 hrel fin hbd hb hp hsl hGn
  generalize (S.pin y.nm).2.1 = i1 at HREL ⊢
  generalize (S.pin y.nm).2.2.1 = b1 at HREL hsl1 ⊢
  generalize (S.pin y.nm).2.2.2 = j1 at HREL ⊢
  generalize (rPin R y.nm).2.1 = i2 at HREL ⊢
  generalize (rPin R y.nm).2.2.1 = b2 at HREL hsl2 ⊢
  generalize (rPin R y.nm).2.2.2 = j2 at HREL ⊢
  have v1 := strOf hsl1
  have v2 := strOf hsl2
  clear hsl1 hsl2
  by_cases hA : i1 = i2
  · by_cases hC : b1 = b2
    · by_cases hD : j1 = j2
      · have hA' : (i1 == i2) = true := by simpa using hA
        have hC' : (b1 == b2) = true := by simpa using hC
        have hD' : (j1 == j2) = true := by simpa using hD
        clear hA hC hD
        go_wp2_with fail
        go_ret
        exact FIN.out true 0 (fun _ => rfl)
      · have hA' : (i1 == i2) = true := by simpa using hA
        have hC' : (b1 == b2) = true := by simpa using hC
        have hD' : (j1 == j2) = false := by simpa using hD
        have HN := Lib.hid hD
        clear hA hC hD
        go_wp2_with fail
        go_ret
        exact FIN.out false 0 (fun hr => absurd (HREL.out hr).2.2 HN.out)
    · have hA' : (i1 == i2) = true := by simpa using hA
      have hC' : (b1 == b2) = false := by simpa using hC
      have HN := Lib.hid hC
      clear hA hC
      go_wp2_with fail
      go_ret
      exact FIN.out false 0 (fun hr => absurd (HREL.out hr).2.1 HN.out)
  · have hA' : (i1 == i2) = false := by simpa using hA
    have HN := Lib.hid hA
    clear hA
    go_wp2_with fail
    go_ret
    exact FIN.out false 0 (fun hr => absurd (HREL.out hr).1 HN.out)
end Go.Proofs.Ytnjkchbombjemaa.Rf
