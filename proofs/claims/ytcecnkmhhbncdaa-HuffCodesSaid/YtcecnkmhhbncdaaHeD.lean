/- The program's Encode: what its loop keeps. -/
import Derived.Test.YtcecnkmhhbncdaaHeC
import Derived.Test.YtcecnkmhhbncdaaHeB
import Derived.RangeFuncWrites
namespace Go.Proofs.Ytcecnkmhhbncdaa.He
open Go Go.RowKit Go.Shelf Go.ChangeMaps Go.MapKept Go.Mg Go.Hf Go.Sort Go.Proofs.Ytcecnkmhhbncdaa.Hu Go.Proofs.Ytcecnkmhhbncdaa.Bw Go.Proofs.Ytcecnkmhhbncdaa.It

theorem WrAt.min {ty : TypeId} {F : Nat → Prop} {w : World} {p : Nat} {a : Option Addr} {c : Nat} {B : List Bool} (h : WrAt ty F w p a c B) :
    WrAt ty (fun k => k = p ∨ (Value.slice a B.length c).ownBlock = some k) w p a c B :=
  ⟨h.hp, h.own, .inl rfl, fun k hk => ⟨.inr hk, (h.ne k hk).2⟩⟩
theorem OwnR.cells {w : World} {e : TypeId} {size : Nat} {v : Value} {n : Nat} {xs : List Value} (h : OwnR w e size v n xs) {b : Nat} (hb : v.ownBlock = some b) : ∃ o, w.heap[b]? = some o ∧ o.isCells = true := by
  rcases h.2 with ⟨rfl, _⟩ | ⟨g, cap, cur, fr, rfl, hg, _⟩
  · cases hb
  · cases hb; exact ⟨_, hg, rfl⟩
/-- What is no cells is turned: the Writer is as it was. -/
theorem WrAt.grown {ty : TypeId} {F : Nat → Prop} {w w' : World} {p : Nat} {a : Option Addr} {c : Nat} {B : List Bool} (h : WrAt ty F w p a c B) {row : Option Nat} (hg : w.grownBy w' row)
    (hr : ∀ r, row = some r → ∃ o : Obj, w.heap[r]? = some o ∧ o.isCells = false) : WrAt ty F w' p a c B :=
  ⟨(grownBy_keeps_cells hg hr h.hp rfl).trans h.hp, h.own.kept (fun b hb _ => by
    obtain ⟨o, ho, hc⟩ := OwnR.cells h.own hb
    exact grownBy_keeps_cells hg hr ho hc), h.fp, h.ne⟩
theorem Kp.keeps {F : Nat → Prop} {w w' : World} (h : Kp F w w') (hF : ∀ k, F k → ∃ o, w.heap[k]? = some o ∧ o.isCells = true) (B : Nat) : KeepsFrom B w w' :=
  ⟨h.size, fun k o _ hk ho => h.at_ hk (fun q => by obtain ⟨o', ho', hc⟩ := hF k q; rw [hk] at ho'; cases ho'; rw [ho] at hc; cases hc)⟩
theorem Kp.kb {F : Nat → Prop} {w w' : World} (h : Kp F w w') {n₀ Bs : Nat} (hF : ∀ k, F k → n₀ ≤ k ∧ k ≠ Bs) : KB n₀ Bs w w' :=
  ⟨h.size, fun k hk hn => h.block k hk (fun q => by have := hF k q; omega)⟩

def flat (xs : List Int) (pre : List (Int × UInt8)) : List Bool := pre.flatMap (fun x => cb xs x.2.toNat)
theorem flat_snoc (xs : List Int) (pre : List (Int × UInt8)) (x : Int × UInt8) : flat xs (pre ++ [x]) = flat xs pre ++ cb xs x.2.toNat := by simp [flat]
theorem flat_len {xs : List Int} (h : InR xs) : ∀ pre : List (Int × UInt8), (flat xs pre).length ≤ 11 * pre.length := by
  intro pre
  induction pre with
  | nil => simp [flat]
  | cons x pre ih =>
    simp only [flat, List.flatMap_cons, List.length_append, cb, bitsOf_len, List.length_cons] at ih ⊢
    have := lf_le h x.2.toNat
    omega
theorem flat_all (xs : List Int) (l : List UInt8) : flat xs (upto (bk l) l.length) = bt xs l l.length := (bt_upto xs l _).symm
theorem up_mem {l : List UInt8} {k : Nat} (hk : k ≤ l.length) {x : Int × UInt8} (hx : x ∈ upto (bk l) k) : ∃ q, q < l.length ∧ x.2.toNat = sym l q := by
  simp only [upto, List.mem_map, List.mem_range] at hx
  obtain ⟨j, hj, rfl⟩ := hx
  exact ⟨l.length - 1 - j, by omega, rfl⟩
theorem up_all {l : List UInt8} {q : Nat} (hq : q < l.length) : ∃ x ∈ upto (bk l) l.length, x.2.toNat = sym l q := by
  refine ⟨bk l (l.length - 1 - q), ?_, ?_⟩
  · simp only [upto, List.mem_map, List.mem_range]
    exact ⟨_, by omega, rfl⟩
  · simp [bk, sym, show l.length - 1 - (l.length - 1 - q) = q by omega]

/-- Between two rounds. -/
structure EncI (xs : List Int) (W0 : World) (p : Nat) (pre : List (Int × UInt8)) (W : World) : Prop where
  gs : ∀ x ∈ pre, gd xs x.2.toNat
  kp : Kp (· = p) W0 W
  wr : ∃ F a c, WrAt 85 F W p a c (flat xs pre) ∧ ∀ k, F k → k = p ∨ W0.heap.size ≤ k
/-- A round has returned. -/
structure EncX (xs : List Int) (W0 : World) (p r1 r2 : Nat) (c : Code) (pre : List (Int × UInt8)) (W : World) : Prop where
  ret : c = .ret
  bad : ∃ x ∈ pre, ¬ gd xs x.2.toNat
  c1 : W.cell? ⟨r1, 0, none⟩ = some (.slice none 0 0)
  c2 : W.cell? ⟨r2, 0, none⟩ = some (.bool false)
  kp : Kp (fun k => k = p ∨ k = r1 ∨ k = r2) W0 W
theorem EncI.own (xs : List Int) (W0 : World) (p : Nat) : OwnFrom W0.heap.size (EncI xs W0 p) := fun s A B row h hg hr =>
  ⟨h.gs, h.kp.grown hg (fun k hk e => by have := (hr k e).1; omega), by
    obtain ⟨F, a, c, h1, h2⟩ := h.wr
    exact ⟨F, a, c, WrAt.grown h1 hg (fun r e => (hr r e).2), h2⟩⟩
theorem EncX.own (xs : List Int) (W0 : World) (p r1 r2 : Nat) (c : Code) : OwnFrom W0.heap.size (EncX xs W0 p r1 r2 c) := fun s A B row h hg hr =>
  ⟨h.ret, h.bad, cell_kept h.c1 hg (fun r e => (hr r e).2), cell_kept h.c2 hg (fun r e => (hr r e).2), h.kp.grown hg (fun k hk e => by have := (hr k e).1; omega)⟩
/-- A Put's step. -/
theorem EncI.step {xs : List Int} {W0 W V : World} {p n₀ Bs : Nat} {pre : List (Int × UInt8)} (h : EncI xs W0 p pre W) (hp : p < W0.heap.size) (hn : n₀ ≤ p) (hB : Bs ≠ p) (hBs : Bs < W0.heap.size)
    {x : Int × UInt8} (hx : gd xs x.2.toNat) {F : Nat → Prop} {a : Option Addr} {c : Nat} (hw : WrAt 85 F W p a c (flat xs pre)) (hF : ∀ k, F k → k = p ∨ W0.heap.size ≤ k)
    (hV : WrPost 85 (fun k => k = p ∨ (Value.slice a (flat xs pre).length c).ownBlock = some k) W p (flat xs pre ++ cb xs x.2.toNat) V) :
    KeepsFrom W0.heap.size W V ∧ KB n₀ Bs W V ∧ EncI xs W0 p (pre ++ [x]) V := by
  obtain ⟨F', a', c', h1, h2, h3⟩ := hV
  have hmin : ∀ k, (k = p ∨ (Value.slice a (flat xs pre).length c).ownBlock = some k) → k = p ∨ W0.heap.size ≤ k := by
    rintro k (rfl | q)
    · exact .inl rfl
    · exact hF k (hw.ne k q).1
  refine ⟨Kp.keeps h2 ?_ _, Kp.kb h2 ?_, ⟨?_, h.kp.trans2 h2 (fun i hi q => by rcases hmin i q with q | q; exact q; omega), F', a', c', by rw [flat_snoc]; exact h1, ?_⟩⟩
  · rintro k (rfl | q)
    · exact ⟨_, hw.hp, rfl⟩
    · exact OwnR.cells hw.own q
  · intro k q
    rcases hmin k q with rfl | q
    · exact ⟨hn, fun e => hB e.symm⟩
    · omega
  · intro y hy
    rcases List.mem_append.1 hy with hy | hy
    · exact h.gs y hy
    · rw [List.mem_singleton.1 hy]; exact hx
  · intro k q
    rcases h3 k q with q | q
    · exact hmin k q
    · have := h.kp.size; omega
theorem EncI.drew {xs : List Int} {W0 W : World} {p : Nat} {pre : List (Int × UInt8)} (h : EncI xs W0 p pre W) : EncI xs W0 p pre W.drew :=
  ⟨h.gs, h.kp.drew, by obtain ⟨F, a, c, h1, h2⟩ := h.wr; exact ⟨F, a, c, h1.kp (Kp.refl (fun _ => False) _).drew (fun _ _ q => q), h2⟩⟩
theorem back_drew {B n₀ Bs : Nat} {V W : World} {X : Prop} (h : KeepsFrom B V.drew W ∧ KB n₀ Bs V.drew W ∧ X) : KeepsFrom B V W ∧ KB n₀ Bs V W ∧ X :=
  ⟨⟨h.1.size, h.1.same⟩, ⟨h.2.1.size, h.2.1.block⟩, h.2.2⟩
end Go.Proofs.Ytcecnkmhhbncdaa.He
