/- Joining the two least trees till one is left: what comes of it is one; in plain words. -/
namespace Go.Hf
/-- A tree: its count, its least symbol, its symbols. -/
structure Tr where
  n : Nat
  m : Nat
  s : List Nat
def Lt (a b : Tr) : Prop := a.n < b.n ∨ (a.n = b.n ∧ a.m < b.m)
theorem Lt.asymm {a b : Tr} (h : Lt a b) (k : Lt b a) : False := by unfold Lt at h k; omega
def bump (s : List Nat) (L : Nat → Nat) : Nat → Nat := fun i => L i + s.count i
/-- What joins a and b. -/
structure Joins (a b c : Tr) : Prop where
  n : c.n = a.n + b.n
  m : c.m = min a.m b.m
  s : c.s.Perm (a.s ++ b.s)
inductive Run : List Tr → (Nat → Nat) → (Nat → Nat) → Prop
  | stop {F : List Tr} {L : Nat → Nat} (h : F.length ≤ 1) : Run F L L
  | step {F : List Tr} {L L' : Nat → Nat} {a b c : Tr} {r r' : List Tr} (hp : F.Perm (a :: b :: r)) (ha : ∀ t, t ∈ b :: r → Lt a t) (hb : ∀ t, t ∈ r → Lt b t) (hc : Joins a b c) (hr : r'.Perm (c :: r)) (h : Run r' (bump c.s L) L') : Run F L L'
def key (t : Tr) : Nat × Nat × (Nat → Nat) := (t.n, t.m, fun i => t.s.count i)
def KLt (a b : Nat × Nat × (Nat → Nat)) : Prop := a.1 < b.1 ∨ (a.1 = b.1 ∧ a.2.1 < b.2.1)
theorem min_same {α : Type} {lt : α → α → Prop} (hasym : ∀ a b, lt a b → lt b a → False) {x x' : α} {K K' : List α} (hp : (x :: K).Perm (x' :: K')) (h : ∀ y, y ∈ K → lt x y) (h' : ∀ y, y ∈ K' → lt x' y) : x = x' ∧ K.Perm K' := by
  have hx : x = x' := by
    have h1 : x ∈ x' :: K' := hp.subset List.mem_cons_self
    have h2 : x' ∈ x :: K := hp.symm.subset List.mem_cons_self
    rcases List.mem_cons.1 h1 with e | e
    · exact e
    · rcases List.mem_cons.1 h2 with q | q
      · exact q.symm
      · exact (hasym _ _ (h' x e) (h x' q)).elim
  subst hx
  exact ⟨rfl, (List.perm_cons x).1 hp⟩
theorem key_joins {a b c a' b' c' : Tr} (h : Joins a b c) (h' : Joins a' b' c') (ha : key a = key a') (hb : key b = key b') : key c = key c' := by
  simp only [key, Prod.mk.injEq] at ha hb ⊢
  refine ⟨by rw [h.n, h'.n, ha.1, hb.1], by rw [h.m, h'.m, ha.2.1, hb.2.1], ?_⟩
  funext i
  rw [h.s.count_eq, h'.s.count_eq, List.count_append, List.count_append]
  have e1 := congrFun ha.2.2 i
  have e2 := congrFun hb.2.2 i
  rw [e1, e2]
theorem bump_key {c c' : Tr} (h : key c = key c') (L : Nat → Nat) : bump c.s L = bump c'.s L := by
  simp only [key, Prod.mk.injEq] at h
  funext i
  have := congrFun h.2.2 i
  unfold bump
  rw [this]
/-- What comes of it is one. -/
theorem Run.det {F F' : List Tr} {L L1 L2 : Nat → Nat} (h : Run F L L1) (h' : Run F' L L2) (hk : (F.map key).Perm (F'.map key)) : L1 = L2 := by
  induction h generalizing F' with
  | stop hl =>
    cases h' with
    | stop _ => rfl
    | step hp _ _ _ _ _ =>
      have := hk.length_eq
      have q := hp.length_eq
      simp only [List.length_map, List.length_cons] at this q
      omega
  | step hp ha hb hc hr _ ih =>
    rename_i F0 L0 L0' a b c r r' _
    cases h' with
    | stop hl =>
      have := hk.length_eq
      have q := hp.length_eq
      simp only [List.length_map, List.length_cons] at this q
      omega
    | step hp' ha' hb' hc' hr' h2 =>
      rename_i a' b' c' s s'
      have k1 : (key a :: key b :: r.map key).Perm (key a' :: key b' :: s.map key) := ((hp.map key).symm.trans hk).trans (hp'.map key)
      have hasym : ∀ a b, KLt a b → KLt b a → False := fun a b h k => by unfold KLt at h k; omega
      obtain ⟨e1, k2⟩ := min_same hasym k1 (fun y hy => by
        rcases List.mem_cons.1 hy with rfl | hy
        · exact ha b List.mem_cons_self
        · obtain ⟨t, ht, rfl⟩ := List.mem_map.1 hy; exact ha t (List.mem_cons_of_mem _ ht)) (fun y hy => by
        rcases List.mem_cons.1 hy with rfl | hy
        · exact ha' b' List.mem_cons_self
        · obtain ⟨t, ht, rfl⟩ := List.mem_map.1 hy; exact ha' t (List.mem_cons_of_mem _ ht))
      obtain ⟨e2, k3⟩ := min_same hasym k2 (fun y hy => by obtain ⟨t, ht, rfl⟩ := List.mem_map.1 hy; exact hb t ht) (fun y hy => by obtain ⟨t, ht, rfl⟩ := List.mem_map.1 hy; exact hb' t ht)
      have e3 := key_joins hc hc' e1 e2
      rw [← bump_key e3] at h2
      refine ih h2 ?_
      refine ((hr.map key).trans ?_).trans (hr'.map key).symm
      simp only [List.map_cons]
      rw [e3]
      exact k3.cons _
end Go.Hf
