/- Shelf's pure side: what its steps keep. Of no program. -/
import Derived.Test.YtnjkchbombjemaaShelfA
namespace Go.Proofs.Ytnjkchbombjemaa.Sh
open Go Go.Mg

theorem lets_ok {S : Shs} {id : Int} (h : S.Ok) (hn : ∀ n id', AL.get S.names n = some id' → id' ≠ id ∨ True) : (S.lets id).1.Ok := by
  unfold Shs.lets
  split
  · exact h
  · rename_i k hk
    split
    · exact h
    · rename_i hc
      refine ⟨fun n id' hg => ?_, h.one, fun id' k' hg => ?_⟩
      · obtain ⟨k', hk', hcur⟩ := h.nm n id' hg
        refine ⟨k', ?_, hcur⟩
        show AL.get (AL.del S.books id) id' = _
        rw [AL.get_del, if_neg, hk']
        intro e
        subst e
        rw [hk] at hk'
        cases hk'
        exact hc (.inl hcur)
      · have : AL.get (AL.del S.books id) id' = some k' := hg
        rw [AL.get_del] at this
        split at this
        · cases this
        · exact h.pos id' k' this

theorem retires_ok {S : Shs} (h : S.Ok) (n : ByteArray) : (S.retires n).1.Ok := by
  unfold Shs.retires
  split
  · exact h
  · rename_i id hg
    split
    · exact h
    · rename_i k hk
      refine lets_ok ⟨fun n' id' hg' => ?_, fun n1 n2 id' h1 h2 => ?_, fun id' k' hk' => ?_⟩ (fun _ _ _ => .inr trivial)
      · have hg1 : AL.get (AL.del S.names n) n' = some id' := hg'
        rw [AL.get_del] at hg1
        split at hg1
        · cases hg1
        · rename_i hne
          obtain ⟨k', hk', hcur⟩ := h.nm n' id' hg1
          refine ⟨k', ?_, hcur⟩
          show AL.get (AL.put S.books id _) id' = _
          rw [AL.get_put, if_neg, hk']
          intro e
          subst e
          exact hne (h.one n' n id' hg1 hg)
      · have e1 : AL.get (AL.del S.names n) n1 = some id' := h1
        have e2 : AL.get (AL.del S.names n) n2 = some id' := h2
        rw [AL.get_del] at e1 e2
        split at e1
        · cases e1
        · split at e2
          · cases e2
          · exact h.one _ _ _ e1 e2
      · have e1 : AL.get (AL.put S.books id _) id' = some k' := hk'
        rw [AL.get_put] at e1
        split at e1
        · rename_i e; subst e; exact h.pos _ _ hk
        · exact h.pos _ _ e1
theorem retires_last (S : Shs) (n : ByteArray) : (S.retires n).1.last = S.last := by
  unfold Shs.retires
  split
  · rfl
  · split
    · rfl
    · unfold Shs.lets
      split
      · rfl
      · split <;> rfl
/-- After a name is retired, it has no number. -/
theorem retires_none {S : Shs} (h : S.Ok) (n : ByteArray) : AL.get (S.retires n).1.names n = none := by
  unfold Shs.retires
  split
  · rename_i hg; exact hg
  · rename_i id hg
    obtain ⟨k, hk, _⟩ := h.nm n id hg
    rw [hk]
    have : ∀ T : Shs, (T.lets id).1.names = T.names := fun T => by unfold Shs.lets; split; rfl; split <;> rfl
    show AL.get (Shs.lets _ id).1.names n = none
    rw [this]
    show AL.get (AL.del S.names n) n = none
    rw [AL.get_del, if_pos rfl]

def mdic : ByteArray := ⟨#[77, 68, 73, 67]⟩
def pfx (s p : ByteArray) : Bool := decide (p.size ≤ s.size) && (s.extract 0 p.size).toList == p.toList
def isS (name : ByteArray) (l : List UInt8) : Int :=
  if name.size = 0 ∨ 12 < name.size then 1 else if pfx ⟨l.toArray⟩ mdic = false ∨ l.length < 5 ∨ 2004 < l.length then 4 else 0
def Shs.load (S : Shs) (n : ByteArray) (l : List UInt8) : Shs × Int × Int × Int :=
  if isS n l = 0 then
    ({ last := (S.retires n).1.last + 1, books := AL.put (S.retires n).1.books ((S.retires n).1.last + 1) ⟨l.drop 4, true, 0⟩, names := AL.put (S.retires n).1.names n ((S.retires n).1.last + 1) }, ((S.retires n).1.last + 1 : Int), (S.retires n).2, 0)
  else (S, 0, 0, isS n l)
theorem len_of_is {n : ByteArray} {l : List UInt8} (h : isS n l = 0) : 5 ≤ l.length ∧ l.length ≤ 2004 := by
  unfold isS at h
  split at h
  · cases h
  · split at h
    · cases h
    · omega
theorem load_ok {S : Shs} (h : S.Ok) (n : ByteArray) (l : List UInt8) : (S.load n l).1.Ok := by
  unfold Shs.load
  split
  · have h1 := retires_ok h n
    have h0 := retires_none h n
    refine ⟨fun n' id' hg => ?_, fun n1 n2 id' e1 e2 => ?_, fun id' k' hk => ?_⟩
    · have hg1 : AL.get (AL.put (S.retires n).1.names n ((S.retires n).1.last + 1)) n' = some id' := hg
      show ∃ k, AL.get (AL.put (S.retires n).1.books _ _) id' = some k ∧ _
      rw [AL.get_put] at hg1
      rw [AL.get_put]
      split at hg1
      · cases hg1; exact ⟨_, if_pos rfl, rfl⟩
      · obtain ⟨k, hk, hc⟩ := h1.nm n' id' hg1
        exact ⟨k, by rw [if_neg]; exact hk; have := h1.pos _ _ hk; omega, hc⟩
    · have e1' : AL.get (AL.put (S.retires n).1.names n ((S.retires n).1.last + 1)) n1 = some id' := e1
      have e2' : AL.get (AL.put (S.retires n).1.names n ((S.retires n).1.last + 1)) n2 = some id' := e2
      rw [AL.get_put] at e1' e2'
      split at e1' <;> split at e2'
      · rename_i a b; rw [a, b]
      · cases e1'
        obtain ⟨k, hk, _⟩ := h1.nm _ _ e2'
        have := h1.pos _ _ hk; omega
      · cases e2'
        obtain ⟨k, hk, _⟩ := h1.nm _ _ e1'
        have := h1.pos _ _ hk; omega
      · exact h1.one _ _ _ e1' e2'
    · have e1 : AL.get (AL.put (S.retires n).1.books ((S.retires n).1.last + 1) ⟨l.drop 4, true, 0⟩) id' = some k' := hk
      show 1 ≤ id' ∧ id' ≤ (((S.retires n).1.last + 1 : Nat) : Int)
      rw [AL.get_put] at e1
      split at e1
      · rename_i e; subst e; omega
      · have := h1.pos _ _ e1; omega
  · exact h
end Go.Proofs.Ytnjkchbombjemaa.Sh
