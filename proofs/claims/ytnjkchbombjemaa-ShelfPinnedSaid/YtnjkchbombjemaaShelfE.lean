/- Shelf's contracts, of a Shelf that was made since w0: for the laws' walks. -/
import Derived.Test.YtnjkchbombjemaaShelfD
import Derived.Test.YtnjkchbombjemaaOpen
namespace Go.Proofs.Ytnjkchbombjemaa.Sh
open Go Go.RowKit Go.ChangeMaps Go.MapKept Go.Mg

/-- s is a Shelf that was made since w0, in blocks below B; nothing of w0 has turned. -/
structure ShO (w0 : World) (B : Nat) (w : World) (s : Nat) (S : Shs) : Prop where
  at_ : ∃ F, ShelfAt F w s S ∧ ∀ i, F i → w0.heap.size ≤ i ∧ i < B
  kp : Kp (fun _ => False) w0 w
  ok : S.Ok
  B : B ≤ w.heap.size
theorem ShO.new {w0 : World} {B : Nat} {w w' : World} {s : Nat} {S : Shs} (h : ShO w0 B w s S) (hk : Kp (fun _ => False) w w') : ShO w0 B w' s S := by
  obtain ⟨F, h1, h2⟩ := h.at_
  exact ⟨⟨F, h1.kp hk (fun _ _ q => q), h2⟩, h.kp.trans hk, h.ok, Nat.le_trans h.B hk.size⟩
theorem ShO.set {w0 : World} {B : Nat} {w w' : World} {s : Nat} {S : Shs} {g : Nat} (h : ShO w0 B w s S) (hk : Kp (· = g) w w') (hg : B ≤ g) (hg0 : w0.heap.size ≤ g) : ShO w0 B w' s S := by
  obtain ⟨F, h1, h2⟩ := h.at_
  exact ⟨⟨F, h1.kp hk (fun i hi e => by have := h2 i hi; omega), h2⟩, h.kp.trans2 hk (fun i hi e => by omega), h.ok, Nat.le_trans h.B hk.size⟩
theorem ShO.mono {w0 : World} {B B' : Nat} {w : World} {s : Nat} {S : Shs} (h : ShO w0 B w s S) (hB : B ≤ B') (hw : B' ≤ w.heap.size) : ShO w0 B' w s S := by
  obtain ⟨F, h1, h2⟩ := h.at_
  exact ⟨⟨F, h1, fun i hi => ⟨(h2 i hi).1, by have := (h2 i hi).2; omega⟩⟩, h.kp, h.ok, hw⟩

def NewO (w : World) (e : Ending) (w' : World) : Prop := ∃ s, e = .returned (.pointer (some ⟨s, 0, none⟩)) ∧ ShO w w'.heap.size w' s sh0
theorem new_o (w : World) : Calls Try.prog 14 #[] w (NewO w) :=
  (new_any w).mono fun _ _ ⟨s, he, h1, h2⟩ => ⟨s, he, ⟨⟨_, h1, fun i hi => ⟨hi.1, h1.fin i hi⟩⟩, h2, sh0_ok, Nat.le_refl _⟩⟩

def LoadO (w0 : World) (s : Nat) (S : Shs) (n : ByteArray) (l : List UInt8) (e : Ending) (w' : World) : Prop :=
  e = .returned (.tuple #[.int .i64 (S.load n l).2.1, .int .i64 (S.load n l).2.2.1, .int .i64 (S.load n l).2.2.2]) ∧ ShO w0 w'.heap.size w' s (S.load n l).1
theorem load_o {w0 : World} {B : Nat} {w : World} {s : Nat} {S : Shs} (h : ShO w0 B w s S) (hlast : S.last < 4611686018427387904) (nm : ByteArray) (a : Option Addr) (n cap : Nat) (l : List UInt8)
    (hb : SlR w 1 (.slice a n cap) n (l.map u8c)) (hF : ∀ b, (Value.slice a n cap).ownBlock = some b → b < w0.heap.size ∨ B ≤ b) (hn : nm.size ≤ 9223372036854775807) (hl : l.length ≤ 140737488355328) :
    Calls Try.prog 15 #[.pointer (some ⟨s, 0, none⟩), .string nm, .slice a n cap] w (LoadO w0 s S nm l) := by
  obtain ⟨F, h1, h2⟩ := h.at_
  refine (load_n S h.ok hlast nm a n cap l w h1 hb (fun b hb hf => by have := h2 b hf; have := hF b hb; omega) hn hl).mono ?_
  rintro e w' ⟨he, F', h3, h4, h5⟩
  refine ⟨he, ⟨⟨F', h3, fun i hi => ⟨?_, h3.fin i hi⟩⟩, h.kp.trans2 h4 (fun i hi hf => by have := h2 i hf; omega), load_ok h.ok nm l, Nat.le_refl _⟩⟩
  rcases h5 i hi with hf | hf
  · exact (h2 i hf).1
  · have := h.kp.size; omega

def RetireO (w0 : World) (B : Nat) (s : Nat) (S : Shs) (n : ByteArray) (e : Ending) (w' : World) : Prop :=
  e = .returned (.tuple #[.int .i64 (S.retire n).2.1, .int .i64 (S.retire n).2.2]) ∧ ShO w0 B w' s (S.retire n).1
theorem retire_ok {S : Shs} (h : S.Ok) (n : ByteArray) : (S.retire n).1.Ok := by
  unfold Shs.retire
  split
  · exact h
  · exact retires_ok h n
theorem retire_o {w0 : World} {B : Nat} {w : World} {s : Nat} {S : Shs} (h : ShO w0 B w s S) (n : ByteArray) : Calls Try.prog 18 #[.pointer (some ⟨s, 0, none⟩), .string n] w (RetireO w0 B s S n) := by
  obtain ⟨F, h1, h2⟩ := h.at_
  refine (retire_any S h.ok n w h1).mono ?_
  rintro e w' ⟨he, h3, h4⟩
  exact ⟨he, ⟨⟨F, h3, h2⟩, h.kp.trans2 h4 (fun i hi hf => by have := h2 i hf; omega), retire_ok h.ok n, Nat.le_trans h.B h4.size⟩⟩

def PinO (w0 : World) (B : Nat) (w : World) (s : Nat) (S : Shs) (n : ByteArray) (e : Ending) (w' : World) : Prop :=
  ∃ a c, e = .returned (.tuple #[.int .i64 (S.pin n).2.1, .slice a (S.pin n).2.2.1.length c, .int .i64 (S.pin n).2.2.2]) ∧ ShO w0 B w' s (S.pin n).1 ∧ w.heap.size ≤ w'.heap.size ∧
    OwnR w' 5 1 (.slice a (S.pin n).2.2.1.length c) (S.pin n).2.2.1.length ((S.pin n).2.2.1.map u8c) ∧ (∀ b, (Value.slice a (S.pin n).2.2.1.length c).ownBlock = some b → w.heap.size ≤ b)
theorem put_ok {S : Shs} (h : S.Ok) {id : Int} {k k' : Bk} (hk : AL.get S.books id = some k) (hc : k'.cur = k.cur) : ({ S with books := AL.put S.books id k' } : Shs).Ok := by
  refine ⟨fun n id' hg => ?_, h.one, fun id' k'' hg => ?_⟩
  · obtain ⟨k0, h0, h1⟩ := h.nm n id' hg
    show ∃ k, AL.get (AL.put S.books id k') id' = some k ∧ _
    rw [AL.get_put]
    by_cases e : id' = id
    · subst e; rw [hk] at h0; cases h0; exact ⟨k', if_pos rfl, by rw [hc]; exact h1⟩
    · exact ⟨k0, by rw [if_neg e]; exact h0, h1⟩
  · have h1 : AL.get (AL.put S.books id k') id' = some k'' := hg
    rw [AL.get_put] at h1
    split at h1
    · rename_i e; subst e; exact h.pos _ _ hk
    · exact h.pos _ _ h1
theorem pin_ok {S : Shs} (h : S.Ok) (n : ByteArray) : (S.pin n).1.Ok := by
  unfold Shs.pin
  split
  · exact h
  · split
    · exact h
    · rename_i hk; exact put_ok h hk rfl
theorem pin_o {w0 : World} {B : Nat} {w : World} {s : Nat} {S : Shs} (h : ShO w0 B w s S) (hp : ∀ id k, AL.get S.books id = some k → k.pins < 4611686018427387904) (n : ByteArray) :
    Calls Try.prog 16 #[.pointer (some ⟨s, 0, none⟩), .string n] w (PinO w0 B w s S n) := by
  obtain ⟨F, h1, h2⟩ := h.at_
  refine (pin_any S h.ok hp n w h1).mono ?_
  rintro e w' ⟨a, c, he, h3, h4, h5, h6⟩
  exact ⟨a, c, he, ⟨⟨F, h3, h2⟩, h.kp.trans2 h4 (fun i hi hf => by have := h2 i hf; omega), pin_ok h.ok n, Nat.le_trans h.B h4.size⟩, h4.size, h5, h6⟩

def UnpinO (w0 : World) (B : Nat) (s : Nat) (S : Shs) (id : Int) (e : Ending) (w' : World) : Prop := e = .returned (.bool (S.unpin id).2) ∧ ShO w0 B w' s (S.unpin id).1
theorem unpin_ok {S : Shs} (h : S.Ok) (id : Int) : (S.unpin id).1.Ok := by
  unfold Shs.unpin
  split
  · exact h
  · rename_i k hk
    split
    · exact h
    · exact lets_ok (put_ok h hk rfl) (fun _ _ _ => .inr trivial)
theorem unpin_o {w0 : World} {B : Nat} {w : World} {s : Nat} {S : Shs} (h : ShO w0 B w s S) (id : Int) (hp : ∀ k, AL.get S.books id = some k → k.pins < 4611686018427387904) :
    Calls Try.prog 20 #[.pointer (some ⟨s, 0, none⟩), .int .i64 id] w (UnpinO w0 B s S id) := by
  obtain ⟨F, h1, h2⟩ := h.at_
  refine (unpin_any S id hp w h1).mono ?_
  rintro e w' ⟨he, h3, h4⟩
  exact ⟨he, ⟨⟨F, h3, h2⟩, h.kp.trans2 h4 (fun i hi hf => by have := h2 i hf; omega), unpin_ok h.ok id, Nat.le_trans h.B h4.size⟩⟩
theorem refs_o {w0 : World} {B : Nat} {w : World} {s : Nat} {S : Shs} (h : ShO w0 B w s S) (id : Int) :
    Calls Try.prog 24 #[.pointer (some ⟨s, 0, none⟩), .int .i64 id] w fun e w' => e = .returned (.int .i64 (S.refs id)) ∧ w = w' := by
  obtain ⟨F, h1, h2⟩ := h.at_
  exact refs_any S id w h1
theorem size_o {w0 : World} {B : Nat} {w : World} {s : Nat} {S : Shs} (h : ShO w0 B w s S) (id : Int) :
    Calls Try.prog 19 #[.pointer (some ⟨s, 0, none⟩), .int .i64 id] w fun e w' => e = .returned (.int .i64 (S.size id)) ∧ w = w' := by
  obtain ⟨F, h1, h2⟩ := h.at_
  exact size_any S id w h1
def BytesO (w0 : World) (B : Nat) (s : Nat) (S : Shs) (e : Ending) (w' : World) : Prop := e = .returned (.int .i64 S.bytes) ∧ ShO w0 B w' s S
theorem bytes_o {w0 : World} {B : Nat} {w : World} {s : Nat} {S : Shs} (h : ShO w0 B w s S) (hb : S.bytes < 4611686018427387904) :
    Calls Try.prog 17 #[.pointer (some ⟨s, 0, none⟩)] w (BytesO w0 B s S) := by
  obtain ⟨F, h1, h2⟩ := h.at_
  exact (bytes_any S hb w h1).mono fun _ _ ⟨he, hk⟩ => ⟨he, h.new hk⟩

/-- A slice of bytes that is written out, freshly laid. -/
theorem lit_sl (w : World) (l : List UInt8) (cells : Array Value) (hc : cells = (l.map u8c).toArray) (fr : Nat × Nat) (hfr : fr = (0, 0) ∨ cells.size ≤ fr.1) (n : Nat) (hn : n = l.length) (hb : l.length ≤ 140737488355328) :
    SlR (w.alloc (.cells cells 5 fr)) 1 (.slice (some ⟨w.heap.size, 0, none⟩) n n) n (l.map u8c) := (lit_own w l cells hc fr hfr n hn hb).sl
theorem kp_lit (w : World) (o : Obj) : Kp (fun _ => False) w (w.alloc o) := (Kp.refl _ _).alloc _

/-! ### a Shelf with one dictionary -/
def dat (l : List UInt8) : List UInt8 := [77, 68, 73, 67] ++ l
def st (l : List UInt8) (p : Nat) : Shs := ⟨1, [(1, ⟨l, true, p⟩)], [(nameA, 1)]⟩
theorem is_dat {l : List UInt8} (h1 : 1 ≤ l.length) (h2 : l.length ≤ 2000) : isS nameA (dat l) = 0 :=
  isS_ok (by decide) (by decide) (List.prefix_append _ _) (by simp [dat]; omega) (by simp [dat]; omega)
theorem st_load {l : List UInt8} (h1 : 1 ≤ l.length) (h2 : l.length ≤ 2000) : sh0.load nameA (dat l) = (st l 0, 1, 0, 0) := by
  rw [sh0_load _ _ (is_dat h1 h2)]; rfl
theorem st_pin (l : List UInt8) (p : Nat) : (st l p).pin nameA = (st l (p + 1), 1, l, 0) := by
  simp [Shs.pin, st, AL.get, AL.put]
theorem st_ok (l : List UInt8) (p : Nat) : (st l p).Ok := by
  refine ⟨fun n id h => ?_, fun n n' id h h' => ?_, fun id k h => ?_⟩
  · have : id = 1 := by
      simp only [st, AL.get_cons, AL.get_nil] at h
      split at h
      · simpa using h.symm
      · cases h
    subst this
    exact ⟨⟨l, true, p⟩, rfl, rfl⟩
  · simp only [st, AL.get_cons, AL.get_nil] at h h'
    split at h <;> split at h'
    · rename_i a b; rw [← a, ← b]
    · cases h'
    · cases h
    · cases h
  · simp only [st, AL.get_cons, AL.get_nil] at h
    split at h
    · rename_i e; subst e; exact ⟨Int.le_refl _, Int.le_refl _⟩
    · cases h
theorem st_pins (l : List UInt8) (p : Nat) (hp : p ≤ 5) : ∀ id k, AL.get (st l p).books id = some k → k.pins < 4611686018427387904 := by
  intro id k h
  simp only [st, AL.get_cons, AL.get_nil] at h
  split at h
  · cases h; show p < _; omega
  · cases h
theorem st_unpin (l : List UInt8) (p : Nat) : (st l p).unpin 1 = (st l (p - 1), false) := by
  cases p with
  | zero => rfl
  | succ p => simp [Shs.unpin, st, AL.get, AL.put, Shs.lets]
theorem st_retire0 (l : List UInt8) : (st l 0).retire nameA = (⟨1, [], []⟩, 1, 0) := by
  simp [Shs.retire, Shs.retires, st, AL.get, AL.put, AL.del, Shs.lets]
theorem none_retire (n : ByteArray) : (⟨1, [], []⟩ : Shs).retire n = (⟨1, [], []⟩, 0, 5) := rfl
theorem st_size (l : List UInt8) (p : Nat) : (st l p).size 1 = l.length := rfl
theorem st_refs (l : List UInt8) (p : Nat) : (st l p).refs 1 = p := rfl
def abc : List UInt8 := [97, 98, 99]
theorem size_abc (p : Nat) : (st abc p).size 1 = 3 := rfl
/-- 'Load("a", ..)' of a dictionary that is written out. -/
def LoadSt (w0 : World) (s : Nat) (l : List UInt8) (e : Ending) (w' : World) : Prop := e = .returned (.tuple #[.int .i64 1, .int .i64 0, .int .i64 0]) ∧ ShO w0 w'.heap.size w' s (st l 0)
theorem load_st {w0 : World} {B : Nat} {w : World} {s : Nat} (h : ShO w0 B w s sh0) (l : List UInt8) (h1 : 1 ≤ l.length) (h2 : l.length ≤ 2000) (a : Option Addr) (n cap : Nat)
    (hb : SlR w 1 (.slice a n cap) n ((dat l).map u8c)) (hF : ∀ b, (Value.slice a n cap).ownBlock = some b → b < w0.heap.size ∨ B ≤ b) :
    Calls Try.prog 15 #[.pointer (some ⟨s, 0, none⟩), .string nameA, .slice a n cap] w (LoadSt w0 s l) := by
  refine (load_o h (by decide) nameA a n cap (dat l) hb hF (by decide) (by simp [dat]; omega)).mono ?_
  rintro e w' ⟨he, h3⟩
  rw [st_load h1 h2] at he h3
  exact ⟨he, h3⟩
def PinSt (w0 : World) (B : Nat) (s : Nat) (l : List UInt8) (p : Nat) (e : Ending) (w' : World) : Prop := ∃ a c, e = .returned (.tuple #[.int .i64 1, .slice a l.length c, .int .i64 0]) ∧ ShO w0 B w' s (st l (p + 1))
theorem pin_st {w0 : World} {B : Nat} {w : World} {s : Nat} {l : List UInt8} {p : Nat} (h : ShO w0 B w s (st l p)) (hp : p ≤ 1000) : Calls Try.prog 16 #[.pointer (some ⟨s, 0, none⟩), .string nameA] w (PinSt w0 B s l p) := by
  refine (pin_o h (fun id k hk => ?_) nameA).mono ?_
  · simp only [st, AL.get_cons, AL.get_nil] at hk
    split at hk
    · cases hk; show p < _; omega
    · cases hk
  · rintro e w' ⟨a, c, he, h3, _⟩
    rw [st_pin] at he h3
    exact ⟨a, c, he, h3⟩
def UnpinSt (w0 : World) (B : Nat) (s : Nat) (l : List UInt8) (p : Nat) (e : Ending) (w' : World) : Prop := e = .returned (.bool false) ∧ ShO w0 B w' s (st l (p - 1))
theorem unpin_st {w0 : World} {B : Nat} {w : World} {s : Nat} {l : List UInt8} {p : Nat} (h : ShO w0 B w s (st l p)) (hp : p ≤ 1000) : Calls Try.prog 20 #[.pointer (some ⟨s, 0, none⟩), .int .i64 1] w (UnpinSt w0 B s l p) := by
  refine (unpin_o h 1 (fun k hk => ?_)).mono ?_
  · cases hk; show p < _; omega
  · rintro e w' ⟨he, h3⟩
    rw [st_unpin] at he h3
    exact ⟨he, h3⟩
end Go.Proofs.Ytnjkchbombjemaa.Sh
