/- The program's Shelf and the document's side by side. -/
import Derived.Test.YtnjkchbombjemaaRelP
namespace Go.Proofs.Ytnjkchbombjemaa.Rf
open Go Go.RowKit Go.ChangeMaps Go.MapKept Go.Mg Go.Proofs.Ytnjkchbombjemaa.Sh Go.Proofs.Ytnjkchbombjemaa.Op
structure Two (w0 w : World) (s : Nat) (S : Shs) (x : Nat) (last : Int) (R : List It) : Prop where
  at_ : ∃ F G, ShelfAt F w s S ∧ RefAt G w x last R ∧ (∀ i, F i → ¬ G i) ∧ (∀ i, F i → w0.heap.size ≤ i) ∧ (∀ i, G i → w0.heap.size ≤ i)
  kp : Kp (fun _ => False) w0 w
  ok : S.Ok
variable {w0 w : World} {s : Nat} {S : Shs} {x : Nat} {last : Int} {R : List It}
theorem RefAt.kp {G F : Nat → Prop} {w' : World} (h : RefAt G w x last R) (hk : Kp F w w') (hd : ∀ i, G i → ¬ F i) : RefAt G w' x last R := by
  obtain ⟨a, c, h⟩ := h; exact ⟨a, c, h.kp hk hd⟩
theorem RefAt.fin {G : Nat → Prop} (h : RefAt G w x last R) : ∀ i, G i → i < w.heap.size := by obtain ⟨a, c, h⟩ := h; exact h.fin
theorem Two.new {w' : World} (h : Two w0 w s S x last R) (hk : Kp (fun _ => False) w w') : Two w0 w' s S x last R := by
  obtain ⟨F, G, h1, h2, h3, h4, h5⟩ := h.at_
  exact ⟨⟨F, G, h1.kp hk (fun _ _ q => q), h2.kp hk (fun _ _ q => q), h3, h4, h5⟩, h.kp.trans hk, h.ok⟩
theorem Two.start {B : Nat} (h : ShO w0 B w s S) : Two w0 (w.alloc (.cells #[.slice none 0 0, .int .i64 0] 48)) s S w.heap.size 0 [] := by
  obtain ⟨F, h1, h2⟩ := h.at_
  have ka := kp_lit w (.cells #[.slice none 0 0, .int .i64 0] 48)
  refine ⟨⟨F, fun i => i = w.heap.size, h1.kp ka (fun _ _ q => q), ⟨none, 0, ⟨alloc_at w _, rfl, OwnR.nil _ _ _, fun b hb => (by cases hb), fun y hy => (by cases hy), fun y hy => (by cases hy), fun i hi => by simp [hi]⟩⟩, fun i hi q => ?_, fun i hi => (h2 i hi).1, fun i hi => ?_⟩, h.kp.trans ka, h.ok⟩
  · have := h1.fin i hi; omega
  · rw [hi]; exact h.kp.size
theorem Two.again {x' : Nat} {last' : Int} {R' : List It} (h : Two w0 w s S x' last' R') : Two w0 (w.alloc (.cells #[.slice none 0 0, .int .i64 0] 48)) s S w.heap.size 0 [] := by
  obtain ⟨F, G, h1, _, _, h4, _⟩ := h.at_
  have ka := kp_lit w (.cells #[.slice none 0 0, .int .i64 0] 48)
  refine ⟨⟨F, fun i => i = w.heap.size, h1.kp ka (fun _ _ q => q), ⟨none, 0, ⟨alloc_at w _, rfl, OwnR.nil _ _ _, fun b hb => (by cases hb), fun y hy => (by cases hy), fun y hy => (by cases hy), fun i hi => by simp [hi]⟩⟩, fun i hi q => ?_, h4, fun i hi => ?_⟩, h.kp.trans ka, h.ok⟩
  · have := h1.fin i hi; omega
  · rw [hi]; exact h.kp.size
theorem Two.ofS {F G F' : Nat → Prop} {w' : World} {S' : Shs} (h2 : RefAt G w x last R) (h3 : ∀ i, F i → ¬ G i) (h4 : ∀ i, F i → w0.heap.size ≤ i) (h5 : ∀ i, G i → w0.heap.size ≤ i) (k0 : Kp (fun _ => False) w0 w)
    (g1 : ShelfAt F' w' s S') (g2 : Kp F w w') (g3 : ∀ i, F' i → F i ∨ w.heap.size ≤ i) (g4 : S'.Ok) : Two w0 w' s S' x last R := by
  refine ⟨⟨F', G, g1, h2.kp g2 (fun i hi q => h3 i q hi), fun i hi q => ?_, fun i hi => ?_, h5⟩, k0.trans2 g2 (fun i hi q => by have := h4 i q; omega), g4⟩
  · rcases g3 i hi with e | e
    · exact h3 i e q
    · have := h2.fin i q; omega
  · rcases g3 i hi with e | e
    · exact h4 i e
    · have := k0.size; omega
theorem Two.ofR {F G : Nat → Prop} {w' : World} {last' : Int} {R' : List It} (h1 : ShelfAt F w s S) (h3 : ∀ i, F i → ¬ G i) (h4 : ∀ i, F i → w0.heap.size ≤ i) (h5 : ∀ i, G i → w0.heap.size ≤ i) (k0 : Kp (fun _ => False) w0 w) (ok : S.Ok)
    (hl : Left G w w' x last' R') : Two w0 w' s S x last' R' := by
  obtain ⟨G', g1, g2, g3⟩ := hl
  refine ⟨⟨F, G', h1.kp g2 (fun i hi q => h3 i hi q), g1, fun i hi q => ?_, h4, fun i hi => ?_⟩, k0.trans2 g2 (fun i hi q => by have := h5 i q; omega), ok⟩
  · rcases g3 i q with e | e
    · exact h3 i hi e
    · have := h1.fin i hi; omega
  · rcases g3 i hi with e | e
    · exact h5 i e
    · have := k0.size; omega
/-! ### the program's functions -/
def Two.LoadP (w0 : World) (s : Nat) (S : Shs) (x : Nat) (last : Int) (R : List It) (n : ByteArray) (l : List UInt8) (e : Ending) (w' : World) : Prop :=
  e = .returned (.tuple #[.int .i64 (S.load n l).2.1, .int .i64 (S.load n l).2.2.1, .int .i64 (S.load n l).2.2.2]) ∧ Two w0 w' s (S.load n l).1 x last R
theorem two_load (h : Two w0 w s S x last R) (hlast : S.last < 4611686018427387904) (nm : ByteArray) (a : Option Addr) (n cap : Nat) (l : List UInt8)
    (hb : SlR w 1 (.slice a n cap) n (l.map u8c)) (hF : ∀ F, ShelfAt F w s S → (∀ i, F i → w0.heap.size ≤ i) → ∀ b, (Value.slice a n cap).ownBlock = some b → ¬ F b) (hn : nm.size ≤ 9223372036854775807) (hl : l.length ≤ 140737488355328) :
    Calls Try.prog 15 #[.pointer (some ⟨s, 0, none⟩), .string nm, .slice a n cap] w (Two.LoadP w0 s S x last R nm l) := by
  obtain ⟨F, G, h1, h2, h3, h4, h5⟩ := h.at_
  refine (load_n S h.ok hlast nm a n cap l w h1 hb (hF F h1 h4) hn hl).mono ?_
  rintro e w' ⟨he, F', g1, g2, g3⟩
  exact ⟨he, Two.ofS h2 h3 h4 h5 h.kp g1 g2 g3 (load_ok h.ok nm l)⟩
theorem two_retire (h : Two w0 w s S x last R) (n : ByteArray) : Calls Try.prog 18 #[.pointer (some ⟨s, 0, none⟩), .string n] w
    fun e w' => e = .returned (.tuple #[.int .i64 (S.retire n).2.1, .int .i64 (S.retire n).2.2]) ∧ Two w0 w' s (S.retire n).1 x last R := by
  obtain ⟨F, G, h1, h2, h3, h4, h5⟩ := h.at_
  refine (retire_any S h.ok n w h1).mono ?_
  rintro e w' ⟨he, g1, g2⟩
  exact ⟨he, Two.ofS h2 h3 h4 h5 h.kp g1 g2 (fun _ q => .inl q) (retire_ok h.ok n)⟩
theorem two_unpin (h : Two w0 w s S x last R) (id : Int) (hp : ∀ k, AL.get S.books id = some k → k.pins < 4611686018427387904) :
    Calls Try.prog 20 #[.pointer (some ⟨s, 0, none⟩), .int .i64 id] w fun e w' => e = .returned (.bool (S.unpin id).2) ∧ Two w0 w' s (S.unpin id).1 x last R := by
  obtain ⟨F, G, h1, h2, h3, h4, h5⟩ := h.at_
  refine (unpin_any S id hp w h1).mono ?_
  rintro e w' ⟨he, g1, g2⟩
  exact ⟨he, Two.ofS h2 h3 h4 h5 h.kp g1 g2 (fun _ q => .inl q) (unpin_ok h.ok id)⟩
theorem two_refs (h : Two w0 w s S x last R) (id : Int) : Calls Try.prog 24 #[.pointer (some ⟨s, 0, none⟩), .int .i64 id] w fun e w' => e = .returned (.int .i64 (S.refs id)) ∧ w = w' := by
  obtain ⟨F, G, h1, _⟩ := h.at_
  exact refs_any S id w h1
theorem two_size (h : Two w0 w s S x last R) (id : Int) : Calls Try.prog 19 #[.pointer (some ⟨s, 0, none⟩), .int .i64 id] w fun e w' => e = .returned (.int .i64 (S.size id)) ∧ w = w' := by
  obtain ⟨F, G, h1, _⟩ := h.at_
  exact size_any S id w h1
theorem two_bytes (h : Two w0 w s S x last R) (hb : S.bytes < 4611686018427387904) : Calls Try.prog 17 #[.pointer (some ⟨s, 0, none⟩)] w fun e w' => e = .returned (.int .i64 S.bytes) ∧ Two w0 w' s S x last R := by
  obtain ⟨F, G, h1, _⟩ := h.at_
  refine (bytes_any S hb w h1).mono ?_
  rintro e w' ⟨he, g⟩
  exact ⟨he, h.new g⟩
/-! ### the document's functions -/
theorem two_rload (h : Two w0 w s S x last R) (hR : R.length < 10000000000) (hlast : 0 ≤ last ∧ last < 4611686018427387904) (n : ByteArray) (a : Option Addr) (cap : Nat) (l : List UInt8)
    (hb : Byt w (.slice a l.length cap) l) (hF : ∀ b, (Value.slice a l.length cap).ownBlock = some b → b < w0.heap.size) (hn : n.size ≤ 9223372036854775807) (hl : l.length ≤ 140737488355328) :
    Calls Try.prog 33 #[.pointer (some ⟨x, 0, none⟩), .string n, .slice a l.length cap] w fun e w' =>
      (isS n l ≠ 0 ∧ e = .returned (.tuple #[.int .i64 0, .int .i64 0, .int .i64 (isS n l)]) ∧ Two w0 w' s S x last R) ∨
      (isS n l = 0 ∧ e = .returned (.tuple #[.int .i64 (last + 1), .int .i64 (rRetire R n).2.1, .int .i64 0]) ∧ ∃ da dc, Two w0 w' s S x (last + 1) ((rRetire R n).1 ++ [⟨last + 1, n, l.drop 4, true, 0, da, dc⟩])) := by
  obtain ⟨F, G, h1, h2, h3, h4, h5⟩ := h.at_
  refine (load_r h2 hR hlast n a cap l hb (fun _ b hb hg => by have := h5 b hg; have := hF b hb; omega) hn hl).mono ?_
  rintro e w' (⟨g1, g2, g3⟩ | ⟨g1, g2, da, dc, g3⟩)
  · exact .inl ⟨g1, g2, Two.ofR h1 h3 h4 h5 h.kp h.ok g3⟩
  · exact .inr ⟨g1, g2, da, dc, Two.ofR h1 h3 h4 h5 h.kp h.ok g3⟩
theorem two_rretire (h : Two w0 w s S x last R) (hR : R.length < 100000000000) (n : ByteArray) : Calls Try.prog 35 #[.pointer (some ⟨x, 0, none⟩), .string n] w
    fun e w' => e = .returned (.tuple #[.int .i64 (rRetire R n).2.1, .int .i64 (rRetire R n).2.2]) ∧ Two w0 w' s S x last (rRetire R n).1 := by
  obtain ⟨F, G, h1, h2, h3, h4, h5⟩ := h.at_
  refine (retire_r h2 hR n).mono ?_
  rintro e w' ⟨he, g⟩
  exact ⟨he, Two.ofR h1 h3 h4 h5 h.kp h.ok g⟩
theorem two_runpin (h : Two w0 w s S x last R) (hR : R.length < 100000000000) (hp : ∀ y, y ∈ R → 0 ≤ y.refs ∧ y.refs < 100000000000) (id : Int) : Calls Try.prog 37 #[.pointer (some ⟨x, 0, none⟩), .int .i64 id] w
    fun e w' => e = .returned (.bool (rUnpin R id).2) ∧ Two w0 w' s S x last (rUnpin R id).1 := by
  obtain ⟨F, G, h1, h2, h3, h4, h5⟩ := h.at_
  refine (unpin_r h2 hR hp id).mono ?_
  rintro e w' ⟨he, g⟩
  exact ⟨he, Two.ofR h1 h3 h4 h5 h.kp h.ok g⟩
theorem two_rrefs (h : Two w0 w s S x last R) (hR : R.length < 100000000000) (id : Int) : Calls Try.prog 25 #[.pointer (some ⟨x, 0, none⟩), .int .i64 id] w fun e w' => e = .returned (.int .i64 (rRefs R id)) ∧ w = w' := by
  obtain ⟨F, G, _, ⟨a, c, h2⟩, _⟩ := h.at_
  exact refs_r h2 (by omega) id
theorem two_rsize (h : Two w0 w s S x last R) (hR : R.length < 100000000000) (id : Int) : Calls Try.prog 26 #[.pointer (some ⟨x, 0, none⟩), .int .i64 id] w fun e w' => e = .returned (.int .i64 (rSize R id)) ∧ w = w' := by
  obtain ⟨F, G, _, ⟨a, c, h2⟩, _⟩ := h.at_
  exact size_r h2 (by omega) id
theorem two_rbytes (h : Two w0 w s S x last R) (hR : R.length < 100000000000) (hb : rBytes R < 4611686018427387904) : Calls Try.prog 23 #[.pointer (some ⟨x, 0, none⟩)] w fun e w' => e = .returned (.int .i64 (rBytes R)) ∧ w = w' := by
  obtain ⟨F, G, _, ⟨a, c, h2⟩, _⟩ := h.at_
  exact bytes_r h2 (by omega) hb
end Go.Proofs.Ytnjkchbombjemaa.Rf
