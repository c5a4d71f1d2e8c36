/- A nil Shelf; 'known'. -/
import Derived.Test.YtnjkchbombjemaaShelfC
import Derived.Lib.SlBytesConst
import Derived.Lib.Strings
namespace Go.Proofs.Ytnjkchbombjemaa.Sh
open Go Go.RowKit Go.ChangeMaps Go.MapKept Go.Mg

set_option maxHeartbeats 1000000 in
theorem load_nil (n : ByteArray) (v : Value) (w : World) : Calls Try.prog 15 #[.pointer none, .string n, v] w fun e w' => e = .returned (.tuple #[.int .i64 0, .int .i64 0, .int .i64 1]) ∧ w = w' := by
  go_enter Try.func15, Try.ntmps15
  go_wp2
  go_ret3
  exact ⟨rfl, rfl⟩
set_option maxHeartbeats 1000000 in
theorem retire_nil (n : ByteArray) (w : World) : Calls Try.prog 18 #[.pointer none, .string n] w fun e w' => e = .returned (.tuple #[.int .i64 0, .int .i64 5]) ∧ w = w' := by
  go_enter Try.func18, Try.ntmps18
  go_wp2_with (go_at_call 30; refine (at_nil n _).mono ?_; rintro e w' ⟨rfl, rfl⟩)
  go_ret2
  exact ⟨rfl, rfl⟩
set_option maxHeartbeats 1000000 in
theorem pin_nil (n : ByteArray) (w : World) : Calls Try.prog 16 #[.pointer none, .string n] w fun e w' => e = .returned (.tuple #[.int .i64 0, .slice none 0 0, .int .i64 5]) ∧ w = w' := by
  go_enter Try.func16, Try.ntmps16
  go_wp2_with (go_at_call 30; refine (at_nil n _).mono ?_; rintro e w' ⟨rfl, rfl⟩)
  go_ret3
  exact ⟨rfl, rfl⟩
set_option maxHeartbeats 1000000 in
theorem unpin_nil (id : Int) (w : World) : Calls Try.prog 20 #[.pointer none, .int .i64 id] w fun e w' => e = .returned (.bool false) ∧ w = w' := by
  go_enter Try.func20, Try.ntmps20
  go_wp2_with (go_at_call 31; refine (book_nil id _).mono ?_; rintro e w' ⟨rfl, rfl⟩)
  go_ret
  exact ⟨rfl, rfl⟩
set_option maxHeartbeats 1000000 in
theorem refs_nil (id : Int) (w : World) : Calls Try.prog 24 #[.pointer none, .int .i64 id] w fun e w' => e = .returned (.int .i64 0) ∧ w = w' := by
  go_enter Try.func24, Try.ntmps24
  go_wp2_with (go_at_call 31; refine (book_nil id _).mono ?_; rintro e w' ⟨rfl, rfl⟩)
  go_ret
  exact ⟨rfl, rfl⟩
set_option maxHeartbeats 1000000 in
theorem size_nil (id : Int) (w : World) : Calls Try.prog 19 #[.pointer none, .int .i64 id] w fun e w' => e = .returned (.int .i64 0) ∧ w = w' := by
  go_enter Try.func19, Try.ntmps19
  go_wp2_with (go_at_call 31; refine (book_nil id _).mono ?_; rintro e w' ⟨rfl, rfl⟩)
  go_ret
  exact ⟨rfl, rfl⟩
set_option maxHeartbeats 1000000 in
theorem bytes_nil (w : World) : Calls Try.prog 17 #[.pointer none] w fun e w' => e = .returned (.int .i64 0) ∧ w = w' := by
  go_enter Try.func17, Try.ntmps17
  go_wp2
  go_ret
  exact ⟨rfl, rfl⟩

/-! ### bytes that are written out -/
/-- A block of bytes, written out, as a slice. -/
theorem lit_own (w : World) (l : List UInt8) (cells : Array Value) (hc : cells = (l.map u8c).toArray) (fr : Nat × Nat) (hfr : fr = (0, 0) ∨ cells.size ≤ fr.1) (n : Nat) (hn : n = l.length) (hb : l.length ≤ 140737488355328) :
    OwnR (w.alloc (.cells cells 5 fr)) 5 1 (.slice (some ⟨w.heap.size, 0, none⟩) n n) n (l.map u8c) := by
  subst hc; subst hn
  refine ⟨by simp, .inr ⟨_, _, _, fr, rfl, alloc_at w _, hfr, Nat.le_refl _, by unfold maxLen; omega, by simp, by simp [List.take_of_length_le]⟩⟩
theorem ShelfAt.kp {F G : Nat → Prop} {w w' : World} {s : Nat} {S : Shs} (h : ShelfAt F w s S) (hk : Kp G w w') (hd : ∀ i, F i → ¬ G i) : ShelfAt F w' s S := by
  obtain ⟨bm, nm, bl, h, hb⟩ := h
  exact ⟨bm, nm, bl, h.kp hk hd, hb⟩
theorem ShelfAt.fin {F : Nat → Prop} {w : World} {s : Nat} {S : Shs} (h : ShelfAt F w s S) : ∀ i, F i → i < w.heap.size := by
  obtain ⟨bm, nm, bl, h, hb⟩ := h
  exact h.fin
def sh0 : Shs := ⟨0, [], []⟩
theorem sh0_ok : sh0.Ok := ⟨(fun _ _ h => by cases h), (fun _ _ _ h => by cases h), (fun _ _ h => by cases h)⟩
def nameA : ByteArray := ⟨#[97]⟩
def mdicx : List UInt8 := [77, 68, 73, 67, 120]
def sh1 : Shs := (sh0.load nameA mdicx).1
theorem pfx_of {s p : ByteArray} (h : p.data.toList <+: s.data.toList) : pfx s p = true := by
  unfold pfx
  have hl := h.length_le
  have h1 : p.size ≤ s.size := hl
  simp only [h1, decide_true, Bool.true_and]
  have e : (s.extract 0 p.size).toList = p.toList := by
    rw [ByteArray.toList_eq, ByteArray.toList_eq, Lib.extract_data]
    have h2 := List.prefix_iff_eq_take.1 h
    have h3 : p.data.toList.length = p.size := rfl
    rw [h3] at h2
    simpa using h2.symm
  rw [e]; simp
theorem isS_ok {n : ByteArray} {l : List UInt8} (h0 : n.size ≠ 0) (h1 : n.size ≤ 12) (hp : mdic.data.toList <+: l) (h5 : 5 ≤ l.length) (h6 : l.length ≤ 2004) : isS n l = 0 := by
  unfold isS
  rw [if_neg (by omega), if_neg]
  rw [pfx_of (s := ⟨l.toArray⟩) (by simpa using hp)]
  simp; omega
theorem sh0_load (n : ByteArray) (l : List UInt8) (h : isS n l = 0) : sh0.load n l = (⟨1, [(1, ⟨l.drop 4, true, 0⟩)], [(n, 1)]⟩, 1, 0, 0) := by
  unfold Shs.load
  rw [if_pos h]
  rfl
theorem is_n (name : ByteArray) (a : Option Addr) (n cap : Nat) (l : List UInt8) (w : World) (h : SlR w 1 (.slice a n cap) n (l.map u8c)) (hn : name.size ≤ 9223372036854775807) (hb : l.length ≤ 140737488355328) :
    Calls Try.prog 12 #[.string name, .slice a n cap] w fun e w' => e = .returned (.int .i64 (isS name l)) ∧ w = w' := by
  obtain rfl : n = l.length := by have := h.1; simpa using this.symm
  exact is_any name a cap l w h hn hb
theorem load_n {F : Nat → Prop} {s : Nat} (S : Shs) (hok : S.Ok) (hlast : S.last < 4611686018427387904) (nm : ByteArray) (a : Option Addr) (n cap : Nat) (l : List UInt8) (w : World) (h : ShelfAt F w s S)
    (hb : SlR w 1 (.slice a n cap) n (l.map u8c)) (hF : ∀ b, (Value.slice a n cap).ownBlock = some b → ¬ F b) (hn : nm.size ≤ 9223372036854775807) (hl : l.length ≤ 140737488355328) :
    Calls Try.prog 15 #[.pointer (some ⟨s, 0, none⟩), .string nm, .slice a n cap] w (LoadPost F w s S nm l) := by
  obtain rfl : n = l.length := by have := hb.1; simpa using this.symm
  exact load_any S hok hlast nm a cap l w h hb hF hn hl
def KnownPost (w : World) (e : Ending) (w' : World) : Prop := e = .returned (.bool true) ∧ Kp (fun _ => False) w w'
def shx : Shs := ⟨1, [(1, ⟨[120], true, 0⟩)], [(nameA, 1)]⟩
theorem lit_byt (w : World) (l : List UInt8) (cells : Array Value) (hc : cells = (l.map u8c).toArray) (fr : Nat × Nat) (hfr : fr = (0, 0) ∨ cells.size ≤ fr.1) (n : Nat) (hn : n = l.length) (hb : l.length ≤ 140737488355328) :
    Byt (w.alloc (.cells cells 5 fr)) (.slice (some ⟨w.heap.size, 0, none⟩) n n) l := by
  have := (lit_own w l cells hc fr hfr n hn hb).sl
  subst hn; exact this
set_option maxHeartbeats 1000000 in
theorem known_any (w : World) : Calls Try.prog 13 #[] w (KnownPost w) := by
  have kc := fun (w : World) (C : Array Value) (n c : Nat) => Lib.run_convert_bytes_const (P := Try.prog) w 22 5 C n c Try.underlying22 Try.underlying5
  have hi : isS nameA mdicx = 0 := isS_ok (by decide) (by decide) (by decide) (by decide) (by decide)
  have HL := Lib.hid (sh0_load nameA mdicx hi)
  have hI : isS nameA [120] = 4 := by decide
  have hB : shx.bytes = 1 := rfl
  have hS : shx.size 1 = 1 := by decide
  clear hi
  go_enter Try.func13, Try.ntmps13
  go_wp2_with fail
  refine (new_any _).mono ?_
  rintro e w1 ⟨s, rfl, h1, k1⟩
  have f1 : ∀ i, (w.heap.size ≤ i ∧ i < w.heap.size + 3) → i < w.heap.size → False := fun i h q => by omega
  go_wp2_with fail
  have ka := (Kp.refl (fun _ => False) w1).alloc (.cells #[.int .u8 77, .int .u8 68, .int .u8 73, .int .u8 67, .int .u8 120] 5 (5, 6))
  refine (load_any sh0 sh0_ok (by decide) nameA (some ⟨w1.heap.size, 0, none⟩) 5 mdicx _ (h1.kp ka (fun _ _ q => q)) (lit_byt w1 mdicx _ rfl (5, 6) (.inr (Nat.le_refl _)) 5 rfl (by decide)) (fun b hb hf => by cases hb; have := h1.fin _ hf; simp at this) (by decide) (by decide)).mono ?_
  rintro e w2 ⟨he, F2, h2, k2, f2⟩
  rw [HL.out] at he h2
  subst he
  have h2' : ShelfAt F2 w2 s shx := h2
  clear h2 h1
  go_wp2_with fail
  refine (bytes_any shx (by rw [hB]; decide) _ h2').mono ?_
  rintro e w3 ⟨rfl, k3⟩
  have h3 := h2'.kp k3 (fun _ _ q => q)
  go_wp2_with fail
  refine (size_any shx 1 _ h3).mono ?_
  rintro e w4 ⟨rfl, rfl⟩
  go_wp2_with fail
  refine (is_any nameA (some ⟨w3.heap.size, 0, none⟩) 1 [120] _ (lit_byt w3 [120] _ rfl (1, 2) (.inr (Nat.le_refl _)) 1 rfl (by decide)) (by decide) (by decide)).mono ?_
  rintro e w5 ⟨rfl, rfl⟩
  go_wp2_with fail
  go_ret
  exact ⟨rfl, ((((k1.alloc _).trans2 k2 (fun i hi hf => (f1 i hf hi)))).trans k3).alloc _⟩
end Go.Proofs.Ytnjkchbombjemaa.Sh
