/- The walks of shelf's exported functions. -/
import Derived.Test.YtnjkchbombjemaaShelfP
import Derived.Deep.RegionHeld3
namespace Go.Proofs.Ytnjkchbombjemaa.Sh
open Go Go.RowKit Go.ChangeMaps Go.MapKept Go.Mg

/-! ### strings.HasPrefix -/
set_option maxHeartbeats 400000 in
theorem pfx0_any (s p : ByteArray) (w : World) (_ : s.size ≤ 9223372036854775807) (_ : p.size ≤ 9223372036854775807) : Calls Try.prog 39 #[.string s, .string p] w fun e w' => e = .returned (.bool (pfx s p)) ∧ w = w' := by
  by_cases h : p.size ≤ s.size
  · have H := Lib.hid (show pfx s p = ((s.extract 0 p.size).toList == p.toList) by unfold pfx; simp [h])
    have h1 : decide ((p.size : Int) ≤ (s.size : Int)) = true := by simp; omega
    go_enter Try.func39, Try.ntmps39
    go_wp2
    go_ret
    exact ⟨by rw [H.out]; rfl, rfl⟩
  · have H := Lib.hid (show pfx s p = false by unfold pfx; simp [h])
    have h1 : decide ((p.size : Int) ≤ (s.size : Int)) = false := by simp; omega
    go_enter Try.func39, Try.ntmps39
    go_wp2
    go_ret
    exact ⟨by rw [H.out]; rfl, rfl⟩
set_option maxHeartbeats 400000 in
theorem pfx_any (s p : ByteArray) (w : World) (hs : s.size ≤ 9223372036854775807) (hp : p.size ≤ 9223372036854775807) : Calls Try.prog 27 #[.string s, .string p] w fun e w' => e = .returned (.bool (pfx s p)) ∧ w = w' := by
  go_enter Try.func27, Try.ntmps27
  go_wp2_with (go_at_call 39; refine (pfx0_any s p _ hs hp).mono ?_; rintro e w' ⟨rfl, rfl⟩)
  go_ret
  exact ⟨rfl, rfl⟩

/-! ### a byte slice as a string -/
theorem strOf {w : World} {a : Option Addr} {n cap : Nat} {l : List UInt8} (h : SlR w 1 (.slice a n cap) l.length (l.map u8c)) : (convert 22 9 (.slice a n cap)).run Try.prog w = .ok (.string ⟨l.toArray⟩) w := by
  obtain ⟨h0, a', c', e, h1, h2, h3, h4⟩ := h
  simp only [Value.slice.injEq] at e
  obtain ⟨rfl, rfl, rfl⟩ := e
  by_cases hl : 0 < l.length
  · obtain ⟨g, off, rfl, hg, hc⟩ := h4 hl
    have := run_convert_bytes_arg (P := Try.prog) w 22 5 Try.underlying22 Try.underlying5 g off l.length cap (l.map fun b => (b.toNat : Int)) (by simp) (fun i hi => by
      rw [hc i (u8c l[i]) (by simp [hi])]
      simp [u8c, List.getD, hi]) 9 Try.underlying9
    rw [this]
    simp only [strOfNums, List.map_map]
    congr 3
    have : ((fun n : Int => UInt8.ofNat n.toNat) ∘ fun b : UInt8 => (b.toNat : Int)) = id := by funext b; simp
    rw [this, List.map_id]
  · have : l = [] := List.eq_nil_of_length_eq_zero (by omega)
    subst this
    cases a with
    | none => exact run_convert_bytes_nil (P := Try.prog) w 22 5 Try.underlying22 Try.underlying5 _ _ 9 Try.underlying9
    | some ad =>
      rw [run_convert_bytes_string w 22 9 5 (some ad) _ cap Try.underlying22 Try.underlying5 Try.underlying9]
      simp [Conv.bytesToString, loadCells, loadCellsFrom]
      rfl

/-! ### Is -/
theorem empty_of {s : ByteArray} (h : s.size = 0) : s.toList.isEmpty = true := by
  rw [ByteArray.toList_eq]
  exact List.isEmpty_iff.2 (List.eq_nil_of_length_eq_zero h)
theorem nonempty_of {s : ByteArray} (h : s.size ≠ 0) : s.toList.isEmpty = false := by
  rw [ByteArray.toList_eq]
  have : s.data.toList.length ≠ 0 := h
  cases hl : s.data.toList with
  | nil => rw [hl] at this; exact absurd rfl this
  | cons a b => rfl
set_option maxHeartbeats 400000 in
theorem is_any (name : ByteArray) (a : Option Addr) (cap : Nat) (l : List UInt8) (w : World) (h : Byt w (.slice a l.length cap) l) (hn : name.size ≤ 9223372036854775807) (hb : l.length ≤ 140737488355328) :
    Calls Try.prog 12 #[.string name, .slice a l.length cap] w fun e w' => e = .returned (.int .i64 (isS name l)) ∧ w = w' := by
  by_cases h1 : name.size = 0
  · have H := Lib.hid (show isS name l = 1 by unfold isS; rw [if_pos (.inl h1)])
    have h2 := empty_of h1
    clear h1
    go_enter Try.func12, Try.ntmps12
    go_wp2
    go_ret
    exact ⟨by rw [H.out]; rfl, rfl⟩
  have h2 := nonempty_of h1
  by_cases h3 : 12 < name.size
  · have H := Lib.hid (show isS name l = 1 by unfold isS; rw [if_pos (.inr h3)])
    have h4 : decide ((12 : Int) < (name.size : Int)) = true := by simp; omega
    clear h1 h3
    go_enter Try.func12, Try.ntmps12
    go_wp2
    go_ret
    exact ⟨by rw [H.out]; rfl, rfl⟩
  have hc := strOf h
  have h4 : decide ((12 : Int) < (name.size : Int)) = false := by simp; omega
  have hd : isS name l = if pfx ⟨l.toArray⟩ mdic = false ∨ l.length < 5 ∨ 2004 < l.length then 4 else 0 := by unfold isS; rw [if_neg (by omega)]
  have HD := Lib.hid hd
  clear hd h1 h3
  have hsz : (⟨l.toArray⟩ : ByteArray).size ≤ 9223372036854775807 := by show l.toArray.size ≤ _; simp; omega
  cases hp : pfx ⟨l.toArray⟩ mdic with
  | false =>
    have H := Lib.hid (show isS name l = 4 by rw [HD.out, if_pos (.inl hp)])
    have Hp := Lib.hid hp; clear hp
    go_enter Try.func12, Try.ntmps12
    go_wp2_with (go_at_call 27; refine (pfx_any _ _ _ hsz (by decide)).mono ?_; rw [show (⟨#[77, 68, 73, 67]⟩ : ByteArray) = mdic from rfl, Hp.out]; rintro e w' ⟨rfl, rfl⟩)
    go_ret
    exact ⟨by rw [H.out]; rfl, rfl⟩
  | true =>
    have Hp := Lib.hid hp; clear hp
    by_cases h5 : l.length < 5
    · have H := Lib.hid (show isS name l = 4 by rw [HD.out, if_pos (.inr (.inl h5))])
      have h6 : decide ((l.length : Int) - 4 < 1) = true := by simp; omega
      go_enter Try.func12, Try.ntmps12
      go_wp2_with (go_at_call 27; refine (pfx_any _ _ _ hsz (by decide)).mono ?_; rw [show (⟨#[77, 68, 73, 67]⟩ : ByteArray) = mdic from rfl, Hp.out]; rintro e w' ⟨rfl, rfl⟩)
      go_ret
      exact ⟨by rw [H.out]; rfl, rfl⟩
    by_cases h7 : 2004 < l.length
    · have H := Lib.hid (show isS name l = 4 by rw [HD.out, if_pos (.inr (.inr h7))])
      have h6 : decide ((l.length : Int) - 4 < 1) = false := by simp; omega
      have h8 : decide (2000 < (l.length : Int) - 4) = true := by simp; omega
      go_enter Try.func12, Try.ntmps12
      go_wp2_with (go_at_call 27; refine (pfx_any _ _ _ hsz (by decide)).mono ?_; rw [show (⟨#[77, 68, 73, 67]⟩ : ByteArray) = mdic from rfl, Hp.out]; rintro e w' ⟨rfl, rfl⟩)
      go_ret
      exact ⟨by rw [H.out]; rfl, rfl⟩
    have H := Lib.hid (show isS name l = 0 by rw [HD.out, if_neg (by rw [Hp.out]; simp; omega)])
    have h6 : decide ((l.length : Int) - 4 < 1) = false := by simp; omega
    have h8 : decide (2000 < (l.length : Int) - 4) = false := by simp; omega
    go_enter Try.func12, Try.ntmps12
    go_wp2_with (go_at_call 27; refine (pfx_any _ _ _ hsz (by decide)).mono ?_; rw [show (⟨#[77, 68, 73, 67]⟩ : ByteArray) = mdic from rfl, Hp.out]; rintro e w' ⟨rfl, rfl⟩)
    go_ret
    exact ⟨by rw [H.out]; rfl, rfl⟩

/-! ### Load -/
def LoadPost (F : Nat → Prop) (w : World) (s : Nat) (S : Shs) (n : ByteArray) (l : List UInt8) (e : Ending) (w' : World) : Prop :=
  e = .returned (.tuple #[.int .i64 (S.load n l).2.1, .int .i64 (S.load n l).2.2.1, .int .i64 (S.load n l).2.2.2]) ∧ ∃ F', ShelfAt F' w' s (S.load n l).1 ∧ Kp F w w' ∧ (∀ i, F' i → F i ∨ w.heap.size ≤ i)

theorem ShelfRaw.cell0 {F : Nat → Prop} {w : World} {s bm nm last : Nat} {bl : List (Int × (Nat × Bk))} {names : List (ByteArray × Int)} (h : ShelfRaw F w s bm nm last bl names) : w.cell? ⟨s, 0, none⟩ = some (.map (some bm)) := by rw [cell_of h.hs]; rfl
theorem ShelfRaw.cell1 {F : Nat → Prop} {w : World} {s bm nm last : Nat} {bl : List (Int × (Nat × Bk))} {names : List (ByteArray × Int)} (h : ShelfRaw F w s bm nm last bl names) : w.cell? ⟨s, 1, none⟩ = some (.map (some nm)) := by rw [cell_of h.hs]; rfl
theorem ShelfRaw.cell2 {F : Nat → Prop} {w : World} {s bm nm last : Nat} {bl : List (Int × (Nat × Bk))} {names : List (ByteArray × Int)} (h : ShelfRaw F w s bm nm last bl names) : w.cell? ⟨s, 2, none⟩ = some (.int .i64 last) := by rw [cell_of h.hs]; rfl
theorem ShelfRaw.free {F : Nat → Prop} {w : World} {s bm nm last : Nat} {bl : List (Int × (Nat × Bk))} {names : List (ByteArray × Int)} (h : ShelfRaw F w s bm nm last bl names) (i : Nat) : w.frozen? ⟨s, i, none⟩ = false := free_of h.hs i
theorem le_of_retires (S : Shs) (n : ByteArray) (h : S.last < 4611686018427387904) : (S.retires n).1.last < 4611686018427387904 := by rw [retires_last]; exact h

theorem four_le {n : ByteArray} {l : List UInt8} (h : isS n l = 0) : 4 ≤ l.length := by have := len_of_is h; omega
theorem hb4' {w : World} {a : Option Addr} {n c : Nat} {l : List UInt8} (h : SlR w 1 (.slice a (n - 4) c) (n - 4) ((l.map u8c).drop (4 * 1))) : SlR w.drew 1 (.slice a (n - 4) c) (n - 4) ((l.drop 4).map u8c) := by
  rw [Nat.mul_one, ← List.map_drop] at h
  exact h
theorem load_mid {w2 w3 : World} {s bm1 : Nat} {bl1 : List (Int × (Nat × Bk))} {last : Int} (hne : bm1 ≠ s) (hsz : s < w2.heap.size) (hm2 : MapAt w2 (.int .i64) (Value.int .i64) bev bm1 bl1) (hk3 : Kp (fun _ => False) w2.drew w3)
    (d0 : w2.cell? ⟨s, 0, none⟩ = some (.map (some bm1))) (d2 : w2.cell? ⟨s, 2, none⟩ = some (.int .i64 last)) (dv : Value) (data : List UInt8) :
    MapAt w3 (.int .i64) (Value.int .i64) bev bm1 bl1 ∧ w3.cell? ⟨s, 0, none⟩ = some (.map (some bm1)) ∧ w3.cell? ⟨s, 2, none⟩ = some (.int .i64 last) ∧ s ≠ w3.heap.size ∧
    ∃ w4, (Instr.mapUpdate 56 (.map (some bm1)) (.int .i64 last) (.pointer (some ⟨w3.heap.size, 0, none⟩))).run Try.prog (w3.alloc (.cells #[dv, .bool true, .int .i64 0] 64)) = .ok () w4 ∧
      MapAt w4 (.int .i64) (Value.int .i64) bev bm1 (AL.put bl1 last (w3.heap.size, ⟨data, true, 0⟩)) ∧ Kp (· = bm1) (w3.alloc (.cells #[dv, .bool true, .int .i64 0] 64)) w4 ∧ w4.heap.size = w3.heap.size + 1 ∧
      w4.cell? ⟨s, 0, none⟩ = some (.map (some bm1)) ∧ w4.cell? ⟨s, 2, none⟩ = some (.int .i64 last) := by
  have hm3 := MapAt.kp (w := w2.drew) hm2 hk3 (fun q => q)
  have e0 := (hk3.cell (p := ⟨s, 0, none⟩) hsz (fun q => q)).trans d0
  have e2 := (hk3.cell (p := ⟨s, 2, none⟩) hsz (fun q => q)).trans d2
  have hs3 : s < w3.heap.size := Nat.lt_of_lt_of_le hsz hk3.size
  have ka : Kp (fun _ => False) w3 (w3.alloc (.cells #[dv, .bool true, .int .i64 0] 64)) := (Kp.refl _ _).alloc _
  obtain ⟨w4, hrun, h5, h6, h7⟩ := (hm3.kp ka (fun q => q)).store (P := Try.prog) key_int Try.underlying56 Try.underlying3 last (w3.heap.size, ⟨data, true, 0⟩)
  refine ⟨hm3, e0, e2, by omega, w4, hrun, h5, h6, by simpa using h7, ?_, ?_⟩
  · exact (h6.cell (p := ⟨s, 0, none⟩) (by simp; omega) (fun q => hne q.symm)).trans ((ka.cell (p := ⟨s, 0, none⟩) hs3 (fun q => q)).trans e0)
  · exact (h6.cell (p := ⟨s, 2, none⟩) (by simp; omega) (fun q => hne q.symm)).trans ((ka.cell (p := ⟨s, 2, none⟩) hs3 (fun q => q)).trans e2)
theorem le_drop {n : ByteArray} {l : List UInt8} (h : isS n l = 0) : (l.drop 4).length ≤ 2000 := by have := len_of_is h; simp; omega
theorem retires_pos {S : Shs} (h : S.Ok) (n : ByteArray) : AL.get (S.retires n).1.books ((S.retires n).1.last + 1) = none := by
  cases hg : AL.get (S.retires n).1.books ((S.retires n).1.last + 1) with
  | none => rfl
  | some k => have := (retires_ok h n).pos _ _ hg; omega
theorem load_names {F : Nat → Prop} {w1 w2 w3 w4 : World} {s bm nm L : Nat} {bl : List (Int × (Nat × Bk))} {N : List (ByteArray × Int)} (h : ShelfRaw F w1 s bm nm L bl N) (k2 : Kp (· = s) w1 w2) (k3 : Kp (fun _ => False) w2.drew w3) {o : Obj} (k4 : Kp (· = bm) (w3.alloc o) w4) :
    MapAt w4.drew .string Value.string (Value.int .i64) nm N := by
  have m2 := h.names.kp k2 (fun e => by obtain ⟨es, c, hm⟩ := h.names.isMap; have := h.hs; rw [← e, hm] at this; cases this)
  have m3 := MapAt.kp (w := w2.drew) m2 k3 (fun q => q)
  have m4 := m3.kp ((Kp.refl (fun _ => False) w3).alloc o) (fun q => q)
  exact MapAt.drew (m4.kp k4 (fun e => h.ne (Eq.symm e)))
/-- What a Load leaves. -/
theorem load_end {F : Nat → Prop} {w1 w2 w3 w4 w5 : World} {s bm nm L : Nat} {bl : List (Int × (Nat × Bk))} {N N' : List (ByteArray × Int)} (h : ShelfRaw F w1 s bm nm L bl N) {B : List (Int × Bk)} (hB : B = absB bl) (hnone : AL.get B ((L : Int) + 1) = none)
    {data : List UInt8} (hd : data.length ≤ 2000) (k2 : Kp (· = s) w1 w2) (hs2 : w2.heap[s]? = some (.cells ((#[.map (some bm), .map (some nm), .int .i64 L] : Array Value).setIfInBounds 2 (.int .i64 ((L : Int) + 1))) 59 (0, 0))) (k3 : Kp (fun _ => False) w2.drew w3)
    {dv : Value} {m : Nat} (ho3 : OwnR w3 5 1 dv m (data.map u8c)) (hv3 : ∀ b, dv.ownBlock = some b → w2.drew.heap.size ≤ b)
    (h5 : MapAt w4 (.int .i64) (Value.int .i64) bev bm (AL.put bl ((L : Int) + 1) (w3.heap.size, ⟨data, true, 0⟩))) (k4 : Kp (· = bm) (w3.alloc (.cells #[dv, .bool true, .int .i64 0] 64)) w4)
    (g5 : MapAt w5 .string Value.string (Value.int .i64) nm N') (k5 : Kp (· = nm) w4.drew w5) :
    ShelfRaw (fun i => F i ∨ (w1.heap.size ≤ i ∧ i < w5.heap.size)) w5 s bm nm (L + 1) (AL.put bl ((L : Int) + 1) (w3.heap.size, ⟨data, true, 0⟩)) N' ∧ Kp F w1 w5 ∧ w4.cell? ⟨s, 1, none⟩ = some (.map (some nm)) := by
  obtain ⟨es, ck, hbm⟩ := h.books.isMap
  obtain ⟨es', ck', hnm⟩ := h.names.isMap
  have nsb : s ≠ bm := fun e => by have := h.hs; rw [e, hbm] at this; cases this
  have nsn : s ≠ nm := fun e => by have := h.hs; rw [e, hnm] at this; cases this
  have l1 : s < w1.heap.size := lt_of_at h.hs
  have lb1 : bm < w1.heap.size := lt_of_at hbm
  have ln1 : nm < w1.heap.size := lt_of_at hnm
  have s12 : w1.heap.size ≤ w2.heap.size := k2.size
  have s23 : w2.heap.size ≤ w3.heap.size := k3.size
  have k3' : Kp (fun _ => False) w2 w3 := (Kp.refl _ w2).drew.trans k3
  have ka : Kp (fun _ => False) w3 (w3.alloc (.cells #[dv, .bool true, .int .i64 0] 64)) := (Kp.refl _ _).alloc _
  have k34 : Kp (· = bm) w3 w4 := (ka.mono (fun i _ e => False.elim e)).trans2 k4 (fun i hi e => e)
  have s34 : w3.heap.size + 1 ≤ w4.heap.size := by have := k4.size; simpa using this
  have k5' : Kp (· = nm) w4 w5 := (Kp.refl _ w4).drew.trans k5
  -- the Shelf's own cells
  have hs3 := k3'.at_ hs2 (fun q => q)
  have hs4 := k34.at_ hs3 nsb
  have hs5 := k5'.at_ hs4 nsn
  -- what was there and isn't s, bm, nm
  have old : ∀ i, i < w1.heap.size → i ≠ s → i ≠ bm → i ≠ nm → w5.heap[i]? = w1.heap[i]? := fun i hi a b c =>
    (k5'.block i (by omega) c).trans ((k34.block i (by omega) b).trans ((k3'.block i (by omega) (fun q => q)).trans (k2.block i hi a)))
  have hnew4 : w4.heap[w3.heap.size]? = some (.cells #[dv, .bool true, .int .i64 0] 64 (0, 0)) := k4.at_ (alloc_at w3 _) (fun e => by omega)
  have hnew5 := k5'.at_ hnew4 (fun e => by omega)
  have hgn : AL.get bl ((L : Int) + 1) = none := by
    rw [hB, get_abs] at hnone
    cases hq : AL.get bl ((L : Int) + 1) with
    | none => rfl
    | some x => rw [hq] at hnone; cases hnone
  have hput := AL.put_of_none (l := bl) (k := (L : Int) + 1) (w3.heap.size, (⟨data, true, 0⟩ : Bk)) hgn
  have eachlt : ∀ p ∈ bl, p.2.1 < w1.heap.size := fun p hp => by obtain ⟨_, _, dv', hd', _⟩ := h.each p hp; exact lt_of_at hd'
  have s45 : w4.heap.size ≤ w5.heap.size := k5'.size
  refine ⟨⟨?_, h.ne, h5.kp k5' h.ne, g5, ?_, ?_, .inl h.fs, .inl h.fb, .inl h.fn, fun i hi => ?_⟩, ?_, ?_⟩
  · rw [hs5]; simp
  · intro p hp
    rw [hput] at hp
    rcases List.mem_append.1 hp with hp | hp
    · obtain ⟨f1, f2, dv', f3, f4, f5⟩ := h.each p hp
      have nb : ∀ b c, w1.heap[p.2.1]? = some (.map b c) → False := fun b c e => by rw [e] at f3; cases f3
      have ho : w5.heap[p.2.1]? = w1.heap[p.2.1]? := old _ (lt_of_at f3) (fun e => by have := h.hs; rw [← e, f3] at this; cases this) (fun e => nb _ _ (e ▸ hbm)) (fun e => nb _ _ (e ▸ hnm))
      refine ⟨.inl f1, f2, dv', ho.trans f3, f4.kept (fun g hg hl => ?_), fun g hg => .inl (f5 g hg)⟩
      have : ∃ cur cap fr, w1.heap[g]? = some (.cells cur 5 fr) ∧ cap = cur.size := by
        rcases f4.2 with ⟨e, _⟩ | ⟨g', cap, cur, fr, e, hg', _⟩
        · rw [e] at hg; cases hg
        · rw [e] at hg; cases hg; exact ⟨cur, _, fr, hg', rfl⟩
      obtain ⟨cur, _, fr, hgc, _⟩ := this
      exact old g hl (fun e => by have := h.hs; rw [← e, hgc] at this; cases this) (fun e => by rw [← e, hgc] at hbm; cases hbm) (fun e => by rw [← e, hgc] at hnm; cases hnm)
    · have : p = ((L : Int) + 1, (w3.heap.size, (⟨data, true, 0⟩ : Bk))) := by simpa using hp
      subst this
      have hlen : m = data.length := by have := ho3.1; simpa using this.symm
      subst hlen
      refine ⟨.inr ⟨by show w1.heap.size ≤ w3.heap.size; omega, by show w3.heap.size < w5.heap.size; omega⟩, hd, dv, hnew5, ?_, fun g hg => .inr ?_⟩
      · refine ho3.kept (fun g hg hl => ?_)
        have hv := hv3 g hg
        have hv' : w2.heap.size ≤ g := hv
        rw [k5'.block g (by omega) (by omega), k34.block g hl (by omega)]
      · have hv := hv3 g hg
        have hv' : w2.heap.size ≤ g := hv
        have hv'' := ho3.lt hg
        omega
  · rw [hput, List.map_append]
    refine List.nodup_append.2 ⟨h.nod, by simp, fun x hx y hy => ?_⟩
    obtain ⟨p, hp, rfl⟩ := List.mem_map.1 hx
    simp only [List.map_cons, List.map_nil, List.mem_singleton] at hy
    have := eachlt p hp
    omega
  · rcases hi with hi | hi
    · have := h.fin i hi; omega
    · exact hi.2
  · exact (((k2.mono (fun i _ e => by rw [e]; exact h.fs)).trans2 k3' (fun i _ e => False.elim e)).trans2 k34 (fun i _ e => by rw [e]; exact h.fb)).trans2 k5' (fun i _ e => by rw [e]; exact h.fn)
  · rw [cell_of hs4]; rfl
set_option maxHeartbeats 1000000 in
theorem load_any {F : Nat → Prop} {s : Nat} (S : Shs) (hok : S.Ok) (hlast : S.last < 4611686018427387904) (n : ByteArray) (a : Option Addr) (cap : Nat) (l : List UInt8) (w : World) (h : ShelfAt F w s S)
    (hb : Byt w (.slice a l.length cap) l) (hF : ∀ b, (Value.slice a l.length cap).ownBlock = some b → ¬ F b) (hn : n.size ≤ 9223372036854775807) (hl : l.length ≤ 140737488355328) :
    Calls Try.prog 15 #[.pointer (some ⟨s, 0, none⟩), .string n, .slice a l.length cap] w (LoadPost F w s S n l) := by
  by_cases hi : isS n l = 0
  · have Hi := Lib.hid hi
    clear hi
    have h0 : (0 : Int) == 0 := by decide
    go_enter Try.func15, Try.ntmps15
    go_wp2_with (first | (go_at_call 12; refine (is_any n a cap l _ hb hn hl).mono ?_; rw [Hi.out]; rintro e w' ⟨rfl, rfl⟩) | (go_at_call 28; refine (retires_any S hok n _ h).mono ?_; rintro e w1 ⟨rfl, h1, h2⟩; obtain ⟨bm1, nm1, bl1, hr1, hb1⟩ := h1; have c2 := hr1.cell2; have f2 := hr1.free 2; have hlast1 := le_of_retires S n hlast; go_frame))
    have k2 : Kp (· = s) w1 (w1.setCell ⟨s, 2, none⟩ (.int .i64 (((S.retires n).1.last : Int) + 1))) := (Kp.refl (· = s) w1).setCell (p := ⟨s, 2, none⟩) (fun _ => rfl) _
    have hs2 := setCell_at (i := 2) hr1.hs (.int .i64 (((S.retires n).1.last : Int) + 1))
    obtain ⟨w2, hw2⟩ : ∃ w2, w2 = w1.setCell ⟨s, 2, none⟩ (.int .i64 (((S.retires n).1.last : Int) + 1)) := ⟨_, rfl⟩
    rw [← hw2] at k2 hs2 ⊢
    have hb2 : Byt w2 (.slice a l.length cap) l := by
      refine (hb.kp h2 hF).kp k2 (fun b hb e => ?_)
      subst e; exact hF _ hb h.choose_spec.choose_spec.choose_spec.1.fs
    clear hw2
    obtain ⟨a4, c4, hsl, hb4, hob⟩ := hb2.from_ (P := Try.prog) (k := 4) Try.underlying22 (by kernel_rfl) (four_le Hi.out)
    have hsl4 : ∀ w', (Instr.slice 22 (.slice a l.length cap) (some (.int .i64 4)) none none).run Try.prog w' = .ok (.slice a4 (l.length - 4) c4) w' := hsl
    clear hsl
    have d0 : w2.cell? ⟨s, 0, none⟩ = some (.map (some bm1)) := by rw [cell_of hs2]; rfl
    have d2 : w2.cell? ⟨s, 2, none⟩ = some (.int .i64 (((S.retires n).1.last : Int) + 1)) := by rw [cell_of hs2]; rfl
    clear c2 f2 h0
    have hne1 : bm1 ≠ s := fun e => by obtain ⟨es, c, hm⟩ := hr1.books.isMap; have := hr1.hs; rw [← e, hm] at this; cases this
    have hm2 := hr1.books.kp k2 hne1
    have hsz : s < w2.heap.size := lt_of_at hs2
    have hlen : l.length - 4 ≤ 140737488355328 := by omega
    go_region_held3 (fun w' => w'.cell? ⟨s, 0, none⟩ = some (.map (some bm1)) ∧ w'.cell? ⟨s, 2, none⟩ = some (.int .i64 (((S.retires n).1.last : Int) + 1))) (go_keep) ((go_at_call 29; refine (clone_any a4 (l.length - 4) c4 (l.drop 4) w2.drew (hb4' hb4) hlen).mono ?_; rintro e w3 ⟨a3, c3, rfl, ho3, hk3, hv3⟩; obtain ⟨hm3, e0, e2, e3, w4, hrun, h5, h6, h7, e4, e5⟩ := load_mid hne1 hsz hm2 hk3 d0 d2 (.slice a3 (l.length - 4) c3) (l.drop 4)))
    obtain ⟨w5, hrun2, g5, g6, g7⟩ := (load_names hr1 k2 hk3 h6).store (P := Try.prog) key_string Try.underlying57 Try.underlying9 n (((S.retires n).1.last : Int) + 1)
    obtain ⟨hfin, hkp, q1⟩ := load_end hr1 hb1 (retires_pos hok n) (le_drop Hi.out) k2 hs2 hk3 ho3 hv3 h5 h6 g5 g6
    have hm1 : w4.cell? ⟨s, 1, none⟩ = some (.map (some nm1)) := q1
    have hm5 : w5.cell? ⟨s, 1, none⟩ = some (.map (some nm1)) := hfin.cell1
    have hl5 : w5.cell? ⟨s, 2, none⟩ = some (.int .i64 (((S.retires n).1.last : Int) + 1)) := hfin.cell2
    clear hrun hm2 hm3
    go_wp2
    go_region_held3 (fun w' => w'.cell? ⟨s, 1, none⟩ = some (.map (some nm1)) ∧ w'.cell? ⟨s, 2, none⟩ = some (.int .i64 (((S.retires n).1.last : Int) + 1))) (go_keep) (fail)
    go_wp2
    go_ret3
    refine ⟨?_, fun i => F i ∨ (w1.heap.size ≤ i ∧ i < w5.heap.size), ?_, h2.trans hkp, fun i hi => hi.imp id (fun q => Nat.le_trans h2.size q.1)⟩
    · unfold Shs.load; rw [if_pos Hi.out]; rfl
    · unfold Shs.load; rw [if_pos Hi.out]
      exact ⟨bm1, nm1, _, hfin, by rw [abs_put, hb1]⟩
  · have hS : S.load n l = (S, 0, 0, isS n l) := by unfold Shs.load; rw [if_neg hi]
    have HS := Lib.hid hS
    have hi' : (isS n l == 0) = false := by simpa using hi
    clear hi hS
    go_enter Try.func15, Try.ntmps15
    go_wp2_with (go_at_call 12; refine (is_any n a cap l _ hb hn hl).mono ?_; rintro e w' ⟨rfl, rfl⟩)
    go_ret3
    exact ⟨by rw [HS.out]; rfl, F, by rw [HS.out]; exact h, Kp.refl _ _, fun i hi => .inl hi⟩

/-! ### Retire -/
theorem at_zero {S : Shs} (_ : S.Ok) {n : ByteArray} (h : AL.get S.names n = none) : (AL.get S.names n).getD 0 = 0 := by rw [h]; rfl
def Shs.retire (S : Shs) (n : ByteArray) : Shs × Int × Int := if AL.get S.names n = none then (S, 0, 5) else ((S.retires n).1, (S.retires n).2, 0)
def RetirePost (F : Nat → Prop) (w : World) (s : Nat) (S : Shs) (n : ByteArray) (e : Ending) (w' : World) : Prop :=
  e = .returned (.tuple #[.int .i64 (S.retire n).2.1, .int .i64 (S.retire n).2.2]) ∧ ShelfAt F w' s (S.retire n).1 ∧ Kp F w w'
theorem at_S {F : Nat → Prop} {s : Nat} {S : Shs} (n : ByteArray) (w : World) (h : ShelfAt F w s S) :
    Calls Try.prog 30 #[.pointer (some ⟨s, 0, none⟩), .string n] w fun e w' => e = .returned (.int .i64 ((AL.get S.names n).getD 0)) ∧ w = w' := by
  obtain ⟨bm, nm, bl, h, _⟩ := h
  exact at_any n w h
set_option maxHeartbeats 1000000 in
theorem retire_any {F : Nat → Prop} {s : Nat} (S : Shs) (hok : S.Ok) (n : ByteArray) (w : World) (h : ShelfAt F w s S) :
    Calls Try.prog 18 #[.pointer (some ⟨s, 0, none⟩), .string n] w (RetirePost F w s S n) := by
  cases hg : AL.get S.names n with
  | none =>
    have HS := Lib.hid (show S.retire n = (S, 0, 5) by unfold Shs.retire; rw [if_pos hg])
    have HZ := Lib.hid (at_zero hok hg)
    clear hg
    go_enter Try.func18, Try.ntmps18
    go_wp2_with (go_at_call 30; refine (at_S n _ h).mono ?_; rw [HZ.out]; rintro e w' ⟨rfl, rfl⟩)
    go_ret2
    exact ⟨by rw [HS.out]; rfl, by rw [HS.out]; exact h, Kp.refl _ _⟩
  | some id =>
    have HS := Lib.hid (show S.retire n = ((S.retires n).1, (S.retires n).2, 0) by unfold Shs.retire; rw [if_neg (by rw [hg]; simp)])
    have hid : (((AL.get S.names n).getD 0) == 0) = false := by
      obtain ⟨k, hk, _⟩ := hok.nm n id hg
      have := hok.pos id k hk
      rw [hg]; simp; omega
    clear hg
    go_enter Try.func18, Try.ntmps18
    go_wp2_with (first | (go_at_call 30; refine (at_S n _ h).mono ?_; rintro e w' ⟨rfl, rfl⟩) | (go_at_call 28; refine (retires_any S hok n _ h).mono ?_; rintro e w1 ⟨rfl, h1, h2⟩))
    go_ret2
    exact ⟨by rw [HS.out]; rfl, by rw [HS.out]; exact h1, h2⟩
end Go.Proofs.Ytnjkchbombjemaa.Sh
