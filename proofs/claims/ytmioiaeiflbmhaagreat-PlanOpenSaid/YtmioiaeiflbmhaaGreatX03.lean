/- The walks of shelf's exported functions. The walks of shelf: Pin, Unpin, Refs, Size, Bytes; a nil Shelf. Joining the two least trees till one is left: what comes of it is one; in plain words. What joining keeps, and how long codes become; in plain words. -/
import Derived.Deep.RegionHeld3
import Derived.Lib.SlBytesConst
import Derived.Lib.Strings
import Derived.Test.YtmioiaeiflbmhaaGreatX02
namespace Go.Proofs.YtmioiaeiflbmhaaGreat.Sh
open Go Go.RowKit Go.ChangeMaps Go.MapKept Go.Mg
/-! ### strings.HasPrefix -/
set_option maxHeartbeats 400000 in
theorem pfx0_any (s p : ByteArray) (w : World) (_ : s.size ≤ 9223372036854775807) (_ : p.size ≤ 9223372036854775807) : Calls Tryz.prog 106 #[.string s, .string p] w fun e w' => e = .returned (.bool (pfx s p)) ∧ w = w' := by
  by_cases h : p.size ≤ s.size
  · have H := Lib.hid (show pfx s p = ((s.extract 0 p.size).toList == p.toList) by unfold pfx; simp [h])
    have h1 : decide ((p.size : Int) ≤ (s.size : Int)) = true := by simp; omega
    go_enter Tryz.func106, Tryz.ntmps106
    go_wp2
    go_ret
    exact ⟨by rw [H.out]; rfl, rfl⟩
  · have H := Lib.hid (show pfx s p = false by unfold pfx; simp [h])
    have h1 : decide ((p.size : Int) ≤ (s.size : Int)) = false := by simp; omega
    go_enter Tryz.func106, Tryz.ntmps106
    go_wp2
    go_ret
    exact ⟨by rw [H.out]; rfl, rfl⟩
set_option maxHeartbeats 400000 in
theorem pfx_any (s p : ByteArray) (w : World) (hs : s.size ≤ 9223372036854775807) (hp : p.size ≤ 9223372036854775807) : Calls Tryz.prog 89 #[.string s, .string p] w fun e w' => e = .returned (.bool (pfx s p)) ∧ w = w' := by
  go_enter Tryz.func89, Tryz.ntmps89
  go_wp2_with (go_at_call 106; refine (pfx0_any s p _ hs hp).mono ?_; rintro e w' ⟨rfl, rfl⟩)
  go_ret
  exact ⟨rfl, rfl⟩
/-! ### a byte slice as a string -/
set_option maxRecDepth 100000 in
theorem strOf {w : World} {a : Option Addr} {n cap : Nat} {l : List UInt8} (h : SlR w 1 (.slice a n cap) l.length (l.map u8c)) : (convert 23 9 (.slice a n cap)).run Tryz.prog w = .ok (.string ⟨l.toArray⟩) w := by
  obtain ⟨h0, a', c', e, h1, h2, h3, h4⟩ := h
  simp only [Value.slice.injEq] at e
  obtain ⟨rfl, rfl, rfl⟩ := e
  by_cases hl : 0 < l.length
  · obtain ⟨g, off, rfl, hg, hc⟩ := h4 hl
    have := run_convert_bytes_arg (P := Tryz.prog) w 23 5 Tryz.underlying23 Tryz.underlying5 g off l.length cap (l.map fun b => (b.toNat : Int)) (by simp) (fun i hi => by
      rw [hc i (u8c l[i]) (by simp [hi])]
      simp [u8c, List.getD, hi]) 9 Tryz.underlying9
    rw [this]
    simp only [strOfNums, List.map_map]
    congr 3
    have : ((fun n : Int => UInt8.ofNat n.toNat) ∘ fun b : UInt8 => (b.toNat : Int)) = id := by funext b; simp
    rw [this, List.map_id]
  · have : l = [] := List.eq_nil_of_length_eq_zero (by omega)
    subst this
    cases a with
    | none => exact run_convert_bytes_nil (P := Tryz.prog) w 23 5 Tryz.underlying23 Tryz.underlying5 _ _ 9 Tryz.underlying9
    | some ad =>
      rw [run_convert_bytes_string w 23 9 5 (some ad) _ cap Tryz.underlying23 Tryz.underlying5 Tryz.underlying9]
      simp [Conv.bytesToString, loadCells, loadCellsFrom]
      rfl
/-! ### Is -/
theorem empty_of {s : ByteArray} (h : s.size = 0) : s.toList.isEmpty = true := by
  rw [ByteArray.toList_eq]
  exact List.isEmpty_iff.2 (List.eq_nil_of_length_eq_zero h)
theorem nonempty_of {s : ByteArray} (h : s.size ≠ 0) : s.toList.isEmpty = false := by
  rw [ByteArray.toList_eq]
  have : s.data.toList.length ≠ 0 := h
  cases hl : s.data.toList with
  | nil => rw [hl] at this; exact absurd rfl this
  | cons a b => rfl
set_option maxHeartbeats 400000 in
theorem is_any (name : ByteArray) (a : Option Addr) (cap : Nat) (l : List UInt8) (w : World) (h : Byt w (.slice a l.length cap) l) (hn : name.size ≤ 9223372036854775807) (hb : l.length ≤ 140737488355328) :
    Calls Tryz.prog 57 #[.string name, .slice a l.length cap] w fun e w' => e = .returned (.int .i64 (isS name l)) ∧ w = w' := by
  by_cases h1 : name.size = 0
  · have H := Lib.hid (show isS name l = 1 by unfold isS; rw [if_pos (.inl h1)])
    have h2 := empty_of h1
    clear h1
    go_enter Tryz.func57, Tryz.ntmps57
    go_wp2
    go_ret
    exact ⟨by rw [H.out]; rfl, rfl⟩
  have h2 := nonempty_of h1
  by_cases h3 : 12 < name.size
  · have H := Lib.hid (show isS name l = 1 by unfold isS; rw [if_pos (.inr h3)])
    have h4 : decide ((12 : Int) < (name.size : Int)) = true := by simp; omega
    clear h1 h3
    go_enter Tryz.func57, Tryz.ntmps57
    go_wp2
    go_ret
    exact ⟨by rw [H.out]; rfl, rfl⟩
  have hc := strOf h
  have h4 : decide ((12 : Int) < (name.size : Int)) = false := by simp; omega
  have hd : isS name l = if pfx ⟨l.toArray⟩ mdic = false ∨ l.length < 5 ∨ 2004 < l.length then 4 else 0 := by unfold isS; rw [if_neg (by omega)]
  have HD := Lib.hid hd
  clear hd h1 h3
  have hsz : (⟨l.toArray⟩ : ByteArray).size ≤ 9223372036854775807 := by show l.toArray.size ≤ _; simp; omega
  cases hp : pfx ⟨l.toArray⟩ mdic with
  | false =>
    have H := Lib.hid (show isS name l = 4 by rw [HD.out, if_pos (.inl hp)])
    have Hp := Lib.hid hp; clear hp
    go_enter Tryz.func57, Tryz.ntmps57
    go_wp2_with (go_at_call 89; refine (pfx_any _ _ _ hsz (by decide)).mono ?_; rw [show (⟨#[77, 68, 73, 67]⟩ : ByteArray) = mdic from rfl, Hp.out]; rintro e w' ⟨rfl, rfl⟩)
    go_ret
    exact ⟨by rw [H.out]; rfl, rfl⟩
  | true =>
    have Hp := Lib.hid hp; clear hp
    by_cases h5 : l.length < 5
    · have H := Lib.hid (show isS name l = 4 by rw [HD.out, if_pos (.inr (.inl h5))])
      have h6 : decide ((l.length : Int) - 4 < 1) = true := by simp; omega
      go_enter Tryz.func57, Tryz.ntmps57
      go_wp2_with (go_at_call 89; refine (pfx_any _ _ _ hsz (by decide)).mono ?_; rw [show (⟨#[77, 68, 73, 67]⟩ : ByteArray) = mdic from rfl, Hp.out]; rintro e w' ⟨rfl, rfl⟩)
      go_ret
      exact ⟨by rw [H.out]; rfl, rfl⟩
    by_cases h7 : 2004 < l.length
    · have H := Lib.hid (show isS name l = 4 by rw [HD.out, if_pos (.inr (.inr h7))])
      have h6 : decide ((l.length : Int) - 4 < 1) = false := by simp; omega
      have h8 : decide (2000 < (l.length : Int) - 4) = true := by simp; omega
      go_enter Tryz.func57, Tryz.ntmps57
      go_wp2_with (go_at_call 89; refine (pfx_any _ _ _ hsz (by decide)).mono ?_; rw [show (⟨#[77, 68, 73, 67]⟩ : ByteArray) = mdic from rfl, Hp.out]; rintro e w' ⟨rfl, rfl⟩)
      go_ret
      exact ⟨by rw [H.out]; rfl, rfl⟩
    have H := Lib.hid (show isS name l = 0 by rw [HD.out, if_neg (by rw [Hp.out]; simp; omega)])
    have h6 : decide ((l.length : Int) - 4 < 1) = false := by simp; omega
    have h8 : decide (2000 < (l.length : Int) - 4) = false := by simp; omega
    go_enter Tryz.func57, Tryz.ntmps57
    go_wp2_with (go_at_call 89; refine (pfx_any _ _ _ hsz (by decide)).mono ?_; rw [show (⟨#[77, 68, 73, 67]⟩ : ByteArray) = mdic from rfl, Hp.out]; rintro e w' ⟨rfl, rfl⟩)
    go_ret
    exact ⟨by rw [H.out]; rfl, rfl⟩
/-! ### Load -/
def LoadPost (F : Nat → Prop) (w : World) (s : Nat) (S : Shs) (n : ByteArray) (l : List UInt8) (e : Ending) (w' : World) : Prop :=
  e = .returned (.tuple #[.int .i64 (S.load n l).2.1, .int .i64 (S.load n l).2.2.1, .int .i64 (S.load n l).2.2.2]) ∧ ∃ F', ShelfAt F' w' s (S.load n l).1 ∧ Kp F w w' ∧ (∀ i, F' i → F i ∨ w.heap.size ≤ i)
theorem ShelfRaw.cell0 {F : Nat → Prop} {w : World} {s bm nm last : Nat} {bl : List (Int × (Nat × Bk))} {names : List (ByteArray × Int)} (h : ShelfRaw F w s bm nm last bl names) : w.cell? ⟨s, 0, none⟩ = some (.map (some bm)) := by rw [cell_of h.hs]; rfl
theorem ShelfRaw.cell1 {F : Nat → Prop} {w : World} {s bm nm last : Nat} {bl : List (Int × (Nat × Bk))} {names : List (ByteArray × Int)} (h : ShelfRaw F w s bm nm last bl names) : w.cell? ⟨s, 1, none⟩ = some (.map (some nm)) := by rw [cell_of h.hs]; rfl
theorem ShelfRaw.cell2 {F : Nat → Prop} {w : World} {s bm nm last : Nat} {bl : List (Int × (Nat × Bk))} {names : List (ByteArray × Int)} (h : ShelfRaw F w s bm nm last bl names) : w.cell? ⟨s, 2, none⟩ = some (.int .i64 last) := by rw [cell_of h.hs]; rfl
theorem ShelfRaw.free {F : Nat → Prop} {w : World} {s bm nm last : Nat} {bl : List (Int × (Nat × Bk))} {names : List (ByteArray × Int)} (h : ShelfRaw F w s bm nm last bl names) (i : Nat) : w.frozen? ⟨s, i, none⟩ = false := free_of h.hs i
theorem le_of_retires (S : Shs) (n : ByteArray) (h : S.last < 4611686018427387904) : (S.retires n).1.last < 4611686018427387904 := by rw [retires_last]; exact h
theorem four_le {n : ByteArray} {l : List UInt8} (h : isS n l = 0) : 4 ≤ l.length := by have := len_of_is h; omega
theorem hb4' {w : World} {a : Option Addr} {n c : Nat} {l : List UInt8} (h : SlR w 1 (.slice a (n - 4) c) (n - 4) ((l.map u8c).drop (4 * 1))) : SlR w.drew 1 (.slice a (n - 4) c) (n - 4) ((l.drop 4).map u8c) := by
  rw [Nat.mul_one, ← List.map_drop] at h
  exact h
theorem load_mid {w2 w3 : World} {s bm1 : Nat} {bl1 : List (Int × (Nat × Bk))} {last : Int} (hne : bm1 ≠ s) (hsz : s < w2.heap.size) (hm2 : MapAt w2 (.int .i64) (Value.int .i64) bev bm1 bl1) (hk3 : Kp (fun _ => False) w2.drew w3)
    (d0 : w2.cell? ⟨s, 0, none⟩ = some (.map (some bm1))) (d2 : w2.cell? ⟨s, 2, none⟩ = some (.int .i64 last)) (dv : Value) (data : List UInt8) :
    MapAt w3 (.int .i64) (Value.int .i64) bev bm1 bl1 ∧ w3.cell? ⟨s, 0, none⟩ = some (.map (some bm1)) ∧ w3.cell? ⟨s, 2, none⟩ = some (.int .i64 last) ∧ s ≠ w3.heap.size ∧
    ∃ w4, (Instr.mapUpdate 89 (.map (some bm1)) (.int .i64 last) (.pointer (some ⟨w3.heap.size, 0, none⟩))).run Tryz.prog (w3.alloc (.cells #[dv, .bool true, .int .i64 0] 127)) = .ok () w4 ∧
      MapAt w4 (.int .i64) (Value.int .i64) bev bm1 (AL.put bl1 last (w3.heap.size, ⟨data, true, 0⟩)) ∧ Kp (· = bm1) (w3.alloc (.cells #[dv, .bool true, .int .i64 0] 127)) w4 ∧ w4.heap.size = w3.heap.size + 1 ∧
      w4.cell? ⟨s, 0, none⟩ = some (.map (some bm1)) ∧ w4.cell? ⟨s, 2, none⟩ = some (.int .i64 last) := by
  have hm3 := MapAt.kp (w := w2.drew) hm2 hk3 (fun q => q)
  have e0 := (hk3.cell (p := ⟨s, 0, none⟩) hsz (fun q => q)).trans d0
  have e2 := (hk3.cell (p := ⟨s, 2, none⟩) hsz (fun q => q)).trans d2
  have hs3 : s < w3.heap.size := Nat.lt_of_lt_of_le hsz hk3.size
  have ka : Kp (fun _ => False) w3 (w3.alloc (.cells #[dv, .bool true, .int .i64 0] 127)) := (Kp.refl _ _).alloc _
  obtain ⟨w4, hrun, h5, h6, h7⟩ := (hm3.kp ka (fun q => q)).store (P := Tryz.prog) key_int Tryz.underlying89 Tryz.underlying3 last (w3.heap.size, ⟨data, true, 0⟩)
  refine ⟨hm3, e0, e2, by omega, w4, hrun, h5, h6, by simpa using h7, ?_, ?_⟩
  · exact (h6.cell (p := ⟨s, 0, none⟩) (by simp; omega) (fun q => hne q.symm)).trans ((ka.cell (p := ⟨s, 0, none⟩) hs3 (fun q => q)).trans e0)
  · exact (h6.cell (p := ⟨s, 2, none⟩) (by simp; omega) (fun q => hne q.symm)).trans ((ka.cell (p := ⟨s, 2, none⟩) hs3 (fun q => q)).trans e2)
theorem le_drop {n : ByteArray} {l : List UInt8} (h : isS n l = 0) : (l.drop 4).length ≤ 2000 := by have := len_of_is h; simp; omega
theorem retires_pos {S : Shs} (h : S.Ok) (n : ByteArray) : AL.get (S.retires n).1.books ((S.retires n).1.last + 1) = none := by
  cases hg : AL.get (S.retires n).1.books ((S.retires n).1.last + 1) with
  | none => rfl
  | some k => have := (retires_ok h n).pos _ _ hg; omega
theorem load_names {F : Nat → Prop} {w1 w2 w3 w4 : World} {s bm nm L : Nat} {bl : List (Int × (Nat × Bk))} {N : List (ByteArray × Int)} (h : ShelfRaw F w1 s bm nm L bl N) (k2 : Kp (· = s) w1 w2) (k3 : Kp (fun _ => False) w2.drew w3) {o : Obj} (k4 : Kp (· = bm) (w3.alloc o) w4) :
    MapAt w4.drew .string Value.string (Value.int .i64) nm N := by
  have m2 := h.names.kp k2 (fun e => by obtain ⟨es, c, hm⟩ := h.names.isMap; have := h.hs; rw [← e, hm] at this; cases this)
  have m3 := MapAt.kp (w := w2.drew) m2 k3 (fun q => q)
  have m4 := m3.kp ((Kp.refl (fun _ => False) w3).alloc o) (fun q => q)
  exact MapAt.drew (m4.kp k4 (fun e => h.ne (Eq.symm e)))
theorem load_end {F : Nat → Prop} {w1 w2 w3 w4 w5 : World} {s bm nm L : Nat} {bl : List (Int × (Nat × Bk))} {N N' : List (ByteArray × Int)} (h : ShelfRaw F w1 s bm nm L bl N) {B : List (Int × Bk)} (hB : B = absB bl) (hnone : AL.get B ((L : Int) + 1) = none)
    {data : List UInt8} (hd : data.length ≤ 2000) (k2 : Kp (· = s) w1 w2) (hs2 : w2.heap[s]? = some (.cells ((#[.map (some bm), .map (some nm), .int .i64 L] : Array Value).setIfInBounds 2 (.int .i64 ((L : Int) + 1))) 92 (0, 0))) (k3 : Kp (fun _ => False) w2.drew w3)
    {dv : Value} {m : Nat} (ho3 : OwnR w3 5 1 dv m (data.map u8c)) (hv3 : ∀ b, dv.ownBlock = some b → w2.drew.heap.size ≤ b)
    (h5 : MapAt w4 (.int .i64) (Value.int .i64) bev bm (AL.put bl ((L : Int) + 1) (w3.heap.size, ⟨data, true, 0⟩))) (k4 : Kp (· = bm) (w3.alloc (.cells #[dv, .bool true, .int .i64 0] 127)) w4)
    (g5 : MapAt w5 .string Value.string (Value.int .i64) nm N') (k5 : Kp (· = nm) w4.drew w5) :
    ShelfRaw (fun i => F i ∨ (w1.heap.size ≤ i ∧ i < w5.heap.size)) w5 s bm nm (L + 1) (AL.put bl ((L : Int) + 1) (w3.heap.size, ⟨data, true, 0⟩)) N' ∧ Kp F w1 w5 ∧ w4.cell? ⟨s, 1, none⟩ = some (.map (some nm)) := by
  obtain ⟨es, ck, hbm⟩ := h.books.isMap
  obtain ⟨es', ck', hnm⟩ := h.names.isMap
  have nsb : s ≠ bm := fun e => by have := h.hs; rw [e, hbm] at this; cases this
  have nsn : s ≠ nm := fun e => by have := h.hs; rw [e, hnm] at this; cases this
  have l1 : s < w1.heap.size := lt_of_at h.hs
  have lb1 : bm < w1.heap.size := lt_of_at hbm
  have ln1 : nm < w1.heap.size := lt_of_at hnm
  have s12 : w1.heap.size ≤ w2.heap.size := k2.size
  have s23 : w2.heap.size ≤ w3.heap.size := k3.size
  have k3' : Kp (fun _ => False) w2 w3 := (Kp.refl _ w2).drew.trans k3
  have ka : Kp (fun _ => False) w3 (w3.alloc (.cells #[dv, .bool true, .int .i64 0] 127)) := (Kp.refl _ _).alloc _
  have k34 : Kp (· = bm) w3 w4 := (ka.mono (fun i _ e => False.elim e)).trans2 k4 (fun i hi e => e)
  have s34 : w3.heap.size + 1 ≤ w4.heap.size := by have := k4.size; simpa using this
  have k5' : Kp (· = nm) w4 w5 := (Kp.refl _ w4).drew.trans k5
  have hs3 := k3'.at_ hs2 (fun q => q)
  have hs4 := k34.at_ hs3 nsb
  have hs5 := k5'.at_ hs4 nsn
  have old : ∀ i, i < w1.heap.size → i ≠ s → i ≠ bm → i ≠ nm → w5.heap[i]? = w1.heap[i]? := fun i hi a b c =>
    (k5'.block i (by omega) c).trans ((k34.block i (by omega) b).trans ((k3'.block i (by omega) (fun q => q)).trans (k2.block i hi a)))
  have hnew4 : w4.heap[w3.heap.size]? = some (.cells #[dv, .bool true, .int .i64 0] 127 (0, 0)) := k4.at_ (alloc_at w3 _) (fun e => by omega)
  have hnew5 := k5'.at_ hnew4 (fun e => by omega)
  have hgn : AL.get bl ((L : Int) + 1) = none := by
    rw [hB, get_abs] at hnone
    cases hq : AL.get bl ((L : Int) + 1) with
    | none => rfl
    | some x => rw [hq] at hnone; cases hnone
  have hput := AL.put_of_none (l := bl) (k := (L : Int) + 1) (w3.heap.size, (⟨data, true, 0⟩ : Bk)) hgn
  have eachlt : ∀ p ∈ bl, p.2.1 < w1.heap.size := fun p hp => by obtain ⟨_, _, dv', hd', _⟩ := h.each p hp; exact lt_of_at hd'
  have s45 : w4.heap.size ≤ w5.heap.size := k5'.size
  refine ⟨⟨?_, h.ne, h5.kp k5' h.ne, g5, ?_, ?_, .inl h.fs, .inl h.fb, .inl h.fn, fun i hi => ?_⟩, ?_, ?_⟩
  · rw [hs5]; simp
  · intro p hp
    rw [hput] at hp
    rcases List.mem_append.1 hp with hp | hp
    · obtain ⟨f1, f2, dv', f3, f4, f5⟩ := h.each p hp
      have nb : ∀ b c, w1.heap[p.2.1]? = some (.map b c) → False := fun b c e => by rw [e] at f3; cases f3
      have ho : w5.heap[p.2.1]? = w1.heap[p.2.1]? := old _ (lt_of_at f3) (fun e => by have := h.hs; rw [← e, f3] at this; cases this) (fun e => nb _ _ (e ▸ hbm)) (fun e => nb _ _ (e ▸ hnm))
      refine ⟨.inl f1, f2, dv', ho.trans f3, f4.kept (fun g hg hl => ?_), fun g hg => .inl (f5 g hg)⟩
      have : ∃ cur cap fr, w1.heap[g]? = some (.cells cur 5 fr) ∧ cap = cur.size := by
        rcases f4.2 with ⟨e, _⟩ | ⟨g', cap, cur, fr, e, hg', _⟩
        · rw [e] at hg; cases hg
        · rw [e] at hg; cases hg; exact ⟨cur, _, fr, hg', rfl⟩
      obtain ⟨cur, _, fr, hgc, _⟩ := this
      exact old g hl (fun e => by have := h.hs; rw [← e, hgc] at this; cases this) (fun e => by rw [← e, hgc] at hbm; cases hbm) (fun e => by rw [← e, hgc] at hnm; cases hnm)
    · have : p = ((L : Int) + 1, (w3.heap.size, (⟨data, true, 0⟩ : Bk))) := by simpa using hp
      subst this
      have hlen : m = data.length := by have := ho3.1; simpa using this.symm
      subst hlen
      refine ⟨.inr ⟨by show w1.heap.size ≤ w3.heap.size; omega, by show w3.heap.size < w5.heap.size; omega⟩, hd, dv, hnew5, ?_, fun g hg => .inr ?_⟩
      · refine ho3.kept (fun g hg hl => ?_)
        have hv := hv3 g hg
        have hv' : w2.heap.size ≤ g := hv
        rw [k5'.block g (by omega) (by omega), k34.block g hl (by omega)]
      · have hv := hv3 g hg
        have hv' : w2.heap.size ≤ g := hv
        have hv'' := ho3.lt hg
        omega
  · rw [hput, List.map_append]
    refine List.nodup_append.2 ⟨h.nod, by simp, fun x hx y hy => ?_⟩
    obtain ⟨p, hp, rfl⟩ := List.mem_map.1 hx
    simp only [List.map_cons, List.map_nil, List.mem_singleton] at hy
    have := eachlt p hp
    omega
  · rcases hi with hi | hi
    · have := h.fin i hi; omega
    · exact hi.2
  · exact (((k2.mono (fun i _ e => by rw [e]; exact h.fs)).trans2 k3' (fun i _ e => False.elim e)).trans2 k34 (fun i _ e => by rw [e]; exact h.fb)).trans2 k5' (fun i _ e => by rw [e]; exact h.fn)
  · rw [cell_of hs4]; rfl
set_option maxHeartbeats 1000000 in
theorem load_any {F : Nat → Prop} {s : Nat} (S : Shs) (hok : S.Ok) (hlast : S.last < 4611686018427387904) (n : ByteArray) (a : Option Addr) (cap : Nat) (l : List UInt8) (w : World) (h : ShelfAt F w s S)
    (hb : Byt w (.slice a l.length cap) l) (hF : ∀ b, (Value.slice a l.length cap).ownBlock = some b → ¬ F b) (hn : n.size ≤ 9223372036854775807) (hl : l.length ≤ 140737488355328) :
    Calls Tryz.prog 58 #[.pointer (some ⟨s, 0, none⟩), .string n, .slice a l.length cap] w (LoadPost F w s S n l) := by
  by_cases hi : isS n l = 0
  · have Hi := Lib.hid hi
    clear hi
    have h0 : (0 : Int) == 0 := by decide
    go_enter Tryz.func58, Tryz.ntmps58
    go_wp2_with (first | (go_at_call 57; refine (is_any n a cap l _ hb hn hl).mono ?_; rw [Hi.out]; rintro e w' ⟨rfl, rfl⟩) | (go_at_call 90; refine (retires_any S hok n _ h).mono ?_; rintro e w1 ⟨rfl, h1, h2⟩; obtain ⟨bm1, nm1, bl1, hr1, hb1⟩ := h1; have c2 := hr1.cell2; have f2 := hr1.free 2; have hlast1 := le_of_retires S n hlast; go_frame))
    have k2 : Kp (· = s) w1 (w1.setCell ⟨s, 2, none⟩ (.int .i64 (((S.retires n).1.last : Int) + 1))) := (Kp.refl (· = s) w1).setCell (p := ⟨s, 2, none⟩) (fun _ => rfl) _
    have hs2 := setCell_at (i := 2) hr1.hs (.int .i64 (((S.retires n).1.last : Int) + 1))
    obtain ⟨w2, hw2⟩ : ∃ w2, w2 = w1.setCell ⟨s, 2, none⟩ (.int .i64 (((S.retires n).1.last : Int) + 1)) := ⟨_, rfl⟩
    rw [← hw2] at k2 hs2 ⊢
    have hb2 : Byt w2 (.slice a l.length cap) l := by
      refine (hb.kp h2 hF).kp k2 (fun b hb e => ?_)
      subst e; exact hF _ hb h.choose_spec.choose_spec.choose_spec.1.fs
    clear hw2
    obtain ⟨a4, c4, hsl, hb4, hob⟩ := hb2.from_ (P := Tryz.prog) (k := 4) Tryz.underlying23 (by kernel_rfl) (four_le Hi.out)
    have hsl4 : ∀ w', (Instr.slice 23 (.slice a l.length cap) (some (.int .i64 4)) none none).run Tryz.prog w' = .ok (.slice a4 (l.length - 4) c4) w' := hsl
    clear hsl
    have d0 : w2.cell? ⟨s, 0, none⟩ = some (.map (some bm1)) := by rw [cell_of hs2]; rfl
    have d2 : w2.cell? ⟨s, 2, none⟩ = some (.int .i64 (((S.retires n).1.last : Int) + 1)) := by rw [cell_of hs2]; rfl
    clear c2 f2 h0
    have hne1 : bm1 ≠ s := fun e => by obtain ⟨es, c, hm⟩ := hr1.books.isMap; have := hr1.hs; rw [← e, hm] at this; cases this
    have hm2 := hr1.books.kp k2 hne1
    have hsz : s < w2.heap.size := lt_of_at hs2
    have hlen : l.length - 4 ≤ 140737488355328 := by omega
    go_region_held3 (fun w' => w'.cell? ⟨s, 0, none⟩ = some (.map (some bm1)) ∧ w'.cell? ⟨s, 2, none⟩ = some (.int .i64 (((S.retires n).1.last : Int) + 1))) (go_keep) ((go_at_call 81; refine (clone_any a4 (l.length - 4) c4 (l.drop 4) w2.drew (hb4' hb4) hlen).mono ?_; rintro e w3 ⟨a3, c3, rfl, ho3, hk3, hv3⟩; obtain ⟨hm3, e0, e2, e3, w4, hrun, h5, h6, h7, e4, e5⟩ := load_mid hne1 hsz hm2 hk3 d0 d2 (.slice a3 (l.length - 4) c3) (l.drop 4)))
    obtain ⟨w5, hrun2, g5, g6, g7⟩ := (load_names hr1 k2 hk3 h6).store (P := Tryz.prog) key_string Tryz.underlying90 Tryz.underlying9 n (((S.retires n).1.last : Int) + 1)
    obtain ⟨hfin, hkp, q1⟩ := load_end hr1 hb1 (retires_pos hok n) (le_drop Hi.out) k2 hs2 hk3 ho3 hv3 h5 h6 g5 g6
    have hm1 : w4.cell? ⟨s, 1, none⟩ = some (.map (some nm1)) := q1
    have hm5 : w5.cell? ⟨s, 1, none⟩ = some (.map (some nm1)) := hfin.cell1
    have hl5 : w5.cell? ⟨s, 2, none⟩ = some (.int .i64 (((S.retires n).1.last : Int) + 1)) := hfin.cell2
    clear hrun hm2 hm3
    go_wp2
    go_region_held3 (fun w' => w'.cell? ⟨s, 1, none⟩ = some (.map (some nm1)) ∧ w'.cell? ⟨s, 2, none⟩ = some (.int .i64 (((S.retires n).1.last : Int) + 1))) (go_keep) (fail)
    go_wp2
    go_ret3
    refine ⟨?_, fun i => F i ∨ (w1.heap.size ≤ i ∧ i < w5.heap.size), ?_, h2.trans hkp, fun i hi => hi.imp id (fun q => Nat.le_trans h2.size q.1)⟩
    · unfold Shs.load; rw [if_pos Hi.out]; rfl
    · unfold Shs.load; rw [if_pos Hi.out]
      exact ⟨bm1, nm1, _, hfin, by rw [abs_put, hb1]⟩
  · have hS : S.load n l = (S, 0, 0, isS n l) := by unfold Shs.load; rw [if_neg hi]
    have HS := Lib.hid hS
    have hi' : (isS n l == 0) = false := by simpa using hi
    clear hi hS
    go_enter Tryz.func58, Tryz.ntmps58
    go_wp2_with (go_at_call 57; refine (is_any n a cap l _ hb hn hl).mono ?_; rintro e w' ⟨rfl, rfl⟩)
    go_ret3
    exact ⟨by rw [HS.out]; rfl, F, by rw [HS.out]; exact h, Kp.refl _ _, fun i hi => .inl hi⟩
/-! ### Retire -/
theorem at_zero {S : Shs} (_ : S.Ok) {n : ByteArray} (h : AL.get S.names n = none) : (AL.get S.names n).getD 0 = 0 := by rw [h]; rfl
def Shs.retire (S : Shs) (n : ByteArray) : Shs × Int × Int := if AL.get S.names n = none then (S, 0, 5) else ((S.retires n).1, (S.retires n).2, 0)
def RetirePost (F : Nat → Prop) (w : World) (s : Nat) (S : Shs) (n : ByteArray) (e : Ending) (w' : World) : Prop :=
  e = .returned (.tuple #[.int .i64 (S.retire n).2.1, .int .i64 (S.retire n).2.2]) ∧ ShelfAt F w' s (S.retire n).1 ∧ Kp F w w'
theorem at_S {F : Nat → Prop} {s : Nat} {S : Shs} (n : ByteArray) (w : World) (h : ShelfAt F w s S) :
    Calls Tryz.prog 80 #[.pointer (some ⟨s, 0, none⟩), .string n] w fun e w' => e = .returned (.int .i64 ((AL.get S.names n).getD 0)) ∧ w = w' := by
  obtain ⟨bm, nm, bl, h, _⟩ := h
  exact at_any n w h
set_option maxHeartbeats 1000000 in
theorem retire_any {F : Nat → Prop} {s : Nat} (S : Shs) (hok : S.Ok) (n : ByteArray) (w : World) (h : ShelfAt F w s S) :
    Calls Tryz.prog 60 #[.pointer (some ⟨s, 0, none⟩), .string n] w (RetirePost F w s S n) := by
  cases hg : AL.get S.names n with
  | none =>
    have HS := Lib.hid (show S.retire n = (S, 0, 5) by unfold Shs.retire; rw [if_pos hg])
    have HZ := Lib.hid (at_zero hok hg)
    clear hg
    go_enter Tryz.func60, Tryz.ntmps60
    go_wp2_with (go_at_call 80; refine (at_S n _ h).mono ?_; rw [HZ.out]; rintro e w' ⟨rfl, rfl⟩)
    go_ret2
    exact ⟨by rw [HS.out]; rfl, by rw [HS.out]; exact h, Kp.refl _ _⟩
  | some id =>
    have HS := Lib.hid (show S.retire n = ((S.retires n).1, (S.retires n).2, 0) by unfold Shs.retire; rw [if_neg (by rw [hg]; simp)])
    have hid : (((AL.get S.names n).getD 0) == 0) = false := by
      obtain ⟨k, hk, _⟩ := hok.nm n id hg
      have := hok.pos id k hk
      rw [hg]; simp; omega
    clear hg
    go_enter Tryz.func60, Tryz.ntmps60
    go_wp2_with (first | (go_at_call 80; refine (at_S n _ h).mono ?_; rintro e w' ⟨rfl, rfl⟩) | (go_at_call 90; refine (retires_any S hok n _ h).mono ?_; rintro e w1 ⟨rfl, h1, h2⟩))
    go_ret2
    exact ⟨by rw [HS.out]; rfl, by rw [HS.out]; exact h1, h2⟩
end Go.Proofs.YtmioiaeiflbmhaaGreat.Sh
namespace Go.Proofs.YtmioiaeiflbmhaaGreat.Sh
open Go Go.RowKit Go.ChangeMaps Go.MapKept Go.Mg
/-! ### Pin -/
def Shs.pin (S : Shs) (n : ByteArray) : Shs × Int × List UInt8 × Int :=
  match AL.get S.names n with
  | none => (S, 0, [], 5)
  | some id =>
    match AL.get S.books id with
    | none => (S, 0, [], 5)
    | some k => ({ S with books := AL.put S.books id { k with pins := k.pins + 1 } }, id, k.data, 0)
def PinPost (F : Nat → Prop) (w : World) (s : Nat) (S : Shs) (n : ByteArray) (e : Ending) (w' : World) : Prop :=
  ∃ a c, e = .returned (.tuple #[.int .i64 (S.pin n).2.1, .slice a (S.pin n).2.2.1.length c, .int .i64 (S.pin n).2.2.2]) ∧ ShelfAt F w' s (S.pin n).1 ∧ Kp F w w' ∧
    OwnR w' 5 1 (.slice a (S.pin n).2.2.1.length c) (S.pin n).2.2.1.length ((S.pin n).2.2.1.map u8c) ∧ (∀ b, (Value.slice a (S.pin n).2.2.1.length c).ownBlock = some b → w.heap.size ≤ b)
theorem look_id {F : Nat → Prop} {w : World} {s bm nm last : Nat} {bl : List (Int × (Nat × Bk))} {names : List (ByteArray × Int)} (h : ShelfRaw F w s bm nm last bl names) {id : Int} {b : Nat} {k : Bk} (hg : AL.get bl id = some (b, k)) :
    (Instr.lookup 89 (.map (some bm)) (.int .i64 id) false).run Tryz.prog w = .ok (.pointer (some ⟨b, 0, none⟩)) w := by
  have := h.books.look (P := Tryz.prog) key_int Tryz.underlying89 Tryz.underlying3 (zero61 w) id false
  rw [this, hg]; rfl
theorem get_bl {S : Shs} {bl : List (Int × (Nat × Bk))} (hb : S.books = absB bl) {id : Int} {k : Bk} (hg : AL.get S.books id = some k) : ∃ b, AL.get bl id = some (b, k) := by
  rw [hb, get_abs] at hg
  cases hq : AL.get bl id with
  | none => rw [hq] at hg; cases hg
  | some e => rw [hq] at hg; cases hg; exact ⟨e.1, rfl⟩
set_option maxHeartbeats 1000000 in
theorem pin_any {F : Nat → Prop} {s : Nat} (S : Shs) (hok : S.Ok) (hp : ∀ id k, AL.get S.books id = some k → k.pins < 4611686018427387904) (n : ByteArray) (w : World) (h : ShelfAt F w s S) :
    Calls Tryz.prog 49 #[.pointer (some ⟨s, 0, none⟩), .string n] w (PinPost F w s S n) := by
  cases hg : AL.get S.names n with
  | none =>
    have HS := Lib.hid (show S.pin n = (S, 0, [], 5) by unfold Shs.pin; rw [hg])
    have HZ := Lib.hid (at_zero hok hg)
    clear hg
    go_enter Tryz.func49, Tryz.ntmps49
    go_wp2_with (go_at_call 80; refine (at_S n _ h).mono ?_; rw [HZ.out]; rintro e w' ⟨rfl, rfl⟩)
    go_ret3
    exact ⟨none, 0, by rw [HS.out]; rfl, by rw [HS.out]; exact h, Kp.refl _ _, by rw [HS.out]; exact OwnR.nil _ _ _, fun b hb => by cases hb⟩
  | some id =>
    obtain ⟨k, hk, _⟩ := hok.nm n id hg
    have hpos := hok.pos id k hk
    have hpk := hp id k hk
    have HS := Lib.hid (show S.pin n = ({ S with books := AL.put S.books id { k with pins := k.pins + 1 } }, id, k.data, 0) by unfold Shs.pin; rw [hg]; simp only [hk])
    have HA := Lib.hid (show (AL.get S.names n).getD 0 = id by rw [hg]; rfl)
    have hid : (id == 0) = false := by simp; omega
    have hSA := h
    obtain ⟨bm, nm, bl, h, hb⟩ := h
    obtain ⟨b, hgb⟩ := get_bl hb hk
    have hl := look_id h hgb
    have c0 := h.cell0
    obtain ⟨hFb, hk2000, dv, hbk, hown, hdv⟩ := h.each _ (AL.get_mem hgb)
    simp only at hFb hk2000 hbk hown hdv
    obtain ⟨a0, cap0, rfl⟩ := hown.form
    have c1 : w.cell? ⟨b, 2, none⟩ = some (.int .i64 k.pins) := by rw [cell_of hbk]; rfl
    have f1 : w.frozen? ⟨b, 2, none⟩ = false := free_of hbk 2
    have hkk : Kp (· = b) w (w.setCell ⟨b, 2, none⟩ (.int .i64 ((k.pins : Int) + 1))) := (Kp.refl (· = b) w).setCell (p := ⟨b, 2, none⟩) (fun _ => rfl) _
    have hb' := setCell_at (i := 2) hbk (.int .i64 ((k.pins : Int) + 1))
    have hr2 := h.upd hgb hbk hkk (cur := k.cur) (pins := k.pins + 1) hb'
    have c2 : (w.setCell ⟨b, 2, none⟩ (.int .i64 ((k.pins : Int) + 1))).cell? ⟨b, 0, none⟩ = some (.slice a0 k.data.length cap0) := by rw [cell_of hb']; rfl
    have hown2 : OwnR (w.setCell ⟨b, 2, none⟩ (.int .i64 ((k.pins : Int) + 1))) 5 1 (.slice a0 k.data.length cap0) k.data.length (k.data.map u8c) := by
      obtain ⟨_, _, dv', h3, h4, _⟩ := hr2.each _ (AL.get_mem (by rw [AL.get_put, if_pos rfl] : AL.get (AL.put bl id (b, ⟨k.data, k.cur, k.pins + 1⟩)) id = some _))
      simp only at h3 h4
      rw [hb'] at h3
      cases h3
      exact h4
    have HG := Lib.hid hgb
    have HB := Lib.hid hb
    have Hk := Lib.hid hk
    have HBK := Lib.hid hbk
    have HB' := Lib.hid hb'
    clear hg hgb hb hk hbk hb'
    go_enter Tryz.func49, Tryz.ntmps49
    go_wp2_with (first | (go_at_call 80; refine (at_S n _ hSA).mono ?_; rw [HA.out]; rintro e w' ⟨rfl, rfl⟩) | (go_at_call 81; refine (clone_any a0 k.data.length cap0 k.data _ hown2.sl (by omega)).mono ?_; rintro e w3 ⟨a3, c3, rfl, ho3, hk3, hv3⟩))
    go_ret3
    refine ⟨a3, c3, by rw [HS.out]; rfl, ?_, ?_, ?_, ?_⟩
    · rw [HS.out]
      exact ⟨bm, nm, _, hr2.kp hk3 (fun _ _ q => q), by rw [abs_put, HB.out]⟩
    · exact (hkk.mono (fun i _ e => by rw [e]; exact hFb)).trans (hk3.mono (fun i _ e => False.elim e))
    · rw [HS.out]; exact ho3
    · rw [HS.out]; intro g hg
      have := hv3 g hg
      simpa [World.setCell] using this
/-! ### Unpin -/
def Shs.unpin (S : Shs) (id : Int) : Shs × Bool :=
  match AL.get S.books id with
  | none => (S, false)
  | some k => if k.pins = 0 then (S, false) else
    ((({ S with books := AL.put S.books id { k with pins := k.pins - 1 } } : Shs).lets id).1, decide (0 < (({ S with books := AL.put S.books id { k with pins := k.pins - 1 } } : Shs).lets id).2))
def UnpinPost (F : Nat → Prop) (w : World) (s : Nat) (S : Shs) (id : Int) (e : Ending) (w' : World) : Prop :=
  e = .returned (.bool (S.unpin id).2) ∧ ShelfAt F w' s (S.unpin id).1 ∧ Kp F w w'
theorem book_S {F : Nat → Prop} {w : World} {s bm nm last : Nat} {bl : List (Int × (Nat × Bk))} {names : List (ByteArray × Int)} (h : ShelfRaw F w s bm nm last bl names) (id : Int) {v : Value} (hv : ((AL.get bl id).map bev).getD (.pointer none) = v) :
    Calls Tryz.prog 76 #[.pointer (some ⟨s, 0, none⟩), .int .i64 id] w fun e w' => e = .returned v ∧ w = w' := by
  subst hv; exact book_any id w h
set_option maxHeartbeats 1000000 in
theorem unpin_any {F : Nat → Prop} {s : Nat} (S : Shs) (id : Int) (hp : ∀ k, AL.get S.books id = some k → k.pins < 4611686018427387904) (w : World) (h : ShelfAt F w s S) :
    Calls Tryz.prog 82 #[.pointer (some ⟨s, 0, none⟩), .int .i64 id] w (UnpinPost F w s S id) := by
  have hSA := h
  obtain ⟨bm, nm, bl, h, hb⟩ := h
  cases hgb : AL.get bl id with
  | none =>
    have HS := Lib.hid (show S.unpin id = (S, false) by unfold Shs.unpin; rw [hb, get_abs, hgb]; rfl)
    have HV := Lib.hid (show ((AL.get bl id).map bev).getD (.pointer none) = .pointer none by rw [hgb]; rfl)
    clear hgb hb
    go_enter Tryz.func82, Tryz.ntmps82
    go_wp2_with (go_at_call 76; refine (book_S h id HV.out).mono ?_; rintro e w' ⟨rfl, rfl⟩)
    go_ret
    exact ⟨by rw [HS.out]; rfl, by rw [HS.out]; exact hSA, Kp.refl _ _⟩
  | some x =>
    obtain ⟨b, k⟩ := x
    have hgk : AL.get S.books id = some k := by rw [hb, get_abs, hgb]; rfl
    have hpk := hp k hgk
    have HV := Lib.hid (show ((AL.get bl id).map bev).getD (.pointer none) = .pointer (some ⟨b, 0, none⟩) by rw [hgb]; rfl)
    obtain ⟨hFb, hk2000, dv, hbk, hown, hdv⟩ := h.each _ (AL.get_mem hgb)
    simp only at hFb hk2000 hbk hown hdv
    have c1 : w.cell? ⟨b, 2, none⟩ = some (.int .i64 k.pins) := by rw [cell_of hbk]; rfl
    have f1 : w.frozen? ⟨b, 2, none⟩ = false := free_of hbk 2
    by_cases h0 : k.pins = 0
    · have HS := Lib.hid (show S.unpin id = (S, false) by unfold Shs.unpin; rw [hgk]; simp only [h0, if_true])
      have hz : ((k.pins : Int) == 0) = true := by simp; omega
      clear hgb hb hbk hgk h0
      go_enter Tryz.func82, Tryz.ntmps82
      go_wp2_with (go_at_call 76; refine (book_S h id HV.out).mono ?_; rintro e w' ⟨rfl, rfl⟩)
      go_ret
      exact ⟨by rw [HS.out]; rfl, by rw [HS.out]; exact hSA, Kp.refl _ _⟩
    · have HS := Lib.hid (show S.unpin id = ((({ S with books := AL.put S.books id { k with pins := k.pins - 1 } } : Shs).lets id).1, decide (0 < (({ S with books := AL.put S.books id { k with pins := k.pins - 1 } } : Shs).lets id).2)) by unfold Shs.unpin; rw [hgk]; simp only [h0, if_false])
      have hz : ((k.pins : Int) == 0) = false := by simp; omega
      have hkk : Kp (· = b) w (w.setCell ⟨b, 2, none⟩ (.int .i64 ((k.pins : Int) - 1))) := (Kp.refl (· = b) w).setCell (p := ⟨b, 2, none⟩) (fun _ => rfl) _
      have hb' := setCell_at (i := 2) hbk (.int .i64 ((k.pins : Int) - 1))
      have e1 : ((k.pins : Int) - 1) = ((k.pins - 1 : Nat) : Int) := by omega
      have hr2 := h.upd hgb hbk hkk (cur := k.cur) (pins := k.pins - 1) (by rw [← e1]; exact hb')
      have hS2 : ShelfAt F (w.setCell ⟨b, 2, none⟩ (.int .i64 ((k.pins : Int) - 1))) s { S with books := AL.put S.books id ⟨k.data, k.cur, k.pins - 1⟩ } := ⟨bm, nm, _, hr2, by rw [abs_put, hb]⟩
      have hp1 : (1 : Int) ≤ k.pins := by omega
      clear hgb hb hbk hgk h0 hb' e1 hr2
      go_enter Tryz.func82, Tryz.ntmps82
      go_wp2_with (first | (go_at_call 76; refine (book_S h id HV.out).mono ?_; rintro e w' ⟨rfl, rfl⟩) | (go_at_call 98; refine (lets_any _ id _ hS2).mono ?_; rintro e w3 ⟨rfl, h4, h5⟩))
      go_ret
      refine ⟨by rw [HS.out]; rfl, by rw [HS.out]; exact h4, (hkk.mono (fun i _ e => by rw [e]; exact hFb)).trans h5⟩
/-! ### Refs, Size -/
def Shs.refs (S : Shs) (id : Int) : Int := match AL.get S.books id with | none => 0 | some k => k.pins
def Shs.size (S : Shs) (id : Int) : Int := match AL.get S.books id with | none => 0 | some k => k.data.length
set_option maxHeartbeats 1000000 in
theorem refs_any {F : Nat → Prop} {s : Nat} (S : Shs) (id : Int) (w : World) (h : ShelfAt F w s S) :
    Calls Tryz.prog 42 #[.pointer (some ⟨s, 0, none⟩), .int .i64 id] w fun e w' => e = .returned (.int .i64 (S.refs id)) ∧ w = w' := by
  obtain ⟨bm, nm, bl, h, hb⟩ := h
  cases hgb : AL.get bl id with
  | none =>
    have HS := Lib.hid (show S.refs id = 0 by unfold Shs.refs; rw [hb, get_abs, hgb]; rfl)
    have HV := Lib.hid (show ((AL.get bl id).map bev).getD (.pointer none) = .pointer none by rw [hgb]; rfl)
    clear hgb hb
    go_enter Tryz.func42, Tryz.ntmps42
    go_wp2_with (go_at_call 76; refine (book_S h id HV.out).mono ?_; rintro e w' ⟨rfl, rfl⟩)
    go_ret
    exact ⟨by rw [HS.out]; rfl, rfl⟩
  | some x =>
    obtain ⟨b, k⟩ := x
    have HS := Lib.hid (show S.refs id = k.pins by unfold Shs.refs; rw [hb, get_abs, hgb]; rfl)
    have HV := Lib.hid (show ((AL.get bl id).map bev).getD (.pointer none) = .pointer (some ⟨b, 0, none⟩) by rw [hgb]; rfl)
    obtain ⟨hFb, hk2000, dv, hbk, hown, hdv⟩ := h.each _ (AL.get_mem hgb)
    have c1 : w.cell? ⟨b, 2, none⟩ = some (.int .i64 k.pins) := by rw [cell_of hbk]; rfl
    clear hgb hb hbk
    go_enter Tryz.func42, Tryz.ntmps42
    go_wp2_with (go_at_call 76; refine (book_S h id HV.out).mono ?_; rintro e w' ⟨rfl, rfl⟩)
    go_ret
    exact ⟨by rw [HS.out]; rfl, rfl⟩
/-! ### Bytes -/
def sumLen (l : List (Int × (Nat × Bk))) : Nat := (l.map fun p => p.2.2.data.length).sum
def Shs.bytes (S : Shs) : Int := ((S.books.map fun p => p.2.data.length).sum : Nat)
theorem sumLen_perm {l m : List (Int × (Nat × Bk))} (h : l.Perm m) : sumLen l = sumLen m := (h.map _).sum_nat
theorem sumLen_abs {S : Shs} {bl : List (Int × (Nat × Bk))} (hb : S.books = absB bl) : S.bytes = (sumLen bl : Int) := by
  unfold Shs.bytes sumLen; rw [hb]; simp [absB, Function.comp_def]
/-! ### bytes that are written out -/
theorem lit_own (w : World) (l : List UInt8) (cells : Array Value) (hc : cells = (l.map u8c).toArray) (fr : Nat × Nat) (hfr : fr = (0, 0) ∨ cells.size ≤ fr.1) (n : Nat) (hn : n = l.length) (hb : l.length ≤ 140737488355328) :
    OwnR (w.alloc (.cells cells 5 fr)) 5 1 (.slice (some ⟨w.heap.size, 0, none⟩) n n) n (l.map u8c) := by
  subst hc; subst hn
  refine ⟨by simp, .inr ⟨_, _, _, fr, rfl, alloc_at w _, hfr, Nat.le_refl _, by unfold maxLen; omega, by simp, by simp [List.take_of_length_le]⟩⟩
theorem ShelfAt.kp {F G : Nat → Prop} {w w' : World} {s : Nat} {S : Shs} (h : ShelfAt F w s S) (hk : Kp G w w') (hd : ∀ i, F i → ¬ G i) : ShelfAt F w' s S := by
  obtain ⟨bm, nm, bl, h, hb⟩ := h
  exact ⟨bm, nm, bl, h.kp hk hd, hb⟩
theorem ShelfAt.fin {F : Nat → Prop} {w : World} {s : Nat} {S : Shs} (h : ShelfAt F w s S) : ∀ i, F i → i < w.heap.size := by
  obtain ⟨bm, nm, bl, h, hb⟩ := h
  exact h.fin
def sh0 : Shs := ⟨0, [], []⟩
theorem sh0_ok : sh0.Ok := ⟨(fun _ _ h => by cases h), (fun _ _ _ h => by cases h), (fun _ _ h => by cases h)⟩
def nameA : ByteArray := ⟨#[97]⟩
def mdicx : List UInt8 := [77, 68, 73, 67, 120]
def sh1 : Shs := (sh0.load nameA mdicx).1
theorem pfx_of {s p : ByteArray} (h : p.data.toList <+: s.data.toList) : pfx s p = true := by
  unfold pfx
  have hl := h.length_le
  have h1 : p.size ≤ s.size := hl
  simp only [h1, decide_true, Bool.true_and]
  have e : (s.extract 0 p.size).toList = p.toList := by
    rw [ByteArray.toList_eq, ByteArray.toList_eq, Lib.extract_data]
    have h2 := List.prefix_iff_eq_take.1 h
    have h3 : p.data.toList.length = p.size := rfl
    rw [h3] at h2
    simpa using h2.symm
  rw [e]; simp
theorem isS_ok {n : ByteArray} {l : List UInt8} (h0 : n.size ≠ 0) (h1 : n.size ≤ 12) (hp : mdic.data.toList <+: l) (h5 : 5 ≤ l.length) (h6 : l.length ≤ 2004) : isS n l = 0 := by
  unfold isS
  rw [if_neg (by omega), if_neg]
  rw [pfx_of (s := ⟨l.toArray⟩) (by simpa using hp)]
  simp; omega
theorem sh0_load (n : ByteArray) (l : List UInt8) (h : isS n l = 0) : sh0.load n l = (⟨1, [(1, ⟨l.drop 4, true, 0⟩)], [(n, 1)]⟩, 1, 0, 0) := by
  unfold Shs.load
  rw [if_pos h]
  rfl
theorem is_n (name : ByteArray) (a : Option Addr) (n cap : Nat) (l : List UInt8) (w : World) (h : SlR w 1 (.slice a n cap) n (l.map u8c)) (hn : name.size ≤ 9223372036854775807) (hb : l.length ≤ 140737488355328) :
    Calls Tryz.prog 57 #[.string name, .slice a n cap] w fun e w' => e = .returned (.int .i64 (isS name l)) ∧ w = w' := by
  obtain rfl : n = l.length := by have := h.1; simpa using this.symm
  exact is_any name a cap l w h hn hb
theorem load_n {F : Nat → Prop} {s : Nat} (S : Shs) (hok : S.Ok) (hlast : S.last < 4611686018427387904) (nm : ByteArray) (a : Option Addr) (n cap : Nat) (l : List UInt8) (w : World) (h : ShelfAt F w s S)
    (hb : SlR w 1 (.slice a n cap) n (l.map u8c)) (hF : ∀ b, (Value.slice a n cap).ownBlock = some b → ¬ F b) (hn : nm.size ≤ 9223372036854775807) (hl : l.length ≤ 140737488355328) :
    Calls Tryz.prog 58 #[.pointer (some ⟨s, 0, none⟩), .string nm, .slice a n cap] w (LoadPost F w s S nm l) := by
  obtain rfl : n = l.length := by have := hb.1; simpa using this.symm
  exact load_any S hok hlast nm a cap l w h hb hF hn hl
theorem lit_sl (w : World) (l : List UInt8) (cells : Array Value) (hc : cells = (l.map u8c).toArray) (fr : Nat × Nat) (hfr : fr = (0, 0) ∨ cells.size ≤ fr.1) (n : Nat) (hn : n = l.length) (hb : l.length ≤ 140737488355328) :
    SlR (w.alloc (.cells cells 5 fr)) 1 (.slice (some ⟨w.heap.size, 0, none⟩) n n) n (l.map u8c) := (lit_own w l cells hc fr hfr n hn hb).sl
theorem kp_lit (w : World) (o : Obj) : Kp (fun _ => False) w (w.alloc o) := (Kp.refl _ _).alloc _
end Go.Proofs.YtmioiaeiflbmhaaGreat.Sh
namespace Go.Hf
structure Tr where
  n : Nat
  m : Nat
  s : List Nat
def Lt (a b : Tr) : Prop := a.n < b.n ∨ (a.n = b.n ∧ a.m < b.m)
def bump (s : List Nat) (L : Nat → Nat) : Nat → Nat := fun i => L i + s.count i
structure Joins (a b c : Tr) : Prop where
  n : c.n = a.n + b.n
  m : c.m = min a.m b.m
  s : c.s.Perm (a.s ++ b.s)
inductive Run : List Tr → (Nat → Nat) → (Nat → Nat) → Prop
  | stop {F : List Tr} {L : Nat → Nat} (h : F.length ≤ 1) : Run F L L
  | step {F : List Tr} {L L' : Nat → Nat} {a b c : Tr} {r r' : List Tr} (hp : F.Perm (a :: b :: r)) (ha : ∀ t, t ∈ b :: r → Lt a t) (hb : ∀ t, t ∈ r → Lt b t) (hc : Joins a b c) (hr : r'.Perm (c :: r)) (h : Run r' (bump c.s L) L') : Run F L L'
def key (t : Tr) : Nat × Nat × (Nat → Nat) := (t.n, t.m, fun i => t.s.count i)
def KLt (a b : Nat × Nat × (Nat → Nat)) : Prop := a.1 < b.1 ∨ (a.1 = b.1 ∧ a.2.1 < b.2.1)
theorem min_same {α : Type} {lt : α → α → Prop} (hasym : ∀ a b, lt a b → lt b a → False) {x x' : α} {K K' : List α} (hp : (x :: K).Perm (x' :: K')) (h : ∀ y, y ∈ K → lt x y) (h' : ∀ y, y ∈ K' → lt x' y) : x = x' ∧ K.Perm K' := by
  have hx : x = x' := by
    have h1 : x ∈ x' :: K' := hp.subset List.mem_cons_self
    have h2 : x' ∈ x :: K := hp.symm.subset List.mem_cons_self
    rcases List.mem_cons.1 h1 with e | e
    · exact e
    · rcases List.mem_cons.1 h2 with q | q
      · exact q.symm
      · exact (hasym _ _ (h' x e) (h x' q)).elim
  subst hx
  exact ⟨rfl, (List.perm_cons x).1 hp⟩
theorem key_joins {a b c a' b' c' : Tr} (h : Joins a b c) (h' : Joins a' b' c') (ha : key a = key a') (hb : key b = key b') : key c = key c' := by
  simp only [key, Prod.mk.injEq] at ha hb ⊢
  refine ⟨by rw [h.n, h'.n, ha.1, hb.1], by rw [h.m, h'.m, ha.2.1, hb.2.1], ?_⟩
  funext i
  rw [h.s.count_eq, h'.s.count_eq, List.count_append, List.count_append]
  have e1 := congrFun ha.2.2 i
  have e2 := congrFun hb.2.2 i
  rw [e1, e2]
theorem bump_key {c c' : Tr} (h : key c = key c') (L : Nat → Nat) : bump c.s L = bump c'.s L := by
  simp only [key, Prod.mk.injEq] at h
  funext i
  have := congrFun h.2.2 i
  unfold bump
  rw [this]
theorem Run.det {F F' : List Tr} {L L1 L2 : Nat → Nat} (h : Run F L L1) (h' : Run F' L L2) (hk : (F.map key).Perm (F'.map key)) : L1 = L2 := by
  induction h generalizing F' with
  | stop hl =>
    cases h' with
    | stop _ => rfl
    | step hp _ _ _ _ _ =>
      have := hk.length_eq
      have q := hp.length_eq
      simp only [List.length_map, List.length_cons] at this q
      omega
  | step hp ha hb hc hr _ ih =>
    rename_i F0 L0 L0' a b c r r' _
    cases h' with
    | stop hl =>
      have := hk.length_eq
      have q := hp.length_eq
      simp only [List.length_map, List.length_cons] at this q
      omega
    | step hp' ha' hb' hc' hr' h2 =>
      rename_i a' b' c' s s'
      have k1 : (key a :: key b :: r.map key).Perm (key a' :: key b' :: s.map key) := ((hp.map key).symm.trans hk).trans (hp'.map key)
      have hasym : ∀ a b, KLt a b → KLt b a → False := fun a b h k => by unfold KLt at h k; omega
      obtain ⟨e1, k2⟩ := min_same hasym k1 (fun y hy => by
        rcases List.mem_cons.1 hy with rfl | hy
        · exact ha b List.mem_cons_self
        · obtain ⟨t, ht, rfl⟩ := List.mem_map.1 hy; exact ha t (List.mem_cons_of_mem _ ht)) (fun y hy => by
        rcases List.mem_cons.1 hy with rfl | hy
        · exact ha' b' List.mem_cons_self
        · obtain ⟨t, ht, rfl⟩ := List.mem_map.1 hy; exact ha' t (List.mem_cons_of_mem _ ht))
      obtain ⟨e2, k3⟩ := min_same hasym k2 (fun y hy => by obtain ⟨t, ht, rfl⟩ := List.mem_map.1 hy; exact hb t ht) (fun y hy => by obtain ⟨t, ht, rfl⟩ := List.mem_map.1 hy; exact hb' t ht)
      have e3 := key_joins hc hc' e1 e2
      rw [← bump_key e3] at h2
      refine ih h2 ?_
      refine ((hr.map key).trans ?_).trans (hr'.map key).symm
      simp only [List.map_cons]
      rw [e3]
      exact k3.cons _
end Go.Hf
namespace Go.Hf
theorem sum_perm {l l' : List Nat} (h : l.Perm l') : l.sum = l'.sum := h.sum_nat
theorem Joins.mem_s {a b c : Tr} (h : Joins a b c) {i : Nat} : i ∈ c.s ↔ i ∈ a.s ∨ i ∈ b.s := by rw [h.s.mem_iff, List.mem_append]
structure Fst (N S : Nat) (F0 F : List Tr) (L : Nat → Nat) : Prop where
  nd : (F.flatMap Tr.s).Nodup
  mem : ∀ t, t ∈ F → t.m ∈ t.s
  lt : ∀ t, t ∈ F → ∀ i, i ∈ t.s → i < N
  sum : (F.map Tr.n).sum = S
  len : ∀ i, L i + F.length ≤ N
  tot : (F.map fun t => t.s.length).sum ≤ N
  run : ∀ L', Run F L L' → Run F0 (fun _ => 0) L'
theorem Fst.perm {N S : Nat} {F0 F F' : List Tr} {L : Nat → Nat} (h : Fst N S F0 F L) (hp : F.Perm F') : Fst N S F0 F' L where
  nd := ((hp.flatMap_right Tr.s).nodup_iff).1 h.nd
  mem t ht := h.mem t (hp.mem_iff.2 ht)
  lt t ht := h.lt t (hp.mem_iff.2 ht)
  sum := by rw [← h.sum]; exact (sum_perm (hp.map Tr.n)).symm
  len i := by have := h.len i; rw [hp.length_eq] at this; exact this
  tot := by rw [sum_perm (hp.symm.map fun t => t.s.length)]; exact h.tot
  run L' hr := h.run L' (by
    cases hr with
    | stop hl => exact .stop (by rw [hp.length_eq]; exact hl)
    | step q ha hb hc hr' h' => exact .step (hp.trans q) ha hb hc hr' h')
theorem nodup_app {α : Type} {l m : List α} : (l ++ m).Nodup ↔ l.Nodup ∧ m.Nodup ∧ ∀ x, x ∈ l → x ∈ m → False := by
  rw [List.nodup_append]
  exact ⟨fun ⟨a, b, c⟩ => ⟨a, b, fun x hx hy => c x hx x hy rfl⟩, fun ⟨a, b, c⟩ => ⟨a, b, fun x hx y hy e => c x hx (e ▸ hy)⟩⟩
theorem Fst.ne {N S : Nat} {F0 r : List Tr} {a : Tr} {L : Nat → Nat} (h : Fst N S F0 (a :: r) L) {t : Tr} (ht : t ∈ r) : a.m ≠ t.m := by
  have h1 := h.nd
  rw [List.flatMap_cons, nodup_app] at h1
  intro e
  exact h1.2.2 a.m (h.mem a List.mem_cons_self) (List.mem_flatMap.2 ⟨t, ht, e ▸ h.mem t (List.mem_cons_of_mem _ ht)⟩)
theorem Lt.of_not {a b : Tr} (h : ¬ Lt b a) (hne : a.m ≠ b.m) : Lt a b := by unfold Lt at *; omega
theorem count_le_one {l : List Nat} (h : l.Nodup) (i : Nat) : l.count i ≤ 1 := List.nodup_iff_count.1 h i
theorem Fst.step {N S : Nat} {F0 F r r' : List Tr} {L : Nat → Nat} {a b c : Tr} (h : Fst N S F0 F L) (hp : F.Perm (a :: b :: r)) (ha : ∀ t, t ∈ b :: r → ¬ Lt t a) (hb : ∀ t, t ∈ r → ¬ Lt t b) (hc : Joins a b c) (hr : r'.Perm (c :: r)) :
    Fst N S F0 r' (bump c.s L) := by
  have h1 := h.perm hp
  have hnd := h1.nd
  rw [List.flatMap_cons, List.flatMap_cons] at hnd
  have hcr : (c.s ++ r.flatMap Tr.s).Perm (a.s ++ (b.s ++ r.flatMap Tr.s)) := by rw [← List.append_assoc]; exact hc.s.append_right _
  have hcn : (c.s ++ r.flatMap Tr.s).Nodup := (hcr.nodup_iff).2 hnd
  have h2 : Fst N S F0 (a :: b :: r) L := h1
  have hb2 : ∀ t, t ∈ r → b.m ≠ t.m := fun t ht => by
    have h3 := hnd
    rw [nodup_app] at h3
    have h4 := h3.2.1
    rw [nodup_app] at h4
    intro e
    exact h4.2.2 b.m (h1.mem b (by simp)) (List.mem_flatMap.2 ⟨t, ht, e ▸ h1.mem t (by simp [ht])⟩)
  have base : Fst N S F0 (c :: r) (bump c.s L) := by
    refine ⟨by rw [List.flatMap_cons]; exact hcn, ?_, ?_, ?_, ?_, ?_, ?_⟩
    · intro t ht
      rcases List.mem_cons.1 ht with rfl | ht
      · rw [hc.m, hc.mem_s]
        have e1 := h1.mem a (by simp)
        have e2 := h1.mem b (by simp)
        rcases Nat.le_total a.m b.m with q | q
        · rw [Nat.min_eq_left q]; exact .inl e1
        · rw [Nat.min_eq_right q]; exact .inr e2
      · exact h1.mem t (by simp [ht])
    · intro t ht i hi
      rcases List.mem_cons.1 ht with rfl | ht
      · rcases hc.mem_s.1 hi with q | q
        · exact h1.lt a (by simp) i q
        · exact h1.lt b (by simp) i q
      · exact h1.lt t (by simp [ht]) i hi
    · rw [← h1.sum]; simp [hc.n]; omega
    · intro i
      have e1 := h1.len i
      have e2 := count_le_one (nodup_app.1 hcn).1 i
      simp only [List.length_cons] at e1 ⊢
      unfold bump
      omega
    · have e1 := h1.tot
      have e2 := hc.s.length_eq
      simp only [List.map_cons, List.sum_cons, List.length_append] at e1 e2 ⊢
      omega
    · intro L' hr'
      exact h1.run L' (.step (List.Perm.refl _) (fun t ht => Lt.of_not (ha t ht) (Fst.ne h2 ht)) (fun t ht => Lt.of_not (hb t ht) (hb2 t ht)) hc (List.Perm.refl _) hr')
  exact base.perm hr.symm
theorem Fst.done {N S : Nat} {F0 F : List Tr} {L : Nat → Nat} (h : Fst N S F0 F L) (hl : F.length ≤ 1) : Run F0 (fun _ => 0) L := h.run L (.stop hl)
theorem sum_mem {α : Type} {f : α → Nat} {l : List α} {x : α} (h : x ∈ l) : f x ≤ (l.map f).sum := by
  induction l with
  | nil => cases h
  | cons y l ih =>
    simp only [List.map_cons, List.sum_cons]
    rcases List.mem_cons.1 h with rfl | h
    · omega
    · have := ih h; omega
theorem Fst.size {N S : Nat} {F0 F : List Tr} {L : Nat → Nat} (h : Fst N S F0 F L) {t : Tr} (ht : t ∈ F) : t.s.length ≤ N := Nat.le_trans (sum_mem (f := fun t : Tr => t.s.length) ht) h.tot
theorem Fst.count {N S : Nat} {F0 F : List Tr} {L : Nat → Nat} (h : Fst N S F0 F L) {t : Tr} (ht : t ∈ F) : t.n ≤ S := by rw [← h.sum]; exact sum_mem ht
theorem Fst.two {N S : Nat} {F0 F r : List Tr} {L : Nat → Nat} {a b : Tr} (h : Fst N S F0 F L) (hp : F.Perm (a :: b :: r)) : a.n + b.n ≤ S ∧ a.s.length + b.s.length ≤ N := by
  have h1 := (h.perm hp).sum
  have h2 := (h.perm hp).tot
  simp only [List.map_cons, List.sum_cons] at h1 h2
  omega
/-! ### the trees of counts -/
def leaf (i c : Nat) : Tr := ⟨c, i, [i]⟩
def forestFrom : Nat → List Nat → List Tr
  | _, [] => []
  | k, c :: l => if 0 < c then leaf k c :: forestFrom (k + 1) l else forestFrom (k + 1) l
def forest (l : List Nat) : List Tr := forestFrom 0 l
theorem forestFrom_snoc (k : Nat) (l : List Nat) (c : Nat) : forestFrom k (l ++ [c]) = forestFrom k l ++ (if 0 < c then [leaf (k + l.length) c] else []) := by
  induction l generalizing k with
  | nil => simp [forestFrom]
  | cons d l ih =>
    simp only [List.cons_append, forestFrom, ih, List.length_cons]
    rw [show k + 1 + l.length = k + (l.length + 1) by omega]
    split <;> rfl
theorem forest_snoc (l : List Nat) (c : Nat) : forest (l ++ [c]) = forest l ++ (if 0 < c then [leaf l.length c] else []) := by
  unfold forest; rw [forestFrom_snoc, Nat.zero_add]
theorem mem_forestFrom {k : Nat} {l : List Nat} {t : Tr} (h : t ∈ forestFrom k l) : ∃ j, ∃ h : j < l.length, t = leaf (k + j) l[j] ∧ 0 < l[j] := by
  induction l generalizing k with
  | nil => cases h
  | cons c l ih =>
    simp only [forestFrom] at h
    split at h
    · rename_i hc
      rcases List.mem_cons.1 h with rfl | h
      · exact ⟨0, by simp, by simp, by simpa using hc⟩
      · obtain ⟨j, hj, e, q⟩ := ih h
        exact ⟨j + 1, by simp only [List.length_cons]; omega, by rw [e]; simp only [List.getElem_cons_succ]; congr 1; omega, by simpa using q⟩
    · obtain ⟨j, hj, e, q⟩ := ih h
      exact ⟨j + 1, by simp only [List.length_cons]; omega, by rw [e]; simp only [List.getElem_cons_succ]; congr 1; omega, by simpa using q⟩
theorem forestFrom_at {k : Nat} {l : List Nat} {j : Nat} (hj : j < l.length) (h : 0 < l[j]) : leaf (k + j) l[j] ∈ forestFrom k l := by
  induction l generalizing k j with
  | nil => simp at hj
  | cons c l ih =>
    simp only [forestFrom]
    cases j with
    | zero => simp only [List.getElem_cons_zero] at h ⊢; rw [if_pos h]; simp
    | succ j =>
      simp only [List.getElem_cons_succ] at h ⊢
      have := ih (k := k + 1) (by simpa using hj) h
      rw [show k + 1 + j = k + (j + 1) by omega] at this
      split
      · exact List.mem_cons_of_mem _ this
      · exact this
theorem forestFrom_syms {k : Nat} {l : List Nat} : (forestFrom k l).flatMap Tr.s = (forestFrom k l).map Tr.m := by
  induction l generalizing k with
  | nil => rfl
  | cons c l ih => simp only [forestFrom]; split <;> simp [ih, leaf]
theorem forestFrom_ge {k : Nat} {l : List Nat} {t : Tr} (h : t ∈ forestFrom k l) : k ≤ t.m := by
  obtain ⟨j, _, rfl, _⟩ := mem_forestFrom h
  simp [leaf]
theorem forestFrom_nodup {k : Nat} {l : List Nat} : ((forestFrom k l).map Tr.m).Nodup := by
  induction l generalizing k with
  | nil => simp [forestFrom]
  | cons c l ih =>
    simp only [forestFrom]
    split
    · rw [List.map_cons, List.nodup_cons]
      refine ⟨fun hm => ?_, ih⟩
      obtain ⟨t, ht, e⟩ := List.mem_map.1 hm
      have := forestFrom_ge ht
      simp [leaf] at e
      omega
    · exact ih
theorem forestFrom_length {k : Nat} {l : List Nat} : (forestFrom k l).length ≤ l.length := by
  induction l generalizing k with
  | nil => simp [forestFrom]
  | cons c l ih => have := ih (k := k + 1); simp only [forestFrom]; split <;> simp <;> omega
theorem forestFrom_sum {k : Nat} {l : List Nat} : ((forestFrom k l).map Tr.n).sum = l.sum := by
  induction l generalizing k with
  | nil => rfl
  | cons c l ih => simp only [forestFrom]; split <;> simp [ih, leaf]; omega
theorem forestFrom_tot {k : Nat} {l : List Nat} : ((forestFrom k l).map fun t => t.s.length).sum ≤ l.length := by
  induction l generalizing k with
  | nil => simp [forestFrom]
  | cons c l ih => have := ih (k := k + 1); simp only [forestFrom]; split <;> simp [leaf] <;> omega
theorem Fst.start (cs : List Nat) : Fst cs.length cs.sum (forest cs) (forest cs) (fun _ => 0) where
  nd := by unfold forest; rw [forestFrom_syms]; exact forestFrom_nodup
  mem t ht := by obtain ⟨j, _, rfl, _⟩ := mem_forestFrom ht; simp [leaf]
  lt t ht i hi := by obtain ⟨j, hj, rfl, _⟩ := mem_forestFrom ht; simp [leaf] at hi; omega
  sum := forestFrom_sum
  len i := by have := forestFrom_length (k := 0) (l := cs); unfold forest; omega
  tot := forestFrom_tot
  run L' h := h
/-! ### how long codes become -/
def fib : Nat → Nat
  | 0 => 0
  | 1 => 1
  | n + 2 => fib (n + 1) + fib n
theorem fib_step (n : Nat) : fib (n + 2) = fib (n + 1) + fib n := rfl
theorem fib_mono_one (n : Nat) : fib n ≤ fib (n + 1) := by
  induction n with
  | zero => simp [fib]
  | succ n ih => rw [fib_step n]; omega
theorem fib_mono {a b : Nat} (h : a ≤ b) : fib a ≤ fib b := by
  induction h with
  | refl => exact Nat.le_refl _
  | step _ ih => exact Nat.le_trans ih (fib_mono_one _)
structure Hgt (lo : Nat) (F : List Tr) (L : Nat → Nat) : Prop where
  own : ∀ t, t ∈ F → ∀ i, i ∈ t.s → fib (L i + 2) * lo ≤ t.n
  oth : ∀ t u r, F.Perm (t :: u :: r) → ∀ i, i ∈ t.s → fib (L i + 1) * lo ≤ u.n
  out : ∀ i, 0 < L i → ∃ t, t ∈ F ∧ i ∈ t.s
theorem Lt.le {a b : Tr} (h : Lt a b) : a.n ≤ b.n := by unfold Lt at h; omega
theorem perm_pick {α : Type} {l : List α} {t u : α} (ht : t ∈ l) (hu : u ∈ l) (hne : t ≠ u) : ∃ r, l.Perm (t :: u :: r) := by
  obtain ⟨l1, h1⟩ : ∃ l1, l.Perm (t :: l1) := by
    obtain ⟨x, y, rfl⟩ := List.append_of_mem ht
    exact ⟨x ++ y, List.perm_middle⟩
  have hu1 : u ∈ l1 := by
    rcases List.mem_cons.1 (h1.mem_iff.1 hu) with e | e
    · exact (hne e.symm).elim
    · exact e
  obtain ⟨x, y, rfl⟩ := List.append_of_mem hu1
  exact ⟨x ++ y, h1.trans (List.Perm.cons t List.perm_middle)⟩
theorem bump_not {s : List Nat} {i : Nat} (h : i ∉ s) (L : Nat → Nat) : bump s L i = L i := by unfold bump; rw [List.count_eq_zero_of_not_mem h]; rfl
theorem Run.heights {lo : Nat} {F : List Tr} {L L' : Nat → Nat} (h : Run F L L') (hn : (F.flatMap Tr.s).Nodup) (hh : Hgt lo F L) : ∀ i, 0 < L' i → fib (L' i + 2) * lo ≤ (F.map Tr.n).sum := by
  induction h with
  | stop hl =>
    rename_i F L
    intro i hi
    obtain ⟨t, ht, hit⟩ := hh.out i hi
    have h1 := hh.own t ht i hit
    obtain ⟨x, y, rfl⟩ := List.append_of_mem ht
    have hp : (x ++ t :: y).Perm (t :: (x ++ y)) := List.perm_middle
    rw [sum_perm (hp.map Tr.n)]
    simp only [List.map_cons, List.sum_cons]
    omega
  | step hp ha hb hc hr hrun ih =>
    rename_i F L L' a b c r r'
    have hnd := ((hp.flatMap_right Tr.s).nodup_iff).1 hn
    rw [List.flatMap_cons, List.flatMap_cons] at hnd
    have hcr : (c.s ++ r.flatMap Tr.s).Perm (a.s ++ (b.s ++ r.flatMap Tr.s)) := by rw [← List.append_assoc]; exact hc.s.append_right _
    have hcn : (c.s ++ r.flatMap Tr.s).Nodup := (hcr.nodup_iff).2 hnd
    have hcs := (nodup_app.1 hcn).1
    have hsum : (F.map Tr.n).sum = (r'.map Tr.n).sum := by
      rw [sum_perm (hp.map Tr.n), sum_perm (hr.map Tr.n)]
      simp [hc.n]; omega
    rw [hsum]
    have hab : a.n ≤ b.n := (ha b (by simp)).le
    have hnew : ∀ i, i ∈ c.s → fib (L i + 2) * lo ≤ b.n ∧ fib (L i + 1 + 2) * lo ≤ c.n := by
      intro i hi
      have e : fib (L i + 1 + 2) * lo = fib (L i + 2) * lo + fib (L i + 1) * lo := by
        rw [show L i + 1 + 2 = (L i + 1) + 2 from rfl, fib_step (L i + 1), Nat.add_mul]
      rw [e, hc.n]
      rcases hc.mem_s.1 hi with q | q
      · have h1 := hh.own a (hp.mem_iff.2 (by simp)) i q
        have h2 := hh.oth a b r hp i q
        omega
      · have h1 := hh.own b (hp.mem_iff.2 (by simp)) i q
        have h2 := hh.oth b a r (hp.trans (List.Perm.swap _ _ _)) i q
        omega
    have hcnt : ∀ i, i ∈ c.s → bump c.s L i = L i + 1 := fun i hi => by
      have := List.count_pos_iff.2 hi
      have := count_le_one hcs i
      unfold bump; omega
    have hnot : ∀ t, t ∈ r → ∀ i, i ∈ t.s → bump c.s L i = L i := fun t ht i hi => bump_not (fun hic => (nodup_app.1 hcn).2.2 i hic (List.mem_flatMap.2 ⟨t, ht, hi⟩)) L
    refine ih (((hr.flatMap_right Tr.s).nodup_iff).2 (by rw [List.flatMap_cons]; exact hcn)) ⟨?_, ?_, ?_⟩
    · intro t ht i hi
      rcases List.mem_cons.1 (hr.mem_iff.1 ht) with rfl | ht
      · rw [hcnt i hi]; exact (hnew i hi).2
      · rw [hnot t ht i hi]; exact hh.own t (hp.mem_iff.2 (by simp [ht])) i hi
    · intro t u q hq i hi
      have h3 : (c :: r).Perm (t :: u :: q) := hr.symm.trans hq
      have hub : ∀ v, v ∈ r → b.n ≤ v.n := fun v hv => (hb v hv).le
      by_cases htc : t = c
      · subst htc
        have h4 : r.Perm (u :: q) := (List.perm_cons t).1 h3
        have h5 := hub u (h4.mem_iff.2 (by simp))
        rw [hcnt i hi]
        have := (hnew i hi).1
        exact Nat.le_trans this h5
      · have htr : t ∈ r := by
          rcases List.mem_cons.1 (h3.mem_iff.2 (List.mem_cons_self)) with e | e
          · exact (htc e).elim
          · exact e
        rw [hnot t htr i hi]
        by_cases huc : u = c
        · subst huc
          obtain ⟨x, y, rfl⟩ := List.append_of_mem htr
          have h6 : F.Perm (t :: a :: (b :: (x ++ y))) := by
            refine hp.trans ?_
            have : (x ++ t :: y).Perm (t :: (x ++ y)) := List.perm_middle
            refine ((this.cons b).cons a).trans ?_
            refine ((List.Perm.swap t b _).cons a).trans ?_
            exact List.Perm.swap t a _
          have := hh.oth t a _ h6 i hi
          rw [hc.n]; omega
        · have h7 : ∃ q', r.Perm (t :: u :: q') := by
            have hcq : c ∈ t :: u :: q := h3.mem_iff.1 (by simp)
            have hcq' : c ∈ q := by
              rcases List.mem_cons.1 hcq with e | e
              · exact (htc e.symm).elim
              · rcases List.mem_cons.1 e with e | e
                · exact (huc e.symm).elim
                · exact e
            obtain ⟨x, y, rfl⟩ := List.append_of_mem hcq'
            refine ⟨x ++ y, (List.perm_cons c).1 (h3.trans ?_)⟩
            have : (x ++ c :: y).Perm (c :: (x ++ y)) := List.perm_middle
            refine ((this.cons u).cons t).trans ?_
            refine ((List.Perm.swap c u _).cons t).trans ?_
            exact List.Perm.swap c t _
          obtain ⟨q', h7⟩ := h7
          have h8 : F.Perm (t :: u :: (a :: b :: q')) := by
            refine hp.trans ?_
            refine ((h7.cons b).cons a).trans ?_
            have e1 : (a :: b :: t :: u :: q') = [a, b] ++ ([t, u] ++ q') := rfl
            have e2 : (t :: u :: a :: b :: q') = [t, u] ++ ([a, b] ++ q') := rfl
            rw [e1, e2, ← List.append_assoc, ← List.append_assoc]
            exact (List.perm_append_comm).append_right q'
          exact hh.oth t u _ h8 i hi
    · intro i hi
      by_cases hic : i ∈ c.s
      · exact ⟨c, hr.mem_iff.2 (by simp), hic⟩
      · rw [bump_not hic] at hi
        obtain ⟨t, ht, hit⟩ := hh.out i hi
        have ht' := hp.mem_iff.1 ht
        rcases List.mem_cons.1 ht' with rfl | ht'
        · exact (hic (hc.mem_s.2 (.inl hit))).elim
        · rcases List.mem_cons.1 ht' with rfl | ht'
          · exact (hic (hc.mem_s.2 (.inr hit))).elim
          · exact ⟨t, hr.mem_iff.2 (by simp [ht']), hit⟩
theorem Hgt.start {lo : Nat} (cs : List Nat) (hlo : ∀ c, c ∈ cs → 0 < c → lo ≤ c) : Hgt lo (forest cs) (fun _ => 0) := by
  have key : ∀ t, t ∈ forest cs → lo ≤ t.n := fun t ht => by
    obtain ⟨j, hj, rfl, h⟩ := mem_forestFrom ht
    exact hlo _ (List.getElem_mem hj) h
  refine ⟨fun t ht i _ => ?_, fun t u r hp i _ => ?_, fun i h => by simp at h⟩
  · have := key t ht; simpa [fib] using this
  · have := key u (hp.mem_iff.2 (by simp)); simpa [fib] using this
theorem heights {lo : Nat} {cs : List Nat} (hlo : ∀ c, c ∈ cs → 0 < c → lo ≤ c) {L : Nat → Nat} (h : Run (forest cs) (fun _ => 0) L) {i : Nat} (hi : 0 < L i) : fib (L i + 2) * lo ≤ cs.sum := by
  have := h.heights (Fst.start cs).nd (Hgt.start cs hlo) i hi
  rwa [(Fst.start cs).sum] at this
end Go.Hf
