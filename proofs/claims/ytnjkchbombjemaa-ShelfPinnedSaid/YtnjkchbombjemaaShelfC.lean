/- The walks of shelf: Pin, Unpin, Refs, Size, Bytes; a nil Shelf. -/
import Derived.Test.YtnjkchbombjemaaShelfB
namespace Go.Proofs.Ytnjkchbombjemaa.Sh
open Go Go.RowKit Go.ChangeMaps Go.MapKept Go.Mg

/-! ### Pin -/
def Shs.pin (S : Shs) (n : ByteArray) : Shs × Int × List UInt8 × Int :=
  match AL.get S.names n with
  | none => (S, 0, [], 5)
  | some id =>
    match AL.get S.books id with
    | none => (S, 0, [], 5)
    | some k => ({ S with books := AL.put S.books id { k with pins := k.pins + 1 } }, id, k.data, 0)
def PinPost (F : Nat → Prop) (w : World) (s : Nat) (S : Shs) (n : ByteArray) (e : Ending) (w' : World) : Prop :=
  ∃ a c, e = .returned (.tuple #[.int .i64 (S.pin n).2.1, .slice a (S.pin n).2.2.1.length c, .int .i64 (S.pin n).2.2.2]) ∧ ShelfAt F w' s (S.pin n).1 ∧ Kp F w w' ∧
    OwnR w' 5 1 (.slice a (S.pin n).2.2.1.length c) (S.pin n).2.2.1.length ((S.pin n).2.2.1.map u8c) ∧ (∀ b, (Value.slice a (S.pin n).2.2.1.length c).ownBlock = some b → w.heap.size ≤ b)

theorem look_id {F : Nat → Prop} {w : World} {s bm nm last : Nat} {bl : List (Int × (Nat × Bk))} {names : List (ByteArray × Int)} (h : ShelfRaw F w s bm nm last bl names) {id : Int} {b : Nat} {k : Bk} (hg : AL.get bl id = some (b, k)) :
    (Instr.lookup 56 (.map (some bm)) (.int .i64 id) false).run Try.prog w = .ok (.pointer (some ⟨b, 0, none⟩)) w := by
  have := h.books.look (P := Try.prog) key_int Try.underlying56 Try.underlying3 (zero61 w) id false
  rw [this, hg]; rfl
theorem get_bl {S : Shs} {bl : List (Int × (Nat × Bk))} (hb : S.books = absB bl) {id : Int} {k : Bk} (hg : AL.get S.books id = some k) : ∃ b, AL.get bl id = some (b, k) := by
  rw [hb, get_abs] at hg
  cases hq : AL.get bl id with
  | none => rw [hq] at hg; cases hg
  | some e => rw [hq] at hg; cases hg; exact ⟨e.1, rfl⟩

set_option maxHeartbeats 1000000 in
theorem pin_any {F : Nat → Prop} {s : Nat} (S : Shs) (hok : S.Ok) (hp : ∀ id k, AL.get S.books id = some k → k.pins < 4611686018427387904) (n : ByteArray) (w : World) (h : ShelfAt F w s S) :
    Calls Try.prog 16 #[.pointer (some ⟨s, 0, none⟩), .string n] w (PinPost F w s S n) := by
  cases hg : AL.get S.names n with
  | none =>
    have HS := Lib.hid (show S.pin n = (S, 0, [], 5) by unfold Shs.pin; rw [hg])
    have HZ := Lib.hid (at_zero hok hg)
    clear hg
    go_enter Try.func16, Try.ntmps16
    go_wp2_with (go_at_call 30; refine (at_S n _ h).mono ?_; rw [HZ.out]; rintro e w' ⟨rfl, rfl⟩)
    go_ret3
    exact ⟨none, 0, by rw [HS.out]; rfl, by rw [HS.out]; exact h, Kp.refl _ _, by rw [HS.out]; exact OwnR.nil _ _ _, fun b hb => by cases hb⟩
  | some id =>
    obtain ⟨k, hk, _⟩ := hok.nm n id hg
    have hpos := hok.pos id k hk
    have hpk := hp id k hk
    have HS := Lib.hid (show S.pin n = ({ S with books := AL.put S.books id { k with pins := k.pins + 1 } }, id, k.data, 0) by unfold Shs.pin; rw [hg]; simp only [hk])
    have HA := Lib.hid (show (AL.get S.names n).getD 0 = id by rw [hg]; rfl)
    have hid : (id == 0) = false := by simp; omega
    have hSA := h
    obtain ⟨bm, nm, bl, h, hb⟩ := h
    obtain ⟨b, hgb⟩ := get_bl hb hk
    have hl := look_id h hgb
    have c0 := h.cell0
    obtain ⟨hFb, hk2000, dv, hbk, hown, hdv⟩ := h.each _ (AL.get_mem hgb)
    simp only at hFb hk2000 hbk hown hdv
    obtain ⟨a0, cap0, rfl⟩ := hown.form
    have c1 : w.cell? ⟨b, 2, none⟩ = some (.int .i64 k.pins) := by rw [cell_of hbk]; rfl
    have f1 : w.frozen? ⟨b, 2, none⟩ = false := free_of hbk 2
    have hkk : Kp (· = b) w (w.setCell ⟨b, 2, none⟩ (.int .i64 ((k.pins : Int) + 1))) := (Kp.refl (· = b) w).setCell (p := ⟨b, 2, none⟩) (fun _ => rfl) _
    have hb' := setCell_at (i := 2) hbk (.int .i64 ((k.pins : Int) + 1))
    have hr2 := h.upd hgb hbk hkk (cur := k.cur) (pins := k.pins + 1) hb'
    have c2 : (w.setCell ⟨b, 2, none⟩ (.int .i64 ((k.pins : Int) + 1))).cell? ⟨b, 0, none⟩ = some (.slice a0 k.data.length cap0) := by rw [cell_of hb']; rfl
    have hown2 : OwnR (w.setCell ⟨b, 2, none⟩ (.int .i64 ((k.pins : Int) + 1))) 5 1 (.slice a0 k.data.length cap0) k.data.length (k.data.map u8c) := by
      obtain ⟨_, _, dv', h3, h4, _⟩ := hr2.each _ (AL.get_mem (by rw [AL.get_put, if_pos rfl] : AL.get (AL.put bl id (b, ⟨k.data, k.cur, k.pins + 1⟩)) id = some _))
      simp only at h3 h4
      rw [hb'] at h3
      cases h3
      exact h4
    have HG := Lib.hid hgb
    have HB := Lib.hid hb
    have Hk := Lib.hid hk
    have HBK := Lib.hid hbk
    have HB' := Lib.hid hb'
    clear hg hgb hb hk hbk hb'
    go_enter Try.func16, Try.ntmps16
    go_wp2_with (first | (go_at_call 30; refine (at_S n _ hSA).mono ?_; rw [HA.out]; rintro e w' ⟨rfl, rfl⟩) | (go_at_call 29; refine (clone_any a0 k.data.length cap0 k.data _ hown2.sl (by omega)).mono ?_; rintro e w3 ⟨a3, c3, rfl, ho3, hk3, hv3⟩))
    go_ret3
    refine ⟨a3, c3, by rw [HS.out]; rfl, ?_, ?_, ?_, ?_⟩
    · rw [HS.out]
      exact ⟨bm, nm, _, hr2.kp hk3 (fun _ _ q => q), by rw [abs_put, HB.out]⟩
    · exact (hkk.mono (fun i _ e => by rw [e]; exact hFb)).trans (hk3.mono (fun i _ e => False.elim e))
    · rw [HS.out]; exact ho3
    · rw [HS.out]; intro g hg
      have := hv3 g hg
      simpa [World.setCell] using this

/-! ### Unpin -/
def Shs.unpin (S : Shs) (id : Int) : Shs × Bool :=
  match AL.get S.books id with
  | none => (S, false)
  | some k => if k.pins = 0 then (S, false) else
    ((({ S with books := AL.put S.books id { k with pins := k.pins - 1 } } : Shs).lets id).1, decide (0 < (({ S with books := AL.put S.books id { k with pins := k.pins - 1 } } : Shs).lets id).2))
def UnpinPost (F : Nat → Prop) (w : World) (s : Nat) (S : Shs) (id : Int) (e : Ending) (w' : World) : Prop :=
  e = .returned (.bool (S.unpin id).2) ∧ ShelfAt F w' s (S.unpin id).1 ∧ Kp F w w'
theorem book_S {F : Nat → Prop} {w : World} {s bm nm last : Nat} {bl : List (Int × (Nat × Bk))} {names : List (ByteArray × Int)} (h : ShelfRaw F w s bm nm last bl names) (id : Int) {v : Value} (hv : ((AL.get bl id).map bev).getD (.pointer none) = v) :
    Calls Try.prog 31 #[.pointer (some ⟨s, 0, none⟩), .int .i64 id] w fun e w' => e = .returned v ∧ w = w' := by
  subst hv; exact book_any id w h
set_option maxHeartbeats 1000000 in
theorem unpin_any {F : Nat → Prop} {s : Nat} (S : Shs) (id : Int) (hp : ∀ k, AL.get S.books id = some k → k.pins < 4611686018427387904) (w : World) (h : ShelfAt F w s S) :
    Calls Try.prog 20 #[.pointer (some ⟨s, 0, none⟩), .int .i64 id] w (UnpinPost F w s S id) := by
  have hSA := h
  obtain ⟨bm, nm, bl, h, hb⟩ := h
  cases hgb : AL.get bl id with
  | none =>
    have HS := Lib.hid (show S.unpin id = (S, false) by unfold Shs.unpin; rw [hb, get_abs, hgb]; rfl)
    have HV := Lib.hid (show ((AL.get bl id).map bev).getD (.pointer none) = .pointer none by rw [hgb]; rfl)
    clear hgb hb
    go_enter Try.func20, Try.ntmps20
    go_wp2_with (go_at_call 31; refine (book_S h id HV.out).mono ?_; rintro e w' ⟨rfl, rfl⟩)
    go_ret
    exact ⟨by rw [HS.out]; rfl, by rw [HS.out]; exact hSA, Kp.refl _ _⟩
  | some x =>
    obtain ⟨b, k⟩ := x
    have hgk : AL.get S.books id = some k := by rw [hb, get_abs, hgb]; rfl
    have hpk := hp k hgk
    have HV := Lib.hid (show ((AL.get bl id).map bev).getD (.pointer none) = .pointer (some ⟨b, 0, none⟩) by rw [hgb]; rfl)
    obtain ⟨hFb, hk2000, dv, hbk, hown, hdv⟩ := h.each _ (AL.get_mem hgb)
    simp only at hFb hk2000 hbk hown hdv
    have c1 : w.cell? ⟨b, 2, none⟩ = some (.int .i64 k.pins) := by rw [cell_of hbk]; rfl
    have f1 : w.frozen? ⟨b, 2, none⟩ = false := free_of hbk 2
    by_cases h0 : k.pins = 0
    · have HS := Lib.hid (show S.unpin id = (S, false) by unfold Shs.unpin; rw [hgk]; simp only [h0, if_true])
      have hz : ((k.pins : Int) == 0) = true := by simp; omega
      clear hgb hb hbk hgk h0
      go_enter Try.func20, Try.ntmps20
      go_wp2_with (go_at_call 31; refine (book_S h id HV.out).mono ?_; rintro e w' ⟨rfl, rfl⟩)
      go_ret
      exact ⟨by rw [HS.out]; rfl, by rw [HS.out]; exact hSA, Kp.refl _ _⟩
    · have HS := Lib.hid (show S.unpin id = ((({ S with books := AL.put S.books id { k with pins := k.pins - 1 } } : Shs).lets id).1, decide (0 < (({ S with books := AL.put S.books id { k with pins := k.pins - 1 } } : Shs).lets id).2)) by unfold Shs.unpin; rw [hgk]; simp only [h0, if_false])
      have hz : ((k.pins : Int) == 0) = false := by simp; omega
      have hkk : Kp (· = b) w (w.setCell ⟨b, 2, none⟩ (.int .i64 ((k.pins : Int) - 1))) := (Kp.refl (· = b) w).setCell (p := ⟨b, 2, none⟩) (fun _ => rfl) _
      have hb' := setCell_at (i := 2) hbk (.int .i64 ((k.pins : Int) - 1))
      have e1 : ((k.pins : Int) - 1) = ((k.pins - 1 : Nat) : Int) := by omega
      have hr2 := h.upd hgb hbk hkk (cur := k.cur) (pins := k.pins - 1) (by rw [← e1]; exact hb')
      have hS2 : ShelfAt F (w.setCell ⟨b, 2, none⟩ (.int .i64 ((k.pins : Int) - 1))) s { S with books := AL.put S.books id ⟨k.data, k.cur, k.pins - 1⟩ } := ⟨bm, nm, _, hr2, by rw [abs_put, hb]⟩
      have hp1 : (1 : Int) ≤ k.pins := by omega
      clear hgb hb hbk hgk h0 hb' e1 hr2
      go_enter Try.func20, Try.ntmps20
      go_wp2_with (first | (go_at_call 31; refine (book_S h id HV.out).mono ?_; rintro e w' ⟨rfl, rfl⟩) | (go_at_call 32; refine (lets_any _ id _ hS2).mono ?_; rintro e w3 ⟨rfl, h4, h5⟩))
      go_ret
      refine ⟨by rw [HS.out]; rfl, by rw [HS.out]; exact h4, (hkk.mono (fun i _ e => by rw [e]; exact hFb)).trans h5⟩

/-! ### Refs, Size -/
def Shs.refs (S : Shs) (id : Int) : Int := match AL.get S.books id with | none => 0 | some k => k.pins
def Shs.size (S : Shs) (id : Int) : Int := match AL.get S.books id with | none => 0 | some k => k.data.length
set_option maxHeartbeats 1000000 in
theorem refs_any {F : Nat → Prop} {s : Nat} (S : Shs) (id : Int) (w : World) (h : ShelfAt F w s S) :
    Calls Try.prog 24 #[.pointer (some ⟨s, 0, none⟩), .int .i64 id] w fun e w' => e = .returned (.int .i64 (S.refs id)) ∧ w = w' := by
  obtain ⟨bm, nm, bl, h, hb⟩ := h
  cases hgb : AL.get bl id with
  | none =>
    have HS := Lib.hid (show S.refs id = 0 by unfold Shs.refs; rw [hb, get_abs, hgb]; rfl)
    have HV := Lib.hid (show ((AL.get bl id).map bev).getD (.pointer none) = .pointer none by rw [hgb]; rfl)
    clear hgb hb
    go_enter Try.func24, Try.ntmps24
    go_wp2_with (go_at_call 31; refine (book_S h id HV.out).mono ?_; rintro e w' ⟨rfl, rfl⟩)
    go_ret
    exact ⟨by rw [HS.out]; rfl, rfl⟩
  | some x =>
    obtain ⟨b, k⟩ := x
    have HS := Lib.hid (show S.refs id = k.pins by unfold Shs.refs; rw [hb, get_abs, hgb]; rfl)
    have HV := Lib.hid (show ((AL.get bl id).map bev).getD (.pointer none) = .pointer (some ⟨b, 0, none⟩) by rw [hgb]; rfl)
    obtain ⟨hFb, hk2000, dv, hbk, hown, hdv⟩ := h.each _ (AL.get_mem hgb)
    have c1 : w.cell? ⟨b, 2, none⟩ = some (.int .i64 k.pins) := by rw [cell_of hbk]; rfl
    clear hgb hb hbk
    go_enter Try.func24, Try.ntmps24
    go_wp2_with (go_at_call 31; refine (book_S h id HV.out).mono ?_; rintro e w' ⟨rfl, rfl⟩)
    go_ret
    exact ⟨by rw [HS.out]; rfl, rfl⟩
set_option maxHeartbeats 1000000 in
theorem size_any {F : Nat → Prop} {s : Nat} (S : Shs) (id : Int) (w : World) (h : ShelfAt F w s S) :
    Calls Try.prog 19 #[.pointer (some ⟨s, 0, none⟩), .int .i64 id] w fun e w' => e = .returned (.int .i64 (S.size id)) ∧ w = w' := by
  obtain ⟨bm, nm, bl, h, hb⟩ := h
  cases hgb : AL.get bl id with
  | none =>
    have HS := Lib.hid (show S.size id = 0 by unfold Shs.size; rw [hb, get_abs, hgb]; rfl)
    have HV := Lib.hid (show ((AL.get bl id).map bev).getD (.pointer none) = .pointer none by rw [hgb]; rfl)
    clear hgb hb
    go_enter Try.func19, Try.ntmps19
    go_wp2_with (go_at_call 31; refine (book_S h id HV.out).mono ?_; rintro e w' ⟨rfl, rfl⟩)
    go_ret
    exact ⟨by rw [HS.out]; rfl, rfl⟩
  | some x =>
    obtain ⟨b, k⟩ := x
    have HS := Lib.hid (show S.size id = k.data.length by unfold Shs.size; rw [hb, get_abs, hgb]; rfl)
    have HV := Lib.hid (show ((AL.get bl id).map bev).getD (.pointer none) = .pointer (some ⟨b, 0, none⟩) by rw [hgb]; rfl)
    obtain ⟨hFb, hk2000, dv, hbk, hown, hdv⟩ := h.each _ (AL.get_mem hgb)
    obtain ⟨a0, cap0, rfl⟩ := hown.form
    have c1 : w.cell? ⟨b, 0, none⟩ = some (.slice a0 k.data.length cap0) := by rw [cell_of hbk]; rfl
    clear hgb hb hbk
    go_enter Try.func19, Try.ntmps19
    go_wp2_with (go_at_call 31; refine (book_S h id HV.out).mono ?_; rintro e w' ⟨rfl, rfl⟩)
    go_ret
    exact ⟨by rw [HS.out]; rfl, rfl⟩

/-! ### Bytes -/
def sumLen (l : List (Int × (Nat × Bk))) : Nat := (l.map fun p => p.2.2.data.length).sum
def Shs.bytes (S : Shs) : Int := ((S.books.map fun p => p.2.data.length).sum : Nat)
theorem sumLen_perm {l m : List (Int × (Nat × Bk))} (h : l.Perm m) : sumLen l = sumLen m := (h.map _).sum_nat
theorem sumLen_abs {S : Shs} {bl : List (Int × (Nat × Bk))} (hb : S.books = absB bl) : S.bytes = (sumLen bl : Int) := by
  unfold Shs.bytes sumLen; rw [hb]; simp [absB, Function.comp_def]
def BytesPost (w : World) (S : Shs) (e : Ending) (w' : World) : Prop := e = .returned (.int .i64 S.bytes) ∧ Kp (fun _ => False) w w'
set_option maxHeartbeats 1000000 in
theorem bytes_any {F : Nat → Prop} {s : Nat} (S : Shs) (hbig : S.bytes < 4611686018427387904) (w : World) (h : ShelfAt F w s S) :
    Calls Try.prog 17 #[.pointer (some ⟨s, 0, none⟩)] w (BytesPost w S) := by
  obtain ⟨bm, nm, bl, h, hb⟩ := h
  have hS := sumLen_abs hb
  have hlt : sumLen bl < 4611686018427387904 := by omega
  have HS := Lib.hid hS
  have HB := Lib.hid hb
  clear hS hb hbig
  have c0 := h.cell0
  go_enter Try.func17, Try.ntmps17
  go_wp2_with (at_range; refine wpList_mrange _ rfl _ 56 rfl Try.underlying56 bm bl rfl h.books ?_; intro w0 hr0 hk0 hs0)
  go_frame
  go_wp2_with fail
  go_loopw [3] (fun n wr => ∃ left acc : _, RangeAt wr (.int .i64) (Value.int .i64) bev bm w.heap.size bl left ∧ n = .int .i64 ((acc : Nat) : Int) ∧ acc + sumLen left = sumLen bl ∧ Kp (fun _ => False) w wr ∧ ∀ p ∈ left, p ∈ bl) (fun _ wr => rgLeft wr bm w.heap.size)
  case atStart => exact ⟨bl, 0, hr0, rfl, by omega, hk0, fun p hp => hp⟩
  case round =>
    obtain ⟨left, acc, hra, rfl, hsum, hkp, hsub⟩ := hrel
    have Hs := Lib.hid hsum; clear hsum
    go_wp2_with (at_next; refine wpList_mnext _ rfl _ rfl (kv := Value.int .i64) (ev := bev) bm w.heap.size bl left rfl hra ?_ ?_)
    · intro hl0
      have hacc : (acc : Int) = S.bytes := by have := Hs.out; rw [hl0] at this; rw [HS.out]; simp only [sumLen, List.map_nil, List.sum_nil] at this; have h2 : acc = sumLen bl := this; rw [h2]
      have HA := Lib.hid hacc
      clear hl0 hacc
      go_wp2
      go_ret
      exact ⟨by rw [← HA.out]; rfl, hkp⟩
    · intro k a b left' w' hp hr1 hk1 hs1 hen
      have hmem : (k, (a, b)) ∈ bl := hsub _ (hp.mem_iff.2 (by simp))
      obtain ⟨hFb, hk2000, dv, hbk, hown, hdv⟩ := h.each _ hmem
      simp only at hFb hk2000 hbk hown hdv
      obtain ⟨a0, cap0, rfl⟩ := hown.form
      have hlt1 := lt_of_at hbk
      have hbk' := hk1.at_ (hkp.at_ hbk (fun q => q)) (fun e => by omega)
      have c1 : w'.cell? ⟨a, 0, none⟩ = some (.slice a0 b.data.length cap0) := by rw [cell_of hbk']; rfl
      have hsl : sumLen left = b.data.length + sumLen left' := by rw [sumLen_perm hp]; simp [sumLen]
      have hb1 : acc + b.data.length < 4611686018427387904 := by have := Hs.out; omega
      have HN := Lib.hid hsl
      have HP := Lib.hid hp
      have HBK := Lib.hid hbk'
      clear hsl hp hbk hbk'
      simp only [bev] at hen ⊢
      go_wp2
      go_roundw
      case rel => exact ⟨left', acc + b.data.length, hr1, by go_num, by have h1 := Hs.out; have h2 := HN.out; omega, (hkp.trans2 hk1 (fun i hi e => by omega)), fun p hp => hsub p (HP.out.mem_iff.2 (List.mem_cons_of_mem _ hp))⟩
      case measure => rw [hr1.count, hra.count, HP.out.length_eq]; simp
end Go.Proofs.Ytnjkchbombjemaa.Sh
