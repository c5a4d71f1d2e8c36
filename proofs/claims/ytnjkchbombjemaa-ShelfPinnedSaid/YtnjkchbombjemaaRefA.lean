/- The document's Shelf: what its functions compute (the readers). -/
import Derived.Test.YtnjkchbombjemaaOpenS
import Derived.Test.YtnjkchbombjemaaShelfE
namespace Go.Proofs.Ytnjkchbombjemaa.Rf
open Go Go.RowKit Go.ChangeMaps Go.MapKept Go.Mg Go.Proofs.Ytnjkchbombjemaa.Sh Go.Proofs.Ytnjkchbombjemaa.Op
/-- A dictionary that is there; da and dc say where its bytes lie. -/
structure It where
  id : Int
  nm : ByteArray
  data : List UInt8
  cur : Bool
  refs : Int
  da : Option Addr
  dc : Nat
instance : Inhabited It := ⟨⟨0, .empty, [], false, 0, none, 0⟩⟩
def cellsOf (y : It) : List Value := [.int .i64 y.id, .string y.nm, .slice y.da y.data.length y.dc, .bool y.cur, .int .i64 y.refs]
theorem cells_len (y : It) : (cellsOf y).length = 5 := rfl
structure RefRaw (G : Nat → Prop) (w : World) (x : Nat) (a : Option Addr) (c : Nat) (last : Int) (R : List It) : Prop where
  hx : w.heap[x]? = some (.cells #[.slice a R.length c, .int .i64 last] 48 (0, 0))
  gx : G x
  own : OwnR w 74 5 (.slice a R.length c) R.length (R.flatMap cellsOf)
  gl : ∀ b, (Value.slice a R.length c).ownBlock = some b → G b ∧ b ≠ x
  dat : ∀ y, y ∈ R → Byt w (.slice y.da y.data.length y.dc) y.data
  gd : ∀ y, y ∈ R → ∀ b, (Value.slice y.da y.data.length y.dc).ownBlock = some b → G b ∧ b ≠ x ∧ (Value.slice a R.length c).ownBlock ≠ some b
  fin : ∀ i, G i → i < w.heap.size
theorem RefRaw.cell0 {G : Nat → Prop} {w : World} {x : Nat} {a : Option Addr} {c : Nat} {last : Int} {R : List It} (h : RefRaw G w x a c last R) : w.cell? ⟨x, 0, none⟩ = some (.slice a R.length c) := by rw [cell_of h.hx]; rfl
theorem RefRaw.cell1 {G : Nat → Prop} {w : World} {x : Nat} {a : Option Addr} {c : Nat} {last : Int} {R : List It} (h : RefRaw G w x a c last R) : w.cell? ⟨x, 1, none⟩ = some (.int .i64 last) := by rw [cell_of h.hx]; rfl
theorem RefRaw.item {G : Nat → Prop} {w : World} {x : Nat} {a : Option Addr} {c : Nat} {last : Int} {R : List It} (h : RefRaw G w x a c last R) {i : Nat} {y : It} (hy : R[i]? = some y) :
    ∃ g, a = some ⟨g, 0, none⟩ ∧ g < w.heap.size ∧ w.cell? ⟨g, i * 5, none⟩ = some (.int .i64 y.id) ∧ w.cell? ⟨g, i * 5 + 1, none⟩ = some (.string y.nm) ∧ w.cell? ⟨g, i * 5 + 2, none⟩ = some (.slice y.da y.data.length y.dc) ∧
      w.cell? ⟨g, i * 5 + 3, none⟩ = some (.bool y.cur) ∧ w.cell? ⟨g, i * 5 + 4, none⟩ = some (.int .i64 y.refs) := by
  have hi : i < R.length := (List.getElem?_eq_some_iff.1 hy).1
  have hy' : R[i] = y := (List.getElem?_eq_some_iff.1 hy).2
  obtain ⟨g, off, ha, hg, hc⟩ := SlR.cellK h.own.sl (fun y _ => cells_len y) hi
  have ho : off = 0 := by
    obtain ⟨_, hf⟩ := h.own
    rcases hf with ⟨e, _⟩ | ⟨g', _, _, _, e, _⟩
    · simp only [Value.slice.injEq] at e; omega
    · simp only [Value.slice.injEq] at e
      rw [ha] at e
      simp only [Option.some.injEq, Addr.mk.injEq] at e
      exact e.1.2.1
  subst ho
  rw [hy'] at hc
  refine ⟨g, ha, hg, ?_, ?_, ?_, ?_, ?_⟩
  · simpa using hc 0 _ rfl (by decide)
  · simpa using hc 1 _ rfl (by decide)
  · simpa using hc 2 _ rfl (by decide)
  · simpa using hc 3 _ rfl (by decide)
  · simpa using hc 4 _ rfl (by decide)
/-- The first place at which p holds; -1. -/
def ix (p : It → Bool) (R : List It) : Int := match R.findIdx? p with | none => -1 | some i => i
theorem ix_hit {p : It → Bool} {R : List It} {k : Nat} (hno : ∀ j y, j < k → R[j]? = some y → p y = false) {y : It} (hy : R[k]? = some y) (hp : p y = true) : ix p R = k := by
  have hk : k < R.length := (List.getElem?_eq_some_iff.1 hy).1
  have : R.findIdx? p = some k := by
    rw [List.findIdx?_eq_some_iff_getElem]
    refine ⟨hk, ?_, fun j hj => ?_⟩
    · rw [(List.getElem?_eq_some_iff.1 hy).2]; exact hp
    · have := hno j R[j] hj (List.getElem?_eq_getElem _)
      simp [this]
  unfold ix; rw [this]
theorem ix_none {p : It → Bool} {R : List It} (hno : ∀ j y, j < R.length → R[j]? = some y → p y = false) : ix p R = -1 := by
  have : R.findIdx? p = none := by
    rw [List.findIdx?_eq_none_iff]
    intro y hy
    obtain ⟨j, hj, rfl⟩ := List.mem_iff_getElem.1 hy
    exact hno j _ hj (List.getElem?_eq_getElem _)
  unfold ix; rw [this]
theorem ix_cases (p : It → Bool) (R : List It) : (ix p R = -1 ∧ ∀ y ∈ R, p y = false) ∨ ∃ (k : Nat) (y : It), ix p R = (k : Int) ∧ R[k]? = some y ∧ p y = true ∧ ∀ j z, j < k → R[j]? = some z → p z = false := by
  unfold ix
  cases h : R.findIdx? p with
  | none => exact .inl ⟨rfl, List.findIdx?_eq_none_iff.1 h⟩
  | some k =>
    obtain ⟨hk, h1, h2⟩ := List.findIdx?_eq_some_iff_getElem.1 h
    exact .inr ⟨k, R[k], rfl, List.getElem?_eq_getElem _, h1, fun j z hj hz => by
      have := h2 j hj
      rw [(List.getElem?_eq_some_iff.1 hz).2] at this
      simpa using this⟩
theorem no_more {p : It → Bool} {R : List It} {k : Nat} (hno : ∀ j y, j < k → R[j]? = some y → p y = false) {y : It} (hy : R[k]? = some y) (hp : p y = false) : ∀ j y, j < k + 1 → R[j]? = some y → p y = false := by
  intro j z hj hz
  by_cases e : j = k
  · subst e; rw [hy] at hz; cases hz; exact hp
  · exact hno j z (by omega) hz
def isCur (n : ByteArray) (y : It) : Bool := y.cur && y.nm.toList == n.toList
def isId (id : Int) (y : It) : Bool := y.id == id
section
variable {G : Nat → Prop} {w : World} {x : Nat} {a : Option Addr} {c : Nat} {last : Int} {R : List It}
set_option maxHeartbeats 1000000 in
theorem current_any (h : RefRaw G w x a c last R) (hR : R.length < 4611686018427387904) (n : ByteArray) :
    Calls Try.prog 40 #[.pointer (some ⟨x, 0, none⟩), .string n] w fun e w' => e = .returned (.int .i64 (ix (isCur n) R)) ∧ w = w' := by
  have h0 := h.cell0
  go_enter Try.func40, Try.ntmps40
  go_wp2_with fail
  go_loop [5] (fun i => ∃ k : Nat, k ≤ R.length ∧ i = .int .i64 k ∧ ∀ j y, j < k → R[j]? = some y → isCur n y = false) (fun i => R.length - (intOf i).toNat)
  case atStart => exact ⟨0, Nat.zero_le _, rfl, fun j y hj => by omega⟩
  case round =>
    obtain ⟨k, hk, rfl, hno⟩ := hrel
    by_cases hlt : k < R.length
    · obtain ⟨y, hy⟩ : ∃ y, R[k]? = some y := ⟨_, List.getElem?_eq_getElem hlt⟩
      obtain ⟨g, rfl, hg, c0, c1, c2, c3, c4⟩ := h.item hy
      go_wp2_with fail
      · rename_i h1 h2 _
        have hcn : isCur n y = true := by unfold isCur; rw [h1, h2]; rfl
        go_ret
        exact ⟨by rw [ix_hit hno hy hcn]; rfl, rfl⟩
      · rename_i h1 h2
        exact ⟨⟨k + 1, by omega, by go_num, no_more hno hy (by unfold isCur; rw [h2, Bool.and_false])⟩, by simp [intOf]; omega⟩
      · rename_i h1
        exact ⟨⟨k + 1, by omega, by go_num, no_more hno hy (by unfold isCur; rw [Bool.eq_false_iff.2 h1, Bool.false_and])⟩, by simp [intOf]; omega⟩
    · obtain rfl : k = R.length := by omega
      go_wp2_with fail
      go_ret
      exact ⟨by rw [ix_none hno]; rfl, rfl⟩
set_option maxHeartbeats 1000000 in
theorem place_any (h : RefRaw G w x a c last R) (hR : R.length < 4611686018427387904) (id : Int) :
    Calls Try.prog 38 #[.pointer (some ⟨x, 0, none⟩), .int .i64 id] w fun e w' => e = .returned (.int .i64 (ix (isId id) R)) ∧ w = w' := by
  have h0 := h.cell0
  go_enter Try.func38, Try.ntmps38
  go_wp2_with fail
  go_loop [5] (fun i => ∃ k : Nat, k ≤ R.length ∧ i = .int .i64 k ∧ ∀ j y, j < k → R[j]? = some y → isId id y = false) (fun i => R.length - (intOf i).toNat)
  case atStart => exact ⟨0, Nat.zero_le _, rfl, fun j y hj => by omega⟩
  case round =>
    obtain ⟨k, hk, rfl, hno⟩ := hrel
    by_cases hlt : k < R.length
    · obtain ⟨y, hy⟩ : ∃ y, R[k]? = some y := ⟨_, List.getElem?_eq_getElem hlt⟩
      obtain ⟨g, rfl, hg, c0, c1, c2, c3, c4⟩ := h.item hy
      by_cases hid : y.id = id
      · go_wp2_with fail
        go_ret
        exact ⟨by rw [ix_hit hno hy (by unfold isId; simpa using hid)]; rfl, rfl⟩
      · go_wp2_with fail
        exact ⟨⟨k + 1, by omega, by go_num, no_more hno hy (by unfold isId; simpa using hid)⟩, by simp [intOf]; omega⟩
    · obtain rfl : k = R.length := by omega
      go_wp2_with fail
      go_ret
      exact ⟨by rw [ix_none hno]; rfl, rfl⟩
/-! ### What is asked of a number -/
def rRefs (R : List It) (id : Int) : Int := match R.find? (isId id) with | none => 0 | some y => y.refs
def rSize (R : List It) (id : Int) : Int := match R.find? (isId id) with | none => 0 | some y => (y.data.length : Int)
theorem find_of {p : It → Bool} {R : List It} {k : Nat} {y : It} (hy : R[k]? = some y) (hp : p y = true) (hno : ∀ j z, j < k → R[j]? = some z → p z = false) : R.find? p = some y := by
  rw [List.find?_eq_some_iff_getElem]
  have hk : k < R.length := (List.getElem?_eq_some_iff.1 hy).1
  refine ⟨hp, k, hk, (List.getElem?_eq_some_iff.1 hy).2, fun j hj => ?_⟩
  have := hno j R[j] hj (List.getElem?_eq_getElem _)
  simp [this]
theorem find_none {p : It → Bool} {R : List It} (h : ∀ y ∈ R, p y = false) : R.find? p = none := by
  rw [List.find?_eq_none]
  intro y hy
  simp [h y hy]
set_option maxHeartbeats 1000000 in
theorem refs_r (h : RefRaw G w x a c last R) (hR : R.length < 4611686018427387904) (id : Int) :
    Calls Try.prog 25 #[.pointer (some ⟨x, 0, none⟩), .int .i64 id] w fun e w' => e = .returned (.int .i64 (rRefs R id)) ∧ w = w' := by
  have h0 := h.cell0
  rcases ix_cases (isId id) R with ⟨hm, hn⟩ | ⟨k, y, hm, hy, hp, hn⟩
  · have HR := Lib.hid (show rRefs R id = 0 by unfold rRefs; rw [find_none hn])
    clear hn
    go_enter Try.func25, Try.ntmps25
    go_wp2_with fail
    refine (place_any h hR id).mono ?_
    rw [hm]
    rintro e w' ⟨rfl, rfl⟩
    go_wp2_with fail
    go_ret
    exact ⟨by rw [HR.out]; rfl, rfl⟩
  · have HR := Lib.hid (show rRefs R id = y.refs by unfold rRefs; rw [find_of hy hp hn])
    obtain ⟨g, rfl, hg, c0, c1, c2, c3, c4⟩ := h.item hy
    have hk : k < R.length := (List.getElem?_eq_some_iff.1 hy).1
    clear hn hy
    go_enter Try.func25, Try.ntmps25
    go_wp2_with fail
    refine (place_any h hR id).mono ?_
    rw [hm]
    rintro e w' ⟨rfl, rfl⟩
    go_wp2_with fail
    go_ret
    exact ⟨by rw [HR.out]; rfl, rfl⟩
set_option maxHeartbeats 1000000 in
theorem size_r (h : RefRaw G w x a c last R) (hR : R.length < 4611686018427387904) (id : Int) :
    Calls Try.prog 26 #[.pointer (some ⟨x, 0, none⟩), .int .i64 id] w fun e w' => e = .returned (.int .i64 (rSize R id)) ∧ w = w' := by
  have h0 := h.cell0
  rcases ix_cases (isId id) R with ⟨hm, hn⟩ | ⟨k, y, hm, hy, hp, hn⟩
  · have HR := Lib.hid (show rSize R id = 0 by unfold rSize; rw [find_none hn])
    clear hn
    go_enter Try.func26, Try.ntmps26
    go_wp2_with fail
    refine (place_any h hR id).mono ?_
    rw [hm]
    rintro e w' ⟨rfl, rfl⟩
    go_wp2_with fail
    go_ret
    exact ⟨by rw [HR.out]; rfl, rfl⟩
  · have HR := Lib.hid (show rSize R id = (y.data.length : Int) by unfold rSize; rw [find_of hy hp hn])
    obtain ⟨g, rfl, hg, c0, c1, c2, c3, c4⟩ := h.item hy
    have hk : k < R.length := (List.getElem?_eq_some_iff.1 hy).1
    clear hn hy
    go_enter Try.func26, Try.ntmps26
    go_wp2_with fail
    refine (place_any h hR id).mono ?_
    rw [hm]
    rintro e w' ⟨rfl, rfl⟩
    go_wp2_with fail
    go_ret
    exact ⟨by rw [HR.out]; rfl, rfl⟩
def rBytes (R : List It) : Int := ((R.map fun y => y.data.length).sum : Nat)
set_option maxHeartbeats 1000000 in
theorem bytes_r (h : RefRaw G w x a c last R) (hR : R.length < 4611686018427387904) (hb : rBytes R < 4611686018427387904) :
    Calls Try.prog 23 #[.pointer (some ⟨x, 0, none⟩)] w fun e w' => e = .returned (.int .i64 (rBytes R)) ∧ w = w' := by
  have h0 := h.cell0
  go_enter Try.func23, Try.ntmps23
  go_wp2_with fail
  go_loop [3, 4] (fun t i => ∃ k : Nat, k ≤ R.length ∧ i = .int .i64 k ∧ t = .int .i64 (((R.take k).map fun y => y.data.length).sum : Nat)) (fun _ i => R.length - (intOf i).toNat)
  case atStart => exact ⟨0, Nat.zero_le _, rfl, rfl⟩
  case round =>
    obtain ⟨k, hk, rfl, rfl⟩ := hrel
    by_cases hlt : k < R.length
    · have hy := List.getElem?_eq_getElem hlt
      obtain ⟨g, rfl, hg, c0, c1, c2, c3, c4⟩ := h.item hy
      have hs : ((R.take (k + 1)).map fun y => y.data.length).sum = ((R.take k).map fun y => y.data.length).sum + R[k].data.length := by
        rw [List.take_succ_eq_append_getElem hlt, List.map_append, List.sum_append]; simp
      have hle : ((R.take (k + 1)).map fun y => y.data.length).sum ≤ (R.map fun y => y.data.length).sum := by
        conv => rhs; rw [← List.take_append_drop (k + 1) R, List.map_append, List.sum_append]
        exact Nat.le_add_right _ _
      unfold rBytes at hb
      rw [hs] at hle
      have HS := Lib.hid hs
      generalize ((R.take k).map fun y => y.data.length).sum = t at hle HS ⊢
      generalize R[k] = y at c0 c1 c2 c3 c4 hle HS
      clear hs hy
      go_wp2_with fail
      exact ⟨⟨k + 1, by omega, by go_num, by rw [HS.out]; go_num⟩, by simp [intOf]; omega⟩
    · obtain rfl : k = R.length := by omega
      rw [List.take_length]
      have HR := Lib.hid (show rBytes R = (((R.map fun y => y.data.length).sum : Nat) : Int) from rfl)
      go_wp2_with fail
      go_ret
      exact ⟨by rw [HR.out]; rfl, rfl⟩
set_option maxHeartbeats 1000000 in
theorem is_r (n : ByteArray) (a : Option Addr) (cap : Nat) (l : List UInt8) (w : World) (h : SlR w 1 (.slice a l.length cap) l.length (l.map u8c)) (hn : n.size ≤ 9223372036854775807) (hb : l.length ≤ 140737488355328) :
    Calls Try.prog 34 #[.string n, .slice a l.length cap] w fun e w' => e = .returned (.int .i64 (isS n l)) ∧ w = w' := by
  by_cases hn0 : n.size = 0 ∨ 12 < n.size
  · have HR := Lib.hid (show isS n l = 1 by unfold isS; rw [if_pos hn0])
    go_enter Try.func34, Try.ntmps34
    go_wp2_with fail
    all_goals first | (exfalso; omega) | (go_ret; exact ⟨by rw [HR.out]; rfl, rfl⟩)
  by_cases hl : l.length < 5 ∨ 2004 < l.length
  · have HR := Lib.hid (show isS n l = 4 by unfold isS; rw [if_neg hn0, if_pos (by right; exact hl)])
    go_enter Try.func34, Try.ntmps34
    go_wp2_with fail
    all_goals first | (exfalso; omega) | (go_ret; exact ⟨by rw [HR.out]; rfl, rfl⟩)
  · obtain ⟨hsl, hb4⟩ := h.upto (P := Try.prog) (k := 4) Try.underlying22 (by kernel_rfl) (by omega)
    have hsl4 : ∀ w', (Instr.slice 22 (.slice a l.length cap) none (some (.int .i64 4)) none).run Try.prog w' = .ok (.slice a 4 cap) w' := hsl
    have h4l : (l.take 4).length = 4 := by simp; omega
    have hs := strOf (w := w) (a := a) (n := 4) (cap := cap) (l := l.take 4) (by rw [h4l, List.map_take]; exact hb4)
    have hpf : pfx ⟨l.toArray⟩ mdic = ((⟨(l.take 4).toArray⟩ : ByteArray).toList == mdic.toList) := by
      have h1 : mdic.size ≤ (⟨l.toArray⟩ : ByteArray).size := by show 4 ≤ l.length; omega
      have h2 : ((⟨l.toArray⟩ : ByteArray).extract 0 mdic.size).toList = (⟨(l.take 4).toArray⟩ : ByteArray).toList := by
        rw [ByteArray.toList_eq, ByteArray.toList_eq, Lib.extract_data]
        simp [mdic, ByteArray.size]
      unfold pfx
      rw [h2, decide_eq_true h1, Bool.true_and]
    have hq : isS n l = if ((⟨(l.take 4).toArray⟩ : ByteArray).toList == mdic.toList) = false then 4 else 0 := by
      unfold isS
      rw [if_neg hn0, hpf]
      have : (((⟨(l.take 4).toArray⟩ : ByteArray).toList == mdic.toList) = false ∨ l.length < 5 ∨ 2004 < l.length) ↔ ((⟨(l.take 4).toArray⟩ : ByteArray).toList == mdic.toList) = false := ⟨fun h => h.resolve_right hl, Or.inl⟩
      simp only [this]
    have hq2 : isS n l = if (l.take 4 == [77, 68, 73, 67]) = false then 4 else 0 := by rw [hq, ByteArray.toList_eq, ByteArray.toList_eq]; rfl
    have HR := Lib.hid hq2
    clear hq hpf h4l hsl hq2
    cases hB : (l.take 4 == [77, 68, 73, 67]) with
    | true =>
      rw [hB] at HR
      go_enter Try.func34, Try.ntmps34
      go_wp2_with fail
      go_ret; exact ⟨by rw [HR.out]; rfl, rfl⟩
    | false =>
      rw [hB] at HR
      go_enter Try.func34, Try.ntmps34
      go_wp2_with fail
      go_ret; exact ⟨by rw [HR.out]; rfl, rfl⟩
end
end Go.Proofs.Ytnjkchbombjemaa.Rf
