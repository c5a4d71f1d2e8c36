/- The document's Shelf: Retire, Pin, Unpin. -/
import Derived.Test.YtnjkchbombjemaaRefB
namespace Go.Proofs.Ytnjkchbombjemaa.Rf
open Go Go.RowKit Go.ChangeMaps Go.MapKept Go.Mg Go.Proofs.Ytnjkchbombjemaa.Sh Go.Proofs.Ytnjkchbombjemaa.Op
variable {G : Nat → Prop} {w : World} {x : Nat} {a : Option Addr} {c : Nat} {last : Int} {R : List It}
theorem RefRaw.item2 {g : Nat} (h : RefRaw G w x (some ⟨g, 0, none⟩) c last R) {i : Nat} {y : It} (hy : R[i]? = some y) :
    g < w.heap.size ∧ w.cell? ⟨g, i * 5, none⟩ = some (.int .i64 y.id) ∧ w.cell? ⟨g, i * 5 + 1, none⟩ = some (.string y.nm) ∧ w.cell? ⟨g, i * 5 + 2, none⟩ = some (.slice y.da y.data.length y.dc) ∧
      w.cell? ⟨g, i * 5 + 3, none⟩ = some (.bool y.cur) ∧ w.cell? ⟨g, i * 5 + 4, none⟩ = some (.int .i64 y.refs) := by
  obtain ⟨g', e, h1⟩ := h.item hy
  simp only [Option.some.injEq, Addr.mk.injEq] at e
  obtain ⟨rfl, _⟩ := e
  exact h1
/-- What a call leaves: the answer; the Shelf; only its own blocks have changed. -/
def Left (G : Nat → Prop) (w w' : World) (x : Nat) (last : Int) (R : List It) : Prop := ∃ G', RefAt G' w' x last R ∧ Kp G w w' ∧ ∀ i, G' i → G i ∨ w.heap.size ≤ i
theorem Left.self (h : RefAt G w x last R) : Left G w w x last R := ⟨G, h, Kp.refl _ _, fun _ h => .inl h⟩
theorem Left.trans {w1 w2 : World} {last1 : Int} {R1 : List It} {G1 : Nat → Prop} (h1 : Kp G w w1) (hG : ∀ i, G1 i → G i ∨ w.heap.size ≤ i) (h2 : Left G1 w1 w2 x last1 R1) : Left G w w2 x last1 R1 := by
  obtain ⟨G2, h3, h4, h5⟩ := h2
  refine ⟨G2, h3, h1.trans2 h4 (fun i hi hg => ?_), fun i hi => ?_⟩
  · rcases hG i hg with q | q
    · exact q
    · omega
  · rcases h5 i hi with q | q
    · exact hG i q
    · exact .inr (Nat.le_trans h1.size q)
def rRetire (R : List It) (n : ByteArray) : List It × Int × Int :=
  if ix (isCur n) R < 0 then (R, 0, 5) else match R[(ix (isCur n) R).toNat]? with
  | none => (R, 0, 5)
  | some y => ((rDrop (R.set (ix (isCur n) R).toNat { y with cur := false }) (ix (isCur n) R).toNat { y with cur := false }).1, (rDrop (R.set (ix (isCur n) R).toNat { y with cur := false }) (ix (isCur n) R).toNat { y with cur := false }).2, 0)
def RetireR (G : Nat → Prop) (w : World) (x : Nat) (last : Int) (R : List It) (n : ByteArray) (e : Ending) (w' : World) : Prop :=
  e = .returned (.tuple #[.int .i64 (rRetire R n).2.1, .int .i64 (rRetire R n).2.2]) ∧ Left G w w' x last (rRetire R n).1
theorem set_get {R : List It} {k : Nat} {y y' : It} (hy : R[k]? = some y) : (R.set k y')[k]? = some y' := by
  have hk : k < R.length := (List.getElem?_eq_some_iff.1 hy).1
  rw [List.getElem?_set_self hk]
set_option maxHeartbeats 1000000 in
theorem retire_r (h : RefAt G w x last R) (hR : R.length < 100000000000) (n : ByteArray) :
    Calls Try.prog 35 #[.pointer (some ⟨x, 0, none⟩), .string n] w (RetireR G w x last R n) := by
  obtain ⟨a, c, h⟩ := h
  have h0 := h.cell0
  rcases ix_cases (isCur n) R with ⟨hm, hn⟩ | ⟨k, y, hm, hy, hp, hn⟩
  · have HR := Lib.hid (show rRetire R n = (R, 0, 5) by unfold rRetire; rw [hm, if_pos (by decide)])
    clear hn
    go_enter Try.func35, Try.ntmps35
    go_wp2_with fail
    refine (current_any h (by omega) n).mono ?_
    rw [hm]
    rintro e w' ⟨rfl, rfl⟩
    go_wp2_with fail
    go_ret2
    exact ⟨by rw [HR.out]; rfl, by rw [HR.out]; exact Left.self ⟨_, _, h⟩⟩
  · have hyc : ({ y with cur := false } : It).cur = false := rfl
    have HR := Lib.hid (show rRetire R n = ((rDrop (R.set k { y with cur := false }) k { y with cur := false }).1, (rDrop (R.set k { y with cur := false }) k { y with cur := false }).2, 0) by
      unfold rRetire; rw [hm, if_neg (by omega)]; simp only [Int.toNat_natCast, hy])
    have hk : k < R.length := (List.getElem?_eq_some_iff.1 hy).1
    obtain ⟨g, rfl, hg, hf, h1, k1⟩ := h.setItem (j := 3) (y' := { y with cur := false }) (v := .bool false) hy (by decide) rfl ⟨rfl, rfl, rfl⟩
    obtain ⟨hgs, c0, c1, c2, c3, c4⟩ := h.item2 hy
    clear hn hyc
    go_enter Try.func35, Try.ntmps35
    go_wp2_with fail
    refine (current_any h (by omega) n).mono ?_
    rw [hm]
    rintro e w' ⟨rfl, rfl⟩
    go_wp2_with fail
    refine (drop_any h1 (by simpa using hR) (set_get hy)).mono ?_
    rintro e w2 ⟨rfl, h2⟩
    go_wp2_with fail
    go_ret2
    exact ⟨by rw [HR.out]; rfl, by rw [HR.out]; exact Left.trans (k1.mono (fun i _ e => by rw [e]; exact hg)) (fun _ q => .inl q) h2⟩
def rUnpin (R : List It) (id : Int) : List It × Bool :=
  if ix (isId id) R < 0 then (R, false) else match R[(ix (isId id) R).toNat]? with
  | none => (R, false)
  | some y => if y.refs = 0 then (R, false) else
    ((rDrop (R.set (ix (isId id) R).toNat { y with refs := y.refs - 1 }) (ix (isId id) R).toNat { y with refs := y.refs - 1 }).1, (rDrop (R.set (ix (isId id) R).toNat { y with refs := y.refs - 1 }) (ix (isId id) R).toNat { y with refs := y.refs - 1 }).2 != 0)
def UnpinR (G : Nat → Prop) (w : World) (x : Nat) (last : Int) (R : List It) (id : Int) (e : Ending) (w' : World) : Prop :=
  e = .returned (.bool (rUnpin R id).2) ∧ Left G w w' x last (rUnpin R id).1
set_option maxHeartbeats 1000000 in
theorem unpin_r (h : RefAt G w x last R) (hR : R.length < 100000000000) (hp : ∀ y, y ∈ R → 0 ≤ y.refs ∧ y.refs < 100000000000) (id : Int) :
    Calls Try.prog 37 #[.pointer (some ⟨x, 0, none⟩), .int .i64 id] w (UnpinR G w x last R id) := by
  obtain ⟨a, c, h⟩ := h
  have h0 := h.cell0
  rcases ix_cases (isId id) R with ⟨hm, hn⟩ | ⟨k, y, hm, hy, hq, hn⟩
  · have HR := Lib.hid (show rUnpin R id = (R, false) by unfold rUnpin; rw [hm, if_pos (by decide)])
    clear hn
    go_enter Try.func37, Try.ntmps37
    go_wp2_with fail
    refine (place_any h (by omega) id).mono ?_
    rw [hm]
    rintro e w' ⟨rfl, rfl⟩
    go_wp2_with fail
    go_ret
    exact ⟨by rw [HR.out]; rfl, by rw [HR.out]; exact Left.self ⟨_, _, h⟩⟩
  · have hr := hp y (List.mem_of_getElem? hy)
    have hk : k < R.length := (List.getElem?_eq_some_iff.1 hy).1
    obtain ⟨g, rfl, hg, hf, h1, k1⟩ := h.setItem (j := 4) (y' := { y with refs := y.refs - 1 }) (v := .int .i64 (y.refs - 1)) hy (by decide) rfl ⟨rfl, rfl, rfl⟩
    obtain ⟨hgs, c0, c1, c2, c3, c4⟩ := h.item2 hy
    by_cases hz : y.refs = 0
    · have HR := Lib.hid (show rUnpin R id = (R, false) by unfold rUnpin; rw [hm, if_neg (by omega)]; simp only [Int.toNat_natCast, hy]; rw [if_pos hz])
      clear hn hp hq
      go_enter Try.func37, Try.ntmps37
      go_wp2_with fail
      refine (place_any h (by omega) id).mono ?_
      rw [hm]
      rintro e w' ⟨rfl, rfl⟩
      go_wp2_with fail
      go_ret
      exact ⟨by rw [HR.out]; rfl, by rw [HR.out]; exact Left.self ⟨_, _, h⟩⟩
    · have HR := Lib.hid (show rUnpin R id = ((rDrop (R.set k { y with refs := y.refs - 1 }) k { y with refs := y.refs - 1 }).1, (rDrop (R.set k { y with refs := y.refs - 1 }) k { y with refs := y.refs - 1 }).2 != 0) by
        unfold rUnpin; rw [hm, if_neg (by omega)]; simp only [Int.toNat_natCast, hy]; rw [if_neg hz])
      have hk0 : decide ((k : Int) < 0) = false := by simp
      have hz' : (y.refs == 0) = false := by simpa using hz
      clear hn hp hq
      go_enter Try.func37, Try.ntmps37
      go_wp2_with fail
      refine (place_any h (by omega) id).mono ?_
      rw [hm]
      rintro e w' ⟨rfl, rfl⟩
      go_wp2_with fail
      refine (drop_any h1 (by simpa using hR) (set_get hy)).mono ?_
      rintro e w2 ⟨rfl, h2⟩
      go_wp2_with fail
      go_ret
      exact ⟨by rw [HR.out]; rfl, by rw [HR.out]; exact Left.trans (k1.mono (fun i _ e => by rw [e]; exact hg)) (fun _ q => .inl q) h2⟩
def rPin (R : List It) (n : ByteArray) : List It × Int × List UInt8 × Int :=
  if ix (isCur n) R < 0 then (R, 0, [], 5) else match R[(ix (isCur n) R).toNat]? with
  | none => (R, 0, [], 5)
  | some y => (R.set (ix (isCur n) R).toNat { y with refs := y.refs + 1 }, y.id, y.data, 0)
def PinR (G : Nat → Prop) (w : World) (x : Nat) (last : Int) (R : List It) (n : ByteArray) (e : Ending) (w' : World) : Prop :=
  ∃ a c, e = .returned (.tuple #[.int .i64 (rPin R n).2.1, .slice a (rPin R n).2.2.1.length c, .int .i64 (rPin R n).2.2.2]) ∧ Byt w' (.slice a (rPin R n).2.2.1.length c) (rPin R n).2.2.1 ∧
    (∀ b, (Value.slice a (rPin R n).2.2.1.length c).ownBlock = some b → G b) ∧ Left G w w' x last (rPin R n).1
set_option maxHeartbeats 1000000 in
theorem pin_r (h : RefAt G w x last R) (hR : R.length < 100000000000) (hp : ∀ y, y ∈ R → 0 ≤ y.refs ∧ y.refs < 100000000000) (n : ByteArray) :
    Calls Try.prog 36 #[.pointer (some ⟨x, 0, none⟩), .string n] w (PinR G w x last R n) := by
  obtain ⟨a, c, h⟩ := h
  have h0 := h.cell0
  rcases ix_cases (isCur n) R with ⟨hm, hn⟩ | ⟨k, y, hm, hy, hq, hn⟩
  · have HR := Lib.hid (show rPin R n = (R, 0, [], 5) by unfold rPin; rw [hm, if_pos (by decide)])
    clear hn
    go_enter Try.func36, Try.ntmps36
    go_wp2_with fail
    refine (current_any h (by omega) n).mono ?_
    rw [hm]
    rintro e w' ⟨rfl, rfl⟩
    go_wp2_with fail
    go_ret3
    exact ⟨none, 0, by rw [HR.out]; rfl, by rw [HR.out]; exact SlR.nil _ _, fun b hb => (by cases hb), by rw [HR.out]; exact Left.self ⟨_, _, h⟩⟩
  · have hr := hp y (List.mem_of_getElem? hy)
    have hk : k < R.length := (List.getElem?_eq_some_iff.1 hy).1
    obtain ⟨g, rfl, hg, hf, h1, k1⟩ := h.setItem (j := 4) (y' := { y with refs := y.refs + 1 }) (v := .int .i64 (y.refs + 1)) hy (by decide) rfl ⟨rfl, rfl, rfl⟩
    obtain ⟨hgs, c0, c1, c2, c3, c4⟩ := h.item2 hy
    have HR := Lib.hid (show rPin R n = (R.set k { y with refs := y.refs + 1 }, y.id, y.data, 0) by unfold rPin; rw [hm, if_neg (by omega)]; simp only [Int.toNat_natCast, hy])
    have hy1 := set_get (y' := { y with refs := y.refs + 1 }) hy
    obtain ⟨_, d0, _, d2, _, _⟩ := h1.item2 hy1
    have hd := h1.dat _ (List.mem_of_getElem? hy1)
    have hgd := h1.gd _ (List.mem_of_getElem? hy1)
    have h01 := h1.cell0
    have hl : (R.set k { y with refs := y.refs + 1 }).length = R.length := List.length_set
    rw [hl] at h01
    clear hn hp hq hy1
    go_enter Try.func36, Try.ntmps36
    go_wp2_with fail
    refine (current_any h (by omega) n).mono ?_
    rw [hm]
    rintro e w' ⟨rfl, rfl⟩
    go_wp2_with fail
    have KK := Lib.hid (k1.mono (fun i _ e => by rw [e]; exact hg) : Kp G w _)
    have H1 := Lib.hid h1
    have HD := Lib.hid hd
    have HG := Lib.hid hgd
    generalize w.setCell ⟨_, k * 5 + 4, none⟩ (.int .i64 (y.refs + 1)) = W at *
    have b1 : (0 : Int) ≤ (k : Int) := by omega
    have b2 : (k : Int) < (R.length : Int) := by omega
    clear k1 h1 hd hgd c0 c1 c2 c3 c4 hf h h0
    go_region
    go_wp2_with fail
    go_ret3
    refine ⟨y.da, y.dc, by rw [HR.out]; rfl, by rw [HR.out]; exact HD.out, by rw [HR.out]; exact fun b hb => (HG.out b hb).1, ?_⟩
    rw [HR.out]
    exact ⟨G, ⟨_, _, H1.out.kp ((Kp.refl (fun _ => False) _).drew) (fun _ _ q => q)⟩, KK.out.drew, fun _ q => .inl q⟩
end Go.Proofs.Ytnjkchbombjemaa.Rf
