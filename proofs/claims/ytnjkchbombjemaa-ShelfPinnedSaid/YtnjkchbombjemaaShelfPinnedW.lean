/- The walk of ShelfPinned. -/
import Derived.Test.YtnjkchbombjemaaStepC
namespace Go.Proofs.Ytnjkchbombjemaa.shelfPinned
open Go Go.RowKit Go.ChangeMaps Go.MapKept Go.Mg Go.Proofs.Ytnjkchbombjemaa.Sh Go.Proofs.Ytnjkchbombjemaa.Op Go.Proofs.Ytnjkchbombjemaa.Rf
/-- What stays: the first dictionary, pinned. -/
structure Inv (d : List UInt8) (k : Nat) (S : Shs) : Prop where
  last : S.last ≤ k + 1
  one : ∃ c p, AL.get S.books 1 = some ⟨d, c, p⟩ ∧ 1 ≤ p
  pins : ∀ id x, AL.get S.books id = some x → x.pins ≤ k + 1
  pos : 1 ≤ S.last
theorem inv_lets {d : List UInt8} {k : Nat} {S : Shs} (h : Inv d k S) (id : Int) : Inv d k (S.lets id).1 := by
  unfold Shs.lets
  split
  · exact h
  · rename_i x hx
    split
    · exact h
    · rename_i hn
      obtain ⟨c, p, h1, h2⟩ := h.one
      have hne : id ≠ 1 := fun e => by subst e; rw [hx] at h1; cases h1; exact hn (.inr (by show 0 < p; omega))
      refine ⟨h.last, ⟨c, p, ?_, h2⟩, fun j z hz => ?_, h.pos⟩
      · show AL.get (AL.del S.books id) 1 = _
        rw [AL.get_del, if_neg (fun e => hne e.symm)]; exact h1
      · have hz' : AL.get (AL.del S.books id) j = some z := hz
        rw [AL.get_del] at hz'
        split at hz'
        · cases hz'
        · exact h.pins j z hz'
theorem inv_put {d : List UInt8} {k : Nat} {S : Shs} (h : Inv d k S) {id : Int} {x x' : Bk} (hx : AL.get S.books id = some x) (hd : x'.data = x.data) (hp : x'.pins ≤ k + 1) (h1 : id = 1 → 1 ≤ x'.pins) (names : List (ByteArray × Int)) :
    Inv d k ⟨S.last, AL.put S.books id x', names⟩ := by
  obtain ⟨c, p, g1, g2⟩ := h.one
  refine ⟨h.last, ?_, fun j z hz => ?_, h.pos⟩
  · show ∃ c p, AL.get (AL.put S.books id x') 1 = _ ∧ _
    rw [AL.get_put]
    by_cases e : 1 = id
    · subst e
      rw [hx] at g1; cases g1
      exact ⟨x'.cur, x'.pins, by rw [if_pos rfl]; cases x'; simp_all, h1 rfl⟩
    · exact ⟨c, p, by rw [if_neg e]; exact g1, g2⟩
  · have hz' : AL.get (AL.put S.books id x') j = some z := hz
    rw [AL.get_put] at hz'
    split at hz'
    · cases hz'; exact hp
    · exact h.pins j z hz'
theorem inv_retires {d : List UInt8} {k : Nat} {S : Shs} (h : Inv d k S) (n : ByteArray) : Inv d k (S.retires n).1 := by
  unfold Shs.retires
  split
  · exact h
  · split
    · exact h
    · rename_i x hx
      have hq := h.pins _ _ hx
      refine inv_lets (S := ⟨S.last, AL.put S.books _ { x with cur := false }, AL.del S.names n⟩) (inv_put (x' := { x with cur := false }) h hx rfl hq (fun e => ?_) _) _
      obtain ⟨c, p, g1, g2⟩ := h.one
      rw [e, g1] at hx
      cases hx
      exact g2
theorem Inv.up {d : List UInt8} {k : Nat} {S : Shs} (h : Inv d k S) : Inv d (k + 1) S := ⟨by have := h.last; omega, h.one, fun j z hz => by have := h.pins j z hz; omega, h.pos⟩
theorem inv_act {d : List UInt8} {k : Nat} {S : Shs} (h : Inv d k S) (y : Ac) (hy : ¬ ((y.kind < 1 ∨ 3 < y.kind) ∧ y.id = 1)) : Inv d (k + 1) (sAct S y) := by
  unfold sAct
  split
  · unfold Shs.load
    split
    · have h1 := inv_retires h y.nm
      have hl : (S.retires y.nm).1.last = S.last := by
        unfold Shs.retires Shs.lets
        repeat' split
        all_goals rfl
      obtain ⟨c, p, g1, g2⟩ := h1.one
      refine ⟨by show _ + 1 ≤ _; have := h1.last; omega, ⟨c, p, ?_, g2⟩, fun j z hz => ?_, by show 1 ≤ _ + 1; omega⟩
      · show AL.get (AL.put _ _ _) 1 = _
        rw [AL.get_put, if_neg (by have := h.pos; rw [hl]; omega)]; exact g1
      · have hz' : AL.get (AL.put _ _ _) j = some z := hz
        rw [AL.get_put] at hz'
        split at hz'
        · cases hz'; exact Nat.zero_le _
        · have := h1.pins j z hz'; omega
    · exact h.up
  · split
    · unfold Shs.retire
      split
      · exact h.up
      · exact (inv_retires h y.nm).up
    · split
      · unfold Shs.pin
        split
        · exact h.up
        · split
          · exact h.up
          · rename_i x hx
            exact inv_put (x' := { x with pins := x.pins + 1 }) h.up hx rfl (by show x.pins + 1 ≤ _; have := h.pins _ _ hx; omega) (fun _ => by show 1 ≤ x.pins + 1; omega) _
      · rename_i k1 k2 k3
        have hid : y.id ≠ 1 := fun e => hy ⟨by omega, e⟩
        unfold Shs.unpin
        split
        · exact h.up
        · rename_i x hx
          split
          · exact h.up
          · exact (inv_lets (inv_put (x' := { x with pins := x.pins - 1 }) h hx rfl (by show x.pins - 1 ≤ _; have := h.pins _ _ hx; omega) (fun e => absurd e hid) _) y.id).up
theorem inv_start {d : List UInt8} : Inv d 0 (st d 1) := by
  refine ⟨by show (1 : Nat) ≤ 1; omega, ⟨true, 1, rfl, Nat.le_refl _⟩, fun j z hz => ?_, Nat.le_refl _⟩
  have hz' : AL.get [(1, (⟨d, true, 1⟩ : Bk))] j = some z := hz
  rw [AL.get_cons] at hz'
  split at hz'
  · cases hz'; exact Nat.le_refl _
  · cases hz'
/-- The program's Shelf alone. -/
structure One (w0 w : World) (s : Nat) (S : Shs) : Prop where
  at_ : ∃ F, ShelfAt F w s S ∧ ∀ i, F i → w0.heap.size ≤ i
  kp : Kp (fun _ => False) w0 w
  ok : S.Ok
theorem One.two {w0 w : World} {s : Nat} {S : Shs} (h : One w0 w s S) : Two w0 (w.alloc (.cells #[.slice none 0 0, .int .i64 0] 48)) s S w.heap.size 0 [] := by
  obtain ⟨F, h1, h2⟩ := h.at_
  exact Two.start (B := w.heap.size) ⟨⟨F, h1, fun i hi => ⟨h2 i hi, h1.fin i hi⟩⟩, h.kp, h.ok, Nat.le_refl _⟩
theorem One.ofTwo {w0 w : World} {s : Nat} {S : Shs} {x : Nat} {last : Int} {R : List It} (h : Two w0 w s S x last R) : One w0 w s S := by
  obtain ⟨F, G, h1, _, _, h4, _⟩ := h.at_
  exact ⟨⟨F, h1, h4⟩, h.kp, h.ok⟩
theorem One.ofShO {w0 w : World} {s B : Nat} {S : Shs} (h : ShO w0 B w s S) : One w0 w s S := by
  obtain ⟨F, h1, h2⟩ := h.at_
  exact ⟨⟨F, h1, fun i hi => (h2 i hi).1⟩, h.kp, h.ok⟩
theorem bd0 : Bd 0 0 [] := ⟨Int.le_refl _, Int.le_refl _, Nat.le_refl _, fun y hy => by cases hy⟩
set_option maxRecDepth 100000 in
set_option maxHeartbeats 1000000 in
theorem walk (w : World) (a0 : Option Addr) (c0 : Nat) (l0 : List UInt8) (r0 : SlR w 1 (.slice a0 l0.length c0) l0.length (l0.map u8c))
    (a1 : Option Addr) (c1 : Nat) (l1 : List Ac) (r1 : SlR w 4 (.slice a1 l1.length c1) l1.length (l1.flatMap actCells)) (z1 : ∀ y ∈ l1, GoodA w y) :
    Calls Try.prog 9 #[.slice a0 l0.length c0, .slice a1 l1.length c1] w (LawPost w) := by
  have kc := fun (w : World) (C : Array Value) (n c : Nat) => Lib.run_convert_bytes_const (P := Try.prog) w 22 5 C n c Try.underlying22 Try.underlying5
  obtain ⟨i0, hi, hz0, hz1, hz2⟩ := info_parts info5
  go_enter Try.func9, Try.ntmps9
  go_wp2_with fail
  refine (long_any w a1 c1 l1 r1 z1).mono ?_
  rintro e w' ⟨b, rfl, rfl, hs⟩
  cases b with
  | true =>
    go_wp2_with fail
    all_goals (go_ret; exact ⟨rfl, Below.refl _ _⟩)
  | false =>
    have hsh := hs rfl
    have HS := Lib.hid hsh
    clear hs hsh
    by_cases h : l0.length < 1 ∨ 200 < l0.length
    · go_wp2_with fail
      all_goals (go_ret; exact ⟨rfl, Below.refl _ _⟩)
    have hl1 : 1 ≤ l0.length := by omega
    have hl2 : l0.length ≤ 200 := by omega
    have t1 : decide ((l0.length : Int) < 1) = false := by simp; omega
    have t2 : decide ((200 : Int) < (l0.length : Int)) = false := by simp; omega
    clear h
    go_wp2_with fail
    refine (new_o _).mono ?_
    rintro e w1 ⟨s, rfl, h1⟩
    have ka := kp_lit w1 (.cells #[.int .u8 77, .int .u8 68, .int .u8 73, .int .u8 67] 5 (4, 5))
    have h1a := h1.new ka
    have r2 := r0.kp h1a.kp (fun _ _ q => q)
    have hlo := lit_own w1 [77, 68, 73, 67] #[.int .u8 77, .int .u8 68, .int .u8 73, .int .u8 67] rfl (4, 5) (.inr (Nat.le_refl _)) 4 rfl (by decide)
    have HO := Lib.hid hlo
    have hB := h1.B
    clear hlo
    go_wp2_with (at_builtin; refine wpList_app _ rfl _ _ 22 rfl 5 i0 (.int .u8 0) 1 1 Try.underlying22 hi hz0 hz1 hz2 rfl (by decide) (by decide) (.slice (some ⟨w1.heap.size, 0, none⟩) 4 4) 4 _ rfl HO.out (.slice a0 l0.length c0) l0.length (l0.map u8c) rfl r2 (u8c_one l0) (by omega) ?_; intro v' w2 g1 g2 g3 g4 g5; obtain ⟨b1, d1, rfl⟩ := g1.form; have G1 := Lib.hid g1; have G3 := Lib.hid g3; clear g1 g3 g4 g5)
    have G2 : OwnR w2 5 1 (.slice b1 (4 + l0.length) d1) (4 + l0.length) ((dat l0).map u8c) := by have := G1.out; rw [← List.map_append] at this; exact this
    have hw := h1a.set (g := w1.heap.size) (g2.mono (fun i _ e => by have := own_b e; omega)) (Nat.le_refl _) (h1.kp.size)
    refine (load_o hw (by decide) nameA b1 (4 + l0.length) d1 (dat l0) G2.sl (fun b hb => ?_) (by decide) (by simp [dat]; omega)).mono ?_
    · rcases G3.out with e | e
      · rw [hb] at e; have := own_b e.symm; omega
      · rw [hb] at e; simp at e; omega
    unfold LoadO
    rw [st_load hl1 (by omega)]
    rintro e w3 ⟨rfl, h3⟩
    clear hw G2 G1 G3 g2 HO ka h1a r2 h1 hB
    go_wp2_with fail
    refine (pin_o h3 (st_pins l0 0 (by decide)) nameA).mono ?_
    unfold PinO
    rw [st_pin]
    rintro e w4 ⟨a, c, rfl, h4, _, h5, _⟩
    have v1 := strOf h5.sl
    have v2 := strOf (r0.kp h4.kp (fun _ _ q => q))
    have hI := inv_start (d := l0)
    have hO := One.ofShO h4
    clear h5 h4 h3
    go_wp2_with fail
    go_loopw [12] (fun i wr => ∃ (k : Nat) (S : Shs), k ≤ l1.length ∧ i = .int .i64 k ∧ One w wr s S ∧ Inv l0 k S) (fun i _ => l1.length - (intOf i).toNat)
    case atStart => exact ⟨0, _, Nat.zero_le _, rfl, hO, hI⟩
    case round =>
      clear hO hI v1 v2
      obtain ⟨k, S, hk, rfl, hO, hI⟩ := hrel
      by_cases hlt : k < l1.length
      · obtain ⟨g, o, rfl, hgw, c0', c1', c2', c3'⟩ := act_at (r1.kp hO.kp (fun _ _ q => q)) hlt
        have hsy := HS.out.2 l1[k] (List.getElem_mem _)
        have hgy := z1 l1[k] (List.getElem_mem _)
        have hl200 := HS.out.1
        have HI := Lib.hid hI
        have HSY := Lib.hid hsy
        have HGY := Lib.hid hgy
        have hT := hO.two
        generalize l1[k] = y at c0' c1' c2' c3' HSY HGY
        clear hI hsy hgy z1
        by_cases hy : (y.kind < 1 ∨ 3 < y.kind) ∧ y.id = 1
        · go_wp2_with fail
          all_goals first
            | exact ⟨⟨k + 1, S, by omega, by go_num, hO, HI.out.up⟩, by simp [intOf]; omega⟩
            | (exfalso; omega)
        · go_wp2_with fail
          all_goals first
            | exact ⟨⟨k + 1, S, by omega, by go_num, hO, HI.out.up⟩, by simp [intOf]; omega⟩
            | (refine (step_any hT (k := 0) (by omega) bd0 (by have := HI.out.last; omega) (fun id z hz => by have := HI.out.pins id z hz; omega) y HGY.out HSY.out.1 HSY.out.2).mono ?_)
          all_goals
            rintro e w5 ⟨b, last', R', rfl, hT5, _, _⟩
            have hI5 := inv_act HI.out y hy
            have hO5 := One.ofTwo hT5
            obtain ⟨c, p, g1, g2⟩ := hI5.one
            have hsz : (sAct S y).size 1 = (l0.length : Int) := by unfold Shs.size; rw [g1]
            have hrf : (sAct S y).refs 1 = (p : Int) := by unfold Shs.refs; rw [g1]
            have t5 : decide ((p : Int) < 1) = false := by simp; omega
            have HJ := Lib.hid hI5
            clear hI5 g1
            generalize sAct S y = S5 at hT5 hO5 hsz hrf HJ
            go_wp2_with fail
            refine (two_size hT5 1).mono ?_
            rw [hsz]
            rintro e w6 ⟨rfl, rfl⟩
            go_wp2_with fail
            refine (two_refs hT5 1).mono ?_
            rw [hrf]
            rintro e w6 ⟨rfl, rfl⟩
            go_wp2_with fail
            exact ⟨⟨k + 1, S5, by omega, by go_num, hO5, HJ.out⟩, by simp [intOf]; omega⟩
      · go_wp2_with fail
        refine (known_any _).mono ?_
        rintro e w6 ⟨rfl, k6⟩
        go_wp2_with fail
        go_ret
        exact ⟨rfl, (hO.kp.trans k6).below⟩
end Go.Proofs.Ytnjkchbombjemaa.shelfPinned
