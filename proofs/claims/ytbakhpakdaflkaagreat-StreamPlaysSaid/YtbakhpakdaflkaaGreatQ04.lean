/- The walk of StreamPlays: whole. The acts of a script, and that none is greater than the form's reach. -/
import Derived.SizedLaws
import Derived.Test.YtbakhpakdaflkaaGreatQ03
namespace Go.Proofs.YtbakhpakdaflkaaGreat.streamPlays
open Go Go.RowKit Go.ChangeMaps Go.MapKept Go.Mg Go.Mt Go.Proofs.YtbakhpakdaflkaaGreat.Hu Go.Proofs.YtbakhpakdaflkaaGreat.Sq Go.Proofs.YtbakhpakdaflkaaGreat.Bk Go.Proofs.YtbakhpakdaflkaaGreat.Ma Go.Proofs.YtbakhpakdaflkaaGreat.Str Go.Proofs.YtbakhpakdaflkaaGreat.Op Go.Proofs.YtbakhpakdaflkaaGreat.He

set_option maxRecDepth 100000 in
set_option maxHeartbeats 1000000 in
theorem none_ (w : World) (dn : Nat) (da : Option Addr) (dc : Nat) (id lv : Int) (a : Option Addr) (c m : Nat) (hn : NoStream dn id lv) (h0 : dn ≤ 2500) (hm : m ≤ 50) (LG : Calls Tryz.prog 19 #[.slice a m c] w fun e w' => e = .returned (.bool false) ∧ w' = w) :
    Calls Tryz.prog 8 #[.slice da dn dc, .int .i64 id, .int .i64 lv, .slice a m c] w (LawPost w) := by
  have NP := Lib.hid (new_no w dn da dc id lv hn)
  have ND := Lib.hid (newD_no w dn da dc id lv hn)
  have b0 : decide ((2500 : Int) < (dn : Int)) = false := decide_eq_false (by omega)
  have LGH := Lib.hid LG
  have DP := Lib.hid (depth_c lv)
  have DD := Lib.hid (depth_d lv)
  clear hn LG h0
  go_enter Tryz.func8, Tryz.ntmps8
  go_wp2_with fail
  refine LGH.out.mono ?_
  rintro e w0 ⟨rfl, rfl⟩
  go_wp2_with fail
  refine NP.out.mono ?_
  rintro e w1 ⟨rfl, rfl⟩
  go_wp2_with fail
  refine ND.out.mono ?_
  rintro e w2 ⟨rfl, rfl⟩
  go_wp2_with fail
  refine (DP.out w2).mono ?_
  rintro e w3 ⟨rfl, rfl⟩
  go_wp2_with fail
  refine (DD.out w3).mono ?_
  rintro e w4 ⟨rfl, rfl⟩
  go_wp2_with fail
  go_loopw [11] (fun i wx => i = .int .i64 0 ∧ wx = w4) (fun _ _ => 0)
  case atStart => exact ⟨rfl, rfl⟩
  case round =>
    obtain ⟨rfl, hwr⟩ := hrel
    obtain rfl := hwr
    by_cases h1 : 0 < m
    · have d1 : decide ((0 : Int) < (m : Int)) = true := decide_eq_true (by omega)
      obtain ⟨wo, rfl⟩ : ∃ wo : World, wo = wr := ⟨_, rfl⟩
      go_wp2_with fail
      refine (known9_c _).mono ?_
      rintro e w5 ⟨rfl, k5⟩
      have K5 := Lib.hid k5
      clear k5
      go_wp2_with fail
      go_ret
      exact ⟨rfl, K5.out.below⟩
    · have d1 : decide ((0 : Int) < (m : Int)) = false := decide_eq_false (by omega)
      obtain ⟨wo, rfl⟩ : ∃ wo : World, wo = wr := ⟨_, rfl⟩
      go_wp2_with fail
      refine (known9_c _).mono ?_
      rintro e w5 ⟨rfl, k5⟩
      have K5 := Lib.hid k5
      clear k5
      go_wp2_with fail
      go_ret
      exact ⟨rfl, K5.out.below⟩
set_option maxRecDepth 100000 in
set_option maxHeartbeats 1000000 in
theorem walk (id : Int) (_ : (Lit.int .i64 id).wf = true) (lv : Int) (_ : (Lit.int .i64 lv).wf = true) (w : World) (da : Option Addr) (dc : Nat) (dict : List UInt8) (hd : SlR w 1 (.slice da dict.length dc) dict.length (dict.map u8c)) (a : Option Addr) (c : Nat) (l : List Ac) (hl : SlR w 2 (.slice a l.length c) l.length (l.flatMap actCells)) (hg : ∀ y ∈ l, GoodA w y) (hs : ∀ y ∈ l, y.data.length ≤ 140737488351232) :
    Calls Tryz.prog 8 #[.slice da dict.length dc, .int .i64 id, .int .i64 lv, .slice a l.length c] w (LawPost w) := by
  have LG := long9_c w a c l hl hs
  by_cases h0 : 2500 < dict.length
  · obtain ⟨n, hn⟩ : ∃ n, n = dict.length := ⟨_, rfl⟩
    obtain ⟨m, hm⟩ : ∃ m, m = l.length := ⟨_, rfl⟩
    rw [← hn] at h0 ⊢
    rw [← hm]
    have b0 : decide ((2500 : Int) < (n : Int)) = true := decide_eq_true (by omega)
    clear hn hm LG hd hl hg hs h0
    go_enter Tryz.func8, Tryz.ntmps8
    go_wp2_with fail
    go_ret
    exact ⟨rfl, Below.refl _ _⟩
  · by_cases hL : l.length ≤ 50 ∧ Str.tot l ≤ 2500
    · have LF : Calls Tryz.prog 19 #[.slice a l.length c] w fun e w' => e = .returned (.bool false) ∧ w' = w := LG.mono (fun e w' q => by
        obtain ⟨b, q1, q2, q3⟩ := q
        rw [q3.2 hL] at q1
        exact ⟨q1, q2⟩)
      by_cases hN : NoStream dict.length id lv
      · exact none_ w dict.length da dc id lv a c l.length hN (by omega) hL.1 LF
      · unfold NoStream at hN
        have hlv : 1 ≤ lv ∧ lv ≤ 3 := by
          by_cases e : lv = 1 ∨ lv = 2 ∨ lv = 3
          · omega
          · exact absurd (.inl (by unfold dep; rw [if_neg (by omega), if_neg (by omega), if_neg (by omega)])) hN
        obtain ⟨n, rfl⟩ := Int.eq_ofNat_of_zero_le (show 0 ≤ id by omega)
        exact some_ w dict da dc n lv a c l hd hl hg hlv.1 hlv.2 (by omega) (by omega) hL.1 hL.2 LF
    · have LT : Calls Tryz.prog 19 #[.slice a l.length c] w fun e w' => e = .returned (.bool true) ∧ w' = w := LG.mono (fun e w' q => by
        obtain ⟨b, q1, q2, q3⟩ := q
        cases b with
        | true => exact ⟨q1, q2⟩
        | false => exact absurd (q3.1 rfl) hL)
      obtain ⟨n, hn⟩ : ∃ n, n = dict.length := ⟨_, rfl⟩
      obtain ⟨m, hm⟩ : ∃ m, m = l.length := ⟨_, rfl⟩
      rw [← hn] at h0 ⊢
      rw [← hm] at LT ⊢
      have b0 : decide ((2500 : Int) < (n : Int)) = false := decide_eq_false (by omega)
      have LTH := Lib.hid LT
      clear hn hm LG hd hl hg hs h0 hL LT
      go_enter Tryz.func8, Tryz.ntmps8
      go_wp2_with fail
      refine LTH.out.mono ?_
      rintro e w1 ⟨rfl, rfl⟩
      go_wp2_with fail
      go_ret
      exact ⟨rfl, Below.refl _ _⟩
end Go.Proofs.YtbakhpakdaflkaaGreat.streamPlays
namespace Go.Proofs.YtbakhpakdaflkaaGreat.Str
open Go Go.ChangeShapes Go.WideShapes Go.ChangeAt Go.RowKit Go.ChangeMaps Go.MapKept Go.Mg Go.Deep Go.Proofs.YtbakhpakdaflkaaGreat.Op Go.Proofs.YtbakhpakdaflkaaGreat.Ma
section
variable {H : Type} {enc : TypeId × Value → H} {P : Program} {w : World} {base : Nat} {spare : Nat → Bool} {held : Bool} {r : Reach} {b0 : Nat} {t : TypeId} {v : Value} {d : DataW H} {p : List MemPlace}
theorem weightsAll_mem {e : TypeId} {l : List (DataW H)} {x : DataW H} (hx : x ∈ l) {n : Nat} (hn : n ∈ x.weights P e) : n ∈ DataW.weightsAll P e l := by
  induction l with
  | nil => cases hx
  | cons y l ih =>
    simp only [DataW.weightsAll, List.mem_append]
    rcases List.mem_cons.1 hx with rfl | h
    · exact .inl hn
    · exact .inr (ih h)
theorem bytes_ofW {e : TypeId} (ht : P.underlying t = some (.slice e)) (he : P.underlying e = some (.int .u8)) (hc : P.cellsOf e = 1) (hb : 1 ≤ P.bytesOf e) {fuel : Nat} {cs : List Value} {x : DataW H × List MemPlace} {B : Nat}
    (h : DataW.trod enc P w base spare held fuel t cs = some x) (hB : ∀ n ∈ x.1.weights P t, n ≤ B) : ∃ (a : Option Addr) (c : Nat) (l : List UInt8), cs = [.slice a l.length c] ∧ SlR w 1 (.slice a l.length c) l.length (l.map u8c) ∧ l.length ≤ B := by
  obtain ⟨a, c, l, h1, h2⟩ := bytes_of ht he hc h
  refine ⟨a, c, l, h1, h2, ?_⟩
  rcases open_ints ht he hc h with ⟨e1, _⟩ | ⟨y, n, c', zs, e1, _, hl, hm, hz, hx, _, _⟩
  · rw [e1] at h1
    simp only [List.cons.injEq, Value.slice.injEq, and_true] at h1
    omega
  · rw [e1] at h1
    simp only [List.cons.injEq, Value.slice.injEq, and_true] at h1
    have hle : n ≤ zs.length := by rw [hz]; split <;> omega
    have := hB ((Go.ChangeShapes.lits (H := H) .u8 (zs.take n)).length * P.bytesOf e + (Go.ChangeShapes.lits (H := H) .u8 (zs.drop n)).length * P.bytesOf e) (by
      rw [hx]
      simp only [DataW.weights, ht]
      rw [← Nat.add_mul]
      exact List.mem_cons_self)
    have hll : (Go.ChangeShapes.lits (H := H) .u8 (zs.take n)).length = n := by unfold Go.ChangeShapes.lits; rw [List.length_map, List.length_take]; omega
    rw [hll] at this
    have h3 : n ≤ n * P.bytesOf e := Nat.le_mul_of_pos_right n hb
    omega
/-- Any slice: what its elements' cells are told to be, they are; each is within what all are. -/
theorem get_slW {e : TypeId} {k B : Nat} (ht : P.underlying t = some (.slice e)) (hk : P.cellsOf e = k) (hk0 : 0 < k) {α : Type} [Inhabited α] (E : α → List Value) (Good : α → Prop) (hlen : ∀ y, (E y).length = k)
    (hE : ∀ (n : Nat) (cs : List Value) (x : DataW H × List MemPlace), cs.length = k → DataW.trod enc P w base spare held n e cs = some x → (∀ n ∈ x.1.weights P e, n ≤ B) → ∃ y, cs = E y ∧ Good y)
    (hv : Value.okWide P w r b0 t v) (h : DataW.Trod enc P w base spare held t v d p) (hB : ∀ n ∈ d.weights P t, n ≤ B) :
    ∃ (a : Option Addr) (c : Nat) (l : List α), v = .slice a l.length c ∧ SlR w k (.slice a l.length c) l.length (l.flatMap E) ∧ ∀ y ∈ l, Good y := by
  obtain ⟨a, n, c, rfl⟩ := okWide_slice ht hv
  obtain ⟨fuel, hf⟩ := h
  rcases open_slice ht hf with ⟨hcs, _⟩ | ⟨x, l, c', m, n', D, Pl, hcs, _, hl, hm, hz, hx, hcell⟩
  · simp [Value.cells] at hcs
    obtain ⟨rfl, rfl, rfl⟩ := hcs
    exact ⟨none, 0, [], rfl, SlR.nil _ _, fun y hy => by cases hy⟩
  · simp [Value.cells] at hcs
    obtain ⟨rfl, rfl, rfl⟩ := hcs
    have hzl : n ≤ m := by rw [hz]; split <;> omega
    obtain ⟨V, hV⟩ := choose_lt (α := α) (n := n) (p := fun i y => w.cells? base (x.add (i * k)) k = some (E y) ∧ Good y) (fun i hi => by
      obtain ⟨cs', h1, h2⟩ := hcell i (by omega)
      rw [hk] at h1
      obtain ⟨_, h3, _⟩ := World.cells?_some h1
      have hd : d = DataW.slice ((List.range n).map D) ((List.range (m - n)).map fun j => D (n + j)) := by
        have := congrArg Prod.fst hx
        exact this
      obtain ⟨y, rfl, hg⟩ := hE _ _ _ h3 h2 (fun q hq => hB q (by
        rw [hd]
        simp only [DataW.weights, ht]
        refine List.mem_cons_of_mem _ (List.mem_append_left _ ?_)
        exact weightsAll_mem (List.mem_map.2 ⟨i, List.mem_range.2 hi, rfl⟩) hq))
      exact ⟨y, h1, hg⟩)
    have e1 : ((List.range n).map V).length = n := by simp
    refine ⟨some x, c, (List.range n).map V, by rw [e1], ?_, fun y hy => ?_⟩
    · rw [e1]
      refine sl_of_cellsK hk0 (by rw [flatMap_len (fun y _ => hlen y), e1]) hl hm (fun i u hu => ?_)
      have hi : i < n * k := by
        have := (List.getElem?_eq_some_iff.1 hu).1
        rwa [flatMap_len (fun y _ => hlen y), e1] at this
      have hik : i / k < n := (Nat.div_lt_iff_lt_mul hk0).2 hi
      have hmod : i % k < k := Nat.mod_lt _ hk0
      have hdm : i / k * k + i % k = i := by rw [Nat.mul_comm]; exact Nat.div_add_mod i k
      obtain ⟨h1, _⟩ := hV (i / k) hik
      obtain ⟨_, _, h2⟩ := World.cells?_some h1
      have h3 := h2 (i % k) hmod
      rw [add_add, hdm] at h3
      rw [h3]
      have hg : ((List.range n).map V)[i / k]? = some (V (i / k)) := by rw [List.getElem?_map, List.getElem?_range hik]; rfl
      rw [← hdm, flatMap_at (fun y _ => hlen y) hmod hg] at hu
      exact hu
    · obtain ⟨i, hi, rfl⟩ := List.mem_map.1 hy
      exact (hV i (List.mem_range.1 hi)).2
end
section
variable {H : Type} {enc : TypeId × Value → H} {w : World} {base : Nat} {spare : Nat → Bool} {held : Bool} {r : Reach} {b0 : Nat} {v : Value} {d : DataW H} {p : List MemPlace}
set_option maxRecDepth 100000 in
theorem act_ofW {fs : Array Field} (hs : Tryz.prog.underlying 40 = some (.struct fs)) (h0 : (fs[0]?).map (fun f => (f.offset, f.type)) = some (0, 3)) (h1 : (fs[1]?).map (fun f => (f.offset, f.type)) = some (1, 24)) (hf2 : fs.toList.map (·.type) = [3, 24])
    (n : Nat) (cs : List Value) (x : DataW H × List MemPlace) (hl : cs.length = 2) (h : DataW.trod enc Tryz.prog w base spare held n 40 cs = some x) (hB : ∀ n ∈ x.1.weights Tryz.prog 40, n ≤ reachBytes) : ∃ y, cs = actCells y ∧ GoodA w y ∧ y.data.length ≤ reachBytes := by
  obtain ⟨c0, c1, rfl⟩ : ∃ c0 c1, cs = [c0, c1] := by
    match cs, hl with
    | [c0, c1], _ => exact ⟨c0, c1, rfl⟩
  obtain ⟨xs, m, _, hx, _, hxl, hf⟩ := DataW.trod_struct hs h
  have get : ∀ (i : Nat) (o : Nat) (ty : TypeId), (fs[i]?).map (fun f => (f.offset, f.type)) = some (o, ty) → Tryz.prog.cellsOf ty = 1 → ∃ z, xs[i]? = some z ∧ DataW.trod enc Tryz.prog w base spare held m ty ((([c0, c1] : List Value).drop o).take 1) = some z := by
    intro i o ty hi hc
    cases hfi : fs[i]? with
    | none => rw [hfi] at hi; cases hi
    | some f =>
      rw [hfi] at hi
      simp only [Option.map_some, Option.some.injEq, Prod.mk.injEq] at hi
      obtain ⟨rfl, rfl⟩ := hi
      have := hf i f hfi
      rw [hc] at this
      have hlt : i < xs.length := by rw [hxl]; exact (Array.getElem?_eq_some_iff.1 hfi).1
      exact ⟨xs[i], List.getElem?_eq_getElem hlt, by rw [this, List.getElem?_eq_getElem hlt]⟩
  obtain ⟨z0, q0, g0⟩ := get 0 0 _ h0 (by kernel_rfl)
  obtain ⟨z1, q1, g1⟩ := get 1 1 _ h1 (by kernel_rfl)
  obtain ⟨k, e0, w0⟩ := int_of (enc := enc) Tryz.underlying3 g0
  obtain ⟨a, c, l, e2, w2, w3⟩ := bytes_ofW (enc := enc) (B := reachBytes) Tryz.underlying24 Tryz.underlying5 (by kernel_rfl) (of_decide_eq_true (by kernel_rfl)) g1 (fun q hq => hB q (by
    rw [hx]
    simp only [DataW.weights, hs]
    rw [hf2]
    refine DataW.weights_mem_each (j := 1) rfl ?_ q hq
    rw [List.getElem?_map, q1]; rfl))
  simp only [List.drop_zero, List.drop_succ_cons, List.take_succ_cons, List.take_zero, List.cons.injEq, and_true] at e0 e2
  subst e0 e2
  exact ⟨⟨k, l, a, c⟩, rfl, ⟨w2, w0⟩, w3⟩
set_option maxRecDepth 100000 in
theorem get_actsW {fs : Array Field} (hs : Tryz.prog.underlying 40 = some (.struct fs)) (h0 : (fs[0]?).map (fun f => (f.offset, f.type)) = some (0, 3)) (h1 : (fs[1]?).map (fun f => (f.offset, f.type)) = some (1, 24)) (hf2 : fs.toList.map (·.type) = [3, 24])
    (hv : Value.okWide Tryz.prog w r b0 34 v) (h : DataW.Trod enc Tryz.prog w base spare held 34 v d p) (hB : ∀ n ∈ d.weights Tryz.prog 34, n ≤ reachBytes) :
    ∃ (a : Option Addr) (c : Nat) (l : List Ac), v = .slice a l.length c ∧ SlR w 2 (.slice a l.length c) l.length (l.flatMap actCells) ∧ ∀ y ∈ l, GoodA w y ∧ y.data.length ≤ reachBytes :=
  get_slW Tryz.underlying34 (by kernel_rfl) (by decide) actCells (fun y => GoodA w y ∧ y.data.length ≤ reachBytes) (fun _ => rfl) (act_ofW hs h0 h1 hf2) hv h hB
end
end Go.Proofs.YtbakhpakdaflkaaGreat.Str
