/- block, the program's reader: take, byte, two, many. block, the program's reader: byte, two, many. bytes.Repeat of one byte. block, the program's reader: run. -/
import Derived.Laws.CopyRow
import Derived.Laws.Externs
import Derived.Lib.MakeNoZero
import Derived.Test.YtphakpikalmghaaGreatU26
import Derived.Test.YtphakpikalmghaaGreatU15
namespace Go.Proofs.YtphakpikalmghaaGreat.Un
open Go Go.RowKit Go.ChangeMaps Go.MapKept Go.Mg Go.Hf Go.Mt Go.Proofs.YtphakpikalmghaaGreat.Hu Go.Proofs.YtphakpikalmghaaGreat.He Go.Proofs.YtphakpikalmghaaGreat.Rd Go.Proofs.YtphakpikalmghaaGreat.Bw Go.Proofs.YtphakpikalmghaaGreat.Ma

theorem own_anyU' (a : Option Addr) (n c m d : Nat) : (Value.slice a n c).ownBlock = (Value.slice a m d).ownBlock := by cases a <;> rfl
/-- A reader: what is left; was there too little? -/
structure Rdr (w : World) (x : Nat) (l : List UInt8) (bad : Bool) : Prop where
  ex : ∃ (a : Option Addr) (c : Nat), w.heap[x]? = some (.cells #[.slice a l.length c, .bool bad] 44 (0, 0)) ∧ SlR w 1 (.slice a l.length c) l.length (l.map u8c) ∧ (0 < l.length → ∀ b, (Value.slice a l.length c).ownBlock = some b → b ≠ x)
theorem sl_kpN {F : Nat → Prop} {w w' : World} {a : Option Addr} {n c : Nat} {xs : List Value} (h : SlR w 1 (.slice a n c) n xs) (hk : Kp F w w') (hn : 0 < n → ∀ b, (Value.slice a n c).ownBlock = some b → ¬ F b) : SlR w' 1 (.slice a n c) n xs := by
  by_cases h0 : 0 < n
  · exact h.kp hk (hn h0)
  · obtain ⟨h1, a', c', e, h2, h3, h4, _⟩ := h
    exact ⟨h1, a', c', e, h2, h3, h4, fun q => absurd q h0⟩
theorem Rdr.kp0 {w w' : World} {x : Nat} {l : List UInt8} {bad : Bool} (h : Rdr w x l bad) (hk : Kp (fun _ => False) w w') : Rdr w' x l bad := by
  obtain ⟨a, c, h1, h2, h3⟩ := h.ex
  exact ⟨a, c, hk.at_ h1 (fun q => q), h2.kp hk (fun _ _ q => q), h3⟩
theorem Rdr.lt {w : World} {x : Nat} {l : List UInt8} {bad : Bool} (h : Rdr w x l bad) : x < w.heap.size := by
  obtain ⟨a, c, h1, _⟩ := h.ex
  exact lt_of_at h1
theorem Rdr.bad_put {w : World} {x : Nat} {l : List UInt8} {bad : Bool} (h : Rdr w x l bad) (v : Bool) : Rdr (w.setCell ⟨x, 1, none⟩ (.bool v)) x l v ∧ Kp (· = x) w (w.setCell ⟨x, 1, none⟩ (.bool v)) := by
  obtain ⟨a, c, h1, h2, h3⟩ := h.ex
  have k : Kp (· = x) w (w.setCell ⟨x, 1, none⟩ (.bool v)) := (Kp.refl (· = x) w).setCell (p := ⟨x, 1, none⟩) (fun _ => rfl) _
  exact ⟨⟨a, c, by rw [setCell_at h1]; rfl, sl_kpN h2 k h3, h3⟩, k⟩
theorem Rdr.cells {w : World} {x : Nat} {l : List UInt8} {bad : Bool} (h : Rdr w x l bad) : ∃ a c, w.cell? ⟨x, 0, none⟩ = some (.slice a l.length c) ∧ w.cell? ⟨x, 1, none⟩ = some (.bool bad) ∧ w.frozen? ⟨x, 0, none⟩ = false ∧ w.frozen? ⟨x, 1, none⟩ = false := by
  obtain ⟨a, c, h1, _⟩ := h.ex
  exact ⟨a, c, by rw [cell_of h1]; rfl, by rw [cell_of h1]; rfl, free_of h1 0, free_of h1 1⟩
def TkPost (w : World) (x : Nat) (l : List UInt8) (bad : Bool) (n : Nat) (e : Ending) (w' : World) : Prop :=
  ((bad = false ∧ n ≤ l.length) ∧ (∃ a c, e = .returned (.slice a (l.take n).length c) ∧ SlR w' 1 (.slice a (l.take n).length c) (l.take n).length ((l.take n).map u8c) ∧ (0 < n → ∀ b, (Value.slice a (l.take n).length c).ownBlock = some b → b ≠ x)) ∧ Rdr w' x (l.drop n) false ∧ Kp (· = x) w w') ∨
  (¬ (bad = false ∧ n ≤ l.length) ∧ e = .returned (.slice none 0 0) ∧ Rdr w' x l true ∧ Kp (· = x) w w')
set_option maxRecDepth 100000 in
set_option maxHeartbeats 1000000 in
theorem take_p {w : World} {x : Nat} {l : List UInt8} {bad : Bool} (h : Rdr w x l bad) (n : Nat) (hl : l.length ≤ 100000) :
    Calls Tryz.prog 59 #[.pointer (some ⟨x, 0, none⟩), .int .i64 (n : Nat)] w (TkPost w x l bad n) := by
  have HB := Lib.hid (h.bad_put true)
  cases bad with
  | true =>
    obtain ⟨a, c, c0, c1, f0, f1⟩ := h.cells
    clear h
    go_enter Tryz.func59, Tryz.ntmps59
    go_wp2_with fail
    go_ret
    exact .inr ⟨fun q => (by cases q.1), rfl, HB.out.1, HB.out.2⟩
  | false =>
    by_cases hn : n ≤ l.length
    · obtain ⟨a, c, h1, h2, h3⟩ := h.ex
      have c0 : w.cell? ⟨x, 0, none⟩ = some (.slice a l.length c) := by rw [cell_of h1]; rfl
      have c1 : w.cell? ⟨x, 1, none⟩ = some (.bool false) := by rw [cell_of h1]; rfl
      have f0 : w.frozen? ⟨x, 0, none⟩ = false := free_of h1 0
      obtain ⟨hu1, hu2⟩ := upto_u w l a c h2 n hn
      obtain ⟨a', c', hf1, hs2, hb⟩ := h2.from_ Tryz.underlying22 u8sz (k := n) hn
      have hdl : (l.drop n).length = l.length - n := List.length_drop
      have htl : (l.take n).length = n := by rw [List.length_take]; omega
      have k : Kp (· = x) w (w.setCell ⟨x, 0, none⟩ (.slice a' (l.length - n) c')) := (Kp.refl (· = x) w).setCell (p := ⟨x, 0, none⟩) (fun _ => rfl) _
      simp only [Nat.mul_one, ← List.map_drop] at hs2
      have FIN : Hid (TkPost w x l false n (.returned (.slice a n c)) (w.setCell ⟨x, 0, none⟩ (.slice a' (l.length - n) c'))) := Lib.hid (by
        refine .inl ⟨⟨rfl, hn⟩, ⟨a, c, by rw [htl], ?_, fun h0 b hb' => h3 (by omega) b (by rw [htl] at hb'; exact (own_anyU' a _ c _ c).trans hb')⟩, ⟨a', c', by rw [setCell_at h1, hdl]; rfl, ?_, fun h0 b hb' => ?_⟩, k⟩
        · exact sl_kpN hu2 k (fun h0 b hb' q => h3 (by rw [htl] at h0; omega) b (by rw [htl] at hb'; exact (own_anyU' a _ c _ c).trans hb') q)
        · rw [hdl]
          exact sl_kpN hs2 k (fun h0 b hb' q => h3 (by omega) b (hb b hb') q)
        · rw [hdl] at h0 hb'
          exact h3 (by omega) b (hb b hb'))
      obtain ⟨m, hm⟩ : ∃ m, m = l.length := ⟨_, rfl⟩
      rw [← hm] at c0 hu1 hf1 hn hl FIN
      have b0 : decide ((m : Int) < (n : Int)) = false := decide_eq_false (by omega)
      clear h h1 h2 h3 hu2 hs2 hb hdl htl k hm HB
      go_enter Tryz.func59, Tryz.ntmps59
      go_wp2_with fail
      go_ret
      exact FIN.out
    · obtain ⟨a, c, c0, c1, f0, f1⟩ := h.cells
      obtain ⟨m, hm⟩ : ∃ m, m = l.length := ⟨_, rfl⟩
      have HM := Lib.hid hm
      rw [← hm] at c0 hn hl
      have b0 : decide ((m : Int) < (n : Int)) = true := decide_eq_true (by omega)
      clear h hm
      go_enter Tryz.func59, Tryz.ntmps59
      go_wp2_with fail
      go_ret
      exact .inr ⟨fun q => hn (by rw [HM.out]; exact q.2), rfl, HB.out.1, HB.out.2⟩
end Go.Proofs.YtphakpikalmghaaGreat.Un
namespace Go.Proofs.YtphakpikalmghaaGreat.Un
open Go Go.RowKit Go.ChangeMaps Go.MapKept Go.Mg Go.Hf Go.Mt Go.Proofs.YtphakpikalmghaaGreat.Hu Go.Proofs.YtphakpikalmghaaGreat.He Go.Proofs.YtphakpikalmghaaGreat.Rd Go.Proofs.YtphakpikalmghaaGreat.Bw Go.Proofs.YtphakpikalmghaaGreat.Ma

theorem byt_take {l : List UInt8} {n k : Nat} (h : k < n) : byt (l.take n) k = byt l k := by simp [byt, h]
/-- A number taken, or too little. -/
def NmPost (w : World) (x : Nat) (l : List UInt8) (bad : Bool) (k : IntKind) (n v : Nat) (e : Ending) (w' : World) : Prop :=
  ((bad = false ∧ n ≤ l.length) ∧ e = .returned (.int k (v : Nat)) ∧ Rdr w' x (l.drop n) false ∧ Kp (· = x) w w') ∨
  (¬ (bad = false ∧ n ≤ l.length) ∧ e = .returned (.int k 0) ∧ Rdr w' x l true ∧ Kp (· = x) w w')
set_option maxRecDepth 100000 in
set_option maxHeartbeats 1000000 in
theorem byte_p {w : World} {x : Nat} {l : List UInt8} {bad : Bool} (h : Rdr w x l bad) (hl : l.length ≤ 100000) :
    Calls Tryz.prog 56 #[.pointer (some ⟨x, 0, none⟩)] w (NmPost w x l bad .u8 1 (byt l 0)) := by
  have TK := Lib.hid (take_p h 1 hl)
  clear h
  go_enter Tryz.func56, Tryz.ntmps56
  go_wp2_with fail
  refine TK.out.mono ?_
  rintro e w1 (⟨h1, ⟨a, c, rfl, q1, _⟩, q3, q4⟩ | ⟨h1, rfl, q3, q4⟩)
  · have H1 := Lib.hid h1
    have hlen : (l.take 1).length = 1 := by rw [List.length_take]; omega
    obtain ⟨g, o, rfl, hg, _, hc⟩ := byts_at q1 (by omega)
    have d0 := hc 0 (by omega)
    rw [Nat.add_zero, byt_take (by omega)] at d0
    rw [hlen]
    obtain ⟨_, _, _, c1, _⟩ := q3.cells
    have Q3 := Lib.hid q3
    have Q4 := Lib.hid q4
    clear q1 q3 q4 hc hg hlen h1 TK
    obtain ⟨v, hv⟩ : ∃ v, v = byt l 0 := ⟨_, rfl⟩
    have HV := Lib.hid hv
    rw [← hv] at d0
    clear hv
    go_wp2_with fail
    go_ret
    exact .inl ⟨H1.out, by rw [← HV.out]; simp, Q3.out, Q4.out⟩
  · have H1 := Lib.hid h1
    obtain ⟨_, _, _, c1, _⟩ := q3.cells
    have Q3 := Lib.hid q3
    have Q4 := Lib.hid q4
    clear q3 q4 h1 TK
    go_wp2_with fail
    go_ret
    exact .inr ⟨H1.out, rfl, Q3.out, Q4.out⟩
set_option maxRecDepth 100000 in
set_option maxHeartbeats 1000000 in
theorem two_p {w : World} {x : Nat} {l : List UInt8} {bad : Bool} (h : Rdr w x l bad) (hl : l.length ≤ 100000) :
    Calls Tryz.prog 91 #[.pointer (some ⟨x, 0, none⟩)] w (NmPost w x l bad .i64 2 (Bk.numU l 0)) := by
  have TK := Lib.hid (take_p h 2 hl)
  clear h
  go_enter Tryz.func91, Tryz.ntmps91
  go_wp2_with fail
  refine TK.out.mono ?_
  rintro e w1 (⟨h1, ⟨a, c, rfl, q1, _⟩, q3, q4⟩ | ⟨h1, rfl, q3, q4⟩)
  · have H1 := Lib.hid h1
    have hlen : (l.take 2).length = 2 := by rw [List.length_take]; omega
    obtain ⟨g, o, rfl, hg, _, hc⟩ := byts_at q1 (by omega)
    have d0 := hc 0 (by omega)
    have d1 := hc 1 (by omega)
    rw [Nat.add_zero, byt_take (by omega)] at d0
    rw [byt_take (by omega)] at d1
    rw [hlen]
    obtain ⟨_, _, _, c1, _⟩ := q3.cells
    have KN : ∀ q, Kp (fun _ => False) w1 (w1.drewN q) := fun q => ⟨rfl, rfl, rfl, Nat.le_refl _, fun _ _ _ => rfl⟩
    have Q3 := Lib.hid (fun q => q3.kp0 (KN q))
    have Q4 := Lib.hid (fun q => q4.trans2 (KN q) (fun _ _ q => q.elim))
    have hx := byt_lt l 0
    have hy := byt_lt l 1
    have HN : Hid (Bk.numU l 0 = byt l 0 + 256 * byt l 1) := Lib.hid rfl
    generalize byt l 0 = u at d0 hx HN
    generalize byt l 1 = v at d1 hy HN
    have hor := or_two hx hy
    have hw1 : IntKind.i64.wrap ((v : Int) * 256) = (v : Int) * 256 := by rw [IntKind.wrap_i64]; omega
    have hw2 : IntKind.i64.wrap (v : Int) = (v : Int) := by rw [IntKind.wrap_i64]; omega
    have hw3 : IntKind.i64.wrap (u : Int) = (u : Int) := by rw [IntKind.wrap_i64]; omega
    clear q1 q3 q4 hc hg hlen h1 TK KN
    go_wp2_with fail
    go_quiet (fail)
    go_wp2_with fail
    go_ret
    exact .inl ⟨H1.out, by rw [HN.out]; simp, Q3.out _, Q4.out _⟩
  · have H1 := Lib.hid h1
    obtain ⟨_, _, _, c1, _⟩ := q3.cells
    have Q3 := Lib.hid q3
    have Q4 := Lib.hid q4
    clear q3 q4 h1 TK
    go_wp2_with fail
    go_ret
    exact .inr ⟨H1.out, rfl, Q3.out, Q4.out⟩
/-- How many bytes there are, or refused. -/
def MnPost (w : World) (x : Nat) (l : List UInt8) (bad : Bool) (e : Ending) (w' : World) : Prop :=
  ((bad = false ∧ 2 ≤ l.length ∧ Bk.numU l 0 ≤ 500) ∧ e = .returned (.int .i64 (Bk.numU l 0 : Nat)) ∧ Rdr w' x (l.drop 2) false ∧ Kp (· = x) w w') ∨
  (¬ (bad = false ∧ 2 ≤ l.length ∧ Bk.numU l 0 ≤ 500) ∧ e = .returned (.int .i64 0) ∧ (∃ l', l'.length ≤ l.length ∧ Rdr w' x l' true) ∧ Kp (· = x) w w')
set_option maxRecDepth 100000 in
set_option maxHeartbeats 1000000 in
theorem many_p {w : World} {x : Nat} {l : List UInt8} {bad : Bool} (h : Rdr w x l bad) (hl : l.length ≤ 100000) :
    Calls Tryz.prog 57 #[.pointer (some ⟨x, 0, none⟩)] w (MnPost w x l bad) := by
  have TW := Lib.hid (two_p h hl)
  clear h
  go_enter Tryz.func57, Tryz.ntmps57
  go_wp2_with fail
  refine TW.out.mono ?_
  rintro e w1 (⟨h1, rfl, q3, q4⟩ | ⟨h1, rfl, q3, q4⟩)
  · have H1 := Lib.hid h1
    have Q3 := Lib.hid q3
    have Q4 := Lib.hid q4
    have QB := Lib.hid (q3.bad_put true)
    obtain ⟨_, _, _, c1, _, f1⟩ := q3.cells
    have HNU : Hid (∃ n, n = Bk.numU l 0) := Lib.hid ⟨_, rfl⟩
    obtain ⟨n, hn⟩ := HNU.out
    have HN := Lib.hid hn
    rw [← hn]
    clear q3 q4 h1 TW hn HNU
    by_cases h5 : n ≤ 500
    · have b1 : decide ((500 : Int) < (n : Int)) = false := decide_eq_false (by omega)
      go_wp2_with fail
      go_ret
      exact .inl ⟨⟨H1.out.1, H1.out.2, by rw [← HN.out]; exact h5⟩, by rw [← HN.out]; rfl, Q3.out, Q4.out⟩
    · have b1 : decide ((500 : Int) < (n : Int)) = true := decide_eq_true (by omega)
      go_wp2_with fail
      go_ret
      exact .inr ⟨fun q => h5 (by rw [HN.out]; exact q.2.2), rfl, ⟨l.drop 2, by rw [List.length_drop]; omega, QB.out.1⟩, Q4.out.trans QB.out.2⟩
  · have H1 := Lib.hid h1
    have Q3 := Lib.hid q3
    have Q4 := Lib.hid q4
    clear q3 q4 h1 TW
    go_wp2_with fail
    go_ret
    exact .inr ⟨fun q => H1.out ⟨q.1, q.2.1⟩, rfl, ⟨l, Nat.le_refl _, Q3.out⟩, Q4.out⟩
end Go.Proofs.YtphakpikalmghaaGreat.Un
namespace Go.Proofs.YtphakpikalmghaaGreat.Un
open Go Go.RowKit Go.Shelf Go.ChangeMaps Go.MapKept Go.Mg Go.Hf Go.Mt Go.Proofs.YtphakpikalmghaaGreat.Hu Go.Proofs.YtphakpikalmghaaGreat.He Go.Proofs.YtphakpikalmghaaGreat.Rd Go.Proofs.YtphakpikalmghaaGreat.Bw Go.Proofs.YtphakpikalmghaaGreat.Ma

/-- A row of n cells or more, m of them x. -/
def RepB (w : World) (g x n m : Nat) : Prop := ∃ cur : Array Value, w.heap[g]? = some (.cells cur 5 (0, 0)) ∧ n ≤ cur.size ∧ ∀ j, j < m → cur[j]? = some (.int .u8 (x : Nat))
theorem RepB.cell {w : World} {g x n m : Nat} (h : RepB w g x n m) {j : Nat} (hj : j < m) : w.cell? ⟨g, j, none⟩ = some (.int .u8 (x : Nat)) := by
  obtain ⟨cur, h1, _, h3⟩ := h
  rw [cell_of h1]; exact h3 j hj
theorem rep_cp {w : World} {g x n m k : Nat} {a : Addr} {sl sc : Nat} (h : RepB w g x n m) (hk : m + k ≤ n) (hsrc : ∀ j, j < k → w.cell? (a.add j) = some (.int .u8 (x : Nat))) (hm : k = Nat.min sl (n - m)) :
    ∃ w', (Builtin.copy_ #[22, 22] 3 #[.slice (some ⟨g, m, none⟩) (n - m) (n - m), .slice (some a) sl sc]).run Tryz.prog w = .ok (.int .i64 (k : Nat)) w' ∧ RepB w' g x n (m + k) ∧ Kp (· = g) w w' := by
  obtain ⟨cur, h1, h2, h3⟩ := h
  have hr := run_copy_row (P := Tryz.prog) w 22 22 3 5 g m (n - m) (n - m) a sl sc cur 5 (List.replicate k (.int .u8 (x : Nat))) Tryz.underlying22 u8sz h1 (by rw [List.length_replicate]; exact hm) (fun j u hu => by
      rw [List.getElem?_replicate] at hu
      split at hu
      · rename_i hj; rw [hsrc j hj]; exact hu
      · cases hu) (by rw [List.length_replicate]; omega) (fun u hu => by rw [List.eq_of_mem_replicate hu]; rfl)
  have h4 := setRow_heap w g cur (cur.toList.take m ++ List.replicate k (Value.int .u8 (x : Nat)) ++ cur.toList.drop (m + (List.replicate k (Value.int .u8 (x : Nat))).length)).toArray 5 (0, 0) h1
  rw [List.length_replicate] at hr h4
  refine ⟨_, hr, ⟨_, h4, ?_, fun j hj => ?_⟩, kp_setRow _ _ _⟩
  · simp; omega
  · rw [List.getElem?_toArray]
    have hml : (cur.toList.take m).length = m := by simp; omega
    by_cases hj1 : j < m
    · rw [List.append_assoc, List.getElem?_append_left (by omega), List.getElem?_take, if_pos hj1, Array.getElem?_toList]
      exact h3 j hj1
    · rw [List.append_assoc, List.getElem?_append_right (by omega), hml, List.getElem?_append_left (by rw [List.length_replicate]; omega), List.getElem?_replicate, if_pos (by omega)]
def RunB (w : World) (x n : Nat) (e : Ending) (w' : World) : Prop := ∃ g, e = .returned (.slice (some ⟨g, 0, none⟩) n n) ∧ w.heap.size ≤ g ∧ RepB w' g x n n ∧ Kp (fun _ => False) w w'
theorem slice_lo8 {w : World} {g n m : Nat} (h : m < n) : (Instr.slice 22 (.slice (some ⟨g, 0, none⟩) n n) (some (.int .i64 (m : Nat))) none none).run Tryz.prog w = .ok (.slice (some ⟨g, m, none⟩) (n - m) (n - m)) w := by
  have he : Tryz.prog.elem 22 = 5 := by have := elem_of (P := Tryz.prog) Tryz.underlying22; rw [Tryz.underlying22] at this; simp at this; exact this.symm
  rw [run_slice_l (P := Tryz.prog) w 22 _ n n (elem_of Tryz.underlying22) .i64 (m : Int) (by omega) (by omega), he, sizeOf_run u8sz]
  have : ¬ n = m := by omega
  simp [Result.andThen, sliced, this, addr_add]
theorem slice_hi8 {w : World} {g n m : Nat} (h : m ≤ n) : (Instr.slice 22 (.slice (some ⟨g, 0, none⟩) n n) none (some (.int .i64 (m : Nat))) none).run Tryz.prog w = .ok (.slice (some ⟨g, 0, none⟩) m n) w := by
  have he : Tryz.prog.elem 22 = 5 := by have := elem_of (P := Tryz.prog) Tryz.underlying22; rw [Tryz.underlying22] at this; simp at this; exact this.symm
  rw [run_slice_h (P := Tryz.prog) w 22 _ n n (elem_of Tryz.underlying22) .i64 (m : Int) (by omega) (by omega), he, sizeOf_run u8sz]
  simp [Result.andThen, sliced, Addr.add]
theorem slice_hm8 {w : World} {g n c : Nat} (h : n ≤ c) : (Instr.slice 22 (.slice (some ⟨g, 0, none⟩) n c) none (some (.int .i64 (n : Nat))) (some (.int .i64 (n : Nat)))).run Tryz.prog w = .ok (.slice (some ⟨g, 0, none⟩) n n) w := by
  have he : Tryz.prog.elem 22 = 5 := by have := elem_of (P := Tryz.prog) Tryz.underlying22; rw [Tryz.underlying22] at this; simp at this; exact this.symm
  rw [run_slice_hm (P := Tryz.prog) w 22 _ n c (elem_of Tryz.underlying22) .i64 .i64 (n : Int) (n : Int) (by omega) (by omega) (by omega), he, sizeOf_run u8sz]
  simp [Result.andThen, sliced, Addr.add]
set_option maxRecDepth 100000 in
set_option maxHeartbeats 1000000 in
theorem repeat_b (w : World) (gx ox cx x n : Nat) (hgx : gx < w.heap.size) (hx : w.cell? ⟨gx, ox, none⟩ = some (.int .u8 (x : Nat))) (hn : 0 < n) (hn2 : n ≤ 500) :
    Calls Tryz.prog 92 #[.slice (some ⟨gx, ox, none⟩) 1 cx, .int .i64 (n : Nat)] w (RunB w x n) := by
  obtain ⟨cs, hrunM, hle, _⟩ := Lib.run_makeNoZero (P := Tryz.prog) w #[3] 22 5 Tryz.underlying22 n (by omega)
  have hcall : (callFunc 125 #[.int .i64 (n : Nat)]).run Tryz.prog w = .ok (.value (.slice (some ⟨w.heap.size, 0, none⟩) n cs.size)) ((w.alloc (.cells cs 5)).drewN 2) := by
    rw [run_callFunc_extern Tryz.func125 (by kernel_rfl) (by kernel_rfl) (by kernel_rfl) (e := Extern.BytealgMakeNoZero.makeNoZero #[3] #[22]) (by kernel_rfl), hrunM]
    rfl
  have hR : RepB ((w.alloc (.cells cs 5)).drewN 2) w.heap.size x n 0 := ⟨cs, alloc_at w _, hle, fun j hj => absurd hj (Nat.not_lt_zero _)⟩
  have k0 : Kp (fun _ => False) w ((w.alloc (.cells cs 5)).drewN 2) := ((Kp.refl _ w).alloc _).drewN 2
  have hx1 : ((w.alloc (.cells cs 5)).drewN 2).cell? ⟨gx, ox, none⟩ = some (.int .u8 (x : Nat)) := (k0.cell (p := ⟨gx, ox, none⟩) hgx (fun q => q)).trans hx
  obtain ⟨w2, hrun, hR2, hk2⟩ := rep_cp (k := 1) (a := ⟨gx, ox, none⟩) (sl := 1) (sc := cx) hR (by omega) (fun j hj => by
    obtain rfl : j = 0 := by omega
    rw [addr_add]; exact hx1) (by show 1 = min 1 (n - 0); omega)
  rw [Nat.sub_zero] at hrun
  have hhm := slice_hm8 (w := (w.alloc (.cells cs 5)).drewN 2) (g := w.heap.size) hle
  have HR2 := Lib.hid hR2
  have HK2 := Lib.hid (k0.up hk2 (fun i e => by rw [e]; exact Nat.le_refl _))
  have MC := Lib.hid (mul_c n (by omega))
  have b0 : ((n : Int) == 0) = false := by rw [beq_eq_false_iff_ne]; omega
  have b1 : decide ((n : Int) < 0) = false := decide_eq_false (by omega)
  have b2 : decide ((9223372036854775807 : Int) < (n : Int)) = false := decide_eq_false (by omega)
  have b3 : decide ((8192 : Int) < (n : Int)) = false := decide_eq_false (by omega)
  have hw1 : IntKind.u64.wrap (n : Int) = (n : Int) := by
    have : IntKind.u64.wrap (n : Int) = (n : Int) % 18446744073709551616 := by simp [IntKind.wrap, IntKind.bits, IntKind.signed]
    rw [this]; omega
  have hw2 : IntKind.i64.wrap (n : Int) = (n : Int) := by rw [IntKind.wrap_i64]; omega
  clear hR k0 hR2 hk2 hx hx1 hrunM
  go_enter Tryz.func92, Tryz.ntmps92
  go_wp2_with fail
  refine (MC.out w).mono ?_
  rintro e w1 ⟨rfl, rfl⟩
  go_wp2_with fail
  go_loopw [10] (fun i wr => ∃ m : Nat, 1 ≤ m ∧ m ≤ n ∧ i = .int .i64 m ∧ RepB wr w1.heap.size x n m ∧ Kp (fun _ => False) w1 wr) (fun i _ => n - (intOf i).toNat)
  case atStart => exact ⟨1, Nat.le_refl _, hn, rfl, HR2.out, HK2.out⟩
  case round =>
    clear hrun hhm hcall
    obtain ⟨m, hm1, hm, rfl, hr, hk⟩ := hrel
    have HR := Lib.hid hr
    have HK := Lib.hid hk
    clear hr hk
    by_cases hlt : m < n
    · have hs1 : ∀ w', (Instr.slice 22 (.slice (some ⟨w1.heap.size, 0, none⟩) n n) (some (.int .i64 (m : Nat))) none none).run Tryz.prog w' = .ok (.slice (some ⟨w1.heap.size, m, none⟩) (n - m) (n - m)) w' := fun w' => slice_lo8 hlt
      have hs2 : ∀ w', (Instr.slice 22 (.slice (some ⟨w1.heap.size, 0, none⟩) n n) none (some (.int .i64 (m : Nat))) none).run Tryz.prog w' = .ok (.slice (some ⟨w1.heap.size, 0, none⟩) m n) w' := fun w' => slice_hi8 (by omega)
      obtain ⟨q, hq⟩ : ∃ q, q = Nat.min m (n - m) := ⟨_, rfl⟩
      have hq' : q = min m (n - m) := hq
      obtain ⟨w3, hrun, hr3, hk3⟩ := rep_cp (w := wr.drew) (k := q) (a := ⟨w1.heap.size, 0, none⟩) (sl := m) (sc := n) HR.out (by omega) (fun j hj => by
        rw [addr_add]
        simp only [Nat.zero_add]
        exact HR.out.cell (by omega)) hq
      have hq1 : 1 ≤ q := by omega
      have hq2 : m + q ≤ n := by omega
      have hwr : IntKind.i64.wrap ((m : Int) + (q : Int)) = (m : Int) + (q : Int) := by rw [IntKind.wrap_i64]; omega
      have hmin : min (m : Int) (n : Int) = (m : Int) := by omega
      have HR3 := Lib.hid hr3
      have HK3 := Lib.hid ((HK.out.drew).up hk3 (fun i e => by rw [e]; exact Nat.le_refl _))
      clear hr3 hk3 hq hq'
      go_wp2_with fail
      go_region_held3 (fun _ => True) (trivial) (fail)
      all_goals (go_wp2_with fail; exact ⟨⟨m + q, by omega, hq2, by go_num, HR3.out, HK3.out⟩, by simp [intOf]; omega⟩)
    · obtain rfl : m = n := by omega
      go_wp2_with fail
      go_ret
      exact ⟨w1.heap.size, rfl, Nat.le_refl _, HR.out, HK.out⟩
end Go.Proofs.YtphakpikalmghaaGreat.Un
namespace Go.Proofs.YtphakpikalmghaaGreat.Un
open Go Go.RowKit Go.ChangeMaps Go.MapKept Go.Mg Go.Hf Go.Mt Go.Proofs.YtphakpikalmghaaGreat.Hu Go.Proofs.YtphakpikalmghaaGreat.He Go.Proofs.YtphakpikalmghaaGreat.Rd Go.Proofs.YtphakpikalmghaaGreat.Bw Go.Proofs.YtphakpikalmghaaGreat.Ma

theorem RepB.sl {w : World} {g x n : Nat} (hx : x < 256) (hn : n ≤ 500) (h : RepB w g x n n) : SlR w 1 (.slice (some ⟨g, 0, none⟩) n n) n ((List.replicate n (UInt8.ofNat x)).map u8c) := by
  refine ⟨by simp, _, _, rfl, Nat.le_refl _, by unfold maxLen; omega, (fun q => by cases q), fun _ => ⟨g, 0, rfl, by obtain ⟨_, q, _⟩ := h; exact lt_of_at q, fun i u hu => ?_⟩⟩
  rw [List.map_replicate, List.getElem?_replicate] at hu
  split at hu
  · rename_i hi
    rw [Nat.zero_add, h.cell hi]
    rw [← hu]
    simp only [u8c, UInt8.toNat_ofNat']
    congr 3
    omega
  · cases hu
/-- A row taken: what it is, what is left; or refused. -/
def RwPost (w : World) (x : Nat) (Ok : List UInt8 → List UInt8 → Prop) (e : Ending) (w' : World) : Prop :=
  (∃ o l' a c, Ok o l' ∧ e = .returned (.slice a o.length c) ∧ SlR w' 1 (.slice a o.length c) o.length (o.map u8c) ∧ (∀ b, (Value.slice a o.length c).ownBlock = some b → w.heap.size ≤ b) ∧ Rdr w' x l' false ∧ Kp (· = x) w w') ∨
  ((∀ o l', ¬ Ok o l') ∧ (∃ v, e = .returned v) ∧ (∃ l', Rdr w' x l' true) ∧ Kp (· = x) w w')
def RunOk (l : List UInt8) (bad : Bool) (n : Nat) (o l' : List UInt8) : Prop := bad = false ∧ 1 ≤ l.length ∧ n ≠ 0 ∧ o = List.replicate n (l[0]?.getD 0) ∧ l' = l.drop 1
set_option maxRecDepth 100000 in
set_option maxHeartbeats 1000000 in
theorem run_p {w : World} {x : Nat} {l : List UInt8} {bad : Bool} (h : Rdr w x l bad) (hl : l.length ≤ 100000) (n : Nat) (hn : n ≤ 500) :
    Calls Tryz.prog 60 #[.pointer (some ⟨x, 0, none⟩), .int .i64 (n : Nat)] w (RwPost w x (RunOk l bad n)) := by
  have TK := Lib.hid (take_p h 1 hl)
  have HLX := Lib.hid h.lt
  clear h
  go_enter Tryz.func60, Tryz.ntmps60
  go_wp2_with fail
  refine TK.out.mono ?_
  rintro e w1 (⟨h1, ⟨a, c, rfl, q1, _⟩, q3, q4⟩ | ⟨h1, rfl, q3, q4⟩)
  · have H1 := Lib.hid h1
    have QB := Lib.hid (q3.bad_put true)
    obtain ⟨_, _, _, c1, _, f1⟩ := q3.cells
    have Q3 := Lib.hid q3
    have Q4 := Lib.hid q4
    have hlen : (l.take 1).length = 1 := by rw [List.length_take]; omega
    rw [hlen]
    by_cases h0 : n = 0
    · subst h0
      clear q1 q3 q4 hlen h1 TK
      go_wp2_with fail
      go_ret
      exact .inr ⟨fun o l' q => q.2.2.1 rfl, ⟨_, rfl⟩, ⟨_, QB.out.1⟩, Q4.out.trans QB.out.2⟩
    · have b0 : ((n : Int) == 0) = false := by rw [beq_eq_false_iff_ne]; omega
      obtain ⟨g, o, rfl, hg, _, hc⟩ := byts_at q1 (by omega)
      have d0 := hc 0 (by omega)
      rw [Nat.add_zero, byt_take (by omega)] at d0
      have RP := Lib.hid (repeat_b w1 g o c (byt l 0) n hg d0 (by omega) hn)
      have HBT : Hid (UInt8.ofNat (byt l 0) = l[0]?.getD 0) := Lib.hid (by unfold byt; simp)
      have HBL := Lib.hid (byt_lt l 0)
      have HN0 := Lib.hid h0
      clear q1 q3 q4 hlen h1 TK hc hg d0 h0
      go_wp2_with fail
      refine RP.out.mono ?_
      rintro e w2 ⟨g2, rfl, r1, r2, r3⟩
      have R1 := Lib.hid r1
      have R2 := Lib.hid (r2.sl HBL.out hn)
      have R3 := Lib.hid r3
      clear r1 r2 r3 RP
      go_wp2_with fail
      go_ret
      have hz := Q4.out.size
      refine .inl ⟨List.replicate n (l[0]?.getD 0), l.drop 1, some ⟨g2, 0, none⟩, n, ⟨H1.out.1, H1.out.2, HN0.out, rfl, rfl⟩, by rw [List.length_replicate]; rfl, ?_, fun b hb => ?_, Q3.out.kp0 R3.out, Q4.out.trans2 R3.out (fun _ _ q => q.elim)⟩
      · rw [List.length_replicate, ← HBT.out]; exact R2.out
      · have := own_b hb
        have := R1.out
        omega
  · have H1 := Lib.hid h1
    obtain ⟨_, _, _, c1, _, f1⟩ := q3.cells
    have QB := Lib.hid (q3.bad_put true)
    have Q4 := Lib.hid q4
    clear q3 q4 h1 TK
    go_wp2_with fail
    go_ret
    exact .inr ⟨fun o l' q => H1.out ⟨q.1, q.2.1⟩, ⟨_, rfl⟩, ⟨_, QB.out.1⟩, Q4.out.trans QB.out.2⟩
end Go.Proofs.YtphakpikalmghaaGreat.Un
