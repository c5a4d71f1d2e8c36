/- The acts of a script: what a law is told of them; long. stream: steps of both. Bytes as a string. The walk of StreamPlays. -/
import Derived.Deep.RegionHeld3
import Derived.Deep.RegionLaw
import Derived.Deep.DeepCutAuto
import Derived.Test.YtbakhpakdaflkaaGreatQ02
namespace Go.Proofs.YtbakhpakdaflkaaGreat.Str
open Go Go.ChangeShapes Go.WideShapes Go.ChangeAt Go.RowKit Go.ChangeMaps Go.MapKept Go.Mg Go.Deep Go.Proofs.YtbakhpakdaflkaaGreat.Op Go.Proofs.YtbakhpakdaflkaaGreat.Ma
structure Ac where
  kind : Int
  data : List UInt8
  da : Option Addr
  dc : Nat
instance : Inhabited Ac := ⟨⟨0, [], none, 0⟩⟩
def actCells (y : Ac) : List Value := [.int .i64 y.kind, .slice y.da y.data.length y.dc]
structure GoodA (w : World) (y : Ac) : Prop where
  data : SlR w 1 (.slice y.da y.data.length y.dc) y.data.length (y.data.map u8c)
  kind : (Lit.int .i64 y.kind).wf = true
theorem act_at {w : World} {a : Option Addr} {c : Nat} {l : List Ac} (h : SlR w 2 (.slice a l.length c) l.length (l.flatMap actCells)) {i : Nat} (hi : i < l.length) :
    ∃ g o, a = some ⟨g, o, none⟩ ∧ g < w.heap.size ∧ w.cell? ⟨g, o + i * 2, none⟩ = some (.int .i64 l[i].kind) ∧ w.cell? ⟨g, o + i * 2 + 1, none⟩ = some (.slice l[i].da l[i].data.length l[i].dc) := by
  obtain ⟨g, o, rfl, hg, hc⟩ := SlR.cellK h (fun y _ => rfl) hi
  refine ⟨g, o, rfl, hg, ?_, ?_⟩
  · simpa using hc 0 _ rfl (by decide)
  · have := hc 1 _ rfl (by decide); rwa [← Nat.add_assoc] at this
def tot : List Ac → Nat
  | [] => 0
  | y :: l => y.data.length + tot l
theorem tot_app (l m : List Ac) : tot (l ++ m) = tot l + tot m := by
  induction l with
  | nil => simp [tot]
  | cons y l ih => simp only [List.cons_append, tot, ih]; omega
theorem tot_take {l : List Ac} {k : Nat} (hk : k < l.length) : tot (l.take (k + 1)) = tot (l.take k) + l[k].data.length := by
  rw [List.take_succ_eq_append_getElem hk, tot_app]; simp [tot]
theorem tot_le (l : List Ac) (k : Nat) : tot (l.take k) ≤ tot l := by
  have := tot_app (l.take k) (l.drop k)
  rw [List.take_append_drop] at this
  omega
end Go.Proofs.YtbakhpakdaflkaaGreat.Str
namespace Go.Proofs.YtbakhpakdaflkaaGreat.Str
open Go Go.RowKit Go.ChangeMaps Go.MapKept Go.Mg Go.Mt Go.Proofs.YtbakhpakdaflkaaGreat.Hu Go.Proofs.YtbakhpakdaflkaaGreat.Sq Go.Proofs.YtbakhpakdaflkaaGreat.Bk Go.Proofs.YtbakhpakdaflkaaGreat.Ma

def ProgP (w wx : World) (s x : Nat) (dict : List UInt8) (da : Option Addr) (dc : Nat) (O : List UInt8) (S S' : Str) (e : Ending) (w1 : World) : Prop :=
  ∃ a c, e = .returned (.slice a O.length c) ∧ RowB wx.heap.size w1 (.slice a O.length c) O ∧ Mid w wx w1 s x dict da dc S S' (.slice a O.length c)
def DocP (w w1 : World) (s x : Nat) (dict : List UInt8) (da : Option Addr) (dc : Nat) (O : List UInt8) (S' : Str) (e : Ending) (w2 : World) : Prop :=
  ∃ a c, e = .returned (.slice a O.length c) ∧ RowB w1.heap.size w2 (.slice a O.length c) O ∧ PL w w2 s x dict da dc S' ∧ Kp (· = x) w1 w2
section
variable {w wx w1 : World} {s x : Nat} {dict : List UInt8} {da : Option Addr} {dc : Nat} {S S' : Str} {row : Value}
theorem PL.writeP (h : PL w wx s x dict da dc S) {w' : World} (hk : Kp (fun _ => False) wx w') (p : List UInt8) (ap : Option Addr) (cp : Nat) (hp : RowB wx.heap.size w' (.slice ap p.length cp) p) (hz : Sz S 40000) (hpl : p.length ≤ 40000) :
    Calls Tryz.prog 13 #[.pointer (some ⟨s, 0, none⟩), .slice ap p.length cp] w' (ProgP w w' s x dict da dc (wO S p) S (wS S p)) := by
  obtain ⟨out, aa, ac, h1, h2, h3⟩ := h.ex
  have h3' : L1 (fun k => (k = x ∨ (Value.slice aa S.all.length ac).ownBlock = some k) ∨ (Value.slice ap p.length cp).ownBlock = some k) w w' s S :=
    h3.doc (hk.mono (fun _ _ q => q.elim)) (.inl rfl) h.hx (fun k q => q.elim .inl (fun q => .inr (row_lt' hp q)))
  exact (writeA h3' p ap cp (row_own hp).sl (fun b hb => .inr hb) hz.wf hpl).mono (fun e w2 q => Mid.of (h1.kp0 hk) h2 h.hx h.dlt (fun k q => .inl q) q)
theorem PL.flushP (h : PL w wx s x dict da dc S) (hz : Sz S 40000) :
    Calls Tryz.prog 14 #[.pointer (some ⟨s, 0, none⟩)] wx (ProgP w wx s x dict da dc (fO S) S (fS S)) := by
  obtain ⟨out, aa, ac, h1, h2, h3⟩ := h.ex
  exact (flushA h3 ⟨hz.wf.mono (by omega), hz.kept⟩).mono (fun e w2 q => Mid.of h1 h2 h.hx h.dlt (fun k q => q) q)
theorem PL.endP (h : PL w wx s x dict da dc S) (hz : Sz S 40000) :
    Calls Tryz.prog 18 #[.pointer (some ⟨s, 0, none⟩)] wx (ProgP w wx s x dict da dc (eO S) S (eS S)) := by
  obtain ⟨out, aa, ac, h1, h2, h3⟩ := h.ex
  exact (endA h3 ⟨hz.wf.mono (by omega), hz.kept⟩).mono (fun e w2 q => Mid.of h1 h2 h.hx h.dlt (fun k q => q) q)
theorem Mid.writeD {p : List UInt8} (h : Mid w wx w1 s x dict da dc S (wS S p) row) (ap : Option Addr) (cp : Nat) (hp : SlR w1 1 (.slice ap p.length cp) p.length (p.map u8c)) (hz : Sz S 40000) (hpl : p.length ≤ 40000) (hd : dict.length ≤ 2000) :
    Calls Tryz.prog 23 #[.pointer (some ⟨x, 0, none⟩), .slice ap p.length cp] w1 (DocP w w1 s x dict da dc (wO S p) (wS S p)) := by
  obtain ⟨out, aa, ac, h1, h2, h3⟩ := h.ex
  exact (writeDA h1 h2 p ap cp hp hz.wf hpl hd).mono (fun e w2 q => Mid.done h.hx h.dlt h3 q)
theorem Mid.flushD (h : Mid w wx w1 s x dict da dc S (fS S) row) (hz : Sz S 40000) (hd : dict.length ≤ 2000) :
    Calls Tryz.prog 24 #[.pointer (some ⟨x, 0, none⟩)] w1 (DocP w w1 s x dict da dc (fO S) (fS S)) := by
  obtain ⟨out, aa, ac, h1, h2, h3⟩ := h.ex
  exact (flushDA h1 h2 ⟨hz.wf.mono (by omega), hz.kept⟩ hd).mono (fun e w2 q => Mid.done h.hx h.dlt h3 q)
theorem Mid.endD (h : Mid w wx w1 s x dict da dc S (eS S) row) (hz : Sz S 40000) (hd : dict.length ≤ 2000) :
    Calls Tryz.prog 25 #[.pointer (some ⟨x, 0, none⟩)] w1 (DocP w w1 s x dict da dc (eO S) (eS S)) := by
  obtain ⟨out, aa, ac, h1, h2, h3⟩ := h.ex
  exact (endDA h1 h2 ⟨hz.wf.mono (by omega), hz.kept⟩ hd).mono (fun e w2 q => Mid.done h.hx h.dlt h3 q)
theorem PL.total (h : PL w wx s x dict da dc S) {w' : World} (hk : Kp (fun _ => False) wx w') : Calls Tryz.prog 26 #[.pointer (some ⟨s, 0, none⟩)] w' fun e w2 => e = .returned (.int .i64 (S.all.length : Nat)) ∧ w2 = w' := by
  obtain ⟨out, aa, ac, h1, h2, h3⟩ := h.ex
  obtain ⟨F, g1, _⟩ := (h3.kp0 hk).ex
  exact total_p g1
theorem PL.ended (h : PL w wx s x dict da dc S) {w' : World} (hk : Kp (fun _ => False) wx w') : Calls Tryz.prog 27 #[.pointer (some ⟨s, 0, none⟩)] w' fun e w2 => e = .returned (.bool S.ended) ∧ w2 = w' := by
  obtain ⟨out, aa, ac, h1, h2, h3⟩ := h.ex
  obtain ⟨F, g1, _⟩ := (h3.kp0 hk).ex
  exact ended_p g1
theorem PL.cells (h : PL w wx s x dict da dc S) : ∃ aa ac, wx.cell? ⟨x, 3, none⟩ = some (.slice aa S.all.length ac) ∧ wx.cell? ⟨x, 9, none⟩ = some (.bool S.ended) ∧ x < wx.heap.size := by
  obtain ⟨out, aa, ac, h1, h2, h3⟩ := h.ex
  exact ⟨aa, ac, by rw [h1.cell]; rfl, by rw [h1.cell]; rfl, h1.lt⟩
theorem PL.of_new {w w1 w2 : World} {s : Nat} {dict : List UInt8} {da : Option Addr} {dc : Nat} {S : Str} {e : Ending} (h : SlR w 1 (.slice da dict.length dc) dict.length (dict.map u8c)) (hl : L1 (fun _ => False) w w1 s S) (hn : NewDPost w1 dict da dc S e w2) :
    ∃ x, e = .returned (.pointer (some ⟨x, 0, none⟩)) ∧ PL w w2 s x dict da dc S := by
  obtain ⟨x, rfl, h1, h2, h3, h4⟩ := hn
  have hz := hl.kp.size
  refine ⟨x, rfl, ⟨⟨0, none, 0, h1, h2, ?_⟩, by omega, fun h0 b hb => sl_lt h h0 hb⟩⟩
  obtain ⟨⟨F, g1, g2, _⟩, g4⟩ := hl
  refine ⟨⟨F, g1.kp0 h4, g2, fun k q => ?_⟩, g4.trans h4⟩
  rcases q with rfl | q
  · refine ⟨h1.lt, fun r => ?_⟩
    rw [rd_kp h4 g1.lt (fun q => q)] at r
    rcases r with r | r
    · have := g1.fl _ r; omega
    · have := (g1.rd_lt r).1; omega
  · cases q
end
/-! ### what long lets by -/
theorem tot_bound {l : List Ac} {B : Nat} (h : ∀ y ∈ l, y.data.length ≤ B) : ∀ k, tot (l.take k) ≤ k * B
  | 0 => by simp [tot]
  | k + 1 => by
    have ih := tot_bound h k
    by_cases hk : k < l.length
    · rw [tot_take hk, Nat.succ_mul]
      have := h l[k] (List.getElem_mem _)
      omega
    · have e : l.take (k + 1) = l.take k := by rw [List.take_of_length_le (by omega), List.take_of_length_le (by omega)]
      rw [e, Nat.succ_mul]; omega
def LongPost (w : World) (l : List Ac) (e : Ending) (w' : World) : Prop := ∃ b, e = .returned (.bool b) ∧ w' = w ∧ (b = false ↔ l.length ≤ 50 ∧ tot l ≤ 2500)
set_option maxRecDepth 100000 in
set_option maxHeartbeats 1000000 in
theorem long9_c (w : World) (a : Option Addr) (c : Nat) (l : List Ac) (h : SlR w 2 (.slice a l.length c) l.length (l.flatMap actCells)) (hs : ∀ y ∈ l, y.data.length ≤ 140737488351232) :
    Calls Tryz.prog 19 #[.slice a l.length c] w (LongPost w l) := by
  have HAC := Lib.hid (fun i (hi : i < l.length) => act_at h hi)
  have HB := Lib.hid (fun k => tot_bound hs k)
  have HTT : Hid (∀ k, (hk : k < l.length) → tot (l.take (k + 1)) = tot (l.take k) + l[k].data.length) := Lib.hid (fun k hk => tot_take hk)
  have HSZ := Lib.hid (fun i (hi : i < l.length) => hs l[i] (List.getElem_mem _))
  have HL : Hid (l.length ≤ 9223372036854775807) := Lib.hid (by obtain ⟨_, _, _, e, q1, q2, _⟩ := h; unfold maxLen at q2; simp only [Value.slice.injEq] at e; omega)
  have HALL : Hid (tot (l.take l.length) = tot l) := Lib.hid (by rw [List.take_length])
  obtain ⟨T, hT⟩ : ∃ T : Nat → Nat, T = fun k => tot (l.take k) := ⟨_, rfl⟩
  have HT0 : Hid (T 0 = 0) := Lib.hid (by rw [hT]; simp [tot])
  have HB : Hid (∀ k, T k ≤ k * 140737488351232) := Lib.hid (by rw [hT]; exact HB.out)
  have HTT : Hid (∀ k, (hk : k < l.length) → T (k + 1) = T k + l[k].data.length) := Lib.hid (by rw [hT]; exact HTT.out)
  have HALL : Hid (T l.length = tot l) := Lib.hid (by rw [hT]; exact HALL.out)
  obtain ⟨m, hm⟩ : ∃ m, m = l.length := ⟨_, rfl⟩
  have HM := Lib.hid hm
  rw [← hm] at HL HALL ⊢
  have hml := HL.out
  clear h hs hT hm
  go_enter Tryz.func19, Tryz.ntmps19
  go_wp2_with fail
  go_loopw [3, 4] (fun n i wx => ∃ k : Nat, k ≤ m ∧ k ≤ 60 ∧ i = .int .i64 k ∧ n = .int .i64 (T k : Nat) ∧ wx = w) (fun _ i _ => 60 - (intOf i).toNat)
  case atStart => exact ⟨0, Nat.zero_le _, by omega, rfl, by rw [HT0.out]; rfl, rfl⟩
  case round =>
    obtain ⟨k, hk, hk6, rfl, rfl, hwr⟩ := hrel
    obtain rfl := hwr
    have hbk := HB.out k
    have hT64 : T k ≤ 8444249301073920 := by omega
    clear hbk
    by_cases hlt : k < m
    · have d1 : decide ((k : Int) < (m : Int)) = true := decide_eq_true (by omega)
      by_cases h60 : k < 60
      · have d2 : decide ((k : Int) < 60) = true := decide_eq_true (by omega)
        obtain ⟨g, o, ea, hgg, c0, c1⟩ := HAC.out k (by rw [← HM.out]; exact hlt)
        have HT1 := Lib.hid (HTT.out k (by rw [← HM.out]; exact hlt))
        have hsz := HSZ.out k (by rw [← HM.out]; exact hlt)
        generalize l[k]'(by rw [← HM.out]; exact hlt) = y at c0 c1 HT1 hsz
        subst ea
        have hkm : (k : Int) < (m : Int) := by omega
        obtain ⟨yl, hyl⟩ : ∃ yl, yl = y.data.length := ⟨_, rfl⟩
        rw [← hyl] at c1 HT1 hsz
        have hadd : IntKind.i64.wrap ((T k : Int) + (yl : Int)) = (T k : Int) + (yl : Int) := by rw [IntKind.wrap_i64]; omega
        have hk1 : IntKind.i64.wrap ((k : Int) + 1) = (k : Int) + 1 := by rw [IntKind.wrap_i64]; omega
        clear hyl
        go_wp2_with fail
        exact ⟨⟨k + 1, by omega, by omega, by go_num, by rw [HT1.out]; simp, trivial⟩, by simp [intOf]; omega⟩
      · have d2 : decide ((k : Int) < 60) = false := decide_eq_false (by omega)
        obtain rfl : k = 60 := by omega
        have d5 : decide ((50 : Int) < (m : Int)) = true := decide_eq_true (by omega)
        obtain ⟨wo, rfl⟩ : ∃ wo : World, wo = wr := ⟨_, rfl⟩
        generalize T 60 = t60 at *
        by_cases h25 : 2500 < t60
        · have d6 : decide ((2500 : Int) < (t60 : Int)) = true := decide_eq_true (by omega)
          go_wp2_with fail
          go_ret
          exact ⟨true, rfl, rfl, ⟨fun q => (by cases q), fun q => by have := q.1; rw [← HM.out] at this; omega⟩⟩
        · have d6 : decide ((2500 : Int) < (t60 : Int)) = false := decide_eq_false (by omega)
          go_wp2_with fail
          go_ret
          exact ⟨true, rfl, rfl, ⟨fun q => (by cases q), fun q => by have := q.1; rw [← HM.out] at this; omega⟩⟩
    · obtain rfl : k = m := by omega
      have d1 : decide ((k : Int) < (k : Int)) = false := decide_eq_false (by omega)
      obtain ⟨wo, rfl⟩ : ∃ wo : World, wo = wr := ⟨_, rfl⟩
      have HTK := Lib.hid HALL.out
      generalize T k = tk at *
      by_cases h25 : 2500 < tk
      · have d6 : decide ((2500 : Int) < (tk : Int)) = true := decide_eq_true (by omega)
        go_wp2_with fail
        go_ret
        exact ⟨true, rfl, rfl, ⟨fun q => (by cases q), fun q => by have := q.2; rw [← HTK.out] at this; omega⟩⟩
      · have d6 : decide ((2500 : Int) < (tk : Int)) = false := decide_eq_false (by omega)
        by_cases h50 : 50 < k
        · have d5 : decide ((50 : Int) < (k : Int)) = true := decide_eq_true (by omega)
          go_wp2_with fail
          go_ret
          exact ⟨true, rfl, rfl, ⟨fun q => (by cases q), fun q => by have := q.1; rw [← HM.out] at this; omega⟩⟩
        · have d5 : decide ((50 : Int) < (k : Int)) = false := decide_eq_false (by omega)
          go_wp2_with fail
          go_ret
          exact ⟨false, rfl, rfl, ⟨fun _ => ⟨by rw [← HM.out]; omega, by rw [← HTK.out]; omega⟩, fun _ => rfl⟩⟩
end Go.Proofs.YtbakhpakdaflkaaGreat.Str
namespace Go.Proofs.YtbakhpakdaflkaaGreat.He
open Go Go.RowKit Go.ChangeMaps Go.MapKept Go.Mg Go.Hf Go.Sort Go.Proofs.YtbakhpakdaflkaaGreat.Hu Go.Proofs.YtbakhpakdaflkaaGreat.Bw

set_option maxRecDepth 100000 in
theorem strOf {w : World} {a : Option Addr} {n cap : Nat} {l : List UInt8} (h : SlR w 1 (.slice a n cap) l.length (l.map u8c)) : (convert 24 9 (.slice a n cap)).run Tryz.prog w = .ok (.string ⟨l.toArray⟩) w := by
  obtain ⟨h0, a', c', e, h1, h2, h3, h4⟩ := h
  simp only [Value.slice.injEq] at e
  obtain ⟨rfl, rfl, rfl⟩ := e
  by_cases hl : 0 < l.length
  · obtain ⟨g, off, rfl, hg, hc⟩ := h4 hl
    have := run_convert_bytes_arg (P := Tryz.prog) w 24 5 Tryz.underlying24 Tryz.underlying5 g off l.length cap (l.map fun b => (b.toNat : Int)) (by simp) (fun i hi => by
      rw [hc i (u8c l[i]) (by simp [hi])]
      simp [u8c, List.getD, hi]) 9 Tryz.underlying9
    rw [this]
    simp only [strOfNums, List.map_map]
    congr 3
    have : ((fun n : Int => UInt8.ofNat n.toNat) ∘ fun b : UInt8 => (b.toNat : Int)) = id := by funext b; simp
    rw [this, List.map_id]
  · have : l = [] := List.eq_nil_of_length_eq_zero (by omega)
    subst this
    cases a with
    | none => exact run_convert_bytes_nil (P := Tryz.prog) w 24 5 Tryz.underlying24 Tryz.underlying5 _ _ 9 Tryz.underlying9
    | some ad =>
      rw [run_convert_bytes_string w 24 9 5 (some ad) _ cap Tryz.underlying24 Tryz.underlying5 Tryz.underlying9]
      simp [Conv.bytesToString, loadCells, loadCellsFrom]
      rfl

end Go.Proofs.YtbakhpakdaflkaaGreat.He
namespace Go.Proofs.YtbakhpakdaflkaaGreat.streamPlays
open Go Go.RowKit Go.ChangeMaps Go.MapKept Go.Mg Go.Mt Go.Proofs.YtbakhpakdaflkaaGreat.Hu Go.Proofs.YtbakhpakdaflkaaGreat.Sq Go.Proofs.YtbakhpakdaflkaaGreat.Bk Go.Proofs.YtbakhpakdaflkaaGreat.Ma Go.Proofs.YtbakhpakdaflkaaGreat.Str Go.Proofs.YtbakhpakdaflkaaGreat.Op Go.Proofs.YtbakhpakdaflkaaGreat.He

/-- Behind an act: both answered alike. -/
def TL (w wx : World) (s x : Nat) (dict : List UInt8) (da : Option Addr) (dc n : Nat) (va vb : Value) : Prop :=
  ∃ (a a' : Option Addr) (c c' : Nat) (O : List UInt8) (S' : Str), va = .slice a O.length c ∧ vb = .slice a' O.length c' ∧ SlR wx 1 (.slice a O.length c) O.length (O.map u8c) ∧ SlR wx 1 (.slice a' O.length c') O.length (O.map u8c) ∧ PL w wx s x dict da dc S' ∧ Sz S' n
theorem TL.of {w w0 w1 w2 : World} {s x : Nat} {dict : List UInt8} {da : Option Addr} {dc n : Nat} {a : Option Addr} {c : Nat} {O : List UInt8} {S' : Str} {e : Ending} (hx : x < w0.heap.size) (h1 : RowB w0.heap.size w1 (.slice a O.length c) O) (h : DocP w w1 s x dict da dc O S' e w2) (hz : Sz S' n) :
    ∃ a' c', e = .returned (.slice a' O.length c') ∧ TL w w2 s x dict da dc n (.slice a O.length c) (.slice a' O.length c') := by
  obtain ⟨a', c', rfl, q1, q2, q3⟩ := h
  exact ⟨a', c', rfl, a, a', c, c', O, S', rfl, rfl, (row_own (h1.kp q3 (fun k q => by rw [q]; exact hx))).sl, (row_own q1).sl, q2, hz⟩
theorem TL.kp {w wx : World} {s x : Nat} {dict : List UInt8} {da : Option Addr} {dc n : Nat} {va vb : Value} (h : TL w wx s x dict da dc n va vb) : Kp (fun _ => False) w wx := by
  obtain ⟨_, _, _, _, _, _, _, _, _, _, q, _⟩ := h
  exact q.kp
set_option maxRecDepth 100000 in
set_option maxHeartbeats 2000000 in
theorem some_ (w : World) (dict : List UInt8) (da : Option Addr) (dc : Nat) (id : Nat) (lv : Int) (a : Option Addr) (c : Nat) (l : List Ac) (hd : SlR w 1 (.slice da dict.length dc) dict.length (dict.map u8c)) (hl : SlR w 2 (.slice a l.length c) l.length (l.flatMap actCells)) (hg : ∀ y ∈ l, GoodA w y)
    (h1 : 1 ≤ lv) (h2 : lv ≤ 3) (h3 : id ≤ 2147483647) (h4 : dict.length ≤ 2000) (h5 : l.length ≤ 50) (h6 : tot l ≤ 2500) (LG : Calls Tryz.prog 19 #[.slice a l.length c] w fun e w' => e = .returned (.bool false) ∧ w' = w) :
    Calls Tryz.prog 8 #[.slice da dict.length dc, .int .i64 (id : Nat), .int .i64 lv, .slice a l.length c] w (LawPost w) := by
  obtain ⟨dl, hdl, hdep⟩ := dep_lv h1 h2
  have NP := Lib.hid (new_lvR w dict da dc id lv dl h1 h2 hdep hd h3 h4)
  have ND := Lib.hid (fun V (k : Kp (fun _ => False) w V) => newD_go V dict da dc id lv dl hdep (hd.kp k (fun _ _ q => q)) (by omega) h3 h4)
  have b0 : decide ((2500 : Int) < (dict.length : Int)) = false := decide_eq_false (by omega)
  have LGH := Lib.hid LG
  have HD := Lib.hid hd
  have HD4 := Lib.hid h4
  have SZ0 : Hid (Sz (S0 id dl dict) 0) := Lib.hid ⟨s0_wf hdl.1 hdl.2 h3 h4 0, by show (0 : Nat) < 500; omega⟩
  have DP := Lib.hid (depth_c lv)
  have DD := Lib.hid (depth_d lv)
  rw [hdep] at DP DD
  obtain ⟨j0, hj0, hy0, hy1, hy2⟩ := info_parts infoU8c
  have HAC := Lib.hid (fun i (hi : i < l.length) => act_at hl hi)
  have HGD := Lib.hid (fun i (hi : i < l.length) => (hg l[i] (List.getElem_mem _)).data)
  have HTT : Hid (∀ k, (hk : k < l.length) → tot (l.take (k + 1)) = tot (l.take k) + l[k].data.length) := Lib.hid (fun k hk => tot_take hk)
  have HTL : Hid (∀ k, tot (l.take k) ≤ 2500) := Lib.hid (fun k => Nat.le_trans (tot_le l k) h6)
  obtain ⟨T, hT⟩ : ∃ T : Nat → Nat, T = fun k => tot (l.take k) := ⟨_, rfl⟩
  have HT0 : Hid (T 0 = 0) := Lib.hid (by rw [hT]; simp [Str.tot])
  have HTT : Hid (∀ k, (hk : k < l.length) → T (k + 1) = T k + l[k].data.length) := Lib.hid (by rw [hT]; exact HTT.out)
  have HTL : Hid (∀ k, T k ≤ 2500) := Lib.hid (by rw [hT]; exact HTL.out)
  obtain ⟨m, hm⟩ : ∃ m, m = l.length := ⟨_, rfl⟩
  have HM := Lib.hid hm
  rw [← hm] at LGH h5 ⊢
  obtain ⟨dn, hdn⟩ : ∃ dn, dn = dict.length := ⟨_, rfl⟩
  rw [← hdn] at NP ND b0 ⊢
  clear hd hl hg h1 h2 h3 h4 h6 hdl hdep hT hm hdn LG
  go_enter Tryz.func8, Tryz.ntmps8
  go_wp2_with fail
  refine LGH.out.mono ?_
  rintro e w0 ⟨rfl, rfl⟩
  go_wp2_with fail
  refine NP.out.mono ?_
  intro e w1 he
  obtain ⟨s, rfl, l1⟩ := L1.of_new (Kp.refl _ w0) (fun _ => False) (fun _ q => q.elim) he
  have LL := Lib.hid l1
  have ND1 := Lib.hid (ND.out w1 l1.kp)
  clear l1 he NP ND LGH
  go_wp2_with fail
  refine Calls.mono ND1.out ?_
  intro e w2 he
  obtain ⟨x, rfl, pl⟩ := PL.of_new HD.out LL.out he
  have PL0 := Lib.hid pl
  clear pl he ND1 LL
  go_wp2_with fail
  refine (DP.out w2).mono ?_
  rintro e w3 ⟨rfl, rfl⟩
  go_wp2_with fail
  refine (DD.out w3).mono ?_
  rintro e w4 ⟨rfl, rfl⟩
  go_wp2_with fail
  go_loopw [11] (fun i wx => ∃ (k : Nat) (S' : Str), k ≤ m ∧ i = .int .i64 k ∧ PL w0 wx s x dict da dc S' ∧ Sz S' (T k)) (fun i _ => m - (intOf i).toNat)
  case atStart => exact ⟨0, S0 id dl dict, Nat.zero_le _, rfl, PL0.out, by rw [HT0.out]; exact SZ0.out⟩
  case round =>
    clear PL0 SZ0 DP DD
    obtain ⟨k, S', hk, rfl, pl, sz⟩ := hrel
    have PLH := Lib.hid pl
    have SZH := Lib.hid sz
    clear pl sz
    by_cases hlt : k < m
    · have d1 : decide ((k : Int) < (m : Int)) = true := decide_eq_true (by omega)
      have hkm : (k : Int) < (m : Int) := by omega
      have hk1 : IntKind.i64.wrap ((k : Int) + 1) = (k : Int) + 1 := by rw [IntKind.wrap_i64]; omega
      obtain ⟨g, o, ea, hgg, c0, c1⟩ := HAC.out k (by rw [← HM.out]; exact hlt)
      have KW := Lib.hid PLH.out.kp
      have e0 := (KW.out.cell (p := ⟨g, o + k * 2, none⟩) hgg (fun q => q)).trans c0
      have e1 := (KW.out.cell (p := ⟨g, o + k * 2 + 1, none⟩) hgg (fun q => q)).trans c1
      have HT1 := Lib.hid (HTT.out k (by rw [← HM.out]; exact hlt))
      have HDA := Lib.hid (HGD.out k (by rw [← HM.out]; exact hlt))
      have HC0 := Lib.hid (fun V (hV : Kp (fun _ => False) w0 V) => hV.cell (p := ⟨g, o + k * 2 + 1, none⟩) hgg (fun q => q))
      generalize l[k]'(by rw [← HM.out]; exact hlt) = y at c0 c1 e0 e1 HT1 HDA
      have HC1 : Hid (∀ V, Kp (fun _ => False) w0 V → V.cell? ⟨g, o + k * 2 + 1, none⟩ = some (.slice y.da y.data.length y.dc)) := Lib.hid (fun V hV => (HC0.out V hV).trans c1)
      have hT1 := HTL.out (k + 1)
      have HPL : Hid (y.data.length ≤ 2500) := Lib.hid (by have := HT1.out; omega)
      have SZ4 : Hid (Sz S' 40000) := Lib.hid ⟨SZH.out.wf.mono (by have := HTL.out k; omega), SZH.out.kept⟩
      have HXL : Hid (x < wr.heap.size) := Lib.hid (by obtain ⟨_, _, _, _, q⟩ := PLH.out.cells; exact q)
      have SZW : Hid (Sz (wS S' y.data) (T (k + 1))) := Lib.hid (by rw [HT1.out]; exact SZH.out.w y.data)
      have SZF : Hid (Sz (fS S') (T (k + 1))) := Lib.hid ⟨SZH.out.f.wf.mono (by rw [HT1.out]; omega), SZH.out.f.kept⟩
      have SZE : Hid (Sz (eS S') (T (k + 1))) := Lib.hid ⟨SZH.out.e.wf.mono (by rw [HT1.out]; omega), SZH.out.e.kept⟩
      subst ea
      clear c0 c1 hT1
      · by_cases h1 : y.kind = 1
        · rw [h1] at e0
          have NR : Hid (RowM 5 u8c wr.heap.size (wr.alloc (.cells #[] 5)).drew (.slice (some ⟨wr.heap.size, 0, none⟩) 0 0) []) := Lib.hid (nilB_row wr)
          have KA := Lib.hid ((kp_alloc wr (.cells #[] 5)).drew)
          have HDR := Lib.hid (HDA.out.kp (KW.out.trans KA.out) (fun _ _ q => q))
          go_wp2_with fail
          go_region_held3 (fun V => V.cell? ⟨g, o + k * 2 + 1, none⟩ = some (.slice y.da y.data.length y.dc)) (go_keep) ((first
            | (refine step_appM (w0 := wr) _ (by rfl) (.tmp 63) (.tmp 68) 24 (by rfl) 5 j0 _ 1 Tryz.underlying24 hj0 hy0 hy1 hy2 (by decide) (by decide) (by decide) u8c_1c (.slice (some ⟨wr.heap.size, 0, none⟩) 0 0) [] (by rfl) NR.out (.slice y.da y.data.length y.dc) y.data.length y.data (by rfl) HDR.out rfl KA.out y.data.length (by simp) (by have := HPL.out; omega) ?_; intro a5 c5 w5 g1 g2 g3; rw [List.nil_append] at g1
               have s1 := HC1.out w5 (KW.out.trans g2)
               have WP := Lib.hid (PLH.out.writeP g2 y.data a5 c5 g1 SZ4.out (by have := HPL.out; omega))
               have HX5 : Hid (x < w5.heap.size) := Lib.hid (Nat.lt_of_lt_of_le HXL.out g2.size)
               clear g1 g2 g3)
            | (go_simp; go_at_call 13; apply Calls.mono; (with_reducible exact WP.out); rintro e w6 ⟨a6, c6, rfl, q1, q2⟩
               have s2 := HC1.out w6 q2.kp
               have Q1 := Lib.hid q1
               have MD := Lib.hid (q2.writeD y.da y.dc (HDA.out.kp q2.kp (fun _ _ q => q)) SZ4.out (by have := HPL.out; omega) HD4.out)
               clear q1 q2)
            | (go_simp; go_at_call 23; apply Calls.mono; (with_reducible exact MD.out); intro e w7 h7; obtain ⟨a7, c7, rfl, tl⟩ := TL.of HX5.out Q1.out h7 SZW.out
               have s3 := HC1.out w7 tl.kp
               have FIN := Lib.hid tl
               clear h7 tl)))
          all_goals
            obtain ⟨a6', a7', c6', c7', O, S2, hva, hvb, r1, r2, pl, sz⟩ := FIN.out
            rw [hva, hvb]
            have KQ : ∀ q, Kp (fun _ => False) w7 (w7.drewN q) := fun q => ⟨rfl, rfl, rfl, Nat.le_refl _, fun _ _ _ => rfl⟩
            have v1 := fun q => strOf (r1.kp (KQ q) (fun _ _ q => q))
            have v2 := fun q => strOf (r2.kp (KQ q) (fun _ _ q => q))
            have TOT := Lib.hid (fun q => pl.total (KQ q))
            have EN := Lib.hid (fun q => pl.ended (KQ q))
            obtain ⟨aa, ac, c3, c9, _⟩ := pl.cells
            have PL2 := Lib.hid (fun q => pl.kp0 (KQ q))
            have SZ2 := Lib.hid sz
            generalize (⟨O.toArray⟩ : ByteArray) = X at v1 v2
            generalize O.length = on at v1 v2 ⊢
            generalize S2.all.length = an at TOT c3
            generalize S2.ended = ed at EN c9
            clear r1 r2 pl sz KQ e0 e1
            go_wp2_with fail
            go_quiet ((first | (go_at_call 26; refine Calls.quiet_of_same (TOT.out _)) | (go_at_call 27; refine Calls.quiet_of_same (EN.out _))))
            go_wp2_with fail
            exact ⟨⟨k + 1, S2, by omega, by go_num, PL2.out _, SZ2.out⟩, by simp [intOf]; omega⟩
        · have n1 : (y.kind == 1) = false := by simpa using h1
          by_cases h2 : y.kind = 2
          · rw [h2] at e0
            have FP := Lib.hid (PLH.out.flushP SZ4.out)
            go_wp2_with fail
            refine Calls.mono FP.out ?_
            rintro e w6 ⟨a6, c6, rfl, q1, q2⟩
            have Q1 := Lib.hid q1
            have MD := Lib.hid (q2.flushD SZ4.out HD4.out)
            clear q1 q2 FP
            go_wp2_with fail
            refine Calls.mono MD.out ?_
            intro e w7 h7
            obtain ⟨a7, c7, rfl, tl⟩ := TL.of HXL.out Q1.out h7 SZF.out
            have FIN := Lib.hid tl
            clear h7 tl MD
            obtain ⟨a6', a7', c6', c7', O, S2, hva, hvb, r1, r2, pl, sz⟩ := FIN.out
            rw [hva, hvb]
            have KQ : ∀ q, Kp (fun _ => False) w7 (w7.drewN q) := fun q => ⟨rfl, rfl, rfl, Nat.le_refl _, fun _ _ _ => rfl⟩
            have v1 := fun q => strOf (r1.kp (KQ q) (fun _ _ q => q))
            have v2 := fun q => strOf (r2.kp (KQ q) (fun _ _ q => q))
            have TOT := Lib.hid (fun q => pl.total (KQ q))
            have EN := Lib.hid (fun q => pl.ended (KQ q))
            obtain ⟨aa, ac, c3, c9, _⟩ := pl.cells
            have PL2 := Lib.hid (fun q => pl.kp0 (KQ q))
            have SZ2 := Lib.hid sz
            generalize (⟨O.toArray⟩ : ByteArray) = X at v1 v2
            generalize O.length = on at v1 v2 ⊢
            generalize S2.all.length = an at TOT c3
            generalize S2.ended = ed at EN c9
            clear r1 r2 pl sz KQ e0 e1
            go_wp2_with fail
            go_quiet ((first | (go_at_call 26; refine Calls.quiet_of_same (TOT.out _)) | (go_at_call 27; refine Calls.quiet_of_same (EN.out _))))
            go_wp2_with fail
            exact ⟨⟨k + 1, S2, by omega, by go_num, PL2.out _, SZ2.out⟩, by simp [intOf]; omega⟩
          · have n2 : (y.kind == 2) = false := by simpa using h2
            have FP := Lib.hid (PLH.out.endP SZ4.out)
            go_wp2_with fail
            refine Calls.mono FP.out ?_
            rintro e w6 ⟨a6, c6, rfl, q1, q2⟩
            have Q1 := Lib.hid q1
            have MD := Lib.hid (q2.endD SZ4.out HD4.out)
            clear q1 q2 FP
            go_wp2_with fail
            refine Calls.mono MD.out ?_
            intro e w7 h7
            obtain ⟨a7, c7, rfl, tl⟩ := TL.of HXL.out Q1.out h7 SZE.out
            have FIN := Lib.hid tl
            clear h7 tl MD
            obtain ⟨a6', a7', c6', c7', O, S2, hva, hvb, r1, r2, pl, sz⟩ := FIN.out
            rw [hva, hvb]
            have KQ : ∀ q, Kp (fun _ => False) w7 (w7.drewN q) := fun q => ⟨rfl, rfl, rfl, Nat.le_refl _, fun _ _ _ => rfl⟩
            have v1 := fun q => strOf (r1.kp (KQ q) (fun _ _ q => q))
            have v2 := fun q => strOf (r2.kp (KQ q) (fun _ _ q => q))
            have TOT := Lib.hid (fun q => pl.total (KQ q))
            have EN := Lib.hid (fun q => pl.ended (KQ q))
            obtain ⟨aa, ac, c3, c9, _⟩ := pl.cells
            have PL2 := Lib.hid (fun q => pl.kp0 (KQ q))
            have SZ2 := Lib.hid sz
            generalize (⟨O.toArray⟩ : ByteArray) = X at v1 v2
            generalize O.length = on at v1 v2 ⊢
            generalize S2.all.length = an at TOT c3
            generalize S2.ended = ed at EN c9
            clear r1 r2 pl sz KQ e0 e1
            go_wp2_with fail
            go_quiet ((first | (go_at_call 26; refine Calls.quiet_of_same (TOT.out _)) | (go_at_call 27; refine Calls.quiet_of_same (EN.out _))))
            go_wp2_with fail
            exact ⟨⟨k + 1, S2, by omega, by go_num, PL2.out _, SZ2.out⟩, by simp [intOf]; omega⟩
    · obtain rfl : k = m := by omega
      have d1 : decide ((k : Int) < (k : Int)) = false := decide_eq_false (by omega)
      have KW := Lib.hid PLH.out.kp
      obtain ⟨wo, rfl⟩ : ∃ wo : World, wo = wr := ⟨_, rfl⟩
      go_wp2_with fail
      refine (known9_c _).mono ?_
      rintro e w5 ⟨rfl, k5⟩
      have K5 := Lib.hid (KW.out.trans k5)
      clear k5
      go_wp2_with fail
      go_ret
      exact ⟨rfl, K5.out.below⟩
end Go.Proofs.YtbakhpakdaflkaaGreat.streamPlays
