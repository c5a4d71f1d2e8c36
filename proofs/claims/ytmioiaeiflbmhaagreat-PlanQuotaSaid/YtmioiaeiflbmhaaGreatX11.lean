/- seqs: the document's Offsets. seqs: the document's row. seqs: the document's extras. Two rows of one's own, grown in either order in a region that draws its order. Of no program. -/
import Derived.Deep.RegionHeld3
import Derived.Test.YtmioiaeiflbmhaaGreatX10
import Derived.Test.YtmioiaeiflbmhaaGreatX05
namespace Go.Proofs.YtmioiaeiflbmhaaGreat.Ma
open Go Go.RowKit Go.ChangeMaps Go.MapKept Go.Mg Go.Mt Go.Proofs.YtmioiaeiflbmhaaGreat.Hu Go.Proofs.YtmioiaeiflbmhaaGreat.Bw Go.Proofs.YtmioiaeiflbmhaaGreat.He Go.Proofs.YtmioiaeiflbmhaaGreat.Sq
def iv (x : Nat) : Value := .int .i64 (x : Nat)
abbrev RowI (B : Nat) (w : World) (v : Value) (l : List Nat) : Prop := RowM 3 iv B w v l
def vals (l : List Sq) (h : H3) (n : Nat) : List Nat := (List.range n).map (off l h)
theorem vals_succ (l : List Sq) (h : H3) (n : Nat) : vals l h (n + 1) = vals l h n ++ [off l h n] := by simp [vals, List.range_succ]
theorem vals_len (l : List Sq) (h : H3) (n : Nat) : (vals l h n).length = n := by simp [vals]
def OffPost (w : World) (l : List Sq) (h : H3) (e : Ending) (w' : World) : Prop := ∃ v, e = .returned (.tuple #[v, hv3 (hs (ofs l) h l.length)]) ∧ RowI w.heap.size w' v (vals l h l.length) ∧ Kp (fun _ => False) w w'
def HAt (w : World) (g : Nat) (h : H3) : Prop := w.heap[g]? = some (.cells #[.int .i64 (h.a : Nat), .int .i64 (h.b : Nat), .int .i64 (h.c : Nat)] 82 (0, 0))
theorem HAt.cells {w : World} {g : Nat} {h : H3} (q : HAt w g h) : w.cell? ⟨g, 0, none⟩ = some (.int .i64 (h.a : Nat)) ∧ w.cell? ⟨g, 1, none⟩ = some (.int .i64 (h.b : Nat)) ∧ w.cell? ⟨g, 2, none⟩ = some (.int .i64 (h.c : Nat)) := by
  refine ⟨?_, ?_, ?_⟩ <;> rw [cell_of q] <;> rfl
theorem HAt.at_ {w : World} {g : Nat} {h : H3} (q : HAt w g h) (k : Nat) (hk : k < 3) : w.cell? ⟨g, k, none⟩ = some (.int .i64 ((if k = 0 then h.a else if k = 1 then h.b else h.c : Nat) : Int)) := by
  match k, hk with
  | 0, _ => exact q.cells.1
  | 1, _ => exact q.cells.2.1
  | 2, _ => exact q.cells.2.2
theorem HAt.kp {w w' : World} {g : Nat} {h : H3} {F : Nat → Prop} (q : HAt w g h) (hk : Kp F w w') (hF : ¬ F g) : HAt w' g h := hk.at_ q hF
theorem HAt.store {w : World} {g : Nat} {h : H3} (q : HAt w g h) (x y z : Nat) : HAt (((w.setCell ⟨g, 0, none⟩ (.int .i64 (x : Nat))).setCell ⟨g, 1, none⟩ (.int .i64 (y : Nat))).setCell ⟨g, 2, none⟩ (.int .i64 (z : Nat))) g ⟨x, y, z⟩ ∧
    Kp (· = g) w (((w.setCell ⟨g, 0, none⟩ (.int .i64 (x : Nat))).setCell ⟨g, 1, none⟩ (.int .i64 (y : Nat))).setCell ⟨g, 2, none⟩ (.int .i64 (z : Nat))) := by
  refine ⟨?_, (((Kp.refl (· = g) w).setCell (p := ⟨g, 0, none⟩) (fun _ => rfl) _).setCell (p := ⟨g, 1, none⟩) (fun _ => rfl) _).setCell (p := ⟨g, 2, none⟩) (fun _ => rfl) _⟩
  have h1 := setCell_at (i := 0) q (.int .i64 (x : Nat))
  have h2 := setCell_at (i := 1) h1 (.int .i64 (y : Nat))
  have h3 := setCell_at (i := 2) h2 (.int .i64 (z : Nat))
  exact h3
end Go.Proofs.YtmioiaeiflbmhaaGreat.Ma
namespace Go.Proofs.YtmioiaeiflbmhaaGreat.Ma
open Go Go.RowKit Go.ChangeMaps Go.MapKept Go.Mg Go.Mt Go.Proofs.YtmioiaeiflbmhaaGreat.Hu Go.Proofs.YtmioiaeiflbmhaaGreat.Bw Go.Proofs.YtmioiaeiflbmhaaGreat.He Go.Proofs.YtmioiaeiflbmhaaGreat.Sq
theorem iv1 : ∀ y, (iv y).oneCell' = true := fun _ => rfl
def cods (v : Nat → Nat) (n : Nat) : List Nat := (List.range n).map fun i => Lib.bitLen (v i)
theorem cods_succ (v : Nat → Nat) (n : Nat) : cods v (n + 1) = cods v n ++ [Lib.bitLen (v n)] := by simp [cods, List.range_succ]
theorem cods_len (v : Nat → Nat) (n : Nat) : (cods v n).length = n := by simp [cods]
theorem cods_at (v : Nat → Nat) {n i : Nat} (h : i < n) : (cods v n)[i]?.getD 0 = Lib.bitLen (v i) := by simp [cods, h]
theorem cn_up (v : Nat → Nat) (n : Nat) : Fse.up (cn v n) (Lib.bitLen (v n)) (cn v n (Lib.bitLen (v n)) + 1) = cn v (n + 1) := by
  funext i
  simp only [cn, Fse.up]
  by_cases e : i = Lib.bitLen (v n)
  · rw [if_pos e, if_pos e, e]
  · rw [if_neg e, if_neg e]; omega
theorem shares_ok (v : Nat → Nat) (n : Nat) : Fse.Shares (nrm v n) 16 := Fse.shn_sum (by omega) _
def shb (v : Nat → Nat) (n k : Nat) : List UInt8 := (List.range k).map fun i => UInt8.ofNat (nrm v n i)
theorem shb_succ (v : Nat → Nat) (n k : Nat) : shb v n (k + 1) = shb v n k ++ [UInt8.ofNat (nrm v n k)] := by simp [shb, List.range_succ]
theorem shb_len (v : Nat → Nat) (n k : Nat) : (shb v n k).length = k := by simp [shb]
theorem fenc_o {w : World} {o : Option (List Bool)} {e : Ending} {w' : World} (h : FencPost w o e w') : ∃ a c z, e = .returned (.tuple #[.slice a (packO o).length c, .bool z]) ∧ RowB w.heap.size w' (.slice a (packO o).length c) (packO o) ∧ Kp (fun _ => False) w w' := by
  cases o with
  | none => exact ⟨none, 0, false, h.1, RowM.nil _ _ _, h.2⟩
  | some B =>
    obtain ⟨v, rfl, h1, h2⟩ := h
    obtain ⟨a, c, rfl, h3, h4⟩ := h1
    exact ⟨a, c, true, rfl, ⟨a, c, rfl, h3, h4⟩, h2⟩
theorem packO_le {v : Nat → Nat} {n : Nat} : (packO (encB v n)).length ≤ 6 * n + 10 := by
  unfold encB Fse.encAll
  cases h : Fse.enc (Fse.ent (nrm v n) 16) (fun i => Lib.bitLen (v i)) n n with
  | none => simp [packO]
  | some x =>
    obtain ⟨B, m⟩ := x
    have := Fse.enc_len (fun u hu => (Fse.ent_rng (shares_ok v n) hu).2.2.2.1) h
    simp only [Option.map_some, packO, pack_len, List.length_append, Fse.dgs, List.length_map, List.length_range]
    omega
theorem IntsR.congr {w : World} {a : Option Addr} {c N : Nat} {f f' : Nat → Nat} (h : IntsR w a c N f) (hf : ∀ i, i < N → f i = f' i) : IntsR w a c N f' := by
  unfold IntsR at *
  have e : ((List.range N).map fun i => Value.int .i64 (f i : Nat)) = (List.range N).map fun i => Value.int .i64 (f' i : Nat) := by
    apply List.map_congr_left
    intro i hi
    rw [hf i (List.mem_range.1 hi)]
  rw [← e]
  exact h
def RowPost6 (w : World) (v : Nat → Nat) (n : Nat) (e : Ending) (w' : World) : Prop := ∃ a c, e = .returned (.slice a (rowB v n).length c) ∧ RowB w.heap.size w' (.slice a (rowB v n).length c) (rowB v n) ∧ Kp (fun _ => False) w w'
theorem rowB_len (v : Nat → Nat) (n : Nat) : (rowB v n).length = 18 + (packO (encB v n)).length := by
  simp [rowB, shares, sized, two]; omega
end Go.Proofs.YtmioiaeiflbmhaaGreat.Ma
namespace Go.Proofs.YtmioiaeiflbmhaaGreat.Ma
open Go Go.RowKit Go.ChangeMaps Go.MapKept Go.Mg Go.Mt Go.Proofs.YtmioiaeiflbmhaaGreat.Hu Go.Proofs.YtmioiaeiflbmhaaGreat.Bw Go.Proofs.YtmioiaeiflbmhaaGreat.He Go.Proofs.YtmioiaeiflbmhaaGreat.Sq
def RelL (ty : TypeId) (w2 : World) (lb x y z : Nat) (wr : World) (B : List Bool) : Prop := ∃ F a c, WrAt ty F wr w2.heap.size a c B ∧ Kp (fun _ => False) w2 wr ∧ (∀ k, F k → w2.heap.size ≤ k ∧ k ≠ lb) ∧
  wr.heap[lb]? = some (.cells #[.int .i64 (x : Nat), .int .i64 (y : Nat), .int .i64 (z : Nat)] 3 (0, 0))
theorem RelL.step {ty : TypeId} {w2 : World} {lb x y z : Nat} {wr V : World} {F : Nat → Prop} {B : List Bool} (hk : Kp (fun _ => False) w2 wr) (hF : ∀ k, F k → w2.heap.size ≤ k ∧ k ≠ lb) (hb : wr.heap[lb]? = some (.cells #[.int .i64 (x : Nat), .int .i64 (y : Nat), .int .i64 (z : Nat)] 3 (0, 0)))
    (h : WrPost ty F wr w2.heap.size B V) : RelL ty w2 lb x y z V B := by
  obtain ⟨F', a', c', h1, h2, h3⟩ := h
  have := hk.size
  have hlb := lt_of_at hb
  refine ⟨F', a', c', h1, hk.trans2 h2 (fun i hi q => by have := (hF i q).1; omega), fun k q => ?_, h2.at_ hb (fun q => (hF lb q).2 rfl)⟩
  rcases h3 k q with q | q
  · exact hF k q
  · exact ⟨by omega, by omega⟩
end Go.Proofs.YtmioiaeiflbmhaaGreat.Ma
namespace Go.Mg
open Go Go.RowKit Go.ChangeMaps Go.MapKept
variable {α : Type} {e : TypeId} {enc : α → Value}
def Grown (e : TypeId) (enc : α → Value) (B : Nat) (w w' : World) (v v' : Value) (l' : List α) : Prop := RowM e enc B w' v' l' ∧ (∀ k, v'.ownBlock = some k → v.ownBlock = some k ∨ k = w.heap.size) ∧ Kp (fun k => v.ownBlock = some k) w w'
theorem step_grow {P : Program} {B : Nat} (w : World) {ops : Array Oper} {o : Oper} {a : Act} {Q : Exit → Act → World → Prop} {E : Prop} (hgd : o.guard = none) (s x : Operand) (t : TypeId) (ho : o.op = .call { callee := .builtin .append, args := #[s, x], argTypes := #[t, t] })
    (i : TypeInfo) (z : Value) (bytes : Nat) (ht : P.underlying t = some (.slice e)) (hi : P.info? e = some i) (hz : i.zero = some z) (hsize : i.size = 1) (hby : i.bytes = bytes) (hzs : z.cells.size = 1) (hbp : 0 < bytes)
    (h1 : ∀ y, (enc y).oneCell' = true) (v : Value) (l : List α) (hs : a.eval s = v) (hrow : RowM e enc B w v l) (hB : B ≤ w.heap.size) (xv : Value) (m : Nat) (r : List α) (hx : a.eval x = xv) (hsl : SlR w 1 xv m (r.map enc)) (hm : r.length = m) (n' : Nat) (hn : l.length + m = n') (hbytes : n' * bytes ≤ 140737488355328)
    {K : Act → World → Prop} (h : ∀ a' c' w', Grown e enc B w w' v (.slice a' n' c') (l ++ r) → K (a.put o.dst (.slice a' n' c')) w') : if Region.wanted o (yielded ops a.tmps) = true then Oper.wp P o a w K Q else E := by
  have e1 : ∀ u ∈ r.map enc, u.oneCell' = true := by
    intro u hu
    obtain ⟨y, _, rfl⟩ := List.mem_map.1 hu
    exact h1 y
  obtain ⟨av, cv, rfl, hown, hb⟩ := hrow
  exact step_app w hgd s x t ho e i z 1 bytes ht hi hz hsize hby hzs (by omega) hbp _ _ _ hs hown xv m _ hx hsl e1 (by rw [hn]; exact hbytes) (fun v' w' g1 g2 g3 g4 g5 => by
    obtain ⟨b1, d1, rfl⟩ := g1.form
    subst hn
    subst hm
    refine h _ _ _ ⟨⟨b1, d1, by simp, by rw [List.length_append, List.map_append]; exact g1, fun k hk => ?_⟩, fun k hk => ?_, g2⟩
    · rcases g3 with q | q
      · exact hb k (q.symm.trans hk)
      · rw [hk] at q
        cases q
        exact hB
    · rcases g3 with q | q
      · exact .inl (q.symm.trans hk)
      · rw [hk] at q
        cases q
        exact .inr rfl)
def Apart2 (v1 v2 : Value) : Prop := ∀ k, v1.ownBlock = some k → ¬ v2.ownBlock = some k
theorem Apart2.symm {v1 v2 : Value} (h : Apart2 v1 v2) : Apart2 v2 v1 := fun k q r => h k r q
theorem Grown.apart {B : Nat} {w w' : World} {v v' u : Value} {l' : List α} (h : Grown e enc B w w' v v' l') (ha : Apart2 v u) (hu : ∀ k, u.ownBlock = some k → k < w.heap.size) : Apart2 v' u := fun k q r => by
  rcases h.2.1 k q with q | q
  · exact ha k q r
  · have := hu k r; omega
theorem Grown.other {B B' : Nat} {w w' : World} {v v' u : Value} {l' l2 : List α} (h : Grown e enc B w w' v v' l') (ha : Apart2 v u) (hu : RowM e enc B' w u l2) : RowM e enc B' w' u l2 := by
  obtain ⟨a, c, q, h1, h2⟩ := hu
  exact ⟨a, c, q, h1.kp h.2.2 (fun k r s => ha k s r), h2⟩
theorem Grown.lit {B : Nat} {w w' : World} {v v' x : Value} {l' : List α} {m : Nat} {xs : List Value} (h : Grown e enc B w w' v v' l') (hx : SlR w 1 x m xs) {g : Nat} (hg : x.ownBlock = some g) (hv : ∀ k, v.ownBlock = some k → k < g) : SlR w' 1 x m xs :=
  hx.kp h.2.2 (fun b hb q => by rw [hg] at hb; cases hb; have := hv g q; omega)
end Go.Mg
