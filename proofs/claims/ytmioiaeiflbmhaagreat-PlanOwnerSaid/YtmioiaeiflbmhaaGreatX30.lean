/- stream: steps also of an ended one. plan, in plain words: what a call does, what it answers. A Plan in memory. plan's small functions: gone, unpins, ends. -/
import Derived.Deep.RegionHeld3
import Derived.Test.YtmioiaeiflbmhaaGreatX29
import Derived.Test.YtmioiaeiflbmhaaGreatX02
import Derived.Test.YtmioiaeiflbmhaaGreatX03
namespace Go.Proofs.YtmioiaeiflbmhaaGreat.Str
open Go Go.RowKit Go.ChangeMaps Go.MapKept Go.Mg Go.Mt Go.Proofs.YtmioiaeiflbmhaaGreat.Hu Go.Proofs.YtmioiaeiflbmhaaGreat.Sq Go.Proofs.YtmioiaeiflbmhaaGreat.Bk Go.Proofs.YtmioiaeiflbmhaaGreat.Ma
noncomputable def wO (S : Str) (p : List UInt8) : List UInt8 := if S.ended = true then [] else wrO S p
noncomputable def wS (S : Str) (p : List UInt8) : Str := if S.ended = true then S else wrS S p
noncomputable def fO (S : Str) : List UInt8 := if S.ended = true then [] else flO S
noncomputable def fS (S : Str) : Str := if S.ended = true then S else flS S
noncomputable def eO (S : Str) : List UInt8 := if S.ended = true then [] else endO S
noncomputable def eS (S : Str) : Str := if S.ended = true then S else endS' S
structure Sz (S : Str) (n : Nat) : Prop where
  wf : S.Wf n
  kept : S.kept.length < 500
theorem endS_wf {S : Str} {n : Nat} (h : S.Wf n) : (endS' S).Wf n := by
  have := blk_wf (k := S.kept.length) h
  unfold endS'
  generalize blkS S S.kept.length = X at this ⊢
  exact ⟨this.d1, this.d2, this.id, this.seen, this.all, this.kept⟩
theorem endS_kept (S : Str) : (endS' S).kept.length = 0 := by
  have := blk_kept S S.kept.length
  unfold endS'
  generalize blkS S S.kept.length = X at this ⊢
  show X.kept.length = 0
  omega
theorem Sz.w {S : Str} {n : Nat} (h : Sz S n) (p : List UInt8) : Sz (wS S p) (n + p.length) := by
  unfold wS
  split
  · exact ⟨h.wf.mono (by omega), h.kept⟩
  · exact ⟨wrS_wf h.wf, wrS_kept _ _⟩
theorem Sz.f {S : Str} {n : Nat} (h : Sz S n) : Sz (fS S) n := by
  unfold fS
  split
  · exact h
  · exact ⟨flS_wf h.wf, by rw [flS_kept]; omega⟩
theorem Sz.e {S : Str} {n : Nat} (h : Sz S n) : Sz (eS S) n := by
  unfold eS
  split
  · exact h
  · exact ⟨endS_wf h.wf, by rw [endS_kept]; omega⟩
end Go.Proofs.YtmioiaeiflbmhaaGreat.Str
namespace Go.Proofs.YtmioiaeiflbmhaaGreat.Pl
open Go Go.Mg Go.Proofs.YtmioiaeiflbmhaaGreat.Sh Go.Proofs.YtmioiaeiflbmhaaGreat.Str
structure Sp where
  cl : Int
  id : Int
  S : Str
structure Pls where
  P : Pu
  S : Shs
  L : List (Int × Sp)
  l : List (Int × (Int × Nat))
  last : Nat
structure An where
  err : Int
  n : Int
  out : List UInt8
structure Cl where
  k : Int
  nm : ByteArray
  lv : Int
  hd : Int
  d : List UInt8
def Pls.gone (X : Pls) (id : Int) : Pls :=
  { X with l := AL.del X.l id, P := X.P.give (((AL.get X.l id).map (·.1)).getD 0) (((AL.get X.l id).map fun y => ((y.2 : Nat) : Int)).getD 0) }
def Pls.unpins (X : Pls) (id : Int) : Pls := if (X.S.unpin id).2 = true then ({ X with S := (X.S.unpin id).1 } : Pls).gone id else { X with S := (X.S.unpin id).1 }
def Pls.opens (X : Pls) (cl lv id : Int) (dict : List UInt8) : Pls × An :=
  if X.P.has cl 2500 then ({ X with P := X.P.take cl 2500, L := AL.put X.L (((X.last + 1 : Nat)) : Int) ⟨cl, id, S0 id.toNat (dep lv).toNat dict⟩, last := X.last + 1 }, ⟨0, ((X.last + 1 : Nat) : Int), []⟩)
  else (X.unpins id, ⟨6, 0, []⟩)
def Pls.opn (X : Pls) (cl : Int) (c : Cl) : Pls × An :=
  if c.lv < 1 ∨ 3 < c.lv ∨ 12 < c.nm.size then (X, ⟨1, 0, []⟩)
  else if c.nm.size = 0 then X.opens cl c.lv 0 []
  else if (X.S.pin c.nm).2.2.2 = 0 then ({ X with S := (X.S.pin c.nm).1 } : Pls).opens cl c.lv (X.S.pin c.nm).2.1 (X.S.pin c.nm).2.2.1
  else ({ X with S := (X.S.pin c.nm).1 }, ⟨(X.S.pin c.nm).2.2.2, 0, []⟩)
def Pls.ends (X : Pls) (h : Int) (e : Sp) : Pls :=
  let Y := ({ X with L := AL.del X.L h } : Pls).unpins e.id
  { Y with P := Y.P.give e.cl 2500 }
def Pls.puts (X : Pls) (h : Int) (e : Sp) (S : Str) : Pls := { X with L := AL.put X.L h { e with S := S } }
noncomputable def Pls.does (X : Pls) (e : Sp) (c : Cl) : Pls × An :=
  if c.k = 3 then (X.puts c.hd e (fS e.S), ⟨0, 0, fO e.S⟩)
  else if c.k = 5 then (X.ends c.hd e, ⟨0, 0, []⟩)
  else if c.k = 4 then (X.ends c.hd e, ⟨0, 0, eO e.S⟩)
  else if 3000 < c.d.length then (X, ⟨1, 0, []⟩)
  else (X.puts c.hd e (wS e.S c.d), ⟨0, 0, wO e.S c.d⟩)
noncomputable def Pls.session (X : Pls) (cl : Int) (c : Cl) : Pls × An :=
  match AL.get X.L c.hd with
  | none => (X, ⟨7, 0, []⟩)
  | some e => if e.cl = cl then X.does e c else (X, ⟨7, 0, []⟩)
def Pls.load (X : Pls) (cl : Int) (c : Cl) : Pls × An :=
  if isS c.nm c.d = 0 then
    if X.P.has cl ((c.d.length : Int) - 4) then
      (({ X with P := X.P.take cl ((c.d.length : Int) - 4), S := (X.S.load c.nm c.d).1, l := AL.put X.l (X.S.load c.nm c.d).2.1 (cl, c.d.length - 4) } : Pls).gone (X.S.load c.nm c.d).2.2.1, ⟨0, (X.S.load c.nm c.d).2.1, []⟩)
    else (X, ⟨6, 0, []⟩)
  else (X, ⟨isS c.nm c.d, 0, []⟩)
def Pls.retire (X : Pls) (c : Cl) : Pls × An := (({ X with S := (X.S.retire c.nm).1 } : Pls).gone (X.S.retire c.nm).2.1, ⟨(X.S.retire c.nm).2.2, 0, []⟩)
noncomputable def Pls.act (X : Pls) (cl : Int) (c : Cl) : Pls × An :=
  if cl < 0 ∨ 4 ≤ cl then (X, ⟨1, 0, []⟩)
  else if c.k = 1 then X.opn cl c
  else if 2 ≤ c.k ∧ c.k ≤ 5 then X.session cl c
  else if c.k = 6 then X.load cl c
  else if c.k = 7 then X.retire c
  else (X, ⟨1, 0, []⟩)
end Go.Proofs.YtmioiaeiflbmhaaGreat.Pl
namespace Go.Proofs.YtmioiaeiflbmhaaGreat.Pl
open Go Go.RowKit Go.ChangeMaps Go.MapKept Go.Mg Go.Proofs.YtmioiaeiflbmhaaGreat.No Go.Proofs.YtmioiaeiflbmhaaGreat.Sh Go.Proofs.YtmioiaeiflbmhaaGreat.Str
structure Se where
  cl : Int
  sp : Nat
  id : Int
  S : Str
def sev (e : Se) : Value := .agg #[.int .i64 e.cl, .pointer (some ⟨e.sp, 0, none⟩), .int .i64 e.id]
def lov (e : Int × Nat) : Value := .agg #[.int .i64 e.1, .int .i64 (e.2 : Nat)]
def absL (L : List (Int × Se)) : List (Int × Sp) := L.map fun q => (q.1, ⟨q.2.cl, q.2.id, q.2.S⟩)
def SeAt (D : Nat → Prop) (w : World) (s : Nat) (S : Str) : Prop := ∃ F, StAt F w s S ∧ (∀ k, F k → D k) ∧ ∀ k, rd w s k → D k
theorem SeAt.more {D D' : Nat → Prop} {w : World} {s : Nat} {S : Str} (h : SeAt D w s S) (hD : ∀ k, k < w.heap.size → D k → D' k) : SeAt D' w s S := by
  obtain ⟨F, h1, h2, h3⟩ := h
  exact ⟨F, h1, fun k q => hD k (h1.fl k q) (h2 k q), fun k q => hD k (h1.rd_lt q).1 (h3 k q)⟩
theorem SeAt.kp {D G : Nat → Prop} {w w' : World} {s : Nat} {S : Str} (h : SeAt D w s S) (hk : Kp G w w') (hD : ∀ k, D k → ¬ G k) : SeAt D w' s S := by
  obtain ⟨F, h1, h2, h3⟩ := h
  obtain ⟨sa, aa, ka, sc, ac, kc, ch, c1, c2⟩ := h1.core
  have e1 : ∀ k, rd w s k ↔ rd w' s k := fun k => by
    have hs : ¬ G s := hD s (h2 s h1.fs)
    unfold Str.rd
    rw [hk.cell (p := ⟨s, 2, none⟩) h1.lt hs, hk.cell (p := ⟨s, 4, none⟩) h1.lt hs]
  refine ⟨F, ?_, h2, fun k q => h3 k ((e1 k).2 q)⟩
  obtain ⟨sa, aa, ka, sc, ac, kc, ch, g1, g2, g3, g4, g5, g6, g7, ⟨buf, m, r, g8, g9⟩, g10⟩ := h1.at_
  have r2 : ∀ b, (Value.slice sa S.seen.length sc).ownBlock = some b → rd w s b := fun b hb => .inl ⟨_, by rw [cell_of g1]; rfl, hb⟩
  have r4 : ∀ b, (Value.slice ka S.kept.length kc).ownBlock = some b → rd w s b := fun b hb => .inr ⟨_, by rw [cell_of g1]; rfl, hb⟩
  have hF : ∀ k, F k → ¬ G k := fun k q => hD k (h2 k q)
  refine ⟨⟨sa, aa, ka, sc, ac, kc, ch, hk.at_ g1 (hF _ h1.fs), g2.kp hk (fun b hb => hD b (h3 b (r2 b hb))), (fun b hb => ⟨(g3 b hb).1, Nat.lt_of_lt_of_le (g3 b hb).2 hk.size⟩), g4.kp hk (fun b hb => hD b (h3 b (r4 b hb))), (fun b hb => ⟨(g5 b hb).1, Nat.lt_of_lt_of_le (g5 b hb).2 hk.size⟩), g6.kp hk (fun b hb q => hF b (g7 b hb) q), g7, ⟨buf, m, r, hk.at_ g8 (hF _ g10), ?_⟩, g10⟩, h1.fs, fun k q => Nat.lt_of_lt_of_le (h1.fl k q) hk.size⟩
  rcases g9 with g9 | ⟨g, n, c, xs, e1, e2, e3, e4⟩
  · exact .inl g9
  · exact .inr ⟨g, n, c, xs, e1, e2.kp hk (fun b hb q => hF g e3 (by rw [← own_b hb]; exact q)), e3, e4⟩
theorem shelf_more {F F' : Nat → Prop} {w : World} {s : Nat} {S : Shs} (h : ShelfAt F w s S) (hF : ∀ k, F k → F' k) (hl : ∀ k, F' k → k < w.heap.size) : ShelfAt F' w s S := by
  obtain ⟨bm, nm, bl, h, hb⟩ := h
  exact ⟨bm, nm, bl, ⟨h.hs, h.ne, h.books, h.names, fun p hp => (by
    obtain ⟨h1, h2, dv, h3, h4, h5⟩ := h.each p hp
    exact ⟨hF _ h1, h2, dv, h3, h4, fun g hg => hF g (h5 g hg)⟩), h.nod, hF _ h.fs, hF _ h.fb, hF _ h.fn, hl⟩, hb⟩
structure PlRaw (own : Nat → Int) (w : World) (p pu sh ms ml : Nat) (X : Pls) (L : List (Int × Se)) : Prop where
  hp : w.heap[p]? = some (.cells #[.pointer (some ⟨pu, 0, none⟩), .pointer (some ⟨sh, 0, none⟩), .map (some ms), .map (some ml), .int .i64 (X.last : Nat)] 66 (0, 0))
  hpu : PuAt w pu X.P
  hsh : ShelfAt (fun k => own k = -5) w sh X.S
  hms : MapAt w (.int .i64) (Value.int .i64) sev ms L
  hml : MapAt w (.int .i64) (Value.int .i64) lov ml X.l
  abs : X.L = absL L
  each : ∀ q ∈ L, 0 < q.1 ∧ SeAt (fun k => own k = q.1) w q.2.sp q.2.S
  op : own p = -1
  opu : own pu = -2
  oms : own ms = -3
  oml : own ml = -4
  lt : ∀ k, own k ≠ 0 → k < w.heap.size
structure Mv (own own' : Nat → Int) (t : Int) (w w' : World) : Prop where
  k : Kp (fun k => own k = t) w w'
  o : ∀ k, k < w.heap.size → own' k = own k
  l : ∀ k, own' k ≠ 0 → k < w'.heap.size
  z : t ≠ 0
structure Stp (own own' : Nat → Int) (w w' : World) : Prop where
  k : Kp (fun k => own k ≠ 0) w w'
  o : ∀ k, k < w.heap.size → own' k = own k
theorem Mv.stp {own own' : Nat → Int} {t : Int} {w w' : World} (h : Mv own own' t w w') : Stp own own' w w' := ⟨h.k.mono (fun _ _ q => by rw [q]; exact h.z), h.o⟩
theorem Stp.refl (own : Nat → Int) (w : World) : Stp own own w w := ⟨Kp.refl _ _, fun _ _ => rfl⟩
theorem Stp.trans {own own' own2 : Nat → Int} {w w' w2 : World} (h : Stp own own' w w') (h2 : Stp own' own2 w' w2) : Stp own own2 w w2 :=
  ⟨h.k.trans2 h2.k (fun i hi q => by rw [h.o i hi] at q; exact q), fun k hk => (h2.o k (Nat.lt_of_lt_of_le hk h.k.size)).trans (h.o k hk)⟩
theorem Stp.kp0 {own : Nat → Int} {w w' : World} (h : Kp (fun _ => False) w w') : Stp own own w w' := ⟨h.mono (fun _ _ q => q.elim), fun _ _ => rfl⟩
section
variable {own own' : Nat → Int} {w w' : World} {p pu sh ms ml : Nat} {X : Pls} {L : List (Int × Se)} {t : Int}
theorem PlRaw.kp_hp (h : PlRaw own w p pu sh ms ml X L) (m : Mv own own' t w w') (ht : t ≠ -1) : w'.heap[p]? = some (.cells #[.pointer (some ⟨pu, 0, none⟩), .pointer (some ⟨sh, 0, none⟩), .map (some ms), .map (some ml), .int .i64 (X.last : Nat)] 66 (0, 0)) :=
  m.k.at_ h.hp (fun q => ht (q.symm.trans h.op))
theorem PlRaw.kp_pu (h : PlRaw own w p pu sh ms ml X L) (m : Mv own own' t w w') (ht : t ≠ -2) : PuAt w' pu X.P := h.hpu.kp m.k (fun q => ht (q.symm.trans h.opu))
theorem PlRaw.kp_ms (h : PlRaw own w p pu sh ms ml X L) (m : Mv own own' t w w') (ht : t ≠ -3) : MapAt w' (.int .i64) (Value.int .i64) sev ms L := h.hms.kp m.k (fun q => ht (q.symm.trans h.oms))
theorem PlRaw.kp_ml (h : PlRaw own w p pu sh ms ml X L) (m : Mv own own' t w w') (ht : t ≠ -4) : MapAt w' (.int .i64) (Value.int .i64) lov ml X.l := h.hml.kp m.k (fun q => ht (q.symm.trans h.oml))
theorem PlRaw.kp_sh (h : PlRaw own w p pu sh ms ml X L) (m : Mv own own' t w w') (ht : t ≠ -5) : ShelfAt (fun k => own' k = -5) w' sh X.S :=
  shelf_more (h.hsh.kp m.k (fun i hi q => ht (q.symm.trans hi))) (fun k q => (m.o k (h.lt k (by rw [q]; decide))).trans q) (fun k q => m.l k (by rw [q]; decide))
theorem PlRaw.kp_se (h : PlRaw own w p pu sh ms ml X L) (m : Mv own own' t w w') {q : Int × Se} (hq : q ∈ L) (ht : t ≠ q.1) : 0 < q.1 ∧ SeAt (fun k => own' k = q.1) w' q.2.sp q.2.S := by
  obtain ⟨h0, h1⟩ := h.each q hq
  refine ⟨h0, (h1.kp m.k (fun k e e' => ht (e'.symm.trans e))).more (fun k _ e => ?_)⟩
  have hk : k < w.heap.size := h.lt k (by rw [e]; omega)
  exact (m.o k hk).trans e
theorem PlRaw.tag (h : PlRaw own w p pu sh ms ml X L) (m : Mv own own' t w w') : own' p = -1 ∧ own' pu = -2 ∧ own' ms = -3 ∧ own' ml = -4 :=
  ⟨(m.o _ (h.lt _ (by rw [h.op]; decide))).trans h.op, (m.o _ (h.lt _ (by rw [h.opu]; decide))).trans h.opu, (m.o _ (h.lt _ (by rw [h.oms]; decide))).trans h.oms, (m.o _ (h.lt _ (by rw [h.oml]; decide))).trans h.oml⟩
theorem Mv.new (h : PlRaw own w p pu sh ms ml X L) (hk : Kp (fun _ => False) w w') : Mv own own (-9) w w' := ⟨hk.mono (fun _ _ q => q.elim), fun _ _ => rfl, fun k q => Nat.lt_of_lt_of_le (h.lt k q) hk.size, by decide⟩
theorem PlRaw.kp0 (h : PlRaw own w p pu sh ms ml X L) (hk : Kp (fun k => own k = 0) w w') : PlRaw own w' p pu sh ms ml X L := by
  have hn : ∀ k, own k ≠ 0 → ¬ own k = 0 := fun _ q => q
  refine ⟨hk.at_ h.hp (by rw [h.op]; decide), h.hpu.kp hk (by rw [h.opu]; decide), h.hsh.kp hk (fun i hi => by rw [hi]; decide), h.hms.kp hk (by rw [h.oms]; decide), h.hml.kp hk (by rw [h.oml]; decide), h.abs, fun q hq => ?_, h.op, h.opu, h.oms, h.oml, fun k q => Nat.lt_of_lt_of_le (h.lt k q) hk.size⟩
  obtain ⟨h0, h1⟩ := h.each q hq
  exact ⟨h0, h1.kp hk (fun k e e' => by omega)⟩
theorem PlRaw.purse (h : PlRaw own w p pu sh ms ml X L) {P' : Pu} (hk : Kp (· = pu) w w') (hu : PuAt w' pu P') : PlRaw own w' p pu sh ms ml { X with P := P' } L ∧ Stp own own w w' := by
  have m : Mv own own (-2) w w' := ⟨hk.mono (fun k _ q => by rw [q]; exact h.opu), fun _ _ => rfl, fun k q => Nat.lt_of_lt_of_le (h.lt k q) hk.size, by decide⟩
  exact ⟨⟨h.kp_hp m (by decide), hu, h.kp_sh m (by decide), h.kp_ms m (by decide), h.kp_ml m (by decide), h.abs, fun q hq => h.kp_se m hq (by have := (h.each q hq).1; omega), h.op, h.opu, h.oms, h.oml, m.l⟩, m.stp⟩
theorem PlRaw.lastPut (h : PlRaw own w p pu sh ms ml X L) (n : Nat) : PlRaw own (w.setCell ⟨p, 4, none⟩ (.int .i64 (n : Nat))) p pu sh ms ml { X with last := n } L ∧ Stp own own w (w.setCell ⟨p, 4, none⟩ (.int .i64 (n : Nat))) := by
  have hk : Kp (· = p) w (w.setCell ⟨p, 4, none⟩ (.int .i64 (n : Nat))) := (Kp.refl (· = p) w).setCell (p := ⟨p, 4, none⟩) (fun _ => rfl) _
  have m : Mv own own (-1) w (w.setCell ⟨p, 4, none⟩ (.int .i64 (n : Nat))) := ⟨hk.mono (fun k _ q => by rw [q]; exact h.op), fun _ _ => rfl, fun k q => Nat.lt_of_lt_of_le (h.lt k q) hk.size, by decide⟩
  exact ⟨⟨by rw [setCell_at h.hp]; rfl, h.kp_pu m (by decide), h.kp_sh m (by decide), h.kp_ms m (by decide), h.kp_ml m (by decide), h.abs, fun q hq => h.kp_se m hq (by have := (h.each q hq).1; omega), h.op, h.opu, h.oms, h.oml, m.l⟩, m.stp⟩
theorem PlRaw.sess (h : PlRaw own w p pu sh ms ml X L) {L' : List (Int × Se)} (hk : Kp (· = ms) w w') (hm : MapAt w' (.int .i64) (Value.int .i64) sev ms L') (he : ∀ q ∈ L', q ∈ L ∨ 0 < q.1 ∧ SeAt (fun k => own k = q.1) w q.2.sp q.2.S) :
    PlRaw own w' p pu sh ms ml { X with L := absL L' } L' ∧ Stp own own w w' := by
  have m : Mv own own (-3) w w' := ⟨hk.mono (fun k _ q => by rw [q]; exact h.oms), fun _ _ => rfl, fun k q => Nat.lt_of_lt_of_le (h.lt k q) hk.size, by decide⟩
  refine ⟨⟨h.kp_hp m (by decide), h.kp_pu m (by decide), h.kp_sh m (by decide), hm, h.kp_ml m (by decide), rfl, fun q hq => ?_, h.op, h.opu, h.oms, h.oml, m.l⟩, m.stp⟩
  rcases he q hq with hq | ⟨h0, h1⟩
  · exact h.kp_se m hq (by have := (h.each q hq).1; omega)
  · exact ⟨h0, h1.kp m.k (fun k e e' => by omega)⟩
theorem PlRaw.loads (h : PlRaw own w p pu sh ms ml X L) {l' : List (Int × (Int × Nat))} (hk : Kp (· = ml) w w') (hm : MapAt w' (.int .i64) (Value.int .i64) lov ml l') : PlRaw own w' p pu sh ms ml { X with l := l' } L ∧ Stp own own w w' := by
  have m : Mv own own (-4) w w' := ⟨hk.mono (fun k _ q => by rw [q]; exact h.oml), fun _ _ => rfl, fun k q => Nat.lt_of_lt_of_le (h.lt k q) hk.size, by decide⟩
  exact ⟨⟨h.kp_hp m (by decide), h.kp_pu m (by decide), h.kp_sh m (by decide), h.kp_ms m (by decide), hm, h.abs, fun q hq => h.kp_se m hq (by have := (h.each q hq).1; omega), h.op, h.opu, h.oms, h.oml, m.l⟩, m.stp⟩
open Classical in
noncomputable def own1 (own : Nat → Int) (w w' : World) (F : Nat → Prop) (t : Int) : Nat → Int := fun k => if w.heap.size ≤ k ∧ k < w'.heap.size ∧ F k then t else own k
theorem own1_old {F : Nat → Prop} {k : Nat} (hk : k < w.heap.size) : own1 own w w' F t k = own k := if_neg (fun q => by omega)
theorem own1_new {F : Nat → Prop} {k : Nat} (hk : w.heap.size ≤ k) (hk' : k < w'.heap.size) (hF : F k) : own1 own w w' F t k = t := if_pos ⟨hk, hk', hF⟩
theorem own1_no {F : Nat → Prop} {k : Nat} (hF : ¬ F k) : own1 own w w' F t k = own k := if_neg (fun q => hF q.2.2)
theorem Mv.own1 {F G : Nat → Prop} (h : PlRaw own w p pu sh ms ml X L) (hk : Kp G w w') (hG : ∀ k, k < w.heap.size → G k → own k = t) (hz : t ≠ 0) : Mv own (own1 own w w' F t) t w w' := by
  refine ⟨hk.mono (fun k l q => hG k l q), fun k l => own1_old l, fun k q => ?_, hz⟩
  by_cases hc : w.heap.size ≤ k ∧ k < w'.heap.size ∧ F k
  · exact hc.2.1
  · have e : Pl.own1 own w w' F t k = own k := if_neg hc
    rw [e] at q
    exact Nat.lt_of_lt_of_le (h.lt k q) hk.size
theorem PlRaw.shelf (h : PlRaw own w p pu sh ms ml X L) {F' : Nat → Prop} {S' : Shs} (hk : Kp (fun k => own k = -5) w w') (hs : ShelfAt F' w' sh S') (hF : ∀ k, F' k → own k = -5 ∨ w.heap.size ≤ k) :
    PlRaw (own1 own w w' F' (-5)) w' p pu sh ms ml { X with S := S' } L ∧ Stp own (own1 own w w' F' (-5)) w w' := by
  have m : Mv own (own1 own w w' F' (-5)) (-5) w w' := Mv.own1 h hk (fun _ _ q => q) (by decide)
  obtain ⟨t1, t2, t3, t4⟩ := h.tag m
  refine ⟨⟨h.kp_hp m (by decide), h.kp_pu m (by decide), shelf_more hs (fun k q => ?_) (fun k q => m.l k (by rw [q]; decide)), h.kp_ms m (by decide), h.kp_ml m (by decide), h.abs, fun q hq => h.kp_se m hq (by have := (h.each q hq).1; omega), t1, t2, t3, t4, m.l⟩, m.stp⟩
  rcases hF k q with e | e
  · rw [m.o k (h.lt k (by rw [e]; decide))]; exact e
  · exact own1_new e (hs.fin k q) q
theorem PlRaw.stream (h : PlRaw own w p pu sh ms ml X L) {L1 L2 : List (Int × Se)} {hd : Int} {e : Se} {S' : Str} (hL : L = L1 ++ (hd, e) :: L2) (hno : ∀ q ∈ L1 ++ L2, q.1 ≠ hd) {G F' : Nat → Prop} (hk : Kp G w w') (hG : ∀ k, G k → own k = hd)
    (hs : StAt F' w' e.sp S') (hF : ∀ k, F' k → G k ∨ w.heap.size ≤ k) (hr : ∀ k, rd w' e.sp k → own k = hd ∨ w.heap.size ≤ k) (hhd : 0 < hd) :
    PlRaw (own1 own w w' (fun k => F' k ∨ rd w' e.sp k) hd) w' p pu sh ms ml { X with L := absL (L1 ++ (hd, { e with S := S' }) :: L2) } (L1 ++ (hd, { e with S := S' }) :: L2) ∧ Stp own (own1 own w w' (fun k => F' k ∨ rd w' e.sp k) hd) w w' := by
  have m : Mv own (own1 own w w' (fun k => F' k ∨ rd w' e.sp k) hd) hd w w' := Mv.own1 h hk (fun _ _ q => hG _ q) (by omega)
  obtain ⟨t1, t2, t3, t4⟩ := h.tag m
  have hms := h.kp_ms m (by omega)
  refine ⟨⟨h.kp_hp m (by omega), h.kp_pu m (by omega), h.kp_sh m (by omega), ?_, h.kp_ml m (by omega), rfl, fun q hq => ?_, t1, t2, t3, t4, m.l⟩, m.stp⟩
  · obtain ⟨es, clk, g1, g2, g3, g4⟩ := hms
    refine ⟨es, clk, g1, g2, g3, ?_⟩
    rw [g4, hL]
    simp [sev]
  · have hq' : q ∈ L1 ++ L2 ∨ q = (hd, { e with S := S' }) := by
      simp only [List.mem_append, List.mem_cons] at hq ⊢
      rcases hq with q | q | q
      · exact .inl (.inl q)
      · exact .inr q
      · exact .inl (.inr q)
    rcases hq' with hq' | rfl
    · exact h.kp_se m (by rw [hL]; simp only [List.mem_append, List.mem_cons] at hq' ⊢; rcases hq' with q | q; exact .inl q; exact .inr (.inr q)) (fun e' => hno q hq' e'.symm)
    · refine ⟨hhd, F', hs, fun k q => ?_, fun k q => ?_⟩
      · rcases hF k q with g | g
        · have := hG k g
          show own1 own w w' _ hd k = hd
          rw [m.o k (h.lt k (by rw [this]; omega))]; exact this
        · exact own1_new g (hs.fl k q) (.inl q)
      · rcases hr k q with g | g
        · show own1 own w w' _ hd k = hd
          rw [m.o k (h.lt k (by rw [g]; omega))]; exact g
        · exact own1_new g (hs.rd_lt q).1 (.inr q)
theorem PlRaw.newSt (h : PlRaw own w p pu sh ms ml X L) {F' : Nat → Prop} {s : Nat} {S' : Str} {hd : Int} (hk : Kp (fun _ => False) w w') (hs : StAt F' w' s S') (hF : ∀ k, F' k → w.heap.size ≤ k) (hr : ∀ k, rd w' s k → w.heap.size ≤ k) (hhd : 0 < hd) (hno : ∀ q ∈ L, q.1 ≠ hd) :
    PlRaw (own1 own w w' (fun k => F' k ∨ rd w' s k) hd) w' p pu sh ms ml X L ∧ Stp own (own1 own w w' (fun k => F' k ∨ rd w' s k) hd) w w' ∧ SeAt (fun k => own1 own w w' (fun k => F' k ∨ rd w' s k) hd k = hd) w' s S' := by
  have m : Mv own (own1 own w w' (fun k => F' k ∨ rd w' s k) hd) hd w w' := Mv.own1 h hk (fun _ _ q => q.elim) (by omega)
  obtain ⟨t1, t2, t3, t4⟩ := h.tag m
  exact ⟨⟨h.kp_hp m (by omega), h.kp_pu m (by omega), h.kp_sh m (by omega), h.kp_ms m (by omega), h.kp_ml m (by omega), h.abs, fun q hq => h.kp_se m hq (fun e => hno q hq e.symm), t1, t2, t3, t4, m.l⟩, m.stp,
    F', hs, fun k q => own1_new (hF k q) (hs.fl k q) (.inl q), fun k q => own1_new (hr k q) (hs.rd_lt q).1 (.inr q)⟩
end
end Go.Proofs.YtmioiaeiflbmhaaGreat.Pl
namespace Go.Proofs.YtmioiaeiflbmhaaGreat.Pl
open Go Go.RowKit Go.ChangeMaps Go.MapKept Go.Mg Go.Proofs.YtmioiaeiflbmhaaGreat.No Go.Proofs.YtmioiaeiflbmhaaGreat.Sh Go.Proofs.YtmioiaeiflbmhaaGreat.Str
def PX (own : Nat → Int) (w : World) (p : Nat) (X : Pls) : Prop := ∃ pu sh ms ml L, PlRaw own w p pu sh ms ml X L
theorem PX.kp0 {own : Nat → Int} {w w' : World} {p : Nat} {X : Pls} (h : PX own w p X) (hk : Kp (fun k => own k = 0) w w') : PX own w' p X := by
  obtain ⟨pu, sh, ms, ml, L, h⟩ := h
  exact ⟨pu, sh, ms, ml, L, h.kp0 hk⟩
def GoPost (own : Nat → Int) (w : World) (p : Nat) (X' : Pls) (e : Ending) (w' : World) : Prop := e = .returned (.tuple #[]) ∧ ∃ own', PX own' w' p X' ∧ Stp own own' w w'
theorem zeroLo (w : World) : (zeroValue 107).run Tryz.prog w = .ok (.agg #[.int .i64 0, .int .i64 0]) w := by
  have h : (Tryz.prog.info? 107).map (·.zero) = some (some (.agg #[.int .i64 0, .int .i64 0])) := by kernel_rfl
  cases hi : Tryz.prog.info? 107 with
  | none => rw [hi] at h; cases h
  | some i =>
    rw [hi] at h
    simp only [Option.map_some, Option.some.injEq] at h
    simp [zeroValue, typeInfo, hi, h]
theorem zeroSe (w : World) : (zeroValue 99).run Tryz.prog w = .ok (.agg #[.int .i64 0, .pointer none, .int .i64 0]) w := by
  have h : (Tryz.prog.info? 99).map (·.zero) = some (some (.agg #[.int .i64 0, .pointer none, .int .i64 0])) := by kernel_rfl
  cases hi : Tryz.prog.info? 99 with
  | none => rw [hi] at h; cases h
  | some i =>
    rw [hi] at h
    simp only [Option.map_some, Option.some.injEq] at h
    simp [zeroValue, typeInfo, hi, h]
theorem PlRaw.cells {own : Nat → Int} {w : World} {p pu sh ms ml : Nat} {X : Pls} {L : List (Int × Se)} (h : PlRaw own w p pu sh ms ml X L) :
    w.cell? ⟨p, 0, none⟩ = some (.pointer (some ⟨pu, 0, none⟩)) ∧ w.cell? ⟨p, 1, none⟩ = some (.pointer (some ⟨sh, 0, none⟩)) ∧ w.cell? ⟨p, 2, none⟩ = some (.map (some ms)) ∧ w.cell? ⟨p, 3, none⟩ = some (.map (some ml)) ∧ w.cell? ⟨p, 4, none⟩ = some (.int .i64 (X.last : Nat)) :=
  ⟨by rw [cell_of h.hp]; rfl, by rw [cell_of h.hp]; rfl, by rw [cell_of h.hp]; rfl, by rw [cell_of h.hp]; rfl, by rw [cell_of h.hp]; rfl⟩
theorem PlRaw.new {own : Nat → Int} {w : World} {p pu sh ms ml : Nat} {X : Pls} {L : List (Int × Se)} (h : PlRaw own w p pu sh ms ml X L) {k : Nat} (hk : w.heap.size ≤ k) : own k = 0 := by
  by_cases e : own k = 0
  · exact e
  · have := h.lt k e; omega
theorem loLook {X : Pls} (id : Int) : ∃ (c : Int) (k : Nat), (X.gone id = { X with l := AL.del X.l id, P := X.P.give c (k : Nat) }) ∧ ∀ (V : World) (ml : Nat), MapAt V (.int .i64) (Value.int .i64) lov ml X.l →
    (Instr.lookup 64 (.map (some ml)) (.int .i64 id) false).run Tryz.prog V = .ok (.agg #[.int .i64 c, .int .i64 (k : Nat)]) V := by
  refine ⟨((AL.get X.l id).map (·.1)).getD 0, ((AL.get X.l id).map (·.2)).getD 0, ?_, fun V ml h => ?_⟩
  · unfold Pls.gone
    cases AL.get X.l id <;> rfl
  · have := h.look (P := Tryz.prog) key_int Tryz.underlying64 Tryz.underlying3 (zeroLo V) id false
    rw [this]
    cases AL.get X.l id <;> rfl
set_option maxRecDepth 100000 in
set_option maxHeartbeats 2000000 in
theorem gone_p {own : Nat → Int} {w : World} {p : Nat} {X : Pls} (h : PX own w p X) (ho : X.P.Ok) (id : Int) : Calls Tryz.prog 59 #[.pointer (some ⟨p, 0, none⟩), .int .i64 id] w (GoPost own w p (X.gone id)) := by
  obtain ⟨pu, sh, ms, ml, L, h⟩ := h
  obtain ⟨c, k, hg, hl0⟩ := loLook (X := X) id
  have HG := Lib.hid hg
  have hl := hl0 w ml h.hml
  have d3 := h.cells.2.2.2.1
  have k1 : Kp (fun _ => False) w (w.alloc (.cells #[.int .i64 c, .int .i64 (k : Nat)] 107)) := kp_new
  have H1 := Lib.hid (h.kp0 (k1.mono (fun _ _ q => q.elim)))
  have hx := alloc_at w (.cells #[.int .i64 c, .int .i64 (k : Nat)] 107)
  have HX := Lib.hid hx
  have HO := Lib.hid ho
  have e3 := H1.out.cells.2.2.2.1
  have KN := Lib.hid k1
  have HN := Lib.hid (h.new (Nat.le_refl _))
  have HOML := Lib.hid h.oml
  clear h hg hl0 k1 hx ho
  go_enter Tryz.func59, Tryz.ntmps59
  go_wp2_with (at_delete; refine wpList_mdel _ rfl _ _ 64 3 rfl key_int lov Tryz.underlying64 Tryz.underlying3 ml X.l rfl H1.out.hml id rfl ?_; intro w2 m1 m2 m3; have M1 := Lib.hid m1; have M2 := Lib.hid m2; clear m1 m2 m3)
  obtain ⟨q1, q2⟩ := H1.out.loads M2.out M1.out
  have x2 := M2.out.at_ HX.out (fun e => by have := HN.out; rw [e, HOML.out] at this; cases this)
  have a0 := q1.cells.1
  have a1 : w2.cell? ⟨w.heap.size, 0, none⟩ = some (.int .i64 c) := by rw [cell_of x2]; rfl
  have a2 : w2.cell? ⟨w.heap.size, 1, none⟩ = some (.int .i64 (k : Nat)) := by rw [cell_of x2]; rfl
  have C1 := Lib.hid (give_p (w := w2.drew) (q1.kp0 ((Kp.refl _ _).drew)).hpu HO.out c k)
  have Q1 := Lib.hid q1
  have Q2 := Lib.hid ((Stp.kp0 (own := own) KN.out).trans q2)
  clear q1 q2 x2 hl d3 e3
  go_region_law ((go_simp; go_at_call 87; refine C1.out.mono ?_; rintro e w3 ⟨rfl, g1, g2⟩; have G1 := Lib.hid g1; have G2 := Lib.hid g2; clear g1 g2))
  all_goals
    go_wp2_with fail
    go_end0
    obtain ⟨r1, r2⟩ := (Q1.out.kp0 ((Kp.refl _ _).drew)).purse G2.out G1.out
    refine ⟨rfl, own, ?_, Q2.out.trans ((Stp.kp0 (Kp.refl _ _).drew).trans r2)⟩
    rw [HG.out]
    exact ⟨pu, sh, ms, ml, L, r1⟩
def Pns (X : Pls) : Prop := ∀ id k, AL.get X.S.books id = some k → k.pins < 4611686018427387904
set_option maxRecDepth 100000 in
set_option maxHeartbeats 1000000 in
theorem unpins_p {own : Nat → Int} {w : World} {p : Nat} {X : Pls} (h : PX own w p X) (ho : X.P.Ok) (hp : Pns X) (id : Int) : Calls Tryz.prog 51 #[.pointer (some ⟨p, 0, none⟩), .int .i64 id] w (GoPost own w p (X.unpins id)) := by
  obtain ⟨pu, sh, ms, ml, L, h⟩ := h
  have C1 := Lib.hid (unpin_any X.S id (hp id) w h.hsh)
  have d1 := h.cells.2.1
  have H := Lib.hid h
  have HO := Lib.hid ho
  cases hu : (X.S.unpin id).2 with
  | true =>
    have HX : Hid (X.unpins id = ({ X with S := (X.S.unpin id).1 } : Pls).gone id) := Lib.hid (if_pos hu)
    unfold UnpinPost at C1
    rw [hu] at C1
    clear h ho hp hu
    go_enter Tryz.func51, Tryz.ntmps51
    go_wp2_with fail
    refine C1.out.mono ?_
    rintro e w2 ⟨rfl, g1, g2⟩
    obtain ⟨q1, q2⟩ := H.out.shelf g2 g1 (fun k q => .inl q)
    have C2 := Lib.hid (gone_p (p := p) ⟨pu, sh, ms, ml, L, q1⟩ HO.out id)
    have Q2 := Lib.hid q2
    clear g1 g2 q1 q2 C1
    go_wp2_with fail
    refine C2.out.mono ?_
    rintro e w3 ⟨rfl, own', r1, r2⟩
    have R1 := Lib.hid r1
    have R2 := Lib.hid (Q2.out.trans r2)
    clear r1 r2 C2
    go_wp2_with fail
    go_end0
    exact ⟨rfl, own', by rw [HX.out]; exact R1.out, R2.out⟩
  | false =>
    have HX : Hid (X.unpins id = { X with S := (X.S.unpin id).1 }) := Lib.hid (if_neg (by rw [hu]; decide))
    unfold UnpinPost at C1
    rw [hu] at C1
    clear h ho hp hu
    go_enter Tryz.func51, Tryz.ntmps51
    go_wp2_with fail
    refine C1.out.mono ?_
    rintro e w2 ⟨rfl, g1, g2⟩
    obtain ⟨q1, q2⟩ := H.out.shelf g2 g1 (fun k q => .inl q)
    have Q1 := Lib.hid q1
    have Q2 := Lib.hid q2
    clear g1 g2 q1 q2 C1
    go_wp2_with fail
    go_end0
    exact ⟨rfl, _, by rw [HX.out]; exact ⟨pu, sh, ms, ml, L, Q1.out⟩, Q2.out⟩
theorem unpins_ok {X : Pls} (h : X.P.Ok) (id : Int) : (X.unpins id).P.Ok := by
  unfold Pls.unpins
  split
  · exact h.give _ _
  · exact h
theorem abs_get (L : List (Int × Se)) (hd : Int) : AL.get (absL L) hd = (AL.get L hd).map fun q => ⟨q.cl, q.id, q.S⟩ := by
  induction L with
  | nil => rfl
  | cons p l ih =>
    show AL.get ((p.1, ⟨p.2.cl, p.2.id, p.2.S⟩) :: absL l) hd = _
    rw [AL.get_cons, AL.get_cons, ih]
    split <;> rfl
theorem abs_del (L : List (Int × Se)) (hd : Int) : AL.del (absL L) hd = absL (AL.del L hd) := by
  unfold AL.del absL
  rw [List.filter_map]
  rfl
theorem seLook {V : World} {ms : Nat} {L : List (Int × Se)} {hd : Int} {e : Se} (h : MapAt V (.int .i64) (Value.int .i64) sev ms L) (he : AL.get L hd = some e) :
    (Instr.lookup 63 (.map (some ms)) (.int .i64 hd) false).run Tryz.prog V = .ok (.agg #[.int .i64 e.cl, .pointer (some ⟨e.sp, 0, none⟩), .int .i64 e.id]) V := by
  have := h.look (P := Tryz.prog) key_int Tryz.underlying63 Tryz.underlying3 (zeroSe V) hd false
  rw [this, he]
  rfl
set_option maxRecDepth 100000 in
set_option maxHeartbeats 2000000 in
theorem ends_p {own : Nat → Int} {w : World} {p : Nat} {X : Pls} (h : PX own w p X) (ho : X.P.Ok) (hp : Pns X) (hd : Int) (e : Sp) (he : AL.get X.L hd = some e) :
    Calls Tryz.prog 54 #[.pointer (some ⟨p, 0, none⟩), .int .i64 hd] w (GoPost own w p (X.ends hd e)) := by
  obtain ⟨pu, sh, ms, ml, L, h⟩ := h
  rw [h.abs, abs_get] at he
  obtain ⟨q, hq, rfl⟩ : ∃ q : Se, AL.get L hd = some q ∧ e = ⟨q.cl, q.id, q.S⟩ := by
    cases hg : AL.get L hd with
    | none => rw [hg] at he; cases he
    | some q => rw [hg] at he; exact ⟨q, rfl, by simpa using he.symm⟩
  obtain ⟨cl, sp, id, S⟩ := q
  have hl : (Instr.lookup 63 (.map (some ms)) (.int .i64 hd) false).run Tryz.prog w = .ok (.agg #[.int .i64 cl, .pointer (some ⟨sp, 0, none⟩), .int .i64 id]) w := seLook h.hms hq
  have HE : Hid (X.ends hd ⟨cl, id, S⟩ = { ({ X with L := absL (AL.del L hd) } : Pls).unpins id with P := (({ X with L := absL (AL.del L hd) } : Pls).unpins id).P.give cl 2500 }) := Lib.hid (by unfold Pls.ends; rw [h.abs, abs_del])
  have d2 := h.cells.2.2.1
  have k1 : Kp (fun _ => False) w (w.alloc (.cells #[.int .i64 cl, .pointer (some ⟨sp, 0, none⟩), .int .i64 id] 99)) := kp_new
  have H1 := Lib.hid (h.kp0 (k1.mono (fun _ _ q => q.elim)))
  have HX := Lib.hid (alloc_at w (.cells #[.int .i64 cl, .pointer (some ⟨sp, 0, none⟩), .int .i64 id] 99))
  have HO := Lib.hid ho
  have HP := Lib.hid hp
  have e2 := H1.out.cells.2.2.1
  have KN := Lib.hid k1
  have HN := Lib.hid (h.new (Nat.le_refl _))
  have HOMS := Lib.hid h.oms
  clear h he hq k1 ho hp
  go_enter Tryz.func54, Tryz.ntmps54
  go_wp2_with (at_delete; refine wpList_mdel _ rfl _ _ 63 3 rfl key_int sev Tryz.underlying63 Tryz.underlying3 ms L rfl H1.out.hms hd rfl ?_; intro w2 m1 m2 m3; have M1 := Lib.hid m1; have M2 := Lib.hid m2; have a3 : w2.cell? ⟨w.heap.size, 2, none⟩ = some (.int .i64 id) := (by rw [cell_of (M2.out.at_ HX.out (fun e => by have := HN.out; rw [e, HOMS.out] at this; cases this))]; rfl); clear m1 m2 m3)
  obtain ⟨q1, q2⟩ := H1.out.sess M2.out M1.out (fun q hq => .inl ((List.mem_filter.1 hq).1))
  have x2 := M2.out.at_ HX.out (fun e => by have := HN.out; rw [e, HOMS.out] at this; cases this)
  have X2 := Lib.hid x2
  have C1 := Lib.hid (unpins_p (p := p) ⟨pu, sh, ms, ml, _, q1⟩ HO.out HP.out id)
  have Q2 := Lib.hid ((Stp.kp0 (own := own) KN.out).trans q2)
  have KX := Lib.hid (M2.out.size)
  have KN1 := Lib.hid (show w.heap.size < w2.heap.size from lt_of_at x2)
  clear q1 q2 x2 hl d2 e2
  refine C1.out.mono ?_
  rintro e w3 ⟨rfl, own', ⟨pu', sh', ms', ml', L', r1⟩, r2⟩
  have x3 := r2.k.at_ X2.out (fun e => e HN.out)
  have b0 := r1.cells.1
  have b1 : w3.cell? ⟨w.heap.size, 0, none⟩ = some (.int .i64 cl) := by rw [cell_of x3]; rfl
  have C2 := Lib.hid (give_p (w := w3.drew) (r1.kp0 ((Kp.refl _ _).drew)).hpu (unpins_ok (X := { X with L := absL (AL.del L hd) }) HO.out id) cl 2500)
  have R1 := Lib.hid r1
  have R2 := Lib.hid (Q2.out.trans r2)
  clear r1 r2 x3 C1 a3
  go_wp2_with fail
  go_region_law ((go_simp; go_at_call 87; refine C2.out.mono ?_; rintro e w4 ⟨rfl, g1, g2⟩; have G1 := Lib.hid g1; have G2 := Lib.hid g2; clear g1 g2))
  all_goals
    go_wp2_with fail
    go_end0
    obtain ⟨r1, r2⟩ := (R1.out.kp0 ((Kp.refl _ _).drew)).purse G2.out G1.out
    refine ⟨rfl, own', ?_, R2.out.trans ((Stp.kp0 (Kp.refl _ _).drew).trans r2)⟩
    rw [HE.out]
    exact ⟨pu', sh', ms', ml', L', r1⟩
structure Pls.Wf (X : Pls) (N : Nat) : Prop where
  P : X.P.Ok
  S : X.S.Ok
  sl : X.S.last ≤ N
  bk : ∀ id k, AL.get X.S.books id = some k → k.pins ≤ N ∧ k.data.length ≤ 2000
  ses : ∀ q ∈ X.L, 0 < q.1 ∧ q.1 ≤ (X.last : Int) ∧ 0 ≤ q.2.cl ∧ q.2.cl < 4 ∧ Sz q.2.S N ∧ q.2.S.ended = false ∧ 0 ≤ q.2.id
  nd : (X.L.map (·.1)).Nodup
  last : X.last ≤ N
  ld : ∀ q ∈ X.l, 0 ≤ q.2.1 ∧ q.2.1 < 4 ∧ q.2.2 ≤ 2000
theorem Pls.Wf.pns {X : Pls} {N : Nat} (h : X.Wf N) (hN : N ≤ 30000) : Pns X := fun id k hk => by have := (h.bk id k hk).1; omega
theorem pin_sizes {X : Pls} {N : Nat} (hw : X.Wf N) (hN : N ≤ 30000) (nm : ByteArray) : 0 ≤ (X.S.pin nm).2.1 ∧ (X.S.pin nm).2.1 ≤ 2147483647 ∧ (X.S.pin nm).2.2.1.length ≤ 2000 := by
  unfold Shs.pin
  cases AL.get X.S.names nm with
  | none => simp
  | some id =>
    simp only
    cases hk : AL.get X.S.books id with
    | none => simp
    | some k =>
      have h1 := hw.S.pos id k hk
      have h2 := hw.sl
      have h3 := (hw.bk id k hk).2
      exact ⟨by simp only; omega, by simp only; omega, h3⟩
theorem pin_pns {X : Pls} {N : Nat} (hw : X.Wf N) (hN : N ≤ 30000) (nm : ByteArray) : Pns { X with S := (X.S.pin nm).1 } := by
  have h0 := hw.pns hN
  unfold Pns Shs.pin at *
  cases AL.get X.S.names nm with
  | none => exact h0
  | some id =>
    simp only
    cases hk : AL.get X.S.books id with
    | none => exact h0
    | some k =>
      intro id' k' hk'
      simp only at hk'
      rw [AL.get_put] at hk'
      split at hk'
      · have := (hw.bk id k hk).1
        cases hk'
        simp only
        omega
      · exact h0 id' k' hk'
theorem dep_pos {lv : Int} (h1 : 1 ≤ lv) (h2 : lv ≤ 3) : ∃ dl : Nat, dep lv = (dl : Nat) ∧ 0 < dl := by
  have : lv = 1 ∨ lv = 2 ∨ lv = 3 := by omega
  rcases this with rfl | rfl | rfl
  · exact ⟨1, rfl, by decide⟩
  · exact ⟨8, rfl, by decide⟩
  · exact ⟨32, rfl, by decide⟩
theorem mem_put {ε : Type} {L : List (Int × ε)} {k : Int} {v : ε} {q : Int × ε} (h : q ∈ AL.put L k v) : q ∈ L ∨ q = (k, v) := by
  unfold AL.put at h
  split at h
  · obtain ⟨p, hp, rfl⟩ := List.mem_map.1 h
    split
    · exact .inr rfl
    · exact .inl hp
  · rcases List.mem_append.1 h with h | h
    · exact .inl h
    · exact .inr (by simpa using h)
theorem abs_put (L : List (Int × Se)) (hd : Int) (e : Se) : AL.put (absL L) hd ⟨e.cl, e.id, e.S⟩ = absL (AL.put L hd e) := by
  unfold AL.put
  rw [abs_get, Option.isSome_map]
  split
  · unfold absL
    rw [List.map_map, List.map_map]
    apply List.map_congr_left
    intro q _
    simp only [Function.comp_apply]
    split <;> rfl
  · unfold absL
    rw [List.map_append]
    rfl
theorem al_split {ε : Type} {L : List (Int × ε)} {k : Int} {v : ε} (hnd : (L.map (·.1)).Nodup) (hg : AL.get L k = some v) : ∃ L1 L2, L = L1 ++ (k, v) :: L2 ∧ (∀ q ∈ L1 ++ L2, q.1 ≠ k) ∧ ∀ v', AL.put L k v' = L1 ++ (k, v') :: L2 := by
  obtain ⟨L1, L2, rfl⟩ := List.append_of_mem (AL.get_mem hg)
  rw [List.map_append, List.map_cons, List.nodup_append, List.nodup_cons] at hnd
  obtain ⟨_, ⟨h2, _⟩, h3⟩ := hnd
  have hno : ∀ q ∈ L1 ++ L2, q.1 ≠ k := by
    intro q hq e
    rcases List.mem_append.1 hq with hq | hq
    · exact h3 q.1 (List.mem_map.2 ⟨q, hq, rfl⟩) k (List.mem_cons_self) e
    · exact h2 (List.mem_map.2 ⟨q, hq, e⟩)
  refine ⟨L1, L2, rfl, hno, fun v' => ?_⟩
  unfold AL.put
  rw [hg]
  simp only [Option.isSome_some, if_true, List.map_append, List.map_cons]
  have hid : ∀ M : List (Int × ε), (∀ q ∈ M, q.1 ≠ k) → M.map (fun p => if p.1 = k then (k, v') else p) = M := by
    intro M hM
    conv => rhs; rw [← List.map_id M]
    exact List.map_congr_left (fun q hq => by rw [if_neg (hM q hq)]; rfl)
  rw [hid L1 (fun q hq => hno q (List.mem_append.2 (.inl hq))), hid L2 (fun q hq => hno q (List.mem_append.2 (.inr hq)))]
end Go.Proofs.YtmioiaeiflbmhaaGreat.Pl
