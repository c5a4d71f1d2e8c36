/- PlanLoads in plain words: its states. The walk of PlanLoads. -/
import Derived.Lib.SlBytesConst
import Derived.Test.YtmioiaeiflbmhaaGreatX33
import Derived.Test.YtmioiaeiflbmhaaGreatX09
set_option linter.unusedVariables false
namespace Go.Proofs.YtmioiaeiflbmhaaGreat.planLoads
open Go Go.Mg Go.Proofs.YtmioiaeiflbmhaaGreat.Pl Go.Proofs.YtmioiaeiflbmhaaGreat.Sh Go.Proofs.YtmioiaeiflbmhaaGreat.Str
def nmD : ByteArray := ⟨#[100]⟩
def zs (n : Nat) : List UInt8 := List.replicate n 0
def dat (l : List UInt8) : List UInt8 := [77, 68, 73, 67] ++ l
def st (l : List UInt8) (p : Nat) : Shs := ⟨1, [(1, ⟨l, true, p⟩)], [(nmD, 1)]⟩
def stR (l : List UInt8) (p : Nat) : Shs := ⟨1, [(1, ⟨l, false, p⟩)], []⟩
def e0 : Shs := ⟨0, [], []⟩
def e1 : Shs := ⟨1, [], []⟩
theorem is_dat {l : List UInt8} (h1 : 1 ≤ l.length) (h2 : l.length ≤ 2000) : isS nmD (dat l) = 0 :=
  isS_ok (by decide) (by decide) (List.prefix_append _ _) (by simp [dat]; omega) (by simp [dat]; omega)
theorem st_load {l : List UInt8} (h1 : 1 ≤ l.length) (h2 : l.length ≤ 2000) : e0.load nmD (dat l) = (st l 0, 1, 0, 0) := by
  unfold Shs.load
  rw [if_pos (is_dat h1 h2)]
  rfl
theorem st_pin (l : List UInt8) (p : Nat) : (st l p).pin nmD = (st l (p + 1), 1, l, 0) := by
  simp [Shs.pin, st, AL.get, AL.put]
theorem st_retire (l : List UInt8) : (st l 1).retire nmD = (stR l 1, 0, 0) := by
  simp [Shs.retire, Shs.retires, st, stR, AL.get, AL.put, AL.del, Shs.lets]
theorem stR_pin (l : List UInt8) (p : Nat) : (stR l p).pin nmD = (stR l p, 0, [], 5) := rfl
theorem stR_unpin (l : List UInt8) : (stR l 1).unpin 1 = (e1, true) := by
  simp [Shs.unpin, stR, e1, AL.get, AL.put, AL.del, Shs.lets]
def p0 : Pu := pu0 20000 9000
theorem give0 (P : Pu) : P.give 0 0 = P := by
  unfold Pu.give
  rw [if_pos (by decide)]
  have : upd P.u (0 : Int).toNat (P.u (0 : Int).toNat - (0 : Int).toNat) = P.u := by
    funext i
    unfold upd
    split
    · rename_i h; subst h; simp
    · rfl
  rw [this]
section
variable (n : Nat) (b o : Int)
def sn : Sp := ⟨o, 1, S0 1 1 (zs n)⟩
def x1 : Pls := ⟨p0.take b n, st (zs n) 0, [], [(1, (b, n))], 0⟩
def x2 : Pls := ⟨(p0.take b n).take o 2500, st (zs n) 1, [(1, sn n o)], [(1, (b, n))], 1⟩
def x3 : Pls := ⟨(p0.take b n).take o 2500, stR (zs n) 1, [(1, sn n o)], [(1, (b, n))], 1⟩
def x5 : Pls := ⟨(((p0.take b n).take o 2500).give b n).give o 2500, e1, [], [], 1⟩
end
theorem gone_no {X : Pls} (h : AL.get X.l 0 = none) (hd : AL.del X.l 0 = X.l) : X.gone 0 = X := by
  unfold Pls.gone
  rw [h, hd]
  show { X with l := X.l, P := X.P.give 0 0 } = X
  rw [give0]
theorem has1 {n : Nat} {b : Int} (hn : n ≤ 1000) (hb : 0 ≤ b ∧ b < 4) : p0.has b n := by
  refine ⟨hb.1, hb.2, by omega, ?_, ?_⟩
  · show (n : Int) ≤ ((9000 : Nat) : Int) - ((0 : Nat) : Int)
    omega
  · show (n : Int) ≤ ((20000 : Nat) : Int) - ((0 + 0 + 0 + 0 + 0 : Nat) : Int)
    omega
theorem four {b : Int} (hb : 0 ≤ b ∧ b < 4) : b = 0 ∨ b = 1 ∨ b = 2 ∨ b = 3 := by omega
theorem take1 {n : Nat} {b : Int} (hn : n ≤ 1000) (hb : 0 ≤ b ∧ b < 4) : p0.take b n = ⟨20000, 9000, upd (fun _ => 0) b.toNat n⟩ := by
  unfold Pu.take
  rw [if_pos (has1 hn hb)]
  show Pu.mk _ _ _ = _
  congr 1
  simp [p0, pu0]
theorem used1 {n : Nat} {b : Int} (hn : n ≤ 1000) (hb : 0 ≤ b ∧ b < 4) : (p0.take b n).used = n := by
  rw [take1 hn hb]
  rcases four hb with rfl | rfl | rfl | rfl <;> simp [Pu.used, No.sumTo, upd]
theorem has2 {n : Nat} {b o : Int} (hn : n ≤ 1000) (hb : 0 ≤ b ∧ b < 4) (ho : 0 ≤ o ∧ o < 4) : (p0.take b n).has o 2500 := by
  refine ⟨ho.1, ho.2, by omega, ?_, ?_⟩
  · rw [take1 hn hb]
    simp only [upd]
    split <;> omega
  · rw [used1 hn hb, take1 hn hb]
    simp only
    omega
theorem take2 {n : Nat} {b o : Int} (hn : n ≤ 1000) (hb : 0 ≤ b ∧ b < 4) (ho : 0 ≤ o ∧ o < 4) : (p0.take b n).take o 2500 = ⟨20000, 9000, upd (upd (fun _ => 0) b.toNat n) o.toNat (upd (fun _ => 0) b.toNat n o.toNat + 2500)⟩ := by
  unfold Pu.take
  rw [if_pos (show (if p0.has b n then { p0 with u := upd p0.u b.toNat (p0.u b.toNat + (n : Int).toNat) } else p0 : Pu).has o 2500 from has2 hn hb ho)]
  have := take1 hn hb
  unfold Pu.take at this
  rw [this]
  rfl
theorem used2 {n : Nat} {b o : Int} (hn : n ≤ 1000) (hb : 0 ≤ b ∧ b < 4) (ho : 0 ≤ o ∧ o < 4) : ((p0.take b n).take o 2500).used = n + 2500 := by
  rw [take2 hn hb ho]
  rcases four hb with rfl | rfl | rfl | rfl <;> rcases four ho with rfl | rfl | rfl | rfl <;> simp [Pu.used, No.sumTo, upd] <;> omega
theorem used5 {n : Nat} {b o : Int} (hn : n ≤ 1000) (hb : 0 ≤ b ∧ b < 4) (ho : 0 ≤ o ∧ o < 4) : ((((p0.take b n).take o 2500).give b n).give o 2500).used = 0 ∧ ((((p0.take b n).take o 2500).give b n).give o 2500).of b = 0 := by
  rw [take2 hn hb ho]
  rcases four hb with rfl | rfl | rfl | rfl <;> rcases four ho with rfl | rfl | rfl | rfl <;> simp [Pu.used, Pu.give, Pu.of, No.sumTo, upd]
theorem of1 {n : Nat} {b : Int} (hn : n ≤ 1000) (hb : 0 ≤ b ∧ b < 4) : (p0.take b n).of b = n := by
  rw [take1 hn hb]
  unfold Pu.of
  rw [if_pos hb]
  simp [upd]
theorem zs_len (n : Nat) : (zs n).length = n := List.length_replicate
theorem a1 {n : Nat} {b : Int} (h1 : 1 ≤ n) (hn : n ≤ 1000) (hb : 0 ≤ b ∧ b < 4) : (pl0 20000 9000).act b ⟨6, nmD, 0, 0, dat (zs n)⟩ = (x1 n b, ⟨0, 1, []⟩) := by
  have hl : (dat (zs n)).length = n + 4 := by simp [dat, zs_len]
  unfold Pls.act
  rw [if_neg (by omega), if_neg (show ¬ (6 : Int) = 1 by decide), if_neg (show ¬ ((2 : Int) ≤ 6 ∧ (6 : Int) ≤ 5) by decide), if_pos rfl]
  unfold Pls.load
  simp only
  rw [if_pos (is_dat (by rw [zs_len]; exact h1) (by rw [zs_len]; omega)), hl, show (((n + 4 : Nat) : Int) - 4) = (n : Int) by omega, if_pos (show (pl0 20000 9000).P.has b n from has1 hn hb)]
  have e : (pl0 20000 9000).S.load nmD (dat (zs n)) = (st (zs n) 0, 1, 0, 0) := st_load (by rw [zs_len]; exact h1) (by rw [zs_len]; omega)
  rw [e]
  simp only [Nat.add_sub_cancel]
  rw [gone_no rfl rfl]
  rfl
theorem a2 {n : Nat} {b o : Int} (hn : n ≤ 1000) (hb : 0 ≤ b ∧ b < 4) (ho : 0 ≤ o ∧ o < 4) : (x1 n b).act o ⟨1, nmD, 1, 0, []⟩ = (x2 n b o, ⟨0, 1, []⟩) := by
  unfold Pls.act
  rw [if_neg (by omega), if_pos rfl]
  unfold Pls.opn
  rw [if_neg (by simp only; rintro (q | q | q); omega; omega; exact absurd q (by decide))]
  simp only
  rw [if_neg (show ¬ nmD.size = 0 by decide)]
  have e : (x1 n b).S.pin nmD = (st (zs n) 1, 1, zs n, 0) := st_pin _ _
  rw [e]
  simp only [if_true]
  unfold Pls.opens
  split
  · rfl
  · rename_i h
    exact absurd (has2 hn hb ho) h
theorem a3 {n : Nat} {b o : Int} (ho : 0 ≤ o ∧ o < 4) : (x2 n b o).act o ⟨7, nmD, 0, 0, []⟩ = (x3 n b o, ⟨0, 0, []⟩) := by
  unfold Pls.act
  rw [if_neg (by omega), if_neg (by decide), if_neg (by decide), if_neg (by decide), if_pos rfl]
  unfold Pls.retire
  have e : (x2 n b o).S.retire nmD = (stR (zs n) 1, 0, 0) := st_retire _
  rw [e]
  simp only
  rw [gone_no rfl rfl]
  rfl
theorem a4 {n : Nat} {b o : Int} (hb : 0 ≤ b ∧ b < 4) : (x3 n b o).act b ⟨1, nmD, 1, 0, []⟩ = (x3 n b o, ⟨5, 0, []⟩) := by
  unfold Pls.act
  rw [if_neg (by omega), if_pos rfl]
  unfold Pls.opn
  rw [if_neg (by simp only; rintro (q | q | q); omega; omega; exact absurd q (by decide))]
  simp only
  rw [if_neg (show ¬ nmD.size = 0 by decide)]
  have e : (x3 n b o).S.pin nmD = (stR (zs n) 1, 0, [], 5) := stR_pin _ _
  rw [e]
  rw [if_neg (show ¬ (5 : Int) = 0 by decide)]
  rfl
theorem a5 {n : Nat} {b o : Int} (ho : 0 ≤ o ∧ o < 4) : (x3 n b o).act o ⟨5, .empty, 0, 1, []⟩ = (x5 n b o, ⟨0, 0, []⟩) := by
  rw [own_act ho (by decide) (show AL.get (x3 n b o).L 1 = some (sn n o) from rfl) rfl]
  unfold Pls.does
  rw [if_neg (by decide), if_pos rfl]
  unfold Pls.ends Pls.unpins
  have e : (x3 n b o).S.unpin (sn n o).id = (e1, true) := stR_unpin _
  simp only
  rw [e]
  rfl
end Go.Proofs.YtmioiaeiflbmhaaGreat.planLoads
set_option linter.unusedVariables false
namespace Go.Proofs.YtmioiaeiflbmhaaGreat.planLoads
open Go Go.RowKit Go.ChangeMaps Go.MapKept Go.Mg Go.Proofs.YtmioiaeiflbmhaaGreat.Pl Go.Proofs.YtmioiaeiflbmhaaGreat.Op Go.Proofs.YtmioiaeiflbmhaaGreat.Ma
theorem dat_cells (m : Nat) : ([77, 68, 73, 67] : List UInt8).map u8c ++ (Builtin.zeroCells (Value.int .u8 0).cells m).toList = (dat (zs m)).map u8c := by
  have : (Builtin.zeroCells (Value.int .u8 0).cells m).toList = List.replicate m (.int .u8 0) := zeroCells_one _ _
  rw [this, dat, zs, List.map_append, List.map_replicate]
  rfl
theorem zero_one : ∀ m, ∀ u ∈ (Builtin.zeroCells (Value.int .u8 0).cells m).toList, u.oneCell' = true := by
  intro m u hu
  have : (Builtin.zeroCells (Value.int .u8 0).cells m).toList = List.replicate m (.int .u8 0) := zeroCells_one _ _
  rw [this] at hu
  rw [List.eq_of_mem_replicate hu]
  rfl
theorem wpList_appzG {P : Program} (w : World) {ops : Array Oper} {rest : List Oper} {o : Oper} {a : Act} {Q : Exit → Act → World → Prop} (hgd : Region.wanted o (yielded ops a.tmps) = true) (s x : Operand) (t tn : TypeId)
    (ho : o.op = .call { callee := .builtin .append, args := #[s, x], argTypes := #[t, tn] })
    (e : TypeId) (i : TypeInfo) (z : Value) (kn : IntKind) (size bytes : Nat) (ht : P.underlying t = some (.slice e)) (htn : P.underlying tn = some (.int kn)) (hi : P.info? e = some i) (hz : i.zero = some z)
    (hsize : i.size = size) (hby : i.bytes = bytes) (hzs : z.cells.size = size) (hsz : 0 < size) (hbp : 0 < bytes) (h1 : ∀ m, ∀ u ∈ (Builtin.zeroCells z.cells m).toList, u.oneCell' = true)
    (v : Value) (n : Nat) (xs : List Value) (hs : a.eval s = v) (hown : OwnR w e size v n xs) (kq : IntKind) (m : Nat) (hx : a.eval x = .int kq m) (hbytes : (n + m) * bytes ≤ 140737488355328)
    (h : ∀ v' w', OwnR w' e size v' (n + m) (xs ++ (Builtin.zeroCells z.cells m).toList) → Kp (fun k => v.ownBlock = some k) w w' → (v'.ownBlock = v.ownBlock ∨ v'.ownBlock = some w.heap.size) → (m = 0 → v' = v ∧ w' = w) → (0 < m → v'.ownBlock ≠ none) → wpList P ops Q rest (a.put o.dst v') w') : wpList P ops Q (o :: rest) a w := by
  refine wpList_step fun K hK => ?_
  rw [if_pos hgd]
  obtain ⟨v', w', hr, h2, h3, h4, h5, h6⟩ := run_appz (P := P) w t tn o.type e i z kq kn size bytes ht htn hi hz hsize hby hzs hsz hbp h1 hown m hbytes
  unfold Oper.wp execOp
  simp only [ho, resolve, invoke, builtin, Sem.run_bind, Sem.run_pure, Result.andThen_ok, List.map_toArray, List.map_cons, List.map_nil, hs, hx, hr]
  exact hK _ _ (h v' w' h2 h3 h4 h5 h6)
theorem x_len (m : Nat) : (dat (zs m)).length = 4 + m := by simp [dat, zs_len]; omega
set_option maxRecDepth 100000 in
set_option maxHeartbeats 2000000 in
theorem full (w : World) (a1' a2' : Int) (n : Nat) (h0 : 1 ≤ n ∧ n ≤ 1000) (h1 : 0 ≤ a1' ∧ a1' < 4) (h2 : 0 ≤ a2' ∧ a2' < 4) :
    Calls Tryz.prog 9 #[.int .i64 (n : Nat), .int .i64 a1', .int .i64 a2'] w (LawPost w) := by
  obtain ⟨i0, hi0, hz0, hz1, hz2⟩ := info_parts Sh.info5
  have C1 := Lib.hid (new_l (w0 := w) (Kp.refl _ w) 20000 9000)
  have FA := fldA
  have FB := fldB
  have wf0 := pl0_wf 20000 9000
  have A1 := Lib.hid (a1 h0.1 h0.2 h1)
  have w1 := act_wf' wf0 (by omega) A1.out
  simp only [x_len] at w1
  have A2 := Lib.hid (a2 h0.2 h1 h2)
  have w2 := act_wf' w1 (by omega) A2.out
  have A3 := Lib.hid (a3 (n := n) (b := a1') h2)
  have w3 := act_wf' w2 (by simp; omega) A3.out
  have A4 := Lib.hid (a4 (n := n) (o := a2') h1)
  have A5 := Lib.hid (a5 (n := n) (b := a1') h2)
  have w5 := act_wf' w3 (by simp; omega) A5.out
  have WF0 := Lib.hid wf0
  have D2 := Lib.hid (fun (V : World) (p : Nat) (h : PlL F0 w V p (x1 n a1')) => do_e h w1 (by omega) a2' 1 nmD 1 0 (by decide) A2.out)
  have D3 := Lib.hid (fun (V : World) (p : Nat) (h : PlL F0 w V p (x2 n a1' a2')) => do_e h w2 (by simp; omega) a2' 7 nmD 0 0 (by decide) A3.out)
  have D4 := Lib.hid (fun (V : World) (p : Nat) (h : PlL F0 w V p (x3 n a1' a2')) => do_e h w3 (by simp; omega) a1' 1 nmD 1 0 (by decide) A4.out)
  have D5 := Lib.hid (fun (V : World) (p : Nat) (h : PlL F0 w V p (x3 n a1' a2')) => do_e h w3 (by simp; omega) a2' 5 .empty 0 1 (by decide) A5.out)
  have U3 : Hid (∀ (V : World) (p : Nat) (h : PlL F0 w V p (x3 n a1' a2')), Calls Tryz.prog 18 #[.pointer (some ⟨p, 0, none⟩)] V fun e w' => e = .returned (.int .i64 ((n : Int) + 2500)) ∧ w' = V) := Lib.hid (fun V p h => by
    have := used_l h w3.P
    rw [show (x3 n a1' a2').P.used = n + 2500 from used2 h0.2 h1 h2] at this
    exact this)
  have U5 : Hid (∀ (V : World) (p : Nat) (h : PlL F0 w V p (x5 n a1' a2')), Calls Tryz.prog 18 #[.pointer (some ⟨p, 0, none⟩)] V fun e w' => e = .returned (.int .i64 0) ∧ w' = V) := Lib.hid (fun V p h => by
    have := used_l h w5.P
    rw [show (x5 n a1' a2').P.used = 0 from (used5 h0.2 h1 h2).1] at this
    exact this)
  have O5 : Hid (∀ (V : World) (p : Nat) (h : PlL F0 w V p (x5 n a1' a2')), Calls Tryz.prog 23 #[.pointer (some ⟨p, 0, none⟩), .int .i64 a1'] V fun e w' => e = .returned (.int .i64 0) ∧ w' = V) := Lib.hid (fun V p h => by
    have := of_l h a1'
    rw [show (x5 n a1' a2').P.of a1' = 0 from (used5 h0.2 h1 h2).2] at this
    exact this)
  have O1 : Hid (∀ (V : World) (p : Nat) (h : PlL F0 w V p (x1 n a1')), Calls Tryz.prog 23 #[.pointer (some ⟨p, 0, none⟩), .int .i64 a1'] V fun e w' => e = .returned (.int .i64 (n : Nat)) ∧ w' = V) := Lib.hid (fun V p h => by
    have := of_l h a1'
    rw [show (x1 n a1').P.of a1' = n from of1 h0.2 h1] at this
    exact this)
  have hn : n ≤ 1000 := h0.2
  have p0 : ¬ (n : Int) < 1 := by omega
  have p1 : ¬ (1000 : Int) < (n : Int) := by omega
  have p2 : ¬ a1' < 0 := by omega
  have p3 : ¬ 3 < a1' := by omega
  have p4 : ¬ a2' < 0 := by omega
  have p5 : ¬ 3 < a2' := by omega
  have hw1 : IntKind.i64.wrap ((n : Int) + 2500) = (n : Int) + 2500 := by rw [IntKind.wrap_i64]; omega
  clear wf0 w1 w2 w3 w5 A2 A3 A4 A5 h0 h1 h2
  go_enter Tryz.func9, Tryz.ntmps9
  go_wp2_with fail
  refine C1.out.mono ?_
  rintro e W0 ⟨p, rfl, z0⟩
  have Z0 := Lib.hid z0
  have HO := Lib.hid (Sh.lit_own W0 [77, 68, 73, 67] #[.int .u8 77, .int .u8 68, .int .u8 73, .int .u8 67] rfl (4, 5) (.inr (Nat.le_refl _)) 4 rfl (by decide))
  have hcv0 := Lib.run_convert_bytes_const (P := Tryz.prog) W0 23 5 #[.int .u8 77, .int .u8 68, .int .u8 73, .int .u8 67] 4 4 Tryz.underlying23 Tryz.underlying5
  have hcv : (convert 23 23 (.slice (some ⟨W0.heap.size, 0, none⟩) 4 4)).run Tryz.prog (W0.alloc (.cells #[.int .u8 77, .int .u8 68, .int .u8 73, .int .u8 67] 5)) = .ok (.slice (some ⟨W0.heap.size, 0, none⟩) 4 4) (W0.alloc (.cells #[.int .u8 77, .int .u8 68, .int .u8 73, .int .u8 67] 5 (4, 5))) := hcv0
  clear hcv0
  clear z0 C1
  go_wp2_with (at_builtin; go_must (refine wpList_appzG _ rfl _ _ 23 3 rfl 5 i0 (.int .u8 0) .i64 1 1 Tryz.underlying23 Tryz.underlying3 hi0 hz0 hz1 hz2 rfl (by decide) (by decide) zero_one (.slice (some ⟨W0.heap.size, 0, none⟩) 4 4) 4 _ rfl HO.out .i64 n rfl (by omega) ?_; intro v' X2 g1 g2 g3 g4 g5; obtain ⟨b1, d1, rfl⟩ := g1.form; have G1 := Lib.hid g1; have G2 := Lib.hid g2; have G3 := Lib.hid g3; clear g1 g2 g3 g4 g5))
  clear hcv
  have s0 : Kp (fun _ => False) W0 X2 := ((Kp.refl (fun _ => False) W0).alloc (.cells #[.int .u8 77, .int .u8 68, .int .u8 73, .int .u8 67] 5 (4, 5))).trans2 G2.out (fun i hi q => by have := own_b q; omega)
  have hsz : W0.heap.size < X2.heap.size := by have := G2.out.size; simp at this; omega
  have g1 := G1.out.sl
  rw [dat_cells, ← x_len] at g1
  have E1 := do_l (Z0.out.since s0) WF0.out (by omega) a1' 6 nmD 0 0 b1 d1 (dat (zs n)) g1 (fun b hb => by
    refine .inl (.inr ?_)
    rw [x_len] at hb
    have l1 := G1.out.lt hb
    rcases G3.out with e | e
    · rw [hb] at e; have := own_b e.symm; exact ⟨by omega, l1⟩
    · rw [hb] at e; simp at e; exact ⟨by omega, l1⟩) (by decide) (by rw [x_len]; omega)
  rw [A1.out, x_len] at E1
  have E1 := Lib.hid E1
  clear s0 hsz g1
  refine E1.out.mono ?_
  rintro e W1 ⟨ra, rc, rfl, _, z1, _⟩
  have z1 : PlL F0 w W1 p (x1 n a1') := z1.less (fun k q => q.elim)
  have E2 := Lib.hid (O1.out W1 p z1)
  have E3 := Lib.hid (D2.out W1 p z1)
  clear z1 E1 D2 O1
  go_wp2_with fail
  refine E2.out.mono ?_
  rintro e W2 ⟨rfl, rfl⟩
  go_wp2_with fail
  refine E3.out.mono ?_
  rintro e W3 ⟨r3, s3, rfl, z3⟩
  have E4 := Lib.hid (D3.out W3 p z3)
  clear z3 E3 E2 D3
  go_wp2_with fail
  refine E4.out.mono ?_
  rintro e W4 ⟨r4, s4, rfl, z4⟩
  have E5 := Lib.hid (U3.out W4 p z4)
  have E6 := Lib.hid (D4.out W4 p z4)
  clear z4 E4 D4 U3
  go_wp2_with fail
  refine E5.out.mono ?_
  rintro e W5 ⟨rfl, rfl⟩
  go_wp2_with fail
  refine E6.out.mono ?_
  rintro e W6 ⟨r6, s6, rfl, z6⟩
  have E7 := Lib.hid (D5.out W6 p z6)
  clear z6 E6 E5 D5
  go_wp2_with fail
  refine E7.out.mono ?_
  rintro e W7 ⟨r7, s7, rfl, z7⟩
  have E8 := Lib.hid (U5.out W7 p z7)
  have E9 := Lib.hid (O5.out W7 p z7)
  have K := Lib.hid z7.kp
  have KN := Lib.hid (known12_l W7)
  clear z7 E7 U5 O5
  go_wp2_with fail
  refine E8.out.mono ?_
  rintro e W8 ⟨rfl, rfl⟩
  go_wp2_with fail
  refine E9.out.mono ?_
  rintro e W9 ⟨rfl, rfl⟩
  go_wp2_with fail
  refine KN.out.mono ?_
  rintro e WA ⟨rfl, k6⟩
  have K6 := Lib.hid (K.out.trans k6)
  clear k6
  go_wp2_with fail
  go_ret
  exact ⟨rfl, K6.out.below⟩
set_option maxRecDepth 100000 in
set_option maxHeartbeats 2000000 in
theorem walk (a0 : Int) (_ : (Lit.int .i64 a0).wf = true) (a1' : Int) (_ : (Lit.int .i64 a1').wf = true) (a2' : Int) (_ : (Lit.int .i64 a2').wf = true) (w : World) :
    Calls Tryz.prog 9 #[.int .i64 a0, .int .i64 a1', .int .i64 a2'] w (LawPost w) := by
  by_cases h : (1 ≤ a0 ∧ a0 ≤ 1000) ∧ (0 ≤ a1' ∧ a1' < 4) ∧ 0 ≤ a2' ∧ a2' < 4
  · obtain ⟨n, rfl⟩ : ∃ n : Nat, a0 = n := ⟨a0.toNat, by omega⟩
    exact full w a1' a2' n (by omega) h.2.1 h.2.2
  · have hc : (a0 < 1) ∨ (¬ a0 < 1 ∧ 1000 < a0) ∨ (¬ a0 < 1 ∧ ¬ 1000 < a0 ∧ a1' < 0) ∨ (¬ a0 < 1 ∧ ¬ 1000 < a0 ∧ ¬ a1' < 0 ∧ 3 < a1') ∨ (¬ a0 < 1 ∧ ¬ 1000 < a0 ∧ ¬ a1' < 0 ∧ ¬ 3 < a1' ∧ a2' < 0) ∨ (¬ a0 < 1 ∧ ¬ 1000 < a0 ∧ ¬ a1' < 0 ∧ ¬ 3 < a1' ∧ ¬ a2' < 0 ∧ 3 < a2') := by omega
    clear h
    rcases hc with q | ⟨q0, q⟩ | ⟨q0, q1, q⟩ | ⟨q0, q1, q2, q⟩ | ⟨q0, q1, q2, q3, q⟩ | ⟨q0, q1, q2, q3, q4, q⟩
    all_goals
      go_enter Tryz.func9, Tryz.ntmps9
      go_wp2_with fail
      go_ret
      exact ⟨rfl, (Kp.refl (fun _ => False) w).below⟩
end Go.Proofs.YtmioiaeiflbmhaaGreat.planLoads
