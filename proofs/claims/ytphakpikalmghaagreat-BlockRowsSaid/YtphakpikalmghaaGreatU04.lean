/- The program's Writer: Bytes. Rows of one's own, all beyond a bound: what an append makes of them. Of no program. The bytes of bits. fse, in plain words: shares, states, the bits of symbols. -/
import Derived.Lib.ItoaNum
import Derived.Test.YtphakpikalmghaaGreatU03
import Derived.Test.YtphakpikalmghaaGreatU01
namespace Go.Proofs.YtphakpikalmghaaGreat.Bw
open Go Go.RowKit Go.ChangeMaps Go.MapKept Go.Mg Go.Hf Go.Sort Go.Proofs.YtphakpikalmghaaGreat.Hu
set_option maxRecDepth 100000 in
set_option maxHeartbeats 2000000 in
theorem bytes_p {F : Nat → Prop} {w : World} {p : Nat} {a : Option Addr} {c : Nat} {B : List Bool} (h : WrAt 101 F w p a c B) (hB : B.length ≤ 100000) :
    Calls Tryz.prog 47 #[.pointer (some ⟨p, 0, none⟩)] w (BytesPost w B) := by
  obtain ⟨n, hn⟩ : ∃ n, n = B.length := ⟨_, rfl⟩
  obtain ⟨m, hm⟩ : ∃ m, m = n / 8 + 1 := ⟨_, rfl⟩
  have hmi : ((n : Int) / 8 + 1) = (m : Int) := by omega
  obtain ⟨cur, hcur, hmk⟩ := make_u8 w m (by omega)
  have U0 : Hid (UAt (w.alloc (.cells cur 5)) w.heap.size m (pk (fun i => B[i]?.getD false) 0)) := Lib.hid (UAt.made hcur)
  have K0 : Hid (Kp (fun _ => False) w (w.alloc (.cells cur 5))) := Lib.hid ((Kp.refl _ _).alloc _)
  have d0 := h.cell
  have HB := Lib.hid (fun h0 => own_bit h.own h0)
  unfold BytesPost
  rw [← hn] at HB hB d0 ⊢
  rw [← hm]
  obtain ⟨bt, hbt⟩ : ∃ bt : Nat → Bool, bt = fun i => B[i]?.getD false := ⟨_, rfl⟩
  have HBT := Lib.hid hbt
  rw [← hbt] at U0 ⊢
  have hps : p < w.heap.size := lt_of_at h.hp
  have HNN := Lib.hid hn
  have HMM := Lib.hid hm
  have hm1 : n < 8 * m := by omega
  have hm2 : m ≤ 12501 := by omega
  clear hcur h hbt hn hm
  go_enter Tryz.func47, Tryz.ntmps47
  go_wp2_with fail
  generalize hW : w.alloc (.cells cur 5) = W at U0 K0 ⊢
  clear hmk hW
  go_loopw [21] (fun i wr => ∃ k : Nat, k ≤ n ∧ i = .int .i64 k ∧ UAt wr w.heap.size m (pk bt k) ∧ Kp (fun _ => False) w wr) (fun i _ => n - (intOf i).toNat)
  case atStart => exact ⟨0, Nat.zero_le _, rfl, U0.out, K0.out⟩
  case round =>
    clear U0 K0
    obtain ⟨k, hk, rfl, hu, hkp⟩ := hrel
    have d1 := (hkp.cell (p := ⟨p, 0, none⟩) hps (fun q => q)).trans d0
    have HK := Lib.hid hkp
    have HU := Lib.hid hu
    by_cases hkn : k < n
    · obtain ⟨gb, rfl, hgb, hcap, hbit⟩ := HB.out (by omega)
      have d2 := (hkp.cell (p := ⟨gb, k, none⟩) hgb (fun q => q)).trans (hbit k hkn)
      rw [show B[k]?.getD false = bt k by rw [HBT.out]] at d2
      have hk8 : k / 8 < m := by omega
      have f1 := hu.cell hk8
      have f2 : wr.frozen? ⟨w.heap.size, k / 8, none⟩ = false := free_of hu (k / 8)
      have hlt := pk_lt bt k (k / 8)
      have HSET := Lib.hid (UAt.set (w := wr.drew) hu hk8 (pk bt k (k / 8) ||| 2 ^ (k % 8)))
      obtain ⟨x, hx⟩ : ∃ x, x = pk bt k (k / 8) := ⟨_, rfl⟩
      rw [← hx] at f1 hlt HSET
      have HX := Lib.hid hx
      have E1 := Lib.hid (or_val x k hlt)
      obtain ⟨tb, htb⟩ : ∃ tb, tb = bt k := ⟨_, rfl⟩
      rw [← htb] at d2
      have HTB := Lib.hid htb
      clear hu hkp hbit hx htb
      cases tb with
      | true =>
        go_wp2_with fail
        have q1 : IntKind.i64.wrap ((k : Int) / 8) = (k : Int) / 8 := by rw [IntKind.wrap_i64]; omega
        have q2 : 0 ≤ (k : Int) / 8 := by omega
        have q3 : (k : Int) / 8 < (m : Int) := by omega
        have q4 : ((k : Int) / 8).toNat = k / 8 := by omega
        have q5 : (k : Int).tmod 8 = (k : Int) % 8 := Int.tmod_eq_emod_of_nonneg (by omega)
        have q6 : 0 ≤ (k : Int) % 8 := by omega
        have q7 : (k : Int) % 8 ≤ 8 := by omega
        have q8 : ((k : Int) % 8).toNat = k % 8 := by omega
        go_region_law (fail)
        all_goals
          go_wp2_with fail
          refine ⟨⟨k + 1, by omega, by go_num, ?_, ?_⟩, by simp [intOf]; omega⟩
          · rw [E1.out, ← pk_set bt k x HX.out HTB.out.symm]
            exact HSET.out
          · exact HK.out.drew.setCell (p := ⟨w.heap.size, k / 8, none⟩) (fun q => by simp only at q; omega) _
      | false =>
        go_wp2_with fail
        refine ⟨⟨k + 1, by omega, by go_num, ?_, HK.out⟩, by simp [intOf]; omega⟩
        rw [← pk_skip bt k HTB.out.symm]
        exact HU.out
    · obtain rfl : k = n := by omega
      have hk8 : k / 8 < m := by have := HMM.out; omega
      have f1 := hu.cell hk8
      have f2 : wr.frozen? ⟨w.heap.size, k / 8, none⟩ = false := free_of hu (k / 8)
      have hlt := pk_lt bt k (k / 8)
      have HSET := Lib.hid (UAt.set (w := wr.drew) hu hk8 (pk bt k (k / 8) ||| 2 ^ (k % 8)))
      obtain ⟨x, hx⟩ : ∃ x, x = pk bt k (k / 8) := ⟨_, rfl⟩
      rw [← hx] at f1 hlt HSET
      have HX := Lib.hid hx
      have E1 := Lib.hid (or_val x k hlt)
      clear hu hkp hx d0
      go_wp2_with fail
      have q1 : IntKind.i64.wrap ((k : Int) / 8) = (k : Int) / 8 := by rw [IntKind.wrap_i64]; omega
      have q2 : 0 ≤ (k : Int) / 8 := by omega
      have q3 : (k : Int) / 8 < (m : Int) := by omega
      have q4 : ((k : Int) / 8).toNat = k / 8 := by omega
      have q5 : (k : Int).tmod 8 = (k : Int) % 8 := Int.tmod_eq_emod_of_nonneg (by omega)
      have q6 : 0 ≤ (k : Int) % 8 := by omega
      have q7 : (k : Int) % 8 ≤ 8 := by omega
      have q8 : ((k : Int) % 8).toNat = k % 8 := by omega
      go_region_law (fail)
      all_goals
        go_wp2_with fail
        go_ret
        refine ⟨w.heap.size, rfl, Nat.le_refl _, ?_, ?_⟩
        · first
            | rw [E1.out, ← fin_set bt k x HX.out]
            | rw [IntKind.wrap_u8, E1.out, ← fin_set bt k x HX.out]
          exact HSET.out
        · first
            | exact HK.out.drew.setCell (p := ⟨w.heap.size, k / 8, none⟩) (fun q => by simp only at q; omega) _
            | exact (HK.out.setCell (p := ⟨w.heap.size, k / 8, none⟩) (fun q => by simp only at q; omega) _).drew
end Go.Proofs.YtphakpikalmghaaGreat.Bw
namespace Go.Mg
open Go Go.RowKit Go.ChangeMaps Go.MapKept

/-- A row of one's own whose elements have one cell each, all of it beyond B. -/
def RowM {α : Type} (e : TypeId) (enc : α → Value) (B : Nat) (w : World) (v : Value) (l : List α) : Prop := ∃ a c, v = .slice a l.length c ∧ OwnR w e 1 v l.length (l.map enc) ∧ ∀ k, v.ownBlock = some k → B ≤ k
/-- .. have several cells each. -/
def RowG {α : Type} (e : TypeId) (size : Nat) (enc : α → List Value) (B : Nat) (w : World) (v : Value) (l : List α) : Prop := ∃ a c, v = .slice a l.length c ∧ OwnR w e size v l.length (l.flatMap enc) ∧ ∀ k, v.ownBlock = some k → B ≤ k
variable {α : Type} {e : TypeId} {size B : Nat} {w w' : World} {v : Value}
theorem RowM.nil {enc : α → Value} (e : TypeId) (B : Nat) (w : World) : RowM e enc B w (.slice none 0 0) [] := ⟨none, 0, rfl, OwnR.nil _ _ _, fun k h => by cases h⟩
theorem RowG.nil {enc : α → List Value} (e : TypeId) (size B : Nat) (w : World) : RowG e size enc B w (.slice none 0 0) [] := ⟨none, 0, rfl, OwnR.nil _ _ _, fun k h => by cases h⟩
theorem RowM.kp {enc : α → Value} {l : List α} {F : Nat → Prop} (h : RowM e enc B w v l) (hk : Kp F w w') (hF : ∀ k, F k → k < B) : RowM e enc B w' v l := by
  obtain ⟨a, c, q, h1, h2⟩ := h
  exact ⟨a, c, q, h1.kp hk (fun k q r => by have := h2 k q; have := hF k r; omega), h2⟩
theorem RowG.kp {enc : α → List Value} {l : List α} {F : Nat → Prop} (h : RowG e size enc B w v l) (hk : Kp F w w') (hF : ∀ k, F k → k < B) : RowG e size enc B w' v l := by
  obtain ⟨a, c, q, h1, h2⟩ := h
  exact ⟨a, c, q, h1.kp hk (fun k q r => by have := h2 k q; have := hF k r; omega), h2⟩
theorem RowM.kp0 {enc : α → Value} {l : List α} (h : RowM e enc B w v l) (hk : Kp (fun _ => False) w w') : RowM e enc B w' v l := h.kp hk (fun _ q => q.elim)
theorem RowG.kp0 {enc : α → List Value} {l : List α} (h : RowG e size enc B w v l) (hk : Kp (fun _ => False) w w') : RowG e size enc B w' v l := h.kp hk (fun _ q => q.elim)
theorem RowM.low {enc : α → Value} {l : List α} {B' : Nat} (h : RowM e enc B w v l) (hb : B' ≤ B) : RowM e enc B' w v l := by
  obtain ⟨a, c, q, h1, h2⟩ := h
  exact ⟨a, c, q, h1, fun k q => by have := h2 k q; omega⟩
theorem RowG.low {enc : α → List Value} {l : List α} {B' : Nat} (h : RowG e size enc B w v l) (hb : B' ≤ B) : RowG e size enc B' w v l := by
  obtain ⟨a, c, q, h1, h2⟩ := h
  exact ⟨a, c, q, h1, fun k q => by have := h2 k q; omega⟩
theorem RowM.lt {enc : α → Value} {l : List α} (h : RowM e enc B w v l) {k : Nat} (hk : v.ownBlock = some k) : B ≤ k ∧ k < w.heap.size := by
  obtain ⟨_, _, _, ho, hb⟩ := h
  exact ⟨hb k hk, ho.lt hk⟩
theorem RowG.lt {enc : α → List Value} {l : List α} (h : RowG e size enc B w v l) {k : Nat} (hk : v.ownBlock = some k) : B ≤ k ∧ k < w.heap.size := by
  obtain ⟨_, _, _, ho, hb⟩ := h
  exact ⟨hb k hk, ho.lt hk⟩
theorem RowM.sl {enc : α → Value} {l : List α} {a : Option Addr} {n c : Nat} (h : RowM e enc B w (.slice a n c) l) : SlR w 1 (.slice a l.length c) l.length (l.map enc) ∧ n = l.length := by
  obtain ⟨a', c', q, h1, h2⟩ := h
  simp only [Value.slice.injEq] at q
  obtain ⟨rfl, rfl, rfl⟩ := q
  exact ⟨h1.sl, rfl⟩
theorem RowG.sl {enc : α → List Value} {l : List α} {a : Option Addr} {n c : Nat} (h : RowG e size enc B w (.slice a n c) l) : SlR w size (.slice a l.length c) l.length (l.flatMap enc) ∧ n = l.length := by
  obtain ⟨a', c', q, h1, h2⟩ := h
  simp only [Value.slice.injEq] at q
  obtain ⟨rfl, rfl, rfl⟩ := q
  exact ⟨h1.sl, rfl⟩
/-- What an append leaves. -/
theorem RowM.app {enc : α → Value} {wr w2 w5 : World} {a : Option Addr} {n c : Nat} {l r : List α} (hw : Kp (fun _ => False) w wr) (h2 : Kp (fun _ => False) wr w2) (hn : l.length = n) (ho : ∀ k, (Value.slice a n c).ownBlock = some k → w.heap.size ≤ k)
    {a' : Option Addr} {m c' : Nat} (hm : l.length + r.length = m) (g1 : OwnR w5 e 1 (.slice a' m c') m (l.map enc ++ r.map enc)) (g2 : Kp (fun k => (Value.slice a n c).ownBlock = some k) w2 w5)
    (g3 : (Value.slice a' m c').ownBlock = (Value.slice a n c).ownBlock ∨ (Value.slice a' m c').ownBlock = some w2.heap.size) :
    RowM e enc w.heap.size w5 (.slice a' m c') (l ++ r) ∧ Kp (fun _ => False) w w5 := by
  subst hn
  subst hm
  refine ⟨⟨a', c', by simp, by rw [List.length_append, List.map_append]; exact g1, fun k hk => ?_⟩, (hw.trans h2).trans2 g2 (fun i hi q => by have := ho i q; omega)⟩
  rcases g3 with q | q
  · exact ho k (q.symm.trans hk)
  · rw [hk] at q
    cases q
    have := hw.size; have := h2.size; omega
theorem RowG.app {enc : α → List Value} {wr w2 w5 : World} {a : Option Addr} {n c : Nat} {l r : List α} (hw : Kp (fun _ => False) w wr) (h2 : Kp (fun _ => False) wr w2) (hn : l.length = n) (ho : ∀ k, (Value.slice a n c).ownBlock = some k → w.heap.size ≤ k)
    {a' : Option Addr} {m c' : Nat} (hm : l.length + r.length = m) (g1 : OwnR w5 e size (.slice a' m c') m (l.flatMap enc ++ r.flatMap enc)) (g2 : Kp (fun k => (Value.slice a n c).ownBlock = some k) w2 w5)
    (g3 : (Value.slice a' m c').ownBlock = (Value.slice a n c).ownBlock ∨ (Value.slice a' m c').ownBlock = some w2.heap.size) :
    RowG e size enc w.heap.size w5 (.slice a' m c') (l ++ r) ∧ Kp (fun _ => False) w w5 := by
  subst hn
  subst hm
  refine ⟨⟨a', c', by simp, by rw [List.length_append, List.flatMap_append]; exact g1, fun k hk => ?_⟩, (hw.trans h2).trans2 g2 (fun i hi q => by have := ho i q; omega)⟩
  rcases g3 with q | q
  · exact ho k (q.symm.trans hk)
  · rw [hk] at q
    cases q
    have := hw.size; have := h2.size; omega
/-- A block that was just laid, as a slice of one element. -/
theorem lit_g (w : World) (e : TypeId) (cs : List Value) (hc : cs.length = size) : SlR (w.alloc (.cells cs.toArray e)) size (.slice (some ⟨w.heap.size, 0, none⟩) 1 1) 1 cs := by
  refine ⟨by simp [hc], _, _, rfl, Nat.le_refl _, by unfold maxLen; omega, (fun h => by cases h), fun _ => ⟨w.heap.size, 0, rfl, by simp, fun i u hu => ?_⟩⟩
  rw [Nat.zero_add, cell_of (alloc_at w _)]
  simpa using hu
/-- .. of several elements of a cell each. -/
theorem lit_m (w : World) (e : TypeId) (cs : List Value) {n : Nat} (hn : cs.length = n) (hc : n ≤ 1000) : SlR (w.alloc (.cells cs.toArray e)) 1 (.slice (some ⟨w.heap.size, 0, none⟩) n n) n cs := by
  subst hn
  refine ⟨by simp, _, _, rfl, Nat.le_refl _, by unfold maxLen; omega, (fun h => by cases h), fun _ => ⟨w.heap.size, 0, rfl, by simp, fun i u hu => ?_⟩⟩
  rw [Nat.zero_add, cell_of (alloc_at w _)]
  simpa using hu
theorem own_m (w : World) (e : TypeId) (cs : List Value) {n : Nat} (hn : cs.length = n) (hc : n ≤ 1000) : OwnR (w.alloc (.cells cs.toArray e)) e 1 (.slice (some ⟨w.heap.size, 0, none⟩) n n) n cs := by
  subst hn
  exact ⟨by simp, .inr ⟨w.heap.size, _, cs.toArray, (0, 0), rfl, alloc_at w _, .inl rfl, Nat.le_refl _, by unfold maxLen; omega, by simp, by simp⟩⟩
theorem kp_alloc (w : World) (o : Obj) : Kp (fun _ => False) w (w.alloc o) := (Kp.refl _ _).alloc _
/-- 'append(v, x...)' of such a row. -/
theorem wpList_appM {P : Program} {w0 : World} (w : World) {ops : Array Oper} {rest : List Oper} {o : Oper} {a : Act} {Q : Exit → Act → World → Prop} (hgd : o.guard = none) (s x : Operand) (t : TypeId) (ho : o.op = .call { callee := .builtin .append, args := #[s, x], argTypes := #[t, t] })
    (e : TypeId) (i : TypeInfo) (z : Value) (bytes : Nat) (ht : P.underlying t = some (.slice e)) (hi : P.info? e = some i) (hz : i.zero = some z) (hsize : i.size = 1) (hby : i.bytes = bytes) (hzs : z.cells.size = 1) (hsz : 0 < 1) (hbp : 0 < bytes)
    {enc : α → Value} (h1 : ∀ y, (enc y).oneCell' = true) (v : Value) (l : List α) (hs : a.eval s = v) (hrow : RowM e enc w0.heap.size w v l) (xv : Value) (m : Nat) (r : List α) (hx : a.eval x = xv) (hsl : SlR w 1 xv m (r.map enc)) (hm : r.length = m) (hw : Kp (fun _ => False) w0 w) (n' : Nat) (hn : l.length + m = n') (hbytes : n' * bytes ≤ 140737488355328)
    (h : ∀ a' c' w', RowM e enc w0.heap.size w' (.slice a' n' c') (l ++ r) → Kp (fun _ => False) w0 w' → Kp (fun k => v.ownBlock = some k) w w' → wpList P ops Q rest (a.put o.dst (.slice a' n' c')) w') : wpList P ops Q (o :: rest) a w := by
  have e1 : ∀ u ∈ r.map enc, u.oneCell' = true := by
    intro u hu
    obtain ⟨y, _, rfl⟩ := List.mem_map.1 hu
    exact h1 y
  obtain ⟨av, cv, rfl, hown, hb⟩ := hrow
  exact wpList_app w hgd s x t ho e i z 1 bytes ht hi hz hsize hby hzs hsz hbp _ _ _ hs hown xv m _ hx hsl e1 (by rw [hn]; exact hbytes) (fun v' w' g1 g2 g3 g4 g5 => by
    obtain ⟨b1, d1, rfl⟩ := g1.form
    subst hn
    have G := RowM.app (w := w0) (l := l) (r := r) hw (Kp.refl _ _) rfl hb (by rw [hm]) g1 g2 g3
    exact h _ _ _ G.1 G.2 g2)
/-- .. in a region that draws its order. -/
theorem step_appM {P : Program} {w0 : World} (w : World) {ops : Array Oper} {o : Oper} {a : Act} {Q : Exit → Act → World → Prop} {E : Prop} (hgd : o.guard = none) (s x : Operand) (t : TypeId) (ho : o.op = .call { callee := .builtin .append, args := #[s, x], argTypes := #[t, t] })
    (e : TypeId) (i : TypeInfo) (z : Value) (bytes : Nat) (ht : P.underlying t = some (.slice e)) (hi : P.info? e = some i) (hz : i.zero = some z) (hsize : i.size = 1) (hby : i.bytes = bytes) (hzs : z.cells.size = 1) (hsz : 0 < 1) (hbp : 0 < bytes)
    {enc : α → Value} (h1 : ∀ y, (enc y).oneCell' = true) (v : Value) (l : List α) (hs : a.eval s = v) (hrow : RowM e enc w0.heap.size w v l) (xv : Value) (m : Nat) (r : List α) (hx : a.eval x = xv) (hsl : SlR w 1 xv m (r.map enc)) (hm : r.length = m) (hw : Kp (fun _ => False) w0 w) (n' : Nat) (hn : l.length + m = n') (hbytes : n' * bytes ≤ 140737488355328)
    {K : Act → World → Prop} (h : ∀ a' c' w', RowM e enc w0.heap.size w' (.slice a' n' c') (l ++ r) → Kp (fun _ => False) w0 w' → Kp (fun k => v.ownBlock = some k) w w' → K (a.put o.dst (.slice a' n' c')) w') : if Region.wanted o (yielded ops a.tmps) = true then Oper.wp P o a w K Q else E := by
  have e1 : ∀ u ∈ r.map enc, u.oneCell' = true := by
    intro u hu
    obtain ⟨y, _, rfl⟩ := List.mem_map.1 hu
    exact h1 y
  obtain ⟨av, cv, rfl, hown, hb⟩ := hrow
  exact step_app w hgd s x t ho e i z 1 bytes ht hi hz hsize hby hzs hsz hbp _ _ _ hs hown xv m _ hx hsl e1 (by rw [hn]; exact hbytes) (fun v' w' g1 g2 g3 g4 g5 => by
    obtain ⟨b1, d1, rfl⟩ := g1.form
    subst hn
    have G := RowM.app (w := w0) (l := l) (r := r) hw (Kp.refl _ _) rfl hb (by rw [hm]) g1 g2 g3
    exact h _ _ _ G.1 G.2 g2)
/-- 'append(v, x...)' of such a row. -/
theorem wpList_appG {P : Program} {w0 : World} (w : World) {ops : Array Oper} {rest : List Oper} {o : Oper} {a : Act} {Q : Exit → Act → World → Prop} (hgd : o.guard = none) (s x : Operand) (t : TypeId) (ho : o.op = .call { callee := .builtin .append, args := #[s, x], argTypes := #[t, t] })
    (e : TypeId) (i : TypeInfo) (z : Value) (size bytes : Nat) (ht : P.underlying t = some (.slice e)) (hi : P.info? e = some i) (hz : i.zero = some z) (hsize : i.size = size) (hby : i.bytes = bytes) (hzs : z.cells.size = size) (hsz : 0 < size) (hbp : 0 < bytes)
    {enc : α → List Value} (h1 : ∀ y, ∀ u ∈ enc y, u.oneCell' = true) (v : Value) (l : List α) (hs : a.eval s = v) (hrow : RowG e size enc w0.heap.size w v l) (xv : Value) (m : Nat) (r : List α) (hx : a.eval x = xv) (hsl : SlR w size xv m (r.flatMap enc)) (hm : r.length = m) (hw : Kp (fun _ => False) w0 w) (n' : Nat) (hn : l.length + m = n') (hbytes : n' * bytes ≤ 140737488355328)
    (h : ∀ a' c' w', RowG e size enc w0.heap.size w' (.slice a' n' c') (l ++ r) → Kp (fun _ => False) w0 w' → Kp (fun k => v.ownBlock = some k) w w' → wpList P ops Q rest (a.put o.dst (.slice a' n' c')) w') : wpList P ops Q (o :: rest) a w := by
  have e1 : ∀ u ∈ r.flatMap enc, u.oneCell' = true := by
    intro u hu
    obtain ⟨y, _, hy⟩ := List.mem_flatMap.1 hu
    exact h1 y u hy
  obtain ⟨av, cv, rfl, hown, hb⟩ := hrow
  exact wpList_app w hgd s x t ho e i z size bytes ht hi hz hsize hby hzs hsz hbp _ _ _ hs hown xv m _ hx hsl e1 (by rw [hn]; exact hbytes) (fun v' w' g1 g2 g3 g4 g5 => by
    obtain ⟨b1, d1, rfl⟩ := g1.form
    subst hn
    have G := RowG.app (w := w0) (l := l) (r := r) hw (Kp.refl _ _) rfl hb (by rw [hm]) g1 g2 g3
    exact h _ _ _ G.1 G.2 g2)
/-- .. in a region that draws its order. -/
theorem step_appG {P : Program} {w0 : World} (w : World) {ops : Array Oper} {o : Oper} {a : Act} {Q : Exit → Act → World → Prop} {E : Prop} (hgd : o.guard = none) (s x : Operand) (t : TypeId) (ho : o.op = .call { callee := .builtin .append, args := #[s, x], argTypes := #[t, t] })
    (e : TypeId) (i : TypeInfo) (z : Value) (size bytes : Nat) (ht : P.underlying t = some (.slice e)) (hi : P.info? e = some i) (hz : i.zero = some z) (hsize : i.size = size) (hby : i.bytes = bytes) (hzs : z.cells.size = size) (hsz : 0 < size) (hbp : 0 < bytes)
    {enc : α → List Value} (h1 : ∀ y, ∀ u ∈ enc y, u.oneCell' = true) (v : Value) (l : List α) (hs : a.eval s = v) (hrow : RowG e size enc w0.heap.size w v l) (xv : Value) (m : Nat) (r : List α) (hx : a.eval x = xv) (hsl : SlR w size xv m (r.flatMap enc)) (hm : r.length = m) (hw : Kp (fun _ => False) w0 w) (n' : Nat) (hn : l.length + m = n') (hbytes : n' * bytes ≤ 140737488355328)
    {K : Act → World → Prop} (h : ∀ a' c' w', RowG e size enc w0.heap.size w' (.slice a' n' c') (l ++ r) → Kp (fun _ => False) w0 w' → Kp (fun k => v.ownBlock = some k) w w' → K (a.put o.dst (.slice a' n' c')) w') : if Region.wanted o (yielded ops a.tmps) = true then Oper.wp P o a w K Q else E := by
  have e1 : ∀ u ∈ r.flatMap enc, u.oneCell' = true := by
    intro u hu
    obtain ⟨y, _, hy⟩ := List.mem_flatMap.1 hu
    exact h1 y u hy
  obtain ⟨av, cv, rfl, hown, hb⟩ := hrow
  exact step_app w hgd s x t ho e i z size bytes ht hi hz hsize hby hzs hsz hbp _ _ _ hs hown xv m _ hx hsl e1 (by rw [hn]; exact hbytes) (fun v' w' g1 g2 g3 g4 g5 => by
    obtain ⟨b1, d1, rfl⟩ := g1.form
    subst hn
    have G := RowG.app (w := w0) (l := l) (r := r) hw (Kp.refl _ _) rfl hb (by rw [hm]) g1 g2 g3
    exact h _ _ _ G.1 G.2 g2)
/-- 'append(v, x...)' of such a row, whatever the bound. -/
theorem wpList_appBM {P : Program} {B : Nat} (w : World) {ops : Array Oper} {rest : List Oper} {o : Oper} {a : Act} {Q : Exit → Act → World → Prop} (hgd : o.guard = none) (s x : Operand) (t : TypeId) (ho : o.op = .call { callee := .builtin .append, args := #[s, x], argTypes := #[t, t] })
    (e : TypeId) (i : TypeInfo) (z : Value) (bytes : Nat) (ht : P.underlying t = some (.slice e)) (hi : P.info? e = some i) (hz : i.zero = some z) (hsize : i.size = 1) (hby : i.bytes = bytes) (hzs : z.cells.size = 1) (hsz : 0 < 1) (hbp : 0 < bytes)
    {enc : α → Value} (h1 : ∀ y, (enc y).oneCell' = true) (v : Value) (l : List α) (hs : a.eval s = v) (hrow : RowM e enc B w v l) (hB : B ≤ w.heap.size) (xv : Value) (m : Nat) (r : List α) (hx : a.eval x = xv) (hsl : SlR w 1 xv m (r.map enc)) (hm : r.length = m) (n' : Nat) (hn : l.length + m = n') (hbytes : n' * bytes ≤ 140737488355328)
    (h : ∀ a' c' w', RowM e enc B w' (.slice a' n' c') (l ++ r) → Kp (fun k => B ≤ k) w w' → wpList P ops Q rest (a.put o.dst (.slice a' n' c')) w') : wpList P ops Q (o :: rest) a w := by
  have e1 : ∀ u ∈ r.map enc, u.oneCell' = true := by
    intro u hu
    obtain ⟨y, _, rfl⟩ := List.mem_map.1 hu
    exact h1 y
  obtain ⟨av, cv, rfl, hown, hb⟩ := hrow
  exact wpList_app w hgd s x t ho e i z 1 bytes ht hi hz hsize hby hzs hsz hbp _ _ _ hs hown xv m _ hx hsl e1 (by rw [hn]; exact hbytes) (fun v' w' g1 g2 g3 g4 g5 => by
    obtain ⟨b1, d1, rfl⟩ := g1.form
    subst hn
    subst hm
    refine h _ _ _ ⟨b1, d1, by simp, by rw [List.length_append, List.map_append]; exact g1, fun k hk => ?_⟩ (g2.mono (fun k _ q => hb k q))
    rcases g3 with q | q
    · exact hb k (q.symm.trans hk)
    · rw [hk] at q
      cases q
      exact hB)
/-- .. in a region that draws its order. -/
theorem step_appBM {P : Program} {B : Nat} (w : World) {ops : Array Oper} {o : Oper} {a : Act} {Q : Exit → Act → World → Prop} {E : Prop} (hgd : o.guard = none) (s x : Operand) (t : TypeId) (ho : o.op = .call { callee := .builtin .append, args := #[s, x], argTypes := #[t, t] })
    (e : TypeId) (i : TypeInfo) (z : Value) (bytes : Nat) (ht : P.underlying t = some (.slice e)) (hi : P.info? e = some i) (hz : i.zero = some z) (hsize : i.size = 1) (hby : i.bytes = bytes) (hzs : z.cells.size = 1) (hsz : 0 < 1) (hbp : 0 < bytes)
    {enc : α → Value} (h1 : ∀ y, (enc y).oneCell' = true) (v : Value) (l : List α) (hs : a.eval s = v) (hrow : RowM e enc B w v l) (hB : B ≤ w.heap.size) (xv : Value) (m : Nat) (r : List α) (hx : a.eval x = xv) (hsl : SlR w 1 xv m (r.map enc)) (hm : r.length = m) (n' : Nat) (hn : l.length + m = n') (hbytes : n' * bytes ≤ 140737488355328)
    {K : Act → World → Prop} (h : ∀ a' c' w', RowM e enc B w' (.slice a' n' c') (l ++ r) → Kp (fun k => B ≤ k) w w' → K (a.put o.dst (.slice a' n' c')) w') : if Region.wanted o (yielded ops a.tmps) = true then Oper.wp P o a w K Q else E := by
  have e1 : ∀ u ∈ r.map enc, u.oneCell' = true := by
    intro u hu
    obtain ⟨y, _, rfl⟩ := List.mem_map.1 hu
    exact h1 y
  obtain ⟨av, cv, rfl, hown, hb⟩ := hrow
  exact step_app w hgd s x t ho e i z 1 bytes ht hi hz hsize hby hzs hsz hbp _ _ _ hs hown xv m _ hx hsl e1 (by rw [hn]; exact hbytes) (fun v' w' g1 g2 g3 g4 g5 => by
    obtain ⟨b1, d1, rfl⟩ := g1.form
    subst hn
    subst hm
    refine h _ _ _ ⟨b1, d1, by simp, by rw [List.length_append, List.map_append]; exact g1, fun k hk => ?_⟩ (g2.mono (fun k _ q => hb k q))
    rcases g3 with q | q
    · exact hb k (q.symm.trans hk)
    · rw [hk] at q
      cases q
      exact hB)
/-- 'append(v, x...)' of such a row, whatever the bound. -/
theorem wpList_appBG {P : Program} {B : Nat} (w : World) {ops : Array Oper} {rest : List Oper} {o : Oper} {a : Act} {Q : Exit → Act → World → Prop} (hgd : o.guard = none) (s x : Operand) (t : TypeId) (ho : o.op = .call { callee := .builtin .append, args := #[s, x], argTypes := #[t, t] })
    (e : TypeId) (i : TypeInfo) (z : Value) (size bytes : Nat) (ht : P.underlying t = some (.slice e)) (hi : P.info? e = some i) (hz : i.zero = some z) (hsize : i.size = size) (hby : i.bytes = bytes) (hzs : z.cells.size = size) (hsz : 0 < size) (hbp : 0 < bytes)
    {enc : α → List Value} (h1 : ∀ y, ∀ u ∈ enc y, u.oneCell' = true) (v : Value) (l : List α) (hs : a.eval s = v) (hrow : RowG e size enc B w v l) (hB : B ≤ w.heap.size) (xv : Value) (m : Nat) (r : List α) (hx : a.eval x = xv) (hsl : SlR w size xv m (r.flatMap enc)) (hm : r.length = m) (n' : Nat) (hn : l.length + m = n') (hbytes : n' * bytes ≤ 140737488355328)
    (h : ∀ a' c' w', RowG e size enc B w' (.slice a' n' c') (l ++ r) → Kp (fun k => B ≤ k) w w' → wpList P ops Q rest (a.put o.dst (.slice a' n' c')) w') : wpList P ops Q (o :: rest) a w := by
  have e1 : ∀ u ∈ r.flatMap enc, u.oneCell' = true := by
    intro u hu
    obtain ⟨y, _, hy⟩ := List.mem_flatMap.1 hu
    exact h1 y u hy
  obtain ⟨av, cv, rfl, hown, hb⟩ := hrow
  exact wpList_app w hgd s x t ho e i z size bytes ht hi hz hsize hby hzs hsz hbp _ _ _ hs hown xv m _ hx hsl e1 (by rw [hn]; exact hbytes) (fun v' w' g1 g2 g3 g4 g5 => by
    obtain ⟨b1, d1, rfl⟩ := g1.form
    subst hn
    subst hm
    refine h _ _ _ ⟨b1, d1, by simp, by rw [List.length_append, List.flatMap_append]; exact g1, fun k hk => ?_⟩ (g2.mono (fun k _ q => hb k q))
    rcases g3 with q | q
    · exact hb k (q.symm.trans hk)
    · rw [hk] at q
      cases q
      exact hB)
/-- .. in a region that draws its order. -/
theorem step_appBG {P : Program} {B : Nat} (w : World) {ops : Array Oper} {o : Oper} {a : Act} {Q : Exit → Act → World → Prop} {E : Prop} (hgd : o.guard = none) (s x : Operand) (t : TypeId) (ho : o.op = .call { callee := .builtin .append, args := #[s, x], argTypes := #[t, t] })
    (e : TypeId) (i : TypeInfo) (z : Value) (size bytes : Nat) (ht : P.underlying t = some (.slice e)) (hi : P.info? e = some i) (hz : i.zero = some z) (hsize : i.size = size) (hby : i.bytes = bytes) (hzs : z.cells.size = size) (hsz : 0 < size) (hbp : 0 < bytes)
    {enc : α → List Value} (h1 : ∀ y, ∀ u ∈ enc y, u.oneCell' = true) (v : Value) (l : List α) (hs : a.eval s = v) (hrow : RowG e size enc B w v l) (hB : B ≤ w.heap.size) (xv : Value) (m : Nat) (r : List α) (hx : a.eval x = xv) (hsl : SlR w size xv m (r.flatMap enc)) (hm : r.length = m) (n' : Nat) (hn : l.length + m = n') (hbytes : n' * bytes ≤ 140737488355328)
    {K : Act → World → Prop} (h : ∀ a' c' w', RowG e size enc B w' (.slice a' n' c') (l ++ r) → Kp (fun k => B ≤ k) w w' → K (a.put o.dst (.slice a' n' c')) w') : if Region.wanted o (yielded ops a.tmps) = true then Oper.wp P o a w K Q else E := by
  have e1 : ∀ u ∈ r.flatMap enc, u.oneCell' = true := by
    intro u hu
    obtain ⟨y, _, hy⟩ := List.mem_flatMap.1 hu
    exact h1 y u hy
  obtain ⟨av, cv, rfl, hown, hb⟩ := hrow
  exact step_app w hgd s x t ho e i z size bytes ht hi hz hsize hby hzs hsz hbp _ _ _ hs hown xv m _ hx hsl e1 (by rw [hn]; exact hbytes) (fun v' w' g1 g2 g3 g4 g5 => by
    obtain ⟨b1, d1, rfl⟩ := g1.form
    subst hn
    subst hm
    refine h _ _ _ ⟨b1, d1, by simp, by rw [List.length_append, List.flatMap_append]; exact g1, fun k hk => ?_⟩ (g2.mono (fun k _ q => hb k q))
    rcases g3 with q | q
    · exact hb k (q.symm.trans hk)
    · rw [hk] at q
      cases q
      exact hB)
/-- 'v[lo:hi]'. -/
theorem SlR.mid {P : Program} {w : World} {size n cap : Nat} {a : Option Addr} {xs : List Value} (h : SlR w size (.slice a n cap) n xs) {t e : TypeId} (ht : P.underlying t = some (.slice e)) (hi : (P.info? e).map (·.size) = some size) {lo hi' : Nat} (h1 : lo ≤ hi') (h2 : hi' ≤ n) :
    ∃ a' c', (∀ w', (Instr.slice t (.slice a n cap) (some (.int .i64 lo)) (some (.int .i64 hi')) none).run P w' = .ok (.slice a' (hi' - lo) c') w') ∧ SlR w size (.slice a' (hi' - lo) c') (hi' - lo) ((xs.drop (lo * size)).take ((hi' - lo) * size)) ∧
      (∀ b, (Value.slice a' (hi' - lo) c').ownBlock = some b → (Value.slice a n cap).ownBlock = some b) := by
  obtain ⟨a', c', hr, hs, hb⟩ := h.from_ ht hi (show lo ≤ n by omega)
  have hu := (hs.upto ht hi (show hi' - lo ≤ n - lo by omega)).2
  obtain ⟨h0, a0, c0, e0, q1, q2, q3, q4⟩ := h
  simp only [Value.slice.injEq, true_and] at e0
  obtain ⟨rfl, rfl⟩ := e0
  have he : P.elem t = e := by have := elem_of ht; rw [ht] at this; simp at this; exact this.symm
  refine ⟨a', c', fun w' => ?_, hu, fun b hbb => hb b (by cases a' <;> exact hbb)⟩
  have r1 := hr w'
  rw [run_slice_l (P := P) w' t a n cap (elem_of ht) .i64 (lo : Int) (by omega) (by omega), he, sizeOf_run hi] at r1
  rw [run_slice_lh (P := P) w' t a n cap (elem_of ht) .i64 .i64 (lo : Int) (hi' : Int) (by omega) (by omega) (by omega), he, sizeOf_run hi]
  simp only [Result.andThen, sliced, Result.ok.injEq, Value.slice.injEq, and_true, Int.toNat_natCast] at r1 ⊢
  exact ⟨r1.1, trivial, r1.2.2⟩
end Go.Mg
namespace Go.Proofs.YtphakpikalmghaaGreat.He
open Go Go.RowKit Go.ChangeMaps Go.MapKept Go.Mg Go.Hf Go.Sort Go.Proofs.YtphakpikalmghaaGreat.Hu Go.Proofs.YtphakpikalmghaaGreat.Bw

/-- The bytes that a Writer of the bits B gives. -/
def pack (B : List Bool) : List UInt8 := (List.range (B.length / 8 + 1)).map fun i => UInt8.ofNat (fin (fun i => B[i]?.getD false) B.length i)
theorem pack_len (B : List Bool) : (pack B).length = B.length / 8 + 1 := by simp [pack]
theorem pack_sl {w : World} {g : Nat} {B : List Bool} (h : UAt w g (B.length / 8 + 1) (fin (fun i => B[i]?.getD false) B.length)) (hB : B.length ≤ 100000) :
    SlR w 1 (.slice (some ⟨g, 0, none⟩) (B.length / 8 + 1) (B.length / 8 + 1)) (pack B).length ((pack B).map u8c) := by
  have := h.sl (by omega)
  rw [pack_len]
  have e : (pack B).map u8c = (List.range (B.length / 8 + 1)).map fun i => Value.int .u8 (fin (fun i => B[i]?.getD false) B.length i : Nat) := by
    unfold pack
    rw [List.map_map]
    apply List.map_congr_left
    intro i _
    have := fin_lt (fun i => B[i]?.getD false) B.length i
    simp only [Function.comp, u8c]
    congr 1
    rw [UInt8.toNat_ofNat']
    omega
  rw [e]
  exact this
theorem pack_row {w : World} {g : Nat} {B : List Bool} (h : UAt w g (B.length / 8 + 1) (fin (fun i => B[i]?.getD false) B.length)) (hB : B.length ≤ 100000) :
    RowM 5 u8c g w (.slice (some ⟨g, 0, none⟩) (pack B).length (pack B).length) (pack B) := by
  have hl := pack_len B
  have e : (pack B).map u8c = (List.range (B.length / 8 + 1)).map fun i => Value.int .u8 (fin (fun i => B[i]?.getD false) B.length i : Nat) := by
    unfold pack
    rw [List.map_map]
    apply List.map_congr_left
    intro i _
    have := fin_lt (fun i => B[i]?.getD false) B.length i
    simp only [Function.comp, u8c]
    congr 1
    rw [UInt8.toNat_ofNat']
    omega
  refine ⟨_, _, rfl, ⟨by simp, .inr ⟨g, (pack B).length, _, (0, 0), rfl, h, .inl rfl, Nat.le_refl _, by unfold maxLen; omega, ?_, ?_⟩⟩, fun k hk => Nat.le_of_eq (own_b hk).symm⟩
  · simp [hl]
  · rw [e]
    simp only [Nat.mul_one]
    rw [List.take_of_length_le (by simp [hl])]
end Go.Proofs.YtphakpikalmghaaGreat.He
namespace Go.Fse
/-- The sum of the first n. -/
def sm (f : Nat → Nat) : Nat → Nat
  | 0 => 0
  | n + 1 => sm f n + f n
theorem sm_mono (f : Nat → Nat) {m n : Nat} (h : m ≤ n) : sm f m ≤ sm f n := by
  induction n with
  | zero => have : m = 0 := by omega
            subst this; exact Nat.le_refl _
  | succ n ih =>
    by_cases e : m = n + 1
    · subst e; exact Nat.le_refl _
    · have := ih (by omega); simp only [sm]; omega
theorem sm_le (f : Nat → Nat) {i n : Nat} (h : i < n) : f i ≤ sm f n := by
  have := sm_mono f (show i + 1 ≤ n by omega)
  simp only [sm] at this; omega
theorem sm_bound {f : Nat → Nat} {b : Nat} : ∀ n, (∀ i, i < n → f i ≤ b) → sm f n ≤ n * b
  | 0, _ => by simp [sm]
  | n + 1, h => by
    have := sm_bound n (fun i hi => h i (by omega))
    have := h n (by omega)
    simp only [sm, Nat.add_mul]; omega
theorem sm_congr {f g : Nat → Nat} : ∀ n, (∀ i, i < n → f i = g i) → sm f n = sm g n
  | 0, _ => rfl
  | n + 1, h => by simp only [sm, sm_congr n (fun i hi => h i (by omega)), h n (by omega)]
def up (f : Nat → Nat) (k x : Nat) : Nat → Nat := fun i => if i = k then x else f i
theorem sm_up (f : Nat → Nat) (k x : Nat) : ∀ n, k < n → sm (up f k x) n + f k = sm f n + x
  | 0, h => by omega
  | n + 1, h => by
    by_cases e : k = n
    · subst e
      have := sm_congr (f := up f k x) (g := f) k (fun i hi => by simp [up, show i ≠ k by omega])
      simp only [sm, this, up, if_pos]; omega
    · have := sm_up f k x n (by omega)
      simp only [sm]
      have e2 : up f k x n = f n := by simp [up, show n ≠ k by omega]
      omega
/-- The first of the greatest. -/
def am (f : Nat → Nat) : Nat → Nat
  | 0 => 0
  | n + 1 => if f (am f n) < f n then n else am f n
theorem am_lt (f : Nat → Nat) : ∀ n, 0 < n → am f n < n
  | 0, h => by omega
  | n + 1, _ => by
    simp only [am]
    split
    · omega
    · by_cases h : 0 < n
      · have := am_lt f n h; omega
      · have : n = 0 := by omega
        subst this; simp [am]
theorem am_max (f : Nat → Nat) : ∀ n i, i < n → f i ≤ f (am f n)
  | 0, _, h => by omega
  | n + 1, i, h => by
    simp only [am]
    by_cases e : i = n
    · subst e; split <;> omega
    · have := am_max f n i (by omega)
      split <;> omega
theorem am_first (f : Nat → Nat) : ∀ n i, i < am f n → f i < f (am f n)
  | 0, _, h => by simp [am] at h
  | n + 1, i, h => by
    simp only [am] at h ⊢
    split
    · rename_i q
      rw [if_pos q] at h
      have := am_max f n i h; omega
    · rename_i q
      rw [if_neg q] at h
      exact am_first f n i h
theorem am_of {f : Nat → Nat} {n k : Nat} (hk : k < n) (h1 : ∀ i, i < n → f i ≤ f k) (h2 : ∀ i, i < k → f i < f k) : am f n = k := by
  have a1 := am_max f n k hk
  have a2 := am_lt f n (by omega)
  have a3 := h1 _ a2
  rcases Nat.lt_trichotomy (am f n) k with h | h | h
  · have := h2 _ h; omega
  · exact h
  · have := am_first f n k h; omega
/-- Shares at first. -/
def n0 (c : Nat → Nat) (all : Nat) : Nat → Nat := fun i => if 0 < c i then max 1 (c i * 64 / all) else 0
def stp (N : Nat) (f : Nat → Nat) : Nat → Nat := up f (am f N) (if sm f N < 64 then f (am f N) + 1 else f (am f N) - 1)
def fixN (N : Nat) : Nat → (Nat → Nat) → (Nat → Nat)
  | 0, f => f
  | d + 1, f => fixN N d (stp N f)
def dist (s : Nat) : Nat := if s < 64 then 64 - s else s - 64
def shn (c : Nat → Nat) (N : Nat) : Nat → Nat := fixN N (dist (sm (n0 c (sm c N)) N)) (n0 c (sm c N))
theorem am_pos {f : Nat → Nat} {N : Nat} (h : 0 < sm f N) : 0 < f (am f N) := by
  apply Nat.pos_of_ne_zero
  intro e
  have := sm_bound (f := f) (b := 0) N (fun i hi => by have := am_max f N i hi; omega)
  omega
theorem dist_step {N : Nat} {f : Nat → Nat} (hN : 0 < N) (h : sm f N ≠ 64) : dist (sm f N) = dist (sm (stp N f) N) + 1 := by
  have h1 := sm_up f (am f N) (if sm f N < 64 then f (am f N) + 1 else f (am f N) - 1) N (am_lt f N hN)
  unfold stp dist
  split at h1
  · rename_i q
    rw [if_pos q, if_pos q]
    split <;> omega
  · rename_i q
    have := am_pos (f := f) (N := N) (by omega)
    rw [if_neg q, if_neg q]
    split <;> omega
theorem fixN_step {N : Nat} {f : Nat → Nat} (hN : 0 < N) (h : sm f N ≠ 64) : fixN N (dist (sm f N)) f = fixN N (dist (sm (stp N f) N)) (stp N f) := by
  rw [dist_step hN h]; rfl
theorem fixN_done {N : Nat} {f : Nat → Nat} (h : sm f N = 64) : fixN N (dist (sm f N)) f = f := by
  rw [h]; rfl
theorem fixN_sum {N : Nat} (hN : 0 < N) : ∀ d f, dist (sm f N) = d → sm (fixN N d f) N = 64
  | 0, f, h => by simp only [fixN]; unfold dist at h; split at h <;> omega
  | d + 1, f, h => by
    simp only [fixN]
    refine fixN_sum hN d _ ?_
    have := dist_step (N := N) (f := f) hN (fun e => by rw [e] at h; simp [dist] at h)
    omega
theorem shn_sum {N : Nat} (hN : 0 < N) (c : Nat → Nat) : sm (shn c N) N = 64 := fixN_sum hN _ _ rfl
theorem shn_le {N : Nat} (hN : 0 < N) (c : Nat → Nat) {i : Nat} (hi : i < N) : shn c N i ≤ 64 := by
  have := sm_le (shn c N) hi
  rw [shn_sum hN c] at this; exact this
/-- How great shares may get on the way. -/
theorem stp_le {N : Nat} {f : Nat → Nat} (hN : 0 < N) (h : ∀ i, i < N → f i ≤ 64) : ∀ i, i < N → stp N f i ≤ 64 := by
  intro i hi
  unfold stp up
  split
  · split
    · rename_i q
      have := sm_le f (am_lt f N hN); omega
    · have := h _ (am_lt f N hN); omega
  · exact h i hi
theorem n0_le (c : Nat → Nat) {N : Nat} (i : Nat) (hi : i < N) : n0 c (sm c N) i ≤ 64 := by
  unfold n0
  split
  · have h1 := sm_le c hi
    have : c i * 64 / sm c N ≤ 64 := by
      rw [Nat.mul_comm]
      exact Nat.div_le_of_le_mul (by rw [Nat.mul_comm (sm c N)]; exact Nat.mul_le_mul_left _ h1)
    omega
  · omega

/-! ### States -/
/-- The symbol of the j-th entry, in the symbols' order. -/
def sa (f : Nat → Nat) : Nat → Nat → Nat
  | 0, _ => 0
  | n + 1, j => if sm f n ≤ j then n else sa f n j
theorem sa_of {f : Nat → Nat} {s j : Nat} (h1 : sm f s ≤ j) (h2 : j < sm f (s + 1)) : ∀ N, s < N → sa f N j = s
  | 0, h => by omega
  | N + 1, h => by
    simp only [sa]
    by_cases e : s = N
    · subst e; rw [if_pos h1]
    · have := sm_mono f (show s + 1 ≤ N by omega)
      rw [if_neg (by omega)]
      exact sa_of h1 h2 N (by omega)
theorem sa_spec {f : Nat → Nat} {j : Nat} : ∀ N, j < sm f N → sa f N j < N ∧ sm f (sa f N j) ≤ j ∧ j < sm f (sa f N j + 1)
  | 0, h => by simp [sm] at h
  | N + 1, h => by
    simp only [sa]
    split
    · rename_i q; exact ⟨by omega, q, h⟩
    · have := sa_spec (f := f) (j := j) N (by omega)
      exact ⟨by omega, this.2⟩
theorem sa_share {f : Nat → Nat} {j N : Nat} (h : j < sm f N) : 0 < f (sa f N j) := by
  obtain ⟨_, h1, h2⟩ := sa_spec N h
  simp only [sm] at h2; omega
/-- The symbol of the state u. -/
def sy (f : Nat → Nat) (N u : Nat) : Nat := sa f N (3 * u % 64)
/-- .. when j entries are laid. -/
def syj (f : Nat → Nat) (N j u : Nat) : Nat := if 3 * u % 64 < j then sy f N u else 0
theorem syj_zero (f : Nat → Nat) (N u : Nat) : syj f N 0 u = 0 := by simp [syj]
theorem syj_all (f : Nat → Nat) (N u : Nat) : syj f N 64 u = sy f N u := by
  unfold syj; rw [if_pos (by omega)]
theorem syj_next {f : Nat → Nat} {N s k : Nat} (hs : s < N) (hk : k < f s) (hj : sm f s + k < 64) : ∀ u, u < 64 →
    syj f N (sm f s + k + 1) u = if u = 43 * (sm f s + k) % 64 then s else syj f N (sm f s + k) u := by
  intro u hu
  have e : (3 * u % 64 = sm f s + k) ↔ u = 43 * (sm f s + k) % 64 := by omega
  unfold syj
  by_cases q : u = 43 * (sm f s + k) % 64
  · rw [if_pos q, if_pos (by omega)]
    unfold sy
    rw [e.2 q]
    exact sa_of (by omega) (by simp only [sm]; omega) N hs
  · rw [if_neg q]
    have : 3 * u % 64 ≠ sm f s + k := fun h => q (e.1 h)
    by_cases q2 : 3 * u % 64 < sm f s + k
    · rw [if_pos (by omega), if_pos q2]
    · rw [if_neg (by omega), if_neg q2]
/-- How many of the first u states have a symbol. -/
def ct (t : Nat → Nat) (s : Nat) : Nat → Nat
  | 0 => 0
  | u + 1 => ct t s u + if t u = s then 1 else 0
theorem ct_le (t : Nat → Nat) (s u : Nat) : ct t s u ≤ u := by
  induction u with
  | zero => simp [ct]
  | succ u ih => simp only [ct]; split <;> omega
/-- A state: its symbol, how many bits follow, from where the next counts. -/
structure Ent where
  sym : Nat
  bits : Nat
  base : Nat
def xx (f : Nat → Nat) (N u : Nat) : Nat := f (sy f N u) + ct (sy f N) (sy f N u) u
def ent (f : Nat → Nat) (N u : Nat) : Ent := ⟨sy f N u, 7 - Lib.bitLen (xx f N u), xx f N u * 2 ^ (7 - Lib.bitLen (xx f N u)) - 64⟩
/-- Shares that make a table. -/
def Shares (f : Nat → Nat) (N : Nat) : Prop := sm f N = 64
theorem bitLen_spec {x : Nat} (h : x < 2 ^ 64) (h0 : 0 < x) : 1 ≤ Lib.bitLen x ∧ 2 ^ (Lib.bitLen x - 1) ≤ x ∧ x < 2 ^ Lib.bitLen x := by
  have := Lib.bitLenAux_bounds 64 x h (by omega)
  exact this
theorem xx_rng {f : Nat → Nat} {N u : Nat} (h : Shares f N) (hu : u < 64) : 1 ≤ xx f N u ∧ xx f N u ≤ 127 := by
  have h1 : 3 * u % 64 < sm f N := by rw [h]; omega
  have h2 := sa_share h1
  have h3 := sa_spec N h1
  have h4 := sm_le f h3.1
  have h5 := ct_le (sy f N) (sy f N u) u
  unfold xx sy at *
  rw [h] at h4
  omega
theorem ent_rng {f : Nat → Nat} {N u : Nat} (h : Shares f N) (hu : u < 64) :
    (ent f N u).sym < N ∧ 1 ≤ Lib.bitLen (xx f N u) ∧ Lib.bitLen (xx f N u) ≤ 7 ∧ (ent f N u).bits ≤ 6 ∧ 64 ≤ xx f N u * 2 ^ (7 - Lib.bitLen (xx f N u)) ∧ (ent f N u).base < 64 ∧ xx f N u * 2 ^ (7 - Lib.bitLen (xx f N u)) ≤ 127 := by
  have h1 := xx_rng h hu
  have h2 := bitLen_spec (x := xx f N u) (by omega) (by omega)
  have h3 := Lib.bitLen_le (xx f N u) 7 (by omega) (by omega)
  have h4 : 3 * u % 64 < sm f N := by rw [h]; omega
  have h5 := (sa_spec N h4).1
  have e1 : 2 ^ (Lib.bitLen (xx f N u) - 1) * 2 ^ (7 - Lib.bitLen (xx f N u)) = 2 ^ 6 := by rw [← Nat.pow_add]; congr 1; omega
  have e2 : 2 ^ Lib.bitLen (xx f N u) * 2 ^ (7 - Lib.bitLen (xx f N u)) = 2 ^ 7 := by rw [← Nat.pow_add]; congr 1; omega
  have h6 : 2 ^ 6 ≤ xx f N u * 2 ^ (7 - Lib.bitLen (xx f N u)) := by rw [← e1]; exact Nat.mul_le_mul_right _ h2.2.1
  have h7 : xx f N u * 2 ^ (7 - Lib.bitLen (xx f N u)) < 2 ^ 7 := by
    rw [← e2]; exact Nat.mul_lt_mul_of_pos_right h2.2.2 (Nat.two_pow_pos _)
  refine ⟨h5, h2.1, h3, ?_, by omega, ?_, by omega⟩
  · show 7 - Lib.bitLen (xx f N u) ≤ 6
    omega
  · show xx f N u * 2 ^ (7 - Lib.bitLen (xx f N u)) - 64 < 64
    omega

/-! ### Symbols as bits -/
/-- The first of n that P holds of. -/
def fst (P : Nat → Bool) : Nat → Option Nat
  | 0 => none
  | n + 1 => (fst P n).or (if P n then some n else none)
theorem fst_none {P : Nat → Bool} : ∀ {n}, (∀ i, i < n → P i = false) → fst P n = none
  | 0, _ => rfl
  | n + 1, h => by simp [fst, fst_none (P := P) (n := n) (fun i hi => h i (by omega)), h n (by omega)]
theorem fst_some {P : Nat → Bool} {k : Nat} (h : ∀ i, i < k → P i = false) (hk : P k = true) : ∀ n, k < n → fst P n = some k
  | 0, q => by omega
  | n + 1, q => by
    by_cases e : k = n
    · subst e; simp [fst, fst_none h, hk]
    · simp [fst, fst_some h hk n (by omega)]
theorem fst_spec {P : Nat → Bool} : ∀ {n u}, fst P n = some u → u < n ∧ P u = true
  | 0, _, h => by cases h
  | n + 1, u, h => by
    simp only [fst] at h
    cases hf : fst P n with
    | some v =>
      rw [hf] at h; cases h
      have := fst_spec hf
      exact ⟨by omega, this.2⟩
    | none =>
      rw [hf] at h
      simp only [Option.none_or] at h
      split at h
      · rename_i q; cases h; exact ⟨by omega, q⟩
      · cases h
def hits (t : Nat → Ent) (s n : Nat) (u : Nat) : Bool := decide ((t u).sym = s) && (decide ((t u).base ≤ n) && decide (n < (t u).base + 2 ^ (t u).bits))
def dgs (q n : Nat) : List Bool := (List.range n).map fun i => decide (q / 2 ^ i % 2 = 1)
/-- The bits of the last j of m symbols, the last one's first; the state then. -/
def enc (t : Nat → Ent) (l : Nat → Nat) (m : Nat) : Nat → Option (List Bool × Nat)
  | 0 => some ([], 0)
  | j + 1 => match enc t l m j with
    | none => none
    | some (B, n) => match fst (hits t (l (m - 1 - j)) n) 64 with
      | none => none
      | some u => some (B ++ dgs (n - (t u).base) (t u).bits, u)
theorem enc_lt {t : Nat → Ent} {l : Nat → Nat} {m : Nat} : ∀ {j B n}, enc t l m j = some (B, n) → n < 64
  | 0, _, _, h => by simp [enc] at h; omega
  | j + 1, B, n, h => by
    simp only [enc] at h
    split at h
    · cases h
    · split at h
      · cases h
      · rename_i q; cases h; exact (fst_spec q).1
theorem enc_len {t : Nat → Ent} {l : Nat → Nat} {m : Nat} (ht : ∀ u, u < 64 → (t u).bits ≤ 6) : ∀ {j B n}, enc t l m j = some (B, n) → B.length ≤ 6 * j
  | 0, _, _, h => by simp [enc] at h; simp [h.1]
  | j + 1, B, n, h => by
    simp only [enc] at h
    split at h
    · cases h
    · rename_i B' n' q1
      split at h
      · cases h
      · rename_i q
        cases h
        have := enc_len ht q1
        have := ht n (fst_spec q).1
        simp [dgs]; omega
/-- All bits, or none. -/
def encAll (t : Nat → Ent) (l : Nat → Nat) (m : Nat) : Option (List Bool) := (enc t l m m).map fun x => x.1 ++ dgs x.2 6
theorem enc_stop {t : Nat → Ent} {l : Nat → Nat} {m j : Nat} (h : enc t l m j = none) : ∀ i, j ≤ i → enc t l m i = none
  | 0, hi => by have : j = 0 := by omega
                subst this; exact h
  | i + 1, hi => by
    by_cases e : j = i + 1
    · subst e; exact h
    · simp only [enc, enc_stop h i (by omega)]
end Go.Fse
