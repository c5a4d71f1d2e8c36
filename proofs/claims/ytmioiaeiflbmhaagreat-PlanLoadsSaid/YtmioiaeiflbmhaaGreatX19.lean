/- block: the document's Row of bytes that are all the same. (Printed by gen/mkBkB.py.) block: the program's isRun. The document's Encode. block: the document's Row of bytes that are not all the same. -/
import Derived.Test.YtmioiaeiflbmhaaGreatX18
import Derived.Test.YtmioiaeiflbmhaaGreatX12
import Derived.Test.YtmioiaeiflbmhaaGreatX17
namespace Go.Proofs.YtmioiaeiflbmhaaGreat.Ma
open Go Go.RowKit Go.ChangeMaps Go.MapKept Go.Mg Go.Mt Go.Hf Go.Proofs.YtmioiaeiflbmhaaGreat.Hu Go.Proofs.YtmioiaeiflbmhaaGreat.Bw Go.Proofs.YtmioiaeiflbmhaaGreat.He Go.Proofs.YtmioiaeiflbmhaaGreat.Sq Go.Proofs.YtmioiaeiflbmhaaGreat.Bk
def RowPost7 (w : World) (r : List UInt8) (e : Ending) (w' : World) : Prop := ∃ a c, e = .returned (.slice a r.length c) ∧ RowB w.heap.size w' (.slice a r.length c) r ∧ Kp (fun _ => False) w w'
theorem lit_one (w : World) (e : TypeId) (v : Value) (B : Nat) (hB : B ≤ w.heap.size) (y : UInt8) (hv : u8c y = v) : RowM e u8c B (w.alloc (.cells #[v] e)) (.slice (some ⟨w.heap.size, 0, none⟩) 1 1) [y] := by
  subst hv
  exact ⟨_, _, rfl, own_m w e [u8c y] rfl (by omega), fun k hk => by have := own_b hk; omega⟩
theorem lit_two (w : World) (e : TypeId) (v : Value) (o : Obj) (B : Nat) (hB : B ≤ w.heap.size) (y : UInt8) (hv : u8c y = v) : RowM e u8c B ((w.alloc o).alloc (.cells #[v] e)) (.slice (some ⟨w.heap.size + 1, 0, none⟩) 1 1) [y] := by
  have := lit_one (w.alloc o) e v B (by simp; omega) y hv
  rw [World.size_alloc] at this
  exact this
theorem slr_lt {w : World} {g o c : Nat} {xs : List Value} (h : SlR w 1 (.slice (some ⟨g, o, none⟩) 1 c) 1 xs) : g < w.heap.size := by
  obtain ⟨_, a, cap, e, _, _, _, hc⟩ := h
  obtain ⟨g', o', e', hg, _⟩ := hc (by omega)
  simp only [Value.slice.injEq, true_and] at e
  rw [← e.1] at e'
  simp only [Option.some.injEq, Addr.mk.injEq, and_true] at e'
  rw [e'.1]; exact hg
theorem u8c_lt {y : Nat} (h : y < 256) : u8c (UInt8.ofNat y) = .int .u8 (y : Nat) := by unfold u8c; rw [UInt8.toNat_ofNat']; congr 2; omega
theorem step_growB {α : Type} {e : TypeId} {enc : α → Value} {P : Program} {B : Nat} (w : World) {ops : Array Oper} {o : Oper} {a : Act} {Q : Exit → Act → World → Prop} {E : Prop} (hgd : o.guard = none) (s x : Operand) (t : TypeId) (ho : o.op = .call { callee := .builtin .append, args := #[s, x], argTypes := #[t, t] })
    (i : TypeInfo) (z : Value) (bytes : Nat) (ht : P.underlying t = some (.slice e)) (hi : P.info? e = some i) (hz : i.zero = some z) (hsize : i.size = 1) (hby : i.bytes = bytes) (hzs : z.cells.size = 1) (hbp : 0 < bytes)
    (h1 : ∀ y, (enc y).oneCell' = true) (v : Value) (l : List α) (hs : a.eval s = v) (hrow : RowM e enc B w v l) (hB : B ≤ w.heap.size) (xv : Value) (m : Nat) (r : List α) (hx : a.eval x = xv) (hsl : SlR w 1 xv m (r.map enc)) (hm : r.length = m) (n' : Nat) (hn : l.length + m = n') (hbytes : n' * bytes ≤ 140737488355328)
    {K : Act → World → Prop} (h : ∀ a' c' w', Grown e enc B w w' v (.slice a' n' c') (l ++ r) → (∀ k, v.ownBlock = some k → B ≤ k) → K (a.put o.dst (.slice a' n' c')) w') : if Region.wanted o (yielded ops a.tmps) = true then Oper.wp P o a w K Q else E :=
  step_grow w hgd s x t ho i z bytes ht hi hz hsize hby hzs hbp h1 v l hs hrow hB xv m r hx hsl hm n' hn hbytes (fun a' c' w' hg => h a' c' w' hg (fun _ q => (hrow.lt q).1))
end Go.Proofs.YtmioiaeiflbmhaaGreat.Ma
namespace Go.Proofs.YtmioiaeiflbmhaaGreat.Ma
open Go Go.RowKit Go.ChangeMaps Go.MapKept Go.Mg Go.Mt Go.Hf Go.Proofs.YtmioiaeiflbmhaaGreat.Hu Go.Proofs.YtmioiaeiflbmhaaGreat.Bw Go.Proofs.YtmioiaeiflbmhaaGreat.He Go.Proofs.YtmioiaeiflbmhaaGreat.Sq Go.Proofs.YtmioiaeiflbmhaaGreat.Bk
def ints (b : List UInt8) : List Int := b.map fun y => (y.toNat : Int)
theorem ints_bytes (b : List UInt8) : Lib.bytesOf (ints b) = b := by
  unfold ints Lib.bytesOf
  simp [List.map_map, Function.comp_def]
theorem count_same {b : List UInt8} (h0 : 0 < b.length) : (((Lib.countByte (Lib.bytesOf (ints b)) (UInt8.ofNat (byt b 0)) : Nat) : Int) == (b.length : Int)) = Bk.same b := by
  have e : Lib.countByte (Lib.bytesOf (ints b)) (UInt8.ofNat (byt b 0)) = b.count (UInt8.ofNat (byt b 0)) := by
    unfold Lib.countByte
    rw [ints_bytes]
  rw [e]
  have hb0 : UInt8.ofNat (byt b 0) = b[0] := by simp [byt, h0]
  rw [hb0]
  cases hs : Bk.same b with
  | true =>
    unfold Bk.same at hs
    simp only [Bool.and_eq_true, decide_eq_true_eq, List.all_eq_true, List.mem_range] at hs
    rw [beq_iff_eq, List.count_eq_length.2 (fun x hx => by
      obtain ⟨i, hi, rfl⟩ := List.mem_iff_getElem.1 hx
      have := hs.2 i hi
      simp only [sym, List.getElem?_eq_getElem hi, List.getElem?_eq_getElem h0, Option.getD_some] at this
      exact (UInt8.toNat_inj.1 this).symm)]
  | false =>
    rw [beq_eq_false_iff_ne]
    intro q
    have q2 : b.count b[0] = b.length := by omega
    have hall := List.count_eq_length.1 q2
    have : Bk.same b = true := same_yes h0 (fun i hi => by
      have := hall b[i] (List.getElem_mem hi)
      simp only [sym, List.getElem?_eq_getElem hi, List.getElem?_eq_getElem h0, Option.getD_some]
      rw [← this])
    rw [this] at hs
    cases hs
theorem count_p (w : World) (b : List UInt8) (g o c : Nat) (h0 : 0 < b.length) (hc : ∀ i, i < b.length → w.cell? ⟨g, o + i, none⟩ = some (.int .u8 (byt b i : Nat))) :
    Calls Tryz.prog 140 #[.slice (some ⟨g, o, none⟩) b.length c, .slice (some ⟨g, o, none⟩) 1 c] w fun e w' => e = .returned (.int .i64 (Lib.countByte (Lib.bytesOf (ints b)) (UInt8.ofNat (byt b 0)) : Nat)) ∧ w' = w := by
  have h := Any.bytes_Count_one Tryz.laysB13 g o b.length c g o c (ints b) (byt b 0 : Nat) w (by simp [ints]) (fun i hi => by
    rw [hc i hi]
    simp [ints, byt, hi]) (hc 0 h0)
  exact h
theorem infoU8s : (Tryz.prog.info? 5).map (·.size) = some 1 := by kernel_rfl
set_option maxRecDepth 100000 in
set_option maxHeartbeats 400000 in
theorem isRun_p (w : World) (b : List UInt8) (a : Option Addr) (c : Nat) (h : SlR w 1 (.slice a b.length c) b.length (b.map u8c)) (hl : b.length ≤ 100000) :
    Calls Tryz.prog 117 #[.slice a b.length c] w fun e w' => e = .returned (.bool (Bk.same b)) ∧ w' = w := by
  by_cases h0 : b.length = 0
  · have HS := Lib.hid (same_nil7 h0)
    rw [h0]
    clear h h0
    go_enter Tryz.func117, Tryz.ntmps117
    go_wp2_with fail
    go_ret
    exact ⟨by rw [HS.out]; rfl, rfl⟩
  · have hup := (SlR.upto (P := Tryz.prog) h Tryz.underlying23 infoU8s (k := 1) (by omega)).1
    obtain ⟨g, o, rfl, hg, hcap, hc⟩ := byts_at h (by omega)
    have CT := Lib.hid (count_p w b g o c (by omega) hc)
    have HQ := Lib.hid (count_same (b := b) (by omega))
    obtain ⟨N, hN⟩ : ∃ N, N = Lib.countByte (Lib.bytesOf (ints b)) (UInt8.ofNat (byt b 0)) := ⟨_, rfl⟩
    rw [← hN] at CT HQ
    obtain ⟨n, hn⟩ : ∃ n, n = b.length := ⟨_, rfl⟩
    rw [← hn] at CT HQ hup h0 hl hcap ⊢
    have hn0 : 0 < n := by omega
    clear h hc hN hn h0 hg
    go_enter Tryz.func117, Tryz.ntmps117
    go_wp2_with (go_at_call 140; refine CT.out.mono ?_; rintro e w' ⟨rfl, hw⟩; obtain rfl := hw)
    go_ret
    exact ⟨by rw [← HQ.out]; rfl, rfl⟩
end Go.Proofs.YtmioiaeiflbmhaaGreat.Ma
namespace Go.Proofs.YtmioiaeiflbmhaaGreat.He
open Go Go.RowKit Go.ChangeMaps Go.MapKept Go.Mg Go.Hf Go.Sort Go.Proofs.YtmioiaeiflbmhaaGreat.Hu Go.Proofs.YtmioiaeiflbmhaaGreat.Bw
def RelD (B0 : Nat) (w wr : World) (ty : TypeId) (p : Nat) (bits : List Bool) : Prop := ∃ F a c, WrAt ty F wr p a c bits ∧ Kp (fun _ => False) w wr ∧ ∀ k, F k → B0 ≤ k
theorem RelD.step {B0 : Nat} {w wr : World} {ty : TypeId} {p : Nat} {B : List Bool} {F : Nat → Prop} (hk : Kp (fun _ => False) w wr) (hF : ∀ k, F k → B0 ≤ k) (hB : w.heap.size ≤ B0) (hB2 : B0 ≤ wr.heap.size) {V : World} (h : WrPost ty F wr p B V) : RelD B0 w V ty p B := by
  obtain ⟨F', a', c', h1, h2, h3⟩ := h
  exact ⟨F', a', c', h1, hk.trans2 h2 (fun i hi q => by have := hF i q; omega), fun k q => by rcases h3 k q with q | q; exact hF k q; omega⟩
end Go.Proofs.YtmioiaeiflbmhaaGreat.He
namespace Go.Proofs.YtmioiaeiflbmhaaGreat.Ma
open Go Go.RowKit Go.ChangeMaps Go.MapKept Go.Mg Go.Mt Go.Hf Go.Proofs.YtmioiaeiflbmhaaGreat.Hu Go.Proofs.YtmioiaeiflbmhaaGreat.Bw Go.Proofs.YtmioiaeiflbmhaaGreat.He Go.Proofs.YtmioiaeiflbmhaaGreat.Rd Go.Proofs.YtmioiaeiflbmhaaGreat.Sq Go.Proofs.YtmioiaeiflbmhaaGreat.Bk
theorem cnt_up (l : List UInt8) (k : Nat) : Fse.up (cnt l k) (sym l k) (cnt l k (sym l k) + 1) = cnt l (k + 1) := by
  funext j
  simp only [cnt, Fse.up]
  by_cases e : j = sym l k
  · subst e; simp
  · simp [e]
theorem row_not {b : List UInt8} (hs : Bk.same b = false) : Bk.rowB b = if (codedB b).length < b.length then [2] ++ two b.length ++ codedB b else [0] ++ two b.length ++ b := by
  unfold Bk.rowB
  rw [if_neg (by rw [hs]; decide)]
theorem coded_len (b : List UInt8) : (codedB b).length = 130 + (codesB b).length := by
  unfold codedB Sq.sized
  simp [nib_len, two]
  omega
theorem codes_le {b : List UInt8} {L : Nat → Nat} (h0 : 0 < b.length) (hL : IsLens (cts b) L) : codesB b = pack (bt (lensOf 256 L) b b.length) ∧ (bt (lensOf 256 L) b b.length).length ≤ 11 * b.length := by
  refine ⟨?_, bt_len (enc_ok h0 hL).1.2.1 b _⟩
  unfold codesB
  rw [if_neg (by omega), lensB_eq hL]
end Go.Proofs.YtmioiaeiflbmhaaGreat.Ma
