/- The document's huff: the tree that comes first, and the others. -/
import Derived.Test.YtcecnkmhhbncdaaHfB
import Derived.Test.YtcecnkmhhbncdaaOpenS
import Derived.Deep.RegionHeld3
import Derived.Laws.ResultCell
namespace Go.Proofs.Ytcecnkmhhbncdaa.Hu
open Go Go.RowKit Go.ChangeMaps Go.MapKept Go.Mg Go.Hf Go.Sort Go.Proofs.Ytcecnkmhhbncdaa.Op

def E (p : Tr × Value) : List Value := tcs p.1 p.2
theorem E_len (p : Tr × Value) : (E p).length = 2 := rfl
theorem infoT : (Try.prog.info? 79).map (fun i => (i.zero, i.size, i.bytes)) = some (some (.agg #[.int .i64 0, .slice none 0 0]), 2, 32) := by kernel_rfl
theorem infoR : (Try.prog.info? 69).map (fun i => (i.zero, i.size, i.bytes)) = some (some (.agg #[.int .i64 0, .slice none 0 0]), 2, 32) := by kernel_rfl
theorem infoI : (Try.prog.info? 3).map (fun i => (i.zero, i.size, i.bytes)) = some (some (.int .i64 0), 1, 8) := by kernel_rfl
theorem E_one {Fs : List (Tr × Value)} {w : World} (h : ∀ p, p ∈ Fs → Tv w p.1 p.2) : ∀ u ∈ Fs.flatMap E, u.oneCell' = true := by
  intro u hu
  obtain ⟨p, hp, hu⟩ := List.mem_flatMap.1 hu
  obtain ⟨a, c, e, _⟩ := h p hp
  simp only [E, tcs, List.mem_cons, List.not_mem_nil, or_false] at hu
  rcases hu with rfl | rfl
  · rfl
  · rw [e]; rfl
theorem take_E (Fs : List (Tr × Value)) (k : Nat) : (Fs.flatMap E).take (k * 2) = (Fs.take k).flatMap E := by
  induction Fs generalizing k with
  | nil => simp
  | cons p l ih =>
    cases k with
    | zero => simp
    | succ k =>
      rw [List.flatMap_cons, List.take_succ_cons, List.flatMap_cons, ← ih k, show (k + 1) * 2 = 2 + k * 2 by omega, List.take_append, E_len, List.take_of_length_le (by rw [E_len]; omega)]
      simp
theorem drop_E (Fs : List (Tr × Value)) (k : Nat) : (Fs.flatMap E).drop (k * 2) = (Fs.drop k).flatMap E := by
  induction Fs generalizing k with
  | nil => simp
  | cons p l ih =>
    cases k with
    | zero => simp
    | succ k =>
      rw [List.flatMap_cons, List.drop_succ_cons, ← ih k, show (k + 1) * 2 = 2 + k * 2 by omega, List.drop_append, E_len, List.drop_of_length_le (by rw [E_len]; omega)]
      simp
/-- Cells of the tree number i. -/
theorem at_E {w : World} {a : Option Addr} {c : Nat} {Fs : List (Tr × Value)} (h : SlR w 2 (.slice a Fs.length c) Fs.length (Fs.flatMap E)) (h0 : 0 < Fs.length) :
    ∃ g off, a = some ⟨g, off, none⟩ ∧ g < w.heap.size ∧ Fs.length ≤ c ∧ ∀ i (hi : i < Fs.length), w.cell? ⟨g, off + i * 2, none⟩ = some (.int .i64 (Fs[i].1.n : Nat)) ∧ w.cell? ⟨g, off + i * 2 + 1, none⟩ = some Fs[i].2 := by
  have hcap : Fs.length ≤ c := by
    obtain ⟨_, a0, c0, e0, h1, _⟩ := h
    simp only [Value.slice.injEq, true_and] at e0
    omega
  obtain ⟨g, off, e, hg, _⟩ := SlR.cellK h (fun y _ => E_len y) h0
  refine ⟨g, off, e, hg, hcap, fun i hi => ?_⟩
  obtain ⟨g', off', e', _, hc⟩ := SlR.cellK h (fun y _ => E_len y) hi
  rw [e] at e'
  simp only [Option.some.injEq, Addr.mk.injEq, and_true] at e'
  obtain ⟨rfl, rfl⟩ := e'
  exact ⟨hc 0 _ rfl (by omega), by have := hc 1 _ rfl (by omega); rwa [← Nat.add_assoc] at this⟩

def TakePost (w : World) (Fs : List (Tr × Value)) (e : Ending) (w' : World) : Prop :=
  ∃ k, ∃ hk : k < Fs.length, ∃ a' c', e = .returned (.tuple #[.agg #[.int .i64 (Fs[k].1.n : Nat), Fs[k].2], .slice a' (Fs.length - 1) c']) ∧
    OwnR w' 79 2 (.slice a' (Fs.length - 1) c') (Fs.length - 1) ((Fs.take k ++ Fs.drop (k + 1)).flatMap E) ∧ (∀ b, (Value.slice a' (Fs.length - 1) c').ownBlock = some b → w.heap.size ≤ b) ∧
    Kp (fun _ => False) w w' ∧ ∀ p, p ∈ Fs → ¬ Lt p.1 Fs[k].1
theorem Lt.irrefl (a : Tr) : ¬ Lt a a := by unfold Lt; omega
theorem Lt.trans {a b c : Tr} (h : Lt a b) (k : Lt b c) : Lt a c := by unfold Lt at *; omega
set_option maxRecDepth 100000 in
set_option maxHeartbeats 2000000 in
theorem take_c (w : World) (Fs : List (Tr × Value)) (a : Option Addr) (c : Nat) (h : SlR w 2 (.slice a Fs.length c) Fs.length (Fs.flatMap E)) (hT : ∀ p, p ∈ Fs → Tv w p.1 p.2) (h0 : 0 < Fs.length) (hlen : Fs.length ≤ 1000) :
    Calls Try.prog 51 #[.slice a Fs.length c] w (TakePost w Fs) := by
  have mixed : Try.prog.follows .mixedOrders = true := by kernel_rfl
  obtain ⟨g, off, rfl, hg, hcap, hc⟩ := at_E h h0
  obtain ⟨W, hW⟩ : ∃ W, W = w.alloc (.cells #[.int .i64 0, .slice none 0 0] 79) := ⟨_, rfl⟩
  have kW : Kp (fun _ => False) w W := by rw [hW]; exact (Kp.refl _ _).alloc _
  have hWh : W.heap[w.heap.size]? = some (.cells #[.int .i64 0, .slice none 0 0] 79 (0, 0)) := by rw [hW]; exact alloc_at w _
  have HC := Lib.hid hc
  have HT := Lib.hid hT
  have HH := Lib.hid h
  have KW := Lib.hid kW
  have HWH := Lib.hid hWh
  clear hc hT h kW hWh
  go_enter Try.func51, Try.ntmps51
  go_wp2_with fail
  rw [← hW]
  clear hW
  go_loopw [4, 5] (fun kk i wr => ∃ (k j : Nat) (hk : k < Fs.length), j ≤ Fs.length ∧ kk = .int .i64 k ∧ i = .int .i64 j ∧ (∀ l (hl : l < Fs.length), l < j → ¬ Lt Fs[l].1 Fs[k].1) ∧ Kp (fun _ => False) W wr) (fun _ i _ => Fs.length - (intOf i).toNat)
  case atStart => exact ⟨0, 0, h0, Nat.zero_le _, rfl, rfl, fun _ _ q => by omega, Kp.refl _ _⟩
  case round =>
    obtain ⟨k, j, hk, hj, rfl, rfl, hl, hkp⟩ := hrel
    have HL := Lib.hid hl
    have HK := Lib.hid hkp
    have hgr : g < wr.heap.size := Nat.lt_of_lt_of_le hg (KW.out.trans hkp).size
    clear hl
    have hcr : ∀ i (hi : i < Fs.length) n os, (grow (wr.drewN n) os).cell? ⟨g, off + i * 2, none⟩ = some (.int .i64 (Fs[i].1.n : Nat)) ∧ (grow (wr.drewN n) os).cell? ⟨g, off + i * 2 + 1, none⟩ = some Fs[i].2 := fun i hi n os =>
      have kk := (KW.out.trans hkp).trans (kp_grow wr n os)
      ⟨(kk.cell (p := ⟨g, off + i * 2, none⟩) hg (fun q => q)).trans (HC.out i hi).1, (kk.cell (p := ⟨g, off + i * 2 + 1, none⟩) hg (fun q => q)).trans (HC.out i hi).2⟩
    have HCR := Lib.hid hcr
    clear hcr hkp
    by_cases hlt : j < Fs.length
    · have dj0 := fun n os => (HCR.out j hlt n os).1
      have dj1 := fun n os => (HCR.out j hlt n os).2
      have dk0 := fun n os => (HCR.out k hk n os).1
      have dk1 := fun n os => (HCR.out k hk n os).2
      have tj := HT.out _ (List.getElem_mem hlt)
      have tk := HT.out _ (List.getElem_mem hk)
      obtain ⟨pj, hpj⟩ : ∃ p, p = Fs[j] := ⟨_, rfl⟩
      obtain ⟨pk, hpk⟩ : ∃ p, p = Fs[k] := ⟨_, rfl⟩
      rw [← hpj] at dj0 dj1 tj
      rw [← hpk] at dk0 dk1 tk
      have CL := Lib.hid (fun n os => less_c (grow (wr.drewN n) os) pj.1 pk.1 pj.2 pk.2 (tj.kp ((KW.out.trans HK.out).trans (kp_grow wr n os)) (fun _ _ q => q)) (tk.kp ((KW.out.trans HK.out).trans (kp_grow wr n os)) (fun _ _ q => q)))
      have HPJ := Lib.hid hpj
      have HPK := Lib.hid hpk
      clear hpj hpk tj tk
      by_cases hL : Lt pj.1 pk.1
      · have CT := Lib.hid (fun n os => by have := CL.out n os; rwa [decide_eq_true hL] at this)
        go_wp2_with fail
        refine WQ.region mixed (by kernel_rfl) ?_
        repeat (refine WQ.step (fun K hK => ?_); go_simp; first | (refine hK _ ?_; clear hK K) | (apply Exists.intro; refine ⟨fun _ => ?_, hK _ ?_⟩; (go_at_call 66; apply Calls.grown_of; with_reducible exact CT.out _ _); clear hK K))
        refine WQ.nil ?_
        intro _ hw'
        obtain ⟨⟨nq, osq⟩, hw''⟩ := hw'
        subst hw''
        go_wp2_with fail
        refine ⟨⟨j, j + 1, hlt, by omega, rfl, by go_num, fun l hl' hlj => ?_, HK.out.trans (kp_grow wr nq osq)⟩, by simp [intOf]; omega⟩
        rw [← HPJ.out]
        by_cases e : l = j
        · subst e; rw [← HPJ.out]; exact Lt.irrefl _
        · intro q
          exact HL.out l hl' (by omega) (by rw [← HPK.out]; exact Lt.trans q hL)
      · have CT := Lib.hid (fun n os => by have := CL.out n os; rwa [decide_eq_false hL] at this)
        go_wp2_with fail
        refine WQ.region mixed (by kernel_rfl) ?_
        repeat (refine WQ.step (fun K hK => ?_); go_simp; first | (refine hK _ ?_; clear hK K) | (apply Exists.intro; refine ⟨fun _ => ?_, hK _ ?_⟩; (go_at_call 66; apply Calls.grown_of; with_reducible exact CT.out _ _); clear hK K))
        refine WQ.nil ?_
        intro _ hw'
        obtain ⟨⟨nq, osq⟩, hw''⟩ := hw'
        subst hw''
        go_wp2_with fail
        refine ⟨⟨k, j + 1, hk, by omega, rfl, by go_num, fun l hl' hlj => ?_, HK.out.trans (kp_grow wr nq osq)⟩, by simp [intOf]; omega⟩
        by_cases e : l = j
        · subst e; rw [← HPJ.out, ← HPK.out]; exact hL
        · exact HL.out l hl' (by omega)
    · obtain rfl : j = Fs.length := by omega
      have kwr := KW.out.trans HK.out
      have dk0 := (kwr.cell (p := ⟨g, off + k * 2, none⟩) hg (fun q => q)).trans (HC.out k hk).1
      have dk1 := (kwr.cell (p := ⟨g, off + k * 2 + 1, none⟩) hg (fun q => q)).trans (HC.out k hk).2
      have hsl0 := HH.out.kp kwr (fun _ _ q => q)
      obtain ⟨hu, hub⟩ := hsl0.upto (P := Try.prog) Try.underlying77 (by kernel_rfl) (show k ≤ Fs.length by omega)
      obtain ⟨a4, c4, hfr, hfb, hfo⟩ := hsl0.from_ (P := Try.prog) Try.underlying77 (by kernel_rfl) (show k + 1 ≤ Fs.length by omega)
      rw [take_E] at hub
      rw [drop_E] at hfb
      have hu' : ∀ w', (Instr.slice 77 (.slice (some ⟨g, off, none⟩) Fs.length c) none (some (.int .i64 (k : Nat))) none).run Try.prog w' = .ok (.slice (some ⟨g, off, none⟩) k c) w' := hu
      have hfr' : ∀ w', (Instr.slice 77 (.slice (some ⟨g, off, none⟩) Fs.length c) (some (.int .i64 ((k : Int) + 1))) none none).run Try.prog w' = .ok (.slice a4 (Fs.length - (k + 1)) c4) w' := fun w' => by have := hfr w'; push_cast at this; exact this
      obtain ⟨i0, hi0, hz0, hz1, hz2⟩ := info_parts infoT
      have kd : Kp (fun _ => False) wr (wr.drew.alloc (.cells #[] 79)) := ((Kp.refl _ _).drew).alloc _
      have HN := Lib.hid (own_none wr.drew 79 2)
      have HU := Lib.hid (hub.kp kd (fun _ _ q => q))
      have HF := Lib.hid hfb
      have HFO := Lib.hid hfo
      have KWR := Lib.hid kwr
      have hbx : wr.heap[w.heap.size]? = some (.cells #[.int .i64 0, .slice none 0 0] 79 (0, 0)) := HK.out.at_ HWH.out (fun q => q)
      have hbl : w.heap.size < wr.heap.size := lt_of_at hbx
      have HBX := Lib.hid hbx
      have hw1 : IntKind.i64.wrap ((k : Int) + 1) = (k : Int) + 1 := by rw [IntKind.wrap_i64]; omega
      have htk : (Fs.take k).length = k := by rw [List.length_take]; omega
      have O1 := Lib.hid (E_one (w := w) (Fs := Fs.take k) (fun p hp => HT.out p (List.mem_of_mem_take hp)))
      have O2 := Lib.hid (E_one (w := w) (Fs := Fs.drop (k + 1)) (fun p hp => HT.out p (List.mem_of_mem_drop hp)))
      have one1 : Fs[k].2.oneCell' = true := by obtain ⟨x, y, e, _⟩ := HT.out _ (List.getElem_mem hk); rw [e]; rfl
      obtain ⟨pn, hpn⟩ : ∃ n : Nat, n = Fs[k].1.n := ⟨_, rfl⟩
      obtain ⟨pv, hpv⟩ : ∃ n, n = Fs[k].2 := ⟨_, rfl⟩
      rw [← hpn] at dk0
      rw [← hpv] at dk1 one1
      obtain ⟨x1, y1, hv1, _⟩ := HT.out _ (List.getElem_mem hk)
      rw [← hpv] at hv1
      obtain ⟨z1, hz1'⟩ : ∃ z, z = Fs[k].1.s.length := ⟨_, rfl⟩
      rw [← hz1'] at hv1
      subst hv1
      have HPN := Lib.hid hpn
      have HPV := Lib.hid hpv
      have e0 := (kd.cell (p := ⟨g, off + k * 2, none⟩) hgr (fun q => q)).trans dk0
      have e1 := (kd.cell (p := ⟨g, off + k * 2 + 1, none⟩) hgr (fun q => q)).trans dk1
      have hgne : g ≠ w.heap.size := by omega
      have hgne' : w.heap.size ≠ g := by omega
      clear hu hfr hub hfb hfo hsl0 kd kwr hbx hpn hpv hz1'
      go_wp2_with fail
      go_region_held3 (fun w' => w'.cell? ⟨g, off + k * 2, none⟩ = some (.int .i64 (pn : Nat)) ∧ w'.cell? ⟨g, off + k * 2 + 1, none⟩ = some (.slice x1 z1 y1)) (go_keep) ((first
        | (refine step_app (wr.drew.alloc (.cells #[] 79)) rfl (.tmp 26) (.tmp 29) 77 rfl 79 i0 _ 2 32 Try.underlying77 hi0 hz0 hz1 hz2 rfl (by decide) (by decide) (.slice (some ⟨wr.heap.size, 0, none⟩) 0 0) 0 [] (by simp [Act.eval]) HN.out (.slice (some ⟨g, off, none⟩) k c) k _ (by simp [Act.eval]) HU.out O1.out (by omega) ?_; intro v1 w3 g1 g2 g3 g4 g5; obtain ⟨b1, d1, rfl⟩ := g1.form; have kk : Kp (fun _ => False) wr w3 := (((Kp.refl _ wr).drew).alloc _).up g2 (fun i e => (by have := own_b e; omega)); have r0 := (kk.cell (p := ⟨g, off + k * 2, none⟩) hgr (fun q => q)).trans dk0; have r1 := (kk.cell (p := ⟨g, off + k * 2 + 1, none⟩) hgr (fun q => q)).trans dk1; have HF3 := Lib.hid (HF.out.kp kk (fun _ _ q => q)); have G1 := Lib.hid g1; have G3 := Lib.hid g3; have KK := Lib.hid kk; clear g1 g2 g3 g4 g5 kk)
        | (refine step_app w3 rfl (.tmp 30) (.tmp 34) 77 rfl 79 i0 _ 2 32 Try.underlying77 hi0 hz0 hz1 hz2 rfl (by decide) (by decide) (.slice b1 (0 + k) d1) (0 + k) _ (by simp [Act.eval]) G1.out (.slice a4 (Fs.length - (k + 1)) c4) (Fs.length - (k + 1)) _ (by simp [Act.eval]) HF3.out O2.out (by omega) ?_; intro v2 w5 f1 f2 f3 f4 f5; obtain ⟨b2, d2, rfl⟩ := f1.form; have kk : Kp (fun _ => False) wr w5 := KK.out.up f2 (fun i e => (by rcases G3.out with q | q <;> (rw [e] at q; simp [Value.ownBlock] at q; omega))); have s0 := (kk.cell (p := ⟨g, off + k * 2, none⟩) hgr (fun q => q)).trans dk0; have s1 := (kk.cell (p := ⟨g, off + k * 2 + 1, none⟩) hgr (fun q => q)).trans dk1; have F1 := Lib.hid f1; have F3 := Lib.hid f3; have K5 := Lib.hid kk; have c5 := cell_of (K5.out.at_ HBX.out (fun q => q)); have x50 : w5.cell? ⟨w.heap.size, 0, none⟩ = some (.int .i64 0) := (by rw [c5]; rfl); have x51 : w5.cell? ⟨w.heap.size, 1, none⟩ = some (.slice none 0 0) := (by rw [c5]; rfl); have fz : w5.frozen? ⟨w.heap.size, 0, none⟩ = false := free_of (K5.out.at_ HBX.out (fun q => q)) 0; have fz1 : w5.frozen? ⟨w.heap.size, 1, none⟩ = false := free_of (K5.out.at_ HBX.out (fun q => q)) 1; clear f1 f2 f3 f4 f5 kk c5)))
      have hown : ∀ b, (Value.slice b2 (k + (Fs.length - (k + 1))) d2).ownBlock = some b → w.heap.size < b := by
        intro b hb
        rcases F3.out with q | q
        · rw [Nat.zero_add, hb] at q
          rcases G3.out with q' | q'
          · rw [Nat.zero_add, ← q] at q'; have := own_b q'.symm; omega
          · rw [Nat.zero_add, ← q] at q'; simp at q'; omega
        · rw [Nat.zero_add, hb] at q
          simp only [Option.some.injEq] at q
          have := KK.out.size
          omega
      have F6 : OwnR ((w5.setCell ⟨w.heap.size, 0, none⟩ (.int .i64 (pn : Nat))).setCell ⟨w.heap.size, 1, none⟩ (.slice x1 z1 y1)) 79 2 (.slice b2 (Fs.length - 1) d2) (Fs.length - 1) ((Fs.take k ++ Fs.drop (k + 1)).flatMap E) := by
        have h5 := F1.out
        have e : k + (Fs.length - (k + 1)) = Fs.length - 1 := by omega
        rw [List.nil_append, ← List.flatMap_append, Nat.zero_add, e] at h5
        rw [e] at hown
        exact h5.kept (fun b hb _ => by
          have := hown b hb
          exact (Below.heap_setCell _ _ _ _ (by simp only; omega)).trans (Below.heap_setCell _ _ _ _ (by simp only; omega)))
      have h6 := setCell_at (i := 1) (setCell_at (i := 0) (K5.out.at_ HBX.out (fun q => q)) (.int .i64 (pn : Nat))) (.slice x1 z1 y1)
      have k6 : Kp (fun _ => False) w ((w5.setCell ⟨w.heap.size, 0, none⟩ (.int .i64 (pn : Nat))).setCell ⟨w.heap.size, 1, none⟩ (.slice x1 z1 y1)) :=
        ((KWR.out.trans K5.out).setCell (p := ⟨w.heap.size, 0, none⟩) (fun q => by simp only at q; omega) _).setCell (p := ⟨w.heap.size, 1, none⟩) (fun q => by simp only at q; omega) _
      generalize (w5.setCell ⟨w.heap.size, 0, none⟩ (.int .i64 (pn : Nat))).setCell ⟨w.heap.size, 1, none⟩ (.slice x1 z1 y1) = w6 at F6 h6 k6 ⊢
      have y0 : w6.cell? ⟨w.heap.size, 0, none⟩ = some (.int .i64 (pn : Nat)) := by rw [cell_of h6]; rfl
      have y1' : w6.cell? ⟨w.heap.size, 1, none⟩ = some (.slice x1 z1 y1) := by rw [cell_of h6]; rfl
      have e : k + (Fs.length - (k + 1)) = Fs.length - 1 := by omega
      rw [e] at hown ⊢
      have HO := Lib.hid hown
      have K6 := Lib.hid k6
      have H6 := Lib.hid F6
      clear x50 x51 fz fz1 s0 s1 hown k6 F6 h6 dk0 dk1 e0 e1 r0 r1 hu' hfr' e hw1
      go_wp2_with fail
      refine bodyPost_ret (v := .tuple #[.agg #[.int .i64 (pn : Nat), .slice x1 z1 y1], .slice b2 (Fs.length - 1) d2]) ?_ rfl ?_
      · rw [results_cell_tmp rfl]
        simp [go_sem, y0, y1']
      refine ⟨k, hk, b2, d2, ?_, H6.out, fun b hb => Nat.le_of_lt (HO.out b hb), K6.out, ?_⟩
      · rw [← HPN.out, ← HPV.out]
      · intro p hp
        obtain ⟨l, hl, rfl⟩ := List.getElem_of_mem hp
        exact HL.out l hl hl
end Go.Proofs.Ytcecnkmhhbncdaa.Hu
