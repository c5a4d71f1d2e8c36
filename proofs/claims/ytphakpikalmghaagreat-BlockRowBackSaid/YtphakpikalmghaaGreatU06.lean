/- Blocks of numbers, told by a function; slices that read as numbers. fse: the document's Norm. fse: the document's digits, Is, Table. fse: the document's Table. -/
import Derived.Laws.MakeOwn
import Derived.Laws.OwnMore
import Derived.Test.YtphakpikalmghaaGreatU05
import Derived.Test.YtphakpikalmghaaGreatU04
namespace Go.Mg
open Go Go.RowKit Go.ChangeMaps Go.MapKept Go.Fse

/-- Block g, of the elements' type e, is N numbers. -/
def IAt (e : TypeId) (w : World) (g N : Nat) (f : Nat → Nat) : Prop := w.heap[g]? = some (.cells ((List.range N).map fun i => Value.int .i64 (f i : Nat)).toArray e (0, 0))
theorem IAt.set {e : TypeId} {w : World} {g N : Nat} {f : Nat → Nat} (h : IAt e w g N f) {i : Nat} (hi : i < N) (x : Nat) : IAt e (w.setCell ⟨g, i, none⟩ (.int .i64 (x : Nat))) g N (up f i x) := by
  have h2 := setCell_at (i := i) h (.int .i64 (x : Nat))
  unfold IAt
  rw [h2]
  congr 2
  apply Array.ext_getElem?
  intro k
  rw [Array.getElem?_setIfInBounds]
  simp only [List.size_toArray, List.length_map, List.length_range, List.getElem?_toArray, List.getElem?_map]
  by_cases hk : i = k
  · subst hk
    rw [if_pos rfl, if_pos hi, List.getElem?_range hi]
    simp [up]
  · rw [if_neg hk]
    by_cases hkn : k < N
    · rw [List.getElem?_range hkn]
      have : ¬ k = i := fun e => hk e.symm
      simp [up, this]
    · rw [List.getElem?_eq_none (by simpa using hkn)]
      rfl
theorem IAt.cell {e : TypeId} {w : World} {g N : Nat} {f : Nat → Nat} (h : IAt e w g N f) {i : Nat} (hi : i < N) : w.cell? ⟨g, i, none⟩ = some (.int .i64 (f i : Nat)) := by
  rw [cell_of h]; simp [hi]
theorem IAt.free {e : TypeId} {w : World} {g N : Nat} {f : Nat → Nat} (h : IAt e w g N f) (i : Nat) : w.frozen? ⟨g, i, none⟩ = false := free_of h i
theorem IAt.kp {e : TypeId} {w w' : World} {g N : Nat} {f : Nat → Nat} {F : Nat → Prop} (h : IAt e w g N f) (hk : Kp F w w') (hF : ¬ F g) : IAt e w' g N f := hk.at_ h hF
theorem IAt.congr {e : TypeId} {w : World} {g N : Nat} {f f' : Nat → Nat} (h : IAt e w g N f) (hf : ∀ i, i < N → f i = f' i) : IAt e w g N f' := by
  unfold IAt at *
  rw [h]
  have : ((List.range N).map fun i => Value.int .i64 (f i : Nat)) = (List.range N).map fun i => Value.int .i64 (f' i : Nat) := by
    apply List.map_congr_left
    intro i hi
    rw [hf i (List.mem_range.1 hi)]
  rw [this]
/-- A slice that reads as the first N numbers. -/
def IntsR (w : World) (a : Option Addr) (c N : Nat) (f : Nat → Nat) : Prop := SlR w 1 (.slice a N c) N ((List.range N).map fun i => Value.int .i64 (f i : Nat))
theorem IAt.rd {e : TypeId} {w : World} {g N : Nat} {f : Nat → Nat} (h : IAt e w g N f) (hN : N ≤ 100000) : IntsR w (some ⟨g, 0, none⟩) N N f := by
  refine ⟨by simp, _, _, rfl, Nat.le_refl _, by unfold maxLen; omega, (fun h => by cases h), fun _ => ⟨g, 0, rfl, lt_of_at h, fun i u hu => ?_⟩⟩
  rw [Nat.zero_add, cell_of h]
  simpa using hu
theorem IntsR.kp {w w' : World} {a : Option Addr} {c N : Nat} {f : Nat → Nat} (h : IntsR w a c N f) (hk : Kp (fun _ => False) w w') : IntsR w' a c N f := SlR.kp h hk (fun _ _ q => q)
/-- Where its cells are, in whatever world that keeps what is there. -/
theorem IntsR.at_ {w : World} {a : Option Addr} {c N : Nat} {f : Nat → Nat} (h : IntsR w a c N f) (h0 : 0 < N) :
    ∃ g o, a = some ⟨g, o, none⟩ ∧ g < w.heap.size ∧ N ≤ c ∧ ∀ V, Kp (fun _ => False) w V → ∀ i, i < N → V.cell? ⟨g, o + i, none⟩ = some (.int .i64 (f i : Nat)) := by
  obtain ⟨_, a', c', e, h1, _, _, hc⟩ := h
  simp only [Value.slice.injEq, true_and] at e
  obtain ⟨rfl, rfl⟩ := e
  obtain ⟨g, o, rfl, hg, hcc⟩ := hc h0
  exact ⟨g, o, rfl, hg, h1, fun V hk i hi => (hk.cell (p := ⟨g, o + i, none⟩) hg (fun q => q)).trans (hcc i _ (by simp [hi]))⟩
/-- An own row of numbers reads as them. -/
theorem rdM {e : TypeId} {B : Nat} {w : World} {a : Option Addr} {n c : Nat} {l : List Nat} (h : RowM e (fun x : Nat => Value.int .i64 (x : Nat)) B w (.slice a n c) l) : IntsR w a c n (fun i => l[i]?.getD 0) := by
  obtain ⟨h1, rfl⟩ := h.sl
  unfold IntsR
  have e : ((List.range l.length).map fun i => Value.int .i64 ((l[i]?.getD 0 : Nat) : Int)) = l.map fun x : Nat => Value.int .i64 (x : Nat) := by
    apply List.ext_getElem
    · simp
    · intro i h1 h2
      have hi : i < l.length := by simpa using h2
      simp [hi]
  rw [e]
  exact h1
end Go.Mg
namespace Go.Proofs.YtphakpikalmghaaGreat.Ma
open Go Go.RowKit Go.ChangeMaps Go.MapKept Go.Mg Go.Proofs.YtphakpikalmghaaGreat.Hu

theorem infoI_ : (Tryz.prog.info? 3).map (fun i => (i.zero, i.size, i.bytes)) = some (some (.int .i64 0), 1, 8) := by kernel_rfl
theorem nv1 : ∀ x : Nat, (Value.int .i64 (x : Nat)).oneCell' = true := fun _ => rfl
set_option maxRecDepth 100000 in
theorem made_i (w : World) (n : Nat) (hn : n ≤ 1000) : ∃ W, (Instr.makeSlice 51 (.int .i64 (n : Nat)) (.int .i64 (n : Nat))).run Tryz.prog w = .ok (.slice (some ⟨w.heap.size, 0, none⟩) n n) W ∧ IAt 3 W w.heap.size n (fun _ => 0) ∧ Kp (fun _ => False) w W ∧ w.heap.size < W.heap.size := by
  obtain ⟨i0, hi0, hz0, hz1, hz2⟩ := info_parts infoI_
  have h := run_make (P := Tryz.prog) w 51 3 i0 _ Tryz.underlying51 hi0 hz0 .i64 .i64 (n : Int) (n : Int) (by omega) (by omega) (by rw [hz2]; omega) (by omega)
  rw [hz1] at h
  refine ⟨_, h, ?_, (Kp.refl _ _).alloc _, by simp⟩
  unfold IAt
  rw [alloc_at w _]
  congr 2
  apply Array.toList_inj.1
  show (madeCells #[_] _).toList = _
  rw [toList_madeCells_one]
  apply List.ext_getElem
  · simp
  · intro i h1 h2
    simp
end Go.Proofs.YtphakpikalmghaaGreat.Ma
namespace Go.Proofs.YtphakpikalmghaaGreat.Ma
open Go Go.RowKit Go.ChangeMaps Go.MapKept Go.Mg Go.Fse Go.Proofs.YtphakpikalmghaaGreat.Hu

def NormPost (w : World) (N : Nat) (f : Nat → Nat) (e : Ending) (w' : World) : Prop := ∃ g, e = .returned (.tuple #[.slice (some ⟨g, 0, none⟩) N N, .bool true]) ∧ w.heap.size ≤ g ∧ IAt 3 w' g N f ∧ Kp (fun _ => False) w w'
/-- Shares on their way. -/
def Way (c : Nat → Nat) (N : Nat) (h : Nat → Nat) : Prop := fixN N (dist (sm h N)) h = shn c N ∧ (∀ i, i < N → h i ≤ 64) ∧ sm h N ≤ 4096
theorem Way.start {c : Nat → Nat} {N : Nat} (hN : N ≤ 32) : Way c N (n0 c (sm c N)) :=
  ⟨rfl, fun i hi => n0_le c i hi, by have := sm_bound (f := n0 c (sm c N)) (b := 64) N (fun i hi => n0_le c i hi); omega⟩
theorem Way.next {c : Nat → Nat} {N : Nat} {h : Nat → Nat} (hw : Way c N h) (hN : 0 < N) (hN2 : N ≤ 32) (hs : sm h N ≠ 64) : Way c N (stp N h) ∧ dist (sm h N) = dist (sm (stp N h) N) + 1 := by
  obtain ⟨h1, h2, _⟩ := hw
  have hb := stp_le hN h2
  refine ⟨⟨by rw [← fixN_step hN hs]; exact h1, hb, ?_⟩, dist_step hN hs⟩
  have := sm_bound (f := stp N h) (b := 64) N hb; omega
theorem Way.done {c : Nat → Nat} {N : Nat} {h : Nat → Nat} (hw : Way c N h) (hs : sm h N = 64) : h = shn c N := by
  have := hw.1
  rw [fixN_done hs] at this; exact this
def part0 (c : Nat → Nat) (all k : Nat) : Nat → Nat := fun i => if i < k then n0 c all i else 0
theorem part0_up {c : Nat → Nat} {all k : Nat} (h : 0 < c k) : up (part0 c all k) k (max 1 (c k * 64 / all)) = part0 c all (k + 1) := by
  funext i
  unfold up part0
  by_cases e : i = k
  · subst e; simp [n0, h]
  · by_cases q : i < k
    · have : i < k + 1 := by omega
      simp [e, q, this]
    · have : ¬ i < k + 1 := by omega
      simp [e, q, this]
theorem part0_no {c : Nat → Nat} {all k : Nat} (h : ¬ 0 < c k) : part0 c all k = part0 c all (k + 1) := by
  funext i
  unfold part0
  by_cases e : i = k
  · subst e; simp [n0, h]
  · by_cases q : i < k
    · have : i < k + 1 := by omega
      simp [q, this]
    · have : ¬ i < k + 1 := by omega
      simp [q, this]
set_option maxRecDepth 100000 in
set_option maxHeartbeats 4000000 in
theorem norm_d (w : World) (a : Option Addr) (c N : Nat) (f : Nat → Nat) (h : IntsR w a c N f) (hN : 0 < N) (hN2 : N ≤ 32) (hs : 0 < sm f N) (hs2 : sm f N ≤ 100000) :
    Calls Tryz.prog 83 #[.slice a N c, .int .i64 6] w (NormPost w N (shn f N)) := by
  obtain ⟨g, o, rfl, hg, hcap, hc⟩ := h.at_ hN
  have HC := Lib.hid hc
  have HB := Lib.hid (fun i (hi : i < N) => sm_le f hi)
  have HW0 := Lib.hid (Way.start (c := f) hN2)
  have HSB := Lib.hid (fun k (hk : k ≤ N) => sm_mono f hk)
  obtain ⟨all, hall⟩ : ∃ all, all = sm f N := ⟨_, rfl⟩
  have HA := Lib.hid hall
  rw [← hall] at HB hs hs2 HW0 HSB
  clear h hc hall
  go_enter Tryz.func83, Tryz.ntmps83
  go_wp2_with fail
  go_loopw [6, 7] (fun s i wr => ∃ k q : Nat, k ≤ N ∧ q = sm f k ∧ i = .int .i64 k ∧ s = .int .i64 q ∧ wr = w) (fun _ i _ => N - (intOf i).toNat)
  case atStart => exact ⟨0, 0, Nat.zero_le _, rfl, rfl, rfl, rfl⟩
  case round =>
    obtain ⟨k, q, hk, hq, rfl, rfl, hwr⟩ := hrel
    obtain rfl := hwr
    have hqa := HSB.out k hk
    rw [← hq] at hqa
    have HQ := Lib.hid hq
    clear hq
    by_cases hlt : k < N
    · have d0 := HC.out _ (Kp.refl _ _) k hlt
      have hb := HB.out k hlt
      have HQ2 : Hid (q + f k = sm f (k + 1)) := Lib.hid (by rw [sm, HQ.out])
      obtain ⟨x, hx⟩ : ∃ x, x = f k := ⟨_, rfl⟩
      rw [← hx] at d0 hb HQ2
      clear hx
      have b1 : decide ((x : Int) < 0) = false := by simp
      have b2 : decide (1073741824 < (x : Int)) = false := by simp; omega
      go_wp2_with fail
      exact ⟨⟨k + 1, q + x, by omega, HQ2.out, by go_num, by go_num, by first | trivial | rfl⟩, by simp [intOf]; try omega⟩
    · obtain rfl : k = N := by omega
      have eq : q = all := by rw [HQ.out, HA.out]
      rw [eq]
      have b0 : ((all : Int) == 0) = false := by rw [beq_eq_false_iff_ne]; omega
      obtain ⟨W, hmk, hia, hkw, hws⟩ := made_i wr k (by omega)
      have HIA := Lib.hid hia
      have HKW := Lib.hid hkw
      clear eq hia hkw
      go_wp2_with fail
      have HP0 : Hid (IAt 3 W wr.heap.size k (part0 f all 0)) := Lib.hid (HIA.out.congr (fun i _ => by simp [part0]))
      clear HIA HSB
      obtain ⟨wo, rfl⟩ : ∃ wo : World, wo = wr := ⟨_, rfl⟩
      go_loopw [10, 11] (fun s i wr => ∃ j q : Nat, j ≤ k ∧ q = sm (n0 f all) j ∧ q ≤ 4096 ∧ i = .int .i64 j ∧ s = .int .i64 q ∧ IAt 3 wr wo.heap.size k (part0 f all j) ∧ Kp (fun _ => False) wo wr) (fun _ i _ => k - (intOf i).toNat)
      case atStart => exact ⟨0, 0, Nat.zero_le _, rfl, Nat.zero_le _, rfl, rfl, HP0.out, HKW.out⟩
      case round =>
        obtain ⟨j, q, hj, hq, hq2, rfl, rfl, hia, hkw⟩ := hrel
        have HQ5 := Lib.hid hq
        clear hq
        by_cases hlt : j < k
        · have d0 := HC.out _ hkw j hlt
          have hn0 : n0 f all j ≤ 64 := by rw [HA.out]; exact n0_le f j hlt
          have hbnd : sm (n0 f all) (j + 1) ≤ 4096 := by
            have := sm_bound (f := n0 f all) (b := 64) (j + 1) (fun i hi => by rw [HA.out]; exact n0_le f i (by omega))
            omega
          have hb := HB.out j hlt
          by_cases hx0 : 0 < f j
          · have hup := part0_up (all := all) hx0
            have HQ2 : Hid (q + max 1 (f j * 64 / all) = sm (n0 f all) (j + 1)) := Lib.hid (by rw [sm, HQ5.out, n0, if_pos hx0])
            obtain ⟨y', hy'⟩ : ∃ y', y' = max 1 (f j * 64 / all) := ⟨_, rfl⟩
            have hmx : max 1 (f j * 64 / all) ≤ 64 := by rw [← if_pos hx0 (t := max 1 (f j * 64 / all)) (e := 0)]; exact hn0
            have c1 := hia.cell hlt
            have f1 := hia.free j
            have hset := hia.set hlt (max 1 (f j * 64 / all))
            rw [hup] at hset
            have hks : Kp (fun _ => False) wo (wr.setCell ⟨wo.heap.size, j, none⟩ (.int .i64 ((max 1 (f j * 64 / all) : Nat)))) := hkw.setCell (p := ⟨wo.heap.size, j, none⟩) (fun q => by simp only at q; omega) _
            have hdv : (f j : Int) * 64 / (all : Nat) = ((f j * 64 / all : Nat) : Int) := by simp
            obtain ⟨x, hx⟩ : ∃ x, x = f j := ⟨_, rfl⟩
            have hmax : (if (1 : Int) < ((f j * 64 / all : Nat) : Int) then ((f j * 64 / all : Nat) : Int) else 1) = (y' : Nat) := by rw [hy']; split <;> omega
            rw [← hy'] at HQ2 hmx hset hks
            rw [← hx] at d0 hb hx0 hdv hmax
            obtain ⟨y, hy⟩ : ∃ y, y = x * 64 / all := ⟨_, rfl⟩
            rw [← hy] at hdv hmax
            rw [← HQ2.out] at hbnd
            have HS := Lib.hid hset
            have HK := Lib.hid hks
            clear hset hks hy hx hup hia hkw hn0 hy'
            go_wp2_with fail
            exact ⟨⟨j + 1, q + y', by omega, HQ2.out, hbnd, by go_num, by go_num, HS.out, HK.out⟩, by simp [intOf]; try omega⟩
          · have hup := part0_no (all := all) hx0
            rw [hup] at hia
            have HQ2 : Hid (q = sm (n0 f all) (j + 1)) := Lib.hid (by rw [sm, HQ5.out, n0, if_neg hx0]; omega)
            have hx1 : f j = 0 := by omega
            rw [hx1] at d0
            have HS := Lib.hid hia
            have HK := Lib.hid hkw
            clear hia hkw hup hx1 hx0 hb hn0
            go_wp2_with fail
            exact ⟨⟨j + 1, q, by omega, HQ2.out, hq2, by go_num, rfl, HS.out, HK.out⟩, by simp [intOf]; try omega⟩
        · obtain rfl : j = k := by omega
          have e0 : sm (n0 f all) j = q := HQ5.out.symm
          have HS : Hid (IAt 3 wr wo.heap.size j (n0 f all)) := Lib.hid (hia.congr (fun i hi => by simp [part0, hi]))
          have HK := Lib.hid hkw
          have HE0 := Lib.hid e0
          clear hia hkw e0 HQ5
          go_wp2_with fail
          clear HB HC
          clear hq2
          have T0 := Lib.hid HW0.out
          clear HW0
          obtain ⟨w2, rfl⟩ : ∃ w2 : World, w2 = wr := ⟨_, rfl⟩
          have KSZ : wo.heap.size < w2.heap.size := lt_of_at HS.out
          go_loopw [10] (fun s wr => ∃ (h : Nat → Nat) (q : Nat), q = sm h j ∧ s = .int .i64 q ∧ Way f j h ∧ IAt 3 wr wo.heap.size j h ∧ Kp (fun _ => False) wo wr) (fun s _ => dist (intOf s).toNat)
          case atStart => exact ⟨n0 f all, q, HE0.out.symm, rfl, T0.out, HS.out, HK.out⟩
          case round =>
            clear HE0 HS HK T0 KSZ
            obtain ⟨h, q, hq, rfl, hway, hia, hkw⟩ := hrel
            have hway3 := hway.2.2
            rw [← hq] at hway3
            have HQ := Lib.hid hq
            have HWY := Lib.hid hway
            have HIA := Lib.hid hia
            have HKW := Lib.hid hkw
            clear hq hway hia hkw
            by_cases h64 : q = 64
            · subst h64
              have HD := Lib.hid (HWY.out.done HQ.out.symm)
              go_wp2_with fail
              go_ret2
              exact ⟨wo.heap.size, rfl, Nat.le_refl _, by rw [← HD.out]; exact HIA.out, HKW.out⟩
            · have b1 : ((q : Int) != 64) = true := by rw [bne_iff_ne]; omega
              go_wp2_with fail
              obtain ⟨w3, rfl⟩ : ∃ w3 : World, w3 = wr := ⟨_, rfl⟩
              have hj0 : 0 < j := hN
              go_loopw [12, 13] (fun p' i' wr => ∃ i p n5 : Nat, i ≤ j ∧ p = am h i ∧ p < j ∧ p' = .int .i64 p ∧ i' = .int .i64 i ∧ wr = w3.drewN n5) (fun _ i' _ => j - (intOf i').toNat)
              case atStart => exact ⟨0, 0, 0, Nat.zero_le _, rfl, hN, rfl, rfl, rfl⟩
              case round =>
                obtain ⟨i, p, n5, hi, hp, hpj, rfl, rfl, rfl⟩ := hrel
                have HPI := Lib.hid hp
                clear hp
                by_cases hlt : i < j
                · have d0 : ∀ q, (w3.drewN q).cell? ⟨wo.heap.size, i, none⟩ = some (.int .i64 (h i : Nat)) := fun q => HIA.out.cell hlt
                  have d1 : ∀ q, (w3.drewN q).cell? ⟨wo.heap.size, p, none⟩ = some (.int .i64 (h p : Nat)) := fun q => HIA.out.cell hpj
                  have HP2 : Hid (am h (i + 1) = if h p < h i then i else p) := Lib.hid (by rw [am, HPI.out])
                  obtain ⟨x, hx⟩ : ∃ x, x = h i := ⟨_, rfl⟩
                  obtain ⟨y, hy⟩ : ∃ y, y = h p := ⟨_, rfl⟩
                  rw [← hx] at d0 HP2
                  rw [← hy] at d1 HP2
                  clear hx hy
                  by_cases hc : y < x
                  · have b2 : decide (y < x) = true := by simpa using hc
                    have HP3 : Hid (i = am h (i + 1)) := Lib.hid (by rw [HP2.out, if_pos hc])
                    clear hc HP2
                    go_wp2_with fail
                    go_quiet (fail)
                    go_wp2_with fail
                    exact ⟨⟨i + 1, i, n5 + nq, by omega, HP3.out, hlt, rfl, by go_num, by first | trivial | rfl⟩, by simp [intOf]; try omega⟩
                  · have b2 : decide (y < x) = false := by simpa using hc
                    have HP3 : Hid (p = am h (i + 1)) := Lib.hid (by rw [HP2.out, if_neg hc])
                    clear hc HP2
                    go_wp2_with fail
                    go_quiet (fail)
                    go_wp2_with fail
                    exact ⟨⟨i + 1, p, n5 + nq, by omega, HP3.out, hpj, rfl, by go_num, by first | trivial | rfl⟩, by simp [intOf]; try omega⟩
                · obtain rfl : i = j := by omega
                  have hpos := am_pos (f := h) (N := i)
                  rw [← HQ.out] at hpos
                  have hst : sm (up h p (if q < 64 then h p + 1 else h p - 1)) i + h p = q + (if q < 64 then h p + 1 else h p - 1) := by
                    have := sm_up h p (if q < 64 then h p + 1 else h p - 1) i hpj
                    rw [← HQ.out] at this; exact this
                  have hstp : stp i h = up h p (if q < 64 then h p + 1 else h p - 1) := by
                    unfold stp; rw [← HPI.out, ← HQ.out]
                  obtain ⟨hnx1, hnx2⟩ := HWY.out.next hN hN2 (by rw [← HQ.out]; exact h64)
                  rw [hstp] at hnx1 hnx2
                  rw [← HQ.out] at hnx2
                  rw [← HPI.out] at hpos
                  have hx64 := HWY.out.2.1 p hpj
                  have d0 : (w3.drewN n5).cell? ⟨wo.heap.size, p, none⟩ = some (.int .i64 (h p : Nat)) := HIA.out.cell hpj
                  have f0 : (w3.drewN n5).frozen? ⟨wo.heap.size, p, none⟩ = false := HIA.out.free p
                  have hset := fun x => (IAt.kp HIA.out ((Kp.refl (fun _ => False) w3).drewN n5) (fun q => q)).set hpj x
                  have hks := fun x : Nat => (HKW.out.drewN n5).setCell (p := ⟨wo.heap.size, p, none⟩) (fun q => by simp only at q; omega) (.int .i64 (x : Nat))
                  have HSET := Lib.hid hset
                  have HKS := Lib.hid hks
                  obtain ⟨x, hx⟩ : ∃ x, x = h p := ⟨_, rfl⟩
                  rw [← hx] at d0 hpos hst hnx1 hnx2 hx64
                  clear hset hks hx hstp
                  by_cases hlow : q < 64
                  · rw [if_pos hlow] at hst hnx1 hnx2
                    have HN1 := Lib.hid hnx1
                    have hq1 : q + 1 = sm (up h p (x + 1)) i := by omega
                    have HQ1 := Lib.hid hq1
                    have hds : dist (q + 1) < dist q := by rw [hnx2, hq1]; omega
                    clear hnx1 hnx2 hst hpos hq1
                    go_wp2_with fail
                    exact ⟨⟨up h p (x + 1), q + 1, HQ1.out, by go_num, HN1.out, HSET.out (x + 1), HKS.out (x + 1)⟩, by simpa [intOf] using hds⟩
                  · rw [if_neg hlow] at hst hnx1 hnx2
                    have hx0 := hpos (by omega)
                    have HN1 := Lib.hid hnx1
                    have hq1 : q - 1 = sm (up h p (x - 1)) i := by omega
                    have HQ1 := Lib.hid hq1
                    have hds : dist (q - 1) < dist q := by rw [hnx2, hq1]; omega
                    have e1 : (x : Int) + -1 = ((x - 1 : Nat) : Int) := by omega
                    have e2 : (q : Int) + -1 = ((q - 1 : Nat) : Int) := by omega
                    clear hnx1 hnx2 hst hpos hq1
                    go_wp2_with fail
                    exact ⟨⟨up h p (x - 1), q - 1, HQ1.out, rfl, HN1.out, HSET.out (x - 1), HKS.out (x - 1)⟩, by simpa [intOf] using hds⟩
end Go.Proofs.YtphakpikalmghaaGreat.Ma
namespace Go.Proofs.YtphakpikalmghaaGreat.Ma
open Go Go.RowKit Go.ChangeMaps Go.MapKept Go.Mg Go.Fse Go.Proofs.YtphakpikalmghaaGreat.Hu

set_option maxRecDepth 100000 in
set_option maxHeartbeats 1000000 in
theorem digits_d (x : Nat) (hx : x ≤ 100000) (w : World) : Calls Tryz.prog 139 #[.int .i64 (x : Nat)] w fun e w' => e = .returned (.int .i64 (Lib.bitLen x : Nat)) ∧ w' = w := by
  obtain ⟨B, hB⟩ : ∃ B, B = Lib.bitLen x := ⟨_, rfl⟩
  rw [← hB]
  have HB := Lib.hid hB
  have hb2 : B ≤ 17 := by rw [hB]; exact Lib.bitLen_le x 17 (by omega) (by omega)
  clear hB
  go_enter Tryz.func139, Tryz.ntmps139
  go_wp2_with fail
  go_loop [0, 3] (fun n k => ∃ y j : Nat, y ≤ 100000 ∧ B = j + Lib.bitLen y ∧ j ≤ B ∧ n = .int .i64 y ∧ k = .int .i64 j) (fun n _ => (intOf n).toNat)
  case atStart => exact ⟨x, 0, hx, by rw [HB.out]; omega, Nat.zero_le _, rfl, rfl⟩
  case round =>
    obtain ⟨y, j, hy, hbj, hjb, rfl, rfl⟩ := hrel
    have HBJ := Lib.hid hbj
    clear hbj
    by_cases h0 : y = 0
    · subst h0
      have e : B = j := by rw [HBJ.out]; rfl
      go_wp2_with fail
      go_ret
      exact ⟨rfl, rfl⟩
    · have e := Lib.bitLen_half y h0 (by omega)
      have HE : Hid (B = (j + 1) + Lib.bitLen (y / 2)) := Lib.hid (by rw [HBJ.out, e]; omega)
      have hle : j + 1 ≤ B := by rw [HE.out]; omega
      have h1 : 0 < y := by omega
      clear e h0
      go_wp2_with fail
      refine ⟨⟨y / 2, j + 1, by omega, HE.out, hle, by go_num, by go_num⟩, by simp [intOf]; try omega⟩
theorem shares_le {f : Nat → Nat} {N : Nat} (h : Shares f N) {i : Nat} (hi : i < N) : f i ≤ 64 := by
  have := sm_le f hi
  unfold Shares at h
  omega
set_option maxRecDepth 100000 in
set_option maxHeartbeats 1000000 in
theorem is4_d (w : World) (a : Option Addr) (c N : Nat) (f : Nat → Nat) (h : IntsR w a c N f) (hN : 0 < N) (hN2 : N ≤ 32) (hs : Shares f N) :
    Calls Tryz.prog 138 #[.slice a N c, .int .i64 6] w fun e w' => e = .returned (.bool true) ∧ w' = w := by
  obtain ⟨g, o, rfl, hg, hcap, hc⟩ := h.at_ hN
  have HC := Lib.hid hc
  have HB := Lib.hid (fun i (hi : i < N) => shares_le hs hi)
  have HSB := Lib.hid (fun k (hk : k ≤ N) => sm_mono f hk)
  have HS := Lib.hid hs
  have hS : sm f N = 64 := hs
  have HS2 := Lib.hid hS
  rw [hS] at HSB
  clear h hc hs hS
  go_enter Tryz.func138, Tryz.ntmps138
  go_wp2_with fail
  go_loop [5, 6] (fun s i => ∃ k q : Nat, k ≤ N ∧ q = sm f k ∧ i = .int .i64 k ∧ s = .int .i64 q) (fun _ i => N - (intOf i).toNat)
  case atStart => exact ⟨0, 0, Nat.zero_le _, rfl, rfl, rfl⟩
  case round =>
    obtain ⟨k, q, hk, hq, rfl, rfl⟩ := hrel
    have hqa := HSB.out k hk
    rw [← hq] at hqa
    have HQ := Lib.hid hq
    clear hq
    by_cases hlt : k < N
    · have d0 := HC.out _ (Kp.refl _ _) k hlt
      have hb := HB.out k hlt
      have HQ2 : Hid (q + f k = sm f (k + 1)) := Lib.hid (by rw [sm, HQ.out])
      obtain ⟨x, hx⟩ : ∃ x, x = f k := ⟨_, rfl⟩
      rw [← hx] at d0 hb HQ2
      clear hx
      have b1 : decide ((x : Int) < 0) = false := by simp
      have b2 : decide (64 < (x : Int)) = false := by simp; omega
      go_wp2_with fail
      exact ⟨⟨k + 1, q + x, by omega, HQ2.out, by go_num, by go_num⟩, by simp [intOf]; try omega⟩
    · obtain rfl : k = N := by omega
      have eq : q = 64 := by rw [HQ.out, HS2.out]
      subst eq
      go_wp2_with fail
      go_ret
      exact ⟨rfl, rfl⟩
/-- An own row of numbers, told by a function. -/
def OwnF (B : Nat) (w : World) (a : Option Addr) (c N : Nat) (f : Nat → Nat) : Prop := OwnR w 3 1 (.slice a N c) N ((List.range N).map fun i => Value.int .i64 (f i : Nat)) ∧ ∀ k, (Value.slice a N c).ownBlock = some k → B ≤ k
theorem OwnF.kp {B : Nat} {w w' : World} {a : Option Addr} {c N : Nat} {f : Nat → Nat} {F : Nat → Prop} (h : OwnF B w a c N f) (hk : Kp F w w') (hF : ∀ k, F k → ¬ (Value.slice a N c).ownBlock = some k) : OwnF B w' a c N f :=
  ⟨h.1.kp hk (fun k q r => hF k r q), h.2⟩
theorem up_row (f : Nat → Nat) (N j x : Nat) : ((List.range N).map fun i => Value.int .i64 (f i : Nat)).set j (.int .i64 (x : Nat)) = (List.range N).map fun i => Value.int .i64 (up f j x i : Nat) := by
  apply List.ext_getElem
  · simp
  · intro i h1 h2
    simp only [List.getElem_set, List.getElem_map, List.getElem_range, up]
    by_cases e : j = i
    · subst e; simp
    · have : ¬ i = j := fun q => e q.symm
      simp [e, this]
theorem OwnF.at_ {B : Nat} {w : World} {a : Option Addr} {c N : Nat} {f : Nat → Nat} (h : OwnF B w a c N f) (h0 : 0 < N) :
    ∃ g, a = some ⟨g, 0, none⟩ ∧ N ≤ c ∧ B ≤ g ∧ g < w.heap.size ∧ ∀ j, j < N → w.cell? ⟨g, j, none⟩ = some (.int .i64 (f j : Nat)) ∧ w.frozen? ⟨g, j, none⟩ = false ∧ ∀ x : Nat, OwnF B (w.setCell ⟨g, j, none⟩ (.int .i64 (x : Nat))) a c N (up f j x) := by
  obtain ⟨h1, h2⟩ := h
  obtain ⟨g, rfl, hc, hat⟩ := h1.at1 h0
  refine ⟨g, rfl, hc, h2 g rfl, h1.lt rfl, fun j hj => ?_⟩
  obtain ⟨q1, q2, q3⟩ := hat j hj
  refine ⟨q1 _ (by simp [hj]), q2, fun x => ⟨?_, h2⟩⟩
  have := (q3 (.int .i64 (x : Nat))).1
  rw [up_row f N j x] at this
  exact this
/-- A table's cells. -/
def tcell (S B Z : Nat → Nat) : Nat → Nat := fun i => if i % 3 = 0 then S (i / 3) else if i % 3 = 1 then B (i / 3) else Z (i / 3)
theorem tcell_sym (S B Z : Nat → Nat) (u : Nat) : tcell S B Z (u * 3) = S u := by
  unfold tcell; rw [if_pos (by omega)]; congr 1; omega
theorem tcell_bits (S B Z : Nat → Nat) (u : Nat) : tcell S B Z (u * 3 + 1) = B u := by
  unfold tcell; rw [if_neg (by omega), if_pos (by omega)]; congr 1; omega
theorem tcell_base (S B Z : Nat → Nat) (u : Nat) : tcell S B Z (u * 3 + 2) = Z u := by
  unfold tcell; rw [if_neg (by omega), if_neg (by omega)]; congr 1; omega
theorem up_sym (S B Z : Nat → Nat) (u x : Nat) : up (tcell S B Z) (u * 3) x = tcell (up S u x) B Z := by
  funext i
  simp only [up, tcell]
  by_cases e : i = u * 3
  · subst e; rw [if_pos rfl, if_pos (by omega), if_pos (by omega)]
  · rw [if_neg e]
    split
    · rw [if_neg (by omega)]
    · rfl
theorem up_bits (S B Z : Nat → Nat) (u x : Nat) : up (tcell S B Z) (u * 3 + 1) x = tcell S (up B u x) Z := by
  funext i
  simp only [up, tcell]
  by_cases e : i = u * 3 + 1
  · subst e; rw [if_pos rfl, if_neg (by omega), if_pos (by omega), if_pos (by omega)]
  · rw [if_neg e]
    split
    · rfl
    · split
      · rw [if_neg (by omega)]
      · rfl
theorem up_base (S B Z : Nat → Nat) (u x : Nat) : up (tcell S B Z) (u * 3 + 2) x = tcell S B (up Z u x) := by
  funext i
  simp only [up, tcell]
  by_cases e : i = u * 3 + 2
  · subst e; rw [if_pos rfl, if_neg (by omega), if_neg (by omega), if_pos (by omega)]
  · rw [if_neg e]
    split
    · rfl
    · split
      · rfl
      · rw [if_neg (by omega)]
/-- The first u of all, nothing behind them. -/
def till (u : Nat) (B : Nat → Nat) : Nat → Nat := fun i => if i < u then B i else 0
theorem till_up (u : Nat) (B : Nat → Nat) : up (till u B) u (B u) = till (u + 1) B := by
  funext i
  unfold up till
  by_cases e : i = u
  · subst e; simp
  · by_cases q : i < u
    · have : i < u + 1 := by omega
      simp [e, q, this]
    · have : ¬ i < u + 1 := by omega
      simp [e, q, this]
def eb (f : Nat → Nat) (N u : Nat) : Nat := (ent f N u).bits
def ez (f : Nat → Nat) (N u : Nat) : Nat := (ent f N u).base
/-- Block g is the table of shares. -/
def TAt (w : World) (g : Nat) (f : Nat → Nat) (N : Nat) : Prop := IAt 135 w g 192 (tcell (sy f N) (eb f N) (ez f N))
theorem TAt.at_ {w : World} {g : Nat} {f : Nat → Nat} {N : Nat} (h : TAt w g f N) {u : Nat} (hu : u < 64) :
    w.cell? ⟨g, u * 3, none⟩ = some (.int .i64 ((ent f N u).sym : Nat)) ∧ w.cell? ⟨g, u * 3 + 1, none⟩ = some (.int .i64 ((ent f N u).bits : Nat)) ∧ w.cell? ⟨g, u * 3 + 2, none⟩ = some (.int .i64 ((ent f N u).base : Nat)) := by
  refine ⟨?_, ?_, ?_⟩
  · rw [IAt.cell h (by omega), tcell_sym]; rfl
  · rw [IAt.cell h (by omega), tcell_bits]; rfl
  · rw [IAt.cell h (by omega), tcell_base]; rfl
theorem infoE_ : (Tryz.prog.info? 135).map (fun i => (i.zero, i.size, i.bytes)) = some (some (.agg #[.int .i64 0, .int .i64 0, .int .i64 0]), 3, 24) := by kernel_rfl
set_option maxRecDepth 100000 in
theorem made_t (w : World) : ∃ W, (Instr.makeSlice 127 (.int .i64 64) (.int .i64 64)).run Tryz.prog w = .ok (.slice (some ⟨w.heap.size, 0, none⟩) 64 64) W ∧ IAt 135 W w.heap.size 192 (fun _ => 0) ∧ Kp (fun _ => False) w W ∧ w.heap.size < W.heap.size := by
  obtain ⟨i0, hi0, hz0, hz1, hz2⟩ := info_parts infoE_
  have h := run_make (P := Tryz.prog) w 127 135 i0 _ Tryz.underlying127 hi0 hz0 .i64 .i64 (64 : Int) (64 : Int) (by omega) (by omega) (by rw [hz2]; omega) (by omega)
  rw [hz1] at h
  refine ⟨_, h, ?_, (Kp.refl _ _).alloc _, by simp⟩
  unfold IAt
  rw [alloc_at w _]
  congr 2
  kernel_rfl
theorem append_nil_eq (xs : List Value) : [] ++ xs = xs := rfl
def TabPost (w : World) (f : Nat → Nat) (N : Nat) (e : Ending) (w' : World) : Prop := ∃ g, e = .returned (.tuple #[.slice (some ⟨g, 0, none⟩) 64 64, .bool true]) ∧ w.heap.size ≤ g ∧ TAt w' g f N ∧ Kp (fun _ => False) w w'
end Go.Proofs.YtphakpikalmghaaGreat.Ma
namespace Go.Proofs.YtphakpikalmghaaGreat.Ma
open Go Go.RowKit Go.ChangeMaps Go.MapKept Go.Mg Go.Fse Go.Proofs.YtphakpikalmghaaGreat.Hu

/-- A table with j symbols laid. -/
def Laid (w : World) (g : Nat) (f : Nat → Nat) (N j : Nat) : Prop := IAt 135 w g 192 (tcell (syj f N j) (fun _ => 0) (fun _ => 0))
theorem Laid.next {w : World} {g : Nat} {f : Nat → Nat} {N s k j : Nat} (h : Laid w g f N j) (hs : s < N) (hk : k < f s) (e : j = sm f s + k) (hj : j < 64) : Laid (w.setCell ⟨g, 43 * j % 64 * 3, none⟩ (.int .i64 (s : Nat))) g f N (j + 1) := by
  have := IAt.set h (i := 43 * j % 64 * 3) (by omega) s
  rw [up_sym] at this
  refine IAt.congr this (fun i hi => ?_)
  unfold tcell
  split
  · subst e
    rw [syj_next hs hk hj (i / 3) (by omega)]
    rfl
  · rfl
/-- The rows' numbers behind u states. -/
def nxt (f : Nat → Nat) (N u : Nat) : Nat → Nat := fun s => f s + ct (sy f N) s u
theorem nxt_up (f : Nat → Nat) (N u : Nat) : up (nxt f N u) (sy f N u) (nxt f N u (sy f N u) + 1) = nxt f N (u + 1) := by
  funext i
  simp only [up, nxt, ct]
  by_cases e : i = sy f N u
  · subst e; simp; omega
  · have : ¬ sy f N u = i := fun q => e q.symm
    simp [e, this]
set_option maxRecDepth 100000 in
set_option maxHeartbeats 4000000 in
theorem table_d (w : World) (a : Option Addr) (c N : Nat) (f : Nat → Nat) (h : IntsR w a c N f) (hN : 0 < N) (hN2 : N ≤ 32) (hs : Shares f N) :
    Calls Tryz.prog 115 #[.slice a N c, .int .i64 6] w (TabPost w f N) := by
  obtain ⟨i0, hi0, hz0, hz1, hz2⟩ := info_parts infoI_
  obtain ⟨g, o, rfl, hg, hcap, hc⟩ := h.at_ hN
  have HC := Lib.hid hc
  have HH := Lib.hid h
  have HI := Lib.hid (is4_d w _ c N f h hN hN2 hs)
  have HS := Lib.hid hs
  obtain ⟨W, hmk, hia, hkw, hws⟩ := made_t w
  have HL0 : Hid (Laid W w.heap.size f N 0) := Lib.hid (IAt.congr hia (fun i _ => by simp [tcell, syj_zero]))
  have HKW := Lib.hid hkw
  clear h hc hia hkw
  go_enter Tryz.func115, Tryz.ntmps115
  go_wp2_with fail
  refine HI.out.mono ?_
  rintro e w' ⟨rfl, hw'⟩
  obtain rfl := hw'
  go_wp2_with fail
  go_loopw [8, 9] (fun at' s' wr => ∃ s p : Nat, s ≤ N ∧ p = 43 * sm f s % 64 ∧ s' = .int .i64 s ∧ at' = .int .i64 p ∧ Laid wr w'.heap.size f N (sm f s) ∧ Kp (fun _ => False) w' wr) (fun _ s' _ => N - (intOf s').toNat)
  case atStart => exact ⟨0, 0, Nat.zero_le _, rfl, rfl, rfl, HL0.out, HKW.out⟩
  case round =>
    clear HL0 HKW hmk hws
    obtain ⟨s, p, hs, hp, rfl, rfl, hl, hk⟩ := hrel
    have HP := Lib.hid hp
    have HLL := Lib.hid hl
    have HK := Lib.hid hk
    clear hp hl hk
    obtain ⟨w1, rfl⟩ : ∃ w1 : World, w1 = wr := ⟨_, rfl⟩
    by_cases hlt : s < N
    · have hfs := shares_le HS.out hlt
      have hsm : sm f s + f s ≤ 64 := by have := sm_mono f (show s + 1 ≤ N by omega); have := HS.out; unfold Shares at this; simp only [sm] at *; omega
      go_wp2_with fail
      go_loopw [8, 10] (fun at' k' wr => ∃ k p j : Nat, k ≤ f s ∧ j = sm f s + k ∧ p = 43 * j % 64 ∧ k' = .int .i64 k ∧ at' = .int .i64 p ∧ Laid wr w'.heap.size f N j ∧ Kp (fun _ => False) w' wr) (fun _ k' _ => f s - (intOf k').toNat)
      case atStart => exact ⟨0, p, sm f s, Nat.zero_le _, rfl, HP.out, rfl, rfl, HLL.out, HK.out⟩
      case round =>
        clear HP HLL HK
        obtain ⟨k, p, j, hkf, hj, hp, rfl, rfl, hl, hk⟩ := hrel
        have HP := Lib.hid hp
        have HJ := Lib.hid hj
        have HK := Lib.hid hk
        have hp64 : p < 64 := by omega
        have hjk : j ≤ 64 := by omega
        have d0 := HC.out _ hk s hlt
        by_cases hkl : k < f s
        · have HNX := Lib.hid (hl.next hlt hkl hj (by omega))
          have hks : Kp (fun _ => False) w' (wr.setCell ⟨w'.heap.size, p * 3, none⟩ (.int .i64 (s : Nat))) := hk.setCell (p := ⟨w'.heap.size, p * 3, none⟩) (fun q => by simp only at q; omega) _
          have c1 := IAt.cell hl (i := p * 3) (by omega)
          have f1 := IAt.free hl (p * 3)
          have hp2 : ((p : Int) + 32 + 8 + 3) % 64 = ((43 * (j + 1) % 64 : Nat) : Int) := by omega
          rw [← hp] at HNX
          have HKS := Lib.hid hks
          obtain ⟨p2, hpp⟩ : ∃ p2, p2 = 43 * (j + 1) % 64 := ⟨_, rfl⟩
          rw [← hpp] at hp2
          have HP2 := Lib.hid hp2
          have HPP := Lib.hid hpp
          obtain ⟨x, hx⟩ : ∃ x, x = f s := ⟨_, rfl⟩
          rw [← hx] at d0 hkl hfs
          generalize tcell (syj f N j) (fun _ => 0) (fun _ => 0) (p * 3) = y at c1
          have HX := Lib.hid hx
          clear hl hk hks hj hp hpp hx hsm hkf hp2
          go_wp2_with fail
          exact ⟨⟨k + 1, p2, j + 1, by rw [← HX.out]; omega, by rw [HJ.out]; omega, HPP.out, by go_num, by rw [HP2.out], HNX.out, HKS.out⟩, by simp [intOf]; have := HX.out; omega⟩
        · obtain rfl : k = f s := by omega
          have HL2 : Hid (Laid wr w'.heap.size f N (sm f (s + 1))) := Lib.hid (by rw [sm, ← HJ.out]; exact hl)
          have HP2 : Hid (p = 43 * sm f (s + 1) % 64) := Lib.hid (by rw [HP.out, HJ.out]; rfl)
          obtain ⟨x, hx⟩ : ∃ x, x = f s := ⟨_, rfl⟩
          rw [← hx] at d0 hfs ⊢
          clear hl hk hj hp hsm hkl hkf hx HJ HP
          go_wp2_with fail
          exact ⟨⟨s + 1, p, by omega, HP2.out, by go_num, rfl, HL2.out, HK.out⟩, by simp [intOf]; try omega⟩
    · obtain rfl : s = N := by omega
      have hS : sm f s = 64 := HS.out
      have HT0 : Hid (IAt 135 w1 w'.heap.size 192 (tcell (sy f s) (till 0 (eb f s)) (till 0 (ez f s)))) := Lib.hid (by
        have := HLL.out
        unfold Laid at this
        rw [hS] at this
        refine IAt.congr this (fun i hi => ?_)
        unfold tcell till
        split
        · exact syj_all _ _ _
        · simp)
      have K1 := Lib.hid (kp_alloc w1 (.cells #[] 3))
      have O1 := Lib.hid (own_none w1 3 1)
      have HN2 := Lib.hid ((HH.out.kp HK.out).kp K1.out)
      clear hS HLL
      go_wp2_with (at_builtin; refine wpList_app _ rfl _ _ 51 rfl 3 i0 _ 1 8 Tryz.underlying51 hi0 hz0 hz1 hz2 rfl (by decide) (by decide) (.slice (some ⟨w1.heap.size, 0, none⟩) 0 0) 0 [] rfl O1.out (.slice (some ⟨g, o, none⟩) s c) s _ rfl HN2.out (fun u hu => by obtain ⟨_, _, rfl⟩ := List.mem_map.1 hu; rfl) (by omega) ?_; intro v' w2 g1 g2 g3 g4 g5; rw [Nat.zero_add, List.nil_append] at g1; obtain ⟨b1, d1, rfl⟩ := g1.form; have G1 := Lib.hid g1; have G2 := Lib.hid g2; have G3 := Lib.hid g3; clear g1 g2 g3 g4 g5)
      have K2 : Hid (Kp (fun _ => False) w1 w2) := Lib.hid (K1.out.trans2 G2.out (fun i hi q => by have := own_b q; omega))
      have R0 : Hid (OwnF w1.heap.size w2 b1 d1 s (nxt f s 0)) := Lib.hid ⟨by
        have := G1.out
        have e : ((List.range s).map fun i => Value.int .i64 (nxt f s 0 i : Nat)) = (List.range s).map fun i => Value.int .i64 (f i : Nat) := by
          apply List.map_congr_left; intro i _; simp [nxt, ct]
        rw [e]; exact this, fun k hk => by
        rcases G3.out with q | q
        · rw [q] at hk; have := own_b hk; omega
        · rw [hk] at q; simp at q; omega⟩
      have HT1 := Lib.hid (IAt.kp HT0.out K2.out (fun q => q))
      have hT : w'.heap.size < w1.heap.size := lt_of_at HT0.out
      have KT := Lib.hid (HK.out.trans K2.out)
      clear G1 G2 G3 K1 O1 HN2 HT0 K2
      obtain ⟨T, hTe⟩ : ∃ T, T = w'.heap.size := ⟨_, rfl⟩
      rw [← hTe] at HT1 hT ⊢
      have HTE := Lib.hid hTe
      clear hTe
      go_loopw [12, 13] (fun u' s' wr => ∃ u : Nat, u ≤ 64 ∧ u' = .int .i64 u ∧ IAt 135 wr T 192 (tcell (sy f s) (till u (eb f s)) (till u (ez f s))) ∧ OwnF w1.heap.size wr b1 d1 s (nxt f s u) ∧ Kp (fun _ => False) w' wr) (fun u' _ _ => 64 - (intOf u').toNat)
      case atStart => exact ⟨0, Nat.zero_le _, rfl, HT1.out, R0.out, KT.out⟩
      case round =>
        clear HT1 R0 KT HP HK
        obtain ⟨u, hu, rfl, hi, ho, hk⟩ := hrel
        have HI5 := Lib.hid hi
        have HO5 := Lib.hid ho
        have HK5 := Lib.hid hk
        clear hi ho hk
        by_cases hlt : u < 64
        · obtain ⟨n1, n2, n3, n4, n5, n6, n7⟩ := ent_rng HS.out hlt
          have hn8 := xx_rng HS.out hlt
          have hv : sy f s u < s := n1
          obtain ⟨gx, rfl, hcx, hgx, _, hat⟩ := HO5.out.at_ hN
          obtain ⟨r1, r2, r3⟩ := hat _ hv
          have t0 := IAt.cell HI5.out (i := u * 3) (by omega)
          have t1 := IAt.cell HI5.out (i := u * 3 + 1) (by omega)
          have t2 := IAt.cell HI5.out (i := u * 3 + 2) (by omega)
          have g1 := IAt.free HI5.out (u * 3 + 1)
          rw [tcell_sym] at t0
          rw [tcell_bits] at t1
          rw [tcell_base] at t2
          have ex : nxt f s u (sy f s u) = xx f s u := rfl
          have eb1 : eb f s u = 7 - Lib.bitLen (xx f s u) := rfl
          have ez1 : ez f s u = xx f s u * 2 ^ (7 - Lib.bitLen (xx f s u)) - 64 := rfl
          rw [ex] at r1
          have hset1 := IAt.set HI5.out (i := u * 3 + 1) (by omega) (eb f s u)
          rw [up_bits, till_up, eb1] at hset1
          obtain ⟨v, hve⟩ : ∃ v, v = sy f s u := ⟨_, rfl⟩
          obtain ⟨x, hx⟩ : ∃ x, x = xx f s u := ⟨_, rfl⟩
          rw [← hve] at t0 r1 r2 hv r3
          clear n4 n6
          rw [← hx] at r1 n2 n3 n5 n7 hn8 hset1 eb1 ez1
          have DG := Lib.hid (digits_d x (by omega))
          obtain ⟨B, hB⟩ : ∃ B, B = Lib.bitLen x := ⟨_, rfl⟩
          rw [← hB] at n2 n3 n5 n7 hset1 DG eb1 ez1
          have e1 : (6 : Int) - (B : Nat) + 1 = ((7 - B : Nat) : Int) := by omega
          obtain ⟨b, hb⟩ : ∃ b, b = 7 - B := ⟨_, rfl⟩
          rw [← hb] at n5 n7 hset1 e1 eb1 ez1
          have hb6 : b ≤ 6 := by omega
          generalize till u (eb f s) u = y1 at t1
          generalize till u (ez f s) u = y2 at t2
          have HS1 := Lib.hid hset1
          have HVE := Lib.hid hve
          have HXE := Lib.hid hx
          have HEZ := Lib.hid ez1
          have HEB := Lib.hid eb1
          have R3 := Lib.hid r3
          have hx127 := hn8.2
          clear hset1 hve hx ez1 eb1 ex r3 hat hn8 hb hB n1
          go_wp2_with fail
          refine (DG.out _).mono ?_
          rintro e w5 ⟨rfl, hw5⟩
          obtain rfl := hw5
          go_wp2_with fail
          have hi1 := HS1.out
          have hk1 : Kp (· = T) w5 (w5.setCell ⟨T, u * 3 + 1, none⟩ (.int .i64 (b : Nat))) := (Kp.refl (· = T) w5).setCell (p := ⟨T, u * 3 + 1, none⟩) (fun _ => rfl) _
          have ho1 := OwnF.kp HO5.out hk1 (fun k q r => by have := own_b r; omega)
          obtain ⟨W1, hW1⟩ : ∃ W1, W1 = w5.setCell ⟨T, u * 3 + 1, none⟩ (.int .i64 (b : Nat)) := ⟨_, rfl⟩
          rw [← hW1] at hi1 hk1 ho1 ⊢
          have q1 := IAt.cell hi1 (i := u * 3 + 1) (by omega)
          have q2 := IAt.cell hi1 (i := u * 3 + 2) (by omega)
          have q3 := IAt.free hi1 (u * 3 + 2)
          rw [tcell_bits] at q1
          rw [tcell_base] at q2
          have eb2 : till (u + 1) (eb f s) u = b := by unfold till; rw [if_pos (by omega)]; exact HEB.out
          rw [eb2] at q1
          have hset2 := IAt.set hi1 (i := u * 3 + 2) (by omega) (ez f s u)
          rw [up_base, till_up] at hset2
          obtain ⟨z, hz⟩ : ∃ z, z = ez f s u := ⟨_, rfl⟩
          rw [← hz] at hset2
          have hzv : z = x * 2 ^ b - 64 := by rw [hz]; exact HEZ.out
          have hzi : (x : Int) * 2 ^ b - 64 = (z : Nat) := by
            have : ((x * 2 ^ b : Nat) : Int) = (x : Int) * 2 ^ b := by simp
            omega
          have hlow : (x : Int) * 2 ^ b ≤ 127 := by
            have : ((x * 2 ^ b : Nat) : Int) = (x : Int) * 2 ^ b := by simp
            omega
          have hup : 64 ≤ (x : Int) * 2 ^ b := by
            have : ((x * 2 ^ b : Nat) : Int) = (x : Int) * 2 ^ b := by simp
            omega
          have hk2 : Kp (· = T) W1 (W1.setCell ⟨T, u * 3 + 2, none⟩ (.int .i64 (z : Nat))) := (Kp.refl (· = T) W1).setCell (p := ⟨T, u * 3 + 2, none⟩) (fun _ => rfl) _
          have ho2 := OwnF.kp ho1 hk2 (fun k q r => by have := own_b r; omega)
          obtain ⟨gx', e', _, _, _, hat1⟩ := ho1.at_ hN
          cases e'
          obtain ⟨p1, p2, _⟩ := hat1 _ hv
          obtain ⟨gx', e', _, _, _, hat2⟩ := ho2.at_ hN
          cases e'
          obtain ⟨p3, p4, p5⟩ := hat2 _ hv
          rw [HVE.out] at p1 p3
          have exn : nxt f s u (sy f s u) = x := HXE.out.symm
          rw [exn, ← HVE.out] at p1 p3
          generalize till u (ez f s) u = y3 at q2
          have HW1 := Lib.hid hW1
          have HK1 := Lib.hid hk1
          have HSET2 := Lib.hid hset2
          have HK2 := Lib.hid hk2
          have P5 := Lib.hid p5
          have hxb : (2 : Int) ^ b ≤ 64 := by
            have : (2 : Nat) ^ b ≤ 2 ^ 6 := Nat.pow_le_pow_right (by omega) hb6
            have h6 : (2 : Nat) ^ 6 = 64 := rfl
            have : ((2 ^ b : Nat) : Int) = (2 : Int) ^ b := by simp
            omega
          clear hi1 hk1 ho1 hW1 hset2 hz hzv hk2 ho2 hat1 hat2 p5 exn r1 r2 t0 t1 t2 g1 e1 n7 n5
          go_region
          all_goals (go_wp2_with fail)
          have hn := P5.out (x + 1)
          have ex1 : x + 1 = nxt f s u (sy f s u) + 1 := by rw [HXE.out]; rfl
          rw [HVE.out, ex1, nxt_up, ← ex1, ← HVE.out] at hn
          have hkk : Kp (fun _ => False) w' (((W1.setCell ⟨T, u * 3 + 2, none⟩ (.int .i64 (z : Nat))).setCell ⟨gx, v, none⟩ (.int .i64 ((x + 1 : Nat)))).drew) :=
            (((HK5.out.trans2 HK1.out (fun i hi q => by have := HTE.out; omega)).setCell (p := ⟨T, u * 3 + 2, none⟩) (fun q => by have := HTE.out; simp only at q; omega) _).setCell (p := ⟨gx, v, none⟩) (fun q => by have := HTE.out; simp only at q; omega) _).drew
          have hii : IAt 135 ((W1.setCell ⟨T, u * 3 + 2, none⟩ (.int .i64 (z : Nat))).setCell ⟨gx, v, none⟩ (.int .i64 ((x + 1 : Nat)))) T 192 (tcell (sy f s) (till (u + 1) (eb f s)) (till (u + 1) (ez f s))) :=
            IAt.kp HSET2.out ((Kp.refl (· = gx) _).setCell (p := ⟨gx, v, none⟩) (fun _ => rfl) _) (fun q => by omega)
          exact ⟨⟨u + 1, by omega, by go_num, hii, hn, hkk⟩, by simp [intOf]; try omega⟩
        · obtain rfl : u = 64 := by omega
          have HFIN : Hid (TAt wr T f s) := Lib.hid (IAt.congr HI5.out (fun i hi => by
            unfold tcell till
            split
            · rfl
            · split
              · rw [if_pos (by omega)]
              · rw [if_pos (by omega)]))
          go_wp2_with fail
          go_ret2
          exact ⟨T, rfl, by have := HTE.out; omega, HFIN.out, HK5.out⟩
end Go.Proofs.YtphakpikalmghaaGreat.Ma
