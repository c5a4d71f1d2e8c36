/- Lengths of counts may be; who has none has no length; who has more is not longer: in plain words. Counts of bytes, their lengths. block, in plain words: bytes as a row, data as a block. block: the document's same, two, Row. -/
import Derived.Shelf.Small.Bits
import Derived.WalkMore
import Derived.Laws.MakeOwn
import Derived.Laws.Bits128
import Derived.Test.YtmioiaeiflbmhaaGreatX04
import Derived.Test.YtmioiaeiflbmhaaGreatX12
import Derived.Test.YtmioiaeiflbmhaaGreatX17
import Derived.Test.YtmioiaeiflbmhaaGreatX06
namespace Go.Hf
theorem mem_forest {cs : List Nat} {t : Tr} (h : t ∈ forest cs) : ∃ j, ∃ h : j < cs.length, t = leaf j cs[j] ∧ 0 < cs[j] := by
  obtain ⟨j, hj, e, h⟩ := mem_forestFrom h
  rw [Nat.zero_add] at e
  exact ⟨j, hj, e, h⟩
theorem forest_at {cs : List Nat} {j : Nat} (hj : j < cs.length) (h : 0 < cs[j]) : leaf j cs[j] ∈ forest cs := by
  have := forestFrom_at (k := 0) hj h
  rwa [Nat.zero_add] at this
theorem Jd.pos {cs : List Nat} {L : Nat → Nat} (h : Jd cs L) (i : Nat) : 0 < L i ↔ ∃ h : i < cs.length, 0 < cs[i] := by
  rcases h with ⟨t, e, rfl⟩ | ⟨hn, hr⟩
  · obtain ⟨j, hj, et, hp⟩ := mem_forest (t := t) (by rw [e]; simp)
    have em : t.m = j := by rw [et]; rfl
    simp only
    constructor
    · intro q
      split at q
      · rename_i ei
        subst ei
        rw [em]
        exact ⟨hj, hp⟩
      · omega
    · rintro ⟨hi, hpi⟩
      have := forest_at hi hpi
      rw [e, List.mem_singleton] at this
      have : t.m = i := by rw [← this]; rfl
      rw [if_pos this.symm]
      omega
  · have hF := Fst.start cs
    obtain ⟨D, d1, d0, d2, _⟩ := hr.depths hF.nd hF.mem (fun t ht => by obtain ⟨j, hj, rfl, h⟩ := mem_forest ht; exact h)
    constructor
    · intro q
      apply Classical.byContradiction
      intro hno
      have := d0 i (fun t ht hi => by
        obtain ⟨j, hj, rfl, h⟩ := mem_forest ht
        simp only [leaf, List.mem_singleton] at hi
        subst hi
        exact hno ⟨hj, h⟩)
      omega
    · rintro ⟨hi, hpi⟩
      have ht := forest_at hi hpi
      have h2 : 2 ≤ (forest cs).length := by
        have := List.length_pos_of_mem ht
        omega
      have := d1 _ ht i (by simp [leaf])
      have := d2 h2 _ ht
      omega
theorem half_pos (c : Nat) : 0 < half c ↔ 0 < c := by unfold half; omega
theorem IsLens.pos {cs : List Nat} {L : Nat → Nat} (h : IsLens cs L) (i : Nat) : 0 < L i ↔ ∃ h : i < cs.length, 0 < cs[i] := by
  induction h with
  | done h _ => exact h.pos i
  | half _ _ _ ih =>
    rw [ih]
    constructor
    · rintro ⟨h, q⟩
      have h' := h
      rw [List.length_map] at h'
      refine ⟨h', ?_⟩
      rw [List.getElem_map, half_pos] at q
      exact q
    · rintro ⟨h, q⟩
      exact ⟨by rw [List.length_map]; exact h, by rw [List.getElem_map, half_pos]; exact q⟩
theorem IsLens.le {cs : List Nat} {L : Nat → Nat} (h : IsLens cs L) (i : Nat) (hi : i < cs.length) : L i ≤ 11 := by
  induction h with
  | done _ hs => exact hs i hi
  | half _ _ _ ih => exact ih (by rw [List.length_map]; exact hi)
def KR (F : List Tr) (L : Nat → Nat) : Prop := ∀ t, t ∈ F → ∀ M, (∀ i, i ∈ t.s → L i ≤ M) → (t.s.map fun i => 2 ^ (M - L i)).sum = 2 ^ M
theorem Run.kraft {F : List Tr} {L L' : Nat → Nat} (h : Run F L L') (hn : (F.flatMap Tr.s).Nodup) (hk : KR F L) (h0 : F ≠ []) : ∀ M, (∀ i, i ∈ F.flatMap Tr.s → L' i ≤ M) → ((F.flatMap Tr.s).map fun i => 2 ^ (M - L' i)).sum = 2 ^ M := by
  induction h with
  | stop hl =>
    rename_i F L
    intro M hM
    match F, hl, h0 with
    | [t], _, _ =>
      simp only [List.flatMap_cons, List.flatMap_nil, List.append_nil] at hM ⊢
      exact hk t (by simp) M hM
  | step hp ha hb hc hr hrun ih =>
    rename_i F L L' a b c r r'
    have hnd := ((hp.flatMap_right Tr.s).nodup_iff).1 hn
    rw [List.flatMap_cons, List.flatMap_cons] at hnd
    have hcr : (c.s ++ r.flatMap Tr.s).Perm (a.s ++ (b.s ++ r.flatMap Tr.s)) := by rw [← List.append_assoc]; exact hc.s.append_right _
    have hcn : (c.s ++ r.flatMap Tr.s).Nodup := (hcr.nodup_iff).2 hnd
    have hcs := (nodup_app.1 hcn).1
    have hFr : (F.flatMap Tr.s).Perm (r'.flatMap Tr.s) := by
      refine (hp.flatMap_right Tr.s).trans (List.Perm.trans ?_ (hr.flatMap_right Tr.s).symm)
      rw [List.flatMap_cons, List.flatMap_cons, List.flatMap_cons]
      exact hcr.symm
    have hcnt : ∀ i, i ∈ c.s → bump c.s L i = L i + 1 := fun i hi => by
      have := List.count_pos_iff.2 hi
      have := count_le_one hcs i
      unfold bump; omega
    have hnot : ∀ t, t ∈ r → ∀ i, i ∈ t.s → bump c.s L i = L i := fun t ht i hi => bump_not (fun hic => (nodup_app.1 hcn).2.2 i hic (List.mem_flatMap.2 ⟨t, ht, hi⟩)) L
    intro M hM
    have e := ih (((hr.flatMap_right Tr.s).nodup_iff).2 (by rw [List.flatMap_cons]; exact hcn)) ?_ (fun q => by have := hr.length_eq; rw [q] at this; simp at this) M (fun i hi => hM i (hFr.mem_iff.2 hi))
    · rw [sum_perm (hFr.map _)]; exact e
    · intro t ht M' hM'
      rcases List.mem_cons.1 (hr.mem_iff.1 ht) with rfl | ht
      · by_cases hs : t.s = []
        · exfalso
          have h1 := hk a (hp.mem_iff.2 (by simp)) 0 (fun i hi => by
            have := hc.mem_s.2 (.inl hi)
            rw [hs] at this; cases this)
          have h2 : a.s = [] := by
            cases h : a.s with
            | nil => rfl
            | cons x l => have := hc.mem_s.2 (.inl (by rw [h]; exact List.mem_cons_self)); rw [hs] at this; cases this
          rw [h2] at h1
          simp at h1
        · obtain ⟨x, hx⟩ := List.exists_mem_of_ne_nil _ hs
          have h1 := hM' x hx
          rw [hcnt x hx] at h1
          obtain ⟨M1, rfl⟩ : ∃ M1, M' = M1 + 1 := ⟨M' - 1, by omega⟩
          have hle : ∀ i, i ∈ t.s → L i ≤ M1 := fun i hi => by have := hM' i hi; rw [hcnt i hi] at this; omega
          have e1 : (t.s.map fun i => 2 ^ (M1 + 1 - bump t.s L i)) = t.s.map fun i => 2 ^ (M1 - L i) := List.map_congr_left (fun i hi => by rw [hcnt i hi]; congr 1; omega)
          rw [e1, sum_perm (hc.s.map _), List.map_append, List.sum_append, hk a (hp.mem_iff.2 (by simp)) M1 (fun i hi => hle i (hc.mem_s.2 (.inl hi))), hk b (hp.mem_iff.2 (by simp)) M1 (fun i hi => hle i (hc.mem_s.2 (.inr hi)))]
          rw [Nat.pow_succ]
          omega
      · have e1 : (t.s.map fun i => 2 ^ (M' - bump c.s L i)) = t.s.map fun i => 2 ^ (M' - L i) := List.map_congr_left (fun i hi => by rw [hnot t ht i hi])
        rw [e1]
        exact hk t (hp.mem_iff.2 (by simp [ht])) M' (fun i hi => by have := hM' i hi; rwa [hnot t ht i hi] at this)
theorem KR.start (cs : List Nat) : KR (forest cs) (fun _ => 0) := by
  intro t ht M _
  obtain ⟨j, hj, rfl, _⟩ := mem_forest ht
  simp [leaf]
def lensOf (N : Nat) (L : Nat → Nat) : List Int := (List.range N).map fun i => (L i : Int)
theorem lensOf_succ (N : Nat) (L : Nat → Nat) : lensOf (N + 1) L = lensOf N L ++ [(L N : Int)] := by simp [lensOf, List.range_succ]
theorem isSt_lens (L : Nat → Nat) : ∀ (cs : List Nat), (∀ i (h : i < cs.length), 0 < L i ↔ 0 < cs[i]) → (isSt (lensOf cs.length L)).1 = ((forest cs).map fun t => 2 ^ (11 - L t.m)).sum ∧ (isSt (lensOf cs.length L)).2.1 = (forest cs).length := by
  intro cs
  have h : ∀ l : List Nat, (∀ i (h : i < l.reverse.length), 0 < L i ↔ 0 < l.reverse[i]) → (isSt (lensOf l.reverse.length L)).1 = ((forest l.reverse).map fun t => 2 ^ (11 - L t.m)).sum ∧ (isSt (lensOf l.reverse.length L)).2.1 = (forest l.reverse).length := by
    intro l
    induction l with
    | nil => intro _; simp [lensOf, isSt, forest, forestFrom]
    | cons c l ih =>
      intro hp
      rw [List.reverse_cons] at hp ⊢
      have hl : (l.reverse ++ [c]).length = l.reverse.length + 1 := by simp
      have ih := ih (fun i h => by
        have := hp i (by rw [hl]; omega)
        rwa [List.getElem_append_left h] at this)
      have hc := hp l.reverse.length (by rw [hl]; omega)
      rw [List.getElem_append_right (Nat.le_refl _)] at hc
      simp only [Nat.sub_self, List.getElem_cons_zero] at hc
      rw [hl, lensOf_succ, isSt_snoc, forest_snoc]
      unfold isStep
      by_cases q : 0 < c
      · have q2 := hc.2 q
        rw [if_pos (by omega), if_pos q]
        simp only [List.map_append, List.sum_append, List.length_append, List.map_cons, List.map_nil, List.sum_cons, List.sum_nil, List.length_cons, List.length_nil, leaf, Int.toNat_natCast]
        omega
      · have q2 : ¬ 0 < L l.reverse.length := fun z => q (hc.1 z)
        rw [if_neg (by omega), if_neg q]
        simpa using ih
  have := h cs.reverse
  rw [List.reverse_reverse] at this
  exact this
theorem forest_syms (cs : List Nat) : (forest cs).flatMap Tr.s = (forest cs).map Tr.m := forestFrom_syms
theorem Jd.isOk {cs : List Nat} {L : Nat → Nat} (h : Jd cs L) (hl : cs.length ≤ 256) (hs : ∀ i, i < cs.length → L i ≤ 11) : IsOk (lensOf cs.length L) ↔ ∃ c, c ∈ cs ∧ 0 < c := by
  have hpos : ∀ i (h : i < cs.length), 0 < L i ↔ 0 < cs[i] := fun i hi => by rw [h.pos i]; exact ⟨fun ⟨_, q⟩ => q, fun q => ⟨hi, q⟩⟩
  obtain ⟨h1, h2⟩ := isSt_lens L cs hpos
  have hin : InR (lensOf cs.length L) := by
    intro x hx
    obtain ⟨i, hi, rfl⟩ := List.mem_map.1 hx
    have := hs i (List.mem_range.1 hi)
    omega
  have hlen : (lensOf cs.length L).length ≤ 256 := by simp [lensOf]; exact hl
  have hex : (∃ c, c ∈ cs ∧ 0 < c) ↔ forest cs ≠ [] := by
    constructor
    · rintro ⟨c, hc, hp⟩ e
      obtain ⟨j, hj, rfl⟩ := List.getElem_of_mem hc
      have := forest_at hj hp
      rw [e] at this; cases this
    · intro hne
      obtain ⟨t, ht⟩ := List.exists_mem_of_ne_nil _ hne
      obtain ⟨j, hj, _, hp⟩ := mem_forest ht
      exact ⟨_, List.getElem_mem hj, hp⟩
  rw [hex]
  constructor
  · rintro ⟨_, _, h | h⟩ e
    · rw [h2, e] at h; simp at h
    · rw [h1, e] at h; simp at h
  · intro hne
    refine ⟨hlen, hin, ?_⟩
    rcases h with ⟨t, e, rfl⟩ | ⟨hn, hr⟩
    · left
      rw [e] at h1 h2
      have h3 : (isSt (lensOf cs.length fun i => if i = t.m then 1 else 0)).1 = 2 ^ 10 := by rw [h1]; simp
      have h4 : (isSt (lensOf cs.length fun i => if i = t.m then 1 else 0)).2.1 = 1 := by rw [h2]; rfl
      obtain ⟨h5, h6⟩ := (isSt_one hin).2 h4
      refine ⟨h4, ?_⟩
      rw [h3] at h5
      apply Classical.byContradiction
      intro q
      have h7 : 2 ^ (11 - (isSt (lensOf cs.length fun i => if i = t.m then 1 else 0)).2.2.toNat) ≤ 2 ^ 9 := Nat.pow_le_pow_right (by omega) (by omega)
      have e9 : 2 ^ 9 = 512 := rfl
      have e10 : 2 ^ 10 = 1024 := rfl
      omega
    · right
      have hF := Fst.start cs
      have hk := hr.kraft hF.nd (KR.start cs) hne 11 (fun i hi => by
        obtain ⟨t, ht, hit⟩ := List.mem_flatMap.1 hi
        exact hs i (hF.lt t ht i hit))
      rw [forest_syms, List.map_map] at hk
      rw [h1]
      exact hk
theorem IsLens.isOk {cs : List Nat} {L : Nat → Nat} (h : IsLens cs L) (hl : cs.length ≤ 256) : IsOk (lensOf cs.length L) ↔ ∃ c, c ∈ cs ∧ 0 < c := by
  induction h with
  | done h hs => exact h.isOk hl hs
  | half _ _ _ ih =>
    have := ih (by rw [List.length_map]; exact hl)
    rw [List.length_map] at this
    rw [this]
    constructor
    · rintro ⟨c, hc, hp⟩
      obtain ⟨d, hd, rfl⟩ := List.mem_map.1 hc
      exact ⟨d, hd, (half_pos d).1 hp⟩
    · rintro ⟨c, hc, hp⟩
      exact ⟨_, List.mem_map.2 ⟨c, hc, rfl⟩, (half_pos c).2 hp⟩
theorem IsLens.more {cs : List Nat} {L : Nat → Nat} {lo : Nat} (h : IsLens cs L) (hlo : ∀ c, c ∈ cs → 0 < c → lo ≤ c) (hlo0 : 0 < lo) (hsum : cs.sum ≤ 144 * lo) {i k : Nat} (hi : i < cs.length) (hk : k < cs.length) (hpk : 0 < cs[k]) (hlt : cs[k] < cs[i]) : L i ≤ L k := by
  cases h with
  | half h hs _ =>
    obtain ⟨j, _, hj⟩ := hs
    exfalso
    have h2 := h.heights hlo (Nat.lt_trans (by decide : 1 < 11) hj)
    have h3 := fib_mono (Nat.add_le_add_right hj 2)
    have h4 := Nat.mul_le_mul_right lo h3
    have h5 : fib (11 + 1 + 2) = 377 := rfl
    rw [show Nat.succ 11 + 2 = 11 + 1 + 2 from rfl, h5] at h4
    omega
  | done h _ =>
    have hpi : 0 < cs[i] := by omega
    have ti := forest_at hi hpi
    have tk := forest_at hk hpk
    have hne : leaf k cs[k] ≠ leaf i cs[i] := fun e => by
      have : (leaf k cs[k]).n = (leaf i cs[i]).n := by rw [e]
      simp [leaf] at this
      omega
    obtain ⟨r, hr⟩ := perm_pick tk ti hne
    rcases h with ⟨t, e, rfl⟩ | ⟨hn, hrun⟩
    · have := hr.length_eq
      rw [e] at this
      simp at this
    · have hF := Fst.start cs
      obtain ⟨D, d1, _, _, dP, _⟩ := hrun.depths hF.nd hF.mem (fun t ht => by obtain ⟨j, hj, rfl, h⟩ := mem_forest ht; exact h)
      have e1 := d1 _ ti i (by simp [leaf])
      have e2 := d1 _ tk k (by simp [leaf])
      have := dP _ _ r hr hlt
      omega
end Go.Hf
namespace Go.Proofs.YtmioiaeiflbmhaaGreat.Rd
open Go Go.RowKit Go.ChangeMaps Go.MapKept Go.Mg Go.Hf Go.Sort Go.Proofs.YtmioiaeiflbmhaaGreat.Hu Go.Proofs.YtmioiaeiflbmhaaGreat.Bw Go.Proofs.YtmioiaeiflbmhaaGreat.He
theorem lens_row (n : Nat) (L : Nat → Nat) : ((List.range n).map fun i => Hu.nv (L i)) = (lensOf n L).map (Value.int .i64) := by
  rw [lensOf, List.map_map]; rfl
theorem lens_len (n : Nat) (L : Nat → Nat) : (lensOf n L).length = n := by simp [lensOf]
theorem made {w : World} {n : Nat} {cur : Array Value} (hc : cur.toList = List.replicate n (Hu.nv 0)) : CAt (w.alloc (.cells cur 3)) w.heap.size n (fun _ => 0) := by
  unfold CAt
  rw [alloc_at w _]
  congr 2
  apply Array.toList_inj.1
  rw [hc]
  apply List.ext_getElem
  · simp
  · intro i h1 h2
    simp [Hu.nv]
theorem lf_lens (N : Nat) (L : Nat → Nat) {i : Nat} (h : i < N) : lf (lensOf N L) i = (L i : Int) := by
  rw [lf_at (by simp [lensOf]; exact h)]
  simp [lensOf]
theorem lens_nm {B : Nat} {w : World} {a : Option Addr} {c n : Nat} {L : Nat → Nat} (h : Lo B w (.slice a n c) n L) : Nm w a c (lensOf n L) := by
  have := h.row.sl
  rw [lens_row] at this
  unfold Nm
  rw [lens_len]
  exact this
/-! ### Counts -/
def cnt (l : List UInt8) : Nat → Nat → Nat
  | 0, _ => 0
  | k + 1, s => cnt l k s + (if s = sym l k then 1 else 0)
theorem cnt_le (l : List UInt8) (k s : Nat) : cnt l k s ≤ k := by
  induction k with
  | zero => simp [cnt]
  | succ k ih => simp only [cnt]; split <;> omega
theorem cnt_pos (l : List UInt8) {j : Nat} : ∀ {k}, j < k → 0 < cnt l k (sym l j)
  | 0, h => by omega
  | k + 1, h => by
    simp only [cnt]
    by_cases e : j = k
    · subst e; simp
    · have := cnt_pos l (show j < k by omega); omega
def cts (l : List UInt8) : List Nat := (List.range 256).map (cnt l l.length)
theorem cts_len (l : List UInt8) : (cts l).length = 256 := by simp [cts]
theorem sum_le (f : Nat → Nat) (b : Nat) : ∀ n, (∀ i, f i ≤ b) → ((List.range n).map f).sum ≤ n * b
  | 0, _ => by simp
  | n + 1, h => by
    rw [List.range_succ, List.map_append, List.sum_append]
    have := sum_le f b n h
    have := h n
    rw [Nat.add_mul]
    simp
    omega
theorem cts_sum (l : List UInt8) : (cts l).sum ≤ 256 * l.length := sum_le _ _ _ (fun i => cnt_le l _ i)
theorem cts_row (l : List UInt8) : ((List.range 256).map fun i => Value.int .i64 ((cnt l l.length i : Nat) : Int)) = (cts l).map Hu.nv := by
  rw [cts, List.map_map]; rfl
theorem enc_ok {l : List UInt8} (h0 : 0 < l.length) {L : Nat → Nat} (h : IsLens (cts l) L) : EncOk (lensOf 256 L) l := by
  refine ⟨?_, fun j hj => ⟨by rw [lens_len]; exact sym_lt l j, ?_⟩⟩
  · have := (h.isOk (by rw [cts_len]; omega)).2 ⟨cnt l l.length (sym l 0), List.mem_map.2 ⟨sym l 0, List.mem_range.2 (sym_lt l 0), rfl⟩, cnt_pos l h0⟩
    rwa [cts_len] at this
  · rw [lf_lens 256 L (sym_lt l j)]
    have := (h.pos (sym l j)).2 ⟨by rw [cts_len]; exact sym_lt l j, by simp only [cts, List.getElem_map, List.getElem_range]; exact cnt_pos l hj⟩
    omega
/-! ### Bytes turned -/
end Go.Proofs.YtmioiaeiflbmhaaGreat.Rd
namespace Go.Proofs.YtmioiaeiflbmhaaGreat.Bk
open Go Go.Hf Go.Mt Go.Proofs.YtmioiaeiflbmhaaGreat.Hu Go.Proofs.YtmioiaeiflbmhaaGreat.He Go.Proofs.YtmioiaeiflbmhaaGreat.Rd Go.Proofs.YtmioiaeiflbmhaaGreat.Sq
def same (b : List UInt8) : Bool := decide (0 < b.length) && (List.range b.length).all fun i => decide (sym b i = sym b 0)
noncomputable def lensB (b : List UInt8) : Nat → Nat := by
  classical
  exact if h : ∃ L, IsLens (cts b) L then Classical.choose h else fun _ => 0
theorem lensB_eq {b : List UInt8} {L : Nat → Nat} (h : IsLens (cts b) L) : lensB b = L := by
  unfold lensB
  have he : ∃ L, IsLens (cts b) L := ⟨L, h⟩
  rw [dif_pos he]
  exact (Classical.choose_spec he).det h
def nib (L : Nat → Nat) : List UInt8 := (List.range 128).map fun i => UInt8.ofNat (L (2 * i) + 16 * L (2 * i + 1))
theorem nib_len (L : Nat → Nat) : (nib L).length = 128 := by simp [nib]
noncomputable def codesB (b : List UInt8) : List UInt8 := if b.length = 0 then [] else pack (bt (lensOf 256 (lensB b)) b b.length)
noncomputable def codedB (b : List UInt8) : List UInt8 := nib (lensB b) ++ sized (codesB b)
noncomputable def rowB (b : List UInt8) : List UInt8 :=
  if same b = true then [1] ++ two b.length ++ [b[0]?.getD 0]
  else if (codedB b).length < b.length then [2] ++ two b.length ++ codedB b else [0] ++ two b.length ++ b
def byte (l : List UInt8) (i : Nat) : Nat := sym l i
def stepsB (p d : List UInt8) (depth : Nat) : List Sq := rest (sym (p ++ d)) (p ++ d).length depth p.length 0
noncomputable def bodyB (p d : List UInt8) (depth : Nat) (h : H3) : List UInt8 := rowB (literals d (stepsB p d depth)) ++ packB (stepsB p d depth) h
noncomputable def encB (p d : List UInt8) (depth : Nat) (h : H3) : List UInt8 × H3 :=
  if same d = true then (two d.length ++ [1, d[0]?.getD 0], h)
  else if 2 + (bodyB p d depth h).length < d.length then (two d.length ++ [2] ++ two (bodyB p d depth h).length ++ bodyB p d depth h, hs (ofs (stepsB p d depth)) h (stepsB p d depth).length)
  else (two d.length ++ [0] ++ d, h)
theorem steps_may (p d : List UInt8) (depth : Nat) (hp : p.length ≤ 2000) (hd : d.length ≤ 500) : May (stepsB p d depth) ∧ tot (stepsB p d depth) ≤ d.length := by
  have hi : p.length ≤ (p ++ d).length := by rw [List.length_append]; omega
  have h1 := rest_tot (a := sym (p ++ d)) (depth := depth) hi
  have h2 := rest_each (a := sym (p ++ d)) (depth := depth) hi
  have e : (p ++ d).length - p.length = d.length := by rw [List.length_append]; omega
  rw [e] at h1 h2
  refine ⟨⟨?_, fun s hs => ?_⟩, h1.1⟩
  · have := h1.2; unfold stepsB; omega
  · have := h2 s hs
    rw [List.length_append] at this
    omega
end Go.Proofs.YtmioiaeiflbmhaaGreat.Bk
namespace Go.Proofs.YtmioiaeiflbmhaaGreat.Ma
open Go Go.RowKit Go.ChangeMaps Go.MapKept Go.Mg Go.Mt Go.Hf Go.Proofs.YtmioiaeiflbmhaaGreat.Hu Go.Proofs.YtmioiaeiflbmhaaGreat.Bw Go.Proofs.YtmioiaeiflbmhaaGreat.He Go.Proofs.YtmioiaeiflbmhaaGreat.Sq Go.Proofs.YtmioiaeiflbmhaaGreat.Bk
theorem same_yes {b : List UInt8} (h0 : 0 < b.length) (h : ∀ i, i < b.length → sym b i = sym b 0) : Bk.same b = true := by
  unfold Bk.same
  simp only [Bool.and_eq_true, decide_eq_true_eq, List.all_eq_true, List.mem_range]
  exact ⟨h0, h⟩
theorem same_nil7 {b : List UInt8} (h : b.length = 0) : Bk.same b = false := by
  unfold Bk.same
  simp [h]
end Go.Proofs.YtmioiaeiflbmhaaGreat.Ma
