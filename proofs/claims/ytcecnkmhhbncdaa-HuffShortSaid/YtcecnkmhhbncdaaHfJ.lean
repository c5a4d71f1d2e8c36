/- huff: trees sorted. -/
import Derived.Test.YtcecnkmhhbncdaaHfI
namespace Go.Proofs.Ytcecnkmhhbncdaa.Hu
open Go Go.RowKit Go.ChangeMaps Go.MapKept Go.Mg Go.Hf Go.Sort Go.Shelf Go.Proofs.Ytcecnkmhhbncdaa.Op

theorem flat_toList {α : Type} [Inhabited α] (enc : α → List Value) (h : ∀ x, (enc x).length = 2) (d : Array α) : (flatK enc 2 d).toList = d.toList.flatMap enc := by
  apply List.ext_getElem?
  intro t
  have hl : (d.toList.flatMap enc).length = d.size * 2 := by rw [flatMap_len (fun y _ => h y), Array.length_toList]
  by_cases ht : t < d.size * 2
  · have h1 : t / 2 < d.size := by omega
    have e := flatMap_at (E := enc) (k := 2) (l := d.toList) (fun y _ => h y) (i := t / 2) (j := t % 2) (Nat.mod_lt _ (by omega)) (y := d[t / 2]) (by simp [h1])
    rw [show t / 2 * 2 + t % 2 = t by omega] at e
    rw [e]
    have hs : t < (flatK enc 2 d).size := by simpa using ht
    rw [Array.getElem?_toList, Array.getElem?_eq_getElem hs]
    have e2 := get_flatK enc 2 d t ht
    rw [getElem!_pos _ t hs] at e2
    rw [e2, getElem!_pos d _ h1]
    have hlt : t % 2 < (enc d[t / 2]).length := by rw [h]; exact Nat.mod_lt _ (by omega)
    rw [getElem!_pos (enc d[t / 2]) (t % 2) hlt, List.getElem?_eq_getElem hlt]
  · rw [List.getElem?_eq_none (by simp; omega), List.getElem?_eq_none (by omega)]
theorem swo_cfT {α : Type} (f : α → Tr) : SWO (ltOf fun x y => cfT (f x) (f y)) where
  irrefl x := by unfold ltOf; rw [decide_eq_false_iff_not, cfT_lt]; unfold Lt; omega
  trans x y z h1 h2 := by unfold ltOf at *; rw [decide_eq_true_iff, cfT_lt] at *; unfold Lt at *; omega
  ntrans x y z h1 h2 := by unfold ltOf at *; rw [decide_eq_false_iff_not, cfT_lt] at *; unfold Lt at *; omega
def SortPost (B : Nat) (w : World) (g : Nat) (vl : Value) (Fs : List (Tr × Value)) (e : Ending) (w' : World) : Prop :=
  e = .returned (.tuple #[]) ∧ ∃ Fs', Fs'.Perm Fs ∧ Fo B w' 69 vl Fs' ∧ (∀ i j (hi : i < j) (hj : j < Fs'.length), ¬ Lt Fs'[j].1 Fs'[i].1) ∧ Kp (· = g) w w'
set_option maxHeartbeats 1000000 in
theorem sort_c {B : Nat} (w : World) (g off cap : Nat) (Fs : List (Tr × Value)) (h : Fo B w 69 (.slice (some ⟨g, off, none⟩) Fs.length cap) Fs) (hS : ∀ p, p ∈ Fs → Srt p.1) (h0 : 0 < Fs.length) (hl : Fs.length ≤ 1000) :
    Calls Try.prog 46 #[.slice (some ⟨g, off, none⟩) Fs.length cap, .func (.func 47) #[] #[]] w (SortPost B w g (.slice (some ⟨g, off, none⟩) Fs.length cap) Fs) := by
  haveI : Inhabited {p : Tr × Value // p ∈ Fs} := ⟨⟨Fs[0], List.getElem_mem h0⟩⟩
  obtain ⟨d, hd⟩ : ∃ d : Array {p : Tr × Value // p ∈ Fs}, d = Fs.attach.toArray := ⟨_, rfl⟩
  have hds : d.size = Fs.length := by rw [hd]; simp
  have hdl : d.toList.map (·.1) = Fs := by rw [hd]; exact List.attach_map_subtype_val Fs
  let enc : {p : Tr × Value // p ∈ Fs} → List Value := fun x => E x.1
  have hk2 : ∀ x, (enc x).length = 2 := fun x => rfl
  have h1 : ∀ x, ∀ v ∈ enc x, v.oneCell' = true := fun x v hv => E_one1 (h.trees x.1 x.2) v hv
  have hgl : g < w.heap.size := h.row.lt rfl
  have hfm : d.toList.flatMap enc = Fs.flatMap E :=
    (show d.toList.flatMap enc = (d.toList.map (·.1)).flatMap E by rw [List.flatMap_map]).trans (congrArg (fun l => l.flatMap E) hdl)
  have hH : HoldsK enc 2 w g off d := by
    intro j hj
    have hj2 : j < d.size * 2 := by simpa using hj
    refine ⟨?_, h.row.free j (by omega)⟩
    obtain ⟨_, a0, c0, e0, _, _, _, hc⟩ := h.row.sl
    simp only [Value.slice.injEq, true_and] at e0
    obtain ⟨g', off', e1, _, hc⟩ := hc h0
    rw [e1] at e0
    simp only [Option.some.injEq, Addr.mk.injEq, and_true] at e0
    obtain ⟨⟨rfl, rfl⟩, _⟩ := e0
    refine hc j _ ?_
    rw [← hfm, ← flat_toList enc hk2 d, Array.getElem?_toList, getElem!_pos _ j hj]
    simp
  have eg : ∀ args w, (callFunc 47 args).run Try.prog w = .ok (.enter 47 args) w := enters_of Try.func47 (by kernel_rfl) rfl
  have hcmp : CmpLays Try.prog 47 #[] enc 2 (fun x y => cfT x.1.1 y.1.1) g off d.size w := by
    intro m os dk _ x y
    have kk : Kp (· = g) w (sortWorldK enc 2 w g off m dk os) := sorted_kp id w g m off (flatK enc 2 dk) os
    have t : ∀ z : {p : Tr × Value // p ∈ Fs}, Tv (sortWorldK enc 2 w g off m dk os) z.1.1 z.1.2 := fun z => (h.trees z.1 z.2).kp kk (fun b hb e => h.apart z.1 z.2 b hb (by rw [e]; rfl))
    exact first_c _ x.1.1 y.1.1 x.1.2 y.1.2 (t x) (t y) (hS x.1 x.2) (hS y.1 y.2)
  have hcon := AnyQ.slices_SortFunc Try.sortTrees 2 Try.isAgg69 Try.sizeOf69 enc hk2 h1 (fun x y => cfT x.1.1 y.1.1) (swo_cfT (fun x : {p : Tr × Value // p ∈ Fs} => x.1.1)) 47 #[] g off cap d w eg hcmp hH hgl (by omega)
  rw [hds] at hcon
  refine Calls.mono hcon ?_
  rintro e w' ⟨rfl, d', n, os, hp, hs, rfl⟩
  have hsz : d'.size = Fs.length := by rw [hp.1, hds]
  refine ⟨rfl, d'.toList.map (·.1), ?_, ?_, ?_, sorted_kp id w g n off (flatK enc 2 d') os⟩
  · have h2 := hp.2.2
    rw [show d'.extract 0 Fs.length = d' by rw [← hsz]; simp, show d.extract 0 Fs.length = d by rw [← hds]; simp] at h2
    have h5 := h2.map (·.1)
    rwa [hdl] at h5
  · have hperm : (d'.toList.map (·.1)).Perm Fs := by
      have h2 := hp.2.2
      rw [show d'.extract 0 Fs.length = d' by rw [← hsz]; simp, show d.extract 0 Fs.length = d by rw [← hds]; simp] at h2
      have := h2.map (·.1)
      rwa [hdl] at this
    have hlen : (d'.toList.map (·.1)).length = Fs.length := hperm.length_eq
    have kk : Kp (· = g) w (sortWorldK enc 2 w g off n d' os) := sorted_kp id w g n off (flatK enc 2 d') os
    refine ⟨?_, h.new, fun p hp' => (h.trees p (hperm.mem_iff.1 hp')).kp kk (fun b hb e => h.apart p (hperm.mem_iff.1 hp') b hb (by rw [e]; rfl)), fun p hp' => h.apart p (hperm.mem_iff.1 hp')⟩
    have h3 := h.row.sorted (k := n) h0 (flatK enc 2 d') (by rw [size_flatK, hsz]) os
    rw [flat_toList enc hk2 d'] at h3
    rw [hlen, List.flatMap_map]
    exact h3
  · intro i j hi hj
    have hj' : j < d'.size := by simpa using hj
    have hi' : i < d'.size := by omega
    have h4 := hs i j (Nat.zero_le _) hi (by omega)
    unfold ltOf at h4
    rw [decide_eq_false_iff_not, cfT_lt, getElem!_pos d' i hi', getElem!_pos d' j hj'] at h4
    simpa using h4
end Go.Proofs.Ytcecnkmhhbncdaa.Hu
