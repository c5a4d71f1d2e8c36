/- One act on both Shelves: Unpin; any act. -/
import Derived.Test.YtnjkchbombjemaaStepB
namespace Go.Proofs.Ytnjkchbombjemaa.Rf
open Go Go.RowKit Go.ChangeMaps Go.MapKept Go.Mg Go.Proofs.Ytnjkchbombjemaa.Sh Go.Proofs.Ytnjkchbombjemaa.Op
variable {w0 w : World} {s : Nat} {S : Shs} {x : Nat} {last : Int} {R : List It}
set_option maxRecDepth 100000 in
set_option maxHeartbeats 1000000 in
theorem step4 (h : Two w0 w s S x last R) {k : Nat} (hk : k ≤ 1000) (hb : Bd k last R) (hp : ∀ id k, AL.get S.books id = some k → k.pins < 4611686018427387904) (y : Ac) (h1 : y.kind ≠ 1) (h2 : y.kind ≠ 2) (h3 : y.kind ≠ 3) :
    Calls Try.prog 22 #[.pointer (some ⟨s, 0, none⟩), .pointer (some ⟨x, 0, none⟩), .agg #[.int .i64 y.kind, .string y.nm, .slice y.da y.data.length y.dc, .int .i64 y.id]] w (StepPost w0 s S x last R k y) := by
  obtain ⟨W, hW⟩ : ∃ W, W = w.alloc (.cells #[.int .i64 y.kind, .string y.nm, .slice y.da y.data.length y.dc, .int .i64 y.id] 51) := ⟨_, rfl⟩
  have kW : Kp (fun _ => False) w W := by rw [hW]; exact kp_lit _ _
  have hWh := alloc_at w (.cells #[.int .i64 y.kind, .string y.nm, .slice y.da y.data.length y.dc, .int .i64 y.id] 51)
  rw [← hW] at hWh
  have hwW : w.heap.size < W.heap.size := by rw [hW]; simp
  have c3 : W.cell? ⟨w.heap.size, 3, none⟩ = some (.int .i64 y.id) := by rw [cell_of hWh]; rfl
  obtain ⟨F, G, hB⟩ := h.both
  have hFw : ¬ F w.heap.size := fun q => by have := hB.sh.fin _ q; omega
  have hGw : ¬ G w.heap.size := fun q => by have := hB.rf.fin _ q; omega
  have hB := (hB.new kW).new ((Kp.refl (fun _ => False) W).drew)
  have hsa : sAct S y = (S.unpin y.id).1 := by unfold sAct; rw [if_neg h1, if_neg h2, if_neg h3]
  have HSA := Lib.hid hsa
  have HB := Lib.hid hB
  have e1 : (y.kind == 1) = false := by simpa using h1
  have e2 : (y.kind == 2) = false := by simpa using h2
  have e3 : (y.kind == 3) = false := by simpa using h3
  have HP := Lib.hid hp
  have HBd := Lib.hid hb
  clear hWh kW hsa hB h1 h2 h3 hp hb
  go_enter Try.func22, Try.ntmps22
  go_wp2_with fail
  rw [← hW]
  clear hW h
  go_region_held3 (fun w' => w'.cell? ⟨w.heap.size, 3, none⟩ = some (.int .i64 y.id)) (go_keep) ((first
    | (go_simp; go_at_call 20; refine (unpin_any S y.id (HP.out y.id) W.drew HB.out.sh).mono ?_; rintro e w1 ⟨rfl, p1, p2⟩; have s1 := (p2.cell (p := ⟨w.heap.size, 3, none⟩) hwW hFw).trans c3; have hw1 : w.heap.size < w1.heap.size := Nat.lt_of_lt_of_le hwW p2.size; have B1 := Lib.hid (HB.out.ofS p1 p2 (fun _ q => .inl q) (unpin_ok HB.out.ok y.id)); clear p1 p2)
    | (go_simp; go_at_call 37; refine (unpin_r B1.out.rf (by have := HBd.out.len; omega) (fun z hz => by have := HBd.out.it z hz; omega) y.id).mono ?_; rintro e w2 ⟨rfl, G', p1, p2, p3⟩; have t1 := (p2.cell (p := ⟨w.heap.size, 3, none⟩) hw1 hGw).trans s1; have B2 := Lib.hid (B1.out.ofR p1 p2 p3); clear p1 p2 p3)))
  go_wp2_with fail
  go_ret
  refine ⟨_, last, _, rfl, by rw [HSA.out]; exact B2.out.two, HBd.out.unpin y.id, fun hr => ?_⟩
  obtain ⟨q1, q2⟩ := hr.unpin y.id
  exact ⟨by rw [q1]; simp, by rw [HSA.out]; exact q2⟩
theorem step_any (h : Two w0 w s S x last R) {k : Nat} (hk : k ≤ 1000) (hb : Bd k last R) (hS : S.last ≤ 1000 + k) (hp : ∀ id k, AL.get S.books id = some k → k.pins < 4611686018427387904) (y : Ac) (hg : GoodA w0 y) (hs1 : y.nm.size ≤ 50) (hs2 : y.data.length ≤ 2100) :
    Calls Try.prog 22 #[.pointer (some ⟨s, 0, none⟩), .pointer (some ⟨x, 0, none⟩), .agg #[.int .i64 y.kind, .string y.nm, .slice y.da y.data.length y.dc, .int .i64 y.id]] w (StepPost w0 s S x last R k y) := by
  by_cases h1 : y.kind = 1
  · exact step1 h hk hb hS y hg hs1 hs2 h1
  by_cases h2 : y.kind = 2
  · exact step2 h hk hb y h2
  by_cases h3 : y.kind = 3
  · exact step3 h hk hb hp y h3
  exact step4 h hk hb hp y h1 h2 h3
end Go.Proofs.Ytnjkchbombjemaa.Rf
