/- The program's Reader: NewReader, Left. The program's Reader: Take. The document's Reader. The document's Reader: Take. A symbol of a code: the program's and the document's. The document's one symbol. -/
import Derived.Test.YtcecnkmhhbncdaaRdA
import Derived.Test.YtcecnkmhhbncdaaHeA
import Derived.Test.YtcecnkmhhbncdaaLayA
import Derived.Shelf.Small.Bits
namespace Go.Proofs.Ytcecnkmhhbncdaa.Rd
open Go Go.RowKit Go.Shelf Go.ChangeMaps Go.MapKept Go.Mg Go.Hf Go.Sort Go.Proofs.Ytcecnkmhhbncdaa.Hu Go.Proofs.Ytcecnkmhhbncdaa.Bw Go.Proofs.Ytcecnkmhhbncdaa.He

/-- A Reader of the first r of the bits f. -/
structure RdAt (ty : TypeId) (F : Nat → Prop) (w : World) (p : Nat) (a : Option Addr) (c r : Nat) (f : Nat → Bool) : Prop where
  hp : w.heap[p]? = some (.cells #[.slice a r c] ty (0, 0))
  sl : SlR w 1 (.slice a r c) r ((List.range r).map fun i => Value.bool (f i))
  fp : F p
  ne : ∀ k, (Value.slice a r c).ownBlock = some k → F k ∧ k ≠ p
def RdIn (ty : TypeId) (F : Nat → Prop) (w : World) (p r : Nat) (f : Nat → Bool) : Prop := ∃ a c, RdAt ty F w p a c r f
theorem RdIn.kp {ty : TypeId} {F G : Nat → Prop} {w w' : World} {p r : Nat} {f : Nat → Bool} (h : RdIn ty F w p r f) (hk : Kp G w w') (hn : ∀ k, F k → ¬ G k) : RdIn ty F w' p r f := by
  obtain ⟨a, c, h1, h2, h3, h4⟩ := h
  exact ⟨a, c, hk.at_ h1 (hn _ h3), h2.kp hk (fun k q => hn k (h4 k q).1), h3, h4⟩
def NewRPost (ty : TypeId) (w : World) (l : List UInt8) (e : Ending) (w' : World) : Prop :=
  (Gb l ∧ ∃ p, e = .returned (.tuple #[.pointer (some ⟨p, 0, none⟩), .bool true]) ∧ RdIn ty (fun k => w.heap.size ≤ k ∧ k < w'.heap.size) w' p (top l) (bb l) ∧ Kp (fun _ => False) w w') ∨
  (¬ Gb l ∧ e = .returned (.tuple #[.pointer none, .bool false]) ∧ w' = w)
theorem len8_c (x : Nat) (hx : x < 256) (w : World) : Calls Try.prog 55 #[.int .u8 (x : Nat)] w fun e w' => e = .returned (.int .i64 (Lib.bitLen x : Nat)) ∧ w' = w := by
  have := Any.bits_Len8 Try.lays126 (x : Nat) w (by omega) (by omega)
  rwa [Int.toNat_natCast] at this
theorem map_snoc (f : Nat → Bool) (k : Nat) : (List.range (k + 1)).map f = (List.range k).map f ++ [f k] := by simp [List.range_succ]

set_option maxRecDepth 100000 in
set_option maxHeartbeats 2000000 in
theorem newr_p (w : World) (l : List UInt8) (ab : Option Addr) (cb' : Nat) (hb : SlR w 1 (.slice ab l.length cb') l.length (l.map u8c)) (hlb : l.length ≤ 100000) :
    Calls Try.prog 40 #[.slice ab l.length cb'] w (NewRPost 89 w l) := by
  have mixed : Try.prog.follows .mixedOrders = true := by kernel_rfl
  obtain ⟨i0, hi0, hz0, hz1, hz2⟩ := info_parts infoB
  by_cases h0 : l.length = 0
  · have HNO := Lib.hid (show ¬ Gb l from fun q => by have := q.1; omega)
    clear hb
    rw [h0]
    go_enter Try.func40, Try.ntmps40
    go_wp2_with fail
    go_ret2
    exact .inr ⟨HNO.out, rfl, rfl⟩
  · obtain ⟨g, o, rfl, hg, hcap, hc⟩ := bytes_at hb (by omega)
    obtain ⟨x, hx⟩ : ∃ x, x = sym l (l.length - 1) := ⟨_, rfl⟩
    have d0 := hc (l.length - 1) (by omega)
    rw [← hx] at d0
    have hx256 : x < 256 := by rw [hx]; exact sym_lt _ _
    have HX := Lib.hid hx
    have HC := Lib.hid hc
    have HSL := Lib.hid (sym_lt l)
    have HBB : Hid (∀ k, bb l k = decide (sym l (k / 8) / 2 ^ (k % 8) % 2 = 1)) := Lib.hid (fun _ => rfl)
    by_cases hx0 : x = 0
    · have HNO := Lib.hid (show ¬ Gb l from fun q => q.2 (by have := HX.out; rw [hx0] at this; exact this.symm))
      obtain ⟨n, hn⟩ : ∃ n, n = l.length - 1 := ⟨_, rfl⟩
      have hni : ((l.length : Nat) : Int) - 1 = (n : Nat) := by omega
      have hnn : ((l.length : Nat) : Int) = (n : Nat) + 1 := by omega
      rw [hx0, ← hn] at d0
      have hcap' : n + 1 ≤ cb' := by omega
      have hn5 : n ≤ 100000 := by omega
      rw [show l.length = n + 1 by omega]
      clear hb hc hx hx0 hni hnn h0 hcap hlb hn
      go_enter Try.func40, Try.ntmps40
      go_wp2_with fail
      go_ret2
      exact .inr ⟨HNO.out, rfl, rfl⟩
    · have hgb : Gb l := ⟨by omega, by have := HX.out; intro q; exact hx0 (this.trans q)⟩
      have HGB := Lib.hid hgb
      have htl := top_lt hgb
      have hs := hi_spec hx0 hx256
      have htop : top l = 8 * (l.length - 1) + hi x := by rw [HX.out]; rfl
      obtain ⟨n, hn⟩ : ∃ n, n = l.length - 1 := ⟨_, rfl⟩
      obtain ⟨T, hT⟩ : ∃ T, T = top l := ⟨_, rfl⟩
      obtain ⟨bl, hbl⟩ : ∃ bl, bl = Lib.bitLen x := ⟨_, rfl⟩
      have hbl1 : 1 ≤ bl ∧ bl ≤ 8 := by omega
      have hTi : T + 1 = 8 * n + bl := by omega
      have hT8 : T < 8 * (n + 1) := by omega
      have LEN := Lib.hid (len8_c x hx256 w)
      rw [← hbl] at LEN
      rw [← hn] at d0
      have hcap' : n + 1 ≤ cb' := by omega
      have hn5 : n ≤ 100000 := by omega
      have HLN := Lib.hid (show l.length = n + 1 by omega)
      have hx00 : ((x : Int) == 0) = false := by rw [beq_eq_false_iff_ne]; omega
      unfold NewRPost
      rw [← hT, HLN.out]
      have HCC : Hid (∀ V, Kp (fun _ => False) w V → ∀ k, k < T → V.cell? ⟨g, o + k / 8, none⟩ = some (.int .u8 (sym l (k / 8) : Nat))) := Lib.hid (fun V hk k hkt =>
        (hk.cell (p := ⟨g, o + k / 8, none⟩) hg (fun q => q)).trans (HC.out (k / 8) (by have := HLN.out; omega)))
      obtain ⟨f, hf⟩ : ∃ f, f = bb l := ⟨_, rfl⟩
      rw [← hf] at HBB ⊢
      clear hb hc hx hx0 h0 hcap hlb hn hT htl hs htop hbl hgb hf HC
      go_enter Try.func40, Try.ntmps40
      go_wp2_with fail
      refine LEN.out.mono ?_
      rintro e w' ⟨rfl, rfl⟩
      have hTT : (8 * (n : Int) + (bl : Nat) - 1) = (T : Nat) := by omega
      go_wp2_with fail
      have U0 : Hid (WrPost 89 (· = w'.heap.size) (w'.alloc (.cells #[.slice none 0 0] 89)) w'.heap.size ((List.range 0).map f) (w'.alloc (.cells #[.slice none 0 0] 89))) := Lib.hid ⟨_, _, _, wr_new 89 w', Kp.refl _ _, fun k q => .inl q⟩
      obtain ⟨W1, hW1⟩ : ∃ W1, W1 = w'.alloc (.cells #[.slice none 0 0] 89) := ⟨_, rfl⟩
      have HW1 := Lib.hid (show W1.heap.size = w'.heap.size + 1 ∧ Kp (fun _ => False) w' W1 by rw [hW1]; exact ⟨by simp, (Kp.refl _ _).alloc _⟩)
      rw [← hW1] at U0 ⊢
      clear hW1 d0 LEN
      go_loopw [35] (fun i wr => ∃ k : Nat, k ≤ T ∧ i = .int .i64 k ∧ WrPost 89 (· = w'.heap.size) W1 w'.heap.size ((List.range k).map f) wr) (fun i _ => T - (intOf i).toNat)
      case atStart => exact ⟨0, Nat.zero_le _, rfl, U0.out⟩
      case round =>
        clear U0
        obtain ⟨k, hk, rfl, F', a', c', h1, h2, h3⟩ := hrel
        have hkw : Kp (fun _ => False) w' wr := HW1.out.2.trans2 h2 (fun i hi q => by omega)
        by_cases hkT : k < T
        · obtain ⟨R, hR⟩ : ∃ R, R = (List.range k).map f := ⟨_, rfl⟩
          have hRl : R.length = k := by rw [hR]; simp
          obtain ⟨s, hs⟩ : ∃ s, s = sym l (k / 8) := ⟨_, rfl⟩
          have hs256 : s < 256 := by rw [hs]; exact HSL.out _
          have HR : Hid ((List.range (k + 1)).map f = R ++ [Go.bits .and .u8 ((s : Int) / 2 ^ (k % 8)) 1 == 1]) := Lib.hid (by
            rw [map_snoc, ← hR, low_bit s _ hs256, HBB.out k, ← hs]
            congr 2
            by_cases e : s / 2 ^ (k % 8) % 2 = 1
            · rw [e]; rfl
            · rw [show s / 2 ^ (k % 8) % 2 = 0 by omega]; rfl)
          rw [← hR] at h1
          have d1 := h1.cell
          rw [hRl] at d1
          have d2 := HCC.out wr hkw k hkT
          rw [← hs] at d2
          have H1 := Lib.hid h1
          have H2 := Lib.hid h2
          have H3 := Lib.hid h3
          have hk8 : k / 8 < n + 1 := by omega
          clear h1 h2 h3 hkw hR hs
          go_wp2_with fail
          have q1 : IntKind.i64.wrap ((k : Int) / 8) = (k : Int) / 8 := by rw [IntKind.wrap_i64]; omega
          have q2 : 0 ≤ (k : Int) / 8 := by omega
          have q3 : (k : Int) / 8 < (n : Int) + 1 := by omega
          have q4 : ((k : Int) / 8).toNat = k / 8 := by omega
          have q5 : (k : Int).tmod 8 = (k : Int) % 8 := Int.tmod_eq_emod_of_nonneg (by omega)
          have q6 : 0 ≤ (k : Int) % 8 := by omega
          have q7 : (k : Int) % 8 ≤ 8 := by omega
          have q8 : ((k : Int) % 8).toNat = k % 8 := by omega
          have T1 := Lib.hid (lit_b wr.drew)
          have kA : ∀ z, Kp (fun _ => False) wr (wr.drew.alloc (.cells #[.bool z] 4)) := fun z => ((Kp.refl _ _).drew).alloc _
          have KA := Lib.hid kA
          have d3 := (((Kp.refl (fun _ => False) wr).alloc (.cells #[.bool (Go.bits .and .u8 ((s : Int) / 2 ^ (k % 8)) 1 == 1)] 4)).cell (p := ⟨w'.heap.size, 0, none⟩) (lt_of_at H1.out.hp) (fun q => q)).trans d1
          have HO := Lib.hid (fun z => H1.out.own.kp (kA z) (fun _ _ q => q))
          have HRL := Lib.hid hRl
          clear kA hRl
          go_region_law (first
            | (refine step_app _ rfl (.tmp 42) (.tmp 53) 51 rfl 4 i0 _ 1 1 Try.underlying51 hi0 hz0 hz1 hz2 rfl (by decide) (by decide) (.slice a' R.length c') R.length _ (by simp [Act.eval, HRL.out]) (HO.out _) (.slice (some ⟨wr.heap.size, 0, none⟩) 1 1) 1 _ (by simp [Act.eval]) (T1.out _) (one_b _) (by have := HRL.out; omega) ?_; intro v1 w3 g1 g2 g3 g4 g5; obtain ⟨b1, e1, rfl⟩ := g1.form; obtain ⟨f1, f2, f3⟩ := H1.out.app (KA.out _) g1 g2 g3; have F3 := Lib.hid f3; clear g1 g2 g3 g4 g5 f3))
          all_goals (go_wp2_with fail; exact ⟨⟨k + 1, by omega, by go_num, by rw [HR.out]; exact WrPost.trans H2.out H3.out F3.out⟩, by simp [intOf]; omega⟩)
        · obtain rfl : k = T := by omega
          have hRl : ((List.range k).map f).length = k := by simp
          have HW : Hid (RdIn 89 (fun q => w'.heap.size ≤ q ∧ q < wr.heap.size) wr w'.heap.size k f) := Lib.hid ⟨a', c', by have := h1.hp; rwa [hRl] at this, by have := h1.own.sl; rw [hRl, List.map_map] at this; exact this, ⟨Nat.le_refl _, lt_of_at h1.hp⟩, fun q hq => by
            have h5 := h1.ne q (by rw [hRl]; exact hq)
            have h4 := h3 q h5.1
            have := HW1.out.1
            exact ⟨⟨by omega, h1.own.lt (by rw [hRl]; exact hq)⟩, h5.2⟩⟩
          have HK := Lib.hid hkw
          clear h1 h2 h3 hkw
          go_wp2_with fail
          go_ret2
          exact .inl ⟨HGB.out, _, rfl, HW.out, HK.out⟩
theorem left_p {F : Nat → Prop} {w : World} {p r : Nat} {f : Nat → Bool} (h : RdIn 89 F w p r f) :
    Calls Try.prog 41 #[.pointer (some ⟨p, 0, none⟩)] w fun e w' => e = .returned (.int .i64 (r : Nat)) ∧ w' = w := by
  obtain ⟨a, c, h1, h2, _, _⟩ := h
  have d0 : w.cell? ⟨p, 0, none⟩ = some (.slice a r c) := by rw [cell_of h1]; rfl
  clear h1 h2
  go_enter Try.func41, Try.ntmps41
  go_wp2_with fail
  go_ret
  exact ⟨rfl, rfl⟩
end Go.Proofs.Ytcecnkmhhbncdaa.Rd

namespace Go.Proofs.Ytcecnkmhhbncdaa.Rd
open Go Go.RowKit Go.Shelf Go.ChangeMaps Go.MapKept Go.Mg Go.Hf Go.Sort Go.Proofs.Ytcecnkmhhbncdaa.Hu Go.Proofs.Ytcecnkmhhbncdaa.Bw Go.Proofs.Ytcecnkmhhbncdaa.He

def TakePost (ty : TypeId) (F : Nat → Prop) (w : World) (p r n : Nat) (f : Nat → Bool) (e : Ending) (w' : World) : Prop :=
  (n ≤ r ∧ e = .returned (.tuple #[.int .i64 (nv f (r - n) n : Nat), .bool true]) ∧ RdIn ty F w' p (r - n) f ∧ Kp (· = p) w w') ∨
  (r < n ∧ e = .returned (.tuple #[.int .i64 0, .bool false]) ∧ w' = w)
set_option maxRecDepth 100000 in
set_option maxHeartbeats 2000000 in
theorem take_p {F : Nat → Prop} {w : World} {p r : Nat} {f : Nat → Bool} (h : RdIn 89 F w p r f) (hr : r ≤ 1000000) (n : Nat) (hn : n ≤ 24) :
    Calls Try.prog 42 #[.pointer (some ⟨p, 0, none⟩), .int .i64 (n : Nat)] w (TakePost 89 F w p r n f) := by
  have HM := Lib.hid (many_c n hn)
  obtain ⟨a, c, h1, h2, h3, h4⟩ := h
  have d0 : w.cell? ⟨p, 0, none⟩ = some (.slice a r c) := by rw [cell_of h1]; rfl
  have f0 := free_of h1 0
  by_cases hlt : r < n
  · clear h1 h2 h3 h4 f0
    go_enter Try.func42, Try.ntmps42
    go_wp2_with fail
    refine (HM.out w).mono ?_
    rintro e w' ⟨rfl, rfl⟩
    go_wp2_with fail
    go_ret2
    exact .inr ⟨hlt, rfl, rfl⟩
  · obtain ⟨m, rfl⟩ : ∃ m, r = m + n := ⟨r - n, by omega⟩
    obtain ⟨a', c', e1, e2, e3⟩ := h2.from_ (P := Try.prog) Try.underlying51 (by kernel_rfl) (show m ≤ m + n by omega)
    rw [show m + n - m = n by omega] at e1 e2 e3
    obtain ⟨e4, e5⟩ := h2.upto (P := Try.prog) Try.underlying51 (by kernel_rfl) (show m ≤ m + n by omega)
    have HE5 : Hid (SlR w 1 (.slice a m c) m ((List.range m).map fun i => Value.bool (f i))) := Lib.hid (by
      have e : List.take (m * 1) ((List.range (m + n)).map fun i => Value.bool (f i)) = (List.range m).map fun i => Value.bool (f i) := by
        rw [← List.map_take, Nat.mul_one, List.take_range]; congr 2; omega
      rw [e] at e5; exact e5)
    have HC : Hid (0 < n → ∃ g o, a' = some ⟨g, o, none⟩ ∧ n ≤ c' ∧ ∀ i, i < n → w.cell? ⟨g, o + i, none⟩ = some (.bool (f (m + i)))) := Lib.hid (fun h0 => by
      obtain ⟨_, a0, c0, e0, q1, _, _, q4⟩ := e2
      simp only [Value.slice.injEq, true_and] at e0
      obtain ⟨rfl, rfl⟩ := e0
      obtain ⟨g, o, rfl, _, hc⟩ := q4 h0
      refine ⟨g, o, rfl, q1, fun i hi => hc i _ ?_⟩
      rw [List.getElem?_drop]
      simp [show m + i < m + n by omega])
    have HAT := Lib.hid h1
    have H3 := Lib.hid h3
    have H4 := Lib.hid h4
    have HV := Lib.hid (nv_lt f m)
    have HV0 : Hid (nv f m 0 = 0) := Lib.hid rfl
    have HVS : Hid (∀ k, nv f m (k + 1) = nv f m k + (if f (m + k) = true then 2 ^ k else 0)) := Lib.hid (fun _ => rfl)
    unfold TakePost
    rw [show m + n - n = m by omega]
    obtain ⟨v, hv⟩ : ∃ v, v = nv f m := ⟨_, rfl⟩
    rw [← hv] at HV HV0 HVS ⊢
    clear h1 h2 h3 h4 e2 e3 e5 hv
    have hlt2 : decide ((m : Int) + (n : Int) < (n : Int)) = false := decide_eq_false (by omega)
    go_enter Try.func42, Try.ntmps42
    go_wp2_with fail
    refine (HM.out w).mono ?_
    rintro e w' ⟨rfl, rfl⟩
    go_wp2_with fail
    go_loopw [7, 40] (fun u i wr => ∃ k : Nat, k ≤ n ∧ i = .int .i64 k ∧ u = .int .i64 (v k : Nat) ∧ wr = w') (fun _ i _ => n - (intOf i).toNat)
    case atStart => exact ⟨0, Nat.zero_le _, rfl, by rw [HV0.out]; rfl, rfl⟩
    case round =>
      obtain ⟨k, hk, rfl, rfl, rfl⟩ := hrel
      by_cases hkn : k < n
      · obtain ⟨g, o, rfl, hc1, hcc⟩ := HC.out (by omega)
        have d1 := hcc k hkn
        have hlt := HV.out k
        have HOR := Lib.hid (or_up (v k) k hlt (by omega))
        have h24 : 2 ^ k ≤ 2 ^ 24 := Nat.pow_le_pow_right (by omega) (by omega)
        have HS := HVS.out k
        obtain ⟨P, hP⟩ : ∃ P, P = 2 ^ k := ⟨_, rfl⟩
        have hPi : (2 : Int) ^ k = (P : Int) := by rw [hP]; simp
        rw [hPi] at HOR
        rw [← hP] at HOR HS h24 hlt
        have h24' : (2 : Nat) ^ 24 = 16777216 := rfl
        rw [h24'] at h24
        have hwP : IntKind.i64.wrap (P : Int) = (P : Int) := by rw [IntKind.wrap_i64]; omega
        obtain ⟨b, hb⟩ : ∃ b, b = f (m + k) := ⟨_, rfl⟩
        rw [← hb] at d1 HS
        obtain ⟨vk, hvk⟩ : ∃ vk, vk = v k := ⟨_, rfl⟩
        rw [← hvk] at HOR HS hlt ⊢
        have HSS := Lib.hid HS
        clear hcc hP hb h24' hvk HS
        have or1 := HOR.out
        cases b with
        | true =>
          go_wp2_with fail
          refine ⟨⟨k + 1, by omega, by go_num, ?_, by first | rfl | trivial⟩, by simp [intOf]; omega⟩
          rw [HSS.out, if_pos rfl, Int.natCast_add]
        | false =>
          go_wp2_with fail
          refine ⟨⟨k + 1, by omega, by go_num, ?_, by first | rfl | trivial⟩, by simp [intOf]; omega⟩
          rw [HSS.out]; simp
      · obtain rfl : k = n := by omega
        have hlt := HV.out k
        have HSET := Lib.hid (setCell_at (i := 0) HAT.out (.slice a m c))
        have HKS := Lib.hid ((Kp.refl (· = p) wr).setCell (p := ⟨p, 0, none⟩) (fun _ => rfl) (.slice a m c))
        go_wp2_with fail
        go_ret2
        refine .inl ⟨by omega, rfl, ⟨a, c, HSET.out, HE5.out.kp HKS.out (fun b hb => ?_), H3.out, fun b hb => ?_⟩, HKS.out⟩
        · have : (Value.slice a (m + k) c).ownBlock = some b := by rw [← hb]; cases a <;> rfl
          exact (H4.out b this).2
        · have : (Value.slice a (m + k) c).ownBlock = some b := by rw [← hb]; cases a <;> rfl
          exact H4.out b this
end Go.Proofs.Ytcecnkmhhbncdaa.Rd

namespace Go.Proofs.Ytcecnkmhhbncdaa.Rd
open Go Go.RowKit Go.Shelf Go.ChangeMaps Go.MapKept Go.Mg Go.Hf Go.Sort Go.Proofs.Ytcecnkmhhbncdaa.Hu Go.Proofs.Ytcecnkmhhbncdaa.Bw Go.Proofs.Ytcecnkmhhbncdaa.He

/-- A Reader of the first r of the bits of the bytes l. -/
structure RdD (w : World) (p r : Nat) (ab : Option Addr) (cb' : Nat) (l : List UInt8) : Prop where
  hp : w.heap[p]? = some (.cells #[.slice ab l.length cb', .int .i64 (r : Nat)] 66 (0, 0))
  sl : SlR w 1 (.slice ab l.length cb') l.length (l.map u8c)
  ne : ∀ b, (Value.slice ab l.length cb').ownBlock = some b → b ≠ p
  le : r < 8 * l.length
theorem RdD.kp {G : Nat → Prop} {w w' : World} {p r : Nat} {ab : Option Addr} {cb' : Nat} {l : List UInt8} (h : RdD w p r ab cb' l) (hk : Kp G w w') (h1 : ¬ G p) (h2 : ∀ b, (Value.slice ab l.length cb').ownBlock = some b → ¬ G b) : RdD w' p r ab cb' l :=
  ⟨hk.at_ h.hp h1, h.sl.kp hk h2, h.ne, h.le⟩
def NewDPost (w : World) (ab : Option Addr) (cb' : Nat) (l : List UInt8) (e : Ending) (w' : World) : Prop :=
  (Gb l ∧ ∃ p, e = .returned (.tuple #[.pointer (some ⟨p, 0, none⟩), .bool true]) ∧ w.heap.size ≤ p ∧ RdD w' p (top l) ab cb' l ∧ Kp (fun _ => False) w w') ∨
  (¬ Gb l ∧ e = .returned (.tuple #[.pointer none, .bool false]) ∧ w' = w)
set_option maxRecDepth 100000 in
set_option maxHeartbeats 2000000 in
theorem newr_d (w : World) (l : List UInt8) (ab : Option Addr) (cb' : Nat) (hb : SlR w 1 (.slice ab l.length cb') l.length (l.map u8c)) (hlb : l.length ≤ 100000) :
    Calls Try.prog 44 #[.slice ab l.length cb'] w (NewDPost w ab cb' l) := by
  by_cases h0 : l.length = 0
  · have HNO := Lib.hid (show ¬ Gb l from fun q => by have := q.1; omega)
    clear hb
    unfold NewDPost
    rw [h0]
    go_enter Try.func44, Try.ntmps44
    go_wp2_with fail
    go_ret2
    exact .inr ⟨HNO.out, rfl, rfl⟩
  · have RB := Lib.hid hb
    obtain ⟨g, o, rfl, hg, hcap, hc⟩ := bytes_at hb (by omega)
    obtain ⟨x, hx⟩ : ∃ x, x = sym l (l.length - 1) := ⟨_, rfl⟩
    have d0 := hc (l.length - 1) (by omega)
    rw [← hx] at d0
    have hx256 : x < 256 := by rw [hx]; exact sym_lt _ _
    have HX := Lib.hid hx
    have HC := Lib.hid hc
    have HSL := Lib.hid (sym_lt l)
    have HBB : Hid (∀ k, bb l k = decide (sym l (k / 8) / 2 ^ (k % 8) % 2 = 1)) := Lib.hid (fun _ => rfl)
    obtain ⟨n, hn⟩ : ∃ n, n = l.length - 1 := ⟨_, rfl⟩
    have hcap' : n + 1 ≤ cb' := by omega
    have hn5 : n ≤ 100000 := by omega
    have HLN := Lib.hid (show l.length = n + 1 by omega)
    by_cases hx0 : x = 0
    · have HNO := Lib.hid (show ¬ Gb l from fun q => q.2 (by have := HX.out; rw [hx0] at this; exact this.symm))
      rw [hx0, ← hn] at d0
      unfold NewDPost
      rw [HLN.out]
      clear hb hc hx hx0 h0 hcap hlb hn
      go_enter Try.func44, Try.ntmps44
      go_wp2_with fail
      go_ret2
      exact .inr ⟨HNO.out, rfl, rfl⟩
    · have hgb : Gb l := ⟨by omega, by have := HX.out; intro q; exact hx0 (this.trans q)⟩
      have HGB := Lib.hid hgb
      have htl := top_lt hgb
      have HT1 := Lib.hid (bb_top hgb)
      have HT2 : Hid (∀ k, top l < k → k < 8 * l.length → bb l k = false) := Lib.hid (fun k => bb_above hgb)
      have HTL := Lib.hid htl.1
      obtain ⟨T, hT⟩ : ∃ T, T = top l := ⟨_, rfl⟩
      rw [← hn] at d0
      have hx00 : ((x : Int) == 0) = false := by rw [beq_eq_false_iff_ne]; omega
      rw [← hT, HLN.out] at HT2
      rw [← hT] at HT1
      have hT8 : T < 8 * (n + 1) := by omega
      have HTT := Lib.hid hT
      have HNE : Hid (∀ b, (Value.slice (some ⟨g, o, none⟩) l.length cb').ownBlock = some b → b < w.heap.size) := Lib.hid (fun b hb => by cases hb; exact hg)
      unfold NewDPost
      rw [HLN.out]
      obtain ⟨f, hf⟩ : ∃ f, f = bb l := ⟨_, rfl⟩
      rw [← hf] at HBB HT1 HT2
      clear hb hc hx hx0 h0 hcap hlb hn hT htl hgb hf
      go_enter Try.func44, Try.ntmps44
      go_wp2_with fail
      go_loopw [4] (fun i wr => ∃ j : Nat, T ≤ j ∧ j < 8 * (n + 1) ∧ i = .int .i64 j ∧ wr = w) (fun i _ => (intOf i).toNat)
      case atStart => exact ⟨8 * (n + 1) - 1, by omega, by omega, by congr 1; omega, rfl⟩
      case round =>
        obtain ⟨j, hTj, hj, rfl, rfl⟩ := hrel
        have d1 := HC.out (j / 8) (by have := HLN.out; omega)
        have hs256 := HSL.out (j / 8)
        have HBJ := Lib.hid (HBB.out j)
        have hlow := low_bit (sym l (j / 8)) (j % 8) hs256
        obtain ⟨s, hs⟩ : ∃ s, s = sym l (j / 8) := ⟨_, rfl⟩
        rw [← hs] at d1 hs256 hlow HBJ
        have hj8 : j / 8 < n + 1 := by omega
        have q5 : (j : Int).tmod 8 = (j : Int) % 8 := Int.tmod_eq_emod_of_nonneg (by omega)
        clear hs
        by_cases hb : s / 2 ^ (j % 8) % 2 = 1
        · have hjT : j = T := by
            rcases Nat.lt_or_ge T j with q | q
            · have h1 := HT2.out j q hj
              rw [HBJ.out, decide_eq_true hb] at h1
              cases h1
            · omega
          subst hjT
          rw [hb] at hlow
          clear hb
          go_wp2_with fail
          go_ret2
          refine .inl ⟨HGB.out, _, rfl, Nat.le_refl _, ?_, (Kp.refl _ _).alloc _⟩
          rw [← HTT.out]
          refine ⟨?_, RB.out.kp ((Kp.refl (fun _ => False) _).alloc _) (fun _ _ q => q), fun b hb => by have := HNE.out b hb; omega, ?_⟩
          · rw [alloc_at, HLN.out]
          · rw [HTT.out]; exact HTL.out
        · have hb0 : s / 2 ^ (j % 8) % 2 = 0 := by omega
          have hjT : j ≠ T := by
            intro q
            have h1 := HT1.out
            rw [← q, HBJ.out] at h1
            exact hb (of_decide_eq_true h1)
          rw [hb0] at hlow
          clear hb hb0
          obtain ⟨i, rfl⟩ : ∃ i, j = i + 1 := ⟨j - 1, by omega⟩
          go_wp2_with fail
          exact ⟨⟨i, by omega, by omega, by go_num, by first | rfl | trivial⟩, by simp [intOf]⟩
end Go.Proofs.Ytcecnkmhhbncdaa.Rd

namespace Go.Proofs.Ytcecnkmhhbncdaa.Rd
open Go Go.RowKit Go.Shelf Go.ChangeMaps Go.MapKept Go.Mg Go.Hf Go.Sort Go.Proofs.Ytcecnkmhhbncdaa.Hu Go.Proofs.Ytcecnkmhhbncdaa.Bw Go.Proofs.Ytcecnkmhhbncdaa.He

def TakeDPost (w : World) (p r n : Nat) (ab : Option Addr) (cb' : Nat) (l : List UInt8) (e : Ending) (w' : World) : Prop :=
  (n ≤ r ∧ e = .returned (.tuple #[.int .i64 (nv (bb l) (r - n) n : Nat), .bool true]) ∧ RdD w' p (r - n) ab cb' l ∧ Kp (· = p) w w') ∨
  (r < n ∧ e = .returned (.tuple #[.int .i64 0, .bool false]) ∧ w' = w)
set_option maxRecDepth 100000 in
set_option maxHeartbeats 2000000 in
theorem take_d {w : World} {p r : Nat} {ab : Option Addr} {cb' : Nat} {l : List UInt8} (h : RdD w p r ab cb' l) (hlb : l.length ≤ 100000) (n : Nat) (hn : n ≤ 24) :
    Calls Try.prog 56 #[.pointer (some ⟨p, 0, none⟩), .int .i64 (n : Nat)] w (TakeDPost w p r n ab cb' l) := by
  have hr8 := h.le
  have d0 : w.cell? ⟨p, 0, none⟩ = some (.slice ab l.length cb') := by rw [cell_of h.hp]; rfl
  have d1 : w.cell? ⟨p, 1, none⟩ = some (.int .i64 (r : Nat)) := by rw [cell_of h.hp]; rfl
  have f1 := free_of h.hp 1
  have hn24 : (n : Int) ≤ 24 := by omega
  by_cases hlt : r < n
  · clear h f1
    go_enter Try.func56, Try.ntmps56
    go_wp2_with fail
    go_ret2
    exact .inr ⟨hlt, rfl, rfl⟩
  · obtain ⟨m, rfl⟩ : ∃ m, r = m + n := ⟨r - n, by omega⟩
    have hset := setCell_at (i := 1) h.hp (.int .i64 (m : Nat))
    have hks := (Kp.refl (· = p) w).setCell (p := ⟨p, 1, none⟩) (fun _ => rfl) (.int .i64 (m : Nat))
    obtain ⟨W, hW⟩ : ∃ W, W = w.setCell ⟨p, 1, none⟩ (.int .i64 (m : Nat)) := ⟨_, rfl⟩
    have HWE := Lib.hid hW
    rw [← hW] at hset hks
    have HAT : Hid (RdD W p m ab cb' l) := Lib.hid ⟨hset, h.sl.kp hks h.ne, h.ne, by omega⟩
    have e0 : W.cell? ⟨p, 0, none⟩ = some (.slice ab l.length cb') := by rw [cell_of hset]; rfl
    have e1 : W.cell? ⟨p, 1, none⟩ = some (.int .i64 (m : Nat)) := by rw [cell_of hset]; rfl
    have HKS := Lib.hid hks
    have HC : Hid (0 < l.length → ∃ g o, ab = some ⟨g, o, none⟩ ∧ l.length ≤ cb' ∧ ∀ i, i < l.length → W.cell? ⟨g, o + i, none⟩ = some (.int .u8 (sym l i : Nat))) := Lib.hid (fun h0 => by
      obtain ⟨g, o, e, _, h1, h2⟩ := bytes_at HAT.out.sl h0
      exact ⟨g, o, e, h1, h2⟩)
    have HSL := Lib.hid (sym_lt l)
    have HBB : Hid (∀ k, bb l k = decide (sym l (k / 8) / 2 ^ (k % 8) % 2 = 1)) := Lib.hid (fun _ => rfl)
    unfold TakeDPost
    rw [show m + n - n = m by omega]
    obtain ⟨L, hL⟩ : ∃ L, L = l.length := ⟨_, rfl⟩
    rw [← hL] at HC hr8 d0 e0 hlb
    have HV := Lib.hid (fun k => nv_lt (bb l) (m + k) (n - k))
    have HVS : Hid (∀ q, q < n → nv (bb l) (m + q) (n - q) = 2 * nv (bb l) (m + (q + 1)) (n - (q + 1)) + (if bb l (m + q) = true then 1 else 0)) := Lib.hid (fun q hq => by
      rw [show n - q = (n - (q + 1)) + 1 by omega, nv_low]; rfl)
    obtain ⟨v, hv⟩ : ∃ v, v = fun k => nv (bb l) (m + k) (n - k) := ⟨_, rfl⟩
    have HV1 : Hid (∀ q, q < n → v q = 2 * v (q + 1) + (if bb l (m + q) = true then 1 else 0)) := Lib.hid (by rw [hv]; exact HVS.out)
    have HV2 : Hid (∀ q, v q < 2 ^ 24) := Lib.hid (fun q => by
      rw [hv]; exact Nat.lt_of_lt_of_le (HV.out q) (Nat.pow_le_pow_right (by omega) (by omega)))
    have HV3 : Hid (v n = 0) := Lib.hid (by rw [hv]; simp [Hf.nv])
    have HV4 : Hid (nv (bb l) m n = v 0) := Lib.hid (by rw [hv]; rfl)
    rw [HV4.out]
    clear h hset hks hW hv HV HVS hL
    have hlt2 : decide ((m : Int) + (n : Int) < (n : Int)) = false := decide_eq_false (by omega)
    go_enter Try.func56, Try.ntmps56
    go_wp2_with fail
    rw [← HWE.out]
    clear d0 d1 f1
    go_loopw [6, 7, 8] (fun u i _ wr => ∃ j : Nat, j ≤ n ∧ i = .int .i64 ((j : Int) - 1) ∧ u = .int .i64 (v j : Nat) ∧ wr = W) (fun _ i _ _ => (intOf i + 1).toNat)
    case atStart => exact ⟨n, Nat.le_refl _, by simp, by rw [HV3.out]; rfl, rfl⟩
    case round =>
      obtain ⟨j, hj, rfl, rfl, rfl⟩ := hrel
      cases j with
      | zero =>
        rw [show ((0 : Nat) : Int) - 1 = -1 by rfl]
        go_wp2_with fail
        go_ret2
        exact .inl ⟨by omega, rfl, HAT.out, HKS.out⟩
      | succ q =>
        rw [show (((q + 1 : Nat) : Int) - 1) = (q : Nat) by omega]
        obtain ⟨g, o, rfl, hcap, hcc⟩ := HC.out (by omega)
        obtain ⟨K, hK⟩ : ∃ K, K = m + q := ⟨_, rfl⟩
        have hKi : (m : Int) + (q : Int) = (K : Nat) := by omega
        have hK8 : K / 8 < L := by omega
        have d1 := hcc (K / 8) hK8
        have hs256 := HSL.out (K / 8)
        have HBJ := Lib.hid (HBB.out K)
        have hlow := low_bit (sym l (K / 8)) (K % 8) hs256
        have H1 := Lib.hid (HV1.out q (by omega))
        have h24 := HV2.out (q + 1)
        have h24' : (2 : Nat) ^ 24 = 16777216 := rfl
        rw [h24'] at h24
        obtain ⟨s, hs⟩ : ∃ s, s = sym l (K / 8) := ⟨_, rfl⟩
        rw [← hs] at d1 hs256 hlow HBJ
        obtain ⟨vk, hvk⟩ : ∃ vk, vk = v (q + 1) := ⟨_, rfl⟩
        rw [← hvk, ← hK, HBJ.out] at H1
        rw [← hvk] at h24 ⊢
        have hw2 : ((vk : Int) * 2) = ((2 * vk : Nat) : Int) := by omega
        have q5 : (K : Int).tmod 8 = (K : Int) % 8 := Int.tmod_eq_emod_of_nonneg (by omega)
        have h40 : (2 : Nat) ^ 40 = 1099511627776 := rfl
        by_cases hb : s / 2 ^ (K % 8) % 2 = 1
        · have or1 := or_low vk 1 (by omega) (by omega)
          rw [hb] at hlow
          rw [decide_eq_true hb, if_pos rfl] at H1
          clear hw2 hcc hs hvk hb h24' h40 hK
          go_wp2_with fail
          refine ⟨⟨q, by omega, by first | rfl | trivial, ?_, by first | rfl | trivial⟩, by simp [intOf]; try omega⟩
          rw [H1.out]
          congr 1
          rw [Int.mul_comm]
          exact or1
        · have hb0 : s / 2 ^ (K % 8) % 2 = 0 := by omega
          have or1 := or_low vk 0 (by omega) (by omega)
          rw [hb0] at hlow
          rw [decide_eq_false hb, if_neg (by decide)] at H1
          clear hw2 hcc hs hvk hb hb0 h24' h40 hK
          go_wp2_with fail
          refine ⟨⟨q, by omega, by first | rfl | trivial, ?_, by first | rfl | trivial⟩, by simp [intOf]; try omega⟩
          rw [H1.out]
          congr 1
          rw [Int.mul_comm]
          exact or1
end Go.Proofs.Ytcecnkmhhbncdaa.Rd

namespace Go.Proofs.Ytcecnkmhhbncdaa.Rd
open Go Go.RowKit Go.Shelf Go.ChangeMaps Go.MapKept Go.Mg Go.Hf Go.Sort Go.Proofs.Ytcecnkmhhbncdaa.Hu Go.Proofs.Ytcecnkmhhbncdaa.Bw Go.Proofs.Ytcecnkmhhbncdaa.He

def fdv : Option Nat → Int
  | some s => (s : Int)
  | none => -1
/-- The lengths and the codes, in two rows. -/
def Tab (w : World) (xs : List Int) (g o gc : Nat) : Prop := ∀ i, i < xs.length → w.cell? ⟨gc, i, none⟩ = some (.int .i64 (codes xs i)) ∧ w.cell? ⟨g, o + i, none⟩ = some (.int .i64 (lf xs i))
theorem Tab.kp {F : Nat → Prop} {w w' : World} {xs : List Int} {g o gc : Nat} (h : Tab w xs g o gc) (hk : Kp F w w') (h1 : g < w.heap.size ∧ ¬ F g) (h2 : gc < w.heap.size ∧ ¬ F gc) : Tab w' xs g o gc := fun i hi =>
  ⟨(hk.cell (p := ⟨gc, i, none⟩) h2.1 h2.2).trans (h i hi).1, (hk.cell (p := ⟨g, o + i, none⟩) h1.1 h1.2).trans (h i hi).2⟩
theorem fd_step_no {xs : List Int} {code n : Int} {k : Nat} (h : fd xs code n k = none) (hn : ¬ (lf xs k = n ∧ codes xs k = code)) : fd xs code n (k + 1) = none := by simp only [fd, h, if_neg hn]
theorem fd_step_yes {xs : List Int} {code n : Int} {k : Nat} (h : fd xs code n k = none) (hn : lf xs k = n ∧ codes xs k = code) : fd xs code n (k + 1) = some k := by simp only [fd, h, if_pos hn]
set_option maxRecDepth 100000 in
set_option maxHeartbeats 1000000 in
theorem found_p (w : World) (xs : List Int) (g o c gc : Nat) (hl : xs.length ≤ 300) (hcap : xs.length ≤ c) (h : Tab w xs g o gc) (code n : Int) :
    Calls Try.prog 43 #[.slice (some ⟨g, o, none⟩) xs.length c, .slice (some ⟨gc, 0, none⟩) xs.length xs.length, .int .i64 code, .int .i64 n] w fun e w' => e = .returned (.int .i64 (fdv (fd xs code n xs.length))) ∧ w' = w := by
  have H := Lib.hid h
  have HNO := Lib.hid (fun k => fd_step_no (xs := xs) (code := code) (n := n) (k := k))
  have HYES := Lib.hid (fun k => fd_step_yes (xs := xs) (code := code) (n := n) (k := k))
  have HSAME : Hid (∀ k s, k ≤ xs.length → fd xs code n k = some s → fd xs code n xs.length = some s) := Lib.hid (fun k s hk e => fd_same e _ hk)
  have HSTART : Hid (fd xs code n 0 = none) := Lib.hid rfl
  obtain ⟨N, hN⟩ : ∃ N, N = xs.length := ⟨_, rfl⟩
  unfold Tab at H
  obtain ⟨FD, hFD⟩ : ∃ FD, FD = fd xs code n := ⟨_, rfl⟩
  generalize lf xs = X at *
  generalize codes xs = C at *
  rw [← hN] at H HSAME hl hcap ⊢
  rw [← hFD] at HNO HYES HSAME HSTART ⊢
  clear h hN hFD
  go_enter Try.func43, Try.ntmps43
  go_wp2_with fail
  go_loopw [13] (fun i wr => ∃ k : Nat, k ≤ N ∧ i = .int .i64 k ∧ FD k = none ∧ wr = w) (fun i _ => N - (intOf i).toNat)
  case atStart => exact ⟨0, Nat.zero_le _, rfl, HSTART.out, rfl⟩
  case round =>
    obtain ⟨k, hk, rfl, hno, rfl⟩ := hrel
    have HN := Lib.hid hno
    clear hno
    by_cases hkn : k < N
    · obtain ⟨d2, d1⟩ := H.out k hkn
      by_cases e1 : X k = n
      · by_cases e2 : C k = code
        · have HY := Lib.hid (HSAME.out _ _ (by omega) (HYES.out k HN.out ⟨e1, e2⟩))
          rw [e1] at d1
          rw [e2] at d2
          have b1 : (n == n) = true := by simp
          have b2 : (code == code) = true := by simp
          clear e1 e2
          go_wp2_with fail
          go_ret
          exact ⟨by rw [HY.out]; rfl, rfl⟩
        · have HS := Lib.hid (HNO.out k HN.out (fun q => e2 q.2))
          rw [e1] at d1
          obtain ⟨y, hy⟩ : ∃ y, y = C k := ⟨_, rfl⟩
          rw [← hy] at d2 e2
          have b1 : (n == n) = true := by simp
          have b2 : (y == code) = false := by rw [beq_eq_false_iff_ne]; exact e2
          clear e1 e2 hy
          go_wp2_with fail
          exact ⟨⟨k + 1, by omega, by go_num, HS.out, by first | rfl | trivial⟩, by simp [intOf]; omega⟩
      · have HS := Lib.hid (HNO.out k HN.out (fun q => e1 q.1))
        obtain ⟨y, hy⟩ : ∃ y, y = X k := ⟨_, rfl⟩
        rw [← hy] at d1 e1
        have b1 : (y == n) = false := by rw [beq_eq_false_iff_ne]; exact e1
        clear e1 hy
        go_wp2_with fail
        exact ⟨⟨k + 1, by omega, by go_num, HS.out, by first | rfl | trivial⟩, by simp [intOf]; omega⟩
    · obtain rfl : k = N := by omega
      go_wp2_with fail
      go_ret
      exact ⟨by rw [HN.out]; rfl, rfl⟩
set_option maxRecDepth 100000 in
set_option maxHeartbeats 1000000 in
theorem symbol_d (w : World) (xs : List Int) (g o c gc : Nat) (hl : xs.length ≤ 300) (hcap : xs.length ≤ c) (h : Tab w xs g o gc) (code n : Int) :
    Calls Try.prog 57 #[.slice (some ⟨g, o, none⟩) xs.length c, .slice (some ⟨gc, 0, none⟩) xs.length xs.length, .int .i64 code, .int .i64 n] w fun e w' => e = .returned (.int .i64 (fdv (fd xs code n xs.length))) ∧ w' = w := by
  have H := Lib.hid h
  have HNO := Lib.hid (fun k => fd_step_no (xs := xs) (code := code) (n := n) (k := k))
  have HYES := Lib.hid (fun k => fd_step_yes (xs := xs) (code := code) (n := n) (k := k))
  have HSAME : Hid (∀ k s, k ≤ xs.length → fd xs code n k = some s → fd xs code n xs.length = some s) := Lib.hid (fun k s hk e => fd_same e _ hk)
  have HSTART : Hid (fd xs code n 0 = none) := Lib.hid rfl
  obtain ⟨N, hN⟩ : ∃ N, N = xs.length := ⟨_, rfl⟩
  unfold Tab at H
  obtain ⟨FD, hFD⟩ : ∃ FD, FD = fd xs code n := ⟨_, rfl⟩
  generalize lf xs = X at *
  generalize codes xs = C at *
  rw [← hN] at H HSAME hl hcap ⊢
  rw [← hFD] at HNO HYES HSAME HSTART ⊢
  clear h hN hFD
  go_enter Try.func57, Try.ntmps57
  go_wp2_with fail
  go_loopw [9] (fun i wr => ∃ k : Nat, k ≤ N ∧ i = .int .i64 k ∧ FD k = none ∧ wr = w) (fun i _ => N - (intOf i).toNat)
  case atStart => exact ⟨0, Nat.zero_le _, rfl, HSTART.out, rfl⟩
  case round =>
    obtain ⟨k, hk, rfl, hno, rfl⟩ := hrel
    have HN := Lib.hid hno
    clear hno
    by_cases hkn : k < N
    · obtain ⟨d2, d1⟩ := H.out k hkn
      by_cases e1 : X k = n
      · by_cases e2 : C k = code
        · have HY := Lib.hid (HSAME.out _ _ (by omega) (HYES.out k HN.out ⟨e1, e2⟩))
          rw [e1] at d1
          rw [e2] at d2
          have b1 : (n == n) = true := by simp
          have b2 : (code == code) = true := by simp
          clear e1 e2
          go_wp2_with fail
          go_ret
          exact ⟨by rw [HY.out]; rfl, rfl⟩
        · have HS := Lib.hid (HNO.out k HN.out (fun q => e2 q.2))
          rw [e1] at d1
          obtain ⟨y, hy⟩ : ∃ y, y = C k := ⟨_, rfl⟩
          rw [← hy] at d2 e2
          have b1 : (n == n) = true := by simp
          have b2 : (y == code) = false := by rw [beq_eq_false_iff_ne]; exact e2
          clear e1 e2 hy
          go_wp2_with fail
          exact ⟨⟨k + 1, by omega, by go_num, HS.out, by first | rfl | trivial⟩, by simp [intOf]; omega⟩
      · have HS := Lib.hid (HNO.out k HN.out (fun q => e1 q.1))
        obtain ⟨y, hy⟩ : ∃ y, y = X k := ⟨_, rfl⟩
        rw [← hy] at d1 e1
        have b1 : (y == n) = false := by rw [beq_eq_false_iff_ne]; exact e1
        clear e1 hy
        go_wp2_with fail
        exact ⟨⟨k + 1, by omega, by go_num, HS.out, by first | rfl | trivial⟩, by simp [intOf]; omega⟩
    · obtain rfl : k = N := by omega
      go_wp2_with fail
      go_ret
      exact ⟨by rw [HN.out]; rfl, rfl⟩
end Go.Proofs.Ytcecnkmhhbncdaa.Rd

namespace Go.Proofs.Ytcecnkmhhbncdaa.Rd
open Go Go.RowKit Go.Shelf Go.ChangeMaps Go.MapKept Go.Mg Go.Hf Go.Sort Go.Proofs.Ytcecnkmhhbncdaa.Hu Go.Proofs.Ytcecnkmhhbncdaa.Bw Go.Proofs.Ytcecnkmhhbncdaa.He

/-- The bit at a place, as a number. -/
def bn (f : Nat → Bool) (k : Nat) : Nat := if f k = true then 1 else 0
theorem bn_lt (f : Nat → Bool) (k : Nat) : bn f k < 2 := by unfold bn; split <;> omega
theorem nv_one (f : Nat → Bool) (k : Nat) : Hf.nv f k 1 = bn f k := by simp [Hf.nv, bn]
theorem one_end {xs : List Int} {f : Nat → Bool} {n code r : Nat} : oneS xs f 0 n code r = none := rfl
theorem one_dry {xs : List Int} {f : Nat → Bool} {m n code : Nat} : oneS xs f (m + 1) n code 0 = none := by simp [oneS]
theorem one_hit {xs : List Int} {f : Nat → Bool} {m n code r s : Nat} (h : fd xs ((2 * code + bn f r : Nat) : Int) (n : Int) xs.length = some s) : oneS xs f (m + 1) n code (r + 1) = some (s, r) := by
  simp only [oneS, Nat.add_one_sub_one]
  rw [if_neg (by omega)]
  unfold bn at h
  rw [h]
theorem one_miss {xs : List Int} {f : Nat → Bool} {m n code r : Nat} (h : fd xs ((2 * code + bn f r : Nat) : Int) (n : Int) xs.length = none) : oneS xs f (m + 1) n code (r + 1) = oneS xs f m (n + 1) (2 * code + bn f r) r := by
  simp only [oneS, Nat.add_one_sub_one]
  rw [if_neg (by omega)]
  unfold bn at h ⊢
  rw [h]
def OneD (w : World) (xs : List Int) (p r : Nat) (ab : Option Addr) (cb' : Nat) (l : List UInt8) (e : Ending) (w' : World) : Prop :=
  (∃ s r', oneS xs (bb l) 11 1 0 r = some (s, r') ∧ e = .returned (.int .i64 (s : Nat)) ∧ RdD w' p r' ab cb' l ∧ Kp (· = p) w w') ∨
  (oneS xs (bb l) 11 1 0 r = none ∧ e = .returned (.int .i64 (-1)) ∧ Kp (· = p) w w')
set_option maxRecDepth 100000 in
set_option maxHeartbeats 2000000 in
theorem one_d (w : World) (xs : List Int) (g o c gc : Nat) (hl : xs.length ≤ 300) (hcap : xs.length ≤ c) (h : Tab w xs g o gc) (hg : g < w.heap.size) (hgc : gc < w.heap.size) {p r : Nat} (hgp : g ≠ p) (hgcp : gc ≠ p) {ab : Option Addr} {cb' : Nat} {l : List UInt8} (hr : RdD w p r ab cb' l) (hlb : l.length ≤ 100000) :
    Calls Try.prog 45 #[.slice (some ⟨g, o, none⟩) xs.length c, .slice (some ⟨gc, 0, none⟩) xs.length xs.length, .pointer (some ⟨p, 0, none⟩)] w (OneD w xs p r ab cb' l) := by
  have HTAB := Lib.hid (fun V (hk : Kp (· = p) w V) => h.kp hk ⟨hg, hgp⟩ ⟨hgc, hgcp⟩)
  have HR := Lib.hid hr
  have HBN := Lib.hid (fun k => bn_lt (bb l) k)
  unfold OneD
  obtain ⟨ONE, hONE⟩ : ∃ ONE, ONE = oneS xs (bb l) 11 1 0 r := ⟨_, rfl⟩
  have HONE := Lib.hid hONE
  rw [← hONE]
  clear h hr hONE
  go_enter Try.func45, Try.ntmps45
  go_wp2_with fail
  go_loopw [7, 8] (fun u i wr => ∃ n code r' : Nat, n ≤ 11 ∧ i = .int .i64 ((n : Nat) + 1) ∧ u = .int .i64 code ∧ code < 2 ^ n ∧ RdD wr p r' ab cb' l ∧ Kp (· = p) w wr ∧ ONE = oneS xs (bb l) (11 - n) (n + 1) code r') (fun _ i _ => 12 - (intOf i).toNat)
  case atStart => exact ⟨0, 0, r, by omega, rfl, rfl, by omega, HR.out, Kp.refl _ _, HONE.out⟩
  case round =>
    obtain ⟨n, code, r', hn, rfl, rfl, hcode, hrd, hk, hone⟩ := hrel
    have h11 : 2 ^ n ≤ 2 ^ 11 := Nat.pow_le_pow_right (by omega) hn
    have e11 : 2 ^ 11 = 2048 := rfl
    have hc2 : code ≤ 8388608 := by omega
    have hP : 2 ^ (n + 1) = 2 * 2 ^ n := by rw [Nat.pow_succ]; omega
    have HC1 := Lib.hid hcode
    have HP := Lib.hid hP
    have HK := Lib.hid hk
    have TK := Lib.hid (take_d hrd hlb 1 (by omega))
    have HE := Lib.hid hone
    clear hrd hk hone h11 e11 hcode hP
    by_cases hn11 : n = 11
    · subst hn11
      clear TK
      go_wp2_with fail
      go_ret
      exact .inr ⟨HE.out, rfl, HK.out⟩
    · have hn10 : n ≤ 10 := by omega
      obtain ⟨m, hm⟩ : ∃ m, 11 - n = m + 1 := ⟨10 - n, by omega⟩
      have HM := Lib.hid hm
      clear hm hn11
      go_wp2_with fail
      refine TK.out.mono ?_
      rintro e w1 (⟨hr1, rfl, hrd1, hk1⟩ | ⟨hr1, rfl, rfl⟩)
      · obtain ⟨q, rfl⟩ : ∃ q, r' = q + 1 := ⟨r' - 1, by omega⟩
        rw [Nat.add_one_sub_one] at hrd1
        rw [Nat.add_one_sub_one, nv_one]
        have hb2 := HBN.out q
        have or1 := or_low code (bn (bb l) q) hb2 (by have : (2 : Nat) ^ 40 = 1099511627776 := rfl; omega)
        have HSY := Lib.hid (fun V (hk : Kp (· = p) w V) => symbol_d V xs g o c gc hl hcap (HTAB.out V hk) ((2 * code + bn (bb l) q : Nat) : Int) ((n : Int) + 1))
        have HHIT : Hid (∀ s, fd xs ((2 * code + bn (bb l) q : Nat) : Int) ((n : Int) + 1) xs.length = some s → ONE = some (s, q)) := Lib.hid (fun s hs => by
          rw [HE.out, HM.out]; exact one_hit (n := n + 1) (by rw [Int.natCast_add n 1]; exact hs))
        have HMISS : Hid (fd xs ((2 * code + bn (bb l) q : Nat) : Int) ((n : Int) + 1) xs.length = none → ONE = oneS xs (bb l) (11 - (n + 1)) (n + 1 + 1) (2 * code + bn (bb l) q) q) := Lib.hid (fun hs => by
          rw [HE.out, HM.out, show 11 - (n + 1) = m by have := HM.out; omega]; exact one_miss (n := n + 1) (by rw [Int.natCast_add n 1]; exact hs))
        have HRD1 := Lib.hid hrd1
        have HK1 := Lib.hid (HK.out.trans hk1)
        obtain ⟨b, hb⟩ : ∃ b, b = bn (bb l) q := ⟨_, rfl⟩
        rw [← hb] at hb2 or1 HSY HHIT HMISS ⊢
        obtain ⟨C, hC⟩ : ∃ C, C = 2 * code + b := ⟨_, rfl⟩
        have h2c : ((2 * code : Nat) : Int) = (code : Int) * 2 := by omega
        rw [← hC] at or1 HSY HHIT HMISS
        rw [h2c] at or1
        have HCC := Lib.hid hC
        clear TK hrd1 hk1 HE HM hb HK hr1 h2c hC
        go_wp2_with fail
        refine (HSY.out _ HK1.out).mono ?_
        rintro e w2 ⟨rfl, hw2⟩
        obtain rfl := hw2
        cases hfd : fd xs (C : Int) ((n : Int) + 1) xs.length with
        | some s =>
          have HH := Lib.hid (HHIT.out s hfd)
          clear hfd HSY HHIT HMISS
          simp only [fdv]
          go_wp2_with fail
          go_ret
          exact .inl ⟨s, q, HH.out, rfl, HRD1.out, HK1.out⟩
        | none =>
          have HH := Lib.hid (HMISS.out hfd)
          clear hfd HSY HHIT HMISS
          simp only [fdv]
          go_wp2_with fail
          refine ⟨⟨n + 1, C, q, by omega, by go_num, rfl, ?_, HRD1.out, HK1.out, HH.out⟩, by simp [intOf]; omega⟩
          have := HC1.out
          have := HP.out
          have := HCC.out
          have : 0 < 2 ^ n := Nat.two_pow_pos n
          omega
      · obtain rfl : r' = 0 := by omega
        have HH := Lib.hid (show ONE = none by rw [HE.out, HM.out]; exact one_dry)
        clear TK HE HM
        go_wp2_with fail
        go_ret
        exact .inr ⟨HH.out, rfl, HK.out⟩
end Go.Proofs.Ytcecnkmhhbncdaa.Rd
