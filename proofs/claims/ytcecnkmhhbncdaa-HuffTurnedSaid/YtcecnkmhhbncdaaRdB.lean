/- The program's Reader: NewReader, Left. -/
import Derived.Test.YtcecnkmhhbncdaaRdA
import Derived.Test.YtcecnkmhhbncdaaHeA
import Derived.Test.YtcecnkmhhbncdaaLayA
import Derived.Shelf.Small.Bits
namespace Go.Proofs.Ytcecnkmhhbncdaa.Rd
open Go Go.RowKit Go.Shelf Go.ChangeMaps Go.MapKept Go.Mg Go.Hf Go.Sort Go.Proofs.Ytcecnkmhhbncdaa.Hu Go.Proofs.Ytcecnkmhhbncdaa.Bw Go.Proofs.Ytcecnkmhhbncdaa.He

/-- A Reader of the first r of the bits f. -/
structure RdAt (ty : TypeId) (F : Nat → Prop) (w : World) (p : Nat) (a : Option Addr) (c r : Nat) (f : Nat → Bool) : Prop where
  hp : w.heap[p]? = some (.cells #[.slice a r c] ty (0, 0))
  sl : SlR w 1 (.slice a r c) r ((List.range r).map fun i => Value.bool (f i))
  fp : F p
  ne : ∀ k, (Value.slice a r c).ownBlock = some k → F k ∧ k ≠ p
def RdIn (ty : TypeId) (F : Nat → Prop) (w : World) (p r : Nat) (f : Nat → Bool) : Prop := ∃ a c, RdAt ty F w p a c r f
theorem RdIn.kp {ty : TypeId} {F G : Nat → Prop} {w w' : World} {p r : Nat} {f : Nat → Bool} (h : RdIn ty F w p r f) (hk : Kp G w w') (hn : ∀ k, F k → ¬ G k) : RdIn ty F w' p r f := by
  obtain ⟨a, c, h1, h2, h3, h4⟩ := h
  exact ⟨a, c, hk.at_ h1 (hn _ h3), h2.kp hk (fun k q => hn k (h4 k q).1), h3, h4⟩
def NewRPost (ty : TypeId) (w : World) (l : List UInt8) (e : Ending) (w' : World) : Prop :=
  (Gb l ∧ ∃ p, e = .returned (.tuple #[.pointer (some ⟨p, 0, none⟩), .bool true]) ∧ RdIn ty (fun k => w.heap.size ≤ k ∧ k < w'.heap.size) w' p (top l) (bb l) ∧ Kp (fun _ => False) w w') ∨
  (¬ Gb l ∧ e = .returned (.tuple #[.pointer none, .bool false]) ∧ w' = w)
theorem len8_c (x : Nat) (hx : x < 256) (w : World) : Calls Try.prog 55 #[.int .u8 (x : Nat)] w fun e w' => e = .returned (.int .i64 (Lib.bitLen x : Nat)) ∧ w' = w := by
  have := Any.bits_Len8 Try.lays126 (x : Nat) w (by omega) (by omega)
  rwa [Int.toNat_natCast] at this
theorem map_snoc (f : Nat → Bool) (k : Nat) : (List.range (k + 1)).map f = (List.range k).map f ++ [f k] := by simp [List.range_succ]

set_option maxRecDepth 100000 in
set_option maxHeartbeats 2000000 in
theorem newr_p (w : World) (l : List UInt8) (ab : Option Addr) (cb' : Nat) (hb : SlR w 1 (.slice ab l.length cb') l.length (l.map u8c)) (hlb : l.length ≤ 100000) :
    Calls Try.prog 40 #[.slice ab l.length cb'] w (NewRPost 89 w l) := by
  have mixed : Try.prog.follows .mixedOrders = true := by kernel_rfl
  obtain ⟨i0, hi0, hz0, hz1, hz2⟩ := info_parts infoB
  by_cases h0 : l.length = 0
  · have HNO := Lib.hid (show ¬ Gb l from fun q => by have := q.1; omega)
    clear hb
    rw [h0]
    go_enter Try.func40, Try.ntmps40
    go_wp2_with fail
    go_ret2
    exact .inr ⟨HNO.out, rfl, rfl⟩
  · obtain ⟨g, o, rfl, hg, hcap, hc⟩ := bytes_at hb (by omega)
    obtain ⟨x, hx⟩ : ∃ x, x = sym l (l.length - 1) := ⟨_, rfl⟩
    have d0 := hc (l.length - 1) (by omega)
    rw [← hx] at d0
    have hx256 : x < 256 := by rw [hx]; exact sym_lt _ _
    have HX := Lib.hid hx
    have HC := Lib.hid hc
    have HSL := Lib.hid (sym_lt l)
    have HBB : Hid (∀ k, bb l k = decide (sym l (k / 8) / 2 ^ (k % 8) % 2 = 1)) := Lib.hid (fun _ => rfl)
    by_cases hx0 : x = 0
    · have HNO := Lib.hid (show ¬ Gb l from fun q => q.2 (by have := HX.out; rw [hx0] at this; exact this.symm))
      obtain ⟨n, hn⟩ : ∃ n, n = l.length - 1 := ⟨_, rfl⟩
      have hni : ((l.length : Nat) : Int) - 1 = (n : Nat) := by omega
      have hnn : ((l.length : Nat) : Int) = (n : Nat) + 1 := by omega
      rw [hx0, ← hn] at d0
      have hcap' : n + 1 ≤ cb' := by omega
      have hn5 : n ≤ 100000 := by omega
      rw [show l.length = n + 1 by omega]
      clear hb hc hx hx0 hni hnn h0 hcap hlb hn
      go_enter Try.func40, Try.ntmps40
      go_wp2_with fail
      go_ret2
      exact .inr ⟨HNO.out, rfl, rfl⟩
    · have hgb : Gb l := ⟨by omega, by have := HX.out; intro q; exact hx0 (this.trans q)⟩
      have HGB := Lib.hid hgb
      have htl := top_lt hgb
      have hs := hi_spec hx0 hx256
      have htop : top l = 8 * (l.length - 1) + hi x := by rw [HX.out]; rfl
      obtain ⟨n, hn⟩ : ∃ n, n = l.length - 1 := ⟨_, rfl⟩
      obtain ⟨T, hT⟩ : ∃ T, T = top l := ⟨_, rfl⟩
      obtain ⟨bl, hbl⟩ : ∃ bl, bl = Lib.bitLen x := ⟨_, rfl⟩
      have hbl1 : 1 ≤ bl ∧ bl ≤ 8 := by omega
      have hTi : T + 1 = 8 * n + bl := by omega
      have hT8 : T < 8 * (n + 1) := by omega
      have LEN := Lib.hid (len8_c x hx256 w)
      rw [← hbl] at LEN
      rw [← hn] at d0
      have hcap' : n + 1 ≤ cb' := by omega
      have hn5 : n ≤ 100000 := by omega
      have HLN := Lib.hid (show l.length = n + 1 by omega)
      have hx00 : ((x : Int) == 0) = false := by rw [beq_eq_false_iff_ne]; omega
      unfold NewRPost
      rw [← hT, HLN.out]
      have HCC : Hid (∀ V, Kp (fun _ => False) w V → ∀ k, k < T → V.cell? ⟨g, o + k / 8, none⟩ = some (.int .u8 (sym l (k / 8) : Nat))) := Lib.hid (fun V hk k hkt =>
        (hk.cell (p := ⟨g, o + k / 8, none⟩) hg (fun q => q)).trans (HC.out (k / 8) (by have := HLN.out; omega)))
      obtain ⟨f, hf⟩ : ∃ f, f = bb l := ⟨_, rfl⟩
      rw [← hf] at HBB ⊢
      clear hb hc hx hx0 h0 hcap hlb hn hT htl hs htop hbl hgb hf HC
      go_enter Try.func40, Try.ntmps40
      go_wp2_with fail
      refine LEN.out.mono ?_
      rintro e w' ⟨rfl, rfl⟩
      have hTT : (8 * (n : Int) + (bl : Nat) - 1) = (T : Nat) := by omega
      go_wp2_with fail
      have U0 : Hid (WrPost 89 (· = w'.heap.size) (w'.alloc (.cells #[.slice none 0 0] 89)) w'.heap.size ((List.range 0).map f) (w'.alloc (.cells #[.slice none 0 0] 89))) := Lib.hid ⟨_, _, _, wr_new 89 w', Kp.refl _ _, fun k q => .inl q⟩
      obtain ⟨W1, hW1⟩ : ∃ W1, W1 = w'.alloc (.cells #[.slice none 0 0] 89) := ⟨_, rfl⟩
      have HW1 := Lib.hid (show W1.heap.size = w'.heap.size + 1 ∧ Kp (fun _ => False) w' W1 by rw [hW1]; exact ⟨by simp, (Kp.refl _ _).alloc _⟩)
      rw [← hW1] at U0 ⊢
      clear hW1 d0 LEN
      go_loopw [35] (fun i wr => ∃ k : Nat, k ≤ T ∧ i = .int .i64 k ∧ WrPost 89 (· = w'.heap.size) W1 w'.heap.size ((List.range k).map f) wr) (fun i _ => T - (intOf i).toNat)
      case atStart => exact ⟨0, Nat.zero_le _, rfl, U0.out⟩
      case round =>
        clear U0
        obtain ⟨k, hk, rfl, F', a', c', h1, h2, h3⟩ := hrel
        have hkw : Kp (fun _ => False) w' wr := HW1.out.2.trans2 h2 (fun i hi q => by omega)
        by_cases hkT : k < T
        · obtain ⟨R, hR⟩ : ∃ R, R = (List.range k).map f := ⟨_, rfl⟩
          have hRl : R.length = k := by rw [hR]; simp
          obtain ⟨s, hs⟩ : ∃ s, s = sym l (k / 8) := ⟨_, rfl⟩
          have hs256 : s < 256 := by rw [hs]; exact HSL.out _
          have HR : Hid ((List.range (k + 1)).map f = R ++ [Go.bits .and .u8 ((s : Int) / 2 ^ (k % 8)) 1 == 1]) := Lib.hid (by
            rw [map_snoc, ← hR, low_bit s _ hs256, HBB.out k, ← hs]
            congr 2
            by_cases e : s / 2 ^ (k % 8) % 2 = 1
            · rw [e]; rfl
            · rw [show s / 2 ^ (k % 8) % 2 = 0 by omega]; rfl)
          rw [← hR] at h1
          have d1 := h1.cell
          rw [hRl] at d1
          have d2 := HCC.out wr hkw k hkT
          rw [← hs] at d2
          have H1 := Lib.hid h1
          have H2 := Lib.hid h2
          have H3 := Lib.hid h3
          have hk8 : k / 8 < n + 1 := by omega
          clear h1 h2 h3 hkw hR hs
          go_wp2_with fail
          have q1 : IntKind.i64.wrap ((k : Int) / 8) = (k : Int) / 8 := by rw [IntKind.wrap_i64]; omega
          have q2 : 0 ≤ (k : Int) / 8 := by omega
          have q3 : (k : Int) / 8 < (n : Int) + 1 := by omega
          have q4 : ((k : Int) / 8).toNat = k / 8 := by omega
          have q5 : (k : Int).tmod 8 = (k : Int) % 8 := Int.tmod_eq_emod_of_nonneg (by omega)
          have q6 : 0 ≤ (k : Int) % 8 := by omega
          have q7 : (k : Int) % 8 ≤ 8 := by omega
          have q8 : ((k : Int) % 8).toNat = k % 8 := by omega
          have T1 := Lib.hid (lit_b wr.drew)
          have kA : ∀ z, Kp (fun _ => False) wr (wr.drew.alloc (.cells #[.bool z] 4)) := fun z => ((Kp.refl _ _).drew).alloc _
          have KA := Lib.hid kA
          have d3 := (((Kp.refl (fun _ => False) wr).alloc (.cells #[.bool (Go.bits .and .u8 ((s : Int) / 2 ^ (k % 8)) 1 == 1)] 4)).cell (p := ⟨w'.heap.size, 0, none⟩) (lt_of_at H1.out.hp) (fun q => q)).trans d1
          have HO := Lib.hid (fun z => H1.out.own.kp (kA z) (fun _ _ q => q))
          have HRL := Lib.hid hRl
          clear kA hRl
          go_region_law (first
            | (refine step_app _ rfl (.tmp 42) (.tmp 53) 51 rfl 4 i0 _ 1 1 Try.underlying51 hi0 hz0 hz1 hz2 rfl (by decide) (by decide) (.slice a' R.length c') R.length _ (by simp [Act.eval, HRL.out]) (HO.out _) (.slice (some ⟨wr.heap.size, 0, none⟩) 1 1) 1 _ (by simp [Act.eval]) (T1.out _) (one_b _) (by have := HRL.out; omega) ?_; intro v1 w3 g1 g2 g3 g4 g5; obtain ⟨b1, e1, rfl⟩ := g1.form; obtain ⟨f1, f2, f3⟩ := H1.out.app (KA.out _) g1 g2 g3; have F3 := Lib.hid f3; clear g1 g2 g3 g4 g5 f3))
          all_goals (go_wp2_with fail; exact ⟨⟨k + 1, by omega, by go_num, by rw [HR.out]; exact WrPost.trans H2.out H3.out F3.out⟩, by simp [intOf]; omega⟩)
        · obtain rfl : k = T := by omega
          have hRl : ((List.range k).map f).length = k := by simp
          have HW : Hid (RdIn 89 (fun q => w'.heap.size ≤ q ∧ q < wr.heap.size) wr w'.heap.size k f) := Lib.hid ⟨a', c', by have := h1.hp; rwa [hRl] at this, by have := h1.own.sl; rw [hRl, List.map_map] at this; exact this, ⟨Nat.le_refl _, lt_of_at h1.hp⟩, fun q hq => by
            have h5 := h1.ne q (by rw [hRl]; exact hq)
            have h4 := h3 q h5.1
            have := HW1.out.1
            exact ⟨⟨by omega, h1.own.lt (by rw [hRl]; exact hq)⟩, h5.2⟩⟩
          have HK := Lib.hid hkw
          clear h1 h2 h3 hkw
          go_wp2_with fail
          go_ret2
          exact .inl ⟨HGB.out, _, rfl, HW.out, HK.out⟩
theorem left_p {F : Nat → Prop} {w : World} {p r : Nat} {f : Nat → Bool} (h : RdIn 89 F w p r f) :
    Calls Try.prog 41 #[.pointer (some ⟨p, 0, none⟩)] w fun e w' => e = .returned (.int .i64 (r : Nat)) ∧ w' = w := by
  obtain ⟨a, c, h1, h2, _, _⟩ := h
  have d0 : w.cell? ⟨p, 0, none⟩ = some (.slice a r c) := by rw [cell_of h1]; rfl
  clear h1 h2
  go_enter Try.func41, Try.ntmps41
  go_wp2_with fail
  go_ret
  exact ⟨rfl, rfl⟩
end Go.Proofs.Ytcecnkmhhbncdaa.Rd
