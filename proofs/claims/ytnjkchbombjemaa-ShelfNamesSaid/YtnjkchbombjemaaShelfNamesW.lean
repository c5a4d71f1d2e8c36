/- The walk of ShelfNames. -/
import Derived.Test.YtnjkchbombjemaaShelfE
namespace Go.Proofs.Ytnjkchbombjemaa.shelfNames
open Go Go.RowKit Go.ChangeMaps Go.MapKept Go.Mg Go.Proofs.Ytnjkchbombjemaa.Sh Go.Proofs.Ytnjkchbombjemaa.Op
def nm (i : Nat) : ByteArray := ⟨#[UInt8.ofNat (97 + i)]⟩
theorem nm_inj {i j : Nat} (hi : i < 26) (hj : j < 26) (h : nm i = nm j) : i = j := by
  unfold nm at h
  have h1 : UInt8.ofNat (97 + i) = UInt8.ofNat (97 + j) := by simpa using h
  have h2 := congrArg UInt8.toNat h1
  simp only [UInt8.toNat_ofNat'] at h2
  omega
/-- What is there when k names were loaded, every third retired again. -/
structure Inv (k q : Nat) (S : Shs) : Prop where
  last : S.last = k
  nms : ∀ i, i < 26 → AL.get S.names (nm i) = if i < k ∧ i % 3 ≠ 0 then some ((i : Int) + 1) else none
  bks : ∀ i, i < k → i % 3 ≠ 0 → ∃ p, AL.get S.books ((i : Int) + 1) = some ⟨List.replicate (i + 1) 0, true, p⟩
  pins : ∀ id x, AL.get S.books id = some x → x.pins ≤ q
def dat (m : Nat) : List UInt8 := [77, 68, 73, 67] ++ List.replicate m 0
theorem inv0 : Inv 0 0 sh0 := ⟨rfl, fun i _ => by simp [sh0, AL.get_nil], fun i h => by omega, fun id x h => by cases h⟩
theorem dat_cells (m : Nat) : ([77, 68, 73, 67] : List UInt8).map u8c ++ (Builtin.zeroCells (Value.int .u8 0).cells m).toList = (dat m).map u8c := by
  have : (Builtin.zeroCells (Value.int .u8 0).cells m).toList = List.replicate m (.int .u8 0) := zeroCells_one _ _
  rw [this, dat, List.map_append, List.map_replicate]
  rfl
theorem zero_one : ∀ m, ∀ u ∈ (Builtin.zeroCells (Value.int .u8 0).cells m).toList, u.oneCell' = true := by
  intro m u hu
  have : (Builtin.zeroCells (Value.int .u8 0).cells m).toList = List.replicate m (.int .u8 0) := zeroCells_one _ _
  rw [this] at hu
  rw [List.eq_of_mem_replicate hu]
  rfl
theorem ownR_dat {w : World} {m : Nat} {a : Option Addr} {c : Nat} (h : OwnR w 5 1 (.slice a (4 + m) c) (4 + m) (([77, 68, 73, 67] : List UInt8).map u8c ++ (Builtin.zeroCells (Value.int .u8 0).cells m).toList)) :
    OwnR w 5 1 (.slice a (4 + m) c) (4 + m) ((dat m).map u8c) := by rw [← dat_cells]; exact h
def nx (S : Shs) (k : Nat) : Shs := ⟨S.last + 1, AL.put S.books ((S.last : Int) + 1) ⟨List.replicate (k + 1) 0, true, 0⟩, AL.put S.names (nm k) ((S.last : Int) + 1)⟩
theorem load_step {k : Nat} (hk : k < 26) {S : Shs} (h : Inv k 0 S) : S.load (nm k) (dat (k + 1)) = (nx S k, (k : Int) + 1, 0, 0) := by
  have hi : isS (nm k) (dat (k + 1)) = 0 := isS_ok (by show (1 : Nat) ≠ 0; decide) (by show (1 : Nat) ≤ 12; decide) (List.prefix_append _ _) (by simp [dat]) (by simp [dat]; omega)
  have hn : AL.get S.names (nm k) = none := by rw [h.nms k hk, if_neg (by omega)]
  have hr : S.retires (nm k) = (S, 0) := by unfold Shs.retires; rw [hn]
  unfold Shs.load
  rw [if_pos hi, hr, h.last]
  simp [nx, dat, h.last]
theorem nx_inv {k : Nat} (hk : k < 26) (h3 : k % 3 ≠ 0) {S : Shs} (h : Inv k 0 S) : Inv (k + 1) 0 (nx S k) := by
  refine ⟨by simp [nx, h.last], fun i hi => ?_, fun i hi h0 => ?_, fun id x hx => ?_⟩
  · show AL.get (AL.put S.names (nm k) _) (nm i) = _
    rw [AL.get_put, h.last]
    by_cases e : i = k
    · subst e; rw [if_pos rfl, if_pos (by omega)]
    · rw [if_neg (fun q => e (nm_inj hi hk q)), h.nms i hi]
      by_cases q : i < k ∧ i % 3 ≠ 0
      · rw [if_pos q, if_pos (by omega)]
      · rw [if_neg q, if_neg (by omega)]
  · show ∃ p, AL.get (AL.put S.books _ _) _ = _
    rw [AL.get_put, h.last]
    by_cases e : i = k
    · subst e; exact ⟨0, if_pos rfl⟩
    · obtain ⟨p, hp⟩ := h.bks i (by omega) h0
      exact ⟨p, by rw [if_neg (by omega)]; exact hp⟩
  · have h1 : AL.get (AL.put S.books _ _) id = some x := hx
    rw [AL.get_put] at h1
    split at h1
    · cases h1; exact Nat.zero_le _
    · exact h.pins id x h1
theorem nx_get {k : Nat} {S : Shs} : AL.get (nx S k).books ((S.last : Int) + 1) = some ⟨List.replicate (k + 1) 0, true, 0⟩ := by
  show AL.get (AL.put S.books _ _) _ = _
  rw [AL.get_put, if_pos rfl]
theorem nx_retire {k : Nat} (hk : k < 26) (h3 : k % 3 = 0) {S : Shs} (h : Inv k 0 S) : ∃ S', (nx S k).retire (nm k) = (S', (k : Int) + 1, 0) ∧ Inv (k + 1) 0 S' := by
  have hg : AL.get (nx S k).names (nm k) = some ((S.last : Int) + 1) := by show AL.get (AL.put S.names _ _) _ = _; rw [AL.get_put, if_pos rfl]
  have hb := nx_get (k := k) (S := S)
  have hr : (nx S k).retires (nm k) = (⟨S.last + 1, AL.del (AL.put (nx S k).books ((S.last : Int) + 1) ⟨List.replicate (k + 1) 0, false, 0⟩) ((S.last : Int) + 1), AL.del (nx S k).names (nm k)⟩, (S.last : Int) + 1) := by
    unfold Shs.retires
    rw [hg]
    simp only [hb]
    unfold Shs.lets
    simp only [AL.get_put, if_true]
    simp [nx]
  refine ⟨_, by unfold Shs.retire; rw [if_neg (by rw [hg]; simp), hr, h.last], ?_⟩
  refine ⟨by simp, fun i hi => ?_, fun i hi h0 => ?_, fun id x hx => ?_⟩
  · show AL.get (AL.del (AL.put S.names (nm k) _) (nm k)) (nm i) = _
    rw [AL.get_del, AL.get_put]
    by_cases e : i = k
    · subst e; rw [if_pos rfl, if_neg (by omega)]
    · have hne : nm i ≠ nm k := fun q => e (nm_inj hi hk q)
      rw [if_neg hne, if_neg hne, h.nms i hi]
      by_cases q : i < k ∧ i % 3 ≠ 0
      · rw [if_pos q, if_pos (by omega)]
      · rw [if_neg q, if_neg (by omega)]
  · have e : i ≠ k := fun q => by subst q; exact h0 h3
    obtain ⟨p, hp⟩ := h.bks i (by omega) h0
    refine ⟨p, ?_⟩
    show AL.get (AL.del (AL.put (AL.put S.books _ _) _ _) _) _ = _
    rw [AL.get_del, AL.get_put, AL.get_put, h.last, if_neg (by omega), if_neg (by omega), if_neg (by omega)]
    exact hp
  · have h1 : AL.get (AL.del (AL.put (AL.put S.books _ _) _ _) _) id = some x := hx
    rw [AL.get_del, AL.get_put, AL.get_put] at h1
    split at h1
    · cases h1
    · rename_i hne; rw [h.last, if_neg hne] at h1; first | exact h.pins id x h1 | skip; rw [if_neg hne] at h1; exact h.pins id x h1
theorem pin_some {n q i : Nat} (hi : i < n) (hn : n ≤ 26) (h3 : i % 3 ≠ 0) {S : Shs} (h : Inv n q S) : ∃ S', S.pin (nm i) = (S', (i : Int) + 1, List.replicate (i + 1) 0, 0) ∧ Inv n (q + 1) S' := by
  have h1 := h.nms i (by omega)
  rw [if_pos ⟨hi, h3⟩] at h1
  obtain ⟨p, hp⟩ := h.bks i hi h3
  refine ⟨⟨S.last, AL.put S.books ((i : Int) + 1) ⟨List.replicate (i + 1) 0, true, p + 1⟩, S.names⟩, by unfold Shs.pin; simp only [h1, hp], h.last, h.nms, fun j hj h0 => ?_, fun id x hx => ?_⟩
  · obtain ⟨p', hp'⟩ := h.bks j hj h0
    show ∃ p, AL.get (AL.put S.books _ _) _ = _
    rw [AL.get_put]
    by_cases e : j = i
    · subst e; exact ⟨_, if_pos rfl⟩
    · exact ⟨p', by rw [if_neg (by omega)]; exact hp'⟩
  · have h2 : AL.get (AL.put S.books _ _) id = some x := hx
    rw [AL.get_put] at h2
    split at h2
    · cases h2; exact Nat.succ_le_succ (h.pins _ _ hp)
    · exact Nat.le_succ_of_le (h.pins id x h2)
theorem pin_none {n q i : Nat} (hi : i < n) (hn : n ≤ 26) (h3 : i % 3 = 0) {S : Shs} (h : Inv n q S) : S.pin (nm i) = (S, 0, [], 5) := by
  have h1 := h.nms i (by omega)
  rw [if_neg (by omega)] at h1
  unfold Shs.pin; simp only [h1]
/-- A letter, as the walk makes it. -/
theorem letter (k : Nat) (hk : k < 26) (w : World) : (convert 22 9 (.slice (some ⟨w.heap.size, 0, none⟩) 1 1)).run Try.prog (w.alloc (.cells #[.int .u8 (97 + (k : Int))] 5)) = .ok (.string (nm k)) (w.alloc (.cells #[.int .u8 (97 + (k : Int))] 5)) := by
  have hc : (#[.int .u8 (97 + (k : Int))] : Array Value) = ([UInt8.ofNat (97 + k)].map u8c).toArray := by
    simp only [List.map_cons, List.map_nil, u8c, UInt8.toNat_ofNat']
    have : (97 + k) % 2 ^ 8 = 97 + k := Nat.mod_eq_of_lt (by omega)
    rw [this]; rfl
  have hs := lit_sl w [UInt8.ofNat (97 + k)] #[.int .u8 (97 + (k : Int))] hc (0, 0) (.inl rfl) 1 rfl (by simp)
  exact strOf (l := [UInt8.ofNat (97 + k)]) hs
set_option maxHeartbeats 1000000 in
theorem walk_in (n : Nat) (h1 : 1 ≤ n) (hn : n ≤ 26) (w : World) :
    Calls Try.prog 6 #[.int .i64 n] w (LawPost w) := by
  have t1 : decide ((n : Int) < 1) = false := by simp; omega
  have t2 : decide ((26 : Int) < n) = false := by simp; omega
  have kc := fun (w : World) (C : Array Value) (n c : Nat) => Lib.run_convert_bytes_const (P := Try.prog) w 22 5 C n c Try.underlying22 Try.underlying5
  obtain ⟨i0, hi, hz0, hz1, hz2⟩ := info_parts info5
  go_enter Try.func6, Try.ntmps6
  go_wp2_with fail
  refine (new_o _).mono ?_
  rintro e w1 ⟨s, rfl, h1⟩
  go_wp2_with fail
  go_loopw [4] (fun i wr => ∃ (k : Nat) (S : Shs) (B : Nat), k ≤ n ∧ i = .int .i64 k ∧ ShO w B wr s S ∧ Inv k 0 S) (fun i _ => n - (intOf i).toNat)
  case atStart => exact ⟨0, sh0, _, Nat.zero_le _, rfl, h1, inv0⟩
  case round =>
    obtain ⟨k, S, B, hk, rfl, hr, hI⟩ := hrel
    by_cases hlt : k < n
    · have hcv := letter k (by omega) wr
      have ka := kp_lit wr (.cells #[.int .u8 (97 + (k : Int))] 5)
      have hr1 := hr.new ka
      have hr2 := hr1.new (kp_lit _ (.cells #[.int .u8 77, .int .u8 68, .int .u8 73, .int .u8 67] 5 (4, 5)))
      have hlo := lit_own (wr.alloc (.cells #[.int .u8 (97 + (k : Int))] 5)) [77, 68, 73, 67] #[.int .u8 77, .int .u8 68, .int .u8 73, .int .u8 67] rfl (4, 5) (.inr (Nat.le_refl _)) 4 rfl (by decide)
      have HI := Lib.hid hI
      have hB := hr.B
      have kc2 := kc (wr.alloc (.cells #[.int .u8 (97 + (k : Int))] 5)) #[.int .u8 77, .int .u8 68, .int .u8 73, .int .u8 67] 4 4
      have es : (wr.alloc (.cells #[.int .u8 (97 + (k : Int))] 5)).heap.size = wr.heap.size + 1 := by simp
      rw [es] at kc2 hlo
      have HO := Lib.hid hlo
      clear hlo hI es
      go_wp2_with (at_builtin; go_must (refine wpList_appz _ rfl _ _ 22 3 rfl 5 i0 (.int .u8 0) .i64 1 1 Try.underlying22 Try.underlying3 hi hz0 hz1 hz2 rfl (by decide) (by decide) zero_one (.slice (some ⟨wr.heap.size + 1, 0, none⟩) 4 4) 4 _ rfl HO.out .i64 (k + 1) rfl (by omega) ?_; intro v' w2 g1 g2 g3 g4 g5; obtain ⟨a1, c1, rfl⟩ := g1.form; have g1 := ownR_dat g1; have G1 := Lib.hid g1; have G3 := Lib.hid g3; clear g1 g3 g4 g5))
      have hw := hr2.set (g := (wr.alloc (.cells #[.int .u8 (97 + (k : Int))] 5)).heap.size) (g2.mono (fun i _ e => by have := own_b e; simp; omega)) (by simp; omega) (by have := hr.kp.size; simp; omega)
      refine (load_o hw (by rw [HI.out.last]; omega) (nm k) a1 (4 + (k + 1)) c1 (dat (k + 1)) G1.out.sl (fun b hb => ?_) (by show (1 : Nat) ≤ _; omega) (by simp [dat]; omega)).mono ?_
      · rcases G3.out with e | e
        · rw [hb] at e; have := own_b e.symm; omega
        · rw [hb] at e; simp at e; omega
      unfold LoadO
      rw [load_step (by omega) HI.out]
      rintro e w3 ⟨rfl, h3⟩
      have HI2 := HI
      clear hw G1 G3 g2 HO hr1 hr2 ka hcv
      by_cases hk3 : k % 3 = 0
      · have t3 : ((k : Int) % 3 == 0) = true := by simp; omega
        have t5 : (k : Int) % 3 = 0 := by omega
        obtain ⟨S', hS', hI'⟩ := nx_retire (by omega) hk3 HI.out
        have HS := Lib.hid hS'
        have HJ := Lib.hid hI'
        clear hS' hI' hk3
        go_wp2_with fail
        refine (retire_o h3 (nm k)).mono ?_
        unfold RetireO
        rw [HS.out]
        rintro e w4 ⟨rfl, h4⟩
        go_wp2_with fail
        exact ⟨⟨k + 1, S', _, by omega, by go_num, h4, HJ.out⟩, by simp [intOf]; omega⟩
      · have t3 : ((k : Int) % 3 == 0) = false := by simp; omega
        have t5 : ¬ (k : Int) % 3 = 0 := by omega
        have HJ := Lib.hid (nx_inv (by omega) hk3 HI.out)
        clear hk3
        go_wp2_with fail
        exact ⟨⟨k + 1, _, _, by omega, by go_num, h3, HJ.out⟩, by simp [intOf]; omega⟩
    · obtain rfl : k = n := by omega
      clear hlt
      go_wp2_with fail
      clear h1
      go_loopw [9] (fun i wr => ∃ (j q : Nat) (S : Shs), j ≤ k ∧ q ≤ j ∧ i = .int .i64 j ∧ ShO w B wr s S ∧ Inv k q S) (fun i _ => k - (intOf i).toNat)
      case atStart => exact ⟨0, 0, S, Nat.zero_le _, Nat.le_refl _, rfl, hr, hI⟩
      case round =>
        clear hI hr
        obtain ⟨j, q, S, hj, hq, rfl, hr, hI⟩ := hrel
        by_cases hjl : j < k
        · have hcv := letter j (by omega) wr
          have hr1 := hr.new (kp_lit wr (.cells #[.int .u8 (97 + (j : Int))] 5))
          have hP : ∀ id x, AL.get S.books id = some x → x.pins < 4611686018427387904 := fun id x hx => by have := hI.pins id x hx; omega
          by_cases hj3 : j % 3 = 0
          · have t3 : ((j : Int) % 3 == 0) = true := by simp; omega
            have t5 : (j : Int) % 3 = 0 := by omega
            have hpin := pin_none hjl hn hj3 hI
            have HI := Lib.hid hI
            have HP := Lib.hid hpin
            clear hI hpin hj3 hr
            go_wp2_with fail
            refine (pin_o hr1 hP (nm j)).mono ?_
            unfold PinO
            rw [HP.out]
            rintro e w3 ⟨a, c, rfl, h3, h4, h5, h6⟩
            clear h5 h6
            go_wp2_with fail
            exact ⟨⟨j + 1, q, S, by omega, by omega, by go_num, h3, HI.out⟩, by simp [intOf]; omega⟩
          · have t3 : ((j : Int) % 3 == 0) = false := by simp; omega
            have t5 : ¬ (j : Int) % 3 = 0 := by omega
            have t4 : ((j : Int) % 3 != 0) = true := by simp; omega
            obtain ⟨S', hpin, hI'⟩ := pin_some hjl hn hj3 hI
            have HI := Lib.hid hI'
            have HP := Lib.hid hpin
            clear hI hpin hj3 hr hI'
            go_wp2_with fail
            refine (pin_o hr1 hP (nm j)).mono ?_
            unfold PinO
            rw [HP.out]
            rintro e w3 ⟨a, c, rfl, h3, h4, h5, h6⟩
            clear h5 h6
            go_wp2_with fail
            exact ⟨⟨j + 1, q + 1, S', by omega, by omega, by go_num, h3, HI.out⟩, by simp [intOf]; omega⟩
        · clear hI
          go_wp2_with fail
          refine (known_any _).mono ?_
          rintro e w6 ⟨rfl, k6⟩
          go_wp2_with fail
          go_ret
          exact ⟨rfl, (hr.kp.trans k6).below⟩
theorem walk_out (a : Int) (w : World) (h : a < 1 ∨ 26 < a) : Calls Try.prog 6 #[.int .i64 a] w (LawPost w) := by
  have t : (decide (a < 1) = true) ∨ (decide (a < 1) = false ∧ decide (26 < a) = true) := by simp; omega
  go_enter Try.func6, Try.ntmps6
  rcases t with t | ⟨t, t2⟩ <;> (go_wp2_with fail; all_goals (go_ret; exact ⟨rfl, Below.refl _ _⟩))
theorem walk (a0 : Int) (_ : (Lit.int .i64 a0).wf = true) (w : World) : Calls Try.prog 6 #[.int .i64 a0] w (LawPost w) := by
  by_cases h0 : a0 < 1 ∨ 26 < a0
  · exact walk_out a0 w h0
  obtain ⟨n, rfl⟩ : ∃ n : Nat, a0 = n := ⟨a0.toNat, by omega⟩
  exact walk_in n (by omega) (by omega) w
end Go.Proofs.Ytnjkchbombjemaa.shelfNames
