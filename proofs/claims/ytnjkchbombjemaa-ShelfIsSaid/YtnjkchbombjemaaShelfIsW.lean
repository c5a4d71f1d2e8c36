/- The walk of ShelfIs. -/
import Derived.Test.YtnjkchbombjemaaShelfD
import Derived.Test.YtnjkchbombjemaaOpen
namespace Go.Proofs.Ytnjkchbombjemaa.shelfIs
open Go Go.RowKit Go.ChangeMaps Go.MapKept Go.Mg Go.Proofs.Ytnjkchbombjemaa.Sh Go.Proofs.Ytnjkchbombjemaa.Op

theorem zero_one : ∀ m, ∀ u ∈ (Builtin.zeroCells (Value.int .u8 0).cells m).toList, u.oneCell' = true := by
  intro m u hu
  have : (Builtin.zeroCells (Value.int .u8 0).cells m).toList = List.replicate m (.int .u8 0) := zeroCells_one _ _
  rw [this] at hu
  rw [List.eq_of_mem_replicate hu]
  rfl
/-- k times the letter n. -/
def ns : Nat → ByteArray
  | 0 => ⟨#[]⟩
  | k + 1 => ns k ++ ⟨#[110]⟩
theorem ns_size (k : Nat) : (ns k).size = k := by
  induction k with
  | zero => rfl
  | succ k ih => unfold ns; rw [ByteArray.size_append, ih]; rfl

/-- The bytes: the title, and m noughts. -/
def dat (m : Nat) : List UInt8 := [77, 68, 73, 67] ++ List.replicate m 0
def datx (m : Nat) : List UInt8 := [77, 88, 73, 67] ++ List.replicate m 0
theorem dat_cells (m : Nat) : ([77, 68, 73, 67] : List UInt8).map u8c ++ (Builtin.zeroCells (Value.int .u8 0).cells m).toList = (dat m).map u8c := by
  have : (Builtin.zeroCells (Value.int .u8 0).cells m).toList = List.replicate m (.int .u8 0) := zeroCells_one _ _
  rw [this, dat, List.map_append, List.map_replicate]
  rfl
theorem dat_len (m : Nat) : (dat m).length = 4 + m := by simp [dat]; omega
theorem datx_len (m : Nat) : (datx m).length = 4 + m := by simp [datx]; omega
theorem is_dat_name {n : Nat} {l : List UInt8} (h : n = 0 ∨ 12 < n) : isS (ns n) l = 1 := by unfold isS; rw [ns_size, if_pos h]
theorem is_dat_size {m n : Nat} (h : ¬ (n = 0 ∨ 12 < n)) (h2 : m = 0 ∨ 2000 < m) : isS (ns n) (dat m) = 4 := by
  unfold isS; rw [ns_size, if_neg h, if_pos]
  rw [dat_len]; omega
theorem is_dat_ok {m n : Nat} (h : ¬ (n = 0 ∨ 12 < n)) (h2 : ¬ (m = 0 ∨ 2000 < m)) : isS (ns n) (dat m) = 0 :=
  isS_ok (by rw [ns_size]; omega) (by rw [ns_size]; omega) (List.prefix_append _ _) (by rw [dat_len]; omega) (by rw [dat_len]; omega)
theorem is_datx {m n : Nat} (h : ¬ (n = 0 ∨ 12 < n)) : isS (ns n) (datx m) = 4 := by
  unfold isS; rw [ns_size, if_neg h, if_pos]
  left
  unfold pfx
  have : ((⟨(datx m).toArray⟩ : ByteArray).extract 0 mdic.size).toList = [77, 88, 73, 67] := by
    rw [ByteArray.toList_eq, Lib.extract_data]
    simp [datx, mdic, ByteArray.size]
  rw [this]
  have h2 : (([77, 88, 73, 67] : List UInt8) == mdic.toList) = false := by rw [ByteArray.toList_eq]; decide
  rw [h2]; simp

theorem kp_new {w w1 w2 : World} {v : Value} (h1 : Kp (fun _ => False) w w1) (hv : v.ownBlock = some w.heap.size) (h2 : Kp (fun k => v.ownBlock = some k) w1 w2) : Kp (fun _ => False) w w2 :=
  h1.trans2 h2 (fun i hi e => by rw [hv] at e; cases e; omega)

theorem ownR_dat {w : World} {m : Nat} {a : Option Addr} {c : Nat} (h : OwnR w 5 1 (.slice a (4 + m) c) (4 + m) (([77, 68, 73, 67] : List UInt8).map u8c ++ (Builtin.zeroCells (Value.int .u8 0).cells m).toList)) :
    OwnR w 5 1 (.slice a (4 + m) c) (4 + m) ((dat m).map u8c) := by rw [← dat_cells]; exact h
theorem ownR_datx {w : World} {m : Nat} {a : Option Addr} {c : Nat} (h : OwnR w 5 1 (.slice a (4 + m) c) (4 + m) (((dat m).map u8c).set 1 (.int .u8 88))) :
    OwnR w 5 1 (.slice a (4 + m) c) (4 + m) ((datx m).map u8c) := h
theorem kp_own {w w1 w2 : World} {v v' : Value} {B g : Nat} (h : Kp (fun _ => False) w w1) (hv : v'.ownBlock = v.ownBlock ∨ v'.ownBlock = some B) (hB : w.heap.size ≤ B) (hv0 : ∀ b, v.ownBlock = some b → w.heap.size ≤ b) (hg : v'.ownBlock = some g) (h2 : Kp (· = g) w1 w2) : Kp (fun _ => False) w w2 :=
  h.trans2 h2 (fun i hi e => by
    subst e
    rcases hv with hv | hv
    · have := hv0 i (hv ▸ hg); omega
    · rw [hg] at hv; cases hv; omega)
theorem store_x {w w1 : World} {m B : Nat} {a : Option Addr} {c : Nat} (h : OwnR w1 5 1 (.slice a (4 + m) c) (4 + m) ((dat m).map u8c)) (hk : Kp (fun _ => False) w w1)
    (hv : (Value.slice a (4 + m) c).ownBlock = (Value.slice (some ⟨w.heap.size, 0, none⟩) 4 4).ownBlock ∨ (Value.slice a (4 + m) c).ownBlock = some B) (hB : w.heap.size ≤ B) :
    ∃ g, a = some ⟨g, 0, none⟩ ∧ 4 + m ≤ c ∧ w1.cell? ⟨g, 1, none⟩ = some (.int .u8 68) ∧ w1.frozen? ⟨g, 1, none⟩ = false ∧
      OwnR (w1.setCell ⟨g, 1, none⟩ (.int .u8 88)) 5 1 (.slice a (4 + m) c) (4 + m) ((datx m).map u8c) ∧ Kp (fun _ => False) w (w1.setCell ⟨g, 1, none⟩ (.int .u8 88)) := by
  obtain ⟨g, rfl, hc, hat⟩ := h.at1 (by omega)
  obtain ⟨b1, b2, b3⟩ := hat 1 (by omega)
  refine ⟨g, rfl, hc, b1 _ rfl, b2, (b3 _).1, hk.trans2 (b3 _).2 (fun i hi e => ?_)⟩
  subst e
  rcases hv with hv | hv
  · simp only [Value.ownBlock, Option.some.injEq] at hv; omega
  · simp only [Value.ownBlock, Option.some.injEq] at hv; omega
set_option maxHeartbeats 1000000 in
theorem walk_ok (n m : Nat) (hn : n ≤ 20) (hm : m ≤ 2100) (h : ¬ (n = 0 ∨ 12 < n)) (h2 : ¬ (m = 0 ∨ 2000 < m)) (w : World) :
    Calls Try.prog 3 #[.int .i64 n, .int .i64 m, .int .i64 0] w (LawPost w) := by
  have t1 : decide ((n : Int) < 0) = false := by simp
  have t2 : decide ((20 : Int) < n) = false := by simp; omega
  have t3 : decide ((m : Int) < 0) = false := by simp
  have t4 : decide ((2100 : Int) < m) = false := by simp; omega
  have e1 : decide ((n : Int) < 1) = false := by simp; omega
  have e2 : decide ((12 : Int) < n) = false := by simp; omega
  have e3 : decide ((m : Int) < 1) = false := by simp; omega
  have e4 : decide ((2000 : Int) < m) = false := by simp; omega
  have hIs := is_dat_ok h h2
  have HI := Lib.hid hIs
  clear h h2 hIs
  have kc := fun (w : World) (C : Array Value) (n c : Nat) => Lib.run_convert_bytes_const (P := Try.prog) w 22 5 C n c Try.underlying22 Try.underlying5
  obtain ⟨i0, hi, hz0, hz1, hz2⟩ := info_parts info5
  have hlow := lit_own w [77, 68, 73, 67] #[.int .u8 77, .int .u8 68, .int .u8 73, .int .u8 67] rfl (4, 5) (.inr (Nat.le_refl _)) 4 rfl (by decide)
  have HO := Lib.hid hlow
  clear hlow
  go_enter Try.func3, Try.ntmps3
  go_wp2_with fail
  go_loop [7, 8] (fun s i => ∃ k : Nat, k ≤ n ∧ i = .int .i64 k ∧ s = .string (ns k)) (fun _ i => n - (intOf i).toNat)
  case atStart => exact ⟨0, Nat.zero_le _, rfl, rfl⟩
  case round =>
    obtain ⟨k, hk, rfl, rfl⟩ := hrel
    have hsz : (ns k).size ≤ 20 := by rw [ns_size]; omega
    by_cases hlt : k < n
    · go_wp2
      go_round
      case rel => exact ⟨k + 1, by omega, by go_num, rfl⟩
      case measure => simp [intOf]; omega
    · obtain rfl : k = n := by omega
      have hmb : (4 + m) * 1 ≤ 140737488355328 := by omega
      go_wp2_with (at_builtin; refine wpList_appz _ rfl _ _ 22 3 rfl 5 i0 (.int .u8 0) .i64 1 1 Try.underlying22 Try.underlying3 hi hz0 hz1 hz2 rfl (by decide) (by decide) zero_one (.slice (some ⟨w.heap.size, 0, none⟩) 4 4) 4 _ rfl HO.out .i64 m rfl hmb ?_; intro v' w1 h1 h2 h3 h4 h5; obtain ⟨a1, c1, rfl⟩ := h1.form; have h1' := ownR_dat h1; have hk1 := kp_new ((Kp.refl (fun _ => False) w).alloc _) rfl h2; clear h1 h2 h4 h5;  go_frame)
      refine (is_n (ns k) a1 (4 + m) c1 (dat m) _ h1'.sl (by omega) (by rw [dat_len]; omega)).mono ?_
      rw [HI.out]
      rintro e w2 ⟨rfl, rfl⟩
      go_wp2_with fail
      refine (known_any _).mono ?_
      rintro e w3 ⟨rfl, k3⟩
      go_wp2
      go_ret
      exact ⟨rfl, (hk1.trans k3).below⟩
set_option maxHeartbeats 1000000 in
theorem walk_z0 (n m : Nat) (hn : n ≤ 20) (hm : m ≤ 2100) (h : ¬ (n = 0 ∨ 12 < n)) (h2 : m = 0) (w : World) :
    Calls Try.prog 3 #[.int .i64 n, .int .i64 m, .int .i64 0] w (LawPost w) := by
  have t1 : decide ((n : Int) < 0) = false := by simp
  have t2 : decide ((20 : Int) < n) = false := by simp; omega
  have t3 : decide ((m : Int) < 0) = false := by simp
  have t4 : decide ((2100 : Int) < m) = false := by simp; omega
  have e1 : decide ((n : Int) < 1) = false := by simp; omega
  have e2 : decide ((12 : Int) < n) = false := by simp; omega
  have e3 : decide ((m : Int) < 1) = true := by simp; omega
  have hIs := is_dat_size (m := m) h (.inl h2)
  have HI := Lib.hid hIs
  clear h h2 hIs
  have kc := fun (w : World) (C : Array Value) (n c : Nat) => Lib.run_convert_bytes_const (P := Try.prog) w 22 5 C n c Try.underlying22 Try.underlying5
  obtain ⟨i0, hi, hz0, hz1, hz2⟩ := info_parts info5
  have hlow := lit_own w [77, 68, 73, 67] #[.int .u8 77, .int .u8 68, .int .u8 73, .int .u8 67] rfl (4, 5) (.inr (Nat.le_refl _)) 4 rfl (by decide)
  have HO := Lib.hid hlow
  clear hlow
  go_enter Try.func3, Try.ntmps3
  go_wp2_with fail
  go_loop [7, 8] (fun s i => ∃ k : Nat, k ≤ n ∧ i = .int .i64 k ∧ s = .string (ns k)) (fun _ i => n - (intOf i).toNat)
  case atStart => exact ⟨0, Nat.zero_le _, rfl, rfl⟩
  case round =>
    obtain ⟨k, hk, rfl, rfl⟩ := hrel
    have hsz : (ns k).size ≤ 20 := by rw [ns_size]; omega
    by_cases hlt : k < n
    · go_wp2
      go_round
      case rel => exact ⟨k + 1, by omega, by go_num, rfl⟩
      case measure => simp [intOf]; omega
    · obtain rfl : k = n := by omega
      have hmb : (4 + m) * 1 ≤ 140737488355328 := by omega
      go_wp2_with (at_builtin; refine wpList_appz _ rfl _ _ 22 3 rfl 5 i0 (.int .u8 0) .i64 1 1 Try.underlying22 Try.underlying3 hi hz0 hz1 hz2 rfl (by decide) (by decide) zero_one (.slice (some ⟨w.heap.size, 0, none⟩) 4 4) 4 _ rfl HO.out .i64 m rfl hmb ?_; intro v' w1 h1 h2 h3 h4 h5; obtain ⟨a1, c1, rfl⟩ := h1.form; have h1' := ownR_dat h1; have hk1 := kp_new ((Kp.refl (fun _ => False) w).alloc _) rfl h2; clear h1 h2 h4 h5;  go_frame)
      refine (is_n (ns k) a1 (4 + m) c1 (dat m) _ h1'.sl (by omega) (by rw [dat_len]; omega)).mono ?_
      rw [HI.out]
      rintro e w2 ⟨rfl, rfl⟩
      go_wp2_with fail
      refine (known_any _).mono ?_
      rintro e w3 ⟨rfl, k3⟩
      go_wp2
      go_ret
      exact ⟨rfl, (hk1.trans k3).below⟩
set_option maxHeartbeats 1000000 in
theorem walk_z1 (n m : Nat) (hn : n ≤ 20) (hm : m ≤ 2100) (h : ¬ (n = 0 ∨ 12 < n)) (h2 : 2000 < m) (w : World) :
    Calls Try.prog 3 #[.int .i64 n, .int .i64 m, .int .i64 0] w (LawPost w) := by
  have t1 : decide ((n : Int) < 0) = false := by simp
  have t2 : decide ((20 : Int) < n) = false := by simp; omega
  have t3 : decide ((m : Int) < 0) = false := by simp
  have t4 : decide ((2100 : Int) < m) = false := by simp; omega
  have e1 : decide ((n : Int) < 1) = false := by simp; omega
  have e2 : decide ((12 : Int) < n) = false := by simp; omega
  have e3 : decide ((m : Int) < 1) = false := by simp; omega
  have e4 : decide ((2000 : Int) < m) = true := by simp; omega
  have hIs := is_dat_size (m := m) h (.inr h2)
  have HI := Lib.hid hIs
  clear h h2 hIs
  have kc := fun (w : World) (C : Array Value) (n c : Nat) => Lib.run_convert_bytes_const (P := Try.prog) w 22 5 C n c Try.underlying22 Try.underlying5
  obtain ⟨i0, hi, hz0, hz1, hz2⟩ := info_parts info5
  have hlow := lit_own w [77, 68, 73, 67] #[.int .u8 77, .int .u8 68, .int .u8 73, .int .u8 67] rfl (4, 5) (.inr (Nat.le_refl _)) 4 rfl (by decide)
  have HO := Lib.hid hlow
  clear hlow
  go_enter Try.func3, Try.ntmps3
  go_wp2_with fail
  go_loop [7, 8] (fun s i => ∃ k : Nat, k ≤ n ∧ i = .int .i64 k ∧ s = .string (ns k)) (fun _ i => n - (intOf i).toNat)
  case atStart => exact ⟨0, Nat.zero_le _, rfl, rfl⟩
  case round =>
    obtain ⟨k, hk, rfl, rfl⟩ := hrel
    have hsz : (ns k).size ≤ 20 := by rw [ns_size]; omega
    by_cases hlt : k < n
    · go_wp2
      go_round
      case rel => exact ⟨k + 1, by omega, by go_num, rfl⟩
      case measure => simp [intOf]; omega
    · obtain rfl : k = n := by omega
      have hmb : (4 + m) * 1 ≤ 140737488355328 := by omega
      go_wp2_with (at_builtin; refine wpList_appz _ rfl _ _ 22 3 rfl 5 i0 (.int .u8 0) .i64 1 1 Try.underlying22 Try.underlying3 hi hz0 hz1 hz2 rfl (by decide) (by decide) zero_one (.slice (some ⟨w.heap.size, 0, none⟩) 4 4) 4 _ rfl HO.out .i64 m rfl hmb ?_; intro v' w1 h1 h2 h3 h4 h5; obtain ⟨a1, c1, rfl⟩ := h1.form; have h1' := ownR_dat h1; have hk1 := kp_new ((Kp.refl (fun _ => False) w).alloc _) rfl h2; clear h1 h2 h4 h5;  go_frame)
      refine (is_n (ns k) a1 (4 + m) c1 (dat m) _ h1'.sl (by omega) (by rw [dat_len]; omega)).mono ?_
      rw [HI.out]
      rintro e w2 ⟨rfl, rfl⟩
      go_wp2_with fail
      refine (known_any _).mono ?_
      rintro e w3 ⟨rfl, k3⟩
      go_wp2
      go_ret
      exact ⟨rfl, (hk1.trans k3).below⟩
set_option maxHeartbeats 1000000 in
theorem walk_n0 (n m : Nat) (hn : n ≤ 20) (hm : m ≤ 2100) (h : n = 0) (w : World) :
    Calls Try.prog 3 #[.int .i64 n, .int .i64 m, .int .i64 0] w (LawPost w) := by
  have t1 : decide ((n : Int) < 0) = false := by simp
  have t2 : decide ((20 : Int) < n) = false := by simp; omega
  have t3 : decide ((m : Int) < 0) = false := by simp
  have t4 : decide ((2100 : Int) < m) = false := by simp; omega
  have e1 : decide ((n : Int) < 1) = true := by simp; omega
  have hIs := is_dat_name (l := dat m) (.inl h)
  have HI := Lib.hid hIs
  clear h hIs
  have kc := fun (w : World) (C : Array Value) (n c : Nat) => Lib.run_convert_bytes_const (P := Try.prog) w 22 5 C n c Try.underlying22 Try.underlying5
  obtain ⟨i0, hi, hz0, hz1, hz2⟩ := info_parts info5
  have hlow := lit_own w [77, 68, 73, 67] #[.int .u8 77, .int .u8 68, .int .u8 73, .int .u8 67] rfl (4, 5) (.inr (Nat.le_refl _)) 4 rfl (by decide)
  have HO := Lib.hid hlow
  clear hlow
  go_enter Try.func3, Try.ntmps3
  go_wp2_with fail
  go_loop [7, 8] (fun s i => ∃ k : Nat, k ≤ n ∧ i = .int .i64 k ∧ s = .string (ns k)) (fun _ i => n - (intOf i).toNat)
  case atStart => exact ⟨0, Nat.zero_le _, rfl, rfl⟩
  case round =>
    obtain ⟨k, hk, rfl, rfl⟩ := hrel
    have hsz : (ns k).size ≤ 20 := by rw [ns_size]; omega
    by_cases hlt : k < n
    · go_wp2
      go_round
      case rel => exact ⟨k + 1, by omega, by go_num, rfl⟩
      case measure => simp [intOf]; omega
    · obtain rfl : k = n := by omega
      have hmb : (4 + m) * 1 ≤ 140737488355328 := by omega
      go_wp2_with (at_builtin; refine wpList_appz _ rfl _ _ 22 3 rfl 5 i0 (.int .u8 0) .i64 1 1 Try.underlying22 Try.underlying3 hi hz0 hz1 hz2 rfl (by decide) (by decide) zero_one (.slice (some ⟨w.heap.size, 0, none⟩) 4 4) 4 _ rfl HO.out .i64 m rfl hmb ?_; intro v' w1 h1 h2 h3 h4 h5; obtain ⟨a1, c1, rfl⟩ := h1.form; have h1' := ownR_dat h1; have hk1 := kp_new ((Kp.refl (fun _ => False) w).alloc _) rfl h2; clear h1 h2 h4 h5;  go_frame)
      all_goals
        refine (is_n (ns k) a1 (4 + m) c1 (dat m) _ h1'.sl (by omega) (by rw [dat_len]; omega)).mono ?_
        rw [HI.out]
        rintro e w2 ⟨rfl, rfl⟩
        go_wp2_with fail
        refine (known_any _).mono ?_
        rintro e w3 ⟨rfl, k3⟩
        go_wp2
        go_ret
        exact ⟨rfl, (hk1.trans k3).below⟩
set_option maxHeartbeats 1000000 in
theorem walk_n1 (n m : Nat) (hn : n ≤ 20) (hm : m ≤ 2100) (h : 12 < n) (w : World) :
    Calls Try.prog 3 #[.int .i64 n, .int .i64 m, .int .i64 0] w (LawPost w) := by
  have t1 : decide ((n : Int) < 0) = false := by simp
  have t2 : decide ((20 : Int) < n) = false := by simp; omega
  have t3 : decide ((m : Int) < 0) = false := by simp
  have t4 : decide ((2100 : Int) < m) = false := by simp; omega
  have e1 : decide ((n : Int) < 1) = false := by simp; omega
  have e2 : decide ((12 : Int) < n) = true := by simp; omega
  have hIs := is_dat_name (l := dat m) (.inr h)
  have HI := Lib.hid hIs
  clear h hIs
  have kc := fun (w : World) (C : Array Value) (n c : Nat) => Lib.run_convert_bytes_const (P := Try.prog) w 22 5 C n c Try.underlying22 Try.underlying5
  obtain ⟨i0, hi, hz0, hz1, hz2⟩ := info_parts info5
  have hlow := lit_own w [77, 68, 73, 67] #[.int .u8 77, .int .u8 68, .int .u8 73, .int .u8 67] rfl (4, 5) (.inr (Nat.le_refl _)) 4 rfl (by decide)
  have HO := Lib.hid hlow
  clear hlow
  go_enter Try.func3, Try.ntmps3
  go_wp2_with fail
  go_loop [7, 8] (fun s i => ∃ k : Nat, k ≤ n ∧ i = .int .i64 k ∧ s = .string (ns k)) (fun _ i => n - (intOf i).toNat)
  case atStart => exact ⟨0, Nat.zero_le _, rfl, rfl⟩
  case round =>
    obtain ⟨k, hk, rfl, rfl⟩ := hrel
    have hsz : (ns k).size ≤ 20 := by rw [ns_size]; omega
    by_cases hlt : k < n
    · go_wp2
      go_round
      case rel => exact ⟨k + 1, by omega, by go_num, rfl⟩
      case measure => simp [intOf]; omega
    · obtain rfl : k = n := by omega
      have hmb : (4 + m) * 1 ≤ 140737488355328 := by omega
      go_wp2_with (at_builtin; refine wpList_appz _ rfl _ _ 22 3 rfl 5 i0 (.int .u8 0) .i64 1 1 Try.underlying22 Try.underlying3 hi hz0 hz1 hz2 rfl (by decide) (by decide) zero_one (.slice (some ⟨w.heap.size, 0, none⟩) 4 4) 4 _ rfl HO.out .i64 m rfl hmb ?_; intro v' w1 h1 h2 h3 h4 h5; obtain ⟨a1, c1, rfl⟩ := h1.form; have h1' := ownR_dat h1; have hk1 := kp_new ((Kp.refl (fun _ => False) w).alloc _) rfl h2; clear h1 h2 h4 h5;  go_frame)
      all_goals
        refine (is_n (ns k) a1 (4 + m) c1 (dat m) _ h1'.sl (by omega) (by rw [dat_len]; omega)).mono ?_
        rw [HI.out]
        rintro e w2 ⟨rfl, rfl⟩
        go_wp2_with fail
        refine (known_any _).mono ?_
        rintro e w3 ⟨rfl, k3⟩
        go_wp2
        go_ret
        exact ⟨rfl, (hk1.trans k3).below⟩
set_option maxHeartbeats 1000000 in
theorem walk_x0 (n m : Nat) (hn : n ≤ 20) (hm : m ≤ 2100) (h : n = 0) (w : World) :
    Calls Try.prog 3 #[.int .i64 n, .int .i64 m, .int .i64 1] w (LawPost w) := by
  have t1 : decide ((n : Int) < 0) = false := by simp
  have t2 : decide ((20 : Int) < n) = false := by simp; omega
  have t3 : decide ((m : Int) < 0) = false := by simp
  have t4 : decide ((2100 : Int) < m) = false := by simp; omega
  have e1 : decide ((n : Int) < 1) = true := by simp; omega
  have hIs := is_dat_name (l := datx m) (.inl h)
  have HI := Lib.hid hIs
  clear h hIs
  have kc := fun (w : World) (C : Array Value) (n c : Nat) => Lib.run_convert_bytes_const (P := Try.prog) w 22 5 C n c Try.underlying22 Try.underlying5
  obtain ⟨i0, hi, hz0, hz1, hz2⟩ := info_parts info5
  have hlow := lit_own w [77, 68, 73, 67] #[.int .u8 77, .int .u8 68, .int .u8 73, .int .u8 67] rfl (4, 5) (.inr (Nat.le_refl _)) 4 rfl (by decide)
  have HO := Lib.hid hlow
  clear hlow
  go_enter Try.func3, Try.ntmps3
  go_wp2_with fail
  go_loop [7, 8] (fun s i => ∃ k : Nat, k ≤ n ∧ i = .int .i64 k ∧ s = .string (ns k)) (fun _ i => n - (intOf i).toNat)
  case atStart => exact ⟨0, Nat.zero_le _, rfl, rfl⟩
  case round =>
    obtain ⟨k, hk, rfl, rfl⟩ := hrel
    have hsz : (ns k).size ≤ 20 := by rw [ns_size]; omega
    by_cases hlt : k < n
    · go_wp2
      go_round
      case rel => exact ⟨k + 1, by omega, by go_num, rfl⟩
      case measure => simp [intOf]; omega
    · obtain rfl : k = n := by omega
      have hmb : (4 + m) * 1 ≤ 140737488355328 := by omega
      go_wp2_with (at_builtin; refine wpList_appz _ rfl _ _ 22 3 rfl 5 i0 (.int .u8 0) .i64 1 1 Try.underlying22 Try.underlying3 hi hz0 hz1 hz2 rfl (by decide) (by decide) zero_one (.slice (some ⟨w.heap.size, 0, none⟩) 4 4) 4 _ rfl HO.out .i64 m rfl hmb ?_; intro v' w1 h1 h2 h3 h4 h5; obtain ⟨a1, c1, rfl⟩ := h1.form; have h1' := ownR_dat h1; have hk1 := kp_new ((Kp.refl (fun _ => False) w).alloc _) rfl h2; clear h1 h4 h5; obtain ⟨g1, rfl, hc1, b1', b2, h1x, hk2⟩ := store_x h1' hk1 h3 (by simp); have hi1 : (1 : Int) < ((4 + m : Nat) : Int) := (by omega); clear h1' h2 h3; go_frame)
      all_goals
        refine (is_n (ns k) (some ⟨g1, 0, none⟩) (4 + m) c1 (datx m) _ h1x.sl (by omega) (by rw [datx_len]; omega)).mono ?_
        rw [HI.out]
        rintro e w2 ⟨rfl, rfl⟩
        go_wp2_with fail
        refine (known_any _).mono ?_
        rintro e w3 ⟨rfl, k3⟩
        go_wp2
        go_ret
        exact ⟨rfl, (hk2.trans k3).below⟩
set_option maxHeartbeats 1000000 in
theorem walk_x1 (n m : Nat) (hn : n ≤ 20) (hm : m ≤ 2100) (h : 12 < n) (w : World) :
    Calls Try.prog 3 #[.int .i64 n, .int .i64 m, .int .i64 1] w (LawPost w) := by
  have t1 : decide ((n : Int) < 0) = false := by simp
  have t2 : decide ((20 : Int) < n) = false := by simp; omega
  have t3 : decide ((m : Int) < 0) = false := by simp
  have t4 : decide ((2100 : Int) < m) = false := by simp; omega
  have e1 : decide ((n : Int) < 1) = false := by simp; omega
  have e2 : decide ((12 : Int) < n) = true := by simp; omega
  have hIs := is_dat_name (l := datx m) (.inr h)
  have HI := Lib.hid hIs
  clear h hIs
  have kc := fun (w : World) (C : Array Value) (n c : Nat) => Lib.run_convert_bytes_const (P := Try.prog) w 22 5 C n c Try.underlying22 Try.underlying5
  obtain ⟨i0, hi, hz0, hz1, hz2⟩ := info_parts info5
  have hlow := lit_own w [77, 68, 73, 67] #[.int .u8 77, .int .u8 68, .int .u8 73, .int .u8 67] rfl (4, 5) (.inr (Nat.le_refl _)) 4 rfl (by decide)
  have HO := Lib.hid hlow
  clear hlow
  go_enter Try.func3, Try.ntmps3
  go_wp2_with fail
  go_loop [7, 8] (fun s i => ∃ k : Nat, k ≤ n ∧ i = .int .i64 k ∧ s = .string (ns k)) (fun _ i => n - (intOf i).toNat)
  case atStart => exact ⟨0, Nat.zero_le _, rfl, rfl⟩
  case round =>
    obtain ⟨k, hk, rfl, rfl⟩ := hrel
    have hsz : (ns k).size ≤ 20 := by rw [ns_size]; omega
    by_cases hlt : k < n
    · go_wp2
      go_round
      case rel => exact ⟨k + 1, by omega, by go_num, rfl⟩
      case measure => simp [intOf]; omega
    · obtain rfl : k = n := by omega
      have hmb : (4 + m) * 1 ≤ 140737488355328 := by omega
      go_wp2_with (at_builtin; refine wpList_appz _ rfl _ _ 22 3 rfl 5 i0 (.int .u8 0) .i64 1 1 Try.underlying22 Try.underlying3 hi hz0 hz1 hz2 rfl (by decide) (by decide) zero_one (.slice (some ⟨w.heap.size, 0, none⟩) 4 4) 4 _ rfl HO.out .i64 m rfl hmb ?_; intro v' w1 h1 h2 h3 h4 h5; obtain ⟨a1, c1, rfl⟩ := h1.form; have h1' := ownR_dat h1; have hk1 := kp_new ((Kp.refl (fun _ => False) w).alloc _) rfl h2; clear h1 h4 h5; obtain ⟨g1, rfl, hc1, b1', b2, h1x, hk2⟩ := store_x h1' hk1 h3 (by simp); have hi1 : (1 : Int) < ((4 + m : Nat) : Int) := (by omega); clear h1' h2 h3; go_frame)
      all_goals
        refine (is_n (ns k) (some ⟨g1, 0, none⟩) (4 + m) c1 (datx m) _ h1x.sl (by omega) (by rw [datx_len]; omega)).mono ?_
        rw [HI.out]
        rintro e w2 ⟨rfl, rfl⟩
        go_wp2_with fail
        refine (known_any _).mono ?_
        rintro e w3 ⟨rfl, k3⟩
        go_wp2
        go_ret
        exact ⟨rfl, (hk2.trans k3).below⟩
set_option maxHeartbeats 1000000 in
theorem walk_x2 (n m : Nat) (hn : n ≤ 20) (hm : m ≤ 2100) (h : ¬ (n = 0 ∨ 12 < n)) (w : World) :
    Calls Try.prog 3 #[.int .i64 n, .int .i64 m, .int .i64 1] w (LawPost w) := by
  have t1 : decide ((n : Int) < 0) = false := by simp
  have t2 : decide ((20 : Int) < n) = false := by simp; omega
  have t3 : decide ((m : Int) < 0) = false := by simp
  have t4 : decide ((2100 : Int) < m) = false := by simp; omega
  have e1 : decide ((n : Int) < 1) = false := by simp; omega
  have e2 : decide ((12 : Int) < n) = false := by simp; omega
  have hIs := is_datx (m := m) h
  have HI := Lib.hid hIs
  clear h hIs
  have kc := fun (w : World) (C : Array Value) (n c : Nat) => Lib.run_convert_bytes_const (P := Try.prog) w 22 5 C n c Try.underlying22 Try.underlying5
  obtain ⟨i0, hi, hz0, hz1, hz2⟩ := info_parts info5
  have hlow := lit_own w [77, 68, 73, 67] #[.int .u8 77, .int .u8 68, .int .u8 73, .int .u8 67] rfl (4, 5) (.inr (Nat.le_refl _)) 4 rfl (by decide)
  have HO := Lib.hid hlow
  clear hlow
  go_enter Try.func3, Try.ntmps3
  go_wp2_with fail
  go_loop [7, 8] (fun s i => ∃ k : Nat, k ≤ n ∧ i = .int .i64 k ∧ s = .string (ns k)) (fun _ i => n - (intOf i).toNat)
  case atStart => exact ⟨0, Nat.zero_le _, rfl, rfl⟩
  case round =>
    obtain ⟨k, hk, rfl, rfl⟩ := hrel
    have hsz : (ns k).size ≤ 20 := by rw [ns_size]; omega
    by_cases hlt : k < n
    · go_wp2
      go_round
      case rel => exact ⟨k + 1, by omega, by go_num, rfl⟩
      case measure => simp [intOf]; omega
    · obtain rfl : k = n := by omega
      have hmb : (4 + m) * 1 ≤ 140737488355328 := by omega
      go_wp2_with (at_builtin; refine wpList_appz _ rfl _ _ 22 3 rfl 5 i0 (.int .u8 0) .i64 1 1 Try.underlying22 Try.underlying3 hi hz0 hz1 hz2 rfl (by decide) (by decide) zero_one (.slice (some ⟨w.heap.size, 0, none⟩) 4 4) 4 _ rfl HO.out .i64 m rfl hmb ?_; intro v' w1 h1 h2 h3 h4 h5; obtain ⟨a1, c1, rfl⟩ := h1.form; have h1' := ownR_dat h1; have hk1 := kp_new ((Kp.refl (fun _ => False) w).alloc _) rfl h2; clear h1 h4 h5; obtain ⟨g1, rfl, hc1, b1', b2, h1x, hk2⟩ := store_x h1' hk1 h3 (by simp); have hi1 : (1 : Int) < ((4 + m : Nat) : Int) := (by omega); clear h1' h2 h3; go_frame)
      all_goals
        refine (is_n (ns k) (some ⟨g1, 0, none⟩) (4 + m) c1 (datx m) _ h1x.sl (by omega) (by rw [datx_len]; omega)).mono ?_
        rw [HI.out]
        rintro e w2 ⟨rfl, rfl⟩
        go_wp2_with fail
        refine (known_any _).mono ?_
        rintro e w3 ⟨rfl, k3⟩
        go_wp2
        go_ret
        exact ⟨rfl, (hk2.trans k3).below⟩
set_option maxHeartbeats 1000000 in
theorem walk_out (a0 a1 a2 : Int) (w : World) (h0 : a0 < 0 ∨ 20 < a0 ∨ a1 < 0 ∨ 2100 < a1 ∨ a2 < 0 ∨ 1 < a2) :
    Calls Try.prog 3 #[.int .i64 a0, .int .i64 a1, .int .i64 a2] w (LawPost w) := by
  go_enter Try.func3, Try.ntmps3
  go_wp2_with fail
  all_goals go_ret
  all_goals exact ⟨rfl, Below.refl _ _⟩
theorem walk (a0 : Int) (_ : (Lit.int .i64 a0).wf = true) (a1 : Int) (_ : (Lit.int .i64 a1).wf = true) (a2 : Int) (_ : (Lit.int .i64 a2).wf = true) (w : World) :
    Calls Try.prog 3 #[.int .i64 a0, .int .i64 a1, .int .i64 a2] w (LawPost w) := by
  by_cases h0 : a0 < 0 ∨ 20 < a0 ∨ a1 < 0 ∨ 2100 < a1 ∨ a2 < 0 ∨ 1 < a2
  · exact walk_out a0 a1 a2 w h0
  obtain ⟨n, rfl⟩ : ∃ n : Nat, a0 = n := ⟨a0.toNat, by omega⟩
  obtain ⟨m, rfl⟩ : ∃ m : Nat, a1 = m := ⟨a1.toNat, by omega⟩
  have hn : n ≤ 20 := by omega
  have hm : m ≤ 2100 := by omega
  have h2 : a2 = 0 ∨ a2 = 1 := by omega
  clear h0
  by_cases h : n = 0
  · rcases h2 with rfl | rfl
    · exact walk_n0 n m hn hm h w
    · exact walk_x0 n m hn hm h w
  by_cases h' : 12 < n
  · rcases h2 with rfl | rfl
    · exact walk_n1 n m hn hm h' w
    · exact walk_x1 n m hn hm h' w
  have hh : ¬ (n = 0 ∨ 12 < n) := by omega
  rcases h2 with rfl | rfl
  · by_cases h3 : m = 0
    · exact walk_z0 n m hn hm hh h3 w
    · by_cases h4 : 2000 < m
      · exact walk_z1 n m hn hm hh h4 w
      · exact walk_ok n m hn hm hh (by omega) w
  · exact walk_x2 n m hn hm hh w
end Go.Proofs.Ytnjkchbombjemaa.shelfIs
