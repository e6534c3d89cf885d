/- Which routes may be. -/
import Derived.Test.YtbcekjbckeljmaaNk
set_option linter.unusedVariables false
set_option linter.unusedSimpArgs false
namespace Go.Proofs.Ytbcekjbckeljmaa
open Go.RowKit
set_option maxHeartbeats 1000000
set_option maxRecDepth 10000

theorem div_pow (a : Int) (k : Nat) : (a / 2 ^ k) / 2 = a / 2 ^ (k + 1) := by
  rw [Int.pow_succ, ← Int.ediv_ediv_of_nonneg (by exact Int.pow_nonneg (by omega))]
theorem pow_bd (a : Int) (k : Nat) (h : 0 ≤ a) (h1 : a < 4294967296) : 0 ≤ a / 2 ^ k ∧ a / 2 ^ k < 4294967296 := by
  have h2 : (0 : Int) < 2 ^ k := Int.pow_pos (by omega)
  exact ⟨Int.ediv_nonneg h (by omega), by
    have := Int.ediv_le_self (2 ^ k) h
    omega⟩
theorem up_bd (a : Int) (k m : Nat) (h : 0 ≤ a) (h1 : a < 4294967296) (hk : k ≤ m) : 0 ≤ a / 2 ^ m * 2 ^ k ∧ a / 2 ^ m * 2 ^ k < 4294967296 := by
  have h2 : (0 : Int) < 2 ^ k := Int.pow_pos (by omega)
  have h3 : (0 : Int) < 2 ^ m := Int.pow_pos (by omega)
  have h4 : (2 : Int) ^ k ≤ 2 ^ m := by
    have := Nat.pow_le_pow_right (n := 2) (by omega) hk
    exact_mod_cast this
  have h5 := Int.ediv_mul_le a (b := 2 ^ m) (by omega)
  have h6 := Int.ediv_nonneg h (Int.le_of_lt h3)
  exact ⟨Int.mul_nonneg h6 (by omega), by
    have := Int.mul_le_mul_of_nonneg_left h4 h6
    omega⟩
theorem first_int (a : Int) (n : Nat) (w : World) (ha0 : 0 ≤ a) (ha1 : a < 4294967296) (hn2 : n ≤ 32) :
    Calls Try.prog 37 #[.int .u32 a, .int .i64 n] w fun e w' => e = .returned (.int .u32 (a / 2 ^ (32 - n) * 2 ^ (32 - n))) ∧ w = w' := by
  go_enter Try.func37, Try.ntmps37
  go_wp2
  go_loop [0, 5] (fun x i => ∃ k : Nat, k ≤ 32 - n ∧ i = .int .i64 k ∧ x = .int .u32 (a / 2 ^ k)) (fun _ i => 32 - (intOf i).toNat)
  case atStart => exact ⟨0, by omega, rfl, by simp⟩
  case round =>
    obtain ⟨k, hk, rfl, rfl⟩ := hrel
    have hb := pow_bd a k ha0 ha1
    by_cases hlt : k < 32 - n
    · go_wp2
      go_round
      case rel => exact ⟨k + 1, by omega, by go_num, by rw [div_pow a k]⟩
      case measure => simp [intOf]; omega
    · obtain rfl : k = 32 - n := by omega
      go_wp2
      go_loop [0, 6] (fun x i => ∃ k : Nat, k ≤ 32 - n ∧ i = .int .i64 k ∧ x = .int .u32 (a / 2 ^ (32 - n) * 2 ^ k)) (fun _ i => 32 - (intOf i).toNat)
      case atStart => exact ⟨0, by omega, rfl, by simp⟩
      case round =>
        obtain ⟨k, hk, rfl, rfl⟩ := hrel
        have hb := up_bd a k (32 - n) ha0 ha1 hk
        by_cases hlt : k < 32 - n
        · go_wp2
          go_round
          case rel => exact ⟨k + 1, by omega, by go_num, by have := up_bd a (k + 1) (32 - n) ha0 ha1 hlt; rw [Int.pow_succ, ← Int.mul_assoc] at *; rw [Int.emod_eq_of_lt (by omega) (by omega)]⟩
          case measure => simp [intOf]; omega
        · obtain rfl : k = 32 - n := by omega
          go_wp2
          go_ret
          exact ⟨rfl, rfl⟩
theorem first_any (a n : Nat) (w : World) (ha : a < 4294967296) (hn2 : n ≤ 32) :
    Calls Try.prog 37 #[.int .u32 a, .int .i64 n] w fun e w' => e = .returned (.int .u32 (Px.fst a n)) ∧ w' = w :=
  (first_int a n w (by omega) (by omega) hn2).mono fun e w' ⟨h1, h2⟩ => ⟨by rw [h1]; simp [Px.fst], h2.symm⟩
theorem mayPrefix_any (a : Nat) (n : Int) (w : World) (ha : a < 4294967296) :
    Calls Try.prog 27 #[.agg #[.int .u32 a, .int .i64 n]] w fun e w' => e = .returned (.bool (Px.may a n)) ∧ Below w.heap.size w w' := by
  by_cases h1 : 0 ≤ n
  · by_cases h2 : n ≤ 32
    · obtain ⟨n, rfl⟩ := Int.eq_ofNat_of_zero_le h1
      have d1 : decide (0 ≤ (n : Int)) = true := by simp
      have d2 : decide ((n : Int) ≤ 32) = true := by simpa using h2
      have hn : n ≤ 32 := by omega
      have HMAY : Hid (decide (Px.fst a n = a) = Px.may a n) := Lib.hid (by
        unfold Px.may
        simp only [h1, h2, decide_true, Bool.true_and, Int.toNat_natCast]
        rw [decide_eq_decide]
        exact Px.fst_eq_iff a n)
      have HF := fun w => Lib.hid (first_any a n w ha hn)
      generalize Px.fst a n = f at *
      go_enter Try.func27, Try.ntmps27
      go_wp2
      go_quiet ((go_at_call 37; exact Calls.quiet_of_same ((HF _).out)))
      go_wp2
      go_ret
      refine ⟨ret_bool ?_, ((Below.refl _ _).alloc (Nat.le_refl _) _).drewN _⟩
      rw [← HMAY.out]
      rw [Bool.eq_iff_iff]
      simp
      try omega
    · have d1 : decide (0 ≤ n) = true := by simpa using h1
      have d2 : decide (n ≤ 32) = false := by simpa using h2
      go_enter Try.func27, Try.ntmps27
      go_wp2
      go_quiet (fail)
      go_wp2
      go_ret
      exact ⟨ret_bool (by simp [Px.may, d2]), ((Below.refl _ _).alloc (Nat.le_refl _) _).drewN _⟩
  · have d1 : decide (0 ≤ n) = false := by simpa using h1
    go_enter Try.func27, Try.ntmps27
    go_wp2
    go_quiet (fail)
    go_wp2
    go_ret
    exact ⟨ret_bool (by simp [Px.may, d1]), ((Below.refl _ _).alloc (Nat.le_refl _) _).drewN _⟩
end Go.Proofs.Ytbcekjbckeljmaa
