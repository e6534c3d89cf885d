/- Walks of trie's small functions: mask, bit, may. -/
import Derived.Test.YtbcekjbckeljmaaProg
import Derived.Test.YtbcekjbckeljmaaPx
import Derived.WalkKit
import Derived.WalkSpells
import Derived.WalkLawsBesides
import Derived.Lib.Hide
import Derived.BigQuiet
import Derived.Deep.QuietTactic
set_option linter.unusedVariables false
namespace Go.Proofs.Ytbcekjbckeljmaa
open Go.RowKit
set_option maxHeartbeats 400000

theorem ret_int {k : IntKind} {a b : Int} (h : a = b) : Ending.returned (.int k a) = .returned (.int k b) := by rw [h]
theorem ret_bool {a b : Bool} (h : a = b) : Ending.returned (.bool a) = .returned (.bool b) := by rw [h]

theorem _root_.Go.RowKit.Below.drewN {B : Nat} {a w : World} (h : Below B a w) (n : Nat) : Below B a (w.drewN n) := ⟨h.os, h.tape, h.output, h.size, h.block⟩
theorem mask_num (n : Nat) (hn : n ≤ 32) : IntKind.u64.wrap (18446744073709551615 * 2 ^ (32 - n)) % 4294967296 = ((4294967296 - 2 ^ (32 - n) : Nat) : Int) := by
  have h : ∀ m : Nat, m ≤ 32 → IntKind.u64.wrap (18446744073709551615 * 2 ^ m) % 4294967296 = ((4294967296 - 2 ^ m : Nat) : Int) := by
    intro m hm
    have : m = 0 ∨ m = 1 ∨ m = 2 ∨ m = 3 ∨ m = 4 ∨ m = 5 ∨ m = 6 ∨ m = 7 ∨ m = 8 ∨ m = 9 ∨ m = 10 ∨ m = 11 ∨ m = 12 ∨ m = 13 ∨ m = 14 ∨ m = 15 ∨ m = 16 ∨ m = 17 ∨ m = 18 ∨ m = 19 ∨ m = 20 ∨ m = 21 ∨ m = 22 ∨ m = 23 ∨ m = 24 ∨ m = 25 ∨ m = 26 ∨ m = 27 ∨ m = 28 ∨ m = 29 ∨ m = 30 ∨ m = 31 ∨ m = 32 := by omega
    rcases this with rfl | rfl | rfl | rfl | rfl | rfl | rfl | rfl | rfl | rfl | rfl | rfl | rfl | rfl | rfl | rfl | rfl | rfl | rfl | rfl | rfl | rfl | rfl | rfl | rfl | rfl | rfl | rfl | rfl | rfl | rfl | rfl | rfl <;> decide
  exact h _ (by omega)
/-- trie.mask -/
theorem mask_any (n : Nat) (w : World) (hn : n ≤ 32) :
    Calls Try.prog 66 #[.int .i64 n] w fun e w' => e = .returned (.int .u32 ((4294967296 - 2 ^ (32 - n) : Nat) : Int)) ∧ w = w' := by
  go_enter Try.func66, Try.ntmps66
  go_wp2
  go_ret
  exact ⟨ret_int (mask_num n hn), rfl⟩
/-- trie.bit -/
theorem bit_any (a : Nat) (n : Nat) (w : World) (h1 : a < 4294967296) (hn : n ≤ 31) :
    Calls Try.prog 50 #[.int .u32 a, .int .i64 n] w fun e w' => e = .returned (.int .i64 (Px.bit a n)) ∧ w = w' := by
  go_enter Try.func50, Try.ntmps50
  go_wp2
  go_ret
  refine ⟨ret_int ?_, rfl⟩
  have hb : (a : Int) / 2 ^ (31 - n) = ((a / 2 ^ (31 - n) : Nat) : Int) := by simp
  have hlt : a / 2 ^ (31 - n) < 4294967296 := Nat.lt_of_le_of_lt (Nat.div_le_self _ _) h1
  show wrap64 (bits .and .u32 ((a : Int) / 2 ^ (31 - n)) 1) = _
  rw [hb, show (1 : Int) = ((1 : Nat) : Int) from rfl, u32_and_nat _ _ hlt (by omega), nat_mask1]
  have := Px.bit_lt a n
  unfold Px.bit at *
  unfold wrap64; omega
theorem may_num (a n : Nat) (h1 : a < 4294967296) (hm : n ≤ 32) : (bits .andNot .u32 (a : Int) ((4294967296 - 2 ^ (32 - n) : Nat) : Int) == 0) = Px.may a n := by
  have h2 := Px.pow_pos' (32 - n)
  have h3 : 0 ≤ (n : Int) := by omega
  have h4 : (n : Int) ≤ 32 := by omega
  rw [u32_andNot_nat _ _ h1 (by omega), Px.and_not_mask a n h1 hm]
  unfold Px.may
  simp only [h3, h4, decide_true, Bool.true_and, Int.toNat_natCast]
  rw [Bool.eq_iff_iff, beq_iff_eq, decide_eq_true_eq]
  exact Int.natCast_eq_zero
/-- trie.may -/
theorem may_any (a : Nat) (n : Int) (w : World) (h1 : a < 4294967296) :
    Calls Try.prog 47 #[.agg #[.int .u32 a, .int .i64 n]] w fun e w' => e = .returned (.bool (Px.may a n)) ∧ Below w.heap.size w w' := by
  by_cases hn : 0 ≤ n
  · by_cases hm : n ≤ 32
    · obtain ⟨n, rfl⟩ := Int.eq_ofNat_of_zero_le hn
      have d1 : decide (0 ≤ (n : Int)) = true := by simp
      have d2 : decide ((n : Int) ≤ 32) = true := by simpa using hm
      have hm' : n ≤ 32 := by omega
      go_enter Try.func47, Try.ntmps47
      go_wp2
      go_quiet ((go_at_call 66; exact Calls.quiet_of_same ((mask_any n _ hm').mono fun e w' ⟨a, b⟩ => ⟨a, b.symm⟩)))
      go_wp2
      go_ret
      exact ⟨ret_bool (may_num a n h1 hm'), ((Below.refl _ _).alloc (Nat.le_refl _) _).drewN _⟩
    · have d1 : decide (0 ≤ n) = true := by simpa using hn
      have d2 : decide (n ≤ 32) = false := by simpa using hm
      go_enter Try.func47, Try.ntmps47
      go_wp2
      go_quiet (fail)
      go_wp2
      go_ret
      exact ⟨ret_bool (by simp [Px.may, d2]), ((Below.refl _ _).alloc (Nat.le_refl _) _).drewN _⟩
  · have d1 : decide (0 ≤ n) = false := by simpa using hn
    go_enter Try.func47, Try.ntmps47
    go_wp2
    go_quiet (fail)
    go_wp2
    go_ret
    exact ⟨ret_bool (by simp [Px.may, d1]), ((Below.refl _ _).alloc (Nat.le_refl _) _).drewN _⟩
end Go.Proofs.Ytbcekjbckeljmaa
