/- Plain mathematics of prefixes: the first bits of an address, the bit behind them, the common prefix of two. No program in sight. -/
import Derived.Below
import Derived.Laws.BitsAllLaws
set_option linter.unusedVariables false
namespace Go.Proofs.Ytbcekjbckeljmaa.Px

/-- the first n bits of an address -/
def fst (a n : Nat) : Nat := a / 2 ^ (32 - n) * 2 ^ (32 - n)
/-- may a prefix be? -/
def may (a : Nat) (n : Int) : Bool := decide (0 ≤ n) && decide (n ≤ 32) && decide (a % 2 ^ (32 - n.toNat) = 0)
/-- the bit behind the first n -/
def bit (a n : Nat) : Nat := a / 2 ^ (31 - n) % 2

theorem pow_pos' (k : Nat) : 0 < 2 ^ k := Nat.pow_pos (by omega)
theorem pow_le32 {k : Nat} (h : k ≤ 32) : 2 ^ k ≤ 4294967296 := by
  have := Nat.pow_le_pow_right (n := 2) (by omega) h
  simpa using this
theorem fst_le (a n : Nat) : fst a n ≤ a := Nat.div_mul_le_self _ _
theorem fst_lt {a : Nat} (n : Nat) (h : a < 4294967296) : fst a n < 4294967296 := Nat.lt_of_le_of_lt (fst_le a n) h
theorem fst_eq_iff (a n : Nat) : fst a n = a ↔ a % 2 ^ (32 - n) = 0 := by
  unfold fst
  have h := Nat.div_add_mod a (2 ^ (32 - n))
  rw [Nat.mul_comm] at h
  constructor
  · intro e; omega
  · intro e; omega
theorem fst_mod (a n : Nat) : fst a n % 2 ^ (32 - n) = 0 := by
  unfold fst; exact Nat.mul_mod_left _ _
theorem fst_add (a n : Nat) : fst a n + a % 2 ^ (32 - n) = a := by
  unfold fst
  have h := Nat.div_add_mod a (2 ^ (32 - n))
  rw [Nat.mul_comm] at h; exact h
/-- the mask of the first n bits -/
theorem and_mask (a n : Nat) (h : a < 4294967296) (hn : n ≤ 32) : a &&& (4294967296 - 2 ^ (32 - n)) = fst a n := by
  have e : 4294967296 - 2 ^ (32 - n) = (2 ^ n - 1) * 2 ^ (32 - n) := by
    rw [Nat.sub_mul, ← Nat.pow_add, show n + (32 - n) = 32 from by omega]; simp
  rw [e]
  unfold fst
  have h1 : a / 2 ^ (32 - n) < 2 ^ n := by
    rw [Nat.div_lt_iff_lt_mul (pow_pos' _), ← Nat.pow_add, show n + (32 - n) = 32 from by omega]; simpa using h
  apply Nat.eq_of_testBit_eq
  intro i
  rw [Nat.testBit_and, Nat.testBit_mul_two_pow, Nat.testBit_mul_two_pow, Nat.testBit_two_pow_sub_one, Nat.testBit_div_two_pow]
  by_cases hi : 32 - n ≤ i
  · rw [show i - (32 - n) + (32 - n) = i from by omega]
    by_cases h2 : i - (32 - n) < n
    · simp [hi, h2]
    · have : a.testBit i = false := Nat.testBit_lt_two_pow (Nat.lt_of_lt_of_le (show a < 2 ^ 32 from by simpa using h) (Nat.pow_le_pow_right (by omega) (by omega)))
      simp [this]
  · simp [hi]
theorem and_not_mask (a n : Nat) (h : a < 4294967296) (hn : n ≤ 32) : a &&& (4294967295 - (4294967296 - 2 ^ (32 - n))) = a % 2 ^ (32 - n) := by
  have h1 := pow_le32 (k := 32 - n) (by omega)
  have h2 := pow_pos' (32 - n)
  rw [show 4294967295 - (4294967296 - 2 ^ (32 - n)) = 2 ^ (32 - n) - 1 from by omega, Nat.and_two_pow_sub_one_eq_mod]
theorem bit_lt (a n : Nat) : bit a n < 2 := Nat.mod_lt _ (by omega)
end Go.Proofs.Ytbcekjbckeljmaa.Px
