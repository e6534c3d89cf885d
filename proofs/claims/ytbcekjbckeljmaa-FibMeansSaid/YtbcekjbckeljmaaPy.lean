/- Plain mathematics of prefixes, on: the common prefix of two, which prefix covers which. No program in sight. -/
import Derived.Test.YtbcekjbckeljmaaPx
import Derived.Lib.BitFns
set_option linter.unusedVariables false
namespace Go.Proofs.Ytbcekjbckeljmaa.Px

/-- a prefix: its address, its length -/
abbrev Pf := Nat × Nat
/-- one that may be -/
def ok (p : Pf) : Prop := p.1 < 4294967296 ∧ p.2 ≤ 32 ∧ fst p.1 p.2 = p.1
def lz (x y : Nat) : Nat := 32 - Lib.bitLen (x ^^^ y)
def comN (a n b m : Nat) : Nat := min (min n m) (lz a b)
def com (q p : Pf) : Pf := (fst q.1 (comN q.1 q.2 p.1 p.2), comN q.1 q.2 p.1 p.2)
/-- does q cover p? -/
def cov (q p : Pf) : Prop := q.2 ≤ p.2 ∧ fst p.1 q.2 = q.1
instance (q p : Pf) : Decidable (cov q p) := inferInstanceAs (Decidable (_ ∧ _))

theorem bitLenAux_le (f x : Nat) : ∀ m, x < 2 ^ m → Lib.bitLenAux f x ≤ m := by
  induction f generalizing x with
  | zero => intro m _; simp [Lib.bitLenAux]
  | succ f ih =>
    intro m h
    unfold Lib.bitLenAux
    split
    · omega
    · rename_i hx
      cases m with
      | zero => simp at h; omega
      | succ m =>
        have := ih (x / 2) m (by rw [Nat.pow_succ] at h; omega)
        omega
theorem bitLen_le_iff (x m : Nat) (hx : x < 4294967296) : Lib.bitLen x ≤ m ↔ x < 2 ^ m := by
  constructor
  · intro h
    have : ∀ f x, x < 2 ^ f → x < 2 ^ Lib.bitLenAux f x := by
      intro f
      induction f with
      | zero => intro x h; simp [Lib.bitLenAux]; simpa using h
      | succ f ih =>
        intro x h
        unfold Lib.bitLenAux
        split
        · omega
        · have := ih (x / 2) (by rw [Nat.pow_succ] at h; omega)
          rw [Nat.add_comm, Nat.pow_succ]; omega
    exact Nat.lt_of_lt_of_le (this 64 x (by omega)) (Nat.pow_le_pow_right (by omega) h)
  · exact bitLenAux_le 64 x m
theorem xor_lt_iff (x y m : Nat) : x ^^^ y < 2 ^ m ↔ x / 2 ^ m = y / 2 ^ m := by
  have key : (x ^^^ y) / 2 ^ m = x / 2 ^ m ^^^ y / 2 ^ m := Nat.xor_div_two_pow
  constructor
  · intro h
    rw [Nat.div_eq_of_lt h] at key
    exact Nat.eq_of_testBit_eq fun i => by
      have := congrArg (·.testBit i) key
      simp at this
      exact this
  · intro h
    rw [h, Nat.xor_self] at key
    exact (Nat.div_eq_zero_iff_lt (pow_pos' m)).1 key
theorem xor_lt (x y : Nat) (hx : x < 4294967296) (hy : y < 4294967296) : x ^^^ y < 4294967296 := by
  have := Nat.xor_lt_two_pow (n := 32) (x := x) (y := y) (by simpa using hx) (by simpa using hy)
  simpa using this
theorem fst_eq_fst {x y n : Nat} : fst x n = fst y n ↔ x / 2 ^ (32 - n) = y / 2 ^ (32 - n) := by
  unfold fst
  exact Nat.mul_left_inj (by have := pow_pos' (32 - n); omega)
theorem lz_ge (x y k : Nat) (hx : x < 4294967296) (hy : y < 4294967296) (hk : k ≤ 32) : k ≤ lz x y ↔ fst x k = fst y k := by
  unfold lz
  have h32 := (bitLen_le_iff _ 32 (xor_lt x y hx hy)).2 (by simpa using xor_lt x y hx hy)
  rw [fst_eq_fst, ← xor_lt_iff, ← bitLen_le_iff _ _ (xor_lt x y hx hy)]
  omega
theorem lz_le (x y : Nat) : lz x y ≤ 32 := by unfold lz; omega
theorem fst_fst (x : Nat) {n m : Nat} (h : n ≤ m) (hm : m ≤ 32) : fst (fst x m) n = fst x n := by
  rw [fst_eq_fst]
  unfold fst
  have e : 2 ^ (32 - n) = 2 ^ (32 - m) * 2 ^ (m - n) := by rw [← Nat.pow_add]; congr 1; omega
  rw [e, ← Nat.div_div_eq_div_mul, ← Nat.div_div_eq_div_mul, Nat.mul_div_cancel _ (pow_pos' _)]
theorem fst_32 (x : Nat) : fst x 32 = x := by simp [fst]
theorem fst_0 (x : Nat) (hx : x < 4294967296) : fst x 0 = 0 := by
  unfold fst
  rw [show 32 - 0 = 32 from rfl, Nat.div_eq_of_lt (by simpa using hx), Nat.zero_mul]
theorem comN_le_left (a n b m : Nat) : comN a n b m ≤ n := by unfold comN; omega
theorem comN_le_right (a n b m : Nat) : comN a n b m ≤ m := by unfold comN; omega
theorem com_ok {q p : Pf} (hq : ok q) (hp : ok p) : ok (com q p) := by
  have h1 := comN_le_left q.1 q.2 p.1 p.2
  refine ⟨fst_lt _ hq.1, by have := hq.2.1; simp only [com]; omega, ?_⟩
  simp only [com]
  exact fst_fst _ (Nat.le_refl _) (by have := hq.2.1; omega)
theorem com_cov_left {q p : Pf} (hq : ok q) (hp : ok p) : cov (com q p) q := ⟨comN_le_left _ _ _ _, rfl⟩
theorem com_cov_right {q p : Pf} (hq : ok q) (hp : ok p) : cov (com q p) p := by
  refine ⟨comN_le_right _ _ _ _, ?_⟩
  have h := (lz_ge q.1 p.1 (comN q.1 q.2 p.1 p.2) hq.1 hp.1 (by have := comN_le_left q.1 q.2 p.1 p.2; have := hq.2.1; omega)).1 (by unfold comN; omega)
  exact h.symm
theorem com_eq_iff {q p : Pf} (hq : ok q) (hp : ok p) : com q p = q ↔ cov q p := by
  constructor
  · intro e; have := com_cov_right hq hp; rwa [e] at this
  · intro ⟨h1, h2⟩
    have h3 := (lz_ge q.1 p.1 q.2 hq.1 hp.1 hq.2.1).2 (by rw [h2]; exact hq.2.2)
    have h4 : comN q.1 q.2 p.1 p.2 = q.2 := by unfold comN; omega
    unfold com
    rw [h4, hq.2.2]
theorem cov_refl {q : Pf} (hq : ok q) : cov q q := ⟨Nat.le_refl _, hq.2.2⟩
theorem cov_trans {a b c : Pf} (hb : ok b) (hc : ok c) (h1 : cov a b) (h2 : cov b c) : cov a c := by
  refine ⟨Nat.le_trans h1.1 h2.1, ?_⟩
  rw [← h1.2, ← h2.2, fst_fst _ h1.1 hb.2.1]
theorem cov_len {q p : Pf} (hq : ok q) (hp : ok p) (h : cov q p) (hne : q ≠ p) : q.2 < p.2 := by
  rcases Nat.lt_or_ge q.2 p.2 with h1 | h1
  · exact h1
  · have e : q.2 = p.2 := by have := h.1; omega
    exact absurd (Prod.ext (by rw [← h.2, e, hp.2.2]) e) hne
/-- both cover an address: the shorter covers the longer -/
theorem cov_both {a b p : Pf} (ha : ok a) (hb : ok b) (hp : ok p) (h1 : cov a p) (h2 : cov b p) (h : a.2 ≤ b.2) : cov a b := by
  refine ⟨h, ?_⟩
  rw [← h2.2, fst_fst _ h hb.2.1, h1.2]
/-- what covers both is no longer than the common one -/
theorem com_max {q p c : Pf} (hq : ok q) (hp : ok p) (hc : ok c) (h1 : cov c q) (h2 : cov c p) : cov c (com q p) := by
  have h3 : c.2 ≤ comN q.1 q.2 p.1 p.2 := by
    have := (lz_ge q.1 p.1 c.2 hq.1 hp.1 hc.2.1).2 (by rw [h1.2, h2.2])
    have := h1.1; have := h2.1
    unfold comN; omega
  refine ⟨h3, ?_⟩
  simp only [com]
  rw [fst_fst _ h3 (by have := comN_le_left q.1 q.2 p.1 p.2; have := hq.2.1; omega)]
  exact h1.2
/-- an address as a prefix of 32 bits -/
def host (a : Nat) : Pf := (a, 32)
theorem host_ok {a : Nat} (h : a < 4294967296) : ok (host a) := ⟨h, Nat.le_refl _, fst_32 a⟩
/-- the next bit: the first n+1 bits are the first n and one more -/
theorem fst_succ (x n : Nat) (hn : n ≤ 31) : fst x (n + 1) = fst x n + bit x n * 2 ^ (31 - n) := by
  unfold fst bit
  have e : 2 ^ (32 - n) = 2 ^ (31 - n) * 2 := by rw [← Nat.pow_succ]; congr 1; omega
  rw [show 32 - (n + 1) = 31 - n from by omega, e, ← Nat.div_div_eq_div_mul]
  have := Nat.div_add_mod (x / 2 ^ (31 - n)) 2
  generalize x / 2 ^ (31 - n) = z at *
  rw [← Nat.mul_assoc, Nat.mul_right_comm, ← Nat.add_mul]
  congr 1; omega
/-- two that agree in n bits and in the next one agree in n+1 -/
theorem fst_succ_eq {x y n : Nat} (hn : n ≤ 31) (h : fst x n = fst y n) : fst x (n + 1) = fst y (n + 1) ↔ bit x n = bit y n := by
  rw [fst_succ x n hn, fst_succ y n hn, h]
  constructor
  · intro e
    exact Nat.eq_of_mul_eq_mul_right (pow_pos' (31 - n)) (by omega)
  · intro e; rw [e]
/-- behind the common prefix of two, of which none covers the other, they part -/
theorem com_bits {q p : Pf} (hq : ok q) (hp : ok p) (h1 : com q p ≠ q) (h2 : com q p ≠ p) : (com q p).2 ≤ 31 ∧ bit p.1 (com q p).2 ≠ bit q.1 (com q p).2 := by
  have hl := com_cov_left hq hp
  have hr := com_cov_right hq hp
  have c1 := cov_len (com_ok hq hp) hq hl h1
  have c2 := cov_len (com_ok hq hp) hp hr h2
  have hn : (com q p).2 ≤ 31 := by have := hq.2.1; omega
  refine ⟨hn, fun e => ?_⟩
  have e1 : fst p.1 (com q p).2 = fst q.1 (com q p).2 := by rw [hr.2, hl.2]
  have e2 := (fst_succ_eq hn e1).2 e
  have e3 := (lz_ge q.1 p.1 ((com q p).2 + 1) hq.1 hp.1 (by omega)).2 e2.symm
  have e4 : (com q p).2 = comN q.1 q.2 p.1 p.2 := rfl
  unfold comN at e4
  omega
end Go.Proofs.Ytbcekjbckeljmaa.Px
