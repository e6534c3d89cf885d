/- The shares, plain. -/
import Derived.Test.YtbcekjbckeljmaaNe
set_option linter.unusedVariables false
set_option linter.unusedSimpArgs false
namespace Go.Proofs.Ytbcekjbckeljmaa

def sumTo (f : Nat → Int) : Nat → Int
  | 0 => 0
  | k + 1 => sumTo f k + f k
def wN (l : List (Int × Int)) (i : Nat) : Int := wgt (l.getD i (0, 0)).2
def allN (l : List (Int × Int)) : Int := sumTo (wN l) l.length
def baseN (l : List (Int × Int)) (i : Nat) : Int := 256 * wN l i / allN l
def leftN (l : List (Int × Int)) : Int := 256 - sumTo (baseN l) l.length
theorem wN_le (l : List (Int × Int)) (i : Nat) : 0 ≤ wN l i ∧ wN l i ≤ 65536 := by
  unfold wN
  cases hd : dOk (l.getD i (0, 0)).2 with
  | true => have := wgt_pos hd; omega
  | false => simp only [wgt, hd]; simp
theorem sumTo_bd {f : Nat → Int} {a b : Int} {n : Nat} (h : ∀ i, i < n → a ≤ f i ∧ f i ≤ b) : a * n ≤ sumTo f n ∧ sumTo f n ≤ b * n := by
  induction n with
  | zero => simp [sumTo]
  | succ n ih =>
    have h1 := ih (fun i hi => h i (by omega))
    have h2 := h n (by omega)
    simp only [sumTo, Int.natCast_add, Int.mul_add]
    omega
theorem sumTo_mono {f : Nat → Int} {n k : Nat} (h : ∀ i, 0 ≤ f i) (hk : k ≤ n) : sumTo f k ≤ sumTo f n := by
  induction n with
  | zero => obtain rfl : k = 0 := by omega
            exact Int.le_refl _
  | succ n ih =>
    by_cases e : k = n + 1
    · subst e; exact Int.le_refl _
    · have := ih (by omega); have := h n; simp only [sumTo]; omega
theorem sumTo_mul {f g h : Nat → Int} {a c : Int} {n : Nat} (e : ∀ i, i < n → c * f i = a * g i + h i) : c * sumTo f n = a * sumTo g n + sumTo h n := by
  induction n with
  | zero => simp [sumTo]
  | succ n ih =>
    have h1 := ih (fun i hi => e i (by omega))
    have h2 := e n (by omega)
    simp only [sumTo, Int.mul_add]
    omega
theorem mayFrom_dOk : ∀ {l : List (Int × Int)} {x : Int}, mayFrom x l = true → ∀ i, (h : i < l.length) → dOk l[i].2 = true
  | [], _, _, i, h => by simp at h
  | (p, d) :: r, x, h, i, hi => by
    simp [mayFrom] at h
    match i, hi with
    | 0, _ => exact h.1.2
    | i + 1, hi => exact mayFrom_dOk h.2 i (by simpa using hi)
theorem wN_pos {l : List (Int × Int)} (h : mayL l = true) (i : Nat) (hi : i < l.length) : 1 ≤ wN l i := by
  simp [mayL] at h
  have := wgt_pos (mayFrom_dOk h.1 i hi)
  simp [wN, List.getD_eq_getElem?_getD, hi]
  omega
theorem allN_bd {l : List (Int × Int)} (h : mayL l = true) : 0 < allN l ∧ allN l ≤ 524288 := by
  have h8 := mayL_len h
  have := sumTo_bd (f := wN l) (a := 1) (b := 65536) (n := l.length) (fun i hi => ⟨wN_pos h i hi, (wN_le l i).2⟩)
  unfold allN
  omega
theorem baseN_bd {l : List (Int × Int)} (h : mayL l = true) (i : Nat) : 0 ≤ baseN l i ∧ (i < l.length → baseN l i ≤ 256) := by
  have ha := allN_bd h
  have hw := wN_le l i
  refine ⟨Int.ediv_nonneg (by omega) (by omega), fun hi => ?_⟩
  have hle : wN l i ≤ allN l := by
    have h1 := sumTo_mono (f := wN l) (fun i => (wN_le l i).1) (show i + 1 ≤ l.length from hi)
    have h2 : 0 ≤ sumTo (wN l) i := by
      have := sumTo_mono (f := wN l) (k := 0) (fun i => (wN_le l i).1) (Nat.zero_le i)
      simpa [sumTo] using this
    simp only [sumTo] at h1
    unfold allN; omega
  apply Int.ediv_le_of_le_mul ha.1
  omega
theorem leftN_bd {l : List (Int × Int)} (h : mayL l = true) : 0 ≤ leftN l ∧ leftN l < l.length := by
  have ha := allN_bd h
  have h8 := mayL_len h
  have e := sumTo_mul (f := wN l) (g := baseN l) (h := fun i => 256 * wN l i % allN l) (a := allN l) (c := 256) (n := l.length)
    (fun i hi => by have := Int.mul_ediv_add_emod (256 * wN l i) (allN l); unfold baseN; omega)
  have hb := sumTo_bd (f := fun i => 256 * wN l i % allN l) (a := 0) (b := allN l - 1) (n := l.length)
    (fun i hi => ⟨Int.emod_nonneg _ (by omega), by have := Int.emod_lt_of_pos (256 * wN l i) ha.1; omega⟩)
  generalize sumTo (fun i => 256 * wN l i % allN l) l.length = R at *
  have e2 : allN l * leftN l = R := by
    unfold leftN
    rw [Int.mul_sub]
    have : sumTo (wN l) l.length = allN l := rfl
    rw [this] at e
    have : allN l * 256 = 256 * allN l := Int.mul_comm _ _
    omega
  constructor
  · apply Int.nonneg_of_mul_nonneg_right (a := allN l) ?_ ha.1
    rw [e2]; omega
  · apply Int.lt_of_mul_lt_mul_left (a := allN l) ?_ (by omega)
    rw [e2]
    have : (allN l - 1) * (l.length : Int) = allN l * l.length - l.length := by rw [Int.sub_mul]; omega
    omega
theorem restN_eq (l : List (Int × Int)) (i : Nat) : restN l (allN l) i = 256 * wN l i % allN l := rfl
/-- a way's share -/
def shr (l : List (Int × Int)) (ord : List Nat) (i : Nat) : Int := baseN l i + (if i ∈ ord.take (leftN l).toNat then 1 else 0)
/-- the shares when n buckets have gone -/
def bumpAt (l : List (Int × Int)) (ord : List Nat) (n : Nat) (i : Nat) : Int := baseN l i + (if i ∈ ord.take n then 1 else 0)
def bumpRow (l : List (Int × Int)) (ord : List Nat) (n : Nat) : List Value := (List.range l.length).map fun i => .int .i64 (bumpAt l ord n i)
theorem bumpRow_get (l : List (Int × Int)) (ord : List Nat) (n i : Nat) (hi : i < l.length) : (bumpRow l ord n)[i]? = some (.int .i64 (bumpAt l ord n i)) := by
  simp [bumpRow, hi]
theorem bumpRow_step {l : List (Int × Int)} {rest : Nat → Int} {ord : List Nat} (h : Ord l.length rest ord) {n : Nat} (hn : n < l.length) :
    ord.getD n 0 < l.length ∧ bumpAt l ord n (ord.getD n 0) = baseN l (ord.getD n 0) ∧ (bumpRow l ord n).set (ord.getD n 0) (.int .i64 (baseN l (ord.getD n 0) + 1)) = bumpRow l ord (n + 1) := by
  have hlen : ord.length = l.length := by simpa using h.perm.length_eq
  have hnd : ord.Nodup := h.perm.nodup_iff.2 List.nodup_range
  have hk : ord.getD n 0 = ord[n]'(by omega) := by simp [List.getD_eq_getElem?_getD, hlen, hn]
  have hlt : ord.getD n 0 < l.length := by
    rw [hk]
    have := h.perm.mem_iff.1 (List.getElem_mem (show n < ord.length by omega))
    simpa using this
  have hmem : ∀ i, i ∈ ord.take (n + 1) ↔ i ∈ ord.take n ∨ i = ord.getD n 0 := by
    intro i
    rw [List.take_succ_eq_append_getElem (by omega), List.mem_append, hk]
    simp
  have hnot : ord.getD n 0 ∉ ord.take n := by
    rw [hk]
    intro hm
    obtain ⟨j, hj, e⟩ := List.getElem_of_mem hm
    have hj' : j < n := by simp at hj; omega
    rw [List.getElem_take] at e
    exact List.pairwise_iff_getElem.1 hnd j n (by omega) (by omega) hj' e
  refine ⟨hlt, by unfold bumpAt; rw [if_neg hnot]; omega, ?_⟩
  apply List.ext_getElem?
  intro i
  rw [List.getElem?_set]
  by_cases hi : i < l.length
  · rw [bumpRow_get _ _ _ _ hi]
    by_cases e : ord.getD n 0 = i
    · subst e
      rw [if_pos rfl, if_pos (by simpa [bumpRow] using hlt)]
      rw [bumpRow_get _ _ _ _ hi]
      unfold bumpAt; rw [if_pos ((hmem _).2 (.inr rfl))]
    · rw [if_neg e, bumpRow_get _ _ _ _ hi]
      have : i ∈ ord.take (n + 1) ↔ i ∈ ord.take n := by rw [hmem]; exact ⟨fun h => h.resolve_right (Ne.symm e), .inl⟩
      simp only [bumpAt, this]
  · have h1 : ∀ m, (bumpRow l ord m)[i]? = none := fun m => by simp [bumpRow]; omega
    rw [h1, h1, if_neg (by omega)]
end Go.Proofs.Ytbcekjbckeljmaa
