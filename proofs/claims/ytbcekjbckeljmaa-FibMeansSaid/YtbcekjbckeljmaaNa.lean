/- The ways of a route: weights, and which may be. -/
import Derived.Test.YtbcekjbckeljmaaTh
set_option linter.unusedVariables false
set_option linter.unusedSimpArgs false
namespace Go.Proofs.Ytbcekjbckeljmaa
open Go.RowKit
set_option maxHeartbeats 400000

theorem add_block (a : Addr) (n : Nat) : (a.add n).block = a.block := by unfold Addr.add; split <;> rfl
/-- a slice of pairs -/
def PairS (w : World) (o : Option Addr) (l : List (Int × Int)) : Prop :=
  ∀ i, (h : i < l.length) → ∃ a, o = some a ∧ w.cell? (a.add (i * 2)) = some (.int .i64 l[i].1) ∧ w.cell? ⟨(a.add (i * 2)).block, (a.add (i * 2)).off + 1, none⟩ = some (.int .i64 l[i].2) ∧ a.block < w.heap.size
theorem PairS.below {w w' : World} {o : Option Addr} {l : List (Int × Int)} (h : PairS w o l) {B : Nat} (hb : Below B w w') (hB : ∀ a, o = some a → a.block < B) : PairS w' o l := by
  intro i hi
  obtain ⟨a, ha, h1, h2, h3⟩ := h i hi
  have := hB a ha
  exact ⟨a, ha, (hb.cell (p := a.add (i * 2)) (by rw [add_block]; exact this)).trans h1, (hb.cell (p := ⟨(a.add (i * 2)).block, (a.add (i * 2)).off + 1, none⟩) (by show (a.add (i * 2)).block < _; rw [add_block]; exact this)).trans h2, Nat.lt_of_lt_of_le h3 hb.size⟩
theorem PairS.keep {w w' : World} {o : Option Addr} {l : List (Int × Int)} (h : PairS w o l) (hb : Below w.heap.size w w') : PairS w' o l := by
  intro i hi
  obtain ⟨a, ha, h1, h2, h3⟩ := h i hi
  exact ⟨a, ha, (hb.cell (p := a.add (i * 2)) (by rw [add_block]; exact h3)).trans h1, (hb.cell (p := ⟨(a.add (i * 2)).block, (a.add (i * 2)).off + 1, none⟩) (by show (a.add (i * 2)).block < _; rw [add_block]; exact h3)).trans h2, Nat.lt_of_lt_of_le h3 hb.size⟩
def dOk (d : Int) : Bool := decide (0 ≤ d) && decide (d < 255)
def wgt (d : Int) : Int := if dOk d then 65536 / (d + 1) else 0
theorem wgt_pos {d : Int} (h : dOk d = true) : 1 ≤ wgt d ∧ wgt d ≤ 65536 := by
  simp only [wgt, h, if_true]
  simp [dOk] at h
  constructor
  · exact Int.le_ediv_of_mul_le (by omega) (by omega)
  · exact Int.ediv_le_self _ (by omega)
theorem weight_any (p d : Int) (w : World) :
    Calls Try.prog 51 #[.agg #[.int .i64 p, .int .i64 d]] w fun e w' => e = .returned (.int .i64 (wgt d)) ∧ Below w.heap.size w w' := by
  by_cases h1 : d < 0
  · go_enter Try.func51, Try.ntmps51
    go_wp2
    go_ret
    exact ⟨ret_int (by simp [wgt, dOk, show ¬ 0 ≤ d from by omega]), (Below.refl _ w).alloc (Nat.le_refl _) _⟩
  · by_cases h2 : 255 ≤ d
    · go_enter Try.func51, Try.ntmps51
      go_wp2
      go_ret
      exact ⟨ret_int (by simp [wgt, dOk, show ¬ d < 255 from by omega]), (Below.refl _ w).alloc (Nat.le_refl _) _⟩
    · have h3 : d + 1 ≠ 0 := by omega
      have h4 : -9223372036854775808 ≤ d + 1 ∧ d + 1 < 9223372036854775808 := by omega
      go_enter Try.func51, Try.ntmps51
      go_wp2
      go_ret
      refine ⟨ret_int ?_, (Below.refl _ w).alloc (Nat.le_refl _) _⟩
      simp only [wgt, dOk, show 0 ≤ d from by omega, show d < 255 from by omega, decide_true, Bool.and_self, if_true]
theorem weight13_any (p d : Int) (w : World) :
    Calls Try.prog 68 #[.agg #[.int .i64 p, .int .i64 d]] w fun e w' => e = .returned (.int .i64 (wgt d)) ∧ Below w.heap.size w w' := by
  by_cases h1 : d < 0
  · go_enter Try.func68, Try.ntmps68
    go_wp2
    go_ret
    exact ⟨ret_int (by simp [wgt, dOk, show ¬ 0 ≤ d from by omega]), (Below.refl _ w).alloc (Nat.le_refl _) _⟩
  · by_cases h2 : 254 < d
    · go_enter Try.func68, Try.ntmps68
      go_wp2
      go_ret
      exact ⟨ret_int (by simp [wgt, dOk, show ¬ d < 255 from by omega]), (Below.refl _ w).alloc (Nat.le_refl _) _⟩
    · have h3 : d + 1 ≠ 0 := by omega
      have h4 : -9223372036854775808 ≤ d + 1 ∧ d + 1 < 9223372036854775808 := by omega
      go_enter Try.func68, Try.ntmps68
      go_wp2
      go_ret
      refine ⟨ret_int ?_, (Below.refl _ w).alloc (Nat.le_refl _) _⟩
      simp only [wgt, dOk, show 0 ≤ d from by omega, show d < 255 from by omega, decide_true, Bool.and_self, if_true]

def mayFrom (last : Int) : List (Int × Int) → Bool
  | [] => true
  | (p, d) :: r => !decide (p ≤ last) && !decide (8 ≤ p) && dOk d && mayFrom p r
def mayL (l : List (Int × Int)) : Bool := mayFrom (-1) l && decide (0 < l.length)
theorem wgt_zero (d : Int) : decide (wgt d = 0) = !dOk d := by
  cases h : dOk d with
  | true => have := wgt_pos h; simp; omega
  | false => simp [wgt, h]
def lastOf (l : List (Int × Int)) (i : Nat) : Int := if i = 0 then -1 else (l.getD (i - 1) (0, 0)).1
theorem mayFrom_drop {l : List (Int × Int)} {i : Nat} (h : i < l.length) : mayFrom (lastOf l i) (l.drop i) = (!decide (l[i].1 ≤ lastOf l i) && !decide (8 ≤ l[i].1) && dOk l[i].2 && mayFrom (lastOf l (i + 1)) (l.drop (i + 1))) := by
  rw [List.drop_eq_getElem_cons h]
  show mayFrom _ ((l[i].1, l[i].2) :: _) = _
  simp only [mayFrom, lastOf, Nat.add_eq_zero_iff, Nat.add_sub_cancel]
  simp [List.getD_eq_getElem?_getD, h]
theorem split_may (o : Option Addr) (cap : Nat) (l : List (Int × Int)) (w : World) (hS : PairS w o l) (hlen : l.length < 100000) :
    Calls Try.prog 26 #[.slice o l.length cap] w fun e w' => e = .returned (.bool (mayL l)) ∧ Below w.heap.size w w' := by
  have HS := Lib.hid hS
  clear hS
  go_enter Try.func26, Try.ntmps26
  go_wp2
  go_loopg [3, 8] l.length (fun k s i wr => ∃ n : Nat, i = .int .i64 n ∧ s = .int .i64 (lastOf l n) ∧ n ≤ l.length ∧ Hid (k = l.length - n) ∧ Hid (mayFrom (-1) l = mayFrom (lastOf l n) (l.drop n)) ∧ Hid (Below w.heap.size w wr))
  case atStart => exact ⟨0, rfl, rfl, by omega, Lib.hid (by omega), Lib.hid rfl, Lib.hid (Below.refl _ _)⟩
  case round =>
    obtain ⟨n, rfl, rfl, hn, HK, HM, HB⟩ := hrel
    by_cases hlt : n < l.length
    · obtain ⟨a, rfl, c0, c1, hab⟩ := (HS.out.keep HB.out) n hlt
      have HMF := Lib.hid (mayFrom_drop hlt)
      have hnx : lastOf l (n + 1) = l[n].1 := by simp [lastOf, List.getD_eq_getElem?_getD, hlt]
      generalize lastOf l n = x at *
      generalize l[n].1 = p at *
      generalize l[n].2 = d at *
      have HX := Lib.hid hnx
      clear hnx
      by_cases h1 : p ≤ x
      · go_wp2
        go_ret
        exact ⟨by rw [mayL, HM.out, HMF.out]; simp [h1], HB.out.trans ((Below.refl _ _).alloc (HB.out.size) _)⟩
      · by_cases h2 : 8 ≤ p
        · go_wp2
          go_ret
          exact ⟨by rw [mayL, HM.out, HMF.out]; simp [h2], HB.out.trans ((Below.refl _ _).alloc (HB.out.size) _)⟩
        · go_wp2_with fail
          refine (weight_any p d _).mono ?_
          rintro e w1 ⟨rfl, hb1⟩
          have b0 := pw_cell (a := ⟨wr.heap.size, 0, none⟩) (v := .int .i64 p) hb1 (World.cell?_alloc_at _ _ _ 0 rfl)
          have HB1 := Lib.hid (((Below.refl _ wr).alloc (Nat.le_refl _) (.cells #[.int .i64 p, .int .i64 d] 65)).trans (hb1.mono (by simp)))
          clear hb1
          cases hd : dOk d with
          | false =>
            have hz : wgt d = 0 := by simp [wgt, hd]
            rw [hz]
            clear hz
            go_wp2
            go_ret
            exact ⟨by rw [mayL, HM.out, HMF.out]; simp [hd], HB.out.trans (HB1.out.mono HB.out.size)⟩
          | true =>
            have hz : wgt d ≠ 0 := by have := wgt_pos hd; omega
            go_wp2
            go_roundg (gk - 1)
            case measure => have := HK.out; omega
            case rel =>
              refine ⟨n + 1, by go_num, by rw [HX.out], by omega, Lib.hid (by have := HK.out; omega), Lib.hid ?_, Lib.hid (HB.out.trans (HB1.out.mono HB.out.size))⟩
              rw [HM.out, HMF.out]
              simp [h1, h2, hd]
    · obtain rfl : n = l.length := by omega
      by_cases h0 : 0 < l.length
      · go_wp2
        go_ret
        exact ⟨by rw [mayL, HM.out]; simp [mayFrom, h0], HB.out⟩
      · go_wp2
        go_ret
        exact ⟨by rw [mayL, HM.out]; simp [mayFrom, h0], HB.out⟩
end Go.Proofs.Ytbcekjbckeljmaa
