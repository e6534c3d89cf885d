/- The document's May for ways. -/
import Derived.Test.YtbcekjbckeljmaaNa
set_option linter.unusedVariables false
set_option linter.unusedSimpArgs false
namespace Go.Proofs.Ytbcekjbckeljmaa
open Go.RowKit
set_option maxHeartbeats 1000000

theorem mayFrom_len : ∀ {l : List (Int × Int)} {x : Int}, mayFrom x l = true → -1 ≤ x → x + l.length ≤ 7 ∨ l = []
  | [], x, _, _ => .inr rfl
  | (p, d) :: r, x, h, hx => by
    simp [mayFrom] at h
    obtain ⟨⟨⟨h1, h2⟩, h3⟩, h4⟩ := h
    rcases mayFrom_len h4 (by omega) with h5 | h5
    · left; simp; omega
    · subst h5; left; simp; omega
theorem mayL_len {l : List (Int × Int)} (h : mayL l = true) : 1 ≤ l.length ∧ l.length ≤ 8 := by
  simp [mayL] at h
  rcases mayFrom_len h.1 (Int.le_refl _) with h5 | h5
  · omega
  · subst h5; simp at h
theorem mayL_bad {l : List (Int × Int)} (h : ¬ (1 ≤ l.length ∧ l.length ≤ 8)) : mayL l = false := by
  cases e : mayL l with
  | false => rfl
  | true => exact absurd (mayL_len e) h
theorem may13_any (o : Option Addr) (cap : Nat) (l : List (Int × Int)) (w : World) (hS : PairS w o l) (hlen : l.length < 100000) :
    Calls Try.prog 28 #[.slice o l.length cap] w fun e w' => e = .returned (.bool (mayL l)) ∧ Below w.heap.size w w' := by
  have HS := Lib.hid hS
  clear hS
  by_cases hl1 : l.length < 1
  · go_enter Try.func28, Try.ntmps28
    go_wp2
    go_ret
    exact ⟨by rw [mayL_bad (by omega)]; rfl, Below.refl _ _⟩
  by_cases hl2 : 8 < l.length
  · go_enter Try.func28, Try.ntmps28
    go_wp2
    go_ret
    exact ⟨by rw [mayL_bad (by omega)]; rfl, Below.refl _ _⟩
  go_enter Try.func28, Try.ntmps28
  go_wp2
  go_loopg [3] l.length (fun k i wr => ∃ n : Nat, i = .int .i64 n ∧ -1 ≤ lastOf l n ∧ n ≤ l.length ∧ Hid (k = l.length - n) ∧ Hid (mayFrom (-1) l = mayFrom (lastOf l n) (l.drop n)) ∧ Hid (Below w.heap.size w wr))
  case atStart => exact ⟨0, rfl, by simp [lastOf], by omega, Lib.hid (by omega), Lib.hid rfl, Lib.hid (Below.refl _ _)⟩
  case round =>
    obtain ⟨n, rfl, hlast, hn, HK, HM, HB⟩ := hrel
    by_cases hlt : n < l.length
    · obtain ⟨a, rfl, c0, c1, hab⟩ := (HS.out.keep HB.out) n hlt
      have HMF := Lib.hid (mayFrom_drop hlt)
      have hnx : lastOf l (n + 1) = l[n].1 := by simp [lastOf, List.getD_eq_getElem?_getD, hlt]
      have hprev : n = 0 ∧ lastOf l n = -1 ∨ 0 < n ∧ wr.cell? (a.add ((n - 1) * 2)) = some (.int .i64 (lastOf l n)) := by
        by_cases h0 : n = 0
        · subst h0; exact .inl ⟨rfl, rfl⟩
        · obtain ⟨a', e', c0', _, _⟩ := (HS.out.keep HB.out) (n - 1) (by omega)
          cases e'
          refine .inr ⟨by omega, ?_⟩
          rw [c0']; simp [lastOf, h0, List.getD_eq_getElem?_getD, show n - 1 < l.length from by omega]
      generalize lastOf l n = x at *
      generalize l[n].1 = p at *
      generalize l[n].2 = d at *
      have HX := Lib.hid hnx
      clear hnx
      have HF : Hid ((!decide (p ≤ x) && !decide (8 ≤ p) && dOk d) = false → mayL l = false) := Lib.hid (fun h => by rw [mayL, HM.out, HMF.out, h]; rfl)
      by_cases h1 : p < 0
      · have e1 : decide (p < 0) = true := by simpa using h1
        have F := Lib.hid (HF.out (by simp [show p ≤ x from by omega]))
        go_wp2
        go_quiet (fail)
        go_wp2
        go_ret
        exact ⟨by rw [F.out]; rfl, HB.out.drewN _⟩
      have e1 : decide (p < 0) = false := by simpa using h1
      by_cases h2 : 8 ≤ p
      · have e2 : decide (8 ≤ p) = true := by simpa using h2
        have F := Lib.hid (HF.out (by simp [h2]))
        go_wp2
        go_quiet (fail)
        go_wp2
        go_ret
        exact ⟨by rw [F.out]; rfl, HB.out.drewN _⟩
      have e2 : decide (8 ≤ p) = false := by simpa using h2
      by_cases h4 : d < 0
      · have e4 : decide (d < 0) = true := by simpa using h4
        have F := Lib.hid (HF.out (by simp [dOk]; omega))
        rcases hprev with ⟨h0, hx⟩ | ⟨h0, hc⟩
        · have e0 : decide (0 < n) = false := by simp [h0]
          clear h0
          go_wp2
          go_quiet (fail)
          go_wp2
          go_ret
          exact ⟨by rw [F.out]; rfl, HB.out.drewN _⟩
        · have e0 : decide (0 < (n : Int)) = true := by simpa using h0
          by_cases h3 : p ≤ x
          · have e3 : decide (p ≤ x) = true := by simpa using h3
            go_wp2
            go_quiet (fail)
            go_wp2
            go_ret
            exact ⟨by rw [F.out]; rfl, HB.out.drewN _⟩
          · have e3 : decide (p ≤ x) = false := by simpa using h3
            go_wp2
            go_quiet (fail)
            go_wp2
            go_ret
            exact ⟨by rw [F.out]; rfl, HB.out.drewN _⟩
      have e4 : decide (d < 0) = false := by simpa using h4
      by_cases h5 : 255 ≤ d
      · have e5 : decide (255 ≤ d) = true := by simpa using h5
        have F := Lib.hid (HF.out (by simp [dOk]; omega))
        rcases hprev with ⟨h0, hx⟩ | ⟨h0, hc⟩
        · have e0 : decide (0 < n) = false := by simp [h0]
          clear h0
          go_wp2
          go_quiet (fail)
          go_wp2
          go_ret
          exact ⟨by rw [F.out]; rfl, HB.out.drewN _⟩
        · have e0 : decide (0 < (n : Int)) = true := by simpa using h0
          by_cases h3 : p ≤ x
          · have e3 : decide (p ≤ x) = true := by simpa using h3
            go_wp2
            go_quiet (fail)
            go_wp2
            go_ret
            exact ⟨by rw [F.out]; rfl, HB.out.drewN _⟩
          · have e3 : decide (p ≤ x) = false := by simpa using h3
            go_wp2
            go_quiet (fail)
            go_wp2
            go_ret
            exact ⟨by rw [F.out]; rfl, HB.out.drewN _⟩
      have e5 : decide (255 ≤ d) = false := by simpa using h5
      rcases hprev with ⟨h0, hx⟩ | ⟨h0, hc⟩
      · have e0 : decide (0 < n) = false := by simp [h0]
        have h3 : ¬ p ≤ x := by omega
        clear h0
        go_wp2
        go_quiet (fail)
        go_wp2
        go_roundg (gk - 1)
        case measure => have := HK.out; omega
        case rel =>
          refine ⟨n + 1, by go_num, by rw [HX.out]; omega, by omega, Lib.hid (by have := HK.out; omega), Lib.hid ?_, Lib.hid (HB.out.drewN _)⟩
          rw [HM.out, HMF.out, HX.out]
          simp [dOk, h2, show 0 ≤ d from by omega, show d < 255 from by omega, show x < p from by omega]
      · have e0 : decide (0 < (n : Int)) = true := by simpa using h0
        by_cases h3 : p ≤ x
        · have e3 : decide (p ≤ x) = true := by simpa using h3
          have F := Lib.hid (HF.out (by simp [h3]))
          go_wp2
          go_quiet (fail)
          go_wp2
          go_ret
          exact ⟨by rw [F.out]; rfl, HB.out.drewN _⟩
        · have e3 : decide (p ≤ x) = false := by simpa using h3
          go_wp2
          go_quiet (fail)
          go_wp2
          go_roundg (gk - 1)
          case measure => have := HK.out; omega
          case rel =>
            refine ⟨n + 1, by go_num, by rw [HX.out]; omega, by omega, Lib.hid (by have := HK.out; omega), Lib.hid ?_, Lib.hid (HB.out.drewN _)⟩
            rw [HM.out, HMF.out, HX.out]
            simp [dOk, h2, show 0 ≤ d from by omega, show d < 255 from by omega, show x < p from by omega]
    · obtain rfl : n = l.length := by omega
      go_wp2
      go_ret
      exact ⟨by rw [mayL, HM.out]; simp [mayFrom]; omega, HB.out⟩
end Go.Proofs.Ytbcekjbckeljmaa
