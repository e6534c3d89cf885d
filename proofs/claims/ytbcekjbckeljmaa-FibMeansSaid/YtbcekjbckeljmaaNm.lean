/- The trie of one truth in which a route's prefix is tried; fresh tries. -/
import Derived.Test.YtbcekjbckeljmaaNl
set_option linter.unusedVariables false
set_option linter.unusedSimpArgs false
namespace Go.Proofs.Ytbcekjbckeljmaa
open Go.RowKit
set_option maxHeartbeats 1000000
set_option maxRecDepth 10000

theorem newB_any (w : World) : Calls Try.prog 24 #[.int .i64 1] w fun e w' => e = .returned (.pointer (some ⟨w.heap.size, 0, none⟩)) ∧ w' = w.alloc (.cells #[.pointer none, .int .i64 1, .int .i64 0, .bool true] 93) := by
  go_enter Try.func24, Try.ntmps24
  go_wp2
  go_ret
  exact ⟨rfl, rfl⟩
theorem new_any (n : Nat) (w : World) (hn : n < 100000000) : Calls Try.prog 30 #[.int .i64 n] w fun e w' => e = .returned (.pointer (some ⟨w.heap.size, 0, none⟩)) ∧ w' = w.alloc (.cells #[.pointer none, .int .i64 n, .int .i64 0, .bool true] 105) := by
  go_enter Try.func30, Try.ntmps30
  go_wp2
  go_ret
  have e : max 0 (n : Int) = n := by omega
  first | exact ⟨rfl, rfl⟩ | (refine ⟨rfl, ?_⟩; simp [e])
theorem thereB_any (tb : Nat) (w : World) (h : w.cell? ⟨tb, 3, none⟩ = some (.bool true)) :
    Calls Try.prog 46 #[.pointer (some ⟨tb, 0, none⟩)] w fun e w' => e = .returned (.bool true) ∧ w = w' := by
  go_enter Try.func46, Try.ntmps46
  go_wp2
  go_ret
  exact ⟨rfl, rfl⟩
theorem placeB_any (tb : Nat) (a : Nat) (n : Int) (w : World) (h : w.cell? ⟨tb, 0, none⟩ = some (.pointer none)) :
    Calls Try.prog 48 #[.pointer (some ⟨tb, 0, none⟩), .agg #[.int .u32 a, .int .i64 n]] w fun e w' => e = .returned (.pointer (some ⟨tb, 0, none⟩)) ∧ Below w.heap.size w w' := by
  have hlt := World.block_lt_of_cell? w _ h
  have hc : (w.alloc (.cells #[.int .u32 a, .int .i64 n] 25)).cell? ⟨tb, 0, none⟩ = some (.pointer none) := by rw [World.cell?_alloc_past _ _ _ hlt]; exact h
  go_enter Try.func48, Try.ntmps48
  go_wp2
  go_step3
  go_wp2
  go_step3
  go_wp2
  go_loopg [5] 0 (fun k s wr => s = .pointer (some ⟨tb, 0, none⟩) ∧ Hid (wr = w.alloc (.cells #[.int .u32 a, .int .i64 n] 25)))
  case atStart => exact ⟨rfl, Lib.hid rfl⟩
  case round =>
    obtain ⟨rfl, HW⟩ := hrel
    obtain rfl := HW.out
    go_wp2
    go_ret
    exact ⟨rfl, (Below.refl _ w).alloc (Nat.le_refl _) _⟩
theorem insertB_any (tb : Nat) (a : Nat) (n : Int) (w : World) (ha : a < 4294967296) (h : w.heap[tb]? = some (.cells #[.pointer none, .int .i64 1, .int .i64 0, .bool true] 93 (0, 0))) :
    Calls Try.prog 25 #[.pointer (some ⟨tb, 0, none⟩), .agg #[.int .u32 a, .int .i64 n], .bool true] w fun e w' => e = .returned (.int .i64 (if Px.may a n then 0 else 2)) ∧ Below tb w w' := by
  have hlt : tb < w.heap.size := (Array.getElem?_eq_some_iff.1 h).1
  have hW : (w.alloc (.cells #[.int .u32 a, .int .i64 n] 25)).heap[tb]? = some (.cells #[.pointer none, .int .i64 1, .int .i64 0, .bool true] 93 (0, 0)) := by rw [Below.heap_alloc _ _ _ hlt]; exact h
  have HB0 : Hid (Below tb w (w.alloc (.cells #[.int .u32 a, .int .i64 n] 25))) := Lib.hid ((Below.refl _ w).alloc (by omega) _)
  go_enter Try.func25, Try.ntmps25
  go_wp2_with fail
  refine (thereB_any tb _ (by simp [World.cell?, hW])).mono ?_
  rintro e w' ⟨rfl, rfl⟩
  go_wp2_with fail
  cases hm : Px.may a n with
  | false =>
    refine (may_any a n _ ha).mono ?_
    rw [hm]
    rintro e w1 ⟨rfl, hb1⟩
    have hs1 : tb < w1.heap.size := by have := hb1.size; simp at this; omega
    have p0 := pw_cell (a := ⟨w.heap.size, 0, none⟩) (v := .int .u32 a) hb1 (World.cell?_alloc_at _ _ _ 0 rfl)
    have p1 := pw_cell (a := ⟨w.heap.size, 1, none⟩) (v := .int .i64 n) hb1 (World.cell?_alloc_at _ _ _ 1 rfl)
    have h1 := (hb1.block tb (by simp; omega)).trans hW
    have HB1 : Hid (Below tb w w1) := Lib.hid (HB0.out.trans (hb1.mono (by simp; omega)))
    clear hb1 hW
    go_wp2
    all_goals (go_ret; exact ⟨by simp, HB1.out⟩)
  | true =>
    refine (may_any a n _ ha).mono ?_
    rw [hm]
    rintro e w1 ⟨rfl, hb1⟩
    have hs1 : tb < w1.heap.size := by have := hb1.size; simp at this; omega
    have p0 := pw_cell (a := ⟨w.heap.size, 0, none⟩) (v := .int .u32 a) hb1 (World.cell?_alloc_at _ _ _ 0 rfl)
    have p1 := pw_cell (a := ⟨w.heap.size, 1, none⟩) (v := .int .i64 n) hb1 (World.cell?_alloc_at _ _ _ 1 rfl)
    have h1 := (hb1.block tb (by simp; omega)).trans hW
    have HB1 : Hid (Below tb w w1) := Lib.hid (HB0.out.trans (hb1.mono (by simp; omega)))
    clear hb1 hW
    go_wp2_with fail
    refine (placeB_any tb a n _ (by simp [World.cell?, h1])).mono ?_
    rintro e w2 ⟨rfl, hb2⟩
    have p0 := pw_cell hb2 p0
    have p1 := pw_cell hb2 p1
    have h2 := (hb2.block tb hs1).trans h1
    have HB2 : Hid (Below tb w w2) := Lib.hid (HB1.out.trans (hb2.mono (by omega)))
    have hs2 : tb < w2.heap.size := Nat.lt_of_lt_of_le hs1 hb2.size
    have c0 : w2.cell? ⟨tb, 0, none⟩ = some (.pointer none) := by simp [World.cell?, h2]
    have c1 : w2.cell? ⟨tb, 1, none⟩ = some (.int .i64 1) := by simp [World.cell?, h2]
    have c2 : w2.cell? ⟨tb, 2, none⟩ = some (.int .i64 0) := by simp [World.cell?, h2]
    have f0 : w2.frozen? ⟨tb, 0, none⟩ = false := by simp [World.frozen?, h2]
    have f2 : w2.frozen? ⟨tb, 2, none⟩ = false := by simp [World.frozen?, h2]
    clear hb2 h1 h2
    go_wp2
    go_quiet (fail)
    go_wp2
    go_quiet (fail)
    go_wp2
    have hne : tb ≠ w.heap.size := by omega
    refine wp_gen (fun w' => w'.cell? ⟨w.heap.size, 0, none⟩ = some (.int .u32 a) ∧ w'.cell? ⟨w.heap.size, 1, none⟩ = some (.int .i64 n) ∧ w'.cell? ⟨tb, 0, none⟩ = some (.pointer none) ∧ w'.frozen? ⟨tb, 0, none⟩ = false ∧ Below tb w w' ∧ tb < w'.heap.size) ?_ ?_
    · refine ⟨?_, ?_, ?_, ?_, ?_, ?_⟩
      · exact (World.cell?_of_block (heap_setCell_other _ _ _ _ (by show w.heap.size ≠ tb; omega))).trans p0
      · exact (World.cell?_of_block (heap_setCell_other _ _ _ _ (by show w.heap.size ≠ tb; omega))).trans p1
      · rw [World.cell?_setCell_other _ _ _ _ (by intro e; simp only [Addr.mk.injEq] at e; omega)]; exact c0
      · rw [World.frozen?_setCell]; exact f0
      · exact Below.setCell (HB2.out.drewN _) (Nat.le_refl _) _
      · simpa using hs2
    rintro w3 ⟨q0, q1, q2, q3, q4, q5⟩
    have HB3 := Lib.hid q4
    clear p0 p1 c0 c1 c2 f0 f2 q4
    go_quiet (fail)
    go_upto_region 17 with fail
    refine wp_gen (fun w' => w'.cell? ⟨tb, 0, none⟩ = some (.pointer none) ∧ w'.frozen? ⟨tb, 0, none⟩ = false ∧ Below tb w w') ⟨?_, ?_, ?_⟩ ?_
    · exact (World.cell?_alloc_past _ _ _ (by exact q5)).trans q2
    · exact (World.frozen?_alloc_past _ _ _ (by exact q5)).trans q3
    · exact (HB3.out.drewN _).alloc (by exact Nat.le_of_lt q5) _
    rintro w4 ⟨r2, r3, r4⟩
    have HB4 := Lib.hid r4
    clear q0 q1 q2 q3 q5 r4
    go_wp2
    go_ret
    exact ⟨by simp, HB4.out.setCell (Nat.le_refl _) _⟩
end Go.Proofs.Ytbcekjbckeljmaa
