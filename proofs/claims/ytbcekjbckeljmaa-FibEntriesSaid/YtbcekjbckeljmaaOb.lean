/- FibEntries: which routes may be, and their entries. -/
import Derived.Test.YtbcekjbckeljmaaOa
set_option linter.unusedVariables false
set_option linter.unusedSimpArgs false
namespace Go.Proofs.Ytbcekjbckeljmaa
open Go.RowKit
set_option maxHeartbeats 1000000
set_option maxRecDepth 10000
attribute [local go_sem high] eql47 neq47 loadRow_way loadRow_arr wayA_back arrA_back
attribute [local go_sem low] loadRowOf_some
attribute [local go_sem ↓] load54 store54 alloc54 load52 store52 alloc52 build180 build185
attribute [local go_sem] rload54 rstore54 rload52 rstore52 ralloc54 ralloc52 rbuild180 rbuild185 rfork180
attribute [local go_sem] size_drewN rowAt_alloc_past rowAt_alloc_at rowAt_drew rowAt_drewN thawed_alloc_past thawed_alloc_at thawed_drew thawed_drewN okCells_way storeRowOf_some putRow_drew putRow_drewN putRow_alloc_past putRow_alloc_at wayA_size wayA_toList cells_way arrA_toList cells_arr
attribute [local go_sem ↓] build54
attribute [local go_sem high] eqlWay neqWay
theorem rbuild54z (w : World) : (bigBuild 33 #[]).run Try.prog w = .ok (.agg (wayA zWay)) w := by kernel_rfl
attribute [local go_sem] rbuild54a rbuild54z

theorem fibEntries_any (r : Rt) (w : World) (h : r.Raw w) : Calls Try.prog 3 #[r.val] w fun e w' => e = .returned (.bool true) ∧ Below w.heap.size w w' := by
  have HB0 := Lib.hid ((Below.refl _ w).alloc (Nat.le_refl _) (.cells r.cells 28))
  by_cases hlen : 9000 < r.l.length
  · have HK := fun w => Lib.hid (known_any w)
    obtain ⟨a, n, own, taken, d, l, o, cap⟩ := r
    simp only [Rt.val, Rt.cells] at *
    have hl : (9000 : Int) < l.length := by omega
    go_enter Try.func3, Try.ntmps3
    go_wp2_with fail
    refine (HK _).out.mono ?_
    rintro e w1 ⟨rfl, hb1⟩
    go_wp2
    go_ret
    exact ⟨rfl, HB0.out.trans (hb1.mono (by simp))⟩
  · have HI := Lib.hid (show r.In (w.alloc (.cells r.cells 28)) from ⟨h.a, by omega, h.s.keep HB0.out⟩)
    have HE := fun w (h : r.In w) => Lib.hid (entry_all r w h)
    have HM := fun w (h : r.In w) => Lib.hid (fibMay_any r w h)
    have HR := fun w (h : r.In w) => Lib.hid (refMay_any r w h)
    have HY := fun w (h : r.In w) (hm : r.may = true) => Lib.hid (refWay_any r w h hm)
    have HK := fun w => Lib.hid (known_any w)
    clear h
    have hl : ¬ (9000 : Int) < r.l.length := by omega
    generalize hv1 : (if r.may = true then r.way else zWay) = v1 at *
    generalize hc1 : (if r.may = true then (0 : Int) else 2) = c1 at *
    have HV1 := Lib.hid hv1
    have HC1 := Lib.hid hc1
    clear hv1 hc1
    generalize hm : r.may = m at *
    generalize r.way = y at *
    have hcl : ∀ w', Below w.heap.size w w' → Below (w.heap.size + 1) (w.alloc (.cells r.cells 28)) w' → True := fun _ _ _ => trivial
    clear hcl
    have HC : Hid (∀ w', Below (w.alloc (.cells r.cells 28)).heap.size (w.alloc (.cells r.cells 28)) w' → ∀ i v, r.cells[i]? = some v → w'.cell? ⟨w.heap.size, i, none⟩ = some v) := Lib.hid (fun w' hb i v hv => pw_cell hb ((World.cell?_alloc_at _ _ _ i rfl).trans hv))
    have hsz : (w.alloc (.cells r.cells 28)).heap.size = w.heap.size + 1 := by simp
    obtain ⟨a, n, own, taken, d, l, o, cap⟩ := r
    simp only [Rt.val, Rt.cells] at *
    clear hm
    go_enter Try.func3, Try.ntmps3
    go_wp2_with fail
    refine (HE _ HI.out).out.mono ?_
    rintro e w2 ⟨rfl, hb2⟩
    go_wp2_with fail
    rw [putRow_alloc_at _ _ _ _ rfl (by rw [wayCells_length, wayA_size]), wayA_back]
    have hbx : Below (w.alloc (.cells #[.int .u32 a, .int .i64 n, .bool own, .bool taken, .int .i64 d, .slice o l.length cap] 28)).heap.size (w.alloc (.cells #[.int .u32 a, .int .i64 n, .bool own, .bool taken, .int .i64 d, .slice o l.length cap] 28)) (w2.alloc (.cells (wayA v1) 33)) := hb2.alloc hb2.size _
    have hwx : WayAt (w2.alloc (.cells (wayA v1) 33)) w2.heap.size v1 := heap_alloc_at _ _ _ rfl
    generalize w2.alloc (.cells (wayA v1) 33) = wx at *
    have KI := Lib.hid (show ∀ w', Below wx.heap.size wx w' → Rt.In ⟨a, n, own, taken, d, l, o, cap⟩ w' from fun w' h => (HI.out.keep hbx).keep h)
    have K6 := Lib.hid (show ∀ w', Below wx.heap.size wx w' → w'.cell? ⟨w.heap.size, 0, none⟩ = some (.int .u32 a) ∧ w'.cell? ⟨w.heap.size, 1, none⟩ = some (.int .i64 n) ∧ w'.cell? ⟨w.heap.size, 2, none⟩ = some (.bool own) ∧ w'.cell? ⟨w.heap.size, 3, none⟩ = some (.bool taken) ∧ w'.cell? ⟨w.heap.size, 4, none⟩ = some (.int .i64 d) ∧ w'.cell? ⟨w.heap.size, 5, none⟩ = some (.slice o l.length cap) ∧ rowAt w' ⟨w2.heap.size, 0, none⟩ 257 = some (wayCells v1) from
      fun w' h => by
        have hh := hbx.trans (h.mono hbx.size)
        exact ⟨HC.out _ hh 0 _ rfl, HC.out _ hh 1 _ rfl, HC.out _ hh 2 _ rfl, HC.out _ hh 3 _ rfl, HC.out _ hh 4 _ rfl, HC.out _ hh 5 _ rfl, (hwx.below h).row⟩)
    have HBX := Lib.hid (HB0.out.trans (hbx.mono (by simp)))
    clear hbx hwx hb2 HE
    obtain ⟨c0, q1, q2, q3, q4, q5, q6⟩ := K6.out _ (Below.refl _ _)
    go_region_held3 (fun w' => w'.cell? ⟨w.heap.size, 0, none⟩ = some (.int .u32 a) ∧ w'.cell? ⟨w.heap.size, 1, none⟩ = some (.int .i64 n) ∧ w'.cell? ⟨w.heap.size, 2, none⟩ = some (.bool own) ∧ w'.cell? ⟨w.heap.size, 3, none⟩ = some (.bool taken) ∧ w'.cell? ⟨w.heap.size, 4, none⟩ = some (.int .i64 d) ∧ w'.cell? ⟨w.heap.size, 5, none⟩ = some (.slice o l.length cap) ∧ rowAt w' ⟨w2.heap.size, 0, none⟩ 257 = some (wayCells v1))
      (exact K6.out _ (by repeat (first | assumption | exact Below.refl _ _ | refine Below.drew ?_)))
      (first
        | (go_at_call 9; refine (HM _ (KI.out _ (by repeat (first | exact Below.refl _ _ | refine Below.drew ?_)))).out.mono ?_; rintro e w3 ⟨rfl, hb3⟩; have hB3 : Below wx.heap.size wx w3 := by first | exact hb3 | exact ((Below.refl _ wx).drew).trans hb3)
        | (go_at_call 10; refine (HR _ (KI.out _ (by repeat (first | assumption | exact Below.refl _ _ | refine Below.drew ?_)))).out.mono ?_; rintro e w4 ⟨rfl, hb4⟩; have hB4 : Below wx.heap.size wx w4 := hB3.trans (hb4.mono hB3.size)))
    clear c0 q1 q2 q3 q4 q5 q6
    obtain ⟨c0, q1, q2, q3, q4, q5, q6⟩ := K6.out _ hB4
    clear hb3 hb4
    go_wp2_with fail
    refine (HR _ (KI.out _ hB4)).out.mono ?_
    rintro e w5 ⟨rfl, hb5⟩
    have hB5 := hB4.trans (hb5.mono hB4.size)
    clear c0 q1 q2 q3 q4 q5 q6 hb5
    obtain ⟨c0, q1, q2, q3, q4, q5, q6⟩ := K6.out _ hB5
    cases m with
    | false =>
      have e1 : v1 = zWay := HV1.out.symm
      have e2 : c1 = 2 := HC1.out.symm
      subst e1
      subst e2
      go_wp2_with fail
      refine (num_any _ _).mono ?_
      rintro e w' ⟨rfl, rfl⟩
      go_wp2_with fail
      refine (HK _).out.mono ?_
      rintro e w6 ⟨rfl, hb6⟩
      go_wp2
      go_ret
      exact ⟨rfl, HBX.out.trans ((hB5.trans (hb6.mono hB5.size)).mono HBX.out.size)⟩
    | true =>
      have e1 : v1 = y := HV1.out.symm
      have e2 : c1 = 0 := HC1.out.symm
      subst e1
      subst e2
      go_wp2_with fail
      go_region_held3 (fun w' => w'.cell? ⟨w.heap.size, 0, none⟩ = some (.int .u32 a) ∧ w'.cell? ⟨w.heap.size, 1, none⟩ = some (.int .i64 n) ∧ w'.cell? ⟨w.heap.size, 2, none⟩ = some (.bool own) ∧ w'.cell? ⟨w.heap.size, 3, none⟩ = some (.bool taken) ∧ w'.cell? ⟨w.heap.size, 4, none⟩ = some (.int .i64 d) ∧ w'.cell? ⟨w.heap.size, 5, none⟩ = some (.slice o l.length cap) ∧ rowAt w' ⟨w2.heap.size, 0, none⟩ 257 = some (wayCells v1))
        (exact K6.out _ (by repeat (first | assumption | exact Below.refl _ _ | refine Below.drew ?_)))
        (first
          | (go_at_call 12; refine (HY _ (KI.out _ (by repeat (first | assumption | exact Below.refl _ _ | refine Below.drew ?_))) trivial).out.mono ?_; rintro e w6 ⟨rfl, hb6⟩; have hB6 : Below wx.heap.size wx w6 := Below.trans (by repeat (first | assumption | refine Below.drew ?_)) (hb6.mono (by simp; exact hB5.size)))
          | (go_at_call 11; refine (num_any _ _).mono ?_; rintro e w' ⟨rfl, rfl⟩)
          | (go_at_call 7; refine (HK _).out.mono ?_; rintro e w7 ⟨rfl, hb7⟩; have hB7 : Below wx.heap.size wx w7 := hB6.trans (hb7.mono hB6.size)))
      all_goals
        go_wp2
        go_ret
        exact ⟨rfl, HBX.out.trans (hB7.mono HBX.out.size)⟩
end Go.Proofs.Ytbcekjbckeljmaa
