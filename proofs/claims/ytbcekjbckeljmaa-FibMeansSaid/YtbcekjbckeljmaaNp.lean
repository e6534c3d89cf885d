/- The walk of fib.Entry. -/
import Derived.Test.YtbcekjbckeljmaaNo
set_option linter.unusedVariables false
set_option linter.unusedSimpArgs false
namespace Go.Proofs.Ytbcekjbckeljmaa
open Go.RowKit
set_option maxHeartbeats 1000000
set_option maxRecDepth 10000
attribute [local go_sem high] eql47 neq47 loadRow_way loadRow_arr wayA_back arrA_back
attribute [local go_sem low] loadRowOf_some
attribute [local go_sem ↓] load54 store54 alloc54 load52 store52 alloc52 build180 build185
attribute [local go_sem] rload54 rstore54 rload52 rstore52 ralloc54 ralloc52 rbuild180 rbuild185 rfork180
attribute [local go_sem] size_drewN rowAt_alloc_past rowAt_alloc_at rowAt_drew rowAt_drewN thawed_alloc_past thawed_alloc_at thawed_drew thawed_drewN okCells_way storeRowOf_some putRow_drew putRow_drewN putRow_alloc_past putRow_alloc_at wayA_size wayA_toList cells_way arrA_toList cells_arr

def WayAt (w : World) (B : Nat) (v : Way) : Prop := w.heap[B]? = some (.cells (wayA v) 33 (0, 0))
theorem WayAt.row {w : World} {B : Nat} {v : Way} (h : WayAt w B v) : rowAt w ⟨B, 0, none⟩ 257 = some (wayCells v) := by
  unfold WayAt at h
  have hl : (wayCells v).length = 257 := wayCells_length v
  simp [rowAt, h, wayA_size, wayA_toList, List.take_of_length_le (Nat.le_of_eq hl)]
theorem WayAt.arr {w : World} {B : Nat} {v : Way} (h : WayAt w B v) : rowAt w ⟨B, 1, none⟩ 256 = some (arrCells v.b) := by
  unfold WayAt at h
  have hl : (arrCells v.b).length = 256 := by rw [arrCells_length, v.hb]
  simp [rowAt, h, wayA_size, wayA_toList, wayCells, List.take_of_length_le (Nat.le_of_eq hl)]
theorem WayAt.cell {w : World} {B : Nat} {v : Way} (h : WayAt w B v) : w.cell? ⟨B, 0, none⟩ = some (.int .i64 v.k) := by
  unfold WayAt at h
  simp [World.cell?, h, wayA, wayCells]
theorem WayAt.frozen {w : World} {B : Nat} {v : Way} (h : WayAt w B v) (i : Nat) : w.frozen? ⟨B, i, none⟩ = false := by
  unfold WayAt at h
  simp [World.frozen?, h]
theorem WayAt.thaw {w : World} {B : Nat} {v : Way} (h : WayAt w B v) : thawed w B = true := by
  unfold WayAt at h
  simp [thawed, h]
theorem WayAt.set {w : World} {B : Nat} {v : Way} (h : WayAt w B v) (k : Int) : WayAt (w.setCell ⟨B, 0, none⟩ (.int .i64 k)) B ⟨k, v.b, v.hb⟩ := by
  unfold WayAt at *
  rw [heap_setCell_same _ _ _ _ _ _ h]
  congr 2
theorem WayAt.put {w : World} {B : Nat} {v : Way} (h : WayAt w B v) (b : List Int) (hb : b.length = 256) : WayAt (putRow w ⟨B, 1, none⟩ (arrCells b)) B ⟨v.k, b, hb⟩ := by
  unfold WayAt at *
  have h1 : (putRow w ⟨B, 1, none⟩ (arrCells b)).heap[B]? = some (.cells ((wayA v).toList.take 1 ++ arrCells b ++ (wayA v).toList.drop (1 + (arrCells b).length)).toArray 33 (0, 0)) := by simp [putRow, Array.getElem?_modify, h]
  rw [h1]
  congr 2
  have hd : (wayA v).toList.drop (1 + (arrCells b).length) = [] := List.drop_eq_nil_of_le (by rw [wayA_toList, wayCells_length, arrCells_length, hb]; omega)
  rw [hd, wayA_toList]
  simp [wayA, wayCells]
theorem WayAt.below {w w' : World} {B : Nat} {v : Way} (h : WayAt w B v) (hb : Below w.heap.size w w') : WayAt w' B v := by
  unfold WayAt at *
  rw [hb.block B (Array.getElem?_eq_some_iff.1 h).1]; exact h
theorem entry_bad (r : Rt) (w : World) (h : r.In w) (hm : r.may = false) :
    Calls Try.prog 8 #[r.val] w fun e w' => e = .returned (.tuple #[.agg (wayA zWay), .int .i64 2]) ∧ Below w.heap.size w w' := by
  have HM := Lib.hid hm
  have hW : Hid (WayAt ((w.alloc (.cells r.cells 28)).alloc (.cells (wayA zWay) 33)) (w.heap.size + 1) zWay) := Lib.hid (heap_alloc_at _ _ _ (by simp))
  have HB0 := Lib.hid (((Below.refl _ w).alloc (Nat.le_refl _) (.cells r.cells 28)).alloc (by simp) (.cells (wayA zWay) 33))
  have HMay := fun w' hw => Lib.hid (fibMay_any r w' hw)
  have HI := Lib.hid h
  clear h hm
  obtain ⟨a, n, own, taken, d, l, o, cap⟩ := r
  simp only [Rt.val, Rt.cells] at *
  go_enter Try.func8, Try.ntmps8
  go_wp2_with fail
  refine (HMay _ (HI.out.keep HB0.out)).out.mono ?_
  rw [HM.out]
  rintro e w1 ⟨rfl, hb1⟩
  have HW1 := Lib.hid (hW.out.below hb1)
  have HB1 := Lib.hid (HB0.out.trans (hb1.mono (by simp; omega)))
  clear hb1
  have hz := HW1.out.row
  have hth := HW1.out.thaw
  go_wp2
  refine bodyPost_ret (v := .tuple #[.agg (wayA zWay), .int .i64 2]) (results_row_tmp Try.results8 _ _ _ rfl (by rw [loadVar_row Try.underlying33 rfl isz54, rowAt_putRow_same _ _ _ _ _ hz (wayCells_length _)]; rfl)) rfl ⟨rfl, below_putRow HB1.out (by show w.heap.size ≤ w.heap.size + 1; omega) _⟩
theorem entry_any (r : Rt) (w : World) (h : r.In w) (hm : r.may = true) :
    Calls Try.prog 8 #[r.val] w fun e w' => e = .returned (.tuple #[.agg (wayA r.way), .int .i64 0]) ∧ Below w.heap.size w w' := by
  have HM := Lib.hid hm
  have hW : Hid (WayAt ((w.alloc (.cells r.cells 28)).alloc (.cells (wayA zWay) 33)) (w.heap.size + 1) zWay) := Lib.hid (heap_alloc_at _ _ _ (by simp))
  have HB0 := Lib.hid (((Below.refl _ w).alloc (Nat.le_refl _) (.cells r.cells 28)).alloc (by simp) (.cells (wayA zWay) 33))
  have HMay := fun w' hw => Lib.hid (fibMay_any r w' hw)
  have HI := Lib.hid h
  have hlen := h.len
  clear h hm
  obtain ⟨a, n, own, taken, d, l, o, cap⟩ := r
  simp only [Rt.val, Rt.cells, Rt.way] at *
  obtain ⟨N, hN⟩ : ∃ N, l.length = N := ⟨_, rfl⟩
  rw [hN] at HMay HB0 hW ⊢
  have HN := Lib.hid hN
  have hcl : ∀ i v, #[Value.int .u32 a, .int .i64 n, .bool own, .bool taken, .int .i64 d, .slice o N cap][i]? = some v → ((w.alloc (.cells #[.int .u32 a, .int .i64 n, .bool own, .bool taken, .int .i64 d, .slice o N cap] 28)).alloc (.cells (wayA zWay) 33)).cell? ⟨w.heap.size, i, none⟩ = some v := fun i v hv => by
    rw [World.cell?_alloc_past _ _ _ (by simp)]; exact (World.cell?_alloc_at _ _ _ i rfl).trans hv
  have q2 := hcl 2 _ rfl
  have q3 := hcl 3 _ rfl
  have q5 := hcl 5 _ rfl
  clear hN hcl
  go_enter Try.func8, Try.ntmps8
  go_wp2_with fail
  refine (HMay _ (HI.out.keep HB0.out)).out.mono ?_
  rw [HM.out]
  rintro e w1 ⟨rfl, hb1⟩
  have HW1 := Lib.hid (hW.out.below hb1)
  have HB1 := Lib.hid (HB0.out.trans (hb1.mono (by simp; omega)))
  have q2 := pw_cell hb1 q2
  have q3 := pw_cell hb1 q3
  have q5 := pw_cell hb1 q5
  clear hb1
  have k0 := HW1.out.cell
  have f0 := HW1.out.frozen 0
  cases own with
  | true =>
    have hz := (HW1.out.set 1).row
    have hth := (HW1.out.set 1).thaw
    go_wp2
    refine bodyPost_ret (v := .tuple #[.agg (wayA _), .int .i64 0]) (results_row_tmp Try.results8 _ _ _ rfl (by rw [loadVar_row Try.underlying33 rfl isz54, rowAt_putRow_same _ _ _ _ _ hz (wayCells_length _)]; rfl)) rfl ⟨by first | rfl | (simp; done) | (simp [HN.out]; done), below_putRow (HB1.out.setCell (by show w.heap.size ≤ w.heap.size + 1; omega) _) (by show w.heap.size ≤ w.heap.size + 1; omega) _⟩
  | false =>
    cases taken with
    | false =>
      have hz := (HW1.out.set 2).row
      have hth := (HW1.out.set 2).thaw
      go_wp2
      refine bodyPost_ret (v := .tuple #[.agg (wayA _), .int .i64 0]) (results_row_tmp Try.results8 _ _ _ rfl (by rw [loadVar_row Try.underlying33 rfl isz54, rowAt_putRow_same _ _ _ _ _ hz (wayCells_length _)]; rfl)) rfl ⟨by first | rfl | (simp; done) | (simp [HN.out]; done), below_putRow (HB1.out.setCell (by show w.heap.size ≤ w.heap.size + 1; omega) _) (by show w.heap.size ≤ w.heap.size + 1; omega) _⟩
    | true =>
      cases N with
      | zero =>
        have hz := (HW1.out.set 2).row
        have hth := (HW1.out.set 2).thaw
        go_wp2
        refine bodyPost_ret (v := .tuple #[.agg (wayA _), .int .i64 0]) (results_row_tmp Try.results8 _ _ _ rfl (by rw [loadVar_row Try.underlying33 rfl isz54, rowAt_putRow_same _ _ _ _ _ hz (wayCells_length _)]; rfl)) rfl ⟨by first | rfl | (simp; done) | (simp [HN.out]; done), below_putRow (HB1.out.setCell (by show w.heap.size ≤ w.heap.size + 1; omega) _) (by show w.heap.size ≤ w.heap.size + 1; omega) _⟩
      | succ N =>
        have HML : Hid (mayL l = true) := Lib.hid (by
          have := HM.out
          simp [Rt.may] at this
          rcases this.2 with h | h
          · have e := HN.out; subst h; simp at e
          · exact h)
        have HT := fun w' (hw : PairS w' o l) => bucketsW o cap l w' hw hlen HML.out
        rw [HN.out] at HT
        have HT := Lib.hid HT
        have HW2 := Lib.hid (HW1.out.set 3)
        have HB2 := Lib.hid (show Below w.heap.size w (w1.setCell ⟨w.heap.size + 1, 0, none⟩ (.int .i64 3)) from HB1.out.setCell (by show w.heap.size ≤ w.heap.size + 1; omega) _)
        have q5' : (w1.setCell ⟨w.heap.size + 1, 0, none⟩ (.int .i64 3)).cell? ⟨w.heap.size, 5, none⟩ = some (.slice o (N + 1) cap) := by
          rw [World.cell?_setCell_other _ _ _ _ (by intro e; simp only [Addr.mk.injEq] at e; omega)]; exact q5
        go_wp2_with fail
        refine (HT.out _ (HI.out.keep HB2.out).s).mono ?_
        rintro e w3 ⟨rfl, hb3⟩
        have HW3 := Lib.hid (HW2.out.below hb3)
        have HB3 := Lib.hid (HB2.out.trans (hb3.mono HB2.out.size))
        clear hb3
        have ha := HW3.out.arr
        have hth := HW3.out.thaw
        have hz := (HW3.out.put (tabW l) (tabW_len l)).row
        have hth2 := (HW3.out.put (tabW l) (tabW_len l)).thaw
        have hok := okCells_arr (tabW l) (tabW_len l)
        go_wp2
        refine bodyPost_ret (v := .tuple #[.agg (wayA _), .int .i64 0]) (results_row_tmp Try.results8 _ _ _ rfl (by rw [loadVar_row Try.underlying33 rfl isz54, rowAt_putRow_same _ _ _ _ _ hz (wayCells_length _)]; rfl)) rfl ⟨by simp, below_putRow (below_putRow HB3.out (by show w.heap.size ≤ w.heap.size + 1; omega) _) (by show w.heap.size ≤ w.heap.size + 1; omega) _⟩
end Go.Proofs.Ytbcekjbckeljmaa
