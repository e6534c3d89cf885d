/- The entries of routes. -/
import Derived.Test.YtbcekjbckeljmaaNn
set_option linter.unusedVariables false
set_option linter.unusedSimpArgs false
namespace Go.Proofs.Ytbcekjbckeljmaa
open Go.RowKit
set_option maxHeartbeats 1000000
set_option maxRecDepth 10000
attribute [local go_sem high] eql47 neq47 loadRow_way loadRow_arr wayA_back arrA_back
attribute [local go_sem low] loadRowOf_some
attribute [local go_sem ↓] load54 store54 alloc54 load52 store52 alloc52 build180 build185
attribute [local go_sem] rload54 rstore54 rload52 rstore52 ralloc54 ralloc52 rbuild180 rbuild185 rfork180
attribute [local go_sem] size_drewN rowAt_alloc_past rowAt_alloc_at rowAt_drew rowAt_drewN thawed_alloc_past thawed_alloc_at thawed_drew thawed_drewN okCells_way storeRowOf_some putRow_drew putRow_drewN putRow_alloc_past putRow_alloc_at wayA_size wayA_toList cells_way arrA_toList cells_arr

def tabW (l : List (Int × Int)) : List Int := if h : 0 < l.length ∧ mayL l = true then @tabOf l ⟨⟨0, h.1⟩⟩ else zArr
theorem tabW_len (l : List (Int × Int)) : (tabW l).length = 256 := by
  unfold tabW
  split
  · rename_i h
    exact @tab_len l h.2 _ (@ordL_ord l ⟨⟨0, h.1⟩⟩ (allN l))
  · exact zArr_length
def Rt.way (r : Rt) : Way :=
  if r.own = true then ⟨1, zArr, zArr_length⟩ else if r.taken = false ∨ r.l.length = 0 then ⟨2, zArr, zArr_length⟩ else ⟨3, tabW r.l, tabW_len r.l⟩
theorem bucketsW (o : Option Addr) (cap : Nat) (l : List (Int × Int)) (w : World) (hS : PairS w o l) (hlen : l.length < 100000) (hm : mayL l = true) :
    Calls Try.prog 23 #[.slice o l.length cap] w fun e w' => e = .returned (.tuple #[.agg (arrA (tabW l)), .int .i64 0]) ∧ Below w.heap.size w w' := by
  have h := mayL_len hm
  have e : tabW l = @tabOf l ⟨⟨0, h.1⟩⟩ := by unfold tabW; rw [dif_pos ⟨h.1, hm⟩]
  rw [e]
  exact @buckets_any o cap l ⟨⟨0, h.1⟩⟩ w hS hlen hm
theorem tableW (o : Option Addr) (cap : Nat) (l : List (Int × Int)) (w : World) (hS : PairS w o l) (hlen : l.length < 100000) (hm : mayL l = true) :
    Calls Try.prog 29 #[.slice o l.length cap] w fun e w' => e = .returned (.agg (arrA (tabW l))) ∧ Below w.heap.size w w' := by
  have h := mayL_len hm
  have e : tabW l = @tabOf l ⟨⟨0, h.1⟩⟩ := by unfold tabW; rw [dif_pos ⟨h.1, hm⟩]
  rw [e]
  exact @table_any o cap l ⟨⟨0, h.1⟩⟩ w hS hlen hm
theorem build54 (parts : Array (Nat × Value)) : Instr.build 33 parts = bigBuild 33 parts := rfl
theorem zero54 (w : World) : (zeroValue 33).run Try.prog w = .ok (.agg (([] : List Value) ++ [Value.int .i64 0] ++ arrCells zArr).toArray) w := by kernel_rfl
theorem rbuild54a (k : Int) (w : World) : (bigBuild 33 #[(0, .int .i64 k)]).run Try.prog w = .ok (.agg (wayA ⟨k, zArr, zArr_length⟩)) w := by
  refine places _ _ w #[(0, 1), (1, 256)] (by kernel_rfl) Try.underlying33 _ (zero54 w) _ _ ?_
  rw [fill_one [] [Value.int .i64 0] _ [.int .i64 k] rfl rfl rfl, fill_end]
  rfl
theorem rbuild54b (k : Int) (b : List Int) (hb : b.length = 256) (w : World) : (bigBuild 33 #[(0, .int .i64 k), (1, .agg (arrA b))]).run Try.prog w = .ok (.agg (wayA ⟨k, b, hb⟩)) w := by
  refine places _ _ w #[(0, 1), (1, 256)] (by kernel_rfl) Try.underlying33 _ (zero54 w) _ _ ?_
  rw [fill_one [] [Value.int .i64 0] _ [.int .i64 k] rfl rfl rfl]
  have e : ([] ++ [Value.int .i64 k] ++ arrCells zArr : List Value) = [Value.int .i64 k] ++ arrCells zArr ++ [] := by simp
  have hl : (arrCells b).length = 256 := by rw [arrCells_length, hb]
  rw [e, fill_one [Value.int .i64 k] (arrCells zArr) [] (arrCells b) rfl (by rw [hl]; rfl) (by rw [hl, arrCells_length, zArr_length]), fill_end]
  simp [wayA, wayCells]
attribute [local go_sem ↓] build54
attribute [local go_sem] rbuild54a
theorem refWay_any (r : Rt) (w : World) (h : r.In w) (hm : r.may = true) :
    Calls Try.prog 12 #[r.val] w fun e w' => e = .returned (.agg (wayA r.way)) ∧ Below w.heap.size w w' := by
  obtain ⟨a, n, own, taken, d, l, o, cap⟩ := r
  have H := Lib.hid h
  have HM := Lib.hid hm
  have hlen := h.len
  clear h hm
  simp only [Rt.val, Rt.cells, Rt.way] at *
  have HB0 := Lib.hid (((Below.refl _ w).alloc (Nat.le_refl _) (.cells #[.int .u32 a, .int .i64 n, .bool own, .bool taken, .int .i64 d, .slice o l.length cap] 28)).alloc (by simp) (.cells (wayA zWay) 33))
  have hz := rowAt_alloc_at (w := w.alloc (.cells #[.int .u32 a, .int .i64 n, .bool own, .bool taken, .int .i64 d, .slice o l.length cap] 28)) (wayA zWay) 33 (w.heap.size + 1) 257 (by simp) (wayA_size zWay).symm
  have hth := thawed_alloc_at (w := w.alloc (.cells #[.int .u32 a, .int .i64 n, .bool own, .bool taken, .int .i64 d, .slice o l.length cap] 28)) (wayA zWay) 33 (w.heap.size + 1) (by simp)
  cases own with
  | true =>
    go_enter Try.func12, Try.ntmps12
    go_wp2
    refine bodyPost_ret (v := .agg (wayA _)) (results_row Try.results12 _ _ _ rfl (by rw [loadVar_row Try.underlying33 rfl isz54, rowAt_putRow_same _ _ _ _ _ hz (wayCells_length _)]; rfl)) rfl ⟨by first | rfl | (simp; done) | (simp [H0.out]), below_putRow HB0.out (by show w.heap.size ≤ w.heap.size + 1; omega) _⟩
  | false =>
    cases taken with
    | false =>
      go_enter Try.func12, Try.ntmps12
      go_wp2
      refine bodyPost_ret (v := .agg (wayA _)) (results_row Try.results12 _ _ _ rfl (by rw [loadVar_row Try.underlying33 rfl isz54, rowAt_putRow_same _ _ _ _ _ hz (wayCells_length _)]; rfl)) rfl ⟨by first | rfl | (simp; done) | (simp [H0.out]), below_putRow HB0.out (by show w.heap.size ≤ w.heap.size + 1; omega) _⟩
    | true =>
      obtain ⟨N, hN⟩ : ∃ N, l.length = N := ⟨_, rfl⟩
      rw [hN] at HB0 hz hth ⊢
      have HN := Lib.hid hN
      cases N with
      | zero =>
        clear hN
        go_enter Try.func12, Try.ntmps12
        go_wp2
        refine bodyPost_ret (v := .agg (wayA _)) (results_row Try.results12 _ _ _ rfl (by rw [loadVar_row Try.underlying33 rfl isz54, rowAt_putRow_same _ _ _ _ _ hz (wayCells_length _)]; rfl)) rfl ⟨by simp, below_putRow HB0.out (by show w.heap.size ≤ w.heap.size + 1; omega) _⟩
      | succ N =>
        have HML : Hid (mayL l = true) := Lib.hid (by
          have := HM.out
          simp [Rt.may] at this
          rcases this.2 with h | h
          · subst h; simp at hN
          · exact h)
        have HT := fun w' (hw : PairS w' o l) => tableW o cap l w' hw hlen HML.out
        rw [hN] at HT
        have HT := Lib.hid HT
        clear hN
        go_enter Try.func12, Try.ntmps12
        go_wp2_with fail
        refine (HT.out _ ((H.out.keep (HB0.out)).s)).mono ?_
        rintro e w1 ⟨rfl, hb1⟩
        have hz := (rowAt_below hb1 257 (a := ⟨w.heap.size + 1, 0, none⟩) (by simp)).trans hz
        have hth := (thawed_below hb1 (g := w.heap.size + 1) (by simp)).trans hth
        have HB1 := Lib.hid (HB0.out.trans (hb1.mono (by simp; omega)))
        clear hb1
        have hbb := fun k w => rbuild54b k (tabW l) (tabW_len l) w
        go_wp2
        refine bodyPost_ret (v := .agg (wayA _)) (results_row Try.results12 _ _ _ rfl (by rw [loadVar_row Try.underlying33 rfl isz54, rowAt_putRow_same _ _ _ _ _ hz (wayCells_length _)]; rfl)) rfl ⟨by simp, below_putRow HB1.out (by show w.heap.size ≤ w.heap.size + 1; omega) _⟩
end Go.Proofs.Ytbcekjbckeljmaa
