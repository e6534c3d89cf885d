/- The walk of the trie's Match: the longest prefix that has an address. -/
import Derived.Test.YtbcekjbckeljmaaNu
set_option linter.unusedVariables false
set_option linter.unusedSimpArgs false
namespace Go.Proofs.Ytbcekjbckeljmaa
open Go.RowKit Px Go.Shelf
set_option maxHeartbeats 1000000
set_option maxRecDepth 10000
attribute [local go_sem high] eql47 neq47 loadRow_way loadRow_arr wayA_back arrA_back
attribute [local go_sem low] loadRowOf_some
attribute [local go_sem ↓] load54 store54 alloc54 load52 store52 alloc52 build180 build185
attribute [local go_sem] rload54 rstore54 rload52 rstore52 ralloc54 ralloc52 rbuild180 rbuild185 rfork180
attribute [local go_sem] size_drewN rowAt_alloc_past rowAt_alloc_at rowAt_drew rowAt_drewN thawed_alloc_past thawed_alloc_at thawed_drew thawed_drewN okCells_way storeRowOf_some putRow_drew putRow_drewN putRow_alloc_past putRow_alloc_at wayA_size wayA_toList cells_way arrA_toList cells_arr
attribute [local go_sem] Oper.semAt_some

/-- the last of what came -/
def lastE (pre : List (Pf × Way)) : (Pf × Way) × Bool := match pre.getLast? with
  | some e => (e, true)
  | none => (((0, 0), zWay), false)
theorem lastE_nil : lastE [] = (((0, 0), zWay), false) := rfl
theorem lastE_snoc (pre : List (Pf × Way)) (e : Pf × Way) : lastE (pre ++ [e]) = (e, true) := by simp [lastE]
def pfA (p : Pf) : Array Value := #[.int .u32 p.1, .int .i64 p.2]
theorem isz25 : (Try.prog.info? 25).map (·.size) = some 2 := by kernel_rfl
theorem load25 {w : World} {b : Nat} {u v : Value} (h0 : w.cell? ⟨b, 0, none⟩ = some u) (h1 : w.cell? ⟨b, 1, none⟩ = some v) : (loadVar 25 ⟨b, 0, none⟩).run Try.prog w = .ok (.agg #[u, v]) w := by
  simp [loadVar, go_sem, h0, h1]
theorem load33 {w : World} {b : Nat} {v : Way} (h : rowAt w ⟨b, 0, none⟩ 257 = some (wayCells v)) : (loadVar 33 ⟨b, 0, none⟩).run Try.prog w = .ok (.agg (wayA v)) w := by
  rw [loadVar_row Try.underlying33 rfl isz54, h]; rfl
theorem load4 {w : World} {b : Nat} {u : Value} (h0 : w.cell? ⟨b, 0, none⟩ = some u) : (loadVar 4 ⟨b, 0, none⟩).run Try.prog w = .ok u w := by
  simp [loadVar, go_sem, h0]
/-- the boxes of Match -/
def MB (b : Nat) (r : (Pf × Way) × Bool) (w : World) : Prop :=
  w.heap[b]? = some (.cells (pfA r.1.1) 25 (0, 0)) ∧ w.heap[b + 1]? = some (.cells (wayA r.1.2) 33 (0, 0)) ∧ w.heap[b + 2]? = some (.cells #[.bool r.2] 4 (0, 0))
theorem blk_kept {w w' : World} {row : Option Nat} {b : Nat} {o : Obj} (h : w.heap[b]? = some o) (hc : o.isCells = true) (hg : w.grownBy w' row) (hr : ∀ r, row = some r → ∃ o : Obj, w.heap[r]? = some o ∧ o.isCells = false) : w'.heap[b]? = some o := by
  rw [hg.block b (Array.getElem?_eq_some_iff.1 h).1 (fun e => ?_)]
  · exact h
  · obtain ⟨o', h1, h2⟩ := hr b e.symm
    rw [h] at h1; injection h1 with h1; subst h1; rw [hc] at h2; cases h2
theorem thawed_setCell (w : World) (a : Addr) (v : Value) (g : Nat) : thawed (w.setCell a v) g = thawed w g := by
  by_cases h : g = a.block
  · subst h
    unfold thawed
    simp only [World.setCell, Array.getElem?_modify, if_true]
    cases hh : w.heap[a.block]? with
    | none => rfl
    | some o =>
      cases o with
      | cells c e fr => obtain ⟨x, y⟩ := fr; cases x <;> cases y <;> rfl
      | _ => rfl
  · unfold thawed; rw [heap_setCell_other _ _ _ _ h]
theorem rowAt_setCell_lt (w : World) (a : Addr) (g i n : Nat) (v : Value) (h : a.block < g) : rowAt (w.setCell a v) ⟨g, i, none⟩ n = rowAt w ⟨g, i, none⟩ n := rowAt_setCell_far _ _ _ _ _ (by omega)
theorem rowAt_setCell_gt (w : World) (a : Addr) (g i n : Nat) (v : Value) (h : g < a.block) : rowAt (w.setCell a v) ⟨g, i, none⟩ n = rowAt w ⟨g, i, none⟩ n := rowAt_setCell_far _ _ _ _ _ (by omega)
theorem cell?_putRow_lt (w : World) (a p : Addr) (cs : List Value) (h : a.block < p.block) : (putRow w a cs).cell? p = w.cell? p := cell?_putRow_far _ _ _ (by omega)
theorem cell?_putRow_gt (w : World) (a p : Addr) (cs : List Value) (h : p.block < a.block) : (putRow w a cs).cell? p = w.cell? p := cell?_putRow_far _ _ _ (by omega)
theorem frozen?_putRow_lt (w : World) (a p : Addr) (cs : List Value) (h : a.block < p.block) : (putRow w a cs).frozen? p = w.frozen? p := frozen?_putRow_far _ _ _ (by omega)
theorem frozen?_putRow_gt (w : World) (a p : Addr) (cs : List Value) (h : p.block < a.block) : (putRow w a cs).frozen? p = w.frozen? p := frozen?_putRow_far _ _ _ (by omega)
attribute [local go_sem] thawed_setCell rowAt_setCell_lt rowAt_setCell_gt cell?_putRow_lt cell?_putRow_gt frozen?_putRow_lt frozen?_putRow_gt
theorem MB.cells {b : Nat} {r : (Pf × Way) × Bool} {w : World} (h : MB b r w) : w.cell? ⟨b, 0, none⟩ = some (.int .u32 r.1.1.1) ∧ w.cell? ⟨b, 1, none⟩ = some (.int .i64 r.1.1.2) ∧ rowAt w ⟨b + 1, 0, none⟩ 257 = some (wayCells r.1.2) ∧ w.cell? ⟨b + 1 + 1, 0, none⟩ = some (.bool r.2) ∧
    w.frozen? ⟨b, 0, none⟩ = false ∧ w.frozen? ⟨b, 1, none⟩ = false ∧ thawed w (b + 1) = true ∧ w.frozen? ⟨b + 1 + 1, 0, none⟩ = false := by
  obtain ⟨h1, h2, h3⟩ := h
  have h3 : w.heap[b + 1 + 1]? = some (.cells #[.bool r.2] 4 (0, 0)) := h3
  exact ⟨by simp [World.cell?, h1, pfA], by simp [World.cell?, h1, pfA], WayAt.row h2, by simp [World.cell?, h3], by simp [World.frozen?, h1], by simp [World.frozen?, h1], WayAt.thaw h2, by simp [World.frozen?, h3]⟩
theorem MB.set {b : Nat} {r : (Pf × Way) × Bool} {w : World} (h : MB b r w) (x : Pf × Way) (is : Bool) :
    MB b (x, is) ((putRow ((w.setCell ⟨b, 0, none⟩ (.int .u32 x.1.1)).setCell ⟨b, 1, none⟩ (.int .i64 x.1.2)) ⟨b + 1, 0, none⟩ (wayCells x.2)).setCell ⟨b + 1 + 1, 0, none⟩ (.bool is)) := by
  obtain ⟨h1, h2, h3⟩ := h
  have h3 : w.heap[b + 1 + 1]? = some (.cells #[.bool r.2] 4 (0, 0)) := h3
  refine ⟨?_, ?_, ?_⟩
  · rw [heap_setCell_other _ _ _ _ (by show b ≠ b + 1 + 1; omega), heap_putRow_far _ _ _ (by show b ≠ b + 1; omega), heap_setCell_same _ _ _ _ _ _ (heap_setCell_same _ _ _ _ _ _ h1)]
    rfl
  · rw [heap_setCell_other _ _ _ _ (by show b + 1 ≠ b + 1 + 1; omega)]
    have h2' : ((w.setCell ⟨b, 0, none⟩ (.int .u32 x.1.1)).setCell ⟨b, 1, none⟩ (.int .i64 x.1.2)).heap[b + 1]? = some (.cells (wayA r.1.2) 33 (0, 0)) := by
      rw [heap_setCell_other _ _ _ _ (by show b + 1 ≠ b; omega), heap_setCell_other _ _ _ _ (by show b + 1 ≠ b; omega)]; exact h2
    generalize (w.setCell ⟨b, 0, none⟩ (.int .u32 x.1.1)).setCell ⟨b, 1, none⟩ (.int .i64 x.1.2) = wz at *
    simp only [putRow, Array.getElem?_modify, if_true, h2', Option.map_some, wayA_toList, List.take_zero, List.nil_append, Nat.zero_add]
    rw [List.drop_eq_nil_of_le (by rw [wayCells_length, wayCells_length]; omega), List.append_nil]
    rfl
  · have h3' : (putRow ((w.setCell ⟨b, 0, none⟩ (.int .u32 x.1.1)).setCell ⟨b, 1, none⟩ (.int .i64 x.1.2)) ⟨b + 1, 0, none⟩ (wayCells x.2)).heap[b + 1 + 1]? = some (.cells #[.bool r.2] 4 (0, 0)) := by
      rw [heap_putRow_far _ _ _ (by show b + 1 + 1 ≠ b + 1; omega), heap_setCell_other _ _ _ _ (by show b + 1 + 1 ≠ b; omega), heap_setCell_other _ _ _ _ (by show b + 1 + 1 ≠ b; omega)]; exact h3
    rw [heap_setCell_same _ _ _ _ _ _ h3']
    rfl
def mbW (b : Nat) (x : Pf × Way) (is : Bool) (w : World) : World := (putRow ((w.setCell ⟨b, 0, none⟩ (.int .u32 x.1.1)).setCell ⟨b, 1, none⟩ (.int .i64 x.1.2)) ⟨b + 1, 0, none⟩ (wayCells x.2)).setCell ⟨b + 1 + 1, 0, none⟩ (.bool is)
theorem mbW_far (b : Nat) (x : Pf × Way) (is : Bool) (w : World) (k : Nat) (h : k ≠ b ∧ k ≠ b + 1 ∧ k ≠ b + 1 + 1) : (mbW b x is w).heap[k]? = w.heap[k]? := by
  unfold mbW
  rw [heap_setCell_other _ _ _ _ (by show k ≠ b + 1 + 1; omega), heap_putRow_far _ _ _ (by show k ≠ b + 1; omega), heap_setCell_other _ _ _ _ (by show k ≠ b; omega), heap_setCell_other _ _ _ _ (by show k ≠ b; omega)]
theorem mbW_size (b : Nat) (x : Pf × Way) (is : Bool) (w : World) : (mbW b x is w).heap.size = w.heap.size := by
  unfold mbW; simp [size_putRow]
theorem mbW_below {B b : Nat} (x : Pf × Way) (is : Bool) {u w : World} (h : Below B u w) (hb : B ≤ b) : Below B u (mbW b x is w) := by
  unfold mbW
  exact (below_putRow ((h.setCell (show B ≤ b from hb) _).setCell (show B ≤ b from hb) _) (show B ≤ b + 1 by omega) _).setCell (show B ≤ b + 1 + 1 by omega) _
theorem match_any (T : Tr) (a : Nat) (base tb lim n : Nat) (w : World) (hT : Trie w base tb T lim n) (hW : T.WF) (ha : a < 4294967296) :
    Calls Try.prog 34 #[.pointer (some ⟨tb, 0, none⟩), .int .u32 a] w fun e w' => Below w.heap.size w w' ∧ e = .returned (.tuple #[.agg (pfA (lastE (T.path a)).1.1), .agg (wayA (lastE (T.path a)).1.2), .bool (lastE (T.path a)).2]) := by
  have HC := fun w' h => Lib.hid (covers_any T a base tb lim n w' h hW ha)
  have HT := Lib.hid hT
  have HPL := Lib.hid (Tr.path_len ha hW hT.okp)
  clear hT hW
  rw [← callsIn_wide (n := 10)]
  refine callsIn_of_wp_marks Try.func34 rfl trivial ?_ rfl
  simp only [Try.ntmps34, List.size_toArray, List.length_cons, List.length_nil, Nat.reduceAdd, Nat.reduceSub, Array.replicate_succ, Array.replicate_zero, List.push_toArray, List.append_toArray, List.nil_append, List.cons_append]
  gi_wp2
  have hT0 := HT.out.below ((((Below.refl _ w).alloc (Nat.le_refl _) (.cells #[.int .u32 0, .int .i64 0] 25)).alloc (by simp) (.cells (wayA zWay) 33)).alloc (by simp; omega) (.cells #[.bool false] 4))
  refine ⟨trivial, callsIn_wide.2 ((HC _ hT0).out.mono ?_)⟩
  have hsz : (((w.alloc (.cells #[.int .u32 0, .int .i64 0] 25)).alloc (.cells (wayA zWay) 33)).alloc (.cells #[.bool false] 4)).heap.size = w.heap.size + 3 := by simp
  have hMB : MB w.heap.size (lastE []) (((w.alloc (.cells #[.int .u32 0, .int .i64 0] 25)).alloc (.cells (wayA zWay) 33)).alloc (.cells #[.bool false] 4)) := by
    refine ⟨(Below.heap_alloc _ _ _ (by simp; omega)).trans ((Below.heap_alloc _ _ _ (by simp)).trans (heap_alloc_at _ _ _ rfl)), (Below.heap_alloc _ _ _ (by simp)).trans (heap_alloc_at _ _ _ (by simp)), heap_alloc_at _ _ _ (by simp)⟩
  have hB0 : Below w.heap.size w (((w.alloc (.cells #[.int .u32 0, .int .i64 0] 25)).alloc (.cells (wayA zWay) 33)).alloc (.cells #[.bool false] 4)) := (((Below.refl _ w).alloc (Nat.le_refl _) _).alloc (by simp) _).alloc (by simp; omega) _
  clear hT0
  generalize ((w.alloc (.cells #[.int .u32 0, .int .i64 0] 25)).alloc (.cells (wayA zWay) 33)).alloc (.cells #[.bool false] 4) = w3 at *
  rintro e w1 ⟨hb1, B, v, rfl, hB, hv, hrow⟩
  gi_wp2
  have hs1 := hb1.size
  have hB1 : Below w.heap.size w w1 := hB0.trans (hb1.mono (by omega))
  have hS1 := EntS.of_own hrow
  have hBlt : B < w1.heap.size := World.block_lt_of_cell? w1 _ hv
  have hM1 : MB w.heap.size (lastE []) w1 := ⟨(hb1.block _ (by omega)).trans hMB.1, (hb1.block _ (by omega)).trans hMB.2.1, (hb1.block _ (by omega)).trans hMB.2.2⟩
  clear hrow hMB HC HT hB0
  refine wpIn_rangeFunc_ownH rfl (by omega) (gf := 69) (lb := #[.pointer (some ⟨B, 0, none⟩)]) rfl trivial (enters_of Try.func69 (by kernel_rfl) rfl)
    (over_stops Fence.wide 9 trivial rfl (by omega) B w3.heap.size w1.heap.size v (T.path a) (by have := HPL.out; omega) w1 hBlt (Nat.le_refl _) hv hS1) Mid.trans (midK_b (Nat.le_refl _)) (Below.refl _ _) (fun _ => rfl)
    (fun pre W => (MB w.heap.size (lastE pre) W ∧ Below w.heap.size w W) ∧ w1.heap.size ≤ W.heap.size)
    (fun _ _ _ => False)
    (OwnFrom.and (OwnFrom.and (Own.from (fun s X Y row hs hg hr => ⟨blk_kept hs.1 rfl hg hr, blk_kept hs.2.1 rfl hg hr, blk_kept hs.2.2 rfl hg hr⟩) _) (ownFrom_below (Nat.le_refl _) (by omega))) (fun s X Y row hs hg hr => Nat.le_trans hs hg.size))
    (fun _ _ _ _ _ hs _ _ => hs)
    ⟨⟨hM1, hB1⟩, Nat.le_refl _⟩
    (fun x a' W => ∃ Bx, w1.heap.size ≤ Bx ∧ W.heap[Bx]? = some (.cells (pfA x.1) 25 (0, 0)) ∧ W.heap[Bx + 1]? = some (.cells (wayA x.2) 33 (0, 0)) ∧ a' = { tmps := #[.pointer (some ⟨tb, 0, none⟩), .int .u32 a, undef, undef, .pointer (some ⟨w.heap.size, 0, none⟩), .pointer (some ⟨w.heap.size + 1, 0, none⟩), .pointer (some ⟨w.heap.size + 1 + 1, 0, none⟩), .pointer (some ⟨Bx, 0, none⟩), .pointer (some ⟨Bx + 1, 0, none⟩), .pointer (some ⟨tb, 0, none⟩), .int .u32 a, .func (.func 69) #[] #[.pointer (some ⟨B, 0, none⟩)], .agg #[.int .u32 x.1.1, .int .i64 x.1.2], .agg (wayA x.2), undef, undef, undef, undef, undef], defers := [] })
    (fun x a' _ X Y row hs hg hr => by obtain ⟨Bx, h1, h2, h3, h4⟩ := hs; exact ⟨Bx, h1, blk_kept h2 rfl hg (fun r e => (hr r e).2), blk_kept h3 rfl hg (fun r e => (hr r e).2), h4⟩)
    ?assign ?body ?done ?stop
  case assign =>
    rintro l pre x W K ⟨⟨hM, hBW⟩, hle⟩ hK
    gi_wp2
    rw [putRow_alloc_at _ _ _ _ (by simp) (by rw [wayCells_length, wayA_size])]
    have hsW := hBW.size
    exact hK _ _ (((KeepsOthers.alloc _ _).trans (KeepsOthers.alloc _ _)).from _) (((Mid.refl _ _ _).alloc hle _).alloc (by simp; omega) _) ⟨⟨⟨(Below.heap_alloc _ _ _ (by simp; omega)).trans ((Below.heap_alloc _ _ _ (by omega)).trans hM.1), (Below.heap_alloc _ _ _ (by simp; omega)).trans ((Below.heap_alloc _ _ _ (by omega)).trans hM.2.1), (Below.heap_alloc _ _ _ (by simp; omega)).trans ((Below.heap_alloc _ _ _ (by omega)).trans hM.2.2)⟩, (hBW.alloc hsW _).alloc (by simp; omega) _⟩, by simp; omega⟩ ⟨W.heap.size, hle, (Below.heap_alloc _ _ _ (by simp)).trans (heap_alloc_at _ _ _ rfl), heap_alloc_at _ _ _ (by simp), rfl⟩
  case body =>
    rintro l pre x a' W hl ⟨r, hr⟩ ⟨⟨hM, hBW⟩, hle⟩ ⟨Bx, hBx, hX1, hX2, rfl⟩ hlt
    have x0 : W.cell? ⟨Bx, 0, none⟩ = some (.int .u32 x.1.1) := by simp [World.cell?, hX1, pfA]
    have x1 : W.cell? ⟨Bx, 1, none⟩ = some (.int .i64 x.1.2) := by simp [World.cell?, hX1, pfA]
    have x2 := WayAt.row hX2
    obtain ⟨m0, m1, m2, m3, f0, f1, f2, f3⟩ := hM.cells
    have HM := Lib.hid hM
    have HX1 := Lib.hid hX1
    have HX2 := Lib.hid hX2
    clear hM hX1 hX2 hr
    have n1 : w.heap.size < Bx + 1 := by omega
    have n2 : w.heap.size < Bx := by omega
    gi_wp2
    gi_region
    all_goals
      gi_wp2
      exact ⟨⟨by rw [World.size_drew, ← mbW, mbW_size]; exact Nat.le_refl _, fun k o hk ho _ => (mbW_far _ x true W k (by omega)).trans ho⟩, ⟨by rw [World.size_drew, ← mbW, mbW_size]; exact Nat.le_refl _, fun k h1 _ => mbW_far _ x true W k (by omega)⟩, ⟨by rw [lastE_snoc]; exact HM.out.set x true, (mbW_below x true hBW (Nat.le_refl _)).drew⟩, by rw [World.size_drew, ← mbW, mbW_size]; exact hle⟩
  case done =>
    rintro D ys W hD rfl ⟨⟨hM, hBW⟩, hle⟩ hK
    obtain ⟨m0, m1, m2, m3, f0, f1, f2, f3⟩ := hM.cells
    have HM := Lib.hid hM
    clear hM
    obtain ⟨r, hr⟩ : ∃ r, lastE (T.path a) = r := ⟨_, rfl⟩
    rw [hr] at m0 m1 m2 m3 HM
    have HR := Lib.hid hr
    have HK := Lib.hid hK
    clear hr hK
    gi_wp2
    gi_region
    all_goals
      gi_wp2
      rw [HR.out]
      have hK' : (mbW w.heap.size r.1 r.2 W).drew.heap[D]? = some (.deferred (some [])) := (mbW_far _ r.1 r.2 W D (by omega)).trans HK.out
      have hM' : MB w.heap.size r ((mbW w.heap.size r.1 r.2 W).drew.putObj D (.deferred none)) := by
        obtain ⟨q1, q2, q3⟩ := HM.out.set r.1 r.2
        exact ⟨(World.putObj_heap_other (by omega)).trans q1, (World.putObj_heap_other (by omega)).trans q2, (World.putObj_heap_other (by omega)).trans q3⟩
      obtain ⟨m0, m1, m2, m3, -⟩ := hM'.cells
      refine ⟨by simp, .inl ⟨_, _, rfl, run_takeDeferred hK', ?_⟩⟩
      refine ⟨_, results_rows3 Try.results34 _ _ ⟨w.heap.size, 0, none⟩ ⟨w.heap.size + 1, 0, none⟩ ⟨w.heap.size + 1 + 1, 0, none⟩ rfl rfl rfl (load25 m0 m1) (load33 m2) (load4 m3), ?_, rfl⟩
      exact (mbW_below r.1 r.2 hBW (Nat.le_refl _)).drew.trans (belowK_b (w := w) (Nat.le_refl _) (mbW w.heap.size r.1 r.2 W).drew D _ _ (by omega) hK' rfl rfl)
  case stop =>
    rintro D c pre W hD hSp h
    exact h.elim
end Go.Proofs.Ytbcekjbckeljmaa
