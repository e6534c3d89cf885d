/- The walks of fib's Lookup and Pick, and of the law's num and ten. -/
import Derived.Test.YtbcekjbckeljmaaNw
set_option linter.unusedVariables false
set_option linter.unusedSimpArgs false
namespace Go.Proofs.Ytbcekjbckeljmaa
open Go.RowKit Px
set_option maxHeartbeats 1000000
set_option maxRecDepth 10000
attribute [local go_sem high] eql47 neq47 loadRow_way loadRow_arr wayA_back arrA_back
attribute [local go_sem low] loadRowOf_some
attribute [local go_sem ↓] load54 store54 alloc54 load52 store52 alloc52 build180 build185
attribute [local go_sem] rload54 rstore54 rload52 rstore52 ralloc54 ralloc52 rbuild180 rbuild185 rfork180
attribute [local go_sem] size_drewN rowAt_alloc_past rowAt_alloc_at rowAt_drew rowAt_drewN thawed_alloc_past thawed_alloc_at thawed_drew thawed_drewN okCells_way storeRowOf_some putRow_drew putRow_drewN putRow_alloc_past putRow_alloc_at wayA_size wayA_toList cells_way arrA_toList cells_arr
attribute [local go_sem] thawed_setCell rowAt_setCell_lt rowAt_setCell_gt cell?_putRow_lt cell?_putRow_gt frozen?_putRow_lt frozen?_putRow_gt

theorem num_any (n : Int) (w : World) : Calls Try.prog 11 #[.int .i64 n] w fun e w' => e = .returned (.int .i64 n) ∧ w = w' := by
  go_enter Try.func11, Try.ntmps11
  go_wp2
  go_ret
  exact ⟨rfl, rfl⟩
theorem fthere_yes (fb tb : Nat) (w : World) (h : w.cell? ⟨fb, 0, none⟩ = some (.pointer (some ⟨tb, 0, none⟩))) :
    Calls Try.prog 33 #[.pointer (some ⟨fb, 0, none⟩)] w fun e w' => e = .returned (.bool true) ∧ w = w' := by
  go_enter Try.func33, Try.ntmps33
  go_wp2
  go_ret
  exact ⟨rfl, rfl⟩
theorem fthere_zero (fb : Nat) (w : World) (h : w.cell? ⟨fb, 0, none⟩ = some (.pointer none)) :
    Calls Try.prog 33 #[.pointer (some ⟨fb, 0, none⟩)] w fun e w' => e = .returned (.bool false) ∧ w = w' := by
  go_enter Try.func33, Try.ntmps33
  go_wp2
  go_ret
  exact ⟨rfl, rfl⟩
theorem fthere_nil (w : World) :
    Calls Try.prog 33 #[.pointer none] w fun e w' => e = .returned (.bool false) ∧ w = w' := by
  go_enter Try.func33, Try.ntmps33
  go_wp2
  go_ret
  exact ⟨rfl, rfl⟩
theorem ten_any (b : Nat) (n : Int) (w : World) (hb : b < 256) :
    Calls Try.prog 22 #[.int .u32 b, .int .i64 n] w fun e w' => e = .returned (.agg #[.int .u32 ((167772160 + b * 65536 : Nat) : Int), .int .i64 n]) ∧ Below w.heap.size w w' := by
  go_enter Try.func22, Try.ntmps22
  go_wp2
  have e : (167772160 + (b : Int) * 65536) = ((167772160 + b * 65536 : Nat) : Int) := by omega
  refine bodyPost_ret (results_row Try.results22 _ _ _ rfl (load25 (World.cell?_alloc_at _ _ _ 0 rfl) (World.cell?_alloc_at _ _ _ 1 rfl))) rfl ⟨by rw [e]; rfl, (Below.refl _ _).alloc (Nat.le_refl _) _⟩
theorem pfA_lit (p : Pf) : pfA p = #[.int .u32 p.1, .int .i64 p.2] := rfl
attribute [local go_sem] pfA_lit
/-- what Lookup gives -/
def lkE (T : Tr) (a : Nat) : (Pf × Way) × Bool := lastE (T.path a)
theorem lookup_any (T : Tr) (a : Nat) (base fb tb lim n : Nat) (w : World) (hf : w.cell? ⟨fb, 0, none⟩ = some (.pointer (some ⟨tb, 0, none⟩))) (hT : Trie w base tb T lim n) (hW : T.WF) (ha : a < 4294967296) :
    Calls Try.prog 15 #[.pointer (some ⟨fb, 0, none⟩), .int .u32 a] w fun e w' => e = .returned (.tuple #[.agg (pfA (lkE T a).1.1), .agg (wayA (lkE T a).1.2), .bool (lkE T a).2]) ∧ Below w.heap.size w w' := by
  have HM := fun w' h => Lib.hid (match_any T a base tb lim n w' h hW ha)
  obtain ⟨r, hr⟩ : ∃ r, lastE (T.path a) = r := ⟨_, rfl⟩
  rw [hr] at HM
  have HR := Lib.hid hr
  clear hr
  have HT := Lib.hid hT
  have hlt : fb < w.heap.size := World.block_lt_of_cell? w _ hf
  have h0 : ((w.alloc (.cells #[.int .u32 0, .int .i64 0] 25)).alloc (.cells (wayA zWay) 33)).cell? ⟨fb, 0, none⟩ = some (.pointer (some ⟨tb, 0, none⟩)) := by
    rw [World.cell?_alloc_past _ _ _ (by simp; omega), World.cell?_alloc_past _ _ _ hlt]; exact hf
  clear hT hf hW
  go_enter Try.func15, Try.ntmps15
  go_wp2_with fail
  refine (fthere_yes fb tb _ h0).mono ?_
  rintro e w' ⟨rfl, rfl⟩
  go_wp2_with fail
  have hB0 : Below w.heap.size w ((w.alloc (.cells #[.int .u32 0, .int .i64 0] 25)).alloc (.cells (wayA zWay) 33)) := ((Below.refl _ w).alloc (Nat.le_refl _) _).alloc (by simp) _
  have hW4 : ((w.alloc (.cells #[.int .u32 0, .int .i64 0] 25)).alloc (.cells (wayA zWay) 33)).heap[w.heap.size]? = some (.cells #[.int .u32 0, .int .i64 0] 25 (0, 0)) := (Below.heap_alloc _ _ _ (by simp)).trans (heap_alloc_at _ _ _ rfl)
  have hW5 : WayAt ((w.alloc (.cells #[.int .u32 0, .int .i64 0] 25)).alloc (.cells (wayA zWay) 33)) (w.heap.size + 1) zWay := heap_alloc_at _ _ _ (by simp)
  have hsz : ((w.alloc (.cells #[.int .u32 0, .int .i64 0] 25)).alloc (.cells (wayA zWay) 33)).heap.size = w.heap.size + 2 := by simp
  have hT2 := HT.out.below hB0
  clear h0
  generalize (w.alloc (.cells #[.int .u32 0, .int .i64 0] 25)).alloc (.cells (wayA zWay) 33) = w2 at *
  refine (HM _ hT2).out.mono ?_
  clear hT2
  rintro e w3 ⟨hb, rfl⟩
  have hb4 := (hb.block w.heap.size (by omega)).trans hW4
  have hb5 := hW5.below hb
  have HB := Lib.hid (hB0.trans (hb.mono (by omega)))
  have m0 : w3.cell? ⟨w.heap.size, 0, none⟩ = some (.int .u32 0) := by simp [World.cell?, hb4]
  have m1 : w3.cell? ⟨w.heap.size, 1, none⟩ = some (.int .i64 0) := by simp [World.cell?, hb4]
  have f0 : w3.frozen? ⟨w.heap.size, 0, none⟩ = false := by simp [World.frozen?, hb4]
  have f1 : w3.frozen? ⟨w.heap.size, 1, none⟩ = false := by simp [World.frozen?, hb4]
  have m2 := hb5.row
  have f2 := hb5.thaw
  have hl3 : w.heap.size + 1 < w3.heap.size := by have := hb.size; omega
  clear hb hb4 hb5 hB0 hW4 hW5 hsz
  obtain ⟨⟨⟨pa, pl⟩, v⟩, is⟩ := r
  go_wp2
  refine bodyPost_ret (results_rows2_tmp Try.results15 _ _ ⟨w.heap.size, 0, none⟩ ⟨w.heap.size + 1, 0, none⟩ rfl rfl (load25 (u := .int .u32 pa) (v := .int .i64 pl) ?_ ?_) (load33 (v := v) ?_)) rfl ⟨by unfold lkE; rw [HR.out]; rfl, below_putRow ((HB.out.setCell (by show w.heap.size ≤ w.heap.size; omega) _).setCell (by show w.heap.size ≤ w.heap.size; omega) _) (by show w.heap.size ≤ w.heap.size + 1; omega) _⟩
  · rw [cell?_putRow_gt _ _ _ _ (by show w.heap.size < w.heap.size + 1; omega), World.cell?_setCell_other _ _ _ _ (by intro e; simp at e)]
    exact World.cell?_setCell_same _ _ _ m0
  · rw [cell?_putRow_gt _ _ _ _ (by show w.heap.size < w.heap.size + 1; omega)]
    exact World.cell?_setCell_same _ _ _ ((World.cell?_setCell_other _ _ _ _ (by intro e; simp at e)).trans m1)
  · refine rowAt_putRow_same _ _ _ (wayCells zWay) _ ?_ (wayCells_length _)
    rw [rowAt_setCell_far _ _ _ _ _ (by show w.heap.size + 1 ≠ w.heap.size; omega), rowAt_setCell_far _ _ _ _ _ (by show w.heap.size + 1 ≠ w.heap.size; omega)]
    exact m2
theorem WayAt.range {w : World} {B : Nat} {v : Way} (h : WayAt w B v) : w.rangeAt B 1 (arrCells v.b) := by
  intro j u hu
  unfold WayAt at h
  rw [Nat.add_comm]
  have e : (wayA v)[j + 1]? = some u := by
    rw [← Array.getElem?_toList, wayA_toList]
    simpa [wayCells] using hu
  simpa [World.cell?, h] using e
theorem fpick_any (T : Tr) (a h : Nat) (base fb tb lim n : Nat) (w : World) (hf : w.cell? ⟨fb, 0, none⟩ = some (.pointer (some ⟨tb, 0, none⟩))) (hT : Trie w base tb T lim n) (hW : T.WF) (ha : a < 4294967296) (hh : h < 4294967296) :
    Calls Try.prog 19 #[.pointer (some ⟨fb, 0, none⟩), .int .u32 a, .int .u32 h] w fun e w' => e = .returned (.tuple #[.int .i64 (lkE T a).1.2.k, .int .i64 ((lkE T a).1.2.b.getD (h % 256) 0)]) ∧ Below w.heap.size w w' := by
  have HL := Lib.hid (lookup_any T a base fb tb lim n w hf hT hW ha)
  have hz : (lkE T a).2 = false → (lkE T a).1.2 = zWay := by
    unfold lkE lastE
    split <;> simp
  generalize lkE T a = r at *
  clear hf hT hW
  have HZ := Lib.hid hz
  clear hz
  obtain ⟨⟨⟨pa, pl⟩, v⟩, is⟩ := r
  simp only [] at HL HZ
  have HP := fun w => Lib.hid (pick_any v.b v.hb h hh w)
  go_enter Try.func19, Try.ntmps19
  go_wp2_with fail
  refine HL.out.mono ?_
  rintro e w1 ⟨rfl, hb⟩
  cases is with
  | false =>
    have hv := HZ.out rfl
    subst hv
    go_wp2
    go_ret2
    refine ⟨?_, below_putRow ((hb.alloc hb.size _).alloc (by have := hb.size; simp; omega) _) (by have := hb.size; show _ ≤ w1.heap.size + 1; omega) _⟩
    have e : zWay.b.getD (h % 256) 0 = 0 := by
      have : zWay.b = List.replicate 256 0 := rfl
      rw [this, List.getD_eq_getElem?_getD, List.getElem?_replicate]
      split <;> rfl
    rw [e]; rfl
  | true =>
    clear HZ
    go_wp2
    have hsb := hb.size
    refine wp_gen (fun wx => Below w.heap.size w wx ∧ WayAt wx (w1.heap.size + 1) v) (by rw [putRow_alloc_at _ _ _ _ (by simp) (by rw [wayCells_length, wayA_size])]; exact ⟨(hb.alloc hb.size _).alloc (by simp; omega) _, heap_alloc_at _ _ _ (by simp)⟩) ?_
    rintro wx ⟨hbx, hwx⟩
    have K4 := Lib.hid (show ∀ w', Below wx.heap.size wx w' → w'.cell? ⟨w1.heap.size + 1, 0, none⟩ = some (.int .i64 v.k) ∧ w'.rangeAt (w1.heap.size + 1) 1 (arrCells v.b) from
      fun w' h => ⟨(hwx.below h).cell, (hwx.below h).range⟩)
    have HBX := Lib.hid hbx
    clear hb hbx hwx hsb
    obtain ⟨c0, c1⟩ := K4.out _ (Below.refl _ _)
    have hu := Try.underlying31
    have hi : (Try.prog.info? 31).map (·.size) = some (arrCells v.b).length := by rw [isz52, arrCells_length, v.hb]
    go_region_held3 (fun w' => w'.cell? ⟨w1.heap.size + 1, 0, none⟩ = some (.int .i64 v.k) ∧ w'.rangeAt (w1.heap.size + 1) 1 (arrCells v.b))
      (exact K4.out _ (by repeat (first | assumption | exact Below.refl _ _ | refine Below.drew ?_)))
      ((go_at_call 41; refine (HP _).out.mono ?_; rintro e w3 ⟨rfl, hb3⟩; have hB3 : Below wx.heap.size wx w3 := by first | exact hb3 | exact ((Below.refl _ wx).drew).trans hb3))
    all_goals
      go_wp2
      go_ret2
      exact ⟨rfl, HBX.out.trans ((show Below wx.heap.size wx _ by repeat (first | assumption | exact Below.refl _ _ | refine Below.drew ?_)).mono HBX.out.size)⟩
end Go.Proofs.Ytbcekjbckeljmaa
