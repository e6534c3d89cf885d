/- The walk of the trie's Get. -/
import Derived.Test.YtbcekjbckeljmaaTg
set_option linter.unusedVariables false
set_option linter.unusedSimpArgs false
namespace Go.Proofs.Ytbcekjbckeljmaa
open Go.RowKit Px
set_option maxHeartbeats 1000000
attribute [local go_sem high] eql47 neq47 loadRow_way loadRow_arr wayA_back arrA_back
attribute [local go_sem low] loadRowOf_some
attribute [local go_sem ↓] load54 store54 alloc54 load52 store52 alloc52 build180 build185
attribute [local go_sem] rload54 rstore54 rload52 rstore52 ralloc54 ralloc52 rbuild180 rbuild185 rfork180
attribute [local go_sem] size_drewN rowAt_alloc_past rowAt_alloc_at rowAt_drew rowAt_drewN thawed_alloc_past thawed_alloc_at thawed_drew thawed_drewN okCells_way storeRowOf_some putRow_drew putRow_drewN putRow_alloc_past putRow_alloc_at wayA_size wayA_toList cells_way arrA_toList cells_arr

theorem get_nil (T : Tr) (p : Pf) (base tb lim n : Nat) (w : World) (hT : Trie w base tb T lim n) (hp : ok p) (sb so : Nat) (hd : T.desc ⟨tb, 0, none⟩ p = (⟨sb, so, none⟩, .nil)) :
    Calls Try.prog 31 #[.pointer (some ⟨tb, 0, none⟩), .agg #[.int .u32 p.1, .int .i64 p.2]] w fun e w' => e = .returned (.tuple #[.agg (wayA zWay), .bool false]) ∧ Below w.heap.size w w' := by
  obtain ⟨c0, c1, c2, c3, fn, s0, fs, htb, hsb⟩ := hT.cells hd
  have HT := Lib.hid hT; have HP := Lib.hid hp; have HM := Lib.hid (may_ok hp); have HD := Lib.hid hd
  clear hT hp hd c0 c1 c2 fn s0 fs hsb
  go_enter Try.func31, Try.ntmps31
  go_wp2_with fail
  refine (there_any tb _ ?_).mono ?_
  · rw [World.cell?_alloc_past _ _ _ (by simp; omega), World.cell?_alloc_past _ _ _ htb]; exact c3
  rintro e w' ⟨rfl, rfl⟩
  go_wp2_with fail
  refine (may_any p.1 p.2 _ HP.out.1).mono ?_
  rw [HM.out]
  rintro e w1 ⟨rfl, hb1⟩
  clear c3
  have HB1 := Lib.hid (((Below.refl _ w).alloc (Nat.le_refl _) (.cells #[.int .u32 p.1, .int .i64 p.2] 25) |>.alloc (by simp) (.cells (wayA zWay) 33)).trans (hb1.mono (by simp; omega)))
  have HT1 := Lib.hid (HT.out.below HB1.out)
  have p0 := pw_cell (a := ⟨w.heap.size, 0, none⟩) (v := .int .u32 p.1) hb1 (by rw [World.cell?_alloc_past _ _ _ (by simp)]; exact World.cell?_alloc_at _ _ _ 0 rfl)
  have p1 := pw_cell (a := ⟨w.heap.size, 1, none⟩) (v := .int .i64 p.2) hb1 (by rw [World.cell?_alloc_past _ _ _ (by simp)]; exact World.cell?_alloc_at _ _ _ 1 rfl)
  have hrow : rowAt w1 ⟨w.heap.size + 1, 0, none⟩ 257 = some (wayCells zWay) := by
    rw [rowAt_below hb1 _ (by simp)]; exact rowAt_alloc_at _ _ _ _ (by simp) (wayA_size zWay).symm
  have hth : thawed w1 (w.heap.size + 1) = true := by
    rw [thawed_below hb1 (by simp)]; exact thawed_alloc_at _ _ _ (by simp)
  have hsz : w.heap.size + 1 < w1.heap.size := by have := hb1.size; simp at this; omega
  clear hb1
  go_wp2_with fail
  refine (place_any T p tb _ HT1.out.isin HT1.out.okp HP.out (HT1.out.cells HD.out).1).mono ?_
  rw [HD.out]
  rintro e w2 ⟨rfl, hb2⟩
  have HB2 := Lib.hid (HB1.out.trans (hb2.mono HB1.out.size))
  have HT2 := Lib.hid (HT1.out.below hb2)
  have p0 := pw_cell hb2 p0
  have p1 := pw_cell hb2 p1
  have hrow := (rowAt_below hb2 _ (show (⟨w.heap.size + 1, 0, none⟩ : Addr).block < w1.heap.size from hsz)).trans hrow
  have hth := (thawed_below hb2 hsz).trans hth
  have hr2 := fun v => rowAt_putRow_same _ _ _ _ (wayCells v) hrow (wayCells_length _)
  have HR2 := Lib.hid hr2
  clear hr2
  have hsz2 := Nat.lt_of_lt_of_le hsz hb2.size
  clear hb2 hsz
  obtain ⟨c0, c1, c2, c3, fn, s0, fs, htb, hsb⟩ := HT2.out.cells HD.out
  clear c0 c1 c2 c3 fn fs
  simp only [Tr.ptr] at s0
  go_wp2
  go_quiet (fail)
  go_wp2
  refine bodyPost_ret (v := .tuple #[.agg (wayA zWay), .bool false]) (results_row_tmp Try.results31 _ _ _ rfl (by rw [loadVar_row Try.underlying33 rfl isz54]; first | (rw [HR2.out]; rfl) | (rw [rowAt_drewN, HR2.out]; rfl))) rfl ⟨rfl, ?_⟩
  first | exact below_putRow HB2.out (by show w.heap.size ≤ w.heap.size + 1; omega) _ | exact (below_putRow HB2.out (by show w.heap.size ≤ w.heap.size + 1; omega) _).drewN _
theorem get_other (T : Tr) (p : Pf) (base tb lim n : Nat) (w : World) (hT : Trie w base tb T lim n) (hp : ok p) (sb so b : Nat) (q : Pf) (u : Way) (hv : Bool) (l r : Tr) (hd : T.desc ⟨tb, 0, none⟩ p = (⟨sb, so, none⟩, .node b q u hv l r)) (hq : q ≠ p) :
    Calls Try.prog 31 #[.pointer (some ⟨tb, 0, none⟩), .agg #[.int .u32 p.1, .int .i64 p.2]] w fun e w' => e = .returned (.tuple #[.agg (wayA zWay), .bool false]) ∧ Below w.heap.size w w' := by
  have hq1 := pxEq_no hq
  have HQ := Lib.hid hq
  clear hq
  obtain ⟨c0, c1, c2, c3, fn, s0, fs, htb, hsb⟩ := hT.cells hd
  have HT := Lib.hid hT; have HP := Lib.hid hp; have HM := Lib.hid (may_ok hp); have HD := Lib.hid hd
  clear hT hp hd c0 c1 c2 fn s0 fs hsb
  go_enter Try.func31, Try.ntmps31
  go_wp2_with fail
  refine (there_any tb _ ?_).mono ?_
  · rw [World.cell?_alloc_past _ _ _ (by simp; omega), World.cell?_alloc_past _ _ _ htb]; exact c3
  rintro e w' ⟨rfl, rfl⟩
  go_wp2_with fail
  refine (may_any p.1 p.2 _ HP.out.1).mono ?_
  rw [HM.out]
  rintro e w1 ⟨rfl, hb1⟩
  clear c3
  have HB1 := Lib.hid (((Below.refl _ w).alloc (Nat.le_refl _) (.cells #[.int .u32 p.1, .int .i64 p.2] 25) |>.alloc (by simp) (.cells (wayA zWay) 33)).trans (hb1.mono (by simp; omega)))
  have HT1 := Lib.hid (HT.out.below HB1.out)
  have p0 := pw_cell (a := ⟨w.heap.size, 0, none⟩) (v := .int .u32 p.1) hb1 (by rw [World.cell?_alloc_past _ _ _ (by simp)]; exact World.cell?_alloc_at _ _ _ 0 rfl)
  have p1 := pw_cell (a := ⟨w.heap.size, 1, none⟩) (v := .int .i64 p.2) hb1 (by rw [World.cell?_alloc_past _ _ _ (by simp)]; exact World.cell?_alloc_at _ _ _ 1 rfl)
  have hrow : rowAt w1 ⟨w.heap.size + 1, 0, none⟩ 257 = some (wayCells zWay) := by
    rw [rowAt_below hb1 _ (by simp)]; exact rowAt_alloc_at _ _ _ _ (by simp) (wayA_size zWay).symm
  have hth : thawed w1 (w.heap.size + 1) = true := by
    rw [thawed_below hb1 (by simp)]; exact thawed_alloc_at _ _ _ (by simp)
  have hsz : w.heap.size + 1 < w1.heap.size := by have := hb1.size; simp at this; omega
  clear hb1
  go_wp2_with fail
  refine (place_any T p tb _ HT1.out.isin HT1.out.okp HP.out (HT1.out.cells HD.out).1).mono ?_
  rw [HD.out]
  rintro e w2 ⟨rfl, hb2⟩
  have HB2 := Lib.hid (HB1.out.trans (hb2.mono HB1.out.size))
  have HT2 := Lib.hid (HT1.out.below hb2)
  have p0 := pw_cell hb2 p0
  have p1 := pw_cell hb2 p1
  have hrow := (rowAt_below hb2 _ (show (⟨w.heap.size + 1, 0, none⟩ : Addr).block < w1.heap.size from hsz)).trans hrow
  have hth := (thawed_below hb2 hsz).trans hth
  have hr2 := fun v => rowAt_putRow_same _ _ _ _ (wayCells v) hrow (wayCells_length _)
  have HR2 := Lib.hid hr2
  clear hr2
  have hsz2 := Nat.lt_of_lt_of_le hsz hb2.size
  clear hb2 hsz
  obtain ⟨c0, c1, c2, c3, fn, s0, fs, htb, hsb⟩ := HT2.out.cells HD.out
  clear c0 c1 c2 c3 fn fs
  obtain ⟨d0, d1, d2, dr, df, dt, db, dl⟩ := HT2.out.node HD.out
  clear dr df dt dl
  simp only [Tr.ptr] at s0
  go_wp2
  go_quiet (fail)
  go_wp2
  refine bodyPost_ret (v := .tuple #[.agg (wayA zWay), .bool false]) (results_row_tmp Try.results31 _ _ _ rfl (by rw [loadVar_row Try.underlying33 rfl isz54]; first | (rw [HR2.out]; rfl) | (rw [rowAt_drewN, HR2.out]; rfl))) rfl ⟨rfl, ?_⟩
  first | exact below_putRow HB2.out (by show w.heap.size ≤ w.heap.size + 1; omega) _ | exact (below_putRow HB2.out (by show w.heap.size ≤ w.heap.size + 1; omega) _).drewN _
theorem get_fork (T : Tr) (p : Pf) (base tb lim n : Nat) (w : World) (hT : Trie w base tb T lim n) (hp : ok p) (sb so b : Nat) (q : Pf) (u : Way) (l r : Tr) (hd : T.desc ⟨tb, 0, none⟩ p = (⟨sb, so, none⟩, .node b q u false l r)) (hq : q = p) :
    Calls Try.prog 31 #[.pointer (some ⟨tb, 0, none⟩), .agg #[.int .u32 p.1, .int .i64 p.2]] w fun e w' => e = .returned (.tuple #[.agg (wayA zWay), .bool false]) ∧ Below w.heap.size w w' := by
  have hq1 := pxEq_yes hq
  have HQ := Lib.hid hq
  clear hq
  obtain ⟨c0, c1, c2, c3, fn, s0, fs, htb, hsb⟩ := hT.cells hd
  have HT := Lib.hid hT; have HP := Lib.hid hp; have HM := Lib.hid (may_ok hp); have HD := Lib.hid hd
  clear hT hp hd c0 c1 c2 fn s0 fs hsb
  go_enter Try.func31, Try.ntmps31
  go_wp2_with fail
  refine (there_any tb _ ?_).mono ?_
  · rw [World.cell?_alloc_past _ _ _ (by simp; omega), World.cell?_alloc_past _ _ _ htb]; exact c3
  rintro e w' ⟨rfl, rfl⟩
  go_wp2_with fail
  refine (may_any p.1 p.2 _ HP.out.1).mono ?_
  rw [HM.out]
  rintro e w1 ⟨rfl, hb1⟩
  clear c3
  have HB1 := Lib.hid (((Below.refl _ w).alloc (Nat.le_refl _) (.cells #[.int .u32 p.1, .int .i64 p.2] 25) |>.alloc (by simp) (.cells (wayA zWay) 33)).trans (hb1.mono (by simp; omega)))
  have HT1 := Lib.hid (HT.out.below HB1.out)
  have p0 := pw_cell (a := ⟨w.heap.size, 0, none⟩) (v := .int .u32 p.1) hb1 (by rw [World.cell?_alloc_past _ _ _ (by simp)]; exact World.cell?_alloc_at _ _ _ 0 rfl)
  have p1 := pw_cell (a := ⟨w.heap.size, 1, none⟩) (v := .int .i64 p.2) hb1 (by rw [World.cell?_alloc_past _ _ _ (by simp)]; exact World.cell?_alloc_at _ _ _ 1 rfl)
  have hrow : rowAt w1 ⟨w.heap.size + 1, 0, none⟩ 257 = some (wayCells zWay) := by
    rw [rowAt_below hb1 _ (by simp)]; exact rowAt_alloc_at _ _ _ _ (by simp) (wayA_size zWay).symm
  have hth : thawed w1 (w.heap.size + 1) = true := by
    rw [thawed_below hb1 (by simp)]; exact thawed_alloc_at _ _ _ (by simp)
  have hsz : w.heap.size + 1 < w1.heap.size := by have := hb1.size; simp at this; omega
  clear hb1
  go_wp2_with fail
  refine (place_any T p tb _ HT1.out.isin HT1.out.okp HP.out (HT1.out.cells HD.out).1).mono ?_
  rw [HD.out]
  rintro e w2 ⟨rfl, hb2⟩
  have HB2 := Lib.hid (HB1.out.trans (hb2.mono HB1.out.size))
  have HT2 := Lib.hid (HT1.out.below hb2)
  have p0 := pw_cell hb2 p0
  have p1 := pw_cell hb2 p1
  have hrow := (rowAt_below hb2 _ (show (⟨w.heap.size + 1, 0, none⟩ : Addr).block < w1.heap.size from hsz)).trans hrow
  have hth := (thawed_below hb2 hsz).trans hth
  have hr2 := fun v => rowAt_putRow_same _ _ _ _ (wayCells v) hrow (wayCells_length _)
  have HR2 := Lib.hid hr2
  clear hr2
  have hsz2 := Nat.lt_of_lt_of_le hsz hb2.size
  clear hb2 hsz
  obtain ⟨c0, c1, c2, c3, fn, s0, fs, htb, hsb⟩ := HT2.out.cells HD.out
  clear c0 c1 c2 c3 fn fs
  obtain ⟨d0, d1, d2, dr, df, dt, db, dl⟩ := HT2.out.node HD.out
  clear dr df dt dl
  simp only [Tr.ptr] at s0
  go_wp2
  go_quiet (fail)
  go_wp2
  refine bodyPost_ret (v := .tuple #[.agg (wayA zWay), .bool false]) (results_row_tmp Try.results31 _ _ _ rfl (by rw [loadVar_row Try.underlying33 rfl isz54]; first | (rw [HR2.out]; rfl) | (rw [rowAt_drewN, HR2.out]; rfl))) rfl ⟨rfl, ?_⟩
  first | exact below_putRow HB2.out (by show w.heap.size ≤ w.heap.size + 1; omega) _ | exact (below_putRow HB2.out (by show w.heap.size ≤ w.heap.size + 1; omega) _).drewN _
theorem get_yes (T : Tr) (p : Pf) (base tb lim n : Nat) (w : World) (hT : Trie w base tb T lim n) (hp : ok p) (sb so b : Nat) (q : Pf) (u : Way) (l r : Tr) (hd : T.desc ⟨tb, 0, none⟩ p = (⟨sb, so, none⟩, .node b q u true l r)) (hq : q = p) :
    Calls Try.prog 31 #[.pointer (some ⟨tb, 0, none⟩), .agg #[.int .u32 p.1, .int .i64 p.2]] w fun e w' => e = .returned (.tuple #[.agg (wayA u), .bool true]) ∧ Below w.heap.size w w' := by
  have hq1 := pxEq_yes hq
  have HQ := Lib.hid hq
  clear hq
  obtain ⟨c0, c1, c2, c3, fn, s0, fs, htb, hsb⟩ := hT.cells hd
  have HT := Lib.hid hT; have HP := Lib.hid hp; have HM := Lib.hid (may_ok hp); have HD := Lib.hid hd
  clear hT hp hd c0 c1 c2 fn s0 fs hsb
  go_enter Try.func31, Try.ntmps31
  go_wp2_with fail
  refine (there_any tb _ ?_).mono ?_
  · rw [World.cell?_alloc_past _ _ _ (by simp; omega), World.cell?_alloc_past _ _ _ htb]; exact c3
  rintro e w' ⟨rfl, rfl⟩
  go_wp2_with fail
  refine (may_any p.1 p.2 _ HP.out.1).mono ?_
  rw [HM.out]
  rintro e w1 ⟨rfl, hb1⟩
  clear c3
  have HB1 := Lib.hid (((Below.refl _ w).alloc (Nat.le_refl _) (.cells #[.int .u32 p.1, .int .i64 p.2] 25) |>.alloc (by simp) (.cells (wayA zWay) 33)).trans (hb1.mono (by simp; omega)))
  have HT1 := Lib.hid (HT.out.below HB1.out)
  have p0 := pw_cell (a := ⟨w.heap.size, 0, none⟩) (v := .int .u32 p.1) hb1 (by rw [World.cell?_alloc_past _ _ _ (by simp)]; exact World.cell?_alloc_at _ _ _ 0 rfl)
  have p1 := pw_cell (a := ⟨w.heap.size, 1, none⟩) (v := .int .i64 p.2) hb1 (by rw [World.cell?_alloc_past _ _ _ (by simp)]; exact World.cell?_alloc_at _ _ _ 1 rfl)
  have hrow : rowAt w1 ⟨w.heap.size + 1, 0, none⟩ 257 = some (wayCells zWay) := by
    rw [rowAt_below hb1 _ (by simp)]; exact rowAt_alloc_at _ _ _ _ (by simp) (wayA_size zWay).symm
  have hth : thawed w1 (w.heap.size + 1) = true := by
    rw [thawed_below hb1 (by simp)]; exact thawed_alloc_at _ _ _ (by simp)
  have hsz : w.heap.size + 1 < w1.heap.size := by have := hb1.size; simp at this; omega
  clear hb1
  go_wp2_with fail
  refine (place_any T p tb _ HT1.out.isin HT1.out.okp HP.out (HT1.out.cells HD.out).1).mono ?_
  rw [HD.out]
  rintro e w2 ⟨rfl, hb2⟩
  have HB2 := Lib.hid (HB1.out.trans (hb2.mono HB1.out.size))
  have HT2 := Lib.hid (HT1.out.below hb2)
  have p0 := pw_cell hb2 p0
  have p1 := pw_cell hb2 p1
  have hrow := (rowAt_below hb2 _ (show (⟨w.heap.size + 1, 0, none⟩ : Addr).block < w1.heap.size from hsz)).trans hrow
  have hth := (thawed_below hb2 hsz).trans hth
  have hr2 := fun v => rowAt_putRow_same _ _ _ _ (wayCells v) hrow (wayCells_length _)
  have HR2 := Lib.hid hr2
  clear hr2
  have hsz2 := Nat.lt_of_lt_of_le hsz hb2.size
  clear hb2 hsz
  obtain ⟨c0, c1, c2, c3, fn, s0, fs, htb, hsb⟩ := HT2.out.cells HD.out
  clear c0 c1 c2 c3 fn fs
  obtain ⟨d0, d1, d2, dr, df, dt, db, dl⟩ := HT2.out.node HD.out
  clear df dt dl
  simp only [Tr.ptr] at s0
  go_wp2
  go_quiet (fail)
  go_wp2
  refine bodyPost_ret (v := .tuple #[.agg (wayA u), .bool true]) (results_row_tmp Try.results31 _ _ _ rfl (by rw [loadVar_row Try.underlying33 rfl isz54]; first | (rw [HR2.out]; rfl) | (rw [rowAt_drewN, HR2.out]; rfl))) rfl ⟨rfl, ?_⟩
  first | exact below_putRow HB2.out (by show w.heap.size ≤ w.heap.size + 1; omega) _ | exact (below_putRow HB2.out (by show w.heap.size ≤ w.heap.size + 1; omega) _).drewN _
namespace Tr
theorem desc_find {p : Pf} {u : Way} : ∀ {T : Tr} {s : Addr}, T.WF → (p, u) ∈ T.ents → ∃ b l r, (desc s T p).2 = node b p u true l r
  | nil, s, _, h => by simp [ents] at h
  | node b q v h l r, s, hW, he => by
    by_cases e : q = p
    · subst e
      have hl : ∀ x : Way, (q, x) ∉ l.ents := fun x hx => (hW.1 _ (ents_keys hx)).2.1 rfl
      have hr : ∀ x : Way, (q, x) ∉ r.ents := fun x hx => (hW.2.1 _ (ents_keys hx)).2.1 rfl
      simp only [ents, List.mem_append] at he
      rcases he with he | he | he
      · split at he
        · rename_i hh
          simp at he
          subst he
          exact ⟨b, l, r, by simp [desc, hh]⟩
        · simp at he
      · exact absurd he (hl u)
      · exact absurd he (hr u)
    · have hcase : (cov q p ∧ bit p.1 q.2 = 0 ∧ (p, u) ∈ l.ents) ∨ (cov q p ∧ bit p.1 q.2 = 1 ∧ (p, u) ∈ r.ents) := by
        simp only [ents, List.mem_append] at he
        rcases he with he | he | he
        · split at he
          · simp at he; exact absurd he.1.symm e
          · simp at he
        · have := hW.1 _ (ents_keys he); exact .inl ⟨this.1, this.2.2, he⟩
        · have := hW.2.1 _ (ents_keys he); exact .inr ⟨this.1, this.2.2, he⟩
      rcases hcase with ⟨h1, h2, h3⟩ | ⟨h1, h2, h3⟩
      · simp only [desc, if_neg (show ¬ (q = p ∨ ¬ cov q p) from fun h => h.elim e (fun h => h h1)), if_pos h2]
        exact desc_find hW.2.2.1 h3
      · simp only [desc, if_neg (show ¬ (q = p ∨ ¬ cov q p) from fun h => h.elim e (fun h => h h1)), if_neg (show ¬ bit p.1 q.2 = 0 by omega)]
        exact desc_find hW.2.2.2 h3
theorem desc_spot {p : Pf} : ∀ {T : Tr} {s : Addr}, s.spot = none → (T.desc s p).1.spot = none
  | nil, s, h => h
  | node b q u h l r, s, h1 => by
    simp only [desc]
    split
    · exact h1
    · split
      · exact desc_spot rfl
      · exact desc_spot rfl
end Tr
theorem get_no (T : Tr) (p : Pf) (base tb lim n : Nat) (w : World) (hT : Trie w base tb T lim n) (hp : ok p) (hnew : ∀ u, (p, u) ∉ T.ents) :
    Calls Try.prog 31 #[.pointer (some ⟨tb, 0, none⟩), .agg #[.int .u32 p.1, .int .i64 p.2]] w fun e w' => e = .returned (.tuple #[.agg (wayA zWay), .bool false]) ∧ Below w.heap.size w w' := by
  have hA := Tr.desc_At (T := T) (s := ⟨tb, 0, none⟩) hnew
  have hs := Tr.desc_spot (p := p) (T := T) (s := ⟨tb, 0, none⟩) rfl
  rcases hd : T.desc ⟨tb, 0, none⟩ p with ⟨⟨sb, so, sp⟩, S⟩
  rw [hd] at hA hs
  simp only at hs
  subst hs
  cases S with
  | nil => exact get_nil T p base tb lim n w hT hp sb so hd
  | node b q u h l r =>
    rcases hA with ⟨e, rfl⟩ | ⟨e, _⟩
    · exact get_fork T p base tb lim n w hT hp sb so b q u l r hd e
    · exact get_other T p base tb lim n w hT hp sb so b q u h l r hd e
theorem get_is (T : Tr) (p : Pf) (u : Way) (base tb lim n : Nat) (w : World) (hT : Trie w base tb T lim n) (hW : T.WF) (hp : ok p) (he : (p, u) ∈ T.ents) :
    Calls Try.prog 31 #[.pointer (some ⟨tb, 0, none⟩), .agg #[.int .u32 p.1, .int .i64 p.2]] w fun e w' => e = .returned (.tuple #[.agg (wayA u), .bool true]) ∧ Below w.heap.size w w' := by
  have hs := Tr.desc_spot (p := p) (T := T) (s := ⟨tb, 0, none⟩) rfl
  obtain ⟨b, l, r, hf⟩ := Tr.desc_find (s := ⟨tb, 0, none⟩) hW he
  rcases hd : T.desc ⟨tb, 0, none⟩ p with ⟨⟨sb, so, sp⟩, S⟩
  rw [hd] at hs hf
  simp only at hs hf
  subst hs; subst hf
  exact get_yes T p base tb lim n w hT hp sb so b p u l r hd rfl
end Go.Proofs.Ytbcekjbckeljmaa
