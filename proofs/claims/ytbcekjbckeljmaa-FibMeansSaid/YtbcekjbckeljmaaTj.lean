/- The walk of the trie's Insert, of a prefix that is not there, where a node lies. -/
import Derived.Test.YtbcekjbckeljmaaTi
set_option linter.unusedVariables false
set_option linter.unusedSimpArgs false
namespace Go.Proofs.Ytbcekjbckeljmaa
open Go.RowKit Px
set_option maxHeartbeats 1000000
attribute [local go_sem high] eql47 neq47 loadRow_way loadRow_arr wayA_back arrA_back
attribute [local go_sem low] loadRowOf_some
attribute [local go_sem ↓] load54 store54 alloc54 load52 store52 alloc52 build180 build185
attribute [local go_sem] rload54 rstore54 rload52 rstore52 ralloc54 ralloc52 rbuild180 rbuild185 rfork180
attribute [local go_sem] size_drewN rowAt_alloc_past rowAt_alloc_at rowAt_drew rowAt_drewN thawed_alloc_past thawed_alloc_at thawed_drew thawed_drewN okCells_way storeRowOf_some putRow_drew putRow_drewN putRow_alloc_past putRow_alloc_at wayA_size wayA_toList cells_way arrA_toList cells_arr

set_option maxRecDepth 100000 in
/-- a fork without a value is there -/
theorem insert_fork (T : Tr) (p : Pf) (v : Way) (base tb lim n : Nat) (w : World) (hT : Trie w base tb T lim n) (hp : ok p) (hlim : n < lim) (hl : lim ≤ 1000000) (sb so b : Nat) (q : Pf) (u : Way) (l r : Tr) (hd : T.desc ⟨tb, 0, none⟩ p = (⟨sb, so, none⟩, .node b q u false l r)) (hq : q = p) (hbase : base ≤ w.heap.size) :
    Calls Try.prog 32 #[.pointer (some ⟨tb, 0, none⟩), .agg #[.int .u32 p.1, .int .i64 p.2], .agg (wayA v)] w fun e w' => e = .returned (.int .i64 0) ∧ Frm base tb T w w' ∧ Trie w' base tb (T.repl p (.node b p v true l r)) lim (n + 1) := by
  have hq1 := pxEq_yes hq
  have HQ := Lib.hid hq
  clear hq
  have hn : n < 1000000 := by omega
  have HT := Lib.hid hT; have HP := Lib.hid hp; have HM := Lib.hid (may_ok hp); have HD := Lib.hid hd
  clear hT hp hd
  have HT0 := Lib.hid (HT.out.below (below_boxes p v w)); have HF0 := Lib.hid (boxF_new p v w)
  go_enter Try.func32, Try.ntmps32
  go_wp2_with fail
  refine (there_any tb _ (HT0.out.cells HD.out).2.2.2.1).mono ?_
  rintro e w' ⟨rfl, rfl⟩
  go_wp2_with fail
  refine (may_any p.1 p.2 _ HP.out.1).mono ?_
  rw [HM.out]
  rintro e w1 ⟨rfl, hb1⟩
  have HF1 := Lib.hid (HF0.out.below hb1); have HT1 := Lib.hid (HT0.out.below hb1)
  have HB1 := Lib.hid ((below_boxes p v w).trans (hb1.mono (by simp; omega)))
  clear hb1
  obtain ⟨p0, p1, v0, hh⟩ := HF1.out
  go_wp2_with fail
  refine (place_any T p tb _ HT1.out.isin HT1.out.okp HP.out (HT1.out.cells HD.out).1).mono ?_
  rw [HD.out]
  rintro e w2 ⟨rfl, hb2⟩
  clear p0 p1 v0 hh
  have HF2 := Lib.hid (HF1.out.below hb2); have HT2 := Lib.hid (HT1.out.below hb2)
  have HB2 := Lib.hid (HB1.out.trans (hb2.mono HB1.out.size))
  clear hb2
  obtain ⟨p0, p1, v0, hh⟩ := HF2.out
  obtain ⟨c0, c1, c2, c3, fn, s0, fs, htb, hsb⟩ := HT2.out.cells HD.out
  obtain ⟨d0, d1, d2, dr, df, dt, db, dl⟩ := HT2.out.node HD.out
  simp only [Tr.ptr] at s0
  clear c0 c3 dr df dt db dl
  go_wp2
  go_quiet (fail)
  go_wp2
  have hgt : ¬ ((lim : Int) ≤ n) := by omega
  go_quiet (fail)
  go_wp2
  clear hgt
  refine wp_gen (fun w' => BoxF w.heap.size p v w' ∧ Trie w' base tb T lim (n + 1) ∧ Frm base tb T w w') ?_ ?_
  · have hbt : Allow base tb T w tb := ⟨HT.out.from_ tb (by simp), .inl rfl⟩
    have hlt := (HT.out.cells HD.out).2.2.2.2.2.2.2.1
    refine ⟨BoxF.setCell (HF2.out.below ((Below.refl _ _).drewN _)) (by show _ ≠ tb; omega) (by show _ ≠ tb; omega), ?_, ((Frm.of hbase HB2.out).drewN _).setCell hbt _⟩
    exact (HT2.out.below ((Below.refl _ _).drewN _)).count (n + 1)
  rintro w3 ⟨hF3, hT3, hB3⟩
  clear p0 p1 v0 hh c1 c2 fn s0 fs htb hsb d0 d1 d2
  have HF3 := Lib.hid hF3; have HT3 := Lib.hid hT3; have HB3 := Lib.hid hB3
  clear hF3 hT3 hB3
  obtain ⟨p0, p1, v0, hh⟩ := HF3.out
  obtain ⟨c0, c1, c2, c3, fn, s0, fs, htb, hsb⟩ := HT3.out.cells HD.out
  obtain ⟨d0, d1, d2, dr, df, dt, db, dl⟩ := HT3.out.node HD.out
  simp only [Tr.ptr] at s0
  clear c0 c1 c2 c3 fn
  have hnode := (HT3.out.sub HD.out).1.1
  have hw4 := heap_putRow_same w3 b 2 (wayCells v) _ _ _ hnode
  rw [List.toList_toArray, Tr.cells_row] at hw4
  have e1 := Tr.cell259 hw4
  have e2 := Tr.froz hw4 259
  have HN := Lib.hid hnode
  have HW4 := Lib.hid hw4
  clear hnode hw4
  go_quiet (fail)
  go_wp2
  go_ret
  refine ⟨rfl, ?_, ?_⟩
  · have := HT.out.sub HD.out
    have hb : Allow base tb T w b := ⟨(this.2.2.1 b (by simp [Tr.blocks])).2.1, .inr (.inl (this.2.2.1 b (by simp [Tr.blocks])).1)⟩
    exact ((HB3.out.putRow hb _).drewN _).setCell hb _
  obtain ⟨s1, s2, s3, s4⟩ := HT3.out.sub HD.out
  have nT := HT.out.nodup
  refine HT3.out.put' HD.out ?_ ?_ ⟨HP.out, s2.2.1, s2.2.2⟩ ?_ ?_
  · intro k hk hk2
    have hkb : k ≠ b := fun e => hk2 (by simp [Tr.blocks, e])
    rw [show (Tr.node b p v true l r).ptr = Value.pointer (some ⟨b, 0, none⟩) from rfl, heap_setCell_self _ _ _ s0]
    rw [heap_setCell_other _ _ _ _ hkb]
    exact heap_putRow_far _ _ _ hkb
  · have hN := HT3.out.sub_nodup HD.out
    simp only [Tr.blocks] at hN
    rw [List.nodup_cons, List.mem_append] at hN
    have far : ∀ k, k ∈ l.blocks ∨ k ∈ r.blocks → (((putRow w3 ⟨b, 2, none⟩ (wayCells v)).drewN nq).setCell ⟨b, 259, none⟩ (Value.bool true)).heap[k]? = w3.heap[k]? := by
      intro k hk
      have hkb : k ≠ b := by rintro rfl; exact hN.1 hk
      rw [heap_setCell_other _ _ _ _ hkb]
      exact heap_putRow_far _ _ _ hkb
    refine ⟨?_, s1.2.1.same fun k hk => far k (.inl hk), s1.2.2.same fun k hk => far k (.inr hk)⟩
    rw [heap_setCell_same _ _ _ _ _ _ (show ((putRow w3 ⟨b, 2, none⟩ (wayCells v)).drewN nq).heap[b]? = _ from HW4.out)]
    rw [List.setIfInBounds_toArray, Tr.cells_set259, HQ.out]
  · have hN := HT3.out.sub_nodup HD.out
    exact hN
  · intro k hk
    have := s3 k hk
    exact ⟨this.2.1, this.2.2.1, fun _ => hk⟩

/-- a node with one part below it -/
def aboveT (B : Nat) (p : Pf) (v : Way) (k : Nat) (S : Tr) : Tr := if k = 0 then .node B p v true S .nil else .node B p v true .nil S
set_option maxRecDepth 100000 in
/-- it goes above what is there -/
theorem insert_above (T : Tr) (p : Pf) (v : Way) (base tb lim n : Nat) (w : World) (hT : Trie w base tb T lim n) (hp : ok p) (hlim : n < lim) (hl : lim ≤ 1000000) (sb so b : Nat) (q : Pf) (u : Way) (hv : Bool) (l r : Tr) (hd : T.desc ⟨tb, 0, none⟩ p = (⟨sb, so, none⟩, .node b q u hv l r)) (hq : q ≠ p) (hc : com q p = p) (hbase : base ≤ w.heap.size) :
    Calls Try.prog 32 #[.pointer (some ⟨tb, 0, none⟩), .agg #[.int .u32 p.1, .int .i64 p.2], .agg (wayA v)] w fun e w' => e = .returned (.int .i64 0) ∧ Frm base tb T w w' ∧ ∃ B, w.heap.size ≤ B ∧ Trie w' base tb (T.repl p (aboveT B p v (bit q.1 p.2) (.node b q u hv l r))) lim (n + 1) := by
  have hq1 := pxEq_no hq
  have hc1 := pxEq_yes hc
  have hoq := (hT.sub hd).2.1.1
  have hn1 : p.2 ≤ 31 := by
    have := cov_len hp hoq (by have := com_cov_left hoq hp; rwa [hc] at this) (Ne.symm hq)
    have := hoq.2.1; omega
  have HQ := Lib.hid hq; have HC := Lib.hid hc; have HOQ := Lib.hid hoq
  clear hq hc hoq
  have hn : n < 1000000 := by omega
  have HT := Lib.hid hT; have HP := Lib.hid hp; have HM := Lib.hid (may_ok hp); have HD := Lib.hid hd
  clear hT hp hd
  have HT0 := Lib.hid (HT.out.below (below_boxes p v w)); have HF0 := Lib.hid (boxF_new p v w)
  go_enter Try.func32, Try.ntmps32
  go_wp2_with fail
  refine (there_any tb _ (HT0.out.cells HD.out).2.2.2.1).mono ?_
  rintro e w' ⟨rfl, rfl⟩
  go_wp2_with fail
  refine (may_any p.1 p.2 _ HP.out.1).mono ?_
  rw [HM.out]
  rintro e w1 ⟨rfl, hb1⟩
  have HF1 := Lib.hid (HF0.out.below hb1); have HT1 := Lib.hid (HT0.out.below hb1)
  have HB1 := Lib.hid ((below_boxes p v w).trans (hb1.mono (by simp; omega)))
  clear hb1
  obtain ⟨p0, p1, v0, hh⟩ := HF1.out
  go_wp2_with fail
  refine (place_any T p tb _ HT1.out.isin HT1.out.okp HP.out (HT1.out.cells HD.out).1).mono ?_
  rw [HD.out]
  rintro e w2 ⟨rfl, hb2⟩
  clear p0 p1 v0 hh
  have HF2 := Lib.hid (HF1.out.below hb2); have HT2 := Lib.hid (HT1.out.below hb2)
  have HB2 := Lib.hid (HB1.out.trans (hb2.mono HB1.out.size))
  clear hb2
  obtain ⟨p0, p1, v0, hh⟩ := HF2.out
  obtain ⟨c0, c1, c2, c3, fn, s0, fs, htb, hsb⟩ := HT2.out.cells HD.out
  obtain ⟨d0, d1, d2, dr, df, dt, db, dl⟩ := HT2.out.node HD.out
  simp only [Tr.ptr] at s0
  clear c0 c3 dr df dt db dl
  go_wp2
  go_quiet (fail)
  go_wp2
  have hgt : ¬ ((lim : Int) ≤ n) := by omega
  go_quiet (fail)
  go_wp2
  clear hgt
  refine wp_gen (fun w' => BoxF w.heap.size p v w' ∧ Trie w' base tb T lim (n + 1) ∧ Frm base tb T w w') ?_ ?_
  · have hbt : Allow base tb T w tb := ⟨HT.out.from_ tb (by simp), .inl rfl⟩
    have hlt := (HT.out.cells HD.out).2.2.2.2.2.2.2.1
    refine ⟨BoxF.setCell (HF2.out.below ((Below.refl _ _).drewN _)) (by show _ ≠ tb; omega) (by show _ ≠ tb; omega), ?_, ((Frm.of hbase HB2.out).drewN _).setCell hbt _⟩
    exact (HT2.out.below ((Below.refl _ _).drewN _)).count (n + 1)
  rintro w3 ⟨hF3, hT3, hB3⟩
  clear p0 p1 v0 hh c1 c2 fn s0 fs htb hsb d0 d1 d2
  have HF3 := Lib.hid hF3; have HT3 := Lib.hid hT3; have HB3 := Lib.hid hB3
  clear hF3 hT3 hB3
  obtain ⟨p0, p1, v0, hh⟩ := HF3.out
  obtain ⟨c0, c1, c2, c3, fn, s0, fs, htb, hsb⟩ := HT3.out.cells HD.out
  obtain ⟨d0, d1, d2, dr, df, dt, db, dl⟩ := HT3.out.node HD.out
  simp only [Tr.ptr] at s0
  clear c0 c1 c2 c3 fn
  go_quiet (fail)
  go_upto_region 17 with fail
  refine wp_gen (fun w' => BoxF w.heap.size p v w' ∧ Trie w' base tb T lim (n + 1) ∧ Frm base tb T w w' ∧ w3.heap.size < w'.heap.size ∧ w'.heap[w3.heap.size]? = some (.cells (Tr.cells p v true (.pointer none) (.pointer none)).toArray 110 (0, 0))) ?_ ?_
  · have hb : Below w3.heap.size w3 ((w3.drewN nq).alloc (.cells (Tr.cells p v true (.pointer none) (.pointer none)).toArray 110)) := ((Below.refl _ _).drewN _).alloc (Nat.le_refl _) _
    exact ⟨HF3.out.below hb, HT3.out.below hb, HB3.out.step hbase hb, by simp, heap_alloc_new (w3.drewN nq) _⟩
  rintro w4 ⟨hF4, hT4, hB4, hsz, hblk⟩
  clear p0 p1 v0 hh s0 fs htb hsb d0 d1 d2 dr df dt db dl
  have HF4 := Lib.hid hF4; have HT4 := Lib.hid hT4; have HB4 := Lib.hid hB4; have HK := Lib.hid hblk
  clear hF4 hT4 hB4 hblk
  obtain ⟨p0, p1, v0, hh⟩ := HF4.out
  obtain ⟨c0, c1, c2, c3, fn, s0, fs, htb, hsb⟩ := HT4.out.cells HD.out
  obtain ⟨d0, d1, d2, dr, df, dt, db, dl⟩ := HT4.out.node HD.out
  simp only [Tr.ptr] at s0
  clear c0 c1 c2 c3 fn v0 dr df dt db dl d2
  go_upto_region 20 with fail
  have K4 := Lib.hid (show ∀ w', Below w4.heap.size w4 w' → w'.cell? ⟨w.heap.size, 0, none⟩ = some (.int .u32 p.1) ∧ w'.cell? ⟨w.heap.size, 1, none⟩ = some (.int .i64 p.2) ∧ w'.cell? ⟨b, 0, none⟩ = some (.int .u32 q.1) ∧ w'.cell? ⟨b, 1, none⟩ = some (.int .i64 q.2) from
          fun w' h => ⟨pw_cell h p0, pw_cell h p1, pw_cell h d0, pw_cell h d1⟩)
  go_cut [10] (fun s10 wx => ∃ C : Nat, s10 = .pointer (some ⟨C, 0, none⟩) ∧ wx.cell? ⟨C, 0, none⟩ = some (.int .u32 (com q p).1) ∧ wx.cell? ⟨C, 1, none⟩ = some (.int .i64 (com q p).2) ∧ Below w4.heap.size w4 wx)
  case first =>
    go_region_held3 (fun w' => w'.cell? ⟨w.heap.size, 0, none⟩ = some (.int .u32 p.1) ∧ w'.cell? ⟨w.heap.size, 1, none⟩ = some (.int .i64 p.2) ∧ w'.cell? ⟨b, 0, none⟩ = some (.int .u32 q.1) ∧ w'.cell? ⟨b, 1, none⟩ = some (.int .i64 q.2)) (first | exact K4.out _ (by repeat (first | assumption | exact Below.refl _ _ | refine Below.drew ?_ | refine Below.alloc ?_ (by first | exact Nat.le_refl _ | exact Below.size (by assumption)) _ | refine Below.setCell ?_ (by first | exact Nat.le_refl _ | exact Below.size (by assumption)) _))) ((go_at_call 49; refine (common_any _ HOQ.out HP.out).mono ?_; rintro e w5 ⟨rfl, hb1⟩; first | (have hB1 : Below w4.heap.size w4 w5 := ((Below.refl _ w4).drew).trans hb1; have hs5 := hB1.size; clear hb1) | (have hB1 : Below w4.heap.size w4 w5 := ((((Below.refl _ w4).alloc (Nat.le_refl _) _).drew)).trans (hb1.mono (by simp)); have z0 := pw_cell hb1 (World.cell?_alloc_at _ _ _ 0 rfl); have z1 := pw_cell hb1 (World.cell?_alloc_at _ _ _ 1 rfl); have zf := (hb1.frozen (p := ⟨w4.heap.size, 0, none⟩) (by simp)).trans (World.frozen?_alloc_at _ _ _ 0 rfl); have zg := (hb1.frozen (p := ⟨w4.heap.size, 1, none⟩) (by simp)).trans (World.frozen?_alloc_at _ _ _ 1 rfl); clear hb1)))
    · go_wp2_with fail
      go_meet
      exact ⟨w5.heap.size, rfl, World.cell?_alloc_at _ _ _ _ rfl, World.cell?_alloc_at _ _ _ _ rfl, hB1.alloc hs5 _⟩
    · go_wp2_with fail
      go_meet
      refine ⟨w4.heap.size, rfl, ?_, ?_, (hB1.setCell (Nat.le_refl _) _).setCell (Nat.le_refl _) _⟩
      · rw [World.cell?_setCell_other _ _ _ _ (by simp)]; exact World.cell?_setCell_same' _ _ _ (by rw [z0]; rfl)
      · refine World.cell?_setCell_same' _ _ _ ?_
        rw [World.cell?_setCell_other _ _ _ _ (by simp), z1]; rfl
  case rest =>
    obtain ⟨C, rfl, k0, k1, HB⟩ := hcut
    have HW := Lib.hid HB
    have HT5 := Lib.hid (HT4.out.below HB)
    have HB5 := Lib.hid (HB4.out.step hbase HB)
    have HK5 := Lib.hid ((HB.block w3.heap.size hsz).trans HK.out)
    have hsz5 : w3.heap.size < wc.heap.size := Nat.lt_of_lt_of_le hsz HB.size
    obtain ⟨a0, a1, a2, a3⟩ := K4.out wc HB
    clear HB p0 p1 d0 d1 s0 fs htb hsb
    obtain ⟨c0, c1, c2, c3, fn, s0, fs, htb, hsb⟩ := HT5.out.cells HD.out
    simp only [Tr.ptr] at s0
    clear c0 c1 c2 c3 fn
    have n0 := Tr.cell260 HK5.out
    have n1 := Tr.cell261 HK5.out
    have nf := Tr.froz HK5.out 260
    have ng := Tr.froz HK5.out 261
    have hq1' := HOQ.out.1
    have hlw : w.heap.size < w3.heap.size := by have := HF3.out.2.2.2; omega
    have hlb : b < w3.heap.size := (HT3.out.node HD.out).2.2.2.2.2.2.1
    have K5 := Lib.hid (show ∀ w', Below w3.heap.size wc w' → w'.cell? ⟨w.heap.size, 1, none⟩ = some (.int .i64 p.2) ∧ w'.cell? ⟨b, 0, none⟩ = some (.int .u32 q.1) from
          fun w' h => ⟨(h.cell (p := ⟨w.heap.size, 1, none⟩) hlw).trans a1, (h.cell (p := ⟨b, 0, none⟩) hlb).trans a2⟩)
    have hbk := bit_lt q.1 p.2
    have hk01 : bit q.1 p.2 = 0 ∨ bit q.1 p.2 = 1 := by omega
    have HBN := Lib.hid (show sb ≠ w3.heap.size by have := (HT3.out.cells HD.out).2.2.2.2.2.2.2.2; omega)
    have HBS := Lib.hid (HT.out.allow HD.out)
    have HB3B : base ≤ w3.heap.size := Nat.le_trans hbase HB3.out.size
    have HB3A : Allow base tb T w w3.heap.size := ⟨HB3B, .inr (.inr HB3.out.size)⟩
    have HSI := Lib.hid (HT5.out.sub HD.out)
    have HSN := Lib.hid (HT5.out.sub_nodup HD.out)
    have HTL := Lib.hid (HT3.out.cells HD.out).2.2.2.2.2.2.2.1
    have HNB := Lib.hid (show ∀ k ∈ (Tr.node b q u hv l r).blocks, k < w3.heap.size from fun k hk => ((HT3.out.sub HD.out).2.2.1 k hk).2.2.2)
    rcases hk01 with hk | hk
    · have HKB := Lib.hid hk
      clear hk hbk
      go_wp2
      go_region_held3 (fun w' => w'.cell? ⟨w.heap.size, 1, none⟩ = some (.int .i64 p.2) ∧ w'.cell? ⟨b, 0, none⟩ = some (.int .u32 q.1)) (first | exact K5.out _ (by repeat (first | assumption | exact Below.refl _ _ | refine Below.drew ?_ | refine Below.setCell ?_ (by exact Nat.le_refl _) _))) ((go_at_call 50; refine (bit_k q.1 p.2 0 _ hq1' hn1 HKB.out).mono ?_; rintro e w6 ⟨rfl, rfl⟩))
      go_upto_region 23 with fail
      refine wp_gen (fun w' => Trie w' base tb T lim (n + 1) ∧ Frm base tb T w w' ∧ w3.heap.size < w'.heap.size ∧ w'.heap[w3.heap.size]? = some (.cells (Tr.cells p v true (.pointer (some ⟨b, 0, none⟩)) (.pointer none)).toArray 110 (0, 0))) ?_ ?_
      · refine ⟨?_, (HB5.out.setCell HB3A _).drew, by simpa using hsz5, ?_⟩
        · exact HT5.out.keep (fun k hk => heap_setCell_other _ _ _ _ (by
            rcases hk with rfl | hk
            · have := HTL.out; show _ ≠ w3.heap.size; omega
            · have := HT3.out.isin.lt _ hk; show _ ≠ w3.heap.size; omega))
        · refine (heap_setCell_same _ _ _ _ _ _ HK5.out).trans ?_
          rw [List.setIfInBounds_toArray, Tr.cells_set260]
      clear s0 fs htb hsb n0 n1 nf ng a0 a1 a2 a3 k0 k1
      rintro w7 ⟨hT7, hB7, hs7, hK7⟩
      have HT7 := Lib.hid hT7; have HB7 := Lib.hid hB7; have HK7 := Lib.hid hK7
      clear hT7 hB7 hK7
      obtain ⟨c0, c1, c2, c3, fn, s0, fs, htb, hsb⟩ := HT7.out.cells HD.out
      simp only [Tr.ptr] at s0
      clear c0 c1 c2 c3 fn
      go_wp2
      go_ret
      refine ⟨rfl, HB7.out.setCell HBS.out _, w3.heap.size, HB3.out.size, ?_⟩
      rw [HKB.out]
      have hX : (aboveT w3.heap.size p v 0 (.node b q u hv l r)).In (w7.setCell ⟨sb, so, none⟩ (aboveT w3.heap.size p v 0 (.node b q u hv l r)).ptr) := by
        refine ⟨(heap_setCell_other _ _ _ _ (Ne.symm HBN.out)).trans HK7.out, ?_, trivial⟩
        exact (HT7.out.sub HD.out).1.same fun k hk => heap_setCell_other _ _ _ _ (fun e => HT7.out.slot_apart HD.out (by rw [← e]; exact hk))
      refine HT7.out.put HD.out hX ⟨HP.out, (HT7.out.sub HD.out).2.1, trivial⟩ ?_ (fun k hk => ?_)
      · show (w3.heap.size :: ((Tr.node b q u hv l r).blocks ++ [])).Nodup
        rw [List.append_nil, List.nodup_cons]
        exact ⟨fun h1 => by have := HNB.out _ h1; omega, HSN.out⟩
      · have hk' : k ∈ w3.heap.size :: ((Tr.node b q u hv l r).blocks ++ []) := hk
        rw [List.append_nil] at hk'
        rcases List.mem_cons.1 hk' with rfl | hk'
        · refine ⟨HB3B, ?_, fun h1 => absurd (HT3.out.isin.lt _ h1) (by omega)⟩
          have := HTL.out; omega
        · have := HSI.out.2.2.1 k hk'
          exact ⟨this.2.1, this.2.2.1, fun _ => hk'⟩
    · have HKB := Lib.hid hk
      clear hk hbk
      go_wp2
      go_region_held3 (fun w' => w'.cell? ⟨w.heap.size, 1, none⟩ = some (.int .i64 p.2) ∧ w'.cell? ⟨b, 0, none⟩ = some (.int .u32 q.1)) (first | exact K5.out _ (by repeat (first | assumption | exact Below.refl _ _ | refine Below.drew ?_ | refine Below.setCell ?_ (by exact Nat.le_refl _) _))) ((go_at_call 50; refine (bit_k q.1 p.2 1 _ hq1' hn1 HKB.out).mono ?_; rintro e w6 ⟨rfl, rfl⟩))
      go_upto_region 23 with fail
      refine wp_gen (fun w' => Trie w' base tb T lim (n + 1) ∧ Frm base tb T w w' ∧ w3.heap.size < w'.heap.size ∧ w'.heap[w3.heap.size]? = some (.cells (Tr.cells p v true (.pointer none) (.pointer (some ⟨b, 0, none⟩))).toArray 110 (0, 0))) ?_ ?_
      · refine ⟨?_, (HB5.out.setCell HB3A _).drew, by simpa using hsz5, ?_⟩
        · exact HT5.out.keep (fun k hk => heap_setCell_other _ _ _ _ (by
            rcases hk with rfl | hk
            · have := HTL.out; show _ ≠ w3.heap.size; omega
            · have := HT3.out.isin.lt _ hk; show _ ≠ w3.heap.size; omega))
        · refine (heap_setCell_same _ _ _ _ _ _ HK5.out).trans ?_
          rw [List.setIfInBounds_toArray, Tr.cells_set261]
      clear s0 fs htb hsb n0 n1 nf ng a0 a1 a2 a3 k0 k1
      rintro w7 ⟨hT7, hB7, hs7, hK7⟩
      have HT7 := Lib.hid hT7; have HB7 := Lib.hid hB7; have HK7 := Lib.hid hK7
      clear hT7 hB7 hK7
      obtain ⟨c0, c1, c2, c3, fn, s0, fs, htb, hsb⟩ := HT7.out.cells HD.out
      simp only [Tr.ptr] at s0
      clear c0 c1 c2 c3 fn
      go_wp2
      go_ret
      refine ⟨rfl, HB7.out.setCell HBS.out _, w3.heap.size, HB3.out.size, ?_⟩
      rw [HKB.out]
      have hX : (aboveT w3.heap.size p v 1 (.node b q u hv l r)).In (w7.setCell ⟨sb, so, none⟩ (aboveT w3.heap.size p v 1 (.node b q u hv l r)).ptr) := by
        refine ⟨(heap_setCell_other _ _ _ _ (Ne.symm HBN.out)).trans HK7.out, trivial, ?_⟩
        exact (HT7.out.sub HD.out).1.same fun k hk => heap_setCell_other _ _ _ _ (fun e => HT7.out.slot_apart HD.out (by rw [← e]; exact hk))
      refine HT7.out.put HD.out hX ⟨HP.out, trivial, (HT7.out.sub HD.out).2.1⟩ ?_ (fun k hk => ?_)
      · show (w3.heap.size :: ([] ++ (Tr.node b q u hv l r).blocks)).Nodup
        rw [List.nil_append, List.nodup_cons]
        exact ⟨fun h1 => by have := HNB.out _ h1; omega, HSN.out⟩
      · have hk' : k ∈ w3.heap.size :: ([] ++ (Tr.node b q u hv l r).blocks) := hk
        rw [List.nil_append] at hk'
        rcases List.mem_cons.1 hk' with rfl | hk'
        · refine ⟨HB3B, ?_, fun h1 => absurd (HT3.out.isin.lt _ h1) (by omega)⟩
          have := HTL.out; omega
        · have := HSI.out.2.2.1 k hk'
          exact ⟨this.2.1, this.2.2.1, fun _ => hk'⟩
end Go.Proofs.Ytbcekjbckeljmaa
