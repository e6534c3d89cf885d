/- The walk of the trie's Insert, of a prefix that is not there, where a node lies. -/
import Derived.Test.YtbcekjbckeljmaaTj
set_option linter.unusedVariables false
set_option linter.unusedSimpArgs false
namespace Go.Proofs.Ytbcekjbckeljmaa
open Go.RowKit Px
set_option maxHeartbeats 1000000
attribute [local go_sem high] eql47 neq47 loadRow_way loadRow_arr wayA_back arrA_back
attribute [local go_sem low] loadRowOf_some
attribute [local go_sem ↓] load54 store54 alloc54 load52 store52 alloc52 build180 build185
attribute [local go_sem] rload54 rstore54 rload52 rstore52 ralloc54 ralloc52 rbuild180 rbuild185 rfork180
attribute [local go_sem] size_drewN rowAt_alloc_past rowAt_alloc_at rowAt_drew rowAt_drewN thawed_alloc_past thawed_alloc_at thawed_drew thawed_drewN okCells_way storeRowOf_some putRow_drew putRow_drewN putRow_alloc_past putRow_alloc_at wayA_size wayA_toList cells_way arrA_toList cells_arr
/-- a fork without a value, a new node on its one side, the elder part on the other -/
def forkT (B B2 : Nat) (c p : Pf) (v : Way) (k : Nat) (S : Tr) : Tr := if k = 0 then .node B2 c zWay false (.node B p v true .nil .nil) S else .node B2 c zWay false S (.node B p v true .nil .nil)
set_option maxRecDepth 100000 in
/-- it goes beside what is there -/
theorem insert_beside (T : Tr) (p : Pf) (v : Way) (base tb lim n : Nat) (w : World) (hT : Trie w base tb T lim n) (hp : ok p) (hlim : n < lim) (hl : lim ≤ 1000000) (sb so b : Nat) (q : Pf) (u : Way) (hv : Bool) (l r : Tr) (hd : T.desc ⟨tb, 0, none⟩ p = (⟨sb, so, none⟩, .node b q u hv l r)) (hq : q ≠ p) (hc : com q p ≠ p) (hcq : com q p ≠ q) (hbase : base ≤ w.heap.size) :
    Calls Try.prog 32 #[.pointer (some ⟨tb, 0, none⟩), .agg #[.int .u32 p.1, .int .i64 p.2], .agg (wayA v)] w fun e w' => e = .returned (.int .i64 0) ∧ Frm base tb T w w' ∧ ∃ B B2, w.heap.size ≤ B ∧ B < B2 ∧ Trie w' base tb (T.repl p (forkT B B2 (com q p) p v (bit p.1 (com q p).2) (.node b q u hv l r))) lim (n + 1) := by
  have hq1 := pxEq_no hq
  have hc1 := pxEq_no hc
  have hoq := (hT.sub hd).2.1.1
  obtain ⟨hn1, hbits⟩ := com_bits hoq hp hcq hc
  have HBITS := Lib.hid hbits
  have HOC := Lib.hid (com_ok hoq hp)
  have hz1 := hoq.1
  have hz2 := hp.1
  clear hcq hbits
  have HQ := Lib.hid hq; have HC := Lib.hid hc; have HOQ := Lib.hid hoq
  clear hq hc hoq
  have hn : n < 1000000 := by omega
  have HT := Lib.hid hT; have HP := Lib.hid hp; have HM := Lib.hid (may_ok hp); have HD := Lib.hid hd
  clear hT hp hd
  have HT0 := Lib.hid (HT.out.below (below_boxes p v w)); have HF0 := Lib.hid (boxF_new p v w)
  go_enter Try.func32, Try.ntmps32
  go_wp2_with fail
  refine (there_any tb _ (HT0.out.cells HD.out).2.2.2.1).mono ?_
  rintro e w' ⟨rfl, rfl⟩
  go_wp2_with fail
  refine (may_any p.1 p.2 _ HP.out.1).mono ?_
  rw [HM.out]
  rintro e w1 ⟨rfl, hb1⟩
  have HF1 := Lib.hid (HF0.out.below hb1); have HT1 := Lib.hid (HT0.out.below hb1)
  have HB1 := Lib.hid ((below_boxes p v w).trans (hb1.mono (by simp; omega)))
  clear hb1
  obtain ⟨p0, p1, v0, hh⟩ := HF1.out
  go_wp2_with fail
  refine (place_any T p tb _ HT1.out.isin HT1.out.okp HP.out (HT1.out.cells HD.out).1).mono ?_
  rw [HD.out]
  rintro e w2 ⟨rfl, hb2⟩
  clear p0 p1 v0 hh
  have HF2 := Lib.hid (HF1.out.below hb2); have HT2 := Lib.hid (HT1.out.below hb2)
  have HB2 := Lib.hid (HB1.out.trans (hb2.mono HB1.out.size))
  clear hb2
  obtain ⟨p0, p1, v0, hh⟩ := HF2.out
  obtain ⟨c0, c1, c2, c3, fn, s0, fs, htb, hsb⟩ := HT2.out.cells HD.out
  obtain ⟨d0, d1, d2, dr, df, dt, db, dl⟩ := HT2.out.node HD.out
  simp only [Tr.ptr] at s0
  clear c0 c3 dr df dt db dl
  go_wp2
  go_quiet (fail)
  go_wp2
  have hgt : ¬ ((lim : Int) ≤ n) := by omega
  go_quiet (fail)
  go_wp2
  clear hgt
  refine wp_gen (fun w' => BoxF w.heap.size p v w' ∧ Trie w' base tb T lim (n + 1) ∧ Frm base tb T w w') ?_ ?_
  · have hbt : Allow base tb T w tb := ⟨HT.out.from_ tb (by simp), .inl rfl⟩
    have hlt := (HT.out.cells HD.out).2.2.2.2.2.2.2.1
    refine ⟨BoxF.setCell (HF2.out.below ((Below.refl _ _).drewN _)) (by show _ ≠ tb; omega) (by show _ ≠ tb; omega), ?_, ((Frm.of hbase HB2.out).drewN _).setCell hbt _⟩
    exact (HT2.out.below ((Below.refl _ _).drewN _)).count (n + 1)
  rintro w3 ⟨hF3, hT3, hB3⟩
  clear p0 p1 v0 hh c1 c2 fn s0 fs htb hsb d0 d1 d2
  have HF3 := Lib.hid hF3; have HT3 := Lib.hid hT3; have HB3 := Lib.hid hB3
  clear hF3 hT3 hB3
  obtain ⟨p0, p1, v0, hh⟩ := HF3.out
  obtain ⟨c0, c1, c2, c3, fn, s0, fs, htb, hsb⟩ := HT3.out.cells HD.out
  obtain ⟨d0, d1, d2, dr, df, dt, db, dl⟩ := HT3.out.node HD.out
  simp only [Tr.ptr] at s0
  clear c0 c1 c2 c3 fn
  go_quiet (fail)
  go_upto_region 17 with fail
  refine wp_gen (fun w' => BoxF w.heap.size p v w' ∧ Trie w' base tb T lim (n + 1) ∧ Frm base tb T w w' ∧ w3.heap.size < w'.heap.size ∧ w'.heap[w3.heap.size]? = some (.cells (Tr.cells p v true (.pointer none) (.pointer none)).toArray 110 (0, 0))) ?_ ?_
  · have hb : Below w3.heap.size w3 ((w3.drewN nq).alloc (.cells (Tr.cells p v true (.pointer none) (.pointer none)).toArray 110)) := ((Below.refl _ _).drewN _).alloc (Nat.le_refl _) _
    exact ⟨HF3.out.below hb, HT3.out.below hb, HB3.out.step hbase hb, by simp, heap_alloc_new (w3.drewN nq) _⟩
  rintro w4 ⟨hF4, hT4, hB4, hsz, hblk⟩
  clear p0 p1 v0 hh s0 fs htb hsb d0 d1 d2 dr df dt db dl
  have HF4 := Lib.hid hF4; have HT4 := Lib.hid hT4; have HB4 := Lib.hid hB4; have HK := Lib.hid hblk
  clear hF4 hT4 hB4 hblk
  obtain ⟨p0, p1, v0, hh⟩ := HF4.out
  obtain ⟨c0, c1, c2, c3, fn, s0, fs, htb, hsb⟩ := HT4.out.cells HD.out
  obtain ⟨d0, d1, d2, dr, df, dt, db, dl⟩ := HT4.out.node HD.out
  simp only [Tr.ptr] at s0
  clear c0 c1 c2 c3 fn v0 dr df dt db dl d2
  go_upto_region 20 with fail
  have K4 := Lib.hid (show ∀ w', Below w4.heap.size w4 w' → w'.cell? ⟨w.heap.size, 0, none⟩ = some (.int .u32 p.1) ∧ w'.cell? ⟨w.heap.size, 1, none⟩ = some (.int .i64 p.2) ∧ w'.cell? ⟨b, 0, none⟩ = some (.int .u32 q.1) ∧ w'.cell? ⟨b, 1, none⟩ = some (.int .i64 q.2) from
          fun w' h => ⟨pw_cell h p0, pw_cell h p1, pw_cell h d0, pw_cell h d1⟩)
  go_cut [10] (fun s10 wx => ∃ C : Nat, s10 = .pointer (some ⟨C, 0, none⟩) ∧ wx.cell? ⟨C, 0, none⟩ = some (.int .u32 (com q p).1) ∧ wx.cell? ⟨C, 1, none⟩ = some (.int .i64 (com q p).2) ∧ wx.frozen? ⟨C, 0, none⟩ = false ∧ C < wx.heap.size ∧ w4.heap.size ≤ C ∧ Below w4.heap.size w4 wx)
  case first =>
    go_region_held3 (fun w' => w'.cell? ⟨w.heap.size, 0, none⟩ = some (.int .u32 p.1) ∧ w'.cell? ⟨w.heap.size, 1, none⟩ = some (.int .i64 p.2) ∧ w'.cell? ⟨b, 0, none⟩ = some (.int .u32 q.1) ∧ w'.cell? ⟨b, 1, none⟩ = some (.int .i64 q.2)) (first | exact K4.out _ (by repeat (first | assumption | exact Below.refl _ _ | refine Below.drew ?_ | refine Below.alloc ?_ (by first | exact Nat.le_refl _ | exact Below.size (by assumption)) _ | refine Below.setCell ?_ (by first | exact Nat.le_refl _ | exact Below.size (by assumption)) _))) ((go_at_call 49; refine (common_any _ HOQ.out HP.out).mono ?_; rintro e w5 ⟨rfl, hb1⟩; first | (have hB1 : Below w4.heap.size w4 w5 := ((Below.refl _ w4).drew).trans hb1; have hs5 := hB1.size; clear hb1) | (have hB1 : Below w4.heap.size w4 w5 := ((((Below.refl _ w4).alloc (Nat.le_refl _) _).drew)).trans (hb1.mono (by simp)); have z0 := pw_cell hb1 (World.cell?_alloc_at _ _ _ 0 rfl); have z1 := pw_cell hb1 (World.cell?_alloc_at _ _ _ 1 rfl); have zf := (hb1.frozen (p := ⟨w4.heap.size, 0, none⟩) (by simp)).trans (World.frozen?_alloc_at _ _ _ 0 rfl); have zg := (hb1.frozen (p := ⟨w4.heap.size, 1, none⟩) (by simp)).trans (World.frozen?_alloc_at _ _ _ 1 rfl); clear hb1)))
    · go_wp2_with fail
      go_meet
      exact ⟨w5.heap.size, rfl, World.cell?_alloc_at _ _ _ _ rfl, World.cell?_alloc_at _ _ _ _ rfl, World.frozen?_alloc_at _ _ _ _ rfl, by simp, hs5, hB1.alloc hs5 _⟩
    · go_wp2_with fail
      go_meet
      refine ⟨w4.heap.size, rfl, ?_, ?_, by simpa [World.frozen?_setCell] using zf, by have := World.block_lt_of_cell? w5 _ z0; simpa using this, Nat.le_refl _, (hB1.setCell (Nat.le_refl _) _).setCell (Nat.le_refl _) _⟩
      · rw [World.cell?_setCell_other _ _ _ _ (by simp)]; exact World.cell?_setCell_same' _ _ _ (by rw [z0]; rfl)
      · refine World.cell?_setCell_same' _ _ _ ?_
        rw [World.cell?_setCell_other _ _ _ _ (by simp), z1]; rfl
  case rest =>
    obtain ⟨C, rfl, k0, k1, kf, hC, hC4, HB⟩ := hcut
    have HT5 := Lib.hid (HT4.out.below HB)
    have HB5 := Lib.hid (HB4.out.step hbase HB)
    have HK5 := Lib.hid ((HB.block w3.heap.size hsz).trans HK.out)
    have hsz5 : w3.heap.size < wc.heap.size := Nat.lt_of_lt_of_le hsz HB.size
    obtain ⟨a0, a1, a2, a3⟩ := K4.out wc HB
    clear HB p0 p1 d0 d1 s0 fs htb hsb
    go_upto_region 26 with fail
    have HLW := Lib.hid (show w.heap.size < w3.heap.size by have := HF3.out.2.2.2; omega)
    have HLB := Lib.hid (HT3.out.node HD.out).2.2.2.2.2.2.1
    have HCL := Lib.hid hC
    refine wp_gen (fun w' => Trie w' base tb T lim (n + 1) ∧ Frm base tb T w w' ∧ wc.heap.size < w'.heap.size ∧ w'.heap[w3.heap.size]? = some (.cells (Tr.cells p v true (.pointer none) (.pointer none)).toArray 110 (0, 0)) ∧ w'.heap[wc.heap.size]? = some (.cells (Tr.cells (com q p) zWay false (.pointer none) (.pointer none)).toArray 110 (0, 0)) ∧
      w'.cell? ⟨w.heap.size, 0, none⟩ = some (.int .u32 p.1) ∧ w'.cell? ⟨C, 1, none⟩ = some (.int .i64 (com q p).2) ∧ w'.cell? ⟨b, 0, none⟩ = some (.int .u32 q.1)) ?_ ?_
    · have hb : Below wc.heap.size wc (wc.alloc (.cells (Tr.cells (com q p) zWay false (.pointer none) (.pointer none)).toArray 110)) := (Below.refl _ _).alloc (Nat.le_refl _) _
      exact ⟨HT5.out.below hb, HB5.out.step hbase hb, by simp, (hb.block _ hsz5).trans HK5.out, heap_alloc_new wc _, pw_cell hb a0, pw_cell hb k1, pw_cell hb a2⟩
    clear a0 a1 a2 a3 k0 k1 kf
    rintro wd ⟨hT6, hB6, hsd, hn6, hf6, p0, p1, d0⟩
    have HT6 := Lib.hid hT6; have HB6 := Lib.hid hB6; have HN6 := Lib.hid hn6; have HF6 := Lib.hid hf6
    clear hT6 hB6 hn6 hf6
    have K6 := Lib.hid (show ∀ w', Below wc.heap.size wd w' → w'.cell? ⟨w.heap.size, 0, none⟩ = some (.int .u32 p.1) ∧ w'.cell? ⟨C, 1, none⟩ = some (.int .i64 (com q p).2) ∧ w'.cell? ⟨b, 0, none⟩ = some (.int .u32 q.1) from
          fun w' h => ⟨(h.cell (p := ⟨w.heap.size, 0, none⟩) (Nat.lt_trans HLW.out hsz5)).trans p0, (h.cell (p := ⟨C, 1, none⟩) HCL.out).trans p1, (h.cell (p := ⟨b, 0, none⟩) (Nat.lt_trans HLB.out hsz5)).trans d0⟩)
    have f0 := Tr.cell260 HF6.out
    have f1 := Tr.cell261 HF6.out
    have g0 := Tr.froz HF6.out 260
    have g1 := Tr.froz HF6.out 261
    have hk01 : (bit p.1 (com q p).2 = 0 ∧ bit q.1 (com q p).2 = 1) ∨ (bit p.1 (com q p).2 = 1 ∧ bit q.1 (com q p).2 = 0) := by
      have := bit_lt p.1 (com q p).2; have := bit_lt q.1 (com q p).2; have := HBITS.out; omega
    have HBN := Lib.hid (show sb ≠ w3.heap.size by have := (HT3.out.cells HD.out).2.2.2.2.2.2.2.2; omega)
    have HBS := Lib.hid (HT.out.allow HD.out)
    have HB3B : base ≤ w3.heap.size := Nat.le_trans hbase HB3.out.size
    have HB3A : Allow base tb T w w3.heap.size := ⟨HB3B, .inr (.inr HB3.out.size)⟩
    have HBW : Hid (Allow base tb T w wc.heap.size) := Lib.hid ⟨Nat.le_trans HB3B (Nat.le_of_lt hsz5), .inr (.inr (Nat.le_trans HB3.out.size (Nat.le_of_lt hsz5)))⟩
    have HSN := Lib.hid (HT3.out.sub_nodup HD.out)
    have HTL := Lib.hid (HT3.out.cells HD.out).2.2.2.2.2.2.2.1
    have HNB := Lib.hid (show ∀ k ∈ (Tr.node b q u hv l r).blocks, k < w3.heap.size from fun k hk => ((HT3.out.sub HD.out).2.2.1 k hk).2.2.2)
    rcases hk01 with ⟨hk, hk2⟩ | ⟨hk, hk2⟩
    · have HK1 := Lib.hid hk
      have HK2 := Lib.hid hk2
      clear hk hk2
      go_region_held3 (fun w' => w'.cell? ⟨w.heap.size, 0, none⟩ = some (.int .u32 p.1) ∧ w'.cell? ⟨C, 1, none⟩ = some (.int .i64 (com q p).2) ∧ w'.cell? ⟨b, 0, none⟩ = some (.int .u32 q.1)) (first | exact K6.out _ (by repeat (first | assumption | exact Below.refl _ _ | refine Below.drew ?_ | refine Below.setCell ?_ (by exact Nat.le_refl _) _))) ((go_at_call 50; first | (with_reducible refine (bit_k p.1 (com q p).2 0 _ hz2 hn1 HK1.out).mono ?_; rintro e w6 ⟨rfl, rfl⟩) | (with_reducible refine (bit_k q.1 (com q p).2 1 _ hz1 hn1 HK2.out).mono ?_; rintro e w6 ⟨rfl, rfl⟩)))
      go_upto_region 27 with fail
      refine wp_gen (fun w' => Trie w' base tb T lim (n + 1) ∧ Frm base tb T w w' ∧ w'.heap[w3.heap.size]? = some (.cells (Tr.cells p v true (.pointer none) (.pointer none)).toArray 110 (0, 0)) ∧ w'.heap[wc.heap.size]? = some (.cells (Tr.cells (com q p) zWay false (Value.pointer (some ⟨w3.heap.size, 0, none⟩)) (Value.pointer (some ⟨b, 0, none⟩))).toArray 110 (0, 0))) ?_ ?_
      · refine ⟨?_, ((HB6.out.setCell HBW.out _).setCell HBW.out _).drew, ?_, ?_⟩
        · exact HT6.out.keep (fun k hk => by
            have hne : k ≠ wc.heap.size := by
              rcases hk with rfl | hk
              · have := HTL.out; omega
              · have := HT3.out.isin.lt _ hk; omega
            exact (heap_setCell_other _ _ _ _ hne).trans (heap_setCell_other _ _ _ _ hne))
        · exact ((heap_setCell_other _ _ _ _ (by show w3.heap.size ≠ wc.heap.size; omega)).trans (heap_setCell_other _ _ _ _ (by show w3.heap.size ≠ wc.heap.size; omega))).trans HN6.out
        · have e1 := heap_setCell_same _ _ 260 _ _ (Value.pointer (some ⟨w3.heap.size, 0, none⟩)) HF6.out
          rw [List.setIfInBounds_toArray, Tr.cells_set260] at e1
          have e2 := heap_setCell_same _ _ 261 _ _ (Value.pointer (some ⟨b, 0, none⟩)) e1
          rw [List.setIfInBounds_toArray, Tr.cells_set261] at e2
          exact e2
      clear f0 f1 g0 g1 p0 p1 d0
      rintro w7 ⟨hT7, hB7, hn7, hf7⟩
      have HT7 := Lib.hid hT7; have HB7 := Lib.hid hB7; have HN7 := Lib.hid hn7; have HF7 := Lib.hid hf7
      clear hT7 hB7 hn7 hf7
      obtain ⟨c0, c1, c2, c3, fn, s0, fs, htb, hsb⟩ := HT7.out.cells HD.out
      simp only [Tr.ptr] at s0
      clear c0 c1 c2 c3 fn
      go_wp2
      go_ret
      refine ⟨rfl, HB7.out.setCell HBS.out _, w3.heap.size, wc.heap.size, HB3.out.size, hsz5, ?_⟩
      rw [HK1.out]
      have HBN2 := Lib.hid (show sb ≠ wc.heap.size by have := (HT3.out.cells HD.out).2.2.2.2.2.2.2.2; omega)
      have INN : (Tr.node w3.heap.size p v true .nil .nil).In (w7.setCell ⟨sb, so, none⟩ (forkT w3.heap.size wc.heap.size (com q p) p v 0 (.node b q u hv l r)).ptr) := ⟨(heap_setCell_other _ _ _ _ (Ne.symm HBN.out)).trans HN7.out, trivial, trivial⟩
      have INS : (Tr.node b q u hv l r).In (w7.setCell ⟨sb, so, none⟩ (forkT w3.heap.size wc.heap.size (com q p) p v 0 (.node b q u hv l r)).ptr) := (HT7.out.sub HD.out).1.same fun k hk => heap_setCell_other _ _ _ _ (fun e => HT7.out.slot_apart HD.out (by rw [← e]; exact hk))
      have hX : (forkT w3.heap.size wc.heap.size (com q p) p v 0 (.node b q u hv l r)).In (w7.setCell ⟨sb, so, none⟩ (forkT w3.heap.size wc.heap.size (com q p) p v 0 (.node b q u hv l r)).ptr) := ⟨(heap_setCell_other _ _ _ _ (Ne.symm HBN2.out)).trans HF7.out, INN, INS⟩
      refine HT7.out.put HD.out hX ⟨HOC.out, ⟨HP.out, trivial, trivial⟩, (HT7.out.sub HD.out).2.1⟩ ?_ (fun k hk => ?_)
      · show (wc.heap.size :: ([w3.heap.size] ++ (Tr.node b q u hv l r).blocks)).Nodup
        have hN1 : w3.heap.size ∉ (Tr.node b q u hv l r).blocks := fun h1 => by have := HNB.out _ h1; omega
        have hN2 : wc.heap.size ∉ (Tr.node b q u hv l r).blocks := fun h1 => by have := HNB.out _ h1; omega
        have hN3 : wc.heap.size ≠ w3.heap.size := by omega
        rw [List.nodup_cons, List.nodup_append, List.mem_append, List.mem_singleton]
        refine ⟨by rintro (h1 | h1) <;> first | exact hN3 h1 | exact hN2 h1, by first | exact HSN.out | simp, by first | exact HSN.out | simp, ?_⟩
        intro x hx y hy e
        subst e
        first | (rw [List.mem_singleton] at hx; subst hx; exact hN1 hy) | (rw [List.mem_singleton] at hy; subst hy; exact hN1 hx)
      · have hk' : k ∈ wc.heap.size :: ([w3.heap.size] ++ (Tr.node b q u hv l r).blocks) := hk
        rw [List.mem_cons, List.mem_append, List.mem_singleton] at hk'
        have hnew : ∀ j, w3.heap.size ≤ j → base ≤ j ∧ j ≠ tb ∧ (j ∈ T.blocks → j ∈ (Tr.node b q u hv l r).blocks) := fun j hj =>
          ⟨Nat.le_trans HB3B hj, by have := HTL.out; omega, fun h1 => absurd (HT3.out.isin.lt _ h1) (by omega)⟩
        have hold : k ∈ (Tr.node b q u hv l r).blocks → base ≤ k ∧ k ≠ tb ∧ (k ∈ T.blocks → k ∈ (Tr.node b q u hv l r).blocks) := fun h1 => by
          have := (HT3.out.sub HD.out).2.2.1 k h1
          exact ⟨this.2.1, this.2.2.1, fun _ => h1⟩
        rcases hk' with h1 | h1 | h1
        · exact hnew k (by omega)
        · first | exact hold h1 | exact hnew k (by omega)
        · first | exact hold h1 | exact hnew k (by omega)
    · have HK1 := Lib.hid hk
      have HK2 := Lib.hid hk2
      clear hk hk2
      go_region_held3 (fun w' => w'.cell? ⟨w.heap.size, 0, none⟩ = some (.int .u32 p.1) ∧ w'.cell? ⟨C, 1, none⟩ = some (.int .i64 (com q p).2) ∧ w'.cell? ⟨b, 0, none⟩ = some (.int .u32 q.1)) (first | exact K6.out _ (by repeat (first | assumption | exact Below.refl _ _ | refine Below.drew ?_ | refine Below.setCell ?_ (by exact Nat.le_refl _) _))) ((go_at_call 50; first | (with_reducible refine (bit_k p.1 (com q p).2 1 _ hz2 hn1 HK1.out).mono ?_; rintro e w6 ⟨rfl, rfl⟩) | (with_reducible refine (bit_k q.1 (com q p).2 0 _ hz1 hn1 HK2.out).mono ?_; rintro e w6 ⟨rfl, rfl⟩)))
      go_upto_region 27 with fail
      refine wp_gen (fun w' => Trie w' base tb T lim (n + 1) ∧ Frm base tb T w w' ∧ w'.heap[w3.heap.size]? = some (.cells (Tr.cells p v true (.pointer none) (.pointer none)).toArray 110 (0, 0)) ∧ w'.heap[wc.heap.size]? = some (.cells (Tr.cells (com q p) zWay false (Value.pointer (some ⟨b, 0, none⟩)) (Value.pointer (some ⟨w3.heap.size, 0, none⟩))).toArray 110 (0, 0))) ?_ ?_
      · refine ⟨?_, ((HB6.out.setCell HBW.out _).setCell HBW.out _).drew, ?_, ?_⟩
        · exact HT6.out.keep (fun k hk => by
            have hne : k ≠ wc.heap.size := by
              rcases hk with rfl | hk
              · have := HTL.out; omega
              · have := HT3.out.isin.lt _ hk; omega
            exact (heap_setCell_other _ _ _ _ hne).trans (heap_setCell_other _ _ _ _ hne))
        · exact ((heap_setCell_other _ _ _ _ (by show w3.heap.size ≠ wc.heap.size; omega)).trans (heap_setCell_other _ _ _ _ (by show w3.heap.size ≠ wc.heap.size; omega))).trans HN6.out
        · have e1 := heap_setCell_same _ _ 261 _ _ (Value.pointer (some ⟨w3.heap.size, 0, none⟩)) HF6.out
          rw [List.setIfInBounds_toArray, Tr.cells_set261] at e1
          have e2 := heap_setCell_same _ _ 260 _ _ (Value.pointer (some ⟨b, 0, none⟩)) e1
          rw [List.setIfInBounds_toArray, Tr.cells_set260] at e2
          exact e2
      clear f0 f1 g0 g1 p0 p1 d0
      rintro w7 ⟨hT7, hB7, hn7, hf7⟩
      have HT7 := Lib.hid hT7; have HB7 := Lib.hid hB7; have HN7 := Lib.hid hn7; have HF7 := Lib.hid hf7
      clear hT7 hB7 hn7 hf7
      obtain ⟨c0, c1, c2, c3, fn, s0, fs, htb, hsb⟩ := HT7.out.cells HD.out
      simp only [Tr.ptr] at s0
      clear c0 c1 c2 c3 fn
      go_wp2
      go_ret
      refine ⟨rfl, HB7.out.setCell HBS.out _, w3.heap.size, wc.heap.size, HB3.out.size, hsz5, ?_⟩
      rw [HK1.out]
      have HBN2 := Lib.hid (show sb ≠ wc.heap.size by have := (HT3.out.cells HD.out).2.2.2.2.2.2.2.2; omega)
      have INN : (Tr.node w3.heap.size p v true .nil .nil).In (w7.setCell ⟨sb, so, none⟩ (forkT w3.heap.size wc.heap.size (com q p) p v 1 (.node b q u hv l r)).ptr) := ⟨(heap_setCell_other _ _ _ _ (Ne.symm HBN.out)).trans HN7.out, trivial, trivial⟩
      have INS : (Tr.node b q u hv l r).In (w7.setCell ⟨sb, so, none⟩ (forkT w3.heap.size wc.heap.size (com q p) p v 1 (.node b q u hv l r)).ptr) := (HT7.out.sub HD.out).1.same fun k hk => heap_setCell_other _ _ _ _ (fun e => HT7.out.slot_apart HD.out (by rw [← e]; exact hk))
      have hX : (forkT w3.heap.size wc.heap.size (com q p) p v 1 (.node b q u hv l r)).In (w7.setCell ⟨sb, so, none⟩ (forkT w3.heap.size wc.heap.size (com q p) p v 1 (.node b q u hv l r)).ptr) := ⟨(heap_setCell_other _ _ _ _ (Ne.symm HBN2.out)).trans HF7.out, INS, INN⟩
      refine HT7.out.put HD.out hX ⟨HOC.out, (HT7.out.sub HD.out).2.1, ⟨HP.out, trivial, trivial⟩⟩ ?_ (fun k hk => ?_)
      · show (wc.heap.size :: ((Tr.node b q u hv l r).blocks ++ [w3.heap.size])).Nodup
        have hN1 : w3.heap.size ∉ (Tr.node b q u hv l r).blocks := fun h1 => by have := HNB.out _ h1; omega
        have hN2 : wc.heap.size ∉ (Tr.node b q u hv l r).blocks := fun h1 => by have := HNB.out _ h1; omega
        have hN3 : wc.heap.size ≠ w3.heap.size := by omega
        rw [List.nodup_cons, List.nodup_append, List.mem_append, List.mem_singleton]
        refine ⟨by rintro (h1 | h1) <;> first | exact hN3 h1 | exact hN2 h1, by first | exact HSN.out | simp, by first | exact HSN.out | simp, ?_⟩
        intro x hx y hy e
        subst e
        first | (rw [List.mem_singleton] at hx; subst hx; exact hN1 hy) | (rw [List.mem_singleton] at hy; subst hy; exact hN1 hx)
      · have hk' : k ∈ wc.heap.size :: ((Tr.node b q u hv l r).blocks ++ [w3.heap.size]) := hk
        rw [List.mem_cons, List.mem_append, List.mem_singleton] at hk'
        have hnew : ∀ j, w3.heap.size ≤ j → base ≤ j ∧ j ≠ tb ∧ (j ∈ T.blocks → j ∈ (Tr.node b q u hv l r).blocks) := fun j hj =>
          ⟨Nat.le_trans HB3B hj, by have := HTL.out; omega, fun h1 => absurd (HT3.out.isin.lt _ h1) (by omega)⟩
        have hold : k ∈ (Tr.node b q u hv l r).blocks → base ≤ k ∧ k ≠ tb ∧ (k ∈ T.blocks → k ∈ (Tr.node b q u hv l r).blocks) := fun h1 => by
          have := (HT3.out.sub HD.out).2.2.1 k h1
          exact ⟨this.2.1, this.2.2.1, fun _ => h1⟩
        rcases hk' with h1 | h1 | h1
        · exact hnew k (by omega)
        · first | exact hold h1 | exact hnew k (by omega)
        · first | exact hold h1 | exact hnew k (by omega)
end Go.Proofs.Ytbcekjbckeljmaa
