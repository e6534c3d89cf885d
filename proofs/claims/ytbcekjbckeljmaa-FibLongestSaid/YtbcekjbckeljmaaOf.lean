/- FibLongest: what is looked up has the address, is among the entries, and none of them is longer and has it. -/
import Derived.Test.YtbcekjbckeljmaaOe
import Derived.Test.YtbcekjbckeljmaaOd
import Derived.Test.YtbcekjbckeljmaaOp
import Derived.Test.YtbcekjbckeljmaaOq
set_option linter.unusedVariables false
set_option linter.unusedSimpArgs false
namespace Go.Proofs.Ytbcekjbckeljmaa
open Go.RowKit Px Go.Shelf
set_option maxHeartbeats 1000000
set_option maxRecDepth 10000
attribute [local go_sem high] eql47 neq47 loadRow_way loadRow_arr wayA_back arrA_back
attribute [local go_sem low] loadRowOf_some
attribute [local go_sem ↓] load54 store54 alloc54 load52 store52 alloc52 build180 build185
attribute [local go_sem] rload54 rstore54 rload52 rstore52 ralloc54 ralloc52 rbuild180 rbuild185 rfork180
attribute [local go_sem] size_drewN rowAt_alloc_past rowAt_alloc_at rowAt_drew rowAt_drewN thawed_alloc_past thawed_alloc_at thawed_drew thawed_drewN okCells_way storeRowOf_some putRow_drew putRow_drewN putRow_alloc_past putRow_alloc_at wayA_size wayA_toList cells_way arrA_toList cells_arr
attribute [local go_sem] Oper.semAt_some thawed_setCell rowAt_setCell_lt rowAt_setCell_gt cell?_putRow_lt cell?_putRow_gt frozen?_putRow_lt frozen?_putRow_gt pfA_lit
attribute [local go_sem ↓] build54
attribute [local go_sem high] eqlWay neqWay
theorem rbuild54z' (w : World) : (bigBuild 33 #[]).run Try.prog w = .ok (.agg (wayA zWay)) w := by kernel_rfl
attribute [local go_sem] rbuild54a rbuild54z' wayCells_length

/-- the law's boxes -/
structure LB (b3 b7 a pa pl : Nat) (pv : Way) (is found : Bool) (W : World) : Prop where
  h3 : W.heap[b3]? = some (.cells #[.int .u32 a] 23 (0, 0))
  h4 : W.heap[b3 + 1]? = some (.cells #[.bool false] 4 (0, 0))
  h7 : W.heap[b7]? = some (.cells #[.int .u32 pa, .int .i64 pl] 25 (0, 0))
  h8 : W.heap[b7 + 1]? = some (.cells (wayA pv) 33 (0, 0))
  h9 : W.heap[b7 + 1 + 1]? = some (.cells #[.bool is] 4 (0, 0))
  h10 : W.heap[b7 + 1 + 1 + 1]? = some (.cells #[.bool found] 4 (0, 0))
section
variable {b3 b7 a pa pl : Nat} {pv : Way} {is found : Bool} {W W' : World}
theorem LB.keep (h : LB b3 b7 a pa pl pv is found W) (hb : Below W.heap.size W W') : LB b3 b7 a pa pl pv is found W' := by
  have key : ∀ {k : Nat} {o : Obj}, W.heap[k]? = some o → W'.heap[k]? = some o := fun hk => (hb.block _ (Array.getElem?_eq_some_iff.1 hk).1).trans hk
  exact ⟨key h.h3, key h.h4, key h.h7, key h.h8, key h.h9, key h.h10⟩
theorem LB.own (h : LB b3 b7 a pa pl pv is found W) {row : Option Nat} (hg : W.grownBy W' row) (hr : ∀ r, row = some r → ∃ o : Obj, W.heap[r]? = some o ∧ o.isCells = false) : LB b3 b7 a pa pl pv is found W' :=
  ⟨blk_kept h.h3 rfl hg hr, blk_kept h.h4 rfl hg hr, blk_kept h.h7 rfl hg hr, blk_kept h.h8 rfl hg hr, blk_kept h.h9 rfl hg hr, blk_kept h.h10 rfl hg hr⟩
theorem LB.cells (h : LB b3 b7 a pa pl pv is found W) : W.cell? ⟨b3, 0, none⟩ = some (.int .u32 a) ∧ W.cell? ⟨b3 + 1, 0, none⟩ = some (.bool false) ∧ W.cell? ⟨b7, 0, none⟩ = some (.int .u32 pa) ∧ W.cell? ⟨b7, 1, none⟩ = some (.int .i64 pl) ∧ rowAt W ⟨b7 + 1, 0, none⟩ 257 = some (wayCells pv) ∧ W.cell? ⟨b7 + 1 + 1, 0, none⟩ = some (.bool is) ∧ W.cell? ⟨b7 + 1 + 1 + 1, 0, none⟩ = some (.bool found) ∧ W.frozen? ⟨b7 + 1 + 1 + 1, 0, none⟩ = false ∧ W.frozen? ⟨b3 + 1, 0, none⟩ = false :=
  ⟨by simp [World.cell?, h.h3], by simp [World.cell?, h.h4], by simp [World.cell?, h.h7], by simp [World.cell?, h.h7], WayAt.row h.h8, by simp [World.cell?, h.h9], by simp [World.cell?, h.h10], by simp [World.frozen?, h.h10], by simp [World.frozen?, h.h4]⟩
theorem LB.set (h : LB b3 b7 a pa pl pv is found W) (hne : b3 + 1 < b7) : LB b3 b7 a pa pl pv is true (W.setCell ⟨b7 + 1 + 1 + 1, 0, none⟩ (.bool true)) := by
  have key : ∀ {k : Nat} {o : Obj}, k ≠ b7 + 1 + 1 + 1 → W.heap[k]? = some o → (W.setCell ⟨b7 + 1 + 1 + 1, 0, none⟩ (.bool true)).heap[k]? = some o := fun hk h => (heap_setCell_other _ _ _ _ hk).trans h
  exact ⟨key (by omega) h.h3, key (by omega) h.h4, key (by omega) h.h7, key (by omega) h.h8, key (by omega) h.h9, by rw [heap_setCell_same _ _ _ _ _ _ h.h10]; rfl⟩
end
theorem RtS0.keep {w w' : World} {o : Option Addr} {L : List Rt} (h : RtS0 w o L) (hb : Below w.heap.size w w') : RtS0 w' o L := by
  intro i hi
  obtain ⟨a, ha, c0, c1, c2, c3, c4, c5, hr⟩ := h i hi
  exact ⟨a, ha, pw_cell hb c0, pw_cell hb c1, pw_cell hb c2, pw_cell hb c3, pw_cell hb c4, pw_cell hb c5, ⟨hr.a, hr.s.keep hb⟩⟩
theorem eqlSeq (f : Fn) (c b : Array Value) (w : World) : (binOp .eql 48 (.func f c b) .nilFunc).run Try.prog w = .ok (.bool false) w := by
  have h : ∀ d : Nat, (Op.equalIn (d + 1) 48 (.func f c b) .nilFunc).run Try.prog w = .ok false w := fun d => by
    simp [Op.equalIn, run_underlying Try.underlying48]
  simp only [binOp]
  simp [Op.equal, Op.maxDepth, h 9999]
attribute [local go_sem high] eqlSeq
theorem fibLongest_any (o : Option Addr) (cap : Nat) (L : List Rt) (a : Nat) (w : World) (hS : RtS0 w o L) (ha : a < 4294967296) :
    Calls Try.prog 4 #[.slice o L.length cap, .int .u32 a] w fun e w' => e = .returned (.bool true) ∧ Below w.heap.size w w' := by
  rw [← callsIn_wide (n := 10)]
  refine callsIn_of_wp_marks Try.func4 rfl trivial ?_ rfl
  simp only [Try.ntmps4, List.size_toArray, List.length_cons, List.length_nil, Nat.reduceAdd, Nat.reduceSub, Array.replicate_succ, Array.replicate_zero, List.push_toArray, List.append_toArray, List.nil_append, List.cons_append]
  have hB0 : Below w.heap.size w ((w.alloc (.cells #[.int .u32 a] 23)).alloc (.cells #[.bool false] 4)) := ((Below.refl _ w).alloc (Nat.le_refl _) _).alloc (by simp) _
  have hB3 : ((w.alloc (.cells #[.int .u32 a] 23)).alloc (.cells #[.bool false] 4)).heap[w.heap.size]? = some (.cells #[.int .u32 a] 23 (0, 0)) := (Below.heap_alloc _ _ _ (by simp)).trans (heap_alloc_at _ _ _ rfl)
  have hB4 : ((w.alloc (.cells #[.int .u32 a] 23)).alloc (.cells #[.bool false] 4)).heap[w.heap.size + 1]? = some (.cells #[.bool false] 4 (0, 0)) := heap_alloc_at _ _ _ (by simp)
  have hsz : ((w.alloc (.cells #[.int .u32 a] 23)).alloc (.cells #[.bool false] 4)).heap.size = w.heap.size + 2 := by simp
  have HKN : Hid (∀ w1 : World, Below ((w.alloc (.cells #[.int .u32 a] 23)).alloc (.cells #[.bool false] 4)).heap.size ((w.alloc (.cells #[.int .u32 a] 23)).alloc (.cells #[.bool false] 4)) w1 → w1.cell? ⟨w.heap.size, 0, none⟩ = some (.int .u32 a) ∧ w1.cell? ⟨w.heap.size + 1, 0, none⟩ = some (.bool false) ∧ w1.frozen? ⟨w.heap.size + 1, 0, none⟩ = false) := Lib.hid (fun w1 hb => by
    have h3 := (hb.block w.heap.size (by omega)).trans hB3
    have h4 := (hb.block (w.heap.size + 1) (by omega)).trans hB4
    exact ⟨by simp [World.cell?, h3], by simp [World.cell?, h4], by simp [World.frozen?, h4]⟩)
  have HB0 := Lib.hid hB0
  have HB3 := Lib.hid (And.intro hB3 hB4)
  clear hB0 hB3 hB4
  by_cases h300 : 300 < L.length
  · have hl : (300 : Int) < L.length := by omega
    gi_wp2
    refine ⟨trivial, ?_⟩
    gi_wp2
    refine ⟨trivial, callsIn_wide.2 ((known_any _).mono ?_)⟩
    rintro e w1 ⟨rfl, hb1⟩
    obtain ⟨k3, k4, kf⟩ := HKN.out w1 hb1
    gi_wp2
    exact ⟨_, results_row Try.results4 _ _ ⟨w.heap.size + 1, 0, none⟩ rfl (load4 (World.cell?_setCell_same _ _ _ k4)), rfl, (HB0.out.trans (hb1.mono (by omega))).setCell (show w.heap.size ≤ w.heap.size + 1 by omega) _⟩
  · have hl : ¬ (300 : Int) < L.length := by omega
    gi_wp2
    refine ⟨trivial, callsIn_wide.2 ((much_any o cap L _ (hS.keep HB0.out)).mono ?_)⟩
    rintro e w1 ⟨b, rfl, hlen, rfl⟩
    cases b with
    | true =>
      gi_wp2
      refine ⟨trivial, callsIn_wide.2 ((known_any _).mono ?_)⟩
      rintro e w1 ⟨rfl, hb1⟩
      obtain ⟨k3, k4, kf⟩ := HKN.out w1 hb1
      gi_wp2
      exact ⟨_, results_row Try.results4 _ _ ⟨w.heap.size + 1, 0, none⟩ rfl (load4 (World.cell?_setCell_same _ _ _ k4)), rfl, (HB0.out.trans (hb1.mono (by omega))).setCell (show w.heap.size ≤ w.heap.size + 1 by omega) _⟩
    | false =>
      have hR := (hS.keep HB0.out).full (hlen rfl)
      have hM := Lib.hid (make_any o cap L _ hR (by omega))
      clear hlen hS
      gi_wp2
      refine ⟨trivial, callsIn_wide.2 (hM.out.mono ?_)⟩
      clear hM hR
      rintro e w1 ⟨hb1, he⟩
      obtain ⟨k3, k4, kf⟩ := HKN.out w1 hb1
      cases hmk : makeL L [] with
      | none =>
        rw [hmk] at he
        have he' : e = .returned (.tuple #[.pointer none, .int .i64 2]) := he
        subst he'
        clear he hmk
        gi_wp2
        refine ⟨trivial, callsIn_wide.2 ((num_any _ _).mono ?_)⟩
        rintro e w' ⟨rfl, rfl⟩
        gi_wp2
        refine ⟨trivial, callsIn_wide.2 ((known_any _).mono ?_)⟩
        rintro e w2 ⟨rfl, hb2⟩
        clear k3 k4 kf
        obtain ⟨k3, k4, kf⟩ := HKN.out w2 (hb1.trans (hb2.mono hb1.size))
        gi_wp2
        exact ⟨_, results_row Try.results4 _ _ ⟨w.heap.size + 1, 0, none⟩ rfl (load4 (World.cell?_setCell_same _ _ _ k4)), rfl, (HB0.out.trans ((hb1.trans (hb2.mono hb1.size)).mono (by omega))).setCell (show w.heap.size ≤ w.heap.size + 1 by omega) _⟩
      | some acc =>
        rw [hmk] at he
        have hacc := makeL_len _ _ _ hmk
        simp only [List.length_nil, Nat.zero_add] at hacc
        clear hmk
        obtain ⟨fb, tb, T, rfl, hF⟩ : ∃ fb tb T, e = .returned (.tuple #[.pointer (some ⟨fb, 0, none⟩), .int .i64 0]) ∧ MkF ((w.alloc (.cells #[.int .u32 a] 23)).alloc (.cells #[.bool false] 4)) w1 fb tb T L.length acc := he
        have HF := Lib.hid hF
        have HENT := Lib.hid (show T.ents.length ≤ 100000 from Nat.le_trans (nodup_sub _ acc (Tr.ents_nodup hF.wf hF.t.okp) (fun x hx => (hF.e x).1 hx)) (by omega))
        have HOK := Lib.hid (show ∀ x ∈ T.ents, ok x.1 from fun x hx => Tr.okp_keys hF.t.okp _ (Tr.ents_keys hx))
        have HY := Lib.hid (lkE_yes ha hF.wf hF.t.okp)
        have HNO := Lib.hid (lkE_no ha hF.wf hF.t.okp)
        have HLK := Lib.hid (lookup_any T a _ fb tb _ _ w1 hF.fcell hF.t hF.wf ha)
        have HBW := Lib.hid (show Below w.heap.size w w1 from HB0.out.trans (hb1.mono (by omega)))
        have hs1 : w.heap.size + 2 ≤ w1.heap.size := by have := hb1.size; omega
        have hw3 : Hid (w1.heap[w.heap.size]? = some (.cells #[.int .u32 a] 23 (0, 0)) ∧ w1.heap[w.heap.size + 1]? = some (.cells #[.bool false] 4 (0, 0))) := Lib.hid ⟨(hb1.block _ (by omega)).trans HB3.out.1, (hb1.block _ (by omega)).trans HB3.out.2⟩
        clear hF hb1 hsz HKN k4 kf
        generalize lkE T a = r at *
        obtain ⟨⟨⟨pa, pl⟩, pv⟩, is⟩ := r
        gi_wp2
        refine ⟨trivial, callsIn_wide.2 ((num_any _ _).mono ?_)⟩
        rintro e w' ⟨rfl, rfl⟩
        gi_wp2
        refine ⟨trivial, callsIn_wide.2 (HLK.out.mono ?_)⟩
        rintro e w2 ⟨rfl, hb2⟩
        gi_wp2
        have hs2 := hb2.size
        have hq : Below w2.heap.size w2 ((((w2.alloc (.cells #[.int .u32 pa, .int .i64 pl] 25)).alloc (.cells (wayA pv) 33)).alloc (.cells #[.bool is] 4)).alloc (.cells #[.bool false] 4)) := ((((Below.refl _ w2).alloc (Nat.le_refl _) _).alloc (by simp) _).alloc (by first | (simp; done) | (simp; omega)) _).alloc (by first | (simp; done) | (simp; omega)) _
        have hLB : LB w.heap.size w2.heap.size a pa pl pv is false ((((w2.alloc (.cells #[.int .u32 pa, .int .i64 pl] 25)).alloc (.cells (wayA pv) 33)).alloc (.cells #[.bool is] 4)).alloc (.cells #[.bool false] 4)) := by
          have e3 := (hq.block w.heap.size (by omega)).trans ((hb2.block _ (by omega)).trans hw3.out.1)
          have e4 := (hq.block (w.heap.size + 1) (by omega)).trans ((hb2.block _ (by omega)).trans hw3.out.2)
          exact ⟨e3, e4, (Below.heap_alloc _ _ _ (by first | (simp; done) | (simp; omega))).trans ((Below.heap_alloc _ _ _ (by first | (simp; done) | (simp; omega))).trans ((Below.heap_alloc _ _ _ (by simp)).trans (heap_alloc_at _ _ _ rfl))),
            (Below.heap_alloc _ _ _ (by first | (simp; done) | (simp; omega))).trans ((Below.heap_alloc _ _ _ (by simp)).trans (heap_alloc_at _ _ _ (by simp))),
            (Below.heap_alloc _ _ _ (by simp)).trans (heap_alloc_at _ _ _ (by simp)), heap_alloc_at _ _ _ (by simp)⟩
        have hsz3 : ((((w2.alloc (.cells #[.int .u32 pa, .int .i64 pl] 25)).alloc (.cells (wayA pv) 33)).alloc (.cells #[.bool is] 4)).alloc (.cells #[.bool false] 4)).heap.size = w2.heap.size + 4 := by simp
        have hF3 := (HF.out.keep hb2).keep hq
        have hB3 : Below w.heap.size w _ := HBW.out.trans ((hb2.trans (hq.mono hs2)).mono HBW.out.size)
        generalize (((w2.alloc (.cells #[.int .u32 pa, .int .i64 pl] 25)).alloc (.cells (wayA pv) 33)).alloc (.cells #[.bool is] 4)).alloc (.cells #[.bool false] 4) = w3 at *
        refine ⟨trivial, callsIn_wide.2 ((fall_any T _ fb tb _ _ w3 hF3.fcell hF3.t HENT.out).mono ?_)⟩
        rintro e w4 ⟨hb4, B, v, rfl, hB, hv, hrow⟩
        have hs4 := hb4.size
        have hLB4 := hLB.keep hb4
        have hB4 : Below w.heap.size w w4 := hB3.trans (hb4.mono hB3.size)
        have hES := EntS.of_own hrow
        have hBlt : B < w4.heap.size := World.block_lt_of_cell? w4 _ hv
        clear hF3 hLB hB3 hq hb2 hw3 hrow HLK HF HB3 HBW hb4
        have HSZ3 := Lib.hid hsz3
        clear hsz3
        gi_wp2
        have hn3 : w2.heap.size + 4 = w3.heap.size := HSZ3.out.symm
        have HRG := Lib.hid (show w2.heap.size + 4 ≤ w3.heap.size by omega)
        clear hn3
        have h34 := HRG.out
        refine wpIn_rangeFunc_ownH rfl (by omega) (gf := 69) (lb := #[.pointer (some ⟨B, 0, none⟩)]) rfl trivial (enters_of Try.func69 (by kernel_rfl) rfl)
          (over_stopsF (fun (x : { x // x ∈ T.ents }) => x.1) Fence.wide 9 trivial rfl (by omega) B w3.heap.size w4.heap.size v T.ents.attach (by rw [List.length_attach]; exact HENT.out) w4 hBlt (Nat.le_refl _) hv (by rw [List.attach_map_subtype_val]; exact hES)) Mid.trans (midK_b (Nat.le_refl _)) (Below.refl _ _) (fun _ => rfl)
          (fun pre W => (LB w.heap.size w2.heap.size a pa pl pv is (pre.any fun x => decide (x.1 = ((pa, pl), pv))) W ∧ Below w.heap.size w W) ∧ w4.heap.size ≤ W.heap.size)
          (fun _ _ _ => False)
          (OwnFrom.and (OwnFrom.and (Own.from (fun s X Y row hs hg hr => hs.own hg hr) _) (ownFrom_below (Nat.le_refl _) (by omega))) (fun s X Y row hs hg hr => Nat.le_trans hs hg.size))
          (fun _ _ _ _ _ hs _ _ => hs)
          ⟨⟨hLB4, hB4⟩, Nat.le_refl _⟩
          (fun x a' W => ∃ Bx, w4.heap.size ≤ Bx ∧ W.heap[Bx]? = some (.cells (pfA x.1.1) 25 (0, 0)) ∧ W.heap[Bx + 1]? = some (.cells (wayA x.1.2) 33 (0, 0)) ∧ a' = { tmps := #[Value.slice o L.length cap, Value.int IntKind.u32 ↑a, undef, Value.pointer (some { block := w.heap.size, off := 0 }), Value.pointer (some { block := w.heap.size + 1, off := 0 }), Value.pointer (some { block := fb, off := 0 }), Value.int IntKind.i64 0, Value.pointer (some { block := w2.heap.size, off := 0 }), Value.pointer (some { block := w2.heap.size + 1, off := 0 }), Value.pointer (some { block := w2.heap.size + 1 + 1, off := 0 }), Value.pointer (some { block := w2.heap.size + 1 + 1 + 1, off := 0 }), Value.func (.func 69) #[] #[Value.pointer (some { block := B, off := 0 })], Value.pointer (some { block := Bx, off := 0 }), Value.pointer (some { block := Bx + 1, off := 0 }), Value.slice o L.length cap, Value.int IntKind.i64 ↑L.length, Value.bool false, Value.bool false, Value.slice o L.length cap, Value.bool false, Value.bool false, undef, Value.tuple #[Value.pointer (some { block := fb, off := 0 }), Value.int IntKind.i64 0], Value.slice o L.length cap, Value.tuple #[Value.pointer (some { block := fb, off := 0 }), Value.int IntKind.i64 0], Value.pointer (some { block := fb, off := 0 }), Value.int IntKind.i64 0, Value.int IntKind.i64 0, Value.int IntKind.i64 0, Value.bool false, undef, Value.tuple #[Value.agg #[Value.int IntKind.u32 ↑pa, Value.int IntKind.i64 ↑pl], Value.agg (wayA pv), Value.bool is], Value.pointer (some { block := fb, off := 0 }), Value.int IntKind.u32 ↑a, Value.tuple #[Value.agg #[Value.int IntKind.u32 ↑pa, Value.int IntKind.i64 ↑pl], Value.agg (wayA pv), Value.bool is], Value.agg #[Value.int IntKind.u32 ↑pa, Value.int IntKind.i64 ↑pl], Value.agg (wayA pv), Value.bool is, Value.pointer (some { block := fb, off := 0 }), Value.func (.func 69) #[] #[Value.pointer (some { block := B, off := 0 })], Value.func (.func 69) #[] #[Value.pointer (some { block := B, off := 0 })], Value.bool false, Value.func (.func 69) #[] #[Value.pointer (some { block := B, off := 0 })], Value.agg #[Value.int IntKind.u32 ↑x.1.fst.fst, Value.int IntKind.i64 ↑x.1.fst.snd], Value.agg (wayA x.1.snd), undef, undef, undef, undef, undef, undef, undef, undef, undef, undef, undef, undef, undef, undef, undef, undef, undef, undef, undef, undef, undef, undef, undef, undef, undef, undef, undef, undef, undef, undef, undef, undef, undef, undef, undef, undef, undef, undef, undef, undef, undef, undef, undef, undef, undef], defers := [] })
          (fun x a' _ X Y row hs hg hr => by obtain ⟨Bx, h1, h2, h3, h4⟩ := hs; exact ⟨Bx, h1, blk_kept h2 rfl hg (fun r e => (hr r e).2), blk_kept h3 rfl hg (fun r e => (hr r e).2), h4⟩)
          ?assign ?body ?done ?stop
        case assign =>
          rintro l pre x W K ⟨⟨hM, hBW⟩, hle⟩ hK
          gi_wp2
          have hsW := hBW.size
          exact hK _ _ (((KeepsOthers.alloc _ _).trans (KeepsOthers.alloc _ _)).from _) (((Mid.refl _ _ _).alloc hle _).alloc (by simp; omega) _) ⟨⟨hM.keep (((Below.refl _ _).alloc (Nat.le_refl _) _).alloc (by simp) _), (hBW.alloc hsW _).alloc (by simp; omega) _⟩, by simp; omega⟩ ⟨W.heap.size, hle, (Below.heap_alloc _ _ _ (by simp)).trans (heap_alloc_at _ _ _ rfl), heap_alloc_at _ _ _ (by simp), rfl⟩
        case body =>
          rintro l pre x a' W hl ⟨r, hr⟩ ⟨⟨hM, hBW⟩, hle⟩ ⟨Bx, hBx, hX1, hX2, rfl⟩ hlt
          have hok := HOK.out _ x.2
          have HCV : Hid (cov x.1.1 (host a) → is = true ∧ x.1.1.2 ≤ pl) := Lib.hid (fun hc => by
            cases is with
            | false => exact absurd hc ((HNO.out rfl).2 _ x.2)
            | true => exact ⟨rfl, (HY.out rfl).2.2 _ x.2 hc⟩)
          have HAS := fun W => Lib.hid (has_ok x.1.1 a W hok ha)
          have HFND := Lib.hid (show ∀ b : Bool, b = decide (x.1 = ((pa, pl), pv)) → ((pre ++ [x]).any fun x => decide (x.1 = ((pa, pl), pv))) = ((pre.any fun x => decide (x.1 = ((pa, pl), pv))) || b) from fun b hb => by rw [hb]; simp)
          generalize (pre.any fun x => decide (x.1 = ((pa, pl), pv))) = fnd at *
          have x0 : W.cell? ⟨Bx, 0, none⟩ = some (.int .u32 x.1.1.1) := by simp [World.cell?, hX1, pfA]
          have x1 : W.cell? ⟨Bx, 1, none⟩ = some (.int .i64 x.1.1.2) := by simp [World.cell?, hX1, pfA]
          have x2 := WayAt.row hX2
          obtain ⟨m3, m4, m7, m7', m8, m9, m10, f10, f4⟩ := hM.cells
          have HM := Lib.hid hM
          have hBx2 : w2.heap.size + 4 ≤ Bx := by omega
          obtain ⟨⟨⟨ea, el⟩, ev⟩, hx⟩ := x
          simp only [] at *
          clear hM hr
          by_cases he1 : (ea, el) = (pa, pl)
          · have hb1 := pxEq_yes he1
            simp only [] at hb1
            by_cases he2 : ev = pv
            · have hb2 : decide (ev = pv) = true := by simpa using he2
              have HF2 := Lib.hid (HFND.out true (decide_eq_true (Prod.ext he1 he2)).symm)
              rw [Bool.or_true] at HF2
              have HE := Lib.hid (And.intro he1 he2)
              clear HFND he1 he2
              gi_wp2
              refine ⟨trivial, CallsIn.inRound l (callsIn_wide.2 ((HAS _).out.mono ?_))⟩
              rintro e W2 ⟨rfl, hbw⟩
              have hFAR : Hid ((∀ k, k < W.heap.size → k ≠ w2.heap.size + 1 + 1 + 1 → W2.heap[k]? = W.heap[k]?) ∧ W.heap.size ≤ W2.heap.size) := Lib.hid ⟨fun k h1 h2 => (hbw.block k (by simpa using h1)).trans (heap_setCell_other _ _ _ _ h2), by have := hbw.size; simpa using this⟩
              have HM2 := Lib.hid ((HM.out.set (by omega)).keep hbw)
              have HB2 := Lib.hid ((hBW.setCell (show w.heap.size ≤ w2.heap.size + 1 + 1 + 1 by omega) (.bool true)).trans (hbw.mono (by have := hBW.size; simpa using this)))
              have x0 : W2.cell? ⟨Bx, 0, none⟩ = some (.int .u32 ea) := by
                rw [World.cell?_of_block (w := W) (hFAR.out.1 Bx (Array.getElem?_eq_some_iff.1 hX1).1 (by omega))]; exact x0
              have x1 : W2.cell? ⟨Bx, 1, none⟩ = some (.int .i64 el) := by
                rw [World.cell?_of_block (w := W) (hFAR.out.1 Bx (Array.getElem?_eq_some_iff.1 hX1).1 (by omega))]; exact x1
              clear m3 m4 m7 m7' m8 m9 m10 f10 f4 x2
              obtain ⟨m3, m4, m7, m7', m8, m9, m10, f10, f4⟩ := HM2.out.cells
              have hPOST : Hid (KeepsFrom w4.heap.size W W2 ∧ Mid w3.heap.size w4.heap.size W W2 ∧ w4.heap.size ≤ W2.heap.size) := Lib.hid ⟨⟨hFAR.out.2, fun k o h1 h2 _ => (hFAR.out.1 k (Array.getElem?_eq_some_iff.1 h2).1 (by omega)).trans h2⟩, ⟨hFAR.out.2, fun k h1 h2 => hFAR.out.1 k (by omega) (by omega)⟩, Nat.le_trans hle hFAR.out.2⟩
              have HX := Lib.hid (And.intro hX1 hX2)
              clear hX1 hX2
              by_cases hc : cov (ea, el) (host a)
              · obtain ⟨rfl, hel⟩ := HCV.out hc
                have hd : decide (cov (ea, el) (host a)) = true := by simpa using hc
                have hgt : ¬ ((pl : Int) < el) := by have : el ≤ pl := hel; omega
                rw [hd]
                clear hd hc
                gi_wp2
                exact ⟨hPOST.out.1, hPOST.out.2.1, ⟨by rw [HF2.out]; exact HM2.out, HB2.out⟩, hPOST.out.2.2⟩
              · have hd : decide (cov (ea, el) (host a)) = false := by simpa using hc
                rw [hd]
                clear hd hc
                gi_wp2
                exact ⟨hPOST.out.1, hPOST.out.2.1, ⟨by rw [HF2.out]; exact HM2.out, HB2.out⟩, hPOST.out.2.2⟩
            · have hb2 : decide (ev = pv) = false := by simpa using he2
              have HF2 := Lib.hid (HFND.out false (decide_eq_false (fun e => he2 (congrArg Prod.snd e))).symm)
              rw [Bool.or_false] at HF2
              have HE := Lib.hid he2
              clear HFND he1 he2
              gi_wp2
              refine ⟨trivial, CallsIn.inRound l (callsIn_wide.2 ((HAS _).out.mono ?_))⟩
              rintro e W2 ⟨rfl, hbw⟩
              have hFAR : Hid ((∀ k, k < W.heap.size → k ≠ w2.heap.size + 1 + 1 + 1 → W2.heap[k]? = W.heap[k]?) ∧ W.heap.size ≤ W2.heap.size) := Lib.hid ⟨fun k h1 h2 => hbw.block k h1, hbw.size⟩
              have HM2 := Lib.hid (HM.out.keep hbw)
              have HB2 := Lib.hid (hBW.trans (hbw.mono hBW.size))
              have x0 : W2.cell? ⟨Bx, 0, none⟩ = some (.int .u32 ea) := by
                rw [World.cell?_of_block (w := W) (hFAR.out.1 Bx (Array.getElem?_eq_some_iff.1 hX1).1 (by omega))]; exact x0
              have x1 : W2.cell? ⟨Bx, 1, none⟩ = some (.int .i64 el) := by
                rw [World.cell?_of_block (w := W) (hFAR.out.1 Bx (Array.getElem?_eq_some_iff.1 hX1).1 (by omega))]; exact x1
              clear m3 m4 m7 m7' m8 m9 m10 f10 f4 x2
              obtain ⟨m3, m4, m7, m7', m8, m9, m10, f10, f4⟩ := HM2.out.cells
              have hPOST : Hid (KeepsFrom w4.heap.size W W2 ∧ Mid w3.heap.size w4.heap.size W W2 ∧ w4.heap.size ≤ W2.heap.size) := Lib.hid ⟨⟨hFAR.out.2, fun k o h1 h2 _ => (hFAR.out.1 k (Array.getElem?_eq_some_iff.1 h2).1 (by omega)).trans h2⟩, ⟨hFAR.out.2, fun k h1 h2 => hFAR.out.1 k (by omega) (by omega)⟩, Nat.le_trans hle hFAR.out.2⟩
              have HX := Lib.hid (And.intro hX1 hX2)
              clear hX1 hX2
              by_cases hc : cov (ea, el) (host a)
              · obtain ⟨rfl, hel⟩ := HCV.out hc
                have hd : decide (cov (ea, el) (host a)) = true := by simpa using hc
                have hgt : ¬ ((pl : Int) < el) := by have : el ≤ pl := hel; omega
                rw [hd]
                clear hd hc
                gi_wp2
                exact ⟨hPOST.out.1, hPOST.out.2.1, ⟨by rw [HF2.out]; exact HM2.out, HB2.out⟩, hPOST.out.2.2⟩
              · have hd : decide (cov (ea, el) (host a)) = false := by simpa using hc
                rw [hd]
                clear hd hc
                gi_wp2
                exact ⟨hPOST.out.1, hPOST.out.2.1, ⟨by rw [HF2.out]; exact HM2.out, HB2.out⟩, hPOST.out.2.2⟩
          · have hb1 := pxEq_no he1
            simp only [] at hb1
            have HF2 := Lib.hid (HFND.out false (decide_eq_false (fun e => he1 (congrArg Prod.fst e))).symm)
            rw [Bool.or_false] at HF2
            have HE := Lib.hid he1
            clear HFND he1
            gi_wp2
            refine ⟨trivial, CallsIn.inRound l (callsIn_wide.2 ((HAS _).out.mono ?_))⟩
            rintro e W2 ⟨rfl, hbw⟩
            have hFAR : Hid ((∀ k, k < W.heap.size → k ≠ w2.heap.size + 1 + 1 + 1 → W2.heap[k]? = W.heap[k]?) ∧ W.heap.size ≤ W2.heap.size) := Lib.hid ⟨fun k h1 h2 => hbw.block k h1, hbw.size⟩
            have HM2 := Lib.hid (HM.out.keep hbw)
            have HB2 := Lib.hid (hBW.trans (hbw.mono hBW.size))
            have x0 : W2.cell? ⟨Bx, 0, none⟩ = some (.int .u32 ea) := by
              rw [World.cell?_of_block (w := W) (hFAR.out.1 Bx (Array.getElem?_eq_some_iff.1 hX1).1 (by omega))]; exact x0
            have x1 : W2.cell? ⟨Bx, 1, none⟩ = some (.int .i64 el) := by
              rw [World.cell?_of_block (w := W) (hFAR.out.1 Bx (Array.getElem?_eq_some_iff.1 hX1).1 (by omega))]; exact x1
            clear m3 m4 m7 m7' m8 m9 m10 f10 f4 x2
            obtain ⟨m3, m4, m7, m7', m8, m9, m10, f10, f4⟩ := HM2.out.cells
            have hPOST : Hid (KeepsFrom w4.heap.size W W2 ∧ Mid w3.heap.size w4.heap.size W W2 ∧ w4.heap.size ≤ W2.heap.size) := Lib.hid ⟨⟨hFAR.out.2, fun k o h1 h2 _ => (hFAR.out.1 k (Array.getElem?_eq_some_iff.1 h2).1 (by omega)).trans h2⟩, ⟨hFAR.out.2, fun k h1 h2 => hFAR.out.1 k (by omega) (by omega)⟩, Nat.le_trans hle hFAR.out.2⟩
            have HX := Lib.hid (And.intro hX1 hX2)
            clear hX1 hX2
            by_cases hc : cov (ea, el) (host a)
            · obtain ⟨rfl, hel⟩ := HCV.out hc
              have hd : decide (cov (ea, el) (host a)) = true := by simpa using hc
              have hgt : ¬ ((pl : Int) < el) := by have : el ≤ pl := hel; omega
              rw [hd]
              clear hd hc
              gi_wp2
              exact ⟨hPOST.out.1, hPOST.out.2.1, ⟨by rw [HF2.out]; exact HM2.out, HB2.out⟩, hPOST.out.2.2⟩
            · have hd : decide (cov (ea, el) (host a)) = false := by simpa using hc
              rw [hd]
              clear hd hc
              gi_wp2
              exact ⟨hPOST.out.1, hPOST.out.2.1, ⟨by rw [HF2.out]; exact HM2.out, HB2.out⟩, hPOST.out.2.2⟩
        case done =>
          rintro D ys W hD rfl ⟨⟨hM, hBW⟩, hle⟩ hK
          have hfd : (T.ents.attach.any fun x => decide (x.1 = ((pa, pl), pv))) = is := by
            cases is with
            | true =>
              rw [List.any_eq_true]
              exact ⟨⟨_, (HY.out rfl).1⟩, List.mem_attach _ _, by simp⟩
            | false =>
              rw [List.any_eq_false]
              intro x _ hx
              have hx := of_decide_eq_true hx
              have h0 := (HNO.out rfl).1
              rw [h0] at hx
              refine (HNO.out rfl).2 x.1 x.2 ?_
              rw [hx]
              exact cov_zero a ha
          rw [hfd] at hM
          clear hfd
          obtain ⟨m3, m4, m7, m7', m8, m9, m10, f10, f4⟩ := hM.cells
          have HM := Lib.hid hM
          have HK := Lib.hid hK
          clear hM hK
          have HFIN := Lib.hid (show ∀ W2, Below W.heap.size W W2 → ∃ w', Sem.run Try.prog (Instr.takeDeferred D) (W2.setCell ⟨w.heap.size + 1, 0, none⟩ (.bool true)) = .ok [] w' ∧ w'.cell? ⟨w.heap.size + 1, 0, none⟩ = some (.bool true) ∧ Below w.heap.size w w' from fun W2 hb => by
            have hDlt := (Array.getElem?_eq_some_iff.1 HK.out).1
            have h1 : (W2.setCell ⟨w.heap.size + 1, 0, none⟩ (.bool true)).heap[D]? = some (.deferred (some [])) := by
              rw [heap_setCell_other _ _ _ _ (by show D ≠ w.heap.size + 1; omega)]
              exact (hb.block D hDlt).trans HK.out
            have hM2 := HM.out.keep hb
            have hB2 : Below w.heap.size w (W2.setCell ⟨w.heap.size + 1, 0, none⟩ (.bool true)) := (hBW.trans (hb.mono hBW.size)).setCell (by show w.heap.size ≤ w.heap.size + 1; omega) _
            refine ⟨_, run_takeDeferred h1, ?_, hB2.trans (belowK_b (w := w) (Nat.le_refl _) _ D _ _ (by omega) h1 rfl rfl)⟩
            rw [World.cell?_of_block (w := W2.setCell ⟨w.heap.size + 1, 0, none⟩ (.bool true)) (World.putObj_heap_other (by show w.heap.size + 1 ≠ D; omega))]
            exact World.cell?_setCell_same _ _ _ hM2.cells.2.1)
          cases is with
          | true =>
            have hp := (HY.out rfl)
            have hH := Lib.hid (has_ok (pa, pl) a W (HOK.out _ hp.1) ha)
            rw [decide_eq_true hp.2.1] at hH
            clear hp
            gi_wp2
            refine ⟨trivial, callsIn_wide.2 (hH.out.mono ?_)⟩
            rintro e W1 ⟨rfl, hb1⟩
            clear m3 m4 m7 m7' m8 m9 m10 f10 f4
            obtain ⟨m3, m4, m7, m7', m8, m9, m10, f10, f4⟩ := (HM.out.keep hb1).cells
            gi_wp2
            refine ⟨trivial, callsIn_wide.2 ((known_any _).mono ?_)⟩
            rintro e W2 ⟨rfl, hb2⟩
            have hb12 := hb1.trans (hb2.mono hb1.size)
            clear m3 m4 m7 m7' m8 m9 m10 f10 f4
            obtain ⟨m3, m4, m7, m7', m8, m9, m10, f10, f4⟩ := (HM.out.keep hb12).cells
            obtain ⟨w', q1, q2, q3⟩ := HFIN.out W2 hb12
            gi_wp2
            refine ⟨by simp, .inl ⟨_, _, rfl, q1, ?_⟩⟩
            exact ⟨_, results_row Try.results4 _ _ ⟨w.heap.size + 1, 0, none⟩ rfl (load4 q2), rfl, q3⟩
          | false =>
            have hpv : pv = zWay := congrArg Prod.snd (HNO.out rfl).1
            have hdw : decide (pv = zWay) = true := by simpa using hpv
            clear hpv
            gi_wp2
            refine ⟨trivial, ?_⟩
            gi_wp2
            refine ⟨trivial, callsIn_wide.2 ((known_any _).mono ?_)⟩
            rintro e W2 ⟨rfl, hb2⟩
            clear m3 m4 m7 m7' m8 m9 m10 f10 f4
            obtain ⟨m3, m4, m7, m7', m8, m9, m10, f10, f4⟩ := (HM.out.keep hb2).cells
            obtain ⟨w', q1, q2, q3⟩ := HFIN.out W2 hb2
            gi_wp2
            refine ⟨by simp, .inl ⟨_, _, rfl, q1, ?_⟩⟩
            exact ⟨_, results_row Try.results4 _ _ ⟨w.heap.size + 1, 0, none⟩ rfl (load4 q2), rfl, q3⟩
        case stop =>
          rintro D c pre W hD hSp h
          exact h.elim
end Go.Proofs.Ytbcekjbckeljmaa
