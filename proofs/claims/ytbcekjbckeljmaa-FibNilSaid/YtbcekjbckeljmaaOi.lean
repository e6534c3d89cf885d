/- The walks of fib's functions at a table that is not there; of Same where one is not there; of the law's once and nothing. -/
import Derived.Test.YtbcekjbckeljmaaOd
import Derived.Test.YtbcekjbckeljmaaNy
set_option linter.unusedVariables false
set_option linter.unusedSimpArgs false
namespace Go.Proofs.Ytbcekjbckeljmaa
open Go.RowKit Px Go.Shelf
set_option maxHeartbeats 1000000
set_option maxRecDepth 10000
attribute [local go_sem high] eql47 neq47 loadRow_way loadRow_arr wayA_back arrA_back
attribute [local go_sem low] loadRowOf_some
attribute [local go_sem ↓] load54 store54 alloc54 load52 store52 alloc52 build180 build185
attribute [local go_sem] rload54 rstore54 rload52 rstore52 ralloc54 ralloc52 rbuild180 rbuild185 rfork180
attribute [local go_sem] size_drewN rowAt_alloc_past rowAt_alloc_at rowAt_drew rowAt_drewN thawed_alloc_past thawed_alloc_at thawed_drew thawed_drewN okCells_way storeRowOf_some putRow_drew putRow_drewN putRow_alloc_past putRow_alloc_at wayA_size wayA_toList cells_way arrA_toList cells_arr
attribute [local go_sem] thawed_setCell rowAt_setCell_lt rowAt_setCell_gt cell?_putRow_lt cell?_putRow_gt frozen?_putRow_lt frozen?_putRow_gt pfA_lit wayCells_length
attribute [local go_sem ↓] build54
attribute [local go_sem high] eqlWay neqWay
theorem rbuild54y (w : World) : (bigBuild 33 #[]).run Try.prog w = .ok (.agg (wayA zWay)) w := by kernel_rfl
attribute [local go_sem] rbuild54a rbuild54y

/-- a table that is not there -/
def NoF (w : World) (F : Option Addr) : Prop := F = none ∨ ∃ b, F = some ⟨b, 0, none⟩ ∧ w.cell? ⟨b, 0, none⟩ = some (.pointer none)
theorem NoF.keep {w w' : World} {F : Option Addr} (h : NoF w F) (hb : Below w.heap.size w w') : NoF w' F := by
  rcases h with h | ⟨b, h1, h2⟩
  · exact .inl h
  · exact .inr ⟨b, h1, pw_cell hb h2⟩
theorem noF_there (F : Option Addr) (w : World) (h : NoF w F) : Calls Try.prog 33 #[.pointer F] w fun e w' => e = .returned (.bool false) ∧ w = w' := by
  rcases h with rfl | ⟨b, rfl, h⟩
  · exact fthere_nil w
  · exact fthere_zero b w h
theorem noF_lookup (F : Option Addr) (a : Nat) (w : World) (h : NoF w F) : Calls Try.prog 15 #[.pointer F, .int .u32 a] w fun e w' => e = .returned (.tuple #[.agg #[.int .u32 0, .int .i64 0], .agg (wayA zWay), .bool false]) ∧ Below w.heap.size w w' := by
  have hB0 : Below w.heap.size w ((w.alloc (.cells #[.int .u32 0, .int .i64 0] 25)).alloc (.cells (wayA zWay) 33)) := ((Below.refl _ w).alloc (Nat.le_refl _) _).alloc (by simp) _
  have HT := Lib.hid (noF_there F _ (h.keep hB0))
  clear h
  go_enter Try.func15, Try.ntmps15
  go_wp2_with fail
  refine HT.out.mono ?_
  rintro e w' ⟨rfl, rfl⟩
  go_wp2
  refine bodyPost_ret (results_rows2_tmp Try.results15 _ _ ⟨w.heap.size, 0, none⟩ ⟨w.heap.size + 1, 0, none⟩ rfl rfl (load25 (u := .int .u32 0) (v := .int .i64 0) ?_ ?_) (load33 (v := zWay) ?_)) rfl ⟨rfl, ?_⟩
  · rw [World.cell?_alloc_past _ _ _ (by simp)]; exact World.cell?_alloc_at _ _ _ 0 rfl
  · rw [World.cell?_alloc_past _ _ _ (by simp)]; exact World.cell?_alloc_at _ _ _ 1 rfl
  · exact rowAt_alloc_at _ _ _ _ (by simp) (wayA_size zWay).symm
  · exact ((Below.refl _ w).alloc (Nat.le_refl _) _).alloc (by simp) _
theorem noF_pick (F : Option Addr) (a h : Nat) (w : World) (hn : NoF w F) : Calls Try.prog 19 #[.pointer F, .int .u32 a, .int .u32 h] w fun e w' => e = .returned (.tuple #[.int .i64 0, .int .i64 0]) ∧ Below w.heap.size w w' := by
  have HL := Lib.hid (noF_lookup F a w hn)
  clear hn
  go_enter Try.func19, Try.ntmps19
  go_wp2_with fail
  refine HL.out.mono ?_
  rintro e w1 ⟨rfl, hb⟩
  go_wp2
  go_ret2
  exact ⟨rfl, (hb.alloc hb.size _).alloc (by have := hb.size; simp; omega) _⟩
theorem noF_ports (F : Option Addr) (a : Nat) (w : World) (hn : NoF w F) : Calls Try.prog 18 #[.pointer F, .int .u32 a] w fun e w' => e = .returned (.slice none 0 0) ∧ Below w.heap.size w w' := by
  have HL := Lib.hid (noF_lookup F a w hn)
  clear hn
  go_enter Try.func18, Try.ntmps18
  go_wp2_with fail
  refine HL.out.mono ?_
  rintro e w1 ⟨rfl, hb⟩
  have h0 : ((w1.alloc (.cells #[.int .u32 0, .int .i64 0] 25)).alloc (.cells (wayA zWay) 33)).cell? ⟨w1.heap.size + 1, 0, none⟩ = some (.int .i64 0) := World.cell?_alloc_at _ _ _ 0 (by simp)
  go_wp2
  go_ret
  exact ⟨rfl, (hb.alloc hb.size _).alloc (by have := hb.size; simp; omega) _⟩
theorem noF_len (F : Option Addr) (w : World) (h : NoF w F) : Calls Try.prog 20 #[.pointer F] w fun e w' => e = .returned (.int .i64 0) ∧ w = w' := by
  have HT := Lib.hid (noF_there F w h)
  clear h
  go_enter Try.func20, Try.ntmps20
  go_wp2_with fail
  refine HT.out.mono ?_
  rintro e w' ⟨rfl, rfl⟩
  go_wp2
  go_ret
  exact ⟨rfl, rfl⟩
theorem noF_all (F : Option Addr) (w : World) (h : NoF w F) : Calls Try.prog 16 #[.pointer F] w fun e w' => e = .returned (.func (.func 35) #[] #[]) ∧ w = w' := by
  have HT := Lib.hid (noF_there F w h)
  clear h
  go_enter Try.func16, Try.ntmps16
  go_wp2_with fail
  refine HT.out.mono ?_
  rintro e w' ⟨rfl, rfl⟩
  go_wp2
  go_ret
  exact ⟨rfl, rfl⟩
theorem same_not (A B : Option Addr) (x y : Bool) (w : World) (hA : ∀ w', Below w.heap.size w w' → Calls Try.prog 33 #[.pointer A] w' fun e w'' => e = .returned (.bool x) ∧ w' = w'') (hB : ∀ w', Below w.heap.size w w' → Calls Try.prog 33 #[.pointer B] w' fun e w'' => e = .returned (.bool y) ∧ w' = w'') (hxy : (x && y) = false) :
    Calls Try.prog 44 #[.pointer A, .pointer B] w fun e w' => e = .returned (.bool (x == y)) ∧ Below w.heap.size w w' := by
  have HA := Lib.hid hA
  have HB := Lib.hid hB
  clear hA hB
  have HB0 := Lib.hid (show Below w.heap.size w ((w.alloc (.cells #[.pointer B] 42)).alloc (.cells #[.bool false] 4)) from ((Below.refl _ w).alloc (Nat.le_refl _) _).alloc (by simp) _)
  have k3 : ((w.alloc (.cells #[.pointer B] 42)).alloc (.cells #[.bool false] 4)).cell? ⟨w.heap.size, 0, none⟩ = some (.pointer B) := by rw [World.cell?_alloc_past _ _ _ (by simp)]; exact World.cell?_alloc_at _ _ _ 0 rfl
  have k4 : ((w.alloc (.cells #[.pointer B] 42)).alloc (.cells #[.bool false] 4)).cell? ⟨w.heap.size + 1, 0, none⟩ = some (.bool false) := World.cell?_alloc_at _ _ _ 0 (by simp)
  go_enter Try.func44, Try.ntmps44
  go_wp2_with fail
  refine (HA.out _ HB0.out).mono ?_
  rintro e w' ⟨rfl, rfl⟩
  cases x with
  | false =>
    go_wp2
    go_region_held3 (fun w' => w'.cell? ⟨w.heap.size, 0, none⟩ = some (.pointer B))
      (simp [go_sem, World.cell?_alloc_past])
      (first
        | (go_at_call 33; (with_reducible refine (HA.out _ ?_).mono ?_); (focus (repeat (first | exact HB0.out | refine Below.drew ?_))); rintro e w' ⟨rfl, rfl⟩)
        | (go_at_call 33; (with_reducible refine (HB.out _ ?_).mono ?_); (focus (repeat (first | exact HB0.out | refine Below.drew ?_))); rintro e w' ⟨rfl, rfl⟩))
    all_goals
      go_wp2
      refine bodyPost_ret (results_row Try.results44 _ _ ⟨w.heap.size + 1, 0, none⟩ rfl (load4 (u := .bool !y) (by rw [World.cell?_drew]; exact World.cell?_alloc_at _ _ _ 0 (by simp)))) rfl ⟨by cases y <;> rfl, ?_⟩
      exact (((Below.refl _ w).alloc (Nat.le_refl _) _).alloc (by simp) _).drew
  | true =>
    obtain rfl : y = false := by simpa using hxy
    go_wp2_with fail
    refine (HB.out _ HB0.out).mono ?_
    rintro e w' ⟨rfl, rfl⟩
    go_wp2
    go_region_held3 (fun w' => w'.cell? ⟨w.heap.size, 0, none⟩ = some (.pointer B))
      (simp [go_sem, World.cell?_alloc_past])
      (first
        | (go_at_call 33; (with_reducible refine (HA.out _ ?_).mono ?_); (focus (repeat (first | exact HB0.out | refine Below.drew ?_))); rintro e w' ⟨rfl, rfl⟩)
        | (go_at_call 33; (with_reducible refine (HB.out _ ?_).mono ?_); (focus (repeat (first | exact HB0.out | refine Below.drew ?_))); rintro e w' ⟨rfl, rfl⟩))
    all_goals
      go_wp2
      refine bodyPost_ret (results_row Try.results44 _ _ ⟨w.heap.size + 1, 0, none⟩ rfl (load4 (u := .bool false) (by rw [World.cell?_drew]; exact World.cell?_alloc_at _ _ _ 0 (by simp)))) rfl ⟨by rfl, ?_⟩
      exact (((Below.refl _ w).alloc (Nat.le_refl _) _).alloc (by simp) _).drew
theorem all1_stops {α : Type} (encs : α → Array Value) (F : Fence) (n : Nat) (hf : F.fn 35) (hro : F.round = none) (hn : 1 ≤ n) (Kp : World → World → Prop) (w : World) :
    SeqStopsK F n Try.prog 35 #[] encs Kp (fun ys => ys = []) (fun _ => False) 0 w := fun k J Jx W hW hJ _ hY h0 => by
  refine callsIn_of_wp Try.func35 rfl hf ?_ hro
  simp only [Try.ntmps35, List.size_toArray, List.length_cons, List.length_nil, Nat.reduceAdd, Nat.reduceSub, Array.replicate_succ, Array.replicate_zero, List.push_toArray, List.append_toArray, List.nil_append, List.cons_append]
  gi_wp2
  go_end0
  refine ⟨⟨_, rfl⟩, ?_⟩
  first | exact h0 | exact Or.inl ⟨_, rfl, h0⟩
theorem eqlSeq' (f : Fn) (c b : Array Value) (w : World) : (binOp .eql 48 (.func f c b) .nilFunc).run Try.prog w = .ok (.bool false) w := by
  have h : ∀ d : Nat, (Op.equalIn (d + 1) 48 (.func f c b) .nilFunc).run Try.prog w = .ok false w := fun d => by
    simp [Op.equalIn, run_underlying Try.underlying48]
  simp only [binOp]
  simp [Op.equal, Op.maxDepth, h 9999]
attribute [local go_sem high] eqlSeq'
theorem noF_once (F : Option Addr) (w : World) (h : NoF w F) : Calls Try.prog 43 #[.pointer F, .slice none 0 0, .int .i64 0] w fun e w' => e = .returned (.bool true) ∧ Below w.heap.size w w' := by
  have HA := Lib.hid (fun w' hb => noF_all F w' (h.keep hb))
  rw [← callsIn_wide (n := 10)]
  refine callsIn_of_wp_marks Try.func43 rfl trivial ?_ rfl
  simp only [Try.ntmps43, List.size_toArray, List.length_cons, List.length_nil, Nat.reduceAdd, Nat.reduceSub, Array.replicate_succ, Array.replicate_zero, List.push_toArray, List.append_toArray, List.nil_append, List.cons_append]
  gi_wp2
  have hB0 : Below w.heap.size w ((((w.alloc (.cells #[.slice none 0 0] 120)).alloc (.cells #[.int .i64 0] 3)).alloc (.cells #[.bool false] 4)).alloc (.cells #[.int .i64 0] 3)) := ((((Below.refl _ w).alloc (Nat.le_refl _) _).alloc (by simp) _).alloc (by first | (simp; done) | (simp; omega)) _).alloc (by first | (simp; done) | (simp; omega)) _
  refine ⟨trivial, callsIn_wide.2 ((HA.out _ hB0).mono ?_)⟩
  have e4 : ((((w.alloc (.cells #[.slice none 0 0] 120)).alloc (.cells #[.int .i64 0] 3)).alloc (.cells #[.bool false] 4)).alloc (.cells #[.int .i64 0] 3)).heap[w.heap.size]? = some (.cells #[.slice none 0 0] 120 (0, 0)) := (Below.heap_alloc _ _ _ (by first | (simp; done) | (simp; omega))).trans ((Below.heap_alloc _ _ _ (by first | (simp; done) | (simp; omega))).trans ((Below.heap_alloc _ _ _ (by simp)).trans (heap_alloc_at _ _ _ rfl)))
  have e6 : ((((w.alloc (.cells #[.slice none 0 0] 120)).alloc (.cells #[.int .i64 0] 3)).alloc (.cells #[.bool false] 4)).alloc (.cells #[.int .i64 0] 3)).heap[w.heap.size + 1 + 1]? = some (.cells #[.bool false] 4 (0, 0)) := (Below.heap_alloc _ _ _ (by first | (simp; done) | (simp; omega))).trans (heap_alloc_at _ _ _ (by simp))
  have e7 : ((((w.alloc (.cells #[.slice none 0 0] 120)).alloc (.cells #[.int .i64 0] 3)).alloc (.cells #[.bool false] 4)).alloc (.cells #[.int .i64 0] 3)).heap[w.heap.size + 1 + 1 + 1]? = some (.cells #[.int .i64 0] 3 (0, 0)) := heap_alloc_at _ _ _ (by simp)
  have hsz : ((((w.alloc (.cells #[.slice none 0 0] 120)).alloc (.cells #[.int .i64 0] 3)).alloc (.cells #[.bool false] 4)).alloc (.cells #[.int .i64 0] 3)).heap.size = w.heap.size + 4 := by simp
  generalize (((w.alloc (.cells #[.slice none 0 0] 120)).alloc (.cells #[.int .i64 0] 3)).alloc (.cells #[.bool false] 4)).alloc (.cells #[.int .i64 0] 3) = w4 at *
  rintro e w' ⟨rfl, rfl⟩
  have h4 : w.heap.size + 4 ≤ w4.heap.size := by omega
  have HB := Lib.hid hB0
  clear hsz hB0 HA
  gi_wp2
  refine wpIn_rangeFunc_ownH rfl (by omega) (gf := 35) (lb := #[]) rfl trivial (enters_of Try.func35 (by kernel_rfl) rfl)
    (all1_stops (α := Empty) (fun x => x.elim) Fence.wide 9 trivial rfl (by omega) (Mid 0 0) w4) Mid.trans (midK_b (Nat.zero_le _)) (Below.refl _ _) (fun x => x.elim)
    (fun pre W => (W.heap[w.heap.size]? = some (.cells #[.slice none 0 0] 120 (0, 0)) ∧ W.heap[w.heap.size + 1 + 1]? = some (.cells #[.bool false] 4 (0, 0)) ∧ W.heap[w.heap.size + 1 + 1 + 1]? = some (.cells #[.int .i64 0] 3 (0, 0))) ∧ Below w.heap.size w W)
    (fun _ _ _ => False)
    (OwnFrom.and (Own.from (fun s X Y row hs hg hr => ⟨blk_kept hs.1 rfl hg hr, blk_kept hs.2.1 rfl hg hr, blk_kept hs.2.2 rfl hg hr⟩) _) (ownFrom_below (Nat.le_refl _) (by omega)))
    (fun _ _ _ _ _ hs _ _ => hs)
    ⟨⟨e4, e6, e7⟩, HB.out⟩
    (fun x a' W => False)
    (fun x a' _ X Y row hs hg hr => hs)
    ?assign ?body ?done ?stop
  case assign =>
    intro l pre x
    exact x.elim
  case body =>
    rintro l pre x a' W hl ⟨r, hr⟩ hI h hlt
    exact absurd hlt (Nat.not_lt_zero _)
  case done =>
    rintro D ys W hD rfl ⟨⟨q4, q6, q7⟩, hBW⟩ hK
    have k4 : W.cell? ⟨w.heap.size, 0, none⟩ = some (.slice none 0 0) := by simp [World.cell?, q4]
    have k6 : W.cell? ⟨w.heap.size + 1 + 1, 0, none⟩ = some (.bool false) := by simp [World.cell?, q6]
    have k6f : W.frozen? ⟨w.heap.size + 1 + 1, 0, none⟩ = false := by simp [World.frozen?, q6]
    have k7 : W.cell? ⟨w.heap.size + 1 + 1 + 1, 0, none⟩ = some (.int .i64 0) := by simp [World.cell?, q7]
    have HK := Lib.hid hK
    clear hK q4 q6 q7
    gi_wp2
    have hK' : (W.setCell ⟨w.heap.size + 1 + 1, 0, none⟩ (.bool true)).heap[D]? = some (.deferred (some [])) := by
      rw [heap_setCell_other _ _ _ _ (by show D ≠ w.heap.size + 1 + 1; omega)]; exact HK.out
    have hB2 : Below w.heap.size w (W.setCell ⟨w.heap.size + 1 + 1, 0, none⟩ (.bool true)) := hBW.setCell (by show w.heap.size ≤ w.heap.size + 1 + 1; omega) _
    refine ⟨by simp, .inl ⟨_, _, rfl, run_takeDeferred hK', ?_⟩⟩
    refine ⟨_, results_row Try.results43 _ _ ⟨w.heap.size + 1 + 1, 0, none⟩ rfl (load4 (u := .bool true) ?_), rfl, hB2.trans (belowK_b (w := w) (Nat.le_refl _) _ D _ _ (by omega) hK' rfl rfl)⟩
    rw [World.cell?_of_block (w := W.setCell ⟨w.heap.size + 1 + 1, 0, none⟩ (.bool true)) (World.putObj_heap_other (by show w.heap.size + 1 + 1 ≠ D; omega))]
    exact World.cell?_setCell_same _ _ _ k6
  case stop =>
    rintro D c pre W hD hSp h
    exact h.elim
theorem nothing_any (F : Option Addr) (fb tb : Nat) (w : World) (hF : NoF w F) (hO : w.cell? ⟨fb, 0, none⟩ = some (.pointer (some ⟨tb, 0, none⟩))) :
    Calls Try.prog 21 #[.pointer F, .pointer (some ⟨fb, 0, none⟩)] w fun e w' => e = .returned (.bool true) ∧ Below w.heap.size w w' := by
  have HL := Lib.hid (noF_lookup F 0 w hF)
  have K := Lib.hid (show ∀ w', Below w.heap.size w w' → NoF w' F ∧ w'.cell? ⟨fb, 0, none⟩ = some (.pointer (some ⟨tb, 0, none⟩)) from fun w' h => ⟨hF.keep h, pw_cell h hO⟩)
  have hzd : decide (zWay = zWay) = true := by simp
  have HP := Lib.hid (fun w' (h : Below w.heap.size w w') => noF_pick F 0 0 w' (K.out w' h).1)
  have HPO := Lib.hid (fun w' (h : Below w.heap.size w w') => noF_ports F 0 w' (K.out w' h).1)
  have HON := Lib.hid (fun w' (h : Below w.heap.size w w') => noF_once F w' (K.out w' h).1)
  have HLN := Lib.hid (fun w' (h : Below w.heap.size w w') => noF_len F w' (K.out w' h).1)
  have T0 := Lib.hid (show ∀ w', Below w.heap.size w w' → Calls Try.prog 33 #[.pointer F] w' fun e w'' => e = .returned (.bool false) ∧ w' = w'' from fun w' h => noF_there F w' (K.out w' h).1)
  have T1 := Lib.hid (show ∀ w', Below w.heap.size w w' → Calls Try.prog 33 #[.pointer (some ⟨fb, 0, none⟩)] w' fun e w'' => e = .returned (.bool true) ∧ w' = w'' from fun w' h => fthere_yes fb tb w' (K.out w' h).2)
  have S1 := Lib.hid (fun w' (h : Below w.heap.size w w') => same_not F none false false w' (fun w'' hh => T0.out w'' (h.trans (hh.mono h.size))) (fun w'' hh => fthere_nil w'') rfl)
  have S2 := Lib.hid (fun w' (h : Below w.heap.size w w') => same_not none F false false w' (fun w'' hh => fthere_nil w'') (fun w'' hh => T0.out w'' (h.trans (hh.mono h.size))) rfl)
  have S3 := Lib.hid (fun w' (h : Below w.heap.size w w') => same_not F (some ⟨fb, 0, none⟩) false true w' (fun w'' hh => T0.out w'' (h.trans (hh.mono h.size))) (fun w'' hh => T1.out w'' (h.trans (hh.mono h.size))) rfl)
  have S4 := Lib.hid (fun w' (h : Below w.heap.size w w') => same_not (some ⟨fb, 0, none⟩) F true false w' (fun w'' hh => T1.out w'' (h.trans (hh.mono h.size))) (fun w'' hh => T0.out w'' (h.trans (hh.mono h.size))) rfl)
  clear hF hO
  go_enter Try.func21, Try.ntmps21
  go_wp2_with fail
  refine HL.out.mono ?_
  rintro e w1 ⟨rfl, hb1⟩
  have hs1 := hb1.size
  go_wp2_with fail
  have hb2 : Below w.heap.size w ((w1.alloc (.cells #[.int .u32 0, .int .i64 0] 25)).alloc (.cells (wayA zWay) 33)) := (hb1.alloc hb1.size _).alloc (by simp; omega) _
  have hx6 : WayAt ((w1.alloc (.cells #[.int .u32 0, .int .i64 0] 25)).alloc (.cells (wayA zWay) 33)) (w1.heap.size + 1) zWay := heap_alloc_at _ _ _ (by simp)
  generalize (w1.alloc (.cells #[.int .u32 0, .int .i64 0] 25)).alloc (.cells (wayA zWay) 33) = w2 at *
  refine (HP.out w2 hb2).mono ?_
  rintro e w3 ⟨rfl, hb3⟩
  have hr := (hx6.below hb3).row
  have hb3' := hb2.trans (hb3.mono hb2.size)
  clear hb3 hb1 hs1 hx6
  go_wp2_with fail
  refine (HPO.out w3 hb3').mono ?_
  rintro e w4 ⟨rfl, hb4⟩
  have hb4' := hb3'.trans (hb4.mono hb3'.size)
  clear hb4 hr
  go_wp2_with fail
  refine (HON.out w4 hb4').mono ?_
  rintro e w5 ⟨rfl, hb5⟩
  have hb5' := hb4'.trans (hb5.mono hb4'.size)
  clear hb5
  go_wp2_with fail
  refine (HLN.out w5 hb5').mono ?_
  rintro e w' ⟨rfl, rfl⟩
  go_wp2_with fail
  refine (S1.out w5 hb5').mono ?_
  rintro e w6 ⟨rfl, hb6⟩
  have hb6' := hb5'.trans (hb6.mono hb5'.size)
  clear hb6
  go_wp2_with fail
  refine (S2.out w6 hb6').mono ?_
  rintro e w7 ⟨rfl, hb7⟩
  have hb7' := hb6'.trans (hb7.mono hb6'.size)
  clear hb7
  go_wp2_with fail
  refine (S3.out w7 hb7').mono ?_
  rintro e w8 ⟨rfl, hb8⟩
  have hb8' := hb7'.trans (hb8.mono hb7'.size)
  clear hb8
  go_wp2_with fail
  refine (S4.out w8 hb8').mono ?_
  rintro e w9 ⟨rfl, hb9⟩
  have hb9' := hb8'.trans (hb9.mono hb8'.size)
  clear hb9
  go_wp2
  go_ret
  exact ⟨rfl, hb9'⟩
end Go.Proofs.Ytbcekjbckeljmaa
