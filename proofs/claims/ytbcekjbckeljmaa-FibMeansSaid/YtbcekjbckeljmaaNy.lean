/- What is looked up, plainly; the law's known rows. -/
import Derived.Test.YtbcekjbckeljmaaNx
set_option linter.unusedVariables false
set_option linter.unusedSimpArgs false
namespace Go.Proofs.Ytbcekjbckeljmaa
open Go.RowKit Px
set_option maxHeartbeats 1000000
set_option maxRecDepth 10000

theorem lkE_is {T : Tr} {a : Nat} (ha : a < 4294967296) (hW : T.WF) (hO : T.Okp) {e : Pf × Way} (he : e ∈ T.ents) (hc : cov e.1 (host a)) (hl : ∀ x ∈ T.ents, cov x.1 (host a) → x = e ∨ x.1.2 < e.1.2) : lkE T a = (e, true) := by
  have hp := (Tr.path_mem ha hW hO e).2 ⟨he, hc⟩
  unfold lkE lastE
  cases hg : (T.path a).getLast? with
  | none => rw [List.getLast?_eq_none_iff] at hg; rw [hg] at hp; simp at hp
  | some f =>
    obtain ⟨h1, h2, h3⟩ := Tr.path_last ha hW hO hg
    rcases hl f h1 h2 with h | h
    · rw [h]
    · rcases h3 e he hc with h' | h'
      · rw [h']
      · omega
theorem lkE_none {T : Tr} {a : Nat} (ha : a < 4294967296) (hW : T.WF) (hO : T.Okp) (hl : ∀ x ∈ T.ents, ¬ cov x.1 (host a)) : lkE T a = (((0, 0), zWay), false) := by
  have : T.path a = [] := List.eq_nil_iff_forall_not_mem.2 fun x hx => by
    have := (Tr.path_mem ha hW hO x).1 hx
    exact hl x this.1 this.2
  unfold lkE
  rw [this]; rfl
theorem tab23 : (tabW [(2, 3)]).getD 77 0 = 2 := by decide +kernel
theorem may1 : Px.may 167772160 8 = true := by decide +kernel
theorem may2 : Px.may 167837696 16 = true := by decide +kernel
theorem mayL1 : mayL [(2, 3)] = true := by decide +kernel
theorem mayL2 : mayL [(1, 1)] = true := by decide +kernel
theorem cov1 : cov (167837696, 16) (host 167838211) := by decide +kernel
theorem cov2 : cov (167772160, 8) (host 167903232) := by decide +kernel
theorem cov3 : ¬ cov (167837696, 16) (host 167903232) := by decide +kernel
attribute [local go_sem high] eql47 neq47 loadRow_way loadRow_arr wayA_back arrA_back
attribute [local go_sem low] loadRowOf_some
attribute [local go_sem ↓] load54 store54 alloc54 load52 store52 alloc52 build180 build185
attribute [local go_sem] rload54 rstore54 rload52 rstore52 ralloc54 ralloc52 rbuild180 rbuild185 rfork180
attribute [local go_sem] size_drewN rowAt_alloc_past rowAt_alloc_at rowAt_drew rowAt_drewN thawed_alloc_past thawed_alloc_at thawed_drew thawed_drewN okCells_way storeRowOf_some putRow_drew putRow_drewN putRow_alloc_past putRow_alloc_at wayA_size wayA_toList cells_way arrA_toList cells_arr
attribute [local go_sem ↓] build54
attribute [local go_sem high] eqlWay neqWay
theorem tab23' : (tabW [(2, 3)])[77]?.getD 0 = 2 := by simpa using tab23
theorem zWay_k : zWay.k = 0 := rfl
attribute [local go_sem] rbuild54a pfA_lit tab23' zWay_k
theorem ten0 (w : World) : Calls Try.prog 22 #[.int .u32 0, .int .i64 8] w fun e w' => e = .returned (.agg #[.int .u32 167772160, .int .i64 8]) ∧ Below w.heap.size w w' := ten_any 0 8 w (by omega)
theorem ten1 (w : World) : Calls Try.prog 22 #[.int .u32 1, .int .i64 16] w fun e w' => e = .returned (.agg #[.int .u32 167837696, .int .i64 16]) ∧ Below w.heap.size w w' := ten_any 1 16 w (by omega)
theorem pair_one {w : World} {b : Nat} {p d : Int} (h : w.heap[b]? = some (.cells #[.int .i64 p, .int .i64 d] 65 (0, 0))) : PairS w (some ⟨b, 0, none⟩) [(p, d)] := by
  intro i hi
  have : i = 0 := by simpa using hi
  subst this
  refine ⟨_, rfl, by simp [Addr.add, World.cell?, h], by simp [Addr.add, World.cell?, h], ?_⟩
  exact (Array.getElem?_eq_some_iff.1 h).1
theorem rts_two {w : World} {b : Nat} {r s : Rt} {t : TypeId} (h : w.heap[b]? = some (.cells (r.cells ++ s.cells) t (0, 0))) (hr : r.In w) (hs : s.In w) : RtS w (some ⟨b, 0, none⟩) [r, s] := by
  intro i hi
  have hi : i < 2 := hi
  rcases (show i = 0 ∨ i = 1 by omega) with rfl | rfl
  · exact ⟨_, rfl, by simp [Addr.add, World.cell?, h, Rt.cells], by simp [Addr.add, World.cell?, h, Rt.cells], by simp [Addr.add, World.cell?, h, Rt.cells], by simp [Addr.add, World.cell?, h, Rt.cells], by simp [Addr.add, World.cell?, h, Rt.cells], by simp [Addr.add, World.cell?, h, Rt.cells], hr⟩
  · exact ⟨_, rfl, by simp [Addr.add, World.cell?, h, Rt.cells], by simp [Addr.add, World.cell?, h, Rt.cells], by simp [Addr.add, World.cell?, h, Rt.cells], by simp [Addr.add, World.cell?, h, Rt.cells], by simp [Addr.add, World.cell?, h, Rt.cells], by simp [Addr.add, World.cell?, h, Rt.cells], hs⟩
def kr1 (b : Nat) : Rt := ⟨167772160, 8, false, true, 0, [(2, 3)], some ⟨b, 0, none⟩, 1⟩
def kr2 (b : Nat) : Rt := ⟨167837696, 16, false, false, 0, [(1, 1)], some ⟨b, 0, none⟩, 1⟩
def kr3 : Rt := ⟨167772160, 8, false, false, 0, [], none, 0⟩
theorem kr1_may (b : Nat) : (kr1 b).may = true := by show (Px.may 167772160 8 && (decide ([(2, 3)].length = 0) || mayL [(2, 3)])) = true; rw [may1, mayL1]; rfl
theorem kr2_may (b : Nat) : (kr2 b).may = true := by show (Px.may 167837696 16 && (decide ([(1, 1)].length = 0) || mayL [(1, 1)])) = true; rw [may2, mayL2]; rfl
theorem kr3_may : kr3.may = true := by show (Px.may 167772160 8 && (decide (([] : List (Int × Int)).length = 0) || mayL [])) = true; rw [may1]; rfl
theorem kr1_way (b : Nat) : (kr1 b).way = ⟨3, tabW [(2, 3)], tabW_len _⟩ := rfl
theorem kr2_way (b : Nat) : (kr2 b).way = ⟨2, zArr, zArr_length⟩ := rfl
theorem makeL_known (b c : Nat) : makeL [kr1 b, kr2 c] [] = some [((167772160, 8), (kr1 b).way), ((167837696, 16), (kr2 c).way)] := by
  simp only [makeL, kr1_may, kr2_may]
  rw [if_pos ⟨trivial, by simp⟩, if_pos ⟨trivial, by simp [Rt.pf, kr1, kr2]⟩]
  rfl
theorem makeL_twice : makeL [kr3, kr3] [] = none := by
  simp only [makeL, kr3_may]
  rw [if_pos ⟨trivial, by simp⟩, if_neg (by simp)]
theorem lk_known1 {T : Tr} (hW : T.WF) (hO : T.Okp) {u v : Way} (h : ∀ e, e ∈ T.ents ↔ e ∈ [((167772160, 8), u), ((167837696, 16), v)]) : lkE T 167838211 = (((167837696, 16), v), true) :=
  lkE_is (by omega) hW hO ((h _).2 (by simp)) cov1 (fun x hx _ => by
    have := (h x).1 hx
    simp only [List.mem_cons, List.not_mem_nil, or_false] at this
    rcases this with rfl | rfl
    · exact .inr (by show 8 < 16; omega)
    · exact .inl rfl)
theorem lk_known2 {T : Tr} (hW : T.WF) (hO : T.Okp) {u v : Way} (h : ∀ e, e ∈ T.ents ↔ e ∈ [((167772160, 8), u), ((167837696, 16), v)]) : lkE T 167903232 = (((167772160, 8), u), true) :=
  lkE_is (by omega) hW hO ((h _).2 (by simp)) cov2 (fun x hx hc => by
    have := (h x).1 hx
    simp only [List.mem_cons, List.not_mem_nil, or_false] at this
    rcases this with rfl | rfl
    · exact .inl rfl
    · exact absurd hc cov3)
theorem known_any (w : World) : Calls Try.prog 7 #[] w fun e w' => e = .returned (.bool true) ∧ Below w.heap.size w w' := by
  go_enter Try.func7, Try.ntmps7
  go_wp2_with fail
  refine (ten0 _).mono ?_
  rintro e w1 ⟨rfl, hb1⟩
  go_wp2_with fail
  refine (ten1 _).mono ?_
  rintro e w2 ⟨rfl, hb2⟩
  have hb2' : Below w1.heap.size w1 w2 := ((Below.refl _ _).alloc (Nat.le_refl _) _).trans (hb2.mono (by simp))
  have h1 : w2.heap[w1.heap.size]? = some (.cells #[.int .i64 2, .int .i64 3] 65 (0, 0)) := (hb2.block _ (by simp)).trans (heap_alloc_at _ _ _ rfl)
  have hlt1 := (Array.getElem?_eq_some_iff.1 h1).1
  go_wp2_with fail
  have hs1 : (kr1 w1.heap.size).In ((w2.alloc (.cells #[.int .i64 1, .int .i64 1] 65)).alloc (.cells ((kr1 w1.heap.size).cells ++ (kr2 w2.heap.size).cells) 28)) :=
    ⟨by show 167772160 < _; omega, by show 1 < 100000; omega, pair_one ((Below.heap_alloc _ _ _ (by simp; omega)).trans ((Below.heap_alloc _ _ _ hlt1).trans h1))⟩
  have hs2 : (kr2 w2.heap.size).In ((w2.alloc (.cells #[.int .i64 1, .int .i64 1] 65)).alloc (.cells ((kr1 w1.heap.size).cells ++ (kr2 w2.heap.size).cells) 28)) :=
    ⟨by show 167837696 < _; omega, by show 1 < 100000; omega, pair_one ((Below.heap_alloc _ _ _ (by simp)).trans (heap_alloc_at _ _ _ rfl))⟩
  have hS := rts_two (b := w2.heap.size + 1) (t := 28) (heap_alloc_at _ _ _ (by simp)) hs1 hs2
  have hB0 : Below w.heap.size w ((w2.alloc (.cells #[.int .i64 1, .int .i64 1] 65)).alloc (.cells ((kr1 w1.heap.size).cells ++ (kr2 w2.heap.size).cells) 28)) := hb1.trans ((hb2'.mono hb1.size).trans (((Below.refl _ w2).alloc (Nat.le_refl _) _).alloc (by simp) _ |>.mono (Nat.le_trans hb1.size hb2'.size)))
  have hM := Lib.hid (make_any (some ⟨w2.heap.size + 1, 0, none⟩) 2 [kr1 w1.heap.size, kr2 w2.heap.size] _ hS (by simp))
  clear hs1 hs2 hS
  refine hM.out.mono ?_
  rintro e w3 ⟨hb3, he3⟩
  have hlen : [kr1 w1.heap.size, kr2 w2.heap.size].length = 2 := rfl
  rw [makeL_known, hlen] at he3
  clear hM
  generalize ((w2.alloc (.cells #[.int .i64 1, .int .i64 1] 65)).alloc (.cells ((kr1 w1.heap.size).cells ++ (kr2 w2.heap.size).cells) 28)) = W0 at *
  obtain ⟨fb, tb, T, rfl, hF⟩ := he3
  have hB3 : Below w.heap.size w w3 := hB0.trans (hb3.mono hB0.size)
  have hL1 := lk_known1 hF.wf hF.t.okp hF.e
  have hL2 := lk_known2 hF.wf hF.t.okp hF.e
  have HF := Lib.hid hF
  have HB3 := Lib.hid hB3
  clear hb1 hb2 hb2' hb3 hB3 h1 hF hlt1 hlen
  have HA := Lib.hid (lookup_any T 167838211 _ fb tb _ _ w3 HF.out.fcell HF.out.t HF.out.wf (by omega))
  have HP := fun w' (h : MkF W0 w' fb tb T 2 [((167772160, 8), (kr1 w1.heap.size).way), ((167837696, 16), (kr2 w2.heap.size).way)]) => Lib.hid (fpick_any T 167903232 77 _ fb tb _ _ w' h.fcell h.t h.wf (by omega) (by omega))
  rw [hL1] at HA
  rw [hL2] at HP
  clear hL1 hL2
  go_wp2_with fail
  refine HA.out.mono ?_
  rintro e w4 ⟨rfl, hb4⟩
  have HF4 := Lib.hid (HF.out.keep hb4)
  have HB4 := Lib.hid (HB3.out.trans (hb4.mono HB3.out.size))
  have hs4 := hb4.size
  clear hb4
  go_wp2_with fail
  rw [putRow_alloc_at _ _ _ _ (by simp) (by rw [wayCells_length, wayA_size]), wayA_back]
  have hQ4 : Below w4.heap.size w4 ((w4.alloc (.cells #[.int .u32 167837696, .int .i64 16] 25)).alloc (.cells (wayA (kr2 w2.heap.size).way) 33)) := ((Below.refl _ _).alloc (Nat.le_refl _) _).alloc (by simp) _
  have hX3 : ((w4.alloc (.cells #[.int .u32 167837696, .int .i64 16] 25)).alloc (.cells (wayA (kr2 w2.heap.size).way) 33)).heap[w4.heap.size]? = some (.cells #[.int .u32 167837696, .int .i64 16] 25 (0, 0)) := (Below.heap_alloc _ _ _ (by simp)).trans (heap_alloc_at _ _ _ rfl)
  have hX4 : WayAt ((w4.alloc (.cells #[.int .u32 167837696, .int .i64 16] 25)).alloc (.cells (wayA (kr2 w2.heap.size).way) 33)) (w4.heap.size + 1) (kr2 w2.heap.size).way := heap_alloc_at _ _ _ (by simp)
  generalize ((w4.alloc (.cells #[.int .u32 167837696, .int .i64 16] 25)).alloc (.cells (wayA (kr2 w2.heap.size).way) 33)) = w5 at *
  have HF5 := Lib.hid (HF4.out.keep hQ4)
  have HB5 := Lib.hid (HB4.out.trans (hQ4.mono HB4.out.size))
  clear hQ4
  refine (HP _ HF5.out).out.mono ?_
  rintro e w6 ⟨rfl, hb6⟩
  rw [kr1_way]
  simp only [tab23]
  have hX3' : Hid (w6.heap[w4.heap.size]? = some (.cells #[.int .u32 167837696, .int .i64 16] 25 (0, 0))) := Lib.hid ((hb6.block _ (Array.getElem?_eq_some_iff.1 hX3).1).trans hX3)
  have hX4' := Lib.hid (hX4.below hb6)
  have HB6 := Lib.hid (HB5.out.trans (hb6.mono HB5.out.size))
  clear hb6 hX3 hX4
  go_wp2_with fail
  refine (ten0 _).mono ?_
  rintro e w7 ⟨rfl, hb7⟩
  go_wp2_with fail
  refine (ten0 _).mono ?_
  rintro e w8 ⟨rfl, hb8⟩
  go_wp2_with fail
  have hk3 : kr3.In (w8.alloc (.cells (kr3.cells ++ kr3.cells) 28)) := ⟨by show 167772160 < _; omega, by show 0 < 100000; omega, fun i hi => by simp [kr3] at hi⟩
  have hS3 := rts_two (b := w8.heap.size) (t := 28) (heap_alloc_at w8 _ _ rfl) hk3 hk3
  have hM3 := make_any (some ⟨w8.heap.size, 0, none⟩) 2 [kr3, kr3] _ hS3 (by simp)
  rw [makeL_twice] at hM3
  refine hM3.mono ?_
  clear hM3 hk3 hS3
  rintro e w9 ⟨hb9, he9⟩
  have he9' : e = .returned (.tuple #[.pointer none, .int .i64 2]) := he9
  subst he9'
  clear he9
  have hb69 : Below w6.heap.size w6 w9 := (hb7.trans (hb8.mono hb7.size)).trans (((Below.refl _ _).alloc (Nat.le_trans hb7.size hb8.size) _).trans (hb9.mono (by have := hb7.size; have := hb8.size; simp; omega)))
  clear hb7 hb8 hb9
  go_wp2_with fail
  have hM0 := make_any none 0 [] w9 (fun i hi => by simp at hi) (by simp)
  refine hM0.mono ?_
  clear hM0
  rintro e w10 ⟨hb10, he10⟩
  obtain ⟨fb0, tb0, T0, rfl, hF0⟩ : ∃ fb tb T, e = .returned (.tuple #[.pointer (some ⟨fb, 0, none⟩), .int .i64 0]) ∧ MkF w9 w10 fb tb T 0 [] := he10
  have HP0 := Lib.hid (fpick_any T0 0 0 _ fb0 tb0 _ _ w10 hF0.fcell hF0.t hF0.wf (by omega) (by omega))
  rw [lkE_none (by omega) hF0.wf hF0.t.okp (fun x hx => by simpa using (hF0.e x).1 hx)] at HP0
  have e0 : zWay.b.getD (0 % 256) 0 = 0 := by decide +kernel
  rw [e0] at HP0
  clear hF0 e0
  go_wp2_with fail
  refine HP0.out.mono ?_
  rintro e w11 ⟨rfl, hb11⟩
  have hb611 : Below w6.heap.size w6 w11 := hb69.trans ((hb10.trans (hb11.mono hb10.size)).mono hb69.size)
  have hX3 := (hb611.block _ (Array.getElem?_eq_some_iff.1 hX3'.out).1).trans hX3'.out
  have hX4 := hX4'.out.below hb611
  have HB11 := Lib.hid (HB6.out.trans (hb611.mono HB6.out.size))
  clear hb69 hb10 hb11 hb611 hX3' hX4' HP0 HP HA
  go_wp2_with fail
  rw [kr2_way] at hX4
  have hpx : pxEq 167837696 16 167837696 16 = true := by decide
  have hdw : decide ((⟨2, zArr, zArr_length⟩ : Way) = ⟨2, zArr, zArr_length⟩) = true := by simp
  have K4 := Lib.hid (show ∀ w', Below w11.heap.size w11 w' → w'.cell? ⟨w4.heap.size, 0, none⟩ = some (.int .u32 167837696) ∧ w'.cell? ⟨w4.heap.size, 1, none⟩ = some (.int .i64 16) ∧ rowAt w' ⟨w4.heap.size + 1, 0, none⟩ 257 = some (wayCells ⟨2, zArr, zArr_length⟩) from
    fun w' h => ⟨pw_cell h (by simp [World.cell?, hX3]), pw_cell h (by simp [World.cell?, hX3]), (hX4.below h).row⟩)
  clear hX3 hX4
  obtain ⟨c0, c1, c2⟩ := K4.out _ (Below.refl _ _)
  go_region_held3 (fun w' => w'.cell? ⟨w4.heap.size, 0, none⟩ = some (.int .u32 167837696) ∧ w'.cell? ⟨w4.heap.size, 1, none⟩ = some (.int .i64 16) ∧ rowAt w' ⟨w4.heap.size + 1, 0, none⟩ 257 = some (wayCells ⟨2, zArr, zArr_length⟩))
    (exact K4.out _ (by repeat (first | assumption | exact Below.refl _ _ | refine Below.drew ?_)))
    (first
      | (go_at_call 11; refine (num_any _ _).mono ?_; rintro e w' ⟨rfl, rfl⟩)
      | (go_at_call 22; refine (ten1 _).mono ?_; rintro e wx ⟨rfl, hbx⟩; have hBx : Below w11.heap.size w11 wx := by first | exact hbx | exact ((Below.refl _ w11).drew).trans hbx))
  all_goals
    go_wp2
    go_ret
    exact ⟨rfl, HB11.out.trans ((show Below w11.heap.size w11 _ by repeat (first | assumption | exact Below.refl _ _ | refine Below.drew ?_)).mono HB11.out.size)⟩
end Go.Proofs.Ytbcekjbckeljmaa
