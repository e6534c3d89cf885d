/- Which routes may be, and their entries. -/
import Derived.Test.YtbcekjbckeljmaaNm
set_option linter.unusedVariables false
set_option linter.unusedSimpArgs false
namespace Go.Proofs.Ytbcekjbckeljmaa
open Go.RowKit
set_option maxHeartbeats 1000000
set_option maxRecDepth 10000
attribute [local go_sem high] eql47 neq47 loadRow_way loadRow_arr wayA_back arrA_back
attribute [local go_sem low] loadRowOf_some
attribute [local go_sem ↓] load54 store54 alloc54 load52 store52 alloc52 build180 build185
attribute [local go_sem] rload54 rstore54 rload52 rstore52 ralloc54 ralloc52 rbuild180 rbuild185 rfork180
attribute [local go_sem] size_drewN rowAt_alloc_past rowAt_alloc_at rowAt_drew rowAt_drewN thawed_alloc_past thawed_alloc_at thawed_drew thawed_drewN okCells_way storeRowOf_some putRow_drew putRow_drewN putRow_alloc_past putRow_alloc_at wayA_size wayA_toList cells_way arrA_toList cells_arr

/-- a route -/
structure Rt where
  a : Nat
  n : Int
  own : Bool
  taken : Bool
  d : Int
  l : List (Int × Int)
  o : Option Addr
  cap : Nat
def Rt.cells (r : Rt) : Array Value := #[.int .u32 r.a, .int .i64 r.n, .bool r.own, .bool r.taken, .int .i64 r.d, .slice r.o r.l.length r.cap]
def Rt.val (r : Rt) : Value := .agg r.cells
structure Rt.In (r : Rt) (w : World) : Prop where
  a : r.a < 4294967296
  len : r.l.length < 100000
  s : PairS w r.o r.l
theorem Rt.In.keep {r : Rt} {w w' : World} (h : r.In w) (hb : Below w.heap.size w w') : r.In w' := ⟨h.a, h.len, h.s.keep hb⟩
def Rt.may (r : Rt) : Bool := Px.may r.a r.n && (decide (r.l.length = 0) || mayL r.l)
theorem refMay_any (r : Rt) (w : World) (h : r.In w) :
    Calls Try.prog 10 #[r.val] w fun e w' => e = .returned (.bool r.may) ∧ Below w.heap.size w w' := by
  obtain ⟨a, n, own, taken, d, l, o, cap⟩ := r
  have H := Lib.hid (h.keep ((Below.refl _ w).alloc (Nat.le_refl _) (.cells #[.int .u32 a, .int .i64 n, .bool own, .bool taken, .int .i64 d, .slice o l.length cap] 28)))
  have ha := h.a
  have hlen := h.len
  clear h
  simp only [Rt.val, Rt.cells, Rt.may] at *
  go_enter Try.func10, Try.ntmps10
  go_wp2_with fail
  refine (mayPrefix_any a n _ ha).mono ?_
  rintro e w1 ⟨rfl, hb1⟩
  have HB1 := Lib.hid (((Below.refl _ w).alloc (Nat.le_refl _) (.cells #[.int .u32 a, .int .i64 n, .bool own, .bool taken, .int .i64 d, .slice o l.length cap] 28)).trans (hb1.mono (by simp)))
  have H1 := Lib.hid (H.out.keep hb1)
  have c5 := pw_cell (a := ⟨w.heap.size, 5, none⟩) (v := .slice o l.length cap) hb1 (World.cell?_alloc_at _ _ _ 5 rfl)
  clear hb1
  cases hm : Px.may a n with
  | false =>
    go_wp2
    go_ret
    exact ⟨by simp [hm], HB1.out⟩
  | true =>
    have HMM := Lib.hid hm
    clear hm
    by_cases h0 : l.length = 0
    · have H0 := Lib.hid h0
      have e0 : ((l.length : Nat) : Int) = 0 := by omega
      clear h0
      go_wp2
      go_ret
      exact ⟨by simp [HMM.out, H0.out], HB1.out⟩
    · have e0 : ¬ ((l.length : Nat) : Int) = 0 := by omega
      go_wp2_with fail
      refine (may13_any o cap l _ H1.out.s hlen).mono ?_
      rintro e w2 ⟨rfl, hb2⟩
      have HB2 := Lib.hid (HB1.out.trans (hb2.mono HB1.out.size))
      clear hb2 c5
      go_wp2
      go_ret
      exact ⟨by simp [HMM.out, h0], HB2.out⟩
theorem fibMay_any (r : Rt) (w : World) (h : r.In w) :
    Calls Try.prog 9 #[r.val] w fun e w' => e = .returned (.bool r.may) ∧ Below w.heap.size w w' := by
  obtain ⟨a, n, own, taken, d, l, o, cap⟩ := r
  have H := Lib.hid h
  have ha := h.a
  have hlen := h.len
  clear h
  simp only [Rt.val, Rt.cells, Rt.may] at *
  have HB0 := Lib.hid ((((Below.refl _ w).alloc (Nat.le_refl _) (.cells #[.int .u32 a, .int .i64 n, .bool own, .bool taken, .int .i64 d, .slice o l.length cap] 28)).alloc (by simp) (.cells #[.pointer none, .int .i64 1, .int .i64 0, .bool true] 93)))
  go_enter Try.func9, Try.ntmps9
  go_wp2_with fail
  refine (newB_any _).mono ?_
  rintro e w1 ⟨rfl, rfl⟩
  have c0 : ∀ i v, #[Value.int .u32 a, .int .i64 n, .bool own, .bool taken, .int .i64 d, .slice o l.length cap][i]? = some v → ((w.alloc (.cells #[.int .u32 a, .int .i64 n, .bool own, .bool taken, .int .i64 d, .slice o l.length cap] 28)).alloc (.cells #[.pointer none, .int .i64 1, .int .i64 0, .bool true] 93)).cell? ⟨w.heap.size, i, none⟩ = some v := fun i v hv => by
    rw [World.cell?_alloc_past _ _ _ (by simp)]; exact (World.cell?_alloc_at _ _ _ i rfl).trans hv
  have q0 := c0 0 _ rfl
  have q1 := c0 1 _ rfl
  have q5 := c0 5 _ rfl
  clear c0
  go_wp2_with fail
  refine (insertB_any _ a n _ ha (heap_alloc_at _ _ _ (by simp))).mono ?_
  rintro e w2 ⟨rfl, hb2⟩
  have HB2 : Hid (Below w.heap.size w w2) := Lib.hid (HB0.out.trans (hb2.mono (by simp)))
  have q5 : w2.cell? ⟨w.heap.size, 5, none⟩ = some (.slice o l.length cap) := by rw [hb2.cell (by simp)]; exact q5
  clear hb2 q0 q1
  cases hm : Px.may a n with
  | false =>
    go_wp2
    go_ret
    exact ⟨by simp [hm], HB2.out⟩
  | true =>
    have HMM := Lib.hid hm
    clear hm
    by_cases h0 : l.length = 0
    · have H0 := Lib.hid h0
      have e0 : ((l.length : Nat) : Int) = 0 := by omega
      clear h0
      go_wp2
      go_ret
      exact ⟨by simp [HMM.out, H0.out], HB2.out⟩
    · have e0 : ¬ ((l.length : Nat) : Int) = 0 := by omega
      go_wp2_with fail
      refine (split_may o cap l _ (H.out.keep HB2.out).s hlen).mono ?_
      rintro e w3 ⟨rfl, hb3⟩
      have HB3 := Lib.hid (HB2.out.trans (hb3.mono HB2.out.size))
      clear hb3 q5
      go_wp2
      go_ret
      exact ⟨by simp [HMM.out, h0], HB3.out⟩
end Go.Proofs.Ytbcekjbckeljmaa
