/- slices.Sorted at ints; the walk of fib's Ports. -/
import Derived.Test.YtbcekjbckeljmaaOl
import Derived.Test.YtbcekjbckeljmaaShelfB
import Derived.Test.YtbcekjbckeljmaaNx
set_option linter.unusedVariables false
set_option linter.unusedSimpArgs false
namespace Go.Proofs.Ytbcekjbckeljmaa
open Go.RowKit Px
set_option maxHeartbeats 1000000
set_option maxRecDepth 10000
attribute [local go_sem high] eql47 neq47 loadRow_way loadRow_arr wayA_back arrA_back
attribute [local go_sem low] loadRowOf_some
attribute [local go_sem ↓] load54 store54 alloc54 load52 store52 alloc52 build180 build185
attribute [local go_sem] rload54 rstore54 rload52 rstore52 ralloc54 ralloc52 rbuild180 rbuild185 rfork180
attribute [local go_sem] size_drewN rowAt_alloc_past rowAt_alloc_at rowAt_drew rowAt_drewN thawed_alloc_past thawed_alloc_at thawed_drew thawed_drewN okCells_way storeRowOf_some putRow_drew putRow_drewN putRow_alloc_past putRow_alloc_at wayA_size wayA_toList cells_way arrA_toList cells_arr
attribute [local go_sem] thawed_setCell rowAt_setCell_lt rowAt_setCell_gt cell?_putRow_lt cell?_putRow_gt frozen?_putRow_lt frozen?_putRow_gt pfA_lit wayCells_length

def IntsOf (w : World) (g : Nat) (l : List Int) : Prop := ∀ j, (h : j < l.length) → w.cell? ⟨g, j, none⟩ = some (.int .i64 l[j]) ∧ w.frozen? ⟨g, j, none⟩ = false
theorem IntsOf.holds {w : World} {g : Nat} {l : List Int} (h : IntsOf w g l) : Go.Sort.Holds (Value.int .i64) w g 0 l.toArray := fun j hj => by
  have hj' : j < l.length := by simpa using hj
  have e : l.toArray[j]! = l[j] := by simp [hj']
  rw [e, Nat.zero_add]
  exact h j hj'
theorem IntsOf.of_holds {w : World} {g : Nat} {l : List Int} (h : Go.Sort.Holds (Value.int .i64) w g 0 l.toArray) : IntsOf w g l := fun j hj => by
  have h1 := h j (by simpa using hj)
  have e : l.toArray[j]! = l[j] := by simp [hj]
  rw [e, Nat.zero_add] at h1
  exact h1
theorem IntsOf.of_row {w : World} {base g n cap : Nat} {l : List Int} (h : w.ownsRow base 3 1 (.slice (some ⟨g, 0, none⟩) n cap) n (l.map (Value.int .i64))) : IntsOf w g l := fun j hj => by
  have hn := h.1
  rw [List.length_map, Nat.mul_one] at hn
  have h1 := h.cellAt j (by omega)
  rw [List.getElem?_map, List.getElem?_eq_getElem hj] at h1
  exact ⟨h1, h.frozenAt j⟩
theorem sort_heap (w : World) (n g : Nat) (d : Array Int) (os : Array Obj) (hg : g < w.heap.size) : Below g w (Go.Sort.grow (Go.Sort.putRow (Value.int .i64) (Go.Sort.ahead w n) g 0 d) os) := by
  refine ⟨rfl, rfl, rfl, by simp, fun k hk => ?_⟩
  rw [Go.Sort.heap_grow_old _ _ (by simp; omega)]
  have hne : ¬ g = k := by omega
  simp [Go.Sort.putRow, Go.Sort.mapBlock, Array.getElem?_modify, hne, Go.Sort.ahead]
theorem sorted_any (Bs g off cap : Nat) (l : List Int) (hl0 : 0 < l.length) (hlen : l.length ≤ 100000) (w : World) (hBs : Bs < w.heap.size) (hc : w.cell? ⟨Bs, 0, none⟩ = some (.slice (some ⟨g, off, none⟩) l.length cap)) (hS : IntsAt w.heap.size w g off l) :
    Calls Try.prog 38 #[.func (.func 61) #[] #[.pointer (some ⟨Bs, 0, none⟩)]] w fun e w' => ∃ g' cap', e = .returned (.slice (some ⟨g', 0, none⟩) l.length cap') ∧ w.heap.size ≤ g' ∧ g' < w'.heap.size ∧ l.length ≤ cap' ∧ IntsOf w' g' (l.mergeSort fun x y => decide (x ≤ y)) ∧ Below w.heap.size w w' := by
  have HA := Lib.hid (collect_any Bs g off cap l hlen w hBs hc hS)
  clear hBs hc hS
  go_enter Try.func38, Try.ntmps38
  go_wp2_with fail
  refine HA.out.mono ?_
  rintro e w1 ⟨v, rfl, hr, hb⟩
  obtain ⟨g', cap', rfl, hg'⟩ := hr.form hl0
  have hi := IntsOf.of_row hr
  have HB := Lib.hid hb
  have hbase : w.heap.size ≤ g' := (hr.lt g' rfl).1
  have hcap : l.length ≤ cap' := by
    rcases hr.2 with ⟨h, _⟩ | ⟨g1, c1, cur, h, _, _, h1, _⟩
    · simp at h
    · injection h with e1 e2 e3; omega
  have HS := Lib.hid (Try.slices_Sort_int g' 0 cap' l w1 hi.holds hg'.2 (by omega))
  have HI := Lib.hid hi
  clear hr hb hi
  go_wp2_with fail
  refine HS.out.mono ?_
  rintro e w2 ⟨rfl, n, os, rfl⟩
  have hI2 : IntsOf (Go.Sort.grow (Go.Sort.putRow (Value.int .i64) (Go.Sort.ahead w1 n) g' 0 (l.mergeSort fun x y => decide (x ≤ y)).toArray) os) g' (l.mergeSort fun x y => decide (x ≤ y)) :=
    IntsOf.of_holds (Go.Sort.holds_grow _ _ _ _ _ _ (by simp; exact hg'.2) (Go.Sort.holds_putRow _ _ _ _ l.toArray _ (Go.Sort.holds_ahead _ _ _ _ _ _ HI.out.holds) (by simp [List.length_mergeSort])))
  have hB2 := HB.out.trans ((sort_heap w1 n g' (l.mergeSort fun x y => decide (x ≤ y)).toArray os hg'.2).mono hbase)
  have hl2 : g' < (Go.Sort.grow (Go.Sort.putRow (Value.int .i64) (Go.Sort.ahead w1 n) g' 0 (l.mergeSort fun x y => decide (x ≤ y)).toArray) os).heap.size := by
    have := hg'.2
    simp; omega
  generalize Go.Sort.grow (Go.Sort.putRow (Value.int .i64) (Go.Sort.ahead w1 n) g' 0 (l.mergeSort fun x y => decide (x ≤ y)).toArray) os = w2 at *
  have HI2 := Lib.hid hI2
  clear hI2
  go_wp2
  go_ret
  exact ⟨g', cap', rfl, hbase, hl2, hcap, HI2.out, hB2⟩
theorem compact_le (l : List Int) : (Lib.compact l).length ≤ l.length := by
  unfold Lib.compact Lib.compactUpTo
  rw [List.length_map]
  exact Nat.le_trans (List.length_filter_le _ _) (by simp)
theorem compact_heap (w : World) (n g : Nat) (d : Array Int) : Below g w (Go.Sort.putRow (Value.int .i64) (Go.Sort.ahead w n) g 0 d) := by
  refine ⟨rfl, rfl, rfl, by simp, fun k hk => ?_⟩
  have hne : ¬ g = k := by omega
  simp [Go.Sort.putRow, Go.Sort.mapBlock, Array.getElem?_modify, hne, Go.Sort.ahead]
/-- the ports of an entry -/
def portsOf (v : Way) : List Int := if v.k = 3 then Lib.compact (v.b.mergeSort fun x y => decide (x ≤ y)) else []
def PortsEnd (w : World) (v : Way) (e : Ending) (w' : World) : Prop := Below w.heap.size w w' ∧ ∃ o cap, e = .returned (.slice o (portsOf v).length cap) ∧ ∀ j, (h : j < (portsOf v).length) → ∃ g, o = some ⟨g, 0, none⟩ ∧ w'.cell? ⟨g, j, none⟩ = some (.int .i64 (portsOf v)[j])
theorem fports_any (T : Tr) (a : Nat) (base fb tb lim n : Nat) (w : World) (hf : w.cell? ⟨fb, 0, none⟩ = some (.pointer (some ⟨tb, 0, none⟩))) (hT : Trie w base tb T lim n) (hW : T.WF) (ha : a < 4294967296) :
    Calls Try.prog 18 #[.pointer (some ⟨fb, 0, none⟩), .int .u32 a] w (PortsEnd w (lkE T a).1.2) := by
  have HL := Lib.hid (lookup_any T a base fb tb lim n w hf hT hW ha)
  generalize lkE T a = r at *
  clear hf hT hW
  obtain ⟨⟨⟨pa, pl⟩, v⟩, is⟩ := r
  simp only [] at HL ⊢
  go_enter Try.func18, Try.ntmps18
  go_wp2_with fail
  refine HL.out.mono ?_
  rintro e w1 ⟨rfl, hb⟩
  have hs1 := hb.size
  have h0 : ((w1.alloc (.cells #[.int .u32 pa, .int .i64 pl] 25)).alloc (.cells (wayA v) 33)).cell? ⟨w1.heap.size + 1, 0, none⟩ = some (.int .i64 v.k) := WayAt.cell (heap_alloc_at _ _ _ (by simp))
  by_cases hk : v.k = 3
  · have HK := Lib.hid hk
    rw [hk] at h0
    clear hk
    go_wp2_with fail
    have hwa : WayAt ((w1.alloc (.cells #[.int .u32 pa, .int .i64 pl] 25)).alloc (.cells (wayA v) 33)) (w1.heap.size + 1) v := heap_alloc_at _ _ _ (by simp)
    have hb3 : Below w.heap.size w ((w1.alloc (.cells #[.int .u32 pa, .int .i64 pl] 25)).alloc (.cells (wayA v) 33)) := (hb.alloc hb.size _).alloc (by simp; omega) _
    have hs3 : ((w1.alloc (.cells #[.int .u32 pa, .int .i64 pl] 25)).alloc (.cells (wayA v) 33)).heap.size = w1.heap.size + 2 := by simp
    clear h0
    generalize (w1.alloc (.cells #[.int .u32 pa, .int .i64 pl] 25)).alloc (.cells (wayA v) 33) = w3 at *
    refine (values_any _ 256 256 w3).mono ?_
    rintro e w' ⟨rfl, rfl⟩
    have hb34 : Below w3.heap.size w3 (w3.alloc (.cells #[.slice (some ⟨w1.heap.size + 1, 1, none⟩) 256 256] 52)) := (Below.refl _ _).alloc (Nat.le_refl _) _
    have hI : IntsAt (w3.alloc (.cells #[.slice (some ⟨w1.heap.size + 1, 1, none⟩) 256 256] 52)).heap.size (w3.alloc (.cells #[.slice (some ⟨w1.heap.size + 1, 1, none⟩) 256 256] 52)) (w1.heap.size + 1) 1 v.b :=
      ⟨by simp; omega, fun i hi => (hwa.below hb34).range i _ (by simp [arrCells, hi])⟩
    have HS := sorted_any w3.heap.size (w1.heap.size + 1) 1 256 v.b (by rw [v.hb]; omega) (by rw [v.hb]; omega) _ (by simp) (by rw [v.hb]; exact World.cell?_alloc_at _ _ _ 0 rfl) hI
    rw [v.hb] at HS
    have HS := Lib.hid HS
    have HB4 := Lib.hid (hb3.trans (hb34.mono hb3.size))
    clear hI hb34 hs3 hwa hb3 hb hs1
    go_wp2_with fail
    refine HS.out.mono ?_
    rintro e w5 ⟨g', cap', rfl, hg1, hg2, hcap, hI5, hb5⟩
    have hl5 : (v.b.mergeSort fun x y => decide (x ≤ y)).length = 256 := by rw [List.length_mergeSort, v.hb]
    have HC := Try.slices_Compact_int g' 0 cap' (v.b.mergeSort fun x y => decide (x ≤ y)) w5 hI5.holds (by rw [hl5]; omega) (by rw [hl5]; exact hcap)
    rw [hl5] at HC
    have HC := Lib.hid HC
    have hp : portsOf v = Lib.compact (v.b.mergeSort fun x y => decide (x ≤ y)) := if_pos HK.out
    have HP := Lib.hid hp
    have hle : w.heap.size ≤ g' := by
      have := HB4.out.size
      omega
    have HB5 := Lib.hid (HB4.out.trans (hb5.mono HB4.out.size))
    have HI5 := Lib.hid hI5
    have HL5 := Lib.hid hl5
    clear hp hI5 hl5 hb5 hg1
    go_wp2_with fail
    refine HC.out.mono ?_
    rintro e w6 ⟨rfl, q, rfl⟩
    have hB6 := HB5.out.trans ((compact_heap w5 q g' (Lib.compact (v.b.mergeSort fun x y => decide (x ≤ y)) ++ List.replicate (256 - (Lib.compact (v.b.mergeSort fun x y => decide (x ≤ y))).length) 0).toArray).mono hle)
    have hlc := compact_le (v.b.mergeSort fun x y => decide (x ≤ y))
    rw [HL5.out] at hlc
    have hH6 := Go.Sort.holds_putRow (Value.int .i64) (Go.Sort.ahead w5 q) g' 0 (v.b.mergeSort fun x y => decide (x ≤ y)).toArray (Lib.compact (v.b.mergeSort fun x y => decide (x ≤ y)) ++ List.replicate (256 - (Lib.compact (v.b.mergeSort fun x y => decide (x ≤ y))).length) 0).toArray HI5.out.holds (by simp [HL5.out]; omega)
    have hI6 := IntsOf.of_holds hH6
    clear hH6
    rw [← HP.out] at hI6 hB6 hlc ⊢
    generalize Go.Sort.putRow (Value.int .i64) (Go.Sort.ahead w5 q) g' 0 (portsOf v ++ List.replicate (256 - (portsOf v).length) 0).toArray = w6 at *
    have HI6 := Lib.hid hI6
    clear hI6
    go_wp2
    go_ret
    refine ⟨hB6, _, _, rfl, fun j hj => ⟨g', rfl, ?_⟩⟩
    have h1 := (HI6.out j (by rw [List.length_append]; omega)).1
    rwa [List.getElem_append_left hj] at h1
  · have hk' : ¬ v.k = 3 := hk
    go_wp2
    go_ret
    have hp : portsOf v = [] := if_neg hk
    refine ⟨(hb.alloc hb.size _).alloc (by simp; omega) _, none, 0, ?_, fun j h => ?_⟩
    · rw [hp]; rfl
    · rw [hp] at h; simp at h
end Go.Proofs.Ytbcekjbckeljmaa
