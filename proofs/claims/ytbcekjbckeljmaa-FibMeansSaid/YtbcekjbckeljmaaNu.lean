/- The walk of what trie.over makes: an iterator over entries. -/
import Derived.Test.YtbcekjbckeljmaaNt
import Derived.RangeFuncNested
import Derived.RangeFuncBound
import Derived.RangeFuncCalls
import Derived.RangeFuncLeaves
import Derived.Shelf.Abstract
import Derived.Shelf.RegionOpen
import Derived.OwnWalkIn
import Derived.TacticsInMore
import Derived.LoopNIn
import Derived.LoopIn
set_option linter.unusedVariables false
set_option linter.unusedSimpArgs false
namespace Go.Proofs.Ytbcekjbckeljmaa
open Go.RowKit Px Go.Shelf
set_option maxHeartbeats 1000000
set_option maxRecDepth 10000
attribute [local go_sem high] eql47 neq47 loadRow_way loadRow_arr wayA_back arrA_back
attribute [local go_sem low] loadRowOf_some
attribute [local go_sem ↓] load54 store54 alloc54 load52 store52 alloc52 build180 build185
attribute [local go_sem] rload54 rstore54 rload52 rstore52 ralloc54 ralloc52 rbuild180 rbuild185 rfork180
attribute [local go_sem] size_drewN rowAt_alloc_past rowAt_alloc_at rowAt_drew rowAt_drewN thawed_alloc_past thawed_alloc_at thawed_drew thawed_drewN okCells_way storeRowOf_some putRow_drew putRow_drewN putRow_alloc_past putRow_alloc_at wayA_size wayA_toList cells_way arrA_toList cells_arr
attribute [local go_sem] Oper.semAt_some

def entA (e : Pf × Way) : Array Value := (entCells e).toArray
theorem entA_size (e : Pf × Way) : (entA e).size = 259 := by simp [entA, entCells, wayCells_length]
theorem entCells_length (e : Pf × Way) : (entCells e).length = 259 := by simp [entCells, wayCells_length]
theorem load185 (a : Addr) : loadVar 115 a = bigLoad 115 259 a := rfl
theorem store185 (a : Addr) (v : Value) : storeVar 115 a v = bigStore 115 259 a v := rfl
theorem rload185 (a : Addr) (w : World) : (bigLoad 115 259 a).run Try.prog w = loadRowOf Try.prog 115 a w (rowAt w a 259) := bigLoad_row Try.underlying115 rfl isz185 a w
theorem rstore185 (g o : Nat) (v : Value) (w : World) : (bigStore 115 259 ⟨g, o, none⟩ v).run Try.prog w = storeRowOf Try.prog 115 ⟨g, o, none⟩ v w (rowAt w ⟨g, o, none⟩ 259) (thawed w g) (okCells 259 v) := bigStore_row isz185 g o v w
theorem alloc185 (h : Bool) (v : Value) : Instr.alloc 115 h v = bigAlloc 115 h v := rfl
def zEnt : Pf × Way := ((0, 0), zWay)
theorem ralloc185 (w : World) (v : Value) : (bigAlloc 115 true v).run Try.prog w = .ok (.pointer (some ⟨w.heap.size, 0, none⟩)) (w.alloc (.cells (entA zEnt) 115)) := by kernel_rfl
theorem okCells_ent (e : Pf × Way) : okCells 259 (.agg (entA e)) = true := by
  unfold okCells
  simp only [Value.cells, entA_size, decide_true, Bool.true_and, List.all_eq_true]
  exact entCells_one e
theorem cells_ent (e : Pf × Way) : (Value.agg (entA e)).cells = entA e := rfl
theorem entA_toList (e : Pf × Way) : (entA e).toList = entCells e := rfl
theorem loadRow_ent (P : Program) (t : TypeId) (a : Addr) (w : World) (e : Pf × Way) : loadRowOf P t a w (some (entCells e)) = .ok (.agg (entA e)) w := rfl
theorem entA_back (e : Pf × Way) : (entCells e).toArray = entA e := rfl
theorem entA_0 (e : Pf × Way) (h : 0 < (entA e).size) : (entA e)[0]'h = .int .u32 e.1.1 := rfl
theorem entA_1 (e : Pf × Way) (h : 1 < (entA e).size) : (entA e)[1]'h = .int .i64 e.1.2 := rfl
theorem rowEnt (e : Pf × Way) (w : World) (t : TypeId) : rowAt (w.alloc (.cells (entA e) t)) ⟨w.heap.size, 2, none⟩ 257 = some (wayCells e.2) := by
  rw [rowAt_alloc_in _ _ _ _ _ rfl (by rw [entA_size]; omega), entA_toList]
  congr 1
  show ((.int .u32 e.1.1 :: .int .i64 e.1.2 :: wayCells e.2 : List Value).drop 2).take 257 = _
  rw [List.drop_succ_cons, List.drop_succ_cons, List.drop_zero, List.take_of_length_le (Nat.le_of_eq (wayCells_length _))]
attribute [local go_sem high] loadRow_ent entA_back
attribute [local go_sem] entA_0 entA_1 rowEnt
attribute [local go_sem ↓] load185 store185 alloc185
attribute [local go_sem] rload185 rstore185 ralloc185 okCells_ent cells_ent entA_toList entA_size entCells_length

/-- blocks n1 to n2 lie as they lay -/
structure Mid (n1 n2 : Nat) (W W' : World) : Prop where
  size : W.heap.size ≤ W'.heap.size
  block : ∀ k, n1 ≤ k → k < n2 → W'.heap[k]? = W.heap[k]?
theorem Mid.refl (n1 n2 : Nat) (W : World) : Mid n1 n2 W W := ⟨Nat.le_refl _, fun _ _ _ => rfl⟩
theorem Mid.trans {n1 n2 : Nat} {A B C : World} (h : Mid n1 n2 A B) (k : Mid n1 n2 B C) : Mid n1 n2 A C := ⟨Nat.le_trans h.size k.size, fun i h1 h2 => (k.block i h1 h2).trans (h.block i h1 h2)⟩
theorem Mid.of_below {n1 n2 : Nat} {A B : World} (h : Below n2 A B) : Mid n1 n2 A B := ⟨h.size, fun i _ h2 => h.block i h2⟩
theorem Mid.alloc {n1 n2 : Nat} {A B : World} (h : Mid n1 n2 A B) (hn : n2 ≤ B.heap.size) (o : Obj) : Mid n1 n2 A (B.alloc o) := h.trans (Mid.of_below ((Below.refl _ _).alloc hn _))
theorem Mid.drew {n1 n2 : Nat} {A B : World} (h : Mid n1 n2 A B) : Mid n1 n2 A B.drew := h.trans (Mid.of_below ((Below.refl _ _).drew))
theorem Mid.drewN {n1 n2 : Nat} {A B : World} (h : Mid n1 n2 A B) (k : Nat) : Mid n1 n2 A (B.drewN k) := h.trans (Mid.of_below ((Below.refl _ _).drewN k))
theorem Mid.setCell {n1 n2 : Nat} {A B : World} (h : Mid n1 n2 A B) {p : Addr} (hp : p.block < n1 ∨ n2 ≤ p.block) (u : Value) : Mid n1 n2 A (B.setCell p u) :=
  ⟨by simpa using h.size, fun i h1 h2 => (Below.heap_setCell B p u i (by omega)).trans (h.block i h1 h2)⟩
theorem Mid.putRow {n1 n2 : Nat} {A B : World} (h : Mid n1 n2 A B) {p : Addr} (hp : p.block < n1 ∨ n2 ≤ p.block) (cs : List Value) : Mid n1 n2 A (Go.Proofs.Ytbcekjbckeljmaa.putRow B p cs) :=
  ⟨by rw [size_putRow]; exact h.size, fun i h1 h2 => (heap_putRow_far _ _ _ (by omega)).trans (h.block i h1 h2)⟩
theorem midK_b {n1 n2 : Nat} {w : World} (hn : n2 ≤ w.heap.size) (W : World) (l : Nat) (o o' : Obj) (hl : w.heap.size ≤ l) (h : W.heap[l]? = some o) (_ : o.isCells = false) (_ : o.isWalk = false) : Mid n1 n2 W (W.putObj l o') :=
  ⟨(grownBy_putObj' W l o').size, fun k _ h2 => (grownBy_putObj' W l o').block k (by have := (Array.getElem?_eq_some_iff.1 h).1; omega) (fun e => by cases e; omega)⟩
theorem rowAt_mid {n1 n2 : Nat} {w w' : World} (h : Mid n1 n2 w w') {a : Addr} (n : Nat) (h1 : n1 ≤ a.block) (h2 : a.block < n2) : rowAt w' a n = rowAt w a n := by
  unfold rowAt; rw [h.block _ h1 h2]
/-- a slice of entries in blocks n1 to n2 -/
def EntS (n1 n2 : Nat) (w : World) (v : Value) (l : List (Pf × Way)) : Prop :=
  (v = .slice none 0 0 ∧ l = []) ∨ ∃ g cap, v = .slice (some ⟨g, 0, none⟩) l.length cap ∧ n1 ≤ g ∧ g < n2 ∧ ∀ i, (h : i < l.length) → rowAt w ⟨g, i * 259, none⟩ 259 = some (entCells l[i])
theorem EntS.mid {n1 n2 : Nat} {w w' : World} {v : Value} {l : List (Pf × Way)} (h : EntS n1 n2 w v l) (hb : Mid n1 n2 w w') : EntS n1 n2 w' v l := by
  rcases h with h | ⟨g, cap, hv, h1, h2, hr⟩
  · exact .inl h
  · exact .inr ⟨g, cap, hv, h1, h2, fun i hi => (rowAt_mid hb _ h1 h2).trans (hr i hi)⟩
theorem entsRow_length (l : List (Pf × Way)) : (entsRow l).length = l.length * 259 := by
  induction l with
  | nil => rfl
  | cons e l ih => simp only [entsRow, List.flatMap_cons, List.length_append, entCells_length, List.length_cons] at *; rw [ih]; omega
theorem entsRow_at (l : List (Pf × Way)) (i : Nat) (h : i < l.length) : ((entsRow l).drop (i * 259)).take 259 = entCells l[i] := by
  induction l generalizing i with
  | nil => simp at h
  | cons e l ih =>
    simp only [entsRow, List.flatMap_cons]
    cases i with
    | zero => simp [List.take_append, entCells_length, List.take_of_length_le (Nat.le_of_eq (entCells_length e))]
    | succ i =>
      have e1 : (i + 1) * 259 = (entCells e).length + i * 259 := by rw [entCells_length]; omega
      rw [e1, ← List.drop_drop, List.drop_left]
      exact ih i (by simpa using h)
theorem EntS.of_own {base : Nat} {w : World} {v : Value} {l : List (Pf × Way)} (h : w.ownsRow base 115 259 v l.length (entsRow l)) : EntS base w.heap.size w v l := by
  rcases h.2 with ⟨h1, h2⟩ | ⟨g, cap, cur, hv, hg, hc, h1, h2⟩
  · left
    exact ⟨h1, List.eq_nil_of_length_eq_zero h2⟩
  · right
    refine ⟨g, cap, hv, hg, (Array.getElem?_eq_some_iff.1 hc).1, fun i hi => ?_⟩
    obtain ⟨hcm, hsz, htk⟩ := h2
    have e := entsRow_at l i hi
    have hle : i * 259 + 259 ≤ cap * 259 := by omega
    unfold rowAt
    simp only [hc]
    rw [if_pos (by omega), ← e, ← htk, List.drop_take, List.take_take, show min 259 (l.length * 259 - i * 259) = 259 from by omega]
theorem over1_in (F : Fence) (n : Nat) (hf : F.fn 69) (hro : F.round = none) (hn : 1 ≤ n) (k Bs n1 n2 : Nat) (v : Value) (l : List (Pf × Way)) (hlen : l.length ≤ 100000) (J Jx : List (Pf × Way) → World → Prop)
    (hY : ∀ pre x W, J pre W → pre.length < l.length → YieldAt F (n - 1) Try.prog k #[.agg #[.int .u32 x.1.1, .int .i64 x.1.2], .agg (wayA x.2)] W fun e W' =>
      (e = .returned (.bool true) ∧ J (pre ++ [x]) W' ∧ Mid n1 n2 W W') ∨ (e = .returned (.bool false) ∧ Jx (pre ++ [x]) W'))
    (hJ : ∀ pre W o, J pre W → J pre (W.alloc o))
    (W : World) (hBs : W.cell? ⟨Bs, 0, none⟩ = some v) (hS : EntS n1 n2 W v l) (hn0 : n2 ≤ W.heap.size) (h0 : J [] W) :
    CallsIn F n Try.prog 69 #[.func (.yield k) #[] #[], .pointer (some ⟨Bs, 0, none⟩)] W fun e W' => (∃ v, e = .returned v) ∧
      ((∃ ys, ys = l ∧ J ys W') ∨ (∃ pre, pre <+: l ∧ Jx pre W')) := by
  rcases hS with ⟨rfl, rfl⟩ | ⟨g, cap, rfl, hg1, hg2, hr⟩
  · refine callsIn_of_wp Try.func69 rfl hf ?_ hro
    simp only [Try.ntmps69, List.size_toArray, List.length_cons, List.length_nil, Nat.reduceAdd, Nat.reduceSub, Array.replicate_succ, Array.replicate_zero, List.push_toArray, List.append_toArray, List.nil_append, List.cons_append]
    gi_wp2
    gi_loopw [7] (fun i wr => i = .int .i64 0 ∧ J [] wr) (fun _ _ => 0)
    case atStart => exact ⟨rfl, h0⟩
    case round =>
      obtain ⟨rfl, hJs⟩ := hrel
      gi_wp2
      go_end0
      exact ⟨⟨_, rfl⟩, .inl ⟨_, rfl, hJs⟩⟩
  · refine callsIn_of_wp Try.func69 rfl hf ?_ hro
    simp only [Try.ntmps69, List.size_toArray, List.length_cons, List.length_nil, Nat.reduceAdd, Nat.reduceSub, Array.replicate_succ, Array.replicate_zero, List.push_toArray, List.append_toArray, List.nil_append, List.cons_append]
    gi_wp2
    gi_loopw [7] (fun i wr => ∃ m : Nat, m ≤ l.length ∧ i = .int .i64 m ∧ J (l.take m) wr ∧ Mid n1 n2 W wr) (fun i _ => l.length - (intOf i).toNat)
    case atStart => exact ⟨0, Nat.zero_le _, rfl, h0, Mid.refl _ _ _⟩
    case round =>
      obtain ⟨m, hm, rfl, hJs, hnx⟩ := hrel
      by_cases hlt : m < l.length
      · have hrow := (rowAt_mid hnx 259 (a := ⟨g, m * 259, none⟩) hg1 hg2).trans (hr m hlt)
        have hnr := hnx.size
        have hJa := hJ _ _ (.cells (entA l[m]) 115) hJs
        obtain ⟨fn, tmps, assign, body, hy, hR⟩ := hY _ l[m] _ hJa (by rw [List.length_take]; omega)
        gi_wp2
        refine hR.mono ?_
        rintro e W3 (⟨rfl, hJ3, hk3⟩ | ⟨rfl, hJx3⟩)
        · gi_wp2
          go_roundw
          case rel => exact ⟨m + 1, by omega, by go_num, by rw [List.take_succ_eq_append_getElem hlt]; exact hJ3, (hnx.alloc (by omega) _).trans hk3⟩
          case measure => simp [intOf]; omega
        · gi_wp2
          refine bodyPost_ret (results_none rfl _ _ _) rfl ?_
          exact ⟨⟨_, rfl⟩, .inr ⟨_, by rw [← List.take_succ_eq_append_getElem hlt]; exact List.take_prefix _ _, hJx3⟩⟩
      · obtain rfl : m = l.length := by omega
        gi_wp2
        go_end0
        exact ⟨⟨_, rfl⟩, .inl ⟨_, rfl, by rwa [List.take_length] at hJs⟩⟩
theorem over_stops (F : Fence) (n : Nat) (hf : F.fn 69) (hro : F.round = none) (hn : 1 ≤ n) (Bs n1 n2 : Nat) (v : Value) (l : List (Pf × Way)) (hlen : l.length ≤ 100000) (w : World) (hBs : Bs < w.heap.size) (hn0 : n2 ≤ w.heap.size)
    (hc : w.cell? ⟨Bs, 0, none⟩ = some v) (hS : EntS n1 n2 w v l) :
    SeqStopsK F n Try.prog 69 #[.pointer (some ⟨Bs, 0, none⟩)] (fun x : Pf × Way => #[.agg #[.int .u32 x.1.1, .int .i64 x.1.2], .agg (wayA x.2)]) (Mid n1 n2) (fun ys => ys = l) (fun pre => pre <+: l) l.length w := fun k J Jx W hW hJ _ hY h0 =>
  over1_in F n hf hro hn k Bs n1 n2 v l hlen J Jx hY (fun pre W1 o h => hJ pre W1 _ none h (World.grownBy_alloc _ _ _) (fun r e => by cases e)) W ((hW.cell (p := ⟨Bs, 0, none⟩) hBs).trans hc) (hS.mid (Mid.of_below (hW.mono hn0))) (Nat.le_trans hn0 hW.size) h0
end Go.Proofs.Ytbcekjbckeljmaa
