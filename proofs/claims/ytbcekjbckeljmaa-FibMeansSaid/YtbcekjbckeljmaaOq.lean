/- What trie.over makes, at whatever type of elements. -/
import Derived.Test.YtbcekjbckeljmaaNu
set_option linter.unusedVariables false
set_option linter.unusedSimpArgs false
namespace Go.Proofs.Ytbcekjbckeljmaa
open Go.RowKit Px
set_option maxHeartbeats 1000000
set_option maxRecDepth 10000
attribute [local go_sem high] eql47 neq47 loadRow_way loadRow_arr wayA_back arrA_back
attribute [local go_sem low] loadRowOf_some
attribute [local go_sem ↓] load54 store54 alloc54 load52 store52 alloc52 build180 build185
attribute [local go_sem] rload54 rstore54 rload52 rstore52 ralloc54 ralloc52 rbuild180 rbuild185 rfork180
attribute [local go_sem] size_drewN rowAt_alloc_past rowAt_alloc_at rowAt_drew rowAt_drewN thawed_alloc_past thawed_alloc_at thawed_drew thawed_drewN okCells_way storeRowOf_some putRow_drew putRow_drewN putRow_alloc_past putRow_alloc_at wayA_size wayA_toList cells_way arrA_toList cells_arr
open Go.Shelf
attribute [local go_sem] Oper.semAt_some
attribute [local go_sem high] loadRow_ent entA_back
attribute [local go_sem] entA_0 entA_1 rowEnt
attribute [local go_sem ↓] load185 store185 alloc185
attribute [local go_sem] rload185 rstore185 ralloc185 okCells_ent cells_ent entA_toList entA_size entCells_length
theorem over1F_in {α : Type} (f : α → Pf × Way) (F : Fence) (n : Nat) (hf : F.fn 69) (hro : F.round = none) (hn : 1 ≤ n) (k Bs n1 n2 : Nat) (v : Value) (l : List α) (hlen : l.length ≤ 100000) (J Jx : List α → World → Prop)
    (hY : ∀ pre x W, J pre W → pre.length < l.length → YieldAt F (n - 1) Try.prog k #[.agg #[.int .u32 (f x).1.1, .int .i64 (f x).1.2], .agg (wayA (f x).2)] W fun e W' =>
      (e = .returned (.bool true) ∧ J (pre ++ [x]) W' ∧ Mid n1 n2 W W') ∨ (e = .returned (.bool false) ∧ Jx (pre ++ [x]) W'))
    (hJ : ∀ pre W o, J pre W → J pre (W.alloc o))
    (W : World) (hBs : W.cell? ⟨Bs, 0, none⟩ = some v) (hS : EntS n1 n2 W v (l.map f)) (hn0 : n2 ≤ W.heap.size) (h0 : J [] W) :
    CallsIn F n Try.prog 69 #[.func (.yield k) #[] #[], .pointer (some ⟨Bs, 0, none⟩)] W fun e W' => (∃ v, e = .returned v) ∧
      ((∃ ys, ys = l ∧ J ys W') ∨ (∃ pre, pre <+: l ∧ Jx pre W')) := by
  rcases hS with ⟨rfl, hnil⟩ | ⟨g, cap, rfl, hg1, hg2, hr⟩
  · obtain rfl : l = [] := by simpa using hnil
    clear hnil
    refine callsIn_of_wp Try.func69 rfl hf ?_ hro
    simp only [Try.ntmps69, List.size_toArray, List.length_cons, List.length_nil, Nat.reduceAdd, Nat.reduceSub, Array.replicate_succ, Array.replicate_zero, List.push_toArray, List.append_toArray, List.nil_append, List.cons_append]
    gi_wp2
    gi_loopw [7] (fun i wr => i = .int .i64 0 ∧ J [] wr) (fun _ _ => 0)
    case atStart => exact ⟨rfl, h0⟩
    case round =>
      obtain ⟨rfl, hJs⟩ := hrel
      gi_wp2
      go_end0
      exact ⟨⟨_, rfl⟩, .inl ⟨_, rfl, hJs⟩⟩
  · rw [List.length_map] at *
    have hr : ∀ i, (h : i < l.length) → rowAt W ⟨g, i * 259, none⟩ 259 = some (entCells (f l[i])) := fun i h => by
      have := hr i (by rw [List.length_map]; exact h)
      rwa [List.getElem_map] at this
    refine callsIn_of_wp Try.func69 rfl hf ?_ hro
    simp only [Try.ntmps69, List.size_toArray, List.length_cons, List.length_nil, Nat.reduceAdd, Nat.reduceSub, Array.replicate_succ, Array.replicate_zero, List.push_toArray, List.append_toArray, List.nil_append, List.cons_append]
    gi_wp2
    gi_loopw [7] (fun i wr => ∃ m : Nat, m ≤ l.length ∧ i = .int .i64 m ∧ J (l.take m) wr ∧ Mid n1 n2 W wr) (fun i _ => l.length - (intOf i).toNat)
    case atStart => exact ⟨0, Nat.zero_le _, rfl, h0, Mid.refl _ _ _⟩
    case round =>
      obtain ⟨m, hm, rfl, hJs, hnx⟩ := hrel
      by_cases hlt : m < l.length
      · have hrow := (rowAt_mid hnx 259 (a := ⟨g, m * 259, none⟩) hg1 hg2).trans (hr m hlt)
        have hnr := hnx.size
        have hJa := hJ _ _ (.cells (entA (f l[m])) 115) hJs
        obtain ⟨fn, tmps, assign, body, hy, hR⟩ := hY _ l[m] _ hJa (by rw [List.length_take]; omega)
        gi_wp2
        refine hR.mono ?_
        rintro e W3 (⟨rfl, hJ3, hk3⟩ | ⟨rfl, hJx3⟩)
        · gi_wp2
          go_roundw
          case rel => exact ⟨m + 1, by omega, by go_num, by rw [List.take_succ_eq_append_getElem hlt]; exact hJ3, (hnx.alloc (by omega) _).trans hk3⟩
          case measure => simp [intOf]; omega
        · gi_wp2
          refine bodyPost_ret (results_none rfl _ _ _) rfl ?_
          exact ⟨⟨_, rfl⟩, .inr ⟨_, by rw [← List.take_succ_eq_append_getElem hlt]; exact List.take_prefix _ _, hJx3⟩⟩
      · obtain rfl : m = l.length := by omega
        gi_wp2
        go_end0
        exact ⟨⟨_, rfl⟩, .inl ⟨_, rfl, by rwa [List.take_length] at hJs⟩⟩
theorem over_stopsF {α : Type} (f : α → Pf × Way) (F : Fence) (n : Nat) (hf : F.fn 69) (hro : F.round = none) (hn : 1 ≤ n) (Bs n1 n2 : Nat) (v : Value) (l : List α) (hlen : l.length ≤ 100000) (w : World) (hBs : Bs < w.heap.size) (hn0 : n2 ≤ w.heap.size)
    (hc : w.cell? ⟨Bs, 0, none⟩ = some v) (hS : EntS n1 n2 w v (l.map f)) :
    SeqStopsK F n Try.prog 69 #[.pointer (some ⟨Bs, 0, none⟩)] (fun x : α => #[.agg #[.int .u32 (f x).1.1, .int .i64 (f x).1.2], .agg (wayA (f x).2)]) (Mid n1 n2) (fun ys => ys = l) (fun pre => pre <+: l) l.length w := fun k J Jx W hW hJ _ hY h0 =>
  over1F_in f F n hf hro hn k Bs n1 n2 v l hlen J Jx hY (fun pre W1 o h => hJ pre W1 _ none h (World.grownBy_alloc _ _ _) (fun r e => by cases e)) W ((hW.cell (p := ⟨Bs, 0, none⟩) hBs).trans hc) (hS.mid (Mid.of_below (hW.mono hn0))) (Nat.le_trans hn0 hW.size) h0
end Go.Proofs.Ytbcekjbckeljmaa
