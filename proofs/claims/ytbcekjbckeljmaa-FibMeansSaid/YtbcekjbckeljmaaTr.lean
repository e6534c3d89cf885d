/- The trie in memory: a tree of nodes, one block each; the walk of place. -/
import Derived.Test.YtbcekjbckeljmaaTb
import Derived.Test.YtbcekjbckeljmaaPy
import Derived.Test.YtbcekjbckeljmaaWay
set_option linter.unusedVariables false
set_option linter.unusedSimpArgs false
namespace Go.Proofs.Ytbcekjbckeljmaa
open Go.RowKit Px

/-- two prefixes, held against each other -/
def pxEq (a n b m : Int) : Bool := decide (a = b ∧ n = m)
theorem eql47 (a n b m : Int) (w : World) : (binOp .eql 25 (.agg #[.int .u32 a, .int .i64 n]) (.agg #[.int .u32 b, .int .i64 m])).run Try.prog w = .ok (.bool (pxEq a n b m)) w := by
  go_simp
  unfold pxEq
  by_cases h1 : a = b <;> by_cases h2 : n = m <;> simp [h1, h2]
theorem neq47 (a n b m : Int) (w : World) : (binOp .neq 25 (.agg #[.int .u32 a, .int .i64 n]) (.agg #[.int .u32 b, .int .i64 m])).run Try.prog w = .ok (.bool (!pxEq a n b m)) w := by
  go_simp
  unfold pxEq
  by_cases h1 : a = b <;> by_cases h2 : n = m <;> simp [h1, h2]
theorem pxEq_pf (q p : Pf) : pxEq q.1 q.2 p.1 p.2 = decide (q = p) := by
  unfold pxEq
  rw [Bool.eq_iff_iff]
  simp only [decide_eq_true_eq]
  constructor
  · intro h; exact Prod.ext (by omega) (by omega)
  · intro h; subst h; exact ⟨rfl, rfl⟩
theorem pxEq_yes {q p : Pf} (h : q = p) : pxEq q.1 q.2 p.1 p.2 = true := by rw [pxEq_pf]; simpa using h
theorem pxEq_no {q p : Pf} (h : q ≠ p) : pxEq q.1 q.2 p.1 p.2 = false := by rw [pxEq_pf]; simpa using h
/-- a trie: each node with the block in which it lies -/
inductive Tr where
  | nil
  | node (blk : Nat) (p : Pf) (v : Way) (has : Bool) (l r : Tr)
namespace Tr
def ptr : Tr → Value
  | nil => .pointer none
  | node b _ _ _ _ _ => .pointer (some ⟨b, 0, none⟩)
def cells (p : Pf) (v : Way) (has : Bool) (lp rp : Value) : List Value := [.int .u32 p.1, .int .i64 p.2] ++ wayCells v ++ [.bool has, lp, rp]
/-- the tree lies in the world -/
def In (w : World) : Tr → Prop
  | nil => True
  | node b p v has l r => w.heap[b]? = some (.cells (cells p v has l.ptr r.ptr).toArray 110 (0, 0)) ∧ l.In w ∧ r.In w
def blocks : Tr → List Nat
  | nil => []
  | node b _ _ _ l r => b :: (l.blocks ++ r.blocks)
def size : Tr → Nat
  | nil => 0
  | node _ _ _ _ l r => l.size + r.size + 1
/-- each prefix may be -/
def Okp : Tr → Prop
  | nil => True
  | node _ p _ _ l r => ok p ∧ l.Okp ∧ r.Okp
def child (l r : Tr) (i : Nat) : Tr := if i = 0 then l else r
/-- where a prefix is, or would be: the address of the pointer, and what it points to -/
def desc (s : Addr) : Tr → Pf → Addr × Tr
  | nil, _ => (s, nil)
  | node b q v h l r, p => if q = p ∨ ¬ cov q p then (s, node b q v h l r) else if bit p.1 q.2 = 0 then l.desc ⟨b, 260, none⟩ p else r.desc ⟨b, 261, none⟩ p
theorem cells_length (p : Pf) (v : Way) (has : Bool) (lp rp : Value) : (cells p v has lp rp).length = 262 := by simp [cells, wayCells_length]
section
variable {w : World} {b : Nat} {p : Pf} {v : Way} {has : Bool} {l r : Tr} {lp rp : Value}
theorem cell_at (h : w.heap[b]? = some (.cells (cells p v has lp rp).toArray 110 (0, 0))) (j : Nat) : w.cell? ⟨b, j, none⟩ = (cells p v has lp rp)[j]? := by
  simp [World.cell?, h]
theorem cell0 (h : w.heap[b]? = some (.cells (cells p v has lp rp).toArray 110 (0, 0))) : w.cell? ⟨b, 0, none⟩ = some (.int .u32 p.1) := by rw [cell_at h]; rfl
theorem cell1 (h : w.heap[b]? = some (.cells (cells p v has lp rp).toArray 110 (0, 0))) : w.cell? ⟨b, 1, none⟩ = some (.int .i64 p.2) := by rw [cell_at h]; rfl
theorem tail_get (i : Nat) : (cells p v has lp rp)[259 + i]? = ([.bool has, lp, rp] : List Value)[i]? := by
  unfold cells
  rw [List.getElem?_append_right (by simp [wayCells_length])]
  simp [wayCells_length]
theorem cell259 (h : w.heap[b]? = some (.cells (cells p v has lp rp).toArray 110 (0, 0))) : w.cell? ⟨b, 259, none⟩ = some (.bool has) := by rw [cell_at h]; exact tail_get 0
theorem cell260 (h : w.heap[b]? = some (.cells (cells p v has lp rp).toArray 110 (0, 0))) : w.cell? ⟨b, 260, none⟩ = some lp := by rw [cell_at h]; exact tail_get 1
theorem cell261 (h : w.heap[b]? = some (.cells (cells p v has lp rp).toArray 110 (0, 0))) : w.cell? ⟨b, 261, none⟩ = some rp := by rw [cell_at h]; exact tail_get 2
theorem row2 (h : w.heap[b]? = some (.cells (cells p v has lp rp).toArray 110 (0, 0))) : rowAt w ⟨b, 2, none⟩ 257 = some (wayCells v) := by
  unfold rowAt
  simp only [h]
  have h1 : (cells p v has lp rp).length = 262 := cells_length ..
  rw [if_pos (by simp [h1])]
  congr 1
  simp only [List.toList_toArray, cells]
  rw [List.append_assoc, List.drop_append_of_le_length (by simp)]
  simp [List.take_append, wayCells_length, List.take_of_length_le]
theorem froz (h : w.heap[b]? = some (.cells (cells p v has lp rp).toArray 110 (0, 0))) (j : Nat) : w.frozen? ⟨b, j, none⟩ = false := by simp [World.frozen?, h]
theorem thaw (h : w.heap[b]? = some (.cells (cells p v has lp rp).toArray 110 (0, 0))) : thawed w b = true := by simp [thawed, h]
end
theorem In.lt {w : World} : ∀ {T : Tr}, T.In w → ∀ b ∈ T.blocks, b < w.heap.size
  | nil, _, b, hb => by simp [blocks] at hb
  | node b' p v has l r, ⟨h, hl, hr⟩, b, hb => by
    simp only [blocks, List.mem_cons, List.mem_append] at hb
    rcases hb with rfl | hb | hb
    · exact (Array.getElem?_eq_some_iff.1 h).1
    · exact hl.lt b hb
    · exact hr.lt b hb
theorem In.same {w w' : World} : ∀ {T : Tr}, T.In w → (∀ b ∈ T.blocks, w'.heap[b]? = w.heap[b]?) → T.In w'
  | nil, _, _ => trivial
  | node b p v has l r, ⟨h, hl, hr⟩, hs => ⟨(hs b (by simp [blocks])).trans h, hl.same (fun k hk => hs k (by simp [blocks, hk])), hr.same (fun k hk => hs k (by simp [blocks, hk]))⟩
theorem In.below {w w' : World} {T : Tr} (h : T.In w) (hb : Below w.heap.size w w') : T.In w' := h.same (fun b hm => hb.block b (h.lt b hm))
theorem In.drewN {w : World} {T : Tr} (h : T.In w) (n : Nat) : T.In (w.drewN n) := h.same (fun _ _ => rfl)
theorem desc_cov {s : Addr} {b : Nat} {q p : Pf} {v : Way} {h : Bool} {l r : Tr} (hne : ¬ (q = p ∨ ¬ cov q p)) : desc s (node b q v h l r) p = (child l r (bit p.1 q.2)).desc ⟨b, 260 + bit p.1 q.2, none⟩ p := by
  simp only [desc, if_neg hne, child]
  have := bit_lt p.1 q.2
  by_cases hb : bit p.1 q.2 = 0
  · simp [hb]
  · have h1 : bit p.1 q.2 = 1 := by omega
    simp [h1]
end Tr
end Go.Proofs.Ytbcekjbckeljmaa
