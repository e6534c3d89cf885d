/- The trie in memory, on: a part of it is replaced. -/
import Derived.Test.YtbcekjbckeljmaaTp
set_option linter.unusedVariables false
set_option linter.unusedSimpArgs false
namespace Go.Proofs.Ytbcekjbckeljmaa
open Go.RowKit Px

namespace Tr
/-- with another part where a prefix is, or would be -/
def repl : Tr → Pf → Tr → Tr
  | nil, _, X => X
  | node b q v h l r, p, X => if q = p ∨ ¬ cov q p then X else if bit p.1 q.2 = 0 then node b q v h (l.repl p X) r else node b q v h l (r.repl p X)
theorem desc_cell {w : World} {p : Pf} : ∀ {T : Tr} {s : Addr}, T.In w → T.Okp → w.cell? s = some T.ptr → w.cell? (desc s T p).1 = some (desc s T p).2.ptr ∧ (desc s T p).2.In w ∧ (desc s T p).2.Okp
  | nil, s, hI, hO, hc => ⟨hc, hI, hO⟩
  | node b q v h l r, s, hI, hO, hc => by
    simp only [desc]
    split
    · exact ⟨hc, hI, hO⟩
    · split
      · exact desc_cell hI.2.1 hO.2.1 (cell260 hI.1)
      · exact desc_cell hI.2.2 hO.2.2 (cell261 hI.1)
/-- it is at the top, or in one of the blocks -/
theorem desc_block {p : Pf} (X : Tr) : ∀ {T : Tr} {s : Addr}, ((desc s T p).1 = s ∧ T.repl p X = X ∧ (desc s T p).2 = T) ∨ ((desc s T p).1.block ∈ T.blocks ∧ (T.repl p X).ptr = T.ptr)
  | nil, s => .inl ⟨rfl, rfl, rfl⟩
  | node b q v h l r, s => by
    simp only [desc, repl]
    split
    · exact .inl ⟨rfl, rfl, rfl⟩
    · right
      split
      · rcases desc_block (p := p) X (T := l) (s := ⟨b, 260, none⟩) with h1 | h1
        · simp [blocks, h1, ptr]
        · simp [blocks, h1, ptr]
      · rcases desc_block (p := p) X (T := r) (s := ⟨b, 261, none⟩) with h1 | h1
        · simp [blocks, h1, ptr]
        · simp [blocks, h1, ptr]
theorem desc_sub {p : Pf} : ∀ {T : Tr} {s : Addr}, ∀ b ∈ (desc s T p).2.blocks, b ∈ T.blocks
  | nil, s, b, hb => hb
  | node b' q v h l r, s, b, hb => by
    simp only [desc] at hb
    split at hb
    · exact hb
    · split at hb
      · have := desc_sub b hb; simp [blocks, this]
      · have := desc_sub b hb; simp [blocks, this]
theorem cells_set260 (p : Pf) (v : Way) (has : Bool) (lp rp x : Value) : (cells p v has lp rp).set 260 x = cells p v has x rp := by
  unfold cells
  rw [List.set_append_right _ _ (by simp [wayCells_length])]
  simp [wayCells_length]
theorem cells_set261 (p : Pf) (v : Way) (has : Bool) (lp rp x : Value) : (cells p v has lp rp).set 261 x = cells p v has lp x := by
  unfold cells
  rw [List.set_append_right _ _ (by simp [wayCells_length])]
  simp [wayCells_length]
theorem cells_set259 (p : Pf) (v : Way) (has : Bool) (lp rp : Value) (x : Bool) : (cells p v has lp rp).set 259 (.bool x) = cells p v x lp rp := by
  unfold cells
  rw [List.set_append_right _ _ (by simp [wayCells_length])]
  simp [wayCells_length]
theorem repl_in {w w' : World} {p : Pf} {X : Tr} (hX : X.In w') : ∀ {T : Tr} {s : Addr}, T.In w → T.blocks.Nodup → s.block ∉ T.blocks →
    (∀ b ∈ T.blocks, b ∉ (desc s T p).2.blocks → w'.heap[b]? = (w.setCell (desc s T p).1 X.ptr).heap[b]?) → (T.repl p X).In w'
  | nil, s, _, _, _, _ => hX
  | node b q v h l r, s, hI, hN, hs, hb => by
    simp only [repl]
    split
    · exact hX
    · rename_i hne
      simp only [desc, if_neg hne] at hb
      have hN' : (b :: (l.blocks ++ r.blocks)).Nodup := hN
      rw [List.nodup_cons, List.mem_append] at hN'
      obtain ⟨hbn, hN2⟩ := hN'
      rw [List.nodup_append] at hN2
      obtain ⟨nl, nr, nd⟩ := hN2
      split
      · rename_i hbit
        simp only [if_pos hbit] at hb
        have hS : ∀ k, k ∈ (desc ⟨b, 260, none⟩ l p).2.blocks → k ∈ l.blocks := fun k hk => desc_sub k hk
        have hb0 := hb b (by simp [blocks]) (fun h1 => hbn (.inl (hS _ h1)))
        have hA := desc_block (p := p) X (T := l) (s := ⟨b, 260, none⟩)
        refine ⟨?_, ?_, ?_⟩
        · rw [hb0]
          rcases hA with ⟨e1, e2, _⟩ | ⟨e1, e2⟩
          · rw [e1, e2, heap_setCell_same _ _ _ _ _ _ hI.1]
            simp only [List.setIfInBounds_toArray, cells_set260]
          · rw [heap_setCell_other _ _ _ _ (fun h1 => hbn (.inl (by rw [h1]; exact e1))), e2]; exact hI.1
        · exact repl_in hX hI.2.1 nl (fun h1 => hbn (.inl h1)) (fun k hk hk2 => hb k (by simp [blocks, hk]) hk2)
        · refine hI.2.2.same fun k hk => ?_
          have hkl : k ∉ l.blocks := fun h1 => nd k h1 k hk rfl
          rw [hb k (by simp [blocks, hk]) (fun h1 => hkl (hS k h1))]
          refine heap_setCell_other _ _ _ _ ?_
          rcases hA with ⟨e1, _, _⟩ | ⟨e1, _⟩
          · rw [e1]; rintro rfl; exact hbn (.inr hk)
          · rintro rfl; exact hkl e1
      · rename_i hbit
        simp only [if_neg hbit] at hb
        have hS : ∀ k, k ∈ (desc ⟨b, 261, none⟩ r p).2.blocks → k ∈ r.blocks := fun k hk => desc_sub k hk
        have hb0 := hb b (by simp [blocks]) (fun h1 => hbn (.inr (hS _ h1)))
        have hA := desc_block (p := p) X (T := r) (s := ⟨b, 261, none⟩)
        refine ⟨?_, ?_, ?_⟩
        · rw [hb0]
          rcases hA with ⟨e1, e2, _⟩ | ⟨e1, e2⟩
          · rw [e1, e2, heap_setCell_same _ _ _ _ _ _ hI.1]
            simp only [List.setIfInBounds_toArray, cells_set261]
          · rw [heap_setCell_other _ _ _ _ (fun h1 => hbn (.inr (by rw [h1]; exact e1))), e2]; exact hI.1
        · refine hI.2.1.same fun k hk => ?_
          have hkl : k ∉ r.blocks := fun h1 => nd k hk k h1 rfl
          rw [hb k (by simp [blocks, hk]) (fun h1 => hkl (hS k h1))]
          refine heap_setCell_other _ _ _ _ ?_
          rcases hA with ⟨e1, _, _⟩ | ⟨e1, _⟩
          · rw [e1]; rintro rfl; exact hbn (.inl hk)
          · rintro rfl; exact hkl e1
        · exact repl_in hX hI.2.2 nr (fun h1 => hbn (.inr h1)) (fun k hk hk2 => hb k (by simp [blocks, hk]) hk2)
end Tr
/-- the trie's own variable -/
def Hdr (w : World) (tb : Nat) (T : Tr) (lim n : Nat) : Prop := w.heap[tb]? = some (.cells #[T.ptr, .int .i64 lim, .int .i64 n, .bool true] 105 (0, 0))
/-- a trie in memory: the variable, the nodes, each in a block of its own, from base on -/
structure Trie (w : World) (base tb : Nat) (T : Tr) (lim n : Nat) : Prop where
  hdr : Hdr w tb T lim n
  isin : T.In w
  okp : T.Okp
  nodup : T.blocks.Nodup
  apart : tb ∉ T.blocks
  from_ : ∀ b ∈ tb :: T.blocks, base ≤ b
theorem Trie.below {w w' : World} {base tb : Nat} {T : Tr} {lim n : Nat} (h : Trie w base tb T lim n) (hb : Below w.heap.size w w') : Trie w' base tb T lim n :=
  ⟨(hb.block tb (Array.getElem?_eq_some_iff.1 h.hdr).1).trans h.hdr, h.isin.below hb, h.okp, h.nodup, h.apart, h.from_⟩
namespace Tr
theorem repl_okp {p : Pf} {X : Tr} (hX : X.Okp) : ∀ {T : Tr}, T.Okp → (T.repl p X).Okp
  | nil, _ => hX
  | node b q v h l r, hT => by
    simp only [repl]
    split
    · exact hX
    · split
      · exact ⟨hT.1, repl_okp hX hT.2.1, hT.2.2⟩
      · exact ⟨hT.1, hT.2.1, repl_okp hX hT.2.2⟩
theorem repl_blocks {p : Pf} {X : Tr} : ∀ {T : Tr} {s : Addr}, T.blocks.Nodup → ∀ k ∈ (T.repl p X).blocks, k ∈ X.blocks ∨ (k ∈ T.blocks ∧ k ∉ (desc s T p).2.blocks)
  | nil, s, _, k, hk => .inl hk
  | node b q v h l r, s, hN, k, hk => by
    have hN' : (b :: (l.blocks ++ r.blocks)).Nodup := hN
    rw [List.nodup_cons, List.mem_append] at hN'
    obtain ⟨hbn, hN2⟩ := hN'
    rw [List.nodup_append] at hN2
    obtain ⟨nl, nr, nd⟩ := hN2
    simp only [repl] at hk
    simp only [desc]
    split at hk
    · exact .inl hk
    · rename_i hne
      rw [if_neg hne]
      split at hk
      · rename_i hbit
        rw [if_pos hbit]
        simp only [blocks, List.mem_cons, List.mem_append] at hk ⊢
        rcases hk with rfl | hk | hk
        · exact .inr ⟨.inl rfl, fun h1 => hbn (.inl (desc_sub _ h1))⟩
        · rcases repl_blocks (s := ⟨b, 260, none⟩) nl k hk with h1 | h1
          · exact .inl h1
          · exact .inr ⟨.inr (.inl h1.1), h1.2⟩
        · exact .inr ⟨.inr (.inr hk), fun h1 => nd k (desc_sub _ h1) k hk rfl⟩
      · rename_i hbit
        rw [if_neg hbit]
        simp only [blocks, List.mem_cons, List.mem_append] at hk ⊢
        rcases hk with rfl | hk | hk
        · exact .inr ⟨.inl rfl, fun h1 => hbn (.inr (desc_sub _ h1))⟩
        · exact .inr ⟨.inr (.inl hk), fun h1 => nd k hk k (desc_sub _ h1) rfl⟩
        · rcases repl_blocks (s := ⟨b, 261, none⟩) nr k hk with h1 | h1
          · exact .inl h1
          · exact .inr ⟨.inr (.inr h1.1), h1.2⟩
theorem repl_nodup {p : Pf} {X : Tr} (nX : X.blocks.Nodup) : ∀ {T : Tr} {s : Addr}, T.blocks.Nodup → (∀ k ∈ X.blocks, k ∈ T.blocks → k ∈ (desc s T p).2.blocks) → (T.repl p X).blocks.Nodup
  | nil, s, _, _ => nX
  | node b q v h l r, s, hN, hX => by
    have hN' : (b :: (l.blocks ++ r.blocks)).Nodup := hN
    rw [List.nodup_cons, List.mem_append] at hN'
    obtain ⟨hbn, hN2⟩ := hN'
    rw [List.nodup_append] at hN2
    obtain ⟨nl, nr, nd⟩ := hN2
    simp only [repl]
    split
    · exact nX
    · rename_i hne
      simp only [desc, if_neg hne] at hX
      split
      · rename_i hbit
        simp only [if_pos hbit] at hX
        have h1 := repl_nodup (p := p) nX (s := ⟨b, 260, none⟩) nl (fun k hk hk2 => hX k hk (by simp [blocks, hk2]))
        have hm := repl_blocks (p := p) (X := X) (s := ⟨b, 260, none⟩) nl
        simp only [blocks]
        rw [List.nodup_cons, List.nodup_append, List.mem_append]
        refine ⟨?_, h1, nr, ?_⟩
        · rintro (hk | hk)
          · rcases hm b hk with hk | hk
            · exact hbn (.inl (desc_sub _ (hX b hk (by simp [blocks]))))
            · exact hbn (.inl hk.1)
          · exact hbn (.inr hk)
        · rintro a ha c hc rfl
          rcases hm a ha with hk | hk
          · exact nd a (desc_sub _ (hX a hk (by simp [blocks, hc]))) a hc rfl
          · exact nd a hk.1 a hc rfl
      · rename_i hbit
        simp only [if_neg hbit] at hX
        have h1 := repl_nodup (p := p) nX (s := ⟨b, 261, none⟩) nr (fun k hk hk2 => hX k hk (by simp [blocks, hk2]))
        have hm := repl_blocks (p := p) (X := X) (s := ⟨b, 261, none⟩) nr
        simp only [blocks]
        rw [List.nodup_cons, List.nodup_append, List.mem_append]
        refine ⟨?_, nl, h1, ?_⟩
        · rintro (hk | hk)
          · exact hbn (.inl hk)
          · rcases hm b hk with hk | hk
            · exact hbn (.inr (desc_sub _ (hX b hk (by simp [blocks]))))
            · exact hbn (.inr hk.1)
        · rintro a ha c hc rfl
          rcases hm a hc with hk | hk
          · exact nd a ha a (desc_sub _ (hX a hk (by simp [blocks, ha]))) rfl
          · exact nd a ha a hk.1 rfl
end Tr
/-- another part is hung in where a prefix is, or would be -/
theorem Trie.put' {w w' : World} {base tb lim n : Nat} {T : Tr} (hT : Trie w base tb T lim n) {p : Pf} {A : Addr} {S X : Tr} (hd : T.desc ⟨tb, 0, none⟩ p = (A, S))
    (hs : ∀ k, k = tb ∨ k ∈ T.blocks → k ∉ S.blocks → w'.heap[k]? = (w.setCell A X.ptr).heap[k]?)
    (hX : X.In w') (oX : X.Okp) (nX : X.blocks.Nodup) (bX : ∀ k ∈ X.blocks, base ≤ k ∧ k ≠ tb ∧ (k ∈ T.blocks → k ∈ S.blocks)) : Trie w' base tb (T.repl p X) lim n := by
  have hA := Tr.desc_block (p := p) X (T := T) (s := ⟨tb, 0, none⟩)
  have hsub : ∀ k ∈ S.blocks, k ∈ T.blocks := fun k hk => by have := Tr.desc_sub (p := p) (T := T) (s := ⟨tb, 0, none⟩) k; rw [hd] at this; exact this hk
  rw [hd] at hA
  refine ⟨?_, ?_, Tr.repl_okp oX hT.okp, Tr.repl_nodup nX (s := ⟨tb, 0, none⟩) hT.nodup (fun k hk hk2 => by rw [hd]; exact (bX k hk).2.2 hk2), ?_, ?_⟩
  · have h := hT.hdr
    unfold Hdr at h ⊢
    rw [hs tb (.inl rfl) (fun h => hT.apart (hsub _ h))]
    rcases hA with ⟨e1, e2, _⟩ | ⟨e1, e2⟩
    · simp only at e1; subst e1
      rw [heap_setCell_same _ _ _ _ _ _ h, e2]; rfl
    · rw [heap_setCell_other _ _ _ _ (fun e => hT.apart (by rw [e]; exact e1)), e2]; exact h
  · refine Tr.repl_in hX (w := w) (s := ⟨tb, 0, none⟩) hT.isin hT.nodup hT.apart (fun b hb hb2 => ?_)
    rw [hd] at hb2 ⊢
    exact hs b (.inr hb) hb2
  · intro h
    rcases Tr.repl_blocks (p := p) (X := X) (s := ⟨tb, 0, none⟩) hT.nodup tb h with hk | hk
    · exact (bX tb hk).2.1 rfl
    · exact hT.apart hk.1
  · intro b hb
    rcases List.mem_cons.1 hb with rfl | hb
    · exact hT.from_ _ (by simp)
    · rcases Tr.repl_blocks (p := p) (X := X) (s := ⟨tb, 0, none⟩) hT.nodup b hb with hk | hk
      · exact (bX b hk).1
      · exact hT.from_ _ (by simp [hk.1])
theorem Trie.put {w : World} {base tb lim n : Nat} {T : Tr} (hT : Trie w base tb T lim n) {p : Pf} {A : Addr} {S X : Tr} (hd : T.desc ⟨tb, 0, none⟩ p = (A, S))
    (hX : X.In (w.setCell A X.ptr)) (oX : X.Okp) (nX : X.blocks.Nodup) (bX : ∀ k ∈ X.blocks, base ≤ k ∧ k ≠ tb ∧ (k ∈ T.blocks → k ∈ S.blocks)) : Trie (w.setCell A X.ptr) base tb (T.repl p X) lim n :=
  hT.put' hd (fun _ _ _ => rfl) hX oX nX bX
theorem heap_setCell_self (w : World) (a : Addr) (v : Value) (h : w.cell? a = some v) (k : Nat) : (w.setCell a v).heap[k]? = w.heap[k]? := by
  obtain ⟨b, o, sp⟩ := a
  unfold World.cell? at h
  simp only [World.setCell, Array.getElem?_modify]
  split
  · rename_i hk
    subst hk
    split at h
    · rename_i c t fr hb
      simp only [hb, Option.map_some]
      congr 2
      split
      · rfl
      · rename_i hs
        rw [if_neg hs] at h
        obtain ⟨hlt, e⟩ := Array.getElem?_eq_some_iff.1 h
        rw [← e]
        apply Array.ext_getElem?
        intro i
        rw [Array.getElem?_setIfInBounds]
        split
        · rename_i hi; subst hi; simp [hlt]
        · rfl
    · cases h
  · rfl
theorem heap_putRow_same (w : World) (b o : Nat) (cs : List Value) (c : Array Value) (t : TypeId) (fr : Nat × Nat) (h : w.heap[b]? = some (.cells c t fr)) : (putRow w ⟨b, o, none⟩ cs).heap[b]? = some (.cells (c.toList.take o ++ cs ++ c.toList.drop (o + cs.length)).toArray t fr) := by
  simp [putRow, Array.getElem?_modify, h]
theorem Tr.cells_row (p : Pf) (v u : Way) (has : Bool) (lp rp : Value) : (Tr.cells p v has lp rp).take 2 ++ wayCells u ++ (Tr.cells p v has lp rp).drop (2 + (wayCells u).length) = Tr.cells p u has lp rp := by
  unfold Tr.cells
  rw [wayCells_length]
  have h1 : ([Value.int .u32 p.1, Value.int .i64 p.2] ++ wayCells v ++ [Value.bool has, lp, rp]).take 2 = [Value.int .u32 p.1, Value.int .i64 p.2] := by simp
  have h2 : ([Value.int .u32 p.1, Value.int .i64 p.2] ++ wayCells v ++ [Value.bool has, lp, rp]).drop (2 + 257) = [Value.bool has, lp, rp] := by
    rw [List.drop_append_of_le_length (by simp [wayCells_length]), List.drop_eq_nil_of_le (by simp [wayCells_length])]; rfl
  rw [h1, h2]
/-- a node where a prefix is, or would be -/
theorem Trie.node {w : World} {base tb lim n : Nat} {T : Tr} (hT : Trie w base tb T lim n) {p : Pf} {A : Addr} {b : Nat} {q : Pf} {u : Way} {h : Bool} {l r : Tr} (hd : T.desc ⟨tb, 0, none⟩ p = (A, .node b q u h l r)) :
    w.cell? ⟨b, 0, none⟩ = some (.int .u32 q.1) ∧ w.cell? ⟨b, 1, none⟩ = some (.int .i64 q.2) ∧ w.cell? ⟨b, 259, none⟩ = some (.bool h) ∧ rowAt w ⟨b, 2, none⟩ 257 = some (wayCells u) ∧ (∀ j, w.frozen? ⟨b, j, none⟩ = false) ∧ thawed w b = true ∧ b < w.heap.size ∧ base ≤ b := by
  have c0 : w.cell? ⟨tb, 0, none⟩ = some T.ptr := by have hH := hT.hdr; unfold Hdr at hH; simp [World.cell?, hH]
  obtain ⟨_, s1, _⟩ := Tr.desc_cell (p := p) hT.isin hT.okp c0
  have hsub := Tr.desc_sub (p := p) (T := T) (s := ⟨tb, 0, none⟩) b
  rw [hd] at s1 hsub
  have hb := s1.1
  exact ⟨Tr.cell0 hb, Tr.cell1 hb, Tr.cell259 hb, Tr.row2 hb, Tr.froz hb, Tr.thaw hb, (Array.getElem?_eq_some_iff.1 hb).1, hT.from_ b (by simp [hsub (by simp [Tr.blocks])])⟩
theorem Tr.desc_nodup {p : Pf} : ∀ {T : Tr} {s : Addr}, T.blocks.Nodup → (Tr.desc s T p).2.blocks.Nodup
  | .nil, s, h => h
  | .node b q v h l r, s, hN => by
    have hN' : (b :: (l.blocks ++ r.blocks)).Nodup := hN
    rw [List.nodup_cons, List.nodup_append] at hN'
    simp only [Tr.desc]
    split
    · exact hN
    · split
      · exact desc_nodup hN'.2.1
      · exact desc_nodup hN'.2.2.1
theorem Trie.sub_nodup {w : World} {base tb lim n : Nat} {T : Tr} (hT : Trie w base tb T lim n) {p : Pf} {A : Addr} {S : Tr} (hd : T.desc ⟨tb, 0, none⟩ p = (A, S)) : S.blocks.Nodup := by
  have := Tr.desc_nodup (p := p) (s := ⟨tb, 0, none⟩) hT.nodup
  rwa [hd] at this
theorem Trie.sub {w : World} {base tb lim n : Nat} {T : Tr} (hT : Trie w base tb T lim n) {p : Pf} {A : Addr} {S : Tr} (hd : T.desc ⟨tb, 0, none⟩ p = (A, S)) :
    S.In w ∧ S.Okp ∧ (∀ k ∈ S.blocks, k ∈ T.blocks ∧ base ≤ k ∧ k ≠ tb ∧ k < w.heap.size) ∧ base ≤ A.block := by
  have c0 : w.cell? ⟨tb, 0, none⟩ = some T.ptr := by have hH := hT.hdr; unfold Hdr at hH; simp [World.cell?, hH]
  obtain ⟨_, s1, s2⟩ := Tr.desc_cell (p := p) hT.isin hT.okp c0
  have hsub := Tr.desc_sub (p := p) (T := T) (s := ⟨tb, 0, none⟩)
  have hA := Tr.desc_block (p := p) .nil (T := T) (s := ⟨tb, 0, none⟩)
  rw [hd] at s1 s2 hsub hA
  refine ⟨s1, s2, fun k hk => ?_, ?_⟩
  · have := hsub k hk
    exact ⟨this, hT.from_ k (by simp [this]), fun e => hT.apart (by rw [← e]; exact this), hT.isin.lt k this⟩
  · rcases hA with ⟨e, _⟩ | ⟨e, _⟩
    · simp only at e; subst e; exact hT.from_ _ (by simp)
    · exact hT.from_ _ (by simp [e])
theorem Tr.desc_apart {p : Pf} : ∀ {T : Tr} {s : Addr}, T.blocks.Nodup → s.block ∉ T.blocks → (Tr.desc s T p).1.block ∉ (Tr.desc s T p).2.blocks
  | .nil, s, _, h => h
  | .node b q v h l r, s, hN, hs => by
    have hN' : (b :: (l.blocks ++ r.blocks)).Nodup := hN
    rw [List.nodup_cons, List.nodup_append, List.mem_append] at hN'
    simp only [Tr.desc]
    split
    · exact hs
    · split
      · exact desc_apart hN'.2.1 (fun h1 => hN'.1 (.inl h1))
      · exact desc_apart hN'.2.2.1 (fun h1 => hN'.1 (.inr h1))
theorem Trie.slot_apart {w : World} {base tb lim n : Nat} {T : Tr} (hT : Trie w base tb T lim n) {p : Pf} {A : Addr} {S : Tr} (hd : T.desc ⟨tb, 0, none⟩ p = (A, S)) : A.block ∉ S.blocks := by
  have := Tr.desc_apart (p := p) (s := ⟨tb, 0, none⟩) hT.nodup hT.apart
  rwa [hd] at this
theorem Trie.keep {w w' : World} {base tb : Nat} {T : Tr} {lim n : Nat} (h : Trie w base tb T lim n) (hb : ∀ k, k = tb ∨ k ∈ T.blocks → w'.heap[k]? = w.heap[k]?) : Trie w' base tb T lim n :=
  ⟨(hb tb (.inl rfl)).trans h.hdr, h.isin.same (fun k hk => hb k (.inr hk)), h.okp, h.nodup, h.apart, h.from_⟩
end Go.Proofs.Ytbcekjbckeljmaa
