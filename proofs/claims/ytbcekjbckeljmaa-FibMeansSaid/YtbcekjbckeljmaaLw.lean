/- Laws on variables of many cells (arrays and structs that hold arrays): a load reads a row of cells, a store writes one; the walk sees the row and not its cells. No program in sight. -/
import Derived.WalkKit
import Derived.WalkSpells
import Derived.WalkLawsBesides
import Derived.Lib.Hide
import Derived.BigQuiet
import Derived.Deep.QuietTactic
import Derived.Deep.RegionHeld3
import Derived.Deep.RegionWith
import Derived.Deep.LoopGhost
import Derived.Deep.DeepCutAuto
import Derived.KernelRfl
import Derived.Great.FillDense
set_option linter.unusedVariables false
namespace Go.Proofs.Ytbcekjbckeljmaa
open Go.RowKit

/-- the n cells from an address on -/
def rowAt (w : World) (a : Addr) (n : Nat) : Option (List Value) :=
  match a.spot with
  | some _ => none
  | none => match w.heap[a.block]? with
    | some (.cells c _ _) => if a.off + n ≤ c.size then some ((c.toList.drop a.off).take n) else none
    | _ => none
/-- none of a block's cells is frozen -/
def thawed (w : World) (b : Nat) : Bool :=
  match w.heap[b]? with
  | some (.cells _ _ (0, 0)) => true
  | _ => false
/-- the world with a row of cells written -/
def putRow (w : World) (a : Addr) (cs : List Value) : World :=
  { w with heap := w.heap.modify a.block fun
      | .cells c elem fr => .cells (c.toList.take a.off ++ cs ++ c.toList.drop (a.off + cs.length)).toArray elem fr
      | o => o }
def loadRowOf (P : Program) (t : TypeId) (a : Addr) (w : World) : Option (List Value) → Result Value
  | some l => .ok (.agg l.toArray) w
  | none => (loadVar t a).run P w
def storeRowOf (P : Program) (t : TypeId) (a : Addr) (v : Value) (w : World) : Option (List Value) → Bool → Bool → Result Unit
  | some _, true, true => .ok () (putRow w a v.cells.toList)
  | _, _, _ => (storeVar t a v).run P w
theorem loadRowOf_some (P : Program) (t : TypeId) (a : Addr) (w : World) (l : List Value) : loadRowOf P t a w (some l) = .ok (.agg l.toArray) w := rfl
theorem storeRowOf_some (P : Program) (t : TypeId) (a : Addr) (v : Value) (w : World) (l : List Value) : storeRowOf P t a v w (some l) true true = .ok () (putRow w a v.cells.toList) := rfl

theorem rowAt_cell {w : World} {a : Addr} {n : Nat} {l : List Value} (h : rowAt w a n = some l) : l.length = n ∧ ∀ j v, l[j]? = some v → w.cell? (a.add j) = some v := by
  obtain ⟨b, o, sp⟩ := a
  unfold rowAt at h
  cases sp with
  | some s => simp at h
  | none =>
    simp only at h
    split at h
    · rename_i c t fr hb
      split at h
      · rename_i hle
        obtain rfl := Option.some.inj h
        refine ⟨by simp; omega, fun j v hv => ?_⟩
        have hadd : (⟨b, o, none⟩ : Addr).add j = ⟨b, o + j, none⟩ := by unfold Addr.add; split <;> simp_all
        rw [hadd]
        simp only [World.cell?, hb]
        rw [List.getElem?_take, List.getElem?_drop] at hv
        split at hv
        · simpa using hv
        · cases hv
      · cases h
    · cases h
theorem isAgg_run {P : Program} {t : TypeId} {d : TypeDesc} (hu : P.underlying t = some d) (hd : (match d with | .struct _ | .array _ _ => true | _ => false) = true) (w : World) : (isAgg t).run P w = .ok true w := by
  unfold isAgg
  rw [Sem.run_bind, run_underlying hu w]
  cases d <;> simp_all
theorem loadVar_row {P : Program} {t : TypeId} {n : Nat} {d : TypeDesc} (hu : P.underlying t = some d) (hd : (match d with | .struct _ | .array _ _ => true | _ => false) = true) (hi : (P.info? t).map (·.size) = some n) (a : Addr) (w : World) :
    (loadVar t a).run P w = loadRowOf P t a w (rowAt w a n) := by
  cases hr : rowAt w a n with
  | none => rfl
  | some l =>
    obtain ⟨hl, hc⟩ := rowAt_cell hr
    have h1 := run_loadCells_list (P := P) w a l hc
    cases hq : P.info? t with
    | none => simp [hq] at hi
    | some i =>
      have hs : i.size = n := by simpa [hq] using hi
      rw [hl] at h1
      simp [loadVar, loadRowOf, Sem.run_bind, isAgg_run hu hd, sizeOf, typeInfo, hq, hs, h1]
theorem storeCells_row {P : Program} (g o : Nat) (t : TypeId) : ∀ (vs : List Value) (i : Nat) (c : List Value) (w : World), w.heap[g]? = some (.cells c.toArray t (0, 0)) → o + i + vs.length ≤ c.length → (∀ v ∈ vs, v.oneCell' = true) →
    (storeCells ⟨g, o, none⟩ vs i).run P w = .ok () (putRow w ⟨g, o + i, none⟩ vs) := by
  intro vs
  induction vs with
  | nil =>
    intro i c w hg hl h1
    simp only [storeCells, Sem.run_pure]
    have e : putRow w ⟨g, o + i, none⟩ [] = w := by
      unfold putRow
      obtain ⟨heap, tape, drawn, os, output⟩ := w
      congr 1
      apply Array.ext_getElem?
      intro k
      rw [Array.getElem?_modify]
      split
      · rename_i hk
        simp only at hk hg
        subst hk; simp [hg]
      · rfl
    rw [e]
  | cons v vs ih =>
    intro i c w hg hl h1
    have hadd : (⟨g, o, none⟩ : Addr).add i = ⟨g, o + i, none⟩ := by unfold Addr.add; split <;> simp_all
    simp only [List.length_cons] at hl
    have hv := h1 v (by simp)
    have hcell : w.cell? ⟨g, o + i, none⟩ = some c[o + i] := by simp [World.cell?, hg]
    have hfr : w.frozen? ⟨g, o + i, none⟩ = false := by simp [World.frozen?, hg]
    have hg' : (w.setCell ⟨g, o + i, none⟩ v).heap[g]? = some (.cells (c.set (o + i) v).toArray t (0, 0)) := by
      simp [World.setCell, Array.getElem?_modify, hg]
    have hst : (store ((⟨g, o, none⟩ : Addr).add i) v).run P w = .ok () (w.setCell ⟨g, o + i, none⟩ v) := by
      rw [hadd]
      cases v <;> simp_all [store, Sem.run, Value.oneCell']
    rw [storeCells, Sem.run_bind, hst]
    simp only [Result.andThen_ok]
    rw [ih (i + 1) (c.set (o + i) v) _ hg' (by simp; omega) (fun u hu => h1 u (by simp [hu]))]
    congr 1
    unfold putRow World.setCell
    congr 1
    apply Array.ext_getElem?
    intro k
    simp only [Array.getElem?_modify]
    by_cases hk : g = k
    · subst hk
      simp only [hg, if_true, Option.map_some]
      congr 2
      simp only [Option.isSome_none, Bool.false_eq_true, if_false]
      have e1 : (c.set (o + i) v).take (o + (i + 1)) = c.take (o + i) ++ [v] := by
        rw [show o + (i + 1) = (o + i) + 1 from by omega, List.take_set, List.take_succ_eq_append_getElem (by omega), List.set_append_right _ _ (by simp; omega)]
        simp [show min (o + i) c.length = o + i from by omega]
      have e2 : (c.set (o + i) v).drop (o + (i + 1) + vs.length) = c.drop (o + i + (v :: vs).length) := by
        rw [List.drop_set_of_lt (by omega)]
        congr 1; simp; omega
      simp only [List.setIfInBounds_toArray, List.toList_toArray]
      rw [e1, e2]; simp
    · simp [hk]
/-- a value whose cells fill a variable of n cells, each of one cell -/
def okCells (n : Nat) (v : Value) : Bool := decide (v.cells.size = n) && v.cells.toList.all (·.oneCell')
theorem rowAt_block {w : World} {g o n : Nat} {l : List Value} (h : rowAt w ⟨g, o, none⟩ n = some l) (ht : thawed w g = true) : ∃ c t, w.heap[g]? = some (.cells c t (0, 0)) ∧ o + n ≤ c.size ∧ l = (c.toList.drop o).take n := by
  unfold rowAt at h
  unfold thawed at ht
  simp only at h
  split at h
  · rename_i c t fr hb
    split at h
    · rename_i hle
      rw [hb] at ht
      split at ht
      · rename_i c' t' e
        obtain ⟨rfl, rfl, rfl⟩ : c = c' ∧ t = t' ∧ fr = (0, 0) := by injection e with e; injection e with e1 e2 e3; exact ⟨e1, e2, e3⟩
        exact ⟨c, t, hb, hle, (Option.some.inj h).symm⟩
      · cases ht
    · cases h
  · cases h
theorem storeVar_row {P : Program} {t : TypeId} {n : Nat} (hi : (P.info? t).map (·.size) = some n) (g o : Nat) (v : Value) (w : World) :
    (storeVar t ⟨g, o, none⟩ v).run P w = storeRowOf P t ⟨g, o, none⟩ v w (rowAt w ⟨g, o, none⟩ n) (thawed w g) (okCells n v) := by
  cases hr : rowAt w ⟨g, o, none⟩ n with
  | none => rfl
  | some l =>
    cases ht : thawed w g with
    | false => rfl
    | true =>
      cases ho : okCells n v with
      | false => rfl
      | true =>
        obtain ⟨c, t', hb, hle, _⟩ := rowAt_block hr ht
        unfold okCells at ho
        simp only [Bool.and_eq_true, decide_eq_true_eq, List.all_eq_true] at ho
        cases hq : P.info? t with
        | none => simp [hq] at hi
        | some i =>
          have hs : i.size = n := by simpa [hq] using hi
          have h1 := storeCells_row (P := P) g o t' v.cells.toList 0 c.toList w (by simpa using hb) (by simp; omega) ho.2
          simp [storeVar, storeRowOf, Sem.run_bind, sizeOf, typeInfo, hq, hs, ho.1]
          simpa using h1
/-- the same load and store under names that the walk does not open -/
def bigLoad (t : TypeId) (n : Nat) (a : Addr) : Sem Value := loadVar t a
def bigStore (t : TypeId) (n : Nat) (a : Addr) (v : Value) : Sem Unit := storeVar t a v
theorem bigLoad_row {P : Program} {t : TypeId} {n : Nat} {d : TypeDesc} (hu : P.underlying t = some d) (hd : (match d with | .struct _ | .array _ _ => true | _ => false) = true) (hi : (P.info? t).map (·.size) = some n) (a : Addr) (w : World) :
    (bigLoad t n a).run P w = loadRowOf P t a w (rowAt w a n) := loadVar_row hu hd hi a w
theorem bigStore_row {P : Program} {t : TypeId} {n : Nat} (hi : (P.info? t).map (·.size) = some n) (g o : Nat) (v : Value) (w : World) :
    (bigStore t n ⟨g, o, none⟩ v).run P w = storeRowOf P t ⟨g, o, none⟩ v w (rowAt w ⟨g, o, none⟩ n) (thawed w g) (okCells n v) := storeVar_row hi g o v w
def bigAlloc (t : TypeId) (h : Bool) (v : Value) : Sem Value := Instr.alloc t h v
def bigBuild (t : TypeId) (parts : Array (Nat × Value)) : Sem Value := Instr.build t parts
/-- one part of a literal -/
theorem fill_part (pre old suf vs : List Value) (h : old.length = vs.length) :
    vs.zipIdx.foldl (fun cs (x : Value × Nat) => cs.setIfInBounds (pre.length + x.2) x.1) (pre ++ old ++ suf).toArray = (pre ++ vs ++ suf).toArray := by
  obtain ⟨h1, h2⟩ := Great.foldl_set pre.length vs 0 (pre ++ old ++ suf).toArray
  apply Array.ext_getElem?
  intro k
  rw [h2 k]
  simp only [List.size_toArray, List.length_append, List.getElem?_toArray, Nat.add_zero]
  by_cases hk : pre.length ≤ k
  · by_cases hk2 : k < pre.length + vs.length
    · rw [if_pos ⟨hk, hk2, by omega⟩, List.append_assoc, List.getElem?_append_right hk, List.getElem?_append_left (by omega)]
    · rw [if_neg (by omega), List.append_assoc, List.getElem?_append_right hk, List.getElem?_append_right (by omega), List.append_assoc, List.getElem?_append_right hk, List.getElem?_append_right (by omega), h]
  · rw [if_neg (by omega), List.append_assoc, List.getElem?_append_left (by omega), List.append_assoc, List.getElem?_append_left (by omega)]
theorem fill_one {place : Nat → Option (Nat × Nat)} {i : Nat} {v : Value} {rest : List (Nat × Value)} (pre old suf vs : List Value) (hv : v.cells = vs.toArray) (hp : place i = some (pre.length, vs.length)) (ho : old.length = vs.length) :
    Instr.fill place (pre ++ old ++ suf).toArray ((i, v) :: rest) = Instr.fill place (pre ++ vs ++ suf).toArray rest := by
  rw [Instr.fill, hp]
  simp only [hv]
  rw [if_neg (by simp [ho])]
  have h := fill_part pre old suf vs ho
  rw [← h]
  congr 1
  rw [← Array.foldl_toList, Array.toList_zipIdx]
theorem fill_end {place : Nat → Option (Nat × Nat)} (c : List Value) : Instr.fill place c.toArray [] = some c.toArray := rfl
theorem results_row_tmp {P : Program} {fn : Func} {p u : Tmp} {ty : TypeId} (h : fn.results = #[.cell p ty, .tmp u]) (tmps : Array Value) (w : World) (a : Addr) {v : Value} (hp : tmps.getD p undef = .pointer (some a)) (hl : (loadVar ty a).run P w = .ok v w) :
    (results fn tmps).run P w = .ok (.tuple #[v, tmps.getD u undef]) w := by
  rw [Array.getD_eq_getD_getElem?] at hp
  simp [results, h, asAddr, hp, hl]
theorem results_row {P : Program} {fn : Func} {p : Tmp} {ty : TypeId} (h : fn.results = #[.cell p ty]) (tmps : Array Value) (w : World) (a : Addr) {v : Value} (hp : tmps.getD p undef = .pointer (some a)) (hl : (loadVar ty a).run P w = .ok v w) :
    (results fn tmps).run P w = .ok v w := by
  rw [Array.getD_eq_getD_getElem?] at hp
  simp [results, h, asAddr, hp, hl]
theorem results_rows3 {P : Program} {fn : Func} {p q u : Tmp} {ty ty2 ty3 : TypeId} (h : fn.results = #[.cell p ty, .cell q ty2, .cell u ty3]) (tmps : Array Value) (w : World) (a b c : Addr) {v v2 v3 : Value} (hp : tmps.getD p undef = .pointer (some a)) (hq : tmps.getD q undef = .pointer (some b)) (hu : tmps.getD u undef = .pointer (some c)) (hl : (loadVar ty a).run P w = .ok v w) (hl2 : (loadVar ty2 b).run P w = .ok v2 w) (hl3 : (loadVar ty3 c).run P w = .ok v3 w) :
    (results fn tmps).run P w = .ok (.tuple #[v, v2, v3]) w := by
  rw [Array.getD_eq_getD_getElem?] at hp hq hu
  simp [results, h, asAddr, hp, hl, hq, hl2, hu, hl3]
theorem results_rows2_tmp {P : Program} {fn : Func} {p q u : Tmp} {ty ty2 : TypeId} (h : fn.results = #[.cell p ty, .cell q ty2, .tmp u]) (tmps : Array Value) (w : World) (a b : Addr) {v v2 : Value} (hp : tmps.getD p undef = .pointer (some a)) (hq : tmps.getD q undef = .pointer (some b)) (hl : (loadVar ty a).run P w = .ok v w) (hl2 : (loadVar ty2 b).run P w = .ok v2 w) :
    (results fn tmps).run P w = .ok (.tuple #[v, v2, tmps.getD u undef]) w := by
  rw [Array.getD_eq_getD_getElem?] at hp hq
  simp [results, h, asAddr, hp, hl, hq, hl2]
section
variable {w : World}
theorem rowAt_alloc_past (o : Obj) (g i n : Nat) (hn : g < w.heap.size) : rowAt (w.alloc o) ⟨g, i, none⟩ n = rowAt w ⟨g, i, none⟩ n := by
  unfold rowAt; simp only; rw [Below.heap_alloc w o g hn]
theorem rowAt_alloc_at (c : Array Value) (t : TypeId) (g n : Nat) (hg : g = w.heap.size) (hn : n = c.size) : rowAt (w.alloc (.cells c t)) ⟨g, 0, none⟩ n = some c.toList := by
  subst hg hn
  unfold rowAt; simp only; rw [heap_alloc_new]; simp [List.take_of_length_le]
theorem rowAt_alloc_in (c : Array Value) (t : TypeId) (g o n : Nat) (hg : g = w.heap.size) (hn : o + n ≤ c.size) : rowAt (w.alloc (.cells c t)) ⟨g, o, none⟩ n = some ((c.toList.drop o).take n) := by
  subst hg
  unfold rowAt; simp only; rw [heap_alloc_new]; simp; omega
theorem size_drewN (k : Nat) : (w.drewN k).heap.size = w.heap.size := rfl
theorem alloc_drewN (k : Nat) (o : Obj) : (w.drewN k).alloc o = (w.alloc o).drewN k := rfl
theorem setCell_drewN (k : Nat) (a : Addr) (v : Value) : (w.drewN k).setCell a v = (w.setCell a v).drewN k := rfl
theorem rowAt_drew (a : Addr) (n : Nat) : rowAt w.drew a n = rowAt w a n := rfl
theorem rowAt_drewN (a : Addr) (n k : Nat) : rowAt (w.drewN k) a n = rowAt w a n := rfl
theorem rowAt_below {B : Nat} {w' : World} (h : Below B w w') {a : Addr} (n : Nat) (ha : a.block < B) : rowAt w' a n = rowAt w a n := by
  unfold rowAt; rw [h.block _ ha]
theorem rowAt_setCell_far (a : Addr) (g i n : Nat) (v : Value) (h : g ≠ a.block) : rowAt (w.setCell a v) ⟨g, i, none⟩ n = rowAt w ⟨g, i, none⟩ n := by
  unfold rowAt; simp only; rw [Below.heap_setCell w a v g h]
theorem heap_putRow_far (a : Addr) (cs : List Value) (k : Nat) (h : k ≠ a.block) : (putRow w a cs).heap[k]? = w.heap[k]? := by
  simp only [putRow, Array.getElem?_modify]
  rw [if_neg (by omega)]
theorem rowAt_putRow_far (a : Addr) (g i n : Nat) (cs : List Value) (h : g ≠ a.block) : rowAt (putRow w a cs) ⟨g, i, none⟩ n = rowAt w ⟨g, i, none⟩ n := by
  unfold rowAt; simp only; rw [heap_putRow_far a cs g h]
theorem rowAt_putRow_same (g o n : Nat) (l cs : List Value) (h : rowAt w ⟨g, o, none⟩ n = some l) (hl : cs.length = n) : rowAt (putRow w ⟨g, o, none⟩ cs) ⟨g, o, none⟩ n = some cs := by
  unfold rowAt at h ⊢
  simp only at h ⊢
  split at h
  · rename_i c t fr hb
    split at h
    · rename_i hle
      have : (putRow w ⟨g, o, none⟩ cs).heap[g]? = some (.cells (c.toList.take o ++ cs ++ c.toList.drop (o + cs.length)).toArray t fr) := by simp [putRow, Array.getElem?_modify, hb]
      rw [this]
      simp only
      have h1 : (c.toList.take o).length = o := by simp; omega
      rw [if_pos (by simp; omega), List.append_assoc, List.drop_append_of_le_length (by omega), List.drop_eq_nil_of_le (by omega), List.nil_append, List.take_append_of_le_length (by omega), List.take_of_length_le (by omega)]
    · cases h
  · cases h
theorem cell?_putRow_far (a p : Addr) (cs : List Value) (h : p.block ≠ a.block) : (putRow w a cs).cell? p = w.cell? p := World.cell?_of_block (w := w) (heap_putRow_far a cs _ h)
theorem frozen?_putRow_far (a p : Addr) (cs : List Value) (h : p.block ≠ a.block) : (putRow w a cs).frozen? p = w.frozen? p := World.frozen?_of_block (w := w) (heap_putRow_far a cs _ h)
theorem size_putRow (a : Addr) (cs : List Value) : (putRow w a cs).heap.size = w.heap.size := by simp [putRow]
theorem putRow_drew (a : Addr) (cs : List Value) : putRow w.drew a cs = (putRow w a cs).drew := rfl
theorem putRow_drewN (a : Addr) (cs : List Value) (k : Nat) : putRow (w.drewN k) a cs = (putRow w a cs).drewN k := rfl
theorem putRow_alloc_past (o : Obj) (g i : Nat) (cs : List Value) (hn : g < w.heap.size) : putRow (w.alloc o) ⟨g, i, none⟩ cs = (putRow w ⟨g, i, none⟩ cs).alloc o := by
  unfold putRow World.alloc
  congr 1
  apply Array.ext_getElem?
  intro k
  simp only [Array.getElem?_modify, Array.getElem?_push, Array.size_modify]
  by_cases hk : k = w.heap.size
  · subst hk
    simp [Nat.ne_of_lt hn]
  · simp [hk]
theorem putRow_alloc_at (c : Array Value) (t : TypeId) (g : Nat) (cs : List Value) (hg : g = w.heap.size) (hn : cs.length = c.size) : putRow (w.alloc (.cells c t)) ⟨g, 0, none⟩ cs = w.alloc (.cells cs.toArray t) := by
  subst hg
  unfold putRow World.alloc
  congr 1
  apply Array.ext_getElem?
  intro k
  simp only [Array.getElem?_modify, Array.getElem?_push]
  by_cases hk : k = w.heap.size
  · subst hk; simp [hn]
  · simp [hk, Ne.symm hk]
theorem thawed_alloc_past (o : Obj) (g : Nat) (hn : g < w.heap.size) : thawed (w.alloc o) g = thawed w g := by
  unfold thawed; rw [Below.heap_alloc w o g hn]
theorem thawed_alloc_at (c : Array Value) (t : TypeId) (g : Nat) (hg : g = w.heap.size) : thawed (w.alloc (.cells c t)) g = true := by
  subst hg
  unfold thawed; rw [heap_alloc_new]; rfl
theorem thawed_drew (g : Nat) : thawed w.drew g = thawed w g := rfl
theorem thawed_drewN (g k : Nat) : thawed (w.drewN k) g = thawed w g := rfl
theorem thawed_below {B : Nat} {w' : World} (h : Below B w w') {g : Nat} (hg : g < B) : thawed w' g = thawed w g := by
  unfold thawed; rw [h.block _ hg]
theorem below_putRow {B : Nat} {a w : World} (h : Below B a w) {p : Addr} (hp : B ≤ p.block) (cs : List Value) : Below B a (putRow w p cs) :=
  h.trans ⟨rfl, rfl, rfl, by rw [size_putRow]; exact Nat.le_refl _, fun k hk => heap_putRow_far _ _ _ (by omega)⟩
end
end Go.Proofs.Ytbcekjbckeljmaa
