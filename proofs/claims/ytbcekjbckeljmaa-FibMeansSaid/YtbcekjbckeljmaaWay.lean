/- The ways of a table: a kind and the ports of 256 buckets, as the walk sees them: one value of 257 cells. -/
import Derived.Test.YtbcekjbckeljmaaProg
import Derived.Test.YtbcekjbckeljmaaLw
import Derived.KernelRfl
set_option linter.unusedVariables false
namespace Go.Proofs.Ytbcekjbckeljmaa
open Go.RowKit

/-- an entry of a table -/
structure Way where
  k : Int
  b : List Int
  hb : b.length = 256
theorem Way.ext' {x y : Way} (h1 : x.k = y.k) (h2 : x.b = y.b) : x = y := by
  obtain ⟨k, b, hb⟩ := x; obtain ⟨k', b', hb'⟩ := y
  simp only at h1 h2; subst h1; subst h2; rfl
instance : DecidableEq Way := fun x y => if h : x.k = y.k ∧ x.b = y.b then .isTrue (Way.ext' h.1 h.2) else .isFalse (fun e => h (by subst e; exact ⟨rfl, rfl⟩))
def zWay : Way := ⟨0, List.replicate 256 0, List.length_replicate⟩
/-- the cells of 256 buckets -/
def arrCells (b : List Int) : List Value := b.map (Value.int .i64)
def wayCells (v : Way) : List Value := .int .i64 v.k :: arrCells v.b
def wayA (v : Way) : Array Value := (wayCells v).toArray
theorem arrCells_length (b : List Int) : (arrCells b).length = b.length := by simp [arrCells]
theorem wayCells_length (v : Way) : (wayCells v).length = 257 := by simp [wayCells, arrCells_length, v.hb]
theorem wayA_size (v : Way) : (wayA v).size = 257 := by simp [wayA, wayCells_length]
theorem wayA_toList (v : Way) : (wayA v).toList = wayCells v := rfl
theorem arrCells_one (b : List Int) : ∀ u ∈ arrCells b, u.oneCell' = true := by
  intro u hu; simp only [arrCells, List.mem_map] at hu; obtain ⟨x, _, rfl⟩ := hu; rfl
theorem wayCells_one (v : Way) : ∀ u ∈ wayCells v, u.oneCell' = true := by
  intro u hu
  rcases List.mem_cons.1 hu with rfl | hu
  · rfl
  · exact arrCells_one _ u hu
theorem okCells_way (v : Way) : okCells 257 (.agg (wayA v)) = true := by
  unfold okCells
  simp only [Value.cells, wayA_size, decide_true, Bool.true_and, List.all_eq_true]
  exact wayCells_one v
theorem cells_way (v : Way) : (Value.agg (wayA v)).cells = wayA v := rfl
theorem zway_lit : wayA zWay = #[.int .i64 0] ++ (Array.replicate 256 (.int .i64 0)) := by kernel_rfl

/-! ### loads and stores -/
theorem isz54 : (Try.prog.info? 33).map (·.size) = some 257 := by kernel_rfl
theorem isz52 : (Try.prog.info? 31).map (·.size) = some 256 := by kernel_rfl
theorem load54 (a : Addr) : loadVar 33 a = bigLoad 33 257 a := rfl
theorem load52 (a : Addr) : loadVar 31 a = bigLoad 31 256 a := rfl
theorem store54 (a : Addr) (v : Value) : storeVar 33 a v = bigStore 33 257 a v := rfl
theorem store52 (a : Addr) (v : Value) : storeVar 31 a v = bigStore 31 256 a v := rfl
theorem rload54 (a : Addr) (w : World) : (bigLoad 33 257 a).run Try.prog w = loadRowOf Try.prog 33 a w (rowAt w a 257) := bigLoad_row Try.underlying33 rfl isz54 a w
theorem rload52 (a : Addr) (w : World) : (bigLoad 31 256 a).run Try.prog w = loadRowOf Try.prog 31 a w (rowAt w a 256) := bigLoad_row Try.underlying31 rfl isz52 a w
theorem rstore54 (g o : Nat) (v : Value) (w : World) : (bigStore 33 257 ⟨g, o, none⟩ v).run Try.prog w = storeRowOf Try.prog 33 ⟨g, o, none⟩ v w (rowAt w ⟨g, o, none⟩ 257) (thawed w g) (okCells 257 v) := bigStore_row isz54 g o v w
theorem rstore52 (g o : Nat) (v : Value) (w : World) : (bigStore 31 256 ⟨g, o, none⟩ v).run Try.prog w = storeRowOf Try.prog 31 ⟨g, o, none⟩ v w (rowAt w ⟨g, o, none⟩ 256) (thawed w g) (okCells 256 v) := bigStore_row isz52 g o v w
theorem alloc54 (h : Bool) (v : Value) : Instr.alloc 33 h v = bigAlloc 33 h v := rfl
theorem alloc52 (h : Bool) (v : Value) : Instr.alloc 31 h v = bigAlloc 31 h v := rfl
theorem ralloc54 (w : World) (v : Value) : (bigAlloc 33 true v).run Try.prog w = .ok (.pointer (some ⟨w.heap.size, 0, none⟩)) (w.alloc (.cells (wayA zWay) 33)) := by kernel_rfl
def arrA (b : List Int) : Array Value := (arrCells b).toArray
def zArr : List Int := List.replicate 256 0
theorem arrA_size (b : List Int) : (arrA b).size = b.length := by simp [arrA, arrCells_length]
theorem arrA_toList (b : List Int) : (arrA b).toList = arrCells b := rfl
theorem cells_arr (b : List Int) : (Value.agg (arrA b)).cells = arrA b := rfl
theorem zArr_length : zArr.length = 256 := List.length_replicate
theorem okCells_arr (b : List Int) (h : b.length = 256) : okCells 256 (.agg (arrA b)) = true := by
  unfold okCells
  simp only [Value.cells, arrA_size, h, decide_true, Bool.true_and, List.all_eq_true]
  exact arrCells_one b
theorem ralloc52 (w : World) (v : Value) : (bigAlloc 31 true v).run Try.prog w = .ok (.pointer (some ⟨w.heap.size, 0, none⟩)) (w.alloc (.cells (arrA zArr) 31)) := by kernel_rfl
/-! ### literals of a node and of an entry -/
theorem build180 (parts : Array (Nat × Value)) : Instr.build 110 parts = bigBuild 110 parts := rfl
theorem build185 (parts : Array (Nat × Value)) : Instr.build 115 parts = bigBuild 115 parts := rfl
theorem zero180 (w : World) : (zeroValue 110).run Try.prog w = .ok (.agg (([] : List Value) ++ [Value.int .u32 0, Value.int .i64 0] ++ (wayCells zWay ++ [Value.bool false, Value.pointer none, Value.pointer none])).toArray) w := by kernel_rfl
theorem zero185 (w : World) : (zeroValue 115).run Try.prog w = .ok (.agg (([] : List Value) ++ [Value.int .u32 0, Value.int .i64 0] ++ wayCells zWay).toArray) w := by kernel_rfl
theorem places (t : TypeId) (fs : Array Field) (w : World) (r : Array (Nat × Nat)) (h : (fs.mapM fun (f : Field) => (do pure (f.offset, ← sizeOf f.type) : Sem (Nat × Nat))).run Try.prog w = .ok r w) (hu : Try.prog.underlying t = some (.struct fs)) (z : Array Value) (hz : (zeroValue t).run Try.prog w = .ok (.agg z) w) (parts : Array (Nat × Value)) (out : Array Value) (hf : Instr.fill (fun i => r[i]?) z parts.toList = some out) :
    (Instr.build t parts).run Try.prog w = .ok (.agg out) w := by
  unfold Instr.build
  simp only [Sem.run_bind, hz, Result.andThen_ok, run_underlying hu w, h, Value.cells, hf, Sem.run_pure]
theorem rbuild185 (x y : Value) (v : Way) (w : World) : (bigBuild 115 #[(0, .agg #[x, y]), (1, .agg (wayA v))]).run Try.prog w = .ok (.agg ([x, y] ++ wayCells v).toArray) w := by
  refine places _ _ w #[(0, 2), (2, 257)] (by kernel_rfl) Try.underlying115 _ (zero185 w) _ _ ?_
  rw [fill_one [] [Value.int .u32 0, Value.int .i64 0] (wayCells zWay) [x, y] rfl rfl rfl]
  have e : ([] ++ [x, y] ++ wayCells zWay : List Value) = [x, y] ++ wayCells zWay ++ [] := by simp
  rw [e, fill_one [x, y] (wayCells zWay) [] (wayCells v) rfl (by rw [wayCells_length]; rfl) (by rw [wayCells_length, wayCells_length]), fill_end]
  simp
theorem rbuild180 (x y : Value) (v : Way) (b : Bool) (w : World) : (bigBuild 110 #[(0, .agg #[x, y]), (1, .agg (wayA v)), (2, .bool b)]).run Try.prog w = .ok (.agg ([x, y] ++ wayCells v ++ [Value.bool b, Value.pointer none, Value.pointer none]).toArray) w := by
  refine places _ _ w #[(0, 2), (2, 257), (259, 1), (260, 2)] (by kernel_rfl) Try.underlying110 _ (zero180 w) _ _ ?_
  rw [fill_one [] [Value.int .u32 0, Value.int .i64 0] _ [x, y] rfl rfl rfl]
  have e : ([] ++ [x, y] ++ (wayCells zWay ++ [Value.bool false, Value.pointer none, Value.pointer none]) : List Value) = [x, y] ++ wayCells zWay ++ [Value.bool false, Value.pointer none, Value.pointer none] := by simp
  rw [e, fill_one [x, y] (wayCells zWay) _ (wayCells v) rfl (by rw [wayCells_length]; rfl) (by rw [wayCells_length, wayCells_length])]
  have e2 : ([x, y] ++ wayCells v ++ [Value.bool false, Value.pointer none, Value.pointer none] : List Value) = ([x, y] ++ wayCells v) ++ [Value.bool false] ++ [Value.pointer none, Value.pointer none] := by simp
  have hl : ([x, y] ++ wayCells v : List Value).length = 259 := by simp [wayCells_length]
  rw [e2, fill_one ([x, y] ++ wayCells v) [Value.bool false] _ [.bool b] rfl (by rw [hl]; rfl) rfl, fill_end]
  simp
theorem rfork180 (x y : Value) (w : World) : (bigBuild 110 #[(0, .agg #[x, y])]).run Try.prog w = .ok (.agg ([x, y] ++ wayCells zWay ++ [Value.bool false, Value.pointer none, Value.pointer none]).toArray) w := by
  refine places _ _ w #[(0, 2), (2, 257), (259, 1), (260, 2)] (by kernel_rfl) Try.underlying110 _ (zero180 w) _ _ ?_
  rw [fill_one [] [Value.int .u32 0, Value.int .i64 0] _ [x, y] rfl rfl rfl, fill_end]
  simp
theorem loadRow_way (P : Program) (t : TypeId) (a : Addr) (w : World) (v : Way) : loadRowOf P t a w (some (wayCells v)) = .ok (.agg (wayA v)) w := rfl
theorem loadRow_arr (P : Program) (t : TypeId) (a : Addr) (w : World) (b : List Int) : loadRowOf P t a w (some (arrCells b)) = .ok (.agg (arrA b)) w := rfl
theorem wayA_back (v : Way) : (wayCells v).toArray = wayA v := rfl
theorem arrA_back (b : List Int) : (arrCells b).toArray = arrA b := rfl
end Go.Proofs.Ytbcekjbckeljmaa
