/- Two entries, held against each other; the walks of Lookup, Pick, num, ten. -/
import Derived.Test.YtbcekjbckeljmaaNv
import Derived.Test.YtbcekjbckeljmaaNk
import Derived.ChangeKeysEq
import Derived.Laws.StructEq
set_option linter.unusedVariables false
set_option linter.unusedSimpArgs false
namespace Go.Proofs.Ytbcekjbckeljmaa
open Go.RowKit Px
set_option maxHeartbeats 1000000
set_option maxRecDepth 10000

theorem part_int (b : List Int) (i : Nat) (h : i < b.length) (w : World) : (part 3 (arrA b) i).run Try.prog w = .ok (.int .i64 b[i]) w := by
  have hi : (isAgg 3).run Try.prog w = .ok false w := by kernel_rfl
  have hg : (arrA b)[i]? = some (.int .i64 b[i]) := by simp [arrA, arrCells, h]
  unfold part
  simp only [Sem.run_bind, hi, Result.andThen_ok, Bool.false_eq_true, if_false, hg, Sem.run_pure]
theorem eq_int (d : Nat) (a b : Int) (w : World) : (Op.equalIn (d + 1) 3 (.int .i64 a) (.int .i64 b)).run Try.prog w = .ok (a == b) w := run_equalIn_int w d 3 .i64 .i64 a b Try.underlying3
theorem eqItems_arr (d : Nat) (x y : List Int) (hx : x.length = 256) (hy : y.length = 256) (w : World) : ∀ (is : List Nat), (∀ i ∈ is, i < 256) →
    (Op.eqItems (d + 1) 3 1 (arrA x) (arrA y) is).run Try.prog w = .ok (is.all fun i => x.getD i 0 == y.getD i 0) w
  | [], _ => by simp [Op.eqItems]
  | i :: is, h => by
    have hi := h i (by simp)
    have ih := eqItems_arr d x y hx hy w is (fun j hj => h j (by simp [hj]))
    simp only [Op.eqItems, Sem.run_bind, Nat.mul_one, part_int x i (by omega), part_int y i (by omega), Result.andThen_ok, eq_int]
    have e1 : x.getD i 0 = x[i]'(by omega) := by simp [List.getD_eq_getElem?_getD, show i < x.length by omega]
    have e2 : y.getD i 0 = y[i]'(by omega) := by simp [List.getD_eq_getElem?_getD, show i < y.length by omega]
    rw [List.all_cons, e1, e2]
    cases hb : (x[i]'(by omega) == y[i]'(by omega)) with
    | false => simp
    | true => simpa using ih
theorem all_eq (x y : List Int) (hx : x.length = 256) (hy : y.length = 256) : ((List.range 256).all fun i => x.getD i 0 == y.getD i 0) = decide (x = y) := by
  rw [Bool.eq_iff_iff, List.all_eq_true, decide_eq_true_eq]
  constructor
  · intro h
    refine List.ext_getElem (by omega) (fun i h1 h2 => ?_)
    have := h i (by simp; omega)
    simpa [List.getD_eq_getElem?_getD, h1, h2] using this
  · rintro rfl i _; simp
theorem cells3 : Try.prog.cellsOf 3 = 1 := by kernel_rfl
theorem eq_arr (d : Nat) (x y : List Int) (hx : x.length = 256) (hy : y.length = 256) (w : World) : (Op.equalIn (d + 2) 31 (.agg (arrA x)) (.agg (arrA y))).run Try.prog w = .ok (decide (x = y)) w := by
  obtain ⟨i, hi⟩ : ∃ i, (Try.prog.info? 3) = some i := by
    cases h : Try.prog.info? 3 with
    | some i => exact ⟨i, rfl⟩
    | none => have := cells3; have h2 := infoInt; rw [h] at h2; cases h2
  rw [run_equalIn_array (P := Try.prog) w (d + 1) (arrA x) (arrA y) Try.underlying31 hi, cells3, eqItems_arr d x y hx hy w _ (by simp), all_eq x y hx hy]
theorem part_kind (v : Way) (w : World) : (part 30 (wayA v) 0).run Try.prog w = .ok (.int .i64 v.k) w := by
  have hi : (isAgg 30).run Try.prog w = .ok false w := by kernel_rfl
  have hg : (wayA v)[0]? = some (.int .i64 v.k) := by simp [wayA, wayCells]
  unfold part
  simp only [Sem.run_bind, hi, Result.andThen_ok, Bool.false_eq_true, if_false, hg, Sem.run_pure]
theorem part_bk (v : Way) (w : World) : (part 31 (wayA v) 1).run Try.prog w = .ok (.agg (arrA v.b)) w := by
  have hi : (isAgg 31).run Try.prog w = .ok true w := by kernel_rfl
  have hs : (sizeOf 31).run Try.prog w = .ok 256 w := by kernel_rfl
  have hg : (wayA v).extract 1 (1 + 256) = arrA v.b := by
    apply Array.toList_inj.1
    rw [Array.toList_extract, wayA_toList, arrA_toList]
    simp only [wayCells, List.extract_eq_take_drop, List.drop_succ_cons, List.drop_zero]
    rw [List.take_of_length_le (by simp [arrCells_length, v.hb])]
  unfold part
  simp only [Sem.run_bind, hi, Result.andThen_ok, if_true, hs, Sem.run_pure, hg]
theorem eq_way (u v : Way) (w : World) : (Op.equalIn 10000 33 (.agg (wayA u)) (.agg (wayA v))).run Try.prog w = .ok (decide (u = v)) w := by
  have ek : ∀ w, (Op.equalIn 9999 30 (.int .i64 u.k) (.int .i64 v.k)).run Try.prog w = .ok (u.k == v.k) w := fun w => run_equalIn_int w 9998 30 .i64 .i64 _ _ Try.underlying30
  have eb : ∀ w, (Op.equalIn 9999 31 (.agg (arrA u.b)) (.agg (arrA v.b))).run Try.prog w = .ok (decide (u.b = v.b)) w := fun w => eq_arr 9997 u.b v.b u.hb v.hb w
  rw [run_equalIn_agg w 9999 33 _ _ Try.underlying33 (by kernel_rfl)]
  have hf : Try.prog.fieldsOf 33 = #[⟨ "Kind", 30, 0, false, "", "", 0⟩, ⟨ "Buckets", 31, 1, false, "", "", 8⟩] := by kernel_rfl
  rw [hf]
  have e1 : (decide (u = v)) = ((u.k == v.k) && decide (u.b = v.b)) := by
    rw [Bool.eq_iff_iff]
    simp only [decide_eq_true_eq, Bool.and_eq_true, beq_iff_eq]
    exact ⟨fun h => by subst h; exact ⟨rfl, rfl⟩, fun h => Way.ext' h.1 h.2⟩
  rw [e1]
  simp only [Op.eqFields]
  rw [if_pos (by decide)]
  simp only [Sem.run_bind, part_kind, Result.andThen_ok, ek]
  cases hk : (u.k == v.k) with
  | false => simp
  | true =>
    simp only [Bool.not_true, Bool.false_eq_true, if_false, Bool.true_and]
    rw [if_pos (by decide)]
    simp only [Sem.run_bind, part_bk, Result.andThen_ok, eb]
    cases hb : decide (u.b = v.b) <;> simp
theorem eqlWay (u v : Way) (w : World) : (binOp .eql 33 (.agg (wayA u)) (.agg (wayA v))).run Try.prog w = .ok (.bool (decide (u = v))) w := by
  rw [run_eql_struct, eq_way]; rfl
theorem neqWay (u v : Way) (w : World) : (binOp .neq 33 (.agg (wayA u)) (.agg (wayA v))).run Try.prog w = .ok (.bool (!decide (u = v))) w := by
  rw [run_neq_struct, eq_way]; rfl
end Go.Proofs.Ytbcekjbckeljmaa
