/- The laws' arguments, opened: a slice of routes; the row's last step. -/
import Derived.Test.YtbcekjbckeljmaaOe
set_option linter.unusedVariables false
set_option linter.unusedSimpArgs false
namespace Go.Proofs.Ytbcekjbckeljmaa
open Go.RowKit Go.ChangeShapes Go.WideShapes Go.Deep Go.ChangeAt
theorem Try.own' : ownKnob Try.prog.godebug = none := by kernel_rfl
theorem Try.laidOut' : laidOutB Try.prog = true := by kernel_rfl
section
variable {H : Type} {enc : TypeId × Value → H} {w : World} {base : Nat} {spare : Nat → Bool} {held : Bool} {n : Nat} {cs : List Value} {x : DataW H × List MemPlace}
theorem open_routes (h : DataW.trod enc Try.prog w base spare held n 40 cs = some x) : ∃ (o : Option Addr) (L : List Rt) (cap : Nat), cs = [.slice o L.length cap] ∧ RtS0 w o L := by
  rcases open_slice Try.underlying40 h with ⟨rfl, -⟩ | ⟨a, len, cap, m, n', D, Pl, rfl, hb, hl, hm, hmm, hx, hi⟩
  · exact ⟨none, [], 0, rfl, fun i hi => by simp at hi⟩
  · have hle : len ≤ m := by rw [hmm]; split <;> omega
    have hc6 : Try.prog.cellsOf 28 = 6 := by kernel_rfl
    have key : ∀ i, i < len → ∃ r : Rt, r.Raw w ∧ ∀ j v, r.cells[j]? = some v → w.cell? ((a.add (i * 6)).add j) = some v := by
      intro i hil
      obtain ⟨cs', h1, h2⟩ := hi i (by omega)
      rw [hc6] at h1
      obtain ⟨-, h3, h4⟩ := World.cells?_some h1
      obtain ⟨r, rfl, hr⟩ := open_route h2
      refine ⟨r, hr, fun j v hj => ?_⟩
      have hj6 : j < 6 := (Array.getElem?_eq_some_iff.1 hj).1
      rw [h4 j hj6]
      simpa using hj
    have key2 : ∀ k, k ≤ len → ∃ L : List Rt, L.length = k ∧ ∀ i, (h : i < L.length) → L[i].Raw w ∧ ∀ j v, L[i].cells[j]? = some v → w.cell? ((a.add (i * 6)).add j) = some v := by
      intro k
      induction k with
      | zero => exact fun _ => ⟨[], rfl, fun i hi => by simp at hi⟩
      | succ k ih =>
        intro hk
        obtain ⟨L, hl1, hl2⟩ := ih (by omega)
        obtain ⟨r, hr1, hr2⟩ := key k (by omega)
        refine ⟨L ++ [r], by simp [hl1], fun i hi => ?_⟩
        by_cases hik : i < L.length
        · rw [List.getElem_append_left hik]; exact hl2 i hik
        · have : i = L.length := by simp at hi; omega
          subst this
          rw [List.getElem_append_right (Nat.le_refl _)]
          simp only [Nat.sub_self, List.getElem_cons_zero, hl1]
          exact ⟨hr1, hr2⟩
    obtain ⟨L, hl1, hl2⟩ := key2 len (Nat.le_refl _)
    refine ⟨some a, L, cap, by rw [hl1], fun i hi => ?_⟩
    obtain ⟨h1, h2⟩ := hl2 i hi
    have c0 := h2 0 _ rfl
    have e0 : (a.add (i * 6)).add 0 = a.add (i * 6) := rfl
    rw [e0] at c0
    have c1 := h2 1 _ rfl
    have c2 := h2 2 _ rfl
    have c3 := h2 3 _ rfl
    have c4 := h2 4 _ rfl
    have c5 := h2 5 _ rfl
    rw [add_next _ _ c0] at c1 c2 c3 c4 c5
    exact ⟨a, rfl, c0, c1, c2, c3, c4, c5, h1⟩
end
section
variable {H : Type} {enc : TypeId × Value → H} {P : Program}
/-- the row's last step where only new blocks came -/
theorem post_law' {f : Func} {s : ChangeSpec} {W W' : World} {args : Array Value} {v : Value} {ds gs : List (DataW H)} {before pa pv : List MemPlace}
    (hW : DataW.Whole enc P f.params.toList s.vars false W args.toList ds gs before)
    (hres : DataW.TrodAll enc P W' W.heap.size (fun _ => false) false f.resultTypes.toList (v.resultList f.resultTypes.size) (s.fn H (ds ++ gs)).results [])
    (hargs : DataW.TrodAll enc P W' 0 (fun b => decide (b < W.heap.size)) true f.params.toList args.toList (s.fn H (ds ++ gs)).args pa)
    (hvars : DataW.TrodVars enc P W' (fun b => decide (b < W.heap.size)) s.vars (s.fn H (ds ++ gs)).vars pv)
    (hb : Below W.heap.size W W') :
    s.post enc P f false true false false W args v W' :=
  ⟨ds, gs, before, [], pa, pv, hW, hres, hargs, hvars, hb.frame _, fun h => by cases h⟩
end
end Go.Proofs.Ytbcekjbckeljmaa
