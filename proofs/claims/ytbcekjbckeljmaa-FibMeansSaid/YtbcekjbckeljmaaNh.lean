/- The table of buckets, plain. -/
import Derived.Test.YtbcekjbckeljmaaNg
set_option linter.unusedVariables false
set_option linter.unusedSimpArgs false
namespace Go.Proofs.Ytbcekjbckeljmaa

def portN (l : List (Int × Int)) (i : Nat) : Int := (l.getD i (0, 0)).1
def shN (l : List (Int × Int)) (ord : List Nat) (i : Nat) : Nat := (shr l ord i).toNat
def tabPre (l : List (Int × Int)) (ord : List Nat) (n : Nat) : List Int := (List.range n).flatMap fun i => List.replicate (shN l ord i) (portN l i)
theorem tabPre_succ (l : List (Int × Int)) (ord : List Nat) (n : Nat) : tabPre l ord (n + 1) = tabPre l ord n ++ List.replicate (shN l ord n) (portN l n) := by
  simp [tabPre, List.range_succ]
theorem tabPre_mono (l : List (Int × Int)) (ord : List Nat) {n m : Nat} (h : n ≤ m) : (tabPre l ord n).length ≤ (tabPre l ord m).length := by
  induction m with
  | zero => obtain rfl : n = 0 := by omega
            exact Nat.le_refl _
  | succ m ih =>
    by_cases e : n = m + 1
    · subst e; exact Nat.le_refl _
    · have := ih (by omega)
      rw [tabPre_succ, List.length_append]; omega
theorem sumTo_ind (p : Nat → Prop) [DecidablePred p] (n : Nat) : sumTo (fun i => if p i then 1 else 0) n = (((List.range n).filter (fun i => decide (p i))).length : Int) := by
  induction n with
  | zero => simp [sumTo]
  | succ n ih =>
    rw [sumTo, ih, List.range_succ, List.filter_append, List.length_append]
    by_cases h : p n
    · simp [h]
    · simp [h]
theorem sumTo_add (f g : Nat → Int) (n : Nat) : sumTo (fun i => f i + g i) n = sumTo f n + sumTo g n := by
  induction n with
  | zero => simp [sumTo]
  | succ n ih => simp only [sumTo, ih]; omega
theorem shr_sum {l : List (Int × Int)} (hm : mayL l = true) {ord : List Nat} (h : Ord l.length (restN l (allN l)) ord) : sumTo (shr l ord) l.length = 256 := by
  have hlen : ord.length = l.length := by simpa using h.perm.length_eq
  have hnd : ord.Nodup := h.perm.nodup_iff.2 List.nodup_range
  have hL := leftN_bd hm
  have e : shr l ord = fun i => baseN l i + (if i ∈ ord.take (leftN l).toNat then 1 else 0) := rfl
  rw [e, sumTo_add, sumTo_ind]
  have hp : ((List.range l.length).filter (fun i => decide (i ∈ ord.take (leftN l).toNat))).Perm (ord.take (leftN l).toNat) := by
    refine (List.perm_ext_iff_of_nodup (List.Pairwise.filter _ List.nodup_range) (hnd.sublist (List.take_sublist _ _))).2 fun i => ?_
    simp only [List.mem_filter, List.mem_range, decide_eq_true_eq]
    refine ⟨fun h => h.2, fun hi => ⟨?_, hi⟩⟩
    have := h.perm.mem_iff.1 (List.mem_of_mem_take hi)
    simpa using this
  rw [hp.length_eq, List.length_take, hlen]
  have : sumTo (baseN l) l.length = 256 - leftN l := by unfold leftN; omega
  omega
theorem shr_nn {l : List (Int × Int)} (hm : mayL l = true) (ord : List Nat) (i : Nat) : 0 ≤ shr l ord i := by
  have := (baseN_bd hm i).1
  unfold shr; split <;> omega
theorem tabPre_len {l : List (Int × Int)} (hm : mayL l = true) (ord : List Nat) (n : Nat) : ((tabPre l ord n).length : Int) = sumTo (shr l ord) n := by
  induction n with
  | zero => simp [tabPre, sumTo]
  | succ n ih =>
    have := shr_nn hm ord n
    rw [tabPre_succ, List.length_append, List.length_replicate, sumTo]
    unfold shN
    omega
theorem tab_len {l : List (Int × Int)} (hm : mayL l = true) {ord : List Nat} (h : Ord l.length (restN l (allN l)) ord) : (tabPre l ord l.length).length = 256 := by
  have h1 := tabPre_len hm ord l.length
  rw [shr_sum hm h] at h1
  omega
def pad (P : List Int) : List Int := P ++ List.replicate (256 - P.length) 0
theorem pad_len {P : List Int} (h : P.length ≤ 256) : (pad P).length = 256 := by simp [pad]; omega
theorem pad_set {P : List Int} (h : P.length < 256) (x : Int) : (pad P).set P.length x = pad (P ++ [x]) := by
  unfold pad
  rw [List.set_append_right _ _ (Nat.le_refl _), Nat.sub_self]
  obtain ⟨k, hk⟩ : ∃ k, 256 - P.length = k + 1 := ⟨255 - P.length, by omega⟩
  rw [hk, List.replicate_succ, List.set_cons_zero, List.length_append, show 256 - (P.length + [x].length) = k from by simp; omega]
  simp
theorem pad_full {P : List Int} (h : P.length = 256) : pad P = P := by simp [pad, h]
/-- the table of ways that may be -/
def tabOf (l : List (Int × Int)) [Inhabited (Fin l.length)] : List Int := tabPre l (ordL l (allN l)) l.length
end Go.Proofs.Ytbcekjbckeljmaa
