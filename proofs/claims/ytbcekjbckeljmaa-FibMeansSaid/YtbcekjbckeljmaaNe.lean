/- The order in which the buckets that are left go: plain. -/
import Derived.Test.YtbcekjbckeljmaaNd
set_option linter.unusedVariables false
set_option linter.unusedSimpArgs false
namespace Go.Proofs.Ytbcekjbckeljmaa
open Go.Sort
section
variable {α : Type} [Inhabited α]
theorem insInner_congr (lt lt' : α → α → Bool) (key : α → Nat) (h : ∀ x y, key y < key x → lt x y = lt' x y) :
    ∀ (j : Nat) (d : Array α), j < d.size → (∀ k, k < j → key d[k]! < key d[j]!) → insInner lt 0 j d = insInner lt' 0 j d
  | 0, d, _, _ => by simp [insInner]
  | j + 1, d, hj, hk => by
    have e := h d[j + 1]! d[j]! (hk j (by omega))
    unfold insInner
    rw [e]
    split
    · apply insInner_congr lt lt' key h j
      · rw [Sort.size_swp]; omega
      · intro k hkj
        rw [Sort.swp_right _ _ _ (by omega), Sort.swp_other _ _ _ _ (by omega) (by omega)]
        exact hk k (by omega)
    · rfl
theorem insInner_keeps (lt : α → α → Bool) (b : Nat) : ∀ (j : Nat) (d : Array α), j < b → b ≤ d.size → PermIn 0 b d (insInner lt 0 j d)
  | 0, d, _, _ => by simp only [insInner]; exact permIn_refl d 0 b
  | j + 1, d, hj, hb => by
    unfold insInner
    split
    · exact permIn_trans _ _ _ 0 b (swp_permIn d 0 b (j + 1) j (by omega) hj (by omega) (by omega) hb) (insInner_keeps lt b j _ (by omega) (by rw [Sort.size_swp]; exact hb))
    · exact permIn_refl d 0 b
theorem insOuter_congr (lt lt' : α → α → Bool) (key : α → Nat) (h : ∀ x y, key y < key x → lt x y = lt' x y) (n : Nat) :
    ∀ (m i : Nat) (d : Array α), n - i = m → i ≤ n → d.size = n → (∀ k, k < i → key d[k]! < i) → (∀ k, i ≤ k → k < n → key d[k]! = k) → insOuter lt 0 n i d = insOuter lt' 0 n i d
  | 0, i, d, hm, hi, _, _, _ => by
    obtain rfl : i = n := by omega
    rw [insOuter, if_neg (by omega), insOuter, if_neg (by omega)]
  | m + 1, i, d, hm, hi, hd, h1, h2 => by
    have hlt : i < n := by omega
    rw [insOuter, if_pos hlt, insOuter.eq_def lt', if_pos hlt]
    have hk : key d[i]! = i := h2 i (Nat.le_refl _) hlt
    rw [insInner_congr lt lt' key h i d (by omega) (fun k hki => by rw [hk]; exact h1 k hki)]
    have hp := insInner_keeps lt' (i + 1) i d (by omega) (by omega)
    refine insOuter_congr lt lt' key h n m (i + 1) _ (by omega) (by omega) (hp.1.trans hd) ?_ ?_
    · intro k hki
      refine permIn_all d _ 0 (i + 1) (fun x => key x < i + 1) (by omega) hp ?_ k (Nat.zero_le _) hki
      intro q _ hq
      by_cases e : q = i
      · subst e; omega
      · have := h1 q (by omega); omega
    · intro k hki hkn
      rw [hp.2.1 k (.inr hki)]
      exact h2 k (by omega) hkn
end
def before (rest : Nat → Int) (i j : Nat) : Prop := rest j < rest i ∨ (rest j = rest i ∧ i < j)
structure Ord (n : Nat) (rest : Nat → Int) (ord : List Nat) : Prop where
  perm : ord.Perm (List.range n)
  srt : ord.Pairwise (before rest)
instance (rest : Nat → Int) (i j : Nat) : Decidable (before rest i j) := by unfold before; infer_instance
def restN (l : List (Int × Int)) (all : Int) (i : Nat) : Int := restI all (l.getD i (0, 0)).2
def identF (n : Nat) : Array (Fin n) := Array.ofFn id
def ordF (l : List (Int × Int)) [Inhabited (Fin l.length)] (all : Int) : Array (Fin l.length) := insertionSort (ltOf (cfF l all)) (identF l.length) 0 (identF l.length).size
def ordL (l : List (Int × Int)) [Inhabited (Fin l.length)] (all : Int) : List Nat := (ordF l all).toList.map (·.val)
theorem identF_get {n : Nat} [Inhabited (Fin n)] (k : Nat) (hk : k < n) : (identF n)[k]! = ⟨k, hk⟩ := by
  rw [getElem!_pos _ k (by simpa [identF] using hk)]
  simp [identF]
theorem ltOf_cf (l : List (Int × Int)) (all : Int) (x y : Fin l.length) : ltOf (cfF l all) x y = decide (restN l all y.val < restN l all x.val) := by
  have e : cfF l all x y = Lib.compareInt (restN l all y.val) (restN l all x.val) := by simp [cfF, cfI, restN]
  unfold ltOf
  rw [e]
  unfold Lib.compareInt
  by_cases h : restN l all y.val < restN l all x.val
  · simp [h]
  · by_cases h2 : restN l all y.val > restN l all x.val
    · simp [h, h2]
    · simp [h, h2]
theorem ordL_ord (l : List (Int × Int)) [Inhabited (Fin l.length)] (all : Int) : Ord l.length (restN l all) (ordL l all) := by
  have hsz : (identF l.length).size = l.length := by simp [identF]
  let lt' : Fin l.length → Fin l.length → Bool := fun x y => decide (before (restN l all) x.val y.val)
  have hc : ordF l all = insertionSort lt' (identF l.length) 0 (identF l.length).size := by
    unfold ordF insertionSort
    rw [hsz]
    by_cases h0 : 0 + 1 ≤ l.length
    · refine insOuter_congr _ _ (fun x => x.val) ?_ l.length _ (0 + 1) _ rfl h0 hsz ?_ ?_
      · intro x y hxy
        rw [ltOf_cf]
        refine decide_eq_decide.2 ⟨.inl, ?_⟩
        rintro (h | h)
        · exact h
        · exact absurd hxy (by have := h.2; omega)
      · intro k hk
        have : k = 0 := by omega
        subst this
        rw [identF_get 0 (by omega)]; simp
      · intro k hk hkn
        rw [identF_get k hkn]
    · rw [insOuter, if_neg (by omega), insOuter, if_neg (by omega)]
  have hS : SWO lt' := by
    refine ⟨fun x => ?_, fun x y z => ?_, fun x y z => ?_⟩
    · simp [lt', before]
    · simp only [lt', decide_eq_true_eq]; unfold before; omega
    · simp only [lt', decide_eq_false_iff_not]; unfold before; omega
  obtain ⟨hp, hs⟩ := insertionSort_holds hS (identF l.length) 0 (identF l.length).size (Nat.zero_le _) (Nat.le_refl _)
  rw [← hc] at hp hs
  rw [hsz] at hp hs
  have hso : (ordF l all).size = l.length := hp.1.trans hsz
  have hperm : (ordF l all).toList.Perm (identF l.length).toList := by
    have := hp.2.2
    rw [Array.extract_eq_self_of_le (by omega), Array.extract_eq_self_of_le (by omega)] at this
    exact this
  have hid : (identF l.length).toList.map (·.val) = List.range l.length := by
    apply List.ext_getElem
    · simp [identF]
    · intro i h1 h2
      simp [identF]
  have hpL : (ordL l all).Perm (List.range l.length) := by rw [← hid]; exact hperm.map _
  have hnd : (ordL l all).Nodup := hpL.nodup_iff.2 List.nodup_range
  refine ⟨hpL, ?_⟩
  rw [List.pairwise_iff_getElem]
  intro i j hi hj hij
  have hlen : (ordL l all).length = l.length := by simp [ordL, hso]
  have h1 := hs i j (Nat.zero_le _) hij (by omega)
  have gi : (ordF l all)[i]! = (ordF l all)[i]'(by omega) := getElem!_pos _ i (by omega)
  have gj : (ordF l all)[j]! = (ordF l all)[j]'(by omega) := getElem!_pos _ j (by omega)
  rw [gi, gj] at h1
  have ei : (ordL l all)[i] = ((ordF l all)[i]'(by omega)).val := by simp [ordL]
  have ej : (ordL l all)[j] = ((ordF l all)[j]'(by omega)).val := by simp [ordL]
  have hne : (ordL l all)[i] ≠ (ordL l all)[j] := List.pairwise_iff_getElem.1 hnd i j hi hj hij
  rw [ei, ej] at hne ⊢
  simp only [lt', decide_eq_false_iff_not] at h1
  unfold before at *
  omega
open Go.RowKit in
theorem stable_id (w : World) (l : List (Int × Int)) [Inhabited (Fin l.length)] (o : Option Addr) (cap b1 b4 b12 : Nat) (all : Int) (h : ShF w l o cap b1 b4 all) (hall : 0 < all) (hall2 : all < 1000000000)
    (hf : w.cell? ⟨b12, 0, none⟩ = some (.func (.func 62) #[] #[.pointer (some ⟨b1, 0, none⟩), .pointer (some ⟨b4, 0, none⟩)]))
    (blk cap2 : Nat) (h8 : l.length ≤ 8) (hH : ∀ j, j < l.length → w.cell? ⟨blk, j, none⟩ = some (.int .i64 j) ∧ w.frozen? ⟨blk, j, none⟩ = false) (hblk : blk < w.heap.size)
    (h1 : b1 ≠ blk) (h4 : b4 ≠ blk) (h12 : b12 ≠ blk) (ho : ∀ a, o = some a → a.block ≠ blk) :
    Calls Try.prog 63 #[.slice (some ⟨blk, 0, none⟩) l.length cap2, .func (.func 64) #[] #[.pointer (some ⟨b12, 0, none⟩)]] w fun e w' =>
      e = .returned (.tuple #[]) ∧ SW (encF l.length) w blk 0 (ordF l all) w' := by
  have hsz : (identF l.length).size = l.length := by simp [identF]
  have hh : Holds (encF l.length) w blk 0 (identF l.length) := by
    intro j hj
    rw [identF_get j (by omega), Nat.zero_add]
    exact hH j (by omega)
  have h := stable_any w l o cap b1 b4 b12 all h hall hall2 hf blk cap2 (identF l.length) hsz h8 hh hblk h1 h4 h12 ho
  have e : Value.slice (some ⟨blk, 0, none⟩) (identF l.length).size cap2 = .slice (some ⟨blk, 0, none⟩) l.length cap2 := by rw [hsz]
  rw [e] at h
  exact h
theorem heap_sw {α : Type} [Inhabited α] (enc : α → Value) (W : World) (blk off n : Nat) (dk : Array α) (os : Array Obj) (k : Nat) (h1 : k ≠ blk) (h2 : k < W.heap.size) : (sortWorld enc W blk off n dk os).heap[k]? = W.heap[k]? := by
  unfold sortWorld
  show ((Sort.putRow enc (Sort.ahead W n) blk off dk).heap ++ os)[k]? = _
  have hs : (Sort.putRow enc (Sort.ahead W n) blk off dk).heap.size = W.heap.size := by simp only [Sort.putRow, mapBlock, Array.size_modify]; rfl
  rw [Array.getElem?_append_left (by omega)]
  simp only [Sort.putRow, mapBlock]
  rw [Array.getElem?_modify, if_neg (Ne.symm h1)]
  rfl
open Go.RowKit in
/-- what the sort leaves -/
theorem sw_after {w w' : World} {l : List (Int × Int)} [Inhabited (Fin l.length)] {all : Int} {blk : Nat} (h : SW (encF l.length) w blk 0 (ordF l all) w') (hH : ∀ j, j < l.length → w.cell? ⟨blk, j, none⟩ = some (.int .i64 j) ∧ w.frozen? ⟨blk, j, none⟩ = false) (hblk : blk < w.heap.size) :
    Below blk w w' ∧ (∀ k, k ≠ blk → k < w.heap.size → w'.heap[k]? = w.heap[k]?) ∧ ∀ j, j < l.length → w'.cell? ⟨blk, j, none⟩ = some (.int .i64 ((ordL l all).getD j 0 : Nat)) := by
  have hsz : (identF l.length).size = l.length := by simp [identF]
  have hso : (ordF l all).size = l.length := by
    have h1 := (ordL_ord l all).perm.length_eq
    simpa [ordL] using h1
  have hh : Holds (encF l.length) w blk 0 (identF l.length) := by
    intro j hj
    rw [identF_get j (by omega), Nat.zero_add]
    exact hH j (by omega)
  have hc := h.holds hblk hh (hso.trans hsz.symm)
  obtain ⟨n, os, rfl⟩ := h
  refine ⟨⟨rfl, rfl, rfl, size_sw _ _ _ _ _ _ _, fun k hk => heap_sw _ _ _ _ _ _ _ _ (by omega) (by omega)⟩, fun k h1 h2 => heap_sw _ _ _ _ _ _ _ _ h1 h2, ?_⟩
  intro j hj
  have h2 := (hc j (by omega)).1
  rw [Nat.zero_add] at h2
  rw [h2]
  have gj : (ordF l all)[j]! = (ordF l all)[j]'(by omega) := getElem!_pos _ j (by omega)
  rw [gj]
  simp [encF, ordL, List.getD_eq_getElem?_getD, hso, hj]
end Go.Proofs.Ytbcekjbckeljmaa
