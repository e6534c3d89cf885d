/- What an entry's buckets are; how many ports; plain. -/
import Derived.Test.YtbcekjbckeljmaaOp
import Derived.Test.YtbcekjbckeljmaaOm
import Derived.Maps.OwnSet
import Derived.Maps.Views
set_option linter.unusedVariables false
set_option linter.unusedSimpArgs false
namespace Go.Proofs.Ytbcekjbckeljmaa

theorem mayFrom_ports : ∀ (l : List (Int × Int)) (last : Int), mayFrom last l = true → ∀ x ∈ l, last < x.1 ∧ x.1 < 8
  | [], _, _, x, hx => by simp at hx
  | (p, d) :: r, last, h, x, hx => by
    simp only [mayFrom, Bool.and_eq_true, Bool.not_eq_true', decide_eq_false_iff_not] at h
    obtain ⟨⟨⟨h1, h2⟩, h3⟩, h4⟩ := h
    rcases List.mem_cons.1 hx with rfl | hx
    · exact ⟨by omega, by omega⟩
    · have := mayFrom_ports r p h4 x hx
      exact ⟨by omega, this.2⟩
theorem tabW_mem {l : List (Int × Int)} {x : Int} (h : x ∈ tabW l) : 0 ≤ x ∧ x < 8 := by
  unfold tabW at h
  split at h
  · rename_i hm
    unfold tabOf tabPre at h
    obtain ⟨i, hi, hx⟩ := List.mem_flatMap.1 h
    have hi' : i < l.length := by simpa using hi
    have e := List.eq_of_mem_replicate hx
    unfold portN at e
    have hg : l.getD i (0, 0) = l[i] := by simp [List.getD_eq_getElem?_getD, hi']
    rw [hg] at e
    have hm2 := hm.2
    unfold mayL at hm2
    simp only [Bool.and_eq_true] at hm2
    have := mayFrom_ports l (-1) hm2.1 l[i] (List.getElem_mem hi')
    omega
  · have : x = 0 := by unfold zArr at h; exact List.eq_of_mem_replicate h
    omega
/-- what is known of an entry -/
def WayOk (v : Way) : Prop := (v.k ≠ 3 → v.b = zArr) ∧ ∀ x ∈ v.b, 0 ≤ x ∧ x < 8
theorem zArr_mem {x : Int} (h : x ∈ zArr) : 0 ≤ x ∧ x < 8 := by
  have : x = 0 := by unfold zArr at h; exact List.eq_of_mem_replicate h
  omega
theorem way_ok (r : Rt) : WayOk r.way := by
  unfold Rt.way WayOk
  split
  · exact ⟨fun _ => rfl, fun x hx => zArr_mem hx⟩
  · split
    · exact ⟨fun _ => rfl, fun x hx => zArr_mem hx⟩
    · exact ⟨fun h => absurd rfl h, fun x hx => tabW_mem hx⟩
theorem zWay_ok : WayOk zWay := ⟨fun _ => rfl, fun x hx => zArr_mem hx⟩
theorem makeL_ways : ∀ (L : List Rt) (acc out : List (Px.Pf × Way)), makeL L acc = some out → (∀ e ∈ acc, WayOk e.2) → ∀ e ∈ out, WayOk e.2
  | [], acc, out, h, ha => by simp [makeL] at h; subst h; exact ha
  | r :: rs, acc, out, h, ha => by
    simp only [makeL] at h
    split at h
    · refine makeL_ways rs _ _ h (fun e he => ?_)
      rcases List.mem_append.1 he with he | he
      · exact ha e he
      · simp at he; rw [he]; exact way_ok r
    · cases h
/-! ### how many ports -/
open Go.Lib in
theorem cu_spec (d : Array Int) (hs : ∀ i j, i ≤ j → j < d.size → d[i]! ≤ d[j]!) : ∀ m, m ≤ d.size → (∀ x, x ∈ compactUpTo d m ↔ ∃ j, j < m ∧ d[j]! = x) ∧ (compactUpTo d m).Nodup := by
  intro m
  induction m with
  | zero => intro _; simp [compactUpTo]
  | succ m ih =>
    intro hm
    obtain ⟨ih1, ih2⟩ := ih (by omega)
    rw [compactUpTo_succ]
    by_cases hk : m = 0 ∨ d[m]! ≠ d[m - 1]!
    · have hkk : keeps d m = true := by simpa [keeps] using hk
      rw [if_pos hkk]
      refine ⟨fun x => ?_, ?_⟩
      · rw [List.mem_append, ih1, List.mem_singleton]
        constructor
        · rintro (⟨j, hj, e⟩ | e)
          · exact ⟨j, by omega, e⟩
          · exact ⟨m, by omega, e.symm⟩
        · rintro ⟨j, hj, e⟩
          by_cases hjm : j = m
          · subst hjm; exact .inr e.symm
          · exact .inl ⟨j, by omega, e⟩
      · rw [List.nodup_append]
        refine ⟨ih2, by simp, fun x hx y hy e => ?_⟩
        simp at hy
        obtain ⟨j, hj, e2⟩ := (ih1 x).1 hx
        rcases hk with rfl | hk
        · omega
        · have h1 := hs j (m - 1) (by omega) (by omega)
          have h2 := hs (m - 1) m (by omega) (by omega)
          omega
    · have hkk : keeps d m = false := by simpa [keeps] using hk
      rw [if_neg (by simp [hkk]), List.append_nil]
      refine ⟨fun x => ?_, ih2⟩
      rw [ih1]
      constructor
      · rintro ⟨j, hj, e⟩; exact ⟨j, by omega, e⟩
      · rintro ⟨j, hj, e⟩
        by_cases hjm : j = m
        · subst hjm
          refine ⟨j - 1, by omega, ?_⟩
          have : d[j]! = d[j - 1]! := by
            by_cases h : d[j]! = d[j - 1]!
            · exact h
            · exact absurd (.inr h) hk
          rw [← this]; exact e
        · exact ⟨j, by omega, e⟩
theorem compact_spec (b : List Int) : (∀ x, x ∈ Lib.compact (b.mergeSort fun x y => decide (x ≤ y)) ↔ x ∈ b) ∧ (Lib.compact (b.mergeSort fun x y => decide (x ≤ y))).Nodup := by
  have hp : (b.mergeSort fun x y => decide (x ≤ y)).Pairwise (fun x y => x ≤ y) := by
    have := List.pairwise_mergeSort (le := fun (x y : Int) => decide (x ≤ y)) (fun a b c h1 h2 => by simp at *; omega) (fun a b => by simp; omega) b
    exact this.imp (fun h => by simpa using h)
  have hmem : ∀ x, x ∈ (b.mergeSort fun x y => decide (x ≤ y)) ↔ x ∈ b := fun x => (List.mergeSort_perm b _).mem_iff
  generalize (b.mergeSort fun x y => decide (x ≤ y)) = s at *
  have hs : ∀ i j, i ≤ j → j < s.toArray.size → s.toArray[i]! ≤ s.toArray[j]! := by
    intro i j hij hj
    have hj' : j < s.length := by simpa using hj
    have e1 : s.toArray[i]! = s[i] := by simp [show i < s.length by omega]
    have e2 : s.toArray[j]! = s[j] := by simp [hj']
    rw [e1, e2]
    rcases Nat.eq_or_lt_of_le hij with rfl | h
    · exact Int.le_refl _
    · exact List.pairwise_iff_getElem.1 hp i j (by omega) hj' h
  obtain ⟨h1, h2⟩ := cu_spec s.toArray hs s.length (by simp)
  refine ⟨fun x => ?_, h2⟩
  unfold Lib.compact
  rw [h1, ← hmem]
  constructor
  · rintro ⟨j, hj, e⟩
    have e1 : s.toArray[j]! = s[j] := by simp [hj]
    rw [← e, e1]; exact List.getElem_mem hj
  · intro hx
    obtain ⟨j, hj, e⟩ := List.mem_iff_getElem.1 hx
    exact ⟨j, hj, by rw [← e]; simp [hj]⟩
open Go.Maps in
theorem addKey_spec (b : List Int) : ∃ r : List Int, (b.map (Lit.int .i64)).foldl addKey [] = r.map (Lit.int .i64) ∧ r.Nodup ∧ ∀ x, x ∈ r ↔ x ∈ b := by
  have key : ∀ (b acc : List Int), acc.Nodup → ∃ r : List Int, (b.map (Lit.int .i64)).foldl addKey (acc.map (Lit.int .i64)) = r.map (Lit.int .i64) ∧ r.Nodup ∧ ∀ x, x ∈ r ↔ x ∈ acc ∨ x ∈ b := by
    intro b
    induction b with
    | nil => intro acc hn; exact ⟨acc, rfl, hn, by simp⟩
    | cons y b ih =>
      intro acc hn
      have hany : (acc.map (Lit.int .i64)).any (fun z => z.sameKey (Lit.int .i64 y)) = decide (y ∈ acc) := by
        rw [Bool.eq_iff_iff, List.any_eq_true, decide_eq_true_eq]
        constructor
        · rintro ⟨z, hz, hs⟩
          obtain ⟨x, hx, rfl⟩ := List.mem_map.1 hz
          have : x = y := by simpa [Lit.sameKey] using hs
          rw [← this]; exact hx
        · intro h
          exact ⟨_, List.mem_map.2 ⟨y, h, rfl⟩, by simp [Lit.sameKey]⟩
      by_cases hy : y ∈ acc
      · obtain ⟨r, h1, h2, h3⟩ := ih acc hn
        refine ⟨r, ?_, h2, fun x => ?_⟩
        · rw [List.map_cons, List.foldl_cons]
          unfold addKey
          rw [hany, if_pos (by simpa using hy)]
          exact h1
        · rw [h3]; simp only [List.mem_cons]
          constructor
          · rintro (h | h)
            · exact .inl h
            · exact .inr (.inr h)
          · rintro (h | rfl | h)
            · exact .inl h
            · exact .inl hy
            · exact .inr h
      · obtain ⟨r, h1, h2, h3⟩ := ih (acc ++ [y]) (by rw [List.nodup_append]; exact ⟨hn, by simp, fun a ha c hc e => by simp at hc; subst hc; subst e; exact hy ha⟩)
        refine ⟨r, ?_, h2, fun x => ?_⟩
        · rw [List.map_cons, List.foldl_cons]
          unfold addKey
          rw [hany, if_neg (by simpa using hy)]
          rw [List.map_append] at h1
          exact h1
        · rw [h3]; simp [or_assoc]
  obtain ⟨r, h1, h2, h3⟩ := key b [] (by simp)
  exact ⟨r, h1, h2, by simpa using h3⟩
theorem ports_count (b : List Int) : ((b.map (Lit.int .i64)).foldl Maps.addKey []).length = (Lib.compact (b.mergeSort fun x y => decide (x ≤ y))).length := by
  obtain ⟨r, h1, h2, h3⟩ := addKey_spec b
  obtain ⟨c1, c2⟩ := compact_spec b
  rw [h1, List.length_map]
  exact Nat.le_antisymm (nodup_sub _ _ h2 (fun x hx => (c1 x).2 ((h3 x).1 hx))) (nodup_sub _ _ c2 (fun x hx => (h3 x).2 ((c1 x).1 hx)))
end Go.Proofs.Ytbcekjbckeljmaa
