/- The entries that have an address, on the way down: plain. -/
import Derived.Test.YtbcekjbckeljmaaNr
set_option linter.unusedVariables false
set_option linter.unusedSimpArgs false
namespace Go.Proofs.Ytbcekjbckeljmaa
open Px
theorem bit_of_cov {q k : Pf} {a : Nat} (hk : ok k) (hq : ok q) (h1 : cov q k) (hne : q ≠ k) (h2 : cov k (host a)) : Px.bit a q.2 = Px.bit k.1 q.2 := by
  have hl := cov_len hq hk h1 hne
  have h32 := hk.2.1
  have e : fst a k.2 = k.1 := h2.2
  have e1 : fst k.1 (q.2 + 1) = fst a (q.2 + 1) := by rw [← e]; exact fst_fst a (by omega) h32
  have e0 : fst k.1 q.2 = fst a q.2 := by rw [← e]; exact fst_fst a (by omega) h32
  exact ((fst_succ_eq (by omega) e0).1 e1).symm
namespace Tr
/-- what has an address, from above to below -/
def path (a : Nat) : Tr → List (Pf × Way)
  | nil => []
  | node _ q v h l r => if fst a q.2 = q.1 then (if h then [(q, v)] else []) ++ (if q.2 = 32 then [] else if Px.bit a q.2 = 0 then path a l else path a r) else []
theorem keys_ok : ∀ {T : Tr}, T.Okp → ∀ k ∈ T.keys, ok k
  | nil, _, k, hk => by simp [keys] at hk
  | node _ q _ _ l r, h, k, hk => by
    simp only [keys, List.mem_cons, List.mem_append] at hk
    rcases hk with rfl | hk | hk
    · exact h.1
    · exact keys_ok h.2.1 k hk
    · exact keys_ok h.2.2 k hk
theorem path_mem {a : Nat} (ha : a < 4294967296) : ∀ {T : Tr}, T.WF → T.Okp → ∀ e, e ∈ T.path a ↔ e ∈ T.ents ∧ cov e.1 (host a)
  | nil, _, _, e => by simp [path, ents]
  | node _ q v h l r, hW, hO, e => by
    have hl := fun (x : Pf × Way) (hx : x ∈ l.ents) => hW.1 _ (ents_keys hx)
    have hr := fun (x : Pf × Way) (hx : x ∈ r.ents) => hW.2.1 _ (ents_keys hx)
    have ol := fun (x : Pf × Way) (hx : x ∈ l.ents) => keys_ok hO.2.1 _ (ents_keys hx)
    have or_ := fun (x : Pf × Way) (hx : x ∈ r.ents) => keys_ok hO.2.2 _ (ents_keys hx)
    have il := path_mem ha hW.2.2.1 hO.2.1 e
    have ir := path_mem ha hW.2.2.2 hO.2.2 e
    have hqo := hO.1
    simp only [path, ents, List.mem_append]
    by_cases hc : fst a q.2 = q.1
    · have hcq : cov q (host a) := ⟨hqo.2.1, hc⟩
      rw [if_pos hc]
      simp only [List.mem_append]
      have hA : e ∈ (if h = true then [(q, v)] else []) → cov e.1 (host a) := by
        split
        · intro hh; simp at hh; rw [hh]; exact hcq
        · simp
      have hB : (e ∈ (if q.2 = 32 then ([] : List (Pf × Way)) else if Px.bit a q.2 = 0 then path a l else path a r)) ↔ (e ∈ l.ents ∨ e ∈ r.ents) ∧ cov e.1 (host a) := by
        by_cases h32 : q.2 = 32
        · rw [if_pos h32]
          constructor
          · simp
          · rintro ⟨h1 | h1, _⟩
            · have := cov_len hqo (ol e h1) (hl e h1).1 (hl e h1).2.1; have := (ol e h1).2.1; omega
            · have := cov_len hqo (or_ e h1) (hr e h1).1 (hr e h1).2.1; have := (or_ e h1).2.1; omega
        · rw [if_neg h32]
          by_cases hb : Px.bit a q.2 = 0
          · rw [if_pos hb, il]
            constructor
            · rintro ⟨h1, h2⟩; exact ⟨.inl h1, h2⟩
            · rintro ⟨h1 | h1, h2⟩
              · exact ⟨h1, h2⟩
              · have := bit_of_cov (or_ e h1) hqo (hr e h1).1 (hr e h1).2.1 h2
                rw [(hr e h1).2.2] at this; omega
          · rw [if_neg hb, ir]
            constructor
            · rintro ⟨h1, h2⟩; exact ⟨.inr h1, h2⟩
            · rintro ⟨h1 | h1, h2⟩
              · have := bit_of_cov (ol e h1) hqo (hl e h1).1 (hl e h1).2.1 h2
                rw [(hl e h1).2.2] at this; omega
              · exact ⟨h1, h2⟩
      rw [hB]
      constructor
      · rintro (h1 | ⟨h1, h2⟩)
        · exact ⟨.inl h1, hA h1⟩
        · exact ⟨.inr h1, h2⟩
      · rintro ⟨h1 | h1, h2⟩
        · exact .inl h1
        · exact .inr ⟨h1, h2⟩
    · rw [if_neg hc]
      simp only [List.not_mem_nil, false_iff]
      rintro ⟨h1 | h1 | h1, h2⟩
      · split at h1
        · simp at h1; rw [h1] at h2; exact hc h2.2
        · simp at h1
      · exact hc (cov_trans (ol e h1) (host_ok ha) (hl e h1).1 h2).2
      · exact hc (cov_trans (or_ e h1) (host_ok ha) (hr e h1).1 h2).2
theorem path_up {a : Nat} (ha : a < 4294967296) : ∀ {T : Tr}, T.WF → T.Okp → (T.path a).Pairwise (fun x y => x.1.2 < y.1.2)
  | nil, _, _ => by simp [path]
  | node _ q v h l r, hW, hO => by
    have il := path_up ha hW.2.2.1 hO.2.1
    have ir := path_up ha hW.2.2.2 hO.2.2
    simp only [path]
    split
    · rw [List.pairwise_append]
      refine ⟨by split <;> simp, ?_, ?_⟩
      · split
        · simp
        · split
          · exact il
          · exact ir
      · intro x hx y hy
        have hx1 : x.1 = q := by
          split at hx
          · simp at hx; rw [hx]
          · simp at hx
        rw [hx1]
        split at hy
        · simp at hy
        · split at hy
          · have := ((path_mem ha hW.2.2.1 hO.2.1 y).1 hy).1
            have hk := hW.1 _ (ents_keys this)
            exact cov_len hO.1 (keys_ok hO.2.1 _ (ents_keys this)) hk.1 hk.2.1
          · have := ((path_mem ha hW.2.2.2 hO.2.2 y).1 hy).1
            have hk := hW.2.1 _ (ents_keys this)
            exact cov_len hO.1 (keys_ok hO.2.2 _ (ents_keys this)) hk.1 hk.2.1
    · simp
/-- the longest that has an address -/
theorem path_last {a : Nat} (ha : a < 4294967296) {T : Tr} (hW : T.WF) (hO : T.Okp) {e : Pf × Way} (h : (T.path a).getLast? = some e) : e ∈ T.ents ∧ cov e.1 (host a) ∧ ∀ x ∈ T.ents, cov x.1 (host a) → x = e ∨ x.1.2 < e.1.2 := by
  obtain ⟨ys, hys⟩ := List.getLast?_eq_some_iff.1 h
  have hm := (path_mem ha hW hO e).1 (by rw [hys]; simp)
  refine ⟨hm.1, hm.2, fun x hx hc => ?_⟩
  have hxp := (path_mem ha hW hO x).2 ⟨hx, hc⟩
  have hup := path_up ha hW hO
  rw [hys] at hxp hup
  rw [List.mem_append, List.mem_singleton] at hxp
  rcases hxp with h1 | h1
  · exact .inr ((List.pairwise_append.1 hup).2.2 x h1 e (by simp))
  · exact .inl h1
end Tr
end Go.Proofs.Ytbcekjbckeljmaa
