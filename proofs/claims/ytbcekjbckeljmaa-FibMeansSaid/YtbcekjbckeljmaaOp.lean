/- The entries' order in a trie; how many they are; what is looked up, plainly. -/
import Derived.Test.YtbcekjbckeljmaaNy
set_option linter.unusedVariables false
set_option linter.unusedSimpArgs false
namespace Go.Proofs.Ytbcekjbckeljmaa
open Px
theorem Tr.ents_nodup {T : Tr} (hW : T.WF) (hO : T.Okp) : T.ents.Nodup := (Tr.ents_sorted hO hW).imp (fun {x y} h e => by subst e; unfold Tr.lt at h; omega)
theorem nodup_sub {α : Type} [DecidableEq α] : ∀ (l m : List α), l.Nodup → (∀ x ∈ l, x ∈ m) → l.length ≤ m.length
  | [], m, _, _ => by simp
  | x :: t, m, hn, hs => by
    obtain ⟨h1, h2⟩ := List.nodup_cons.1 hn
    have hx := hs x (by simp)
    have := nodup_sub t (m.erase x) h2 (fun y hy => (List.mem_erase_of_ne (fun e => h1 (by rw [← e]; exact hy))).2 (hs y (by simp [hy])))
    rw [List.length_erase_of_mem hx] at this
    have hp := List.length_pos_of_mem hx
    simp only [List.length_cons]
    omega
theorem makeL_len : ∀ (L : List Rt) (acc out : List (Pf × Way)), makeL L acc = some out → out.length = acc.length + L.length
  | [], acc, out, h => by simp [makeL] at h; subst h; simp
  | r :: rs, acc, out, h => by
    simp only [makeL] at h
    split at h
    · have := makeL_len rs _ _ h
      simp at this ⊢
      omega
    · cases h
theorem lkE_yes {T : Tr} {a : Nat} (ha : a < 4294967296) (hW : T.WF) (hO : T.Okp) (h : (lkE T a).2 = true) : (lkE T a).1 ∈ T.ents ∧ cov (lkE T a).1.1 (host a) ∧ ∀ x ∈ T.ents, cov x.1 (host a) → x.1.2 ≤ (lkE T a).1.1.2 := by
  unfold lkE lastE at *
  cases hg : (T.path a).getLast? with
  | none => rw [hg] at h; cases h
  | some f =>
    obtain ⟨h1, h2, h3⟩ := Tr.path_last ha hW hO hg
    refine ⟨h1, h2, fun x hx hc => ?_⟩
    rcases h3 x hx hc with e | e
    · rw [e]; exact Nat.le_refl _
    · exact Nat.le_of_lt e
theorem lkE_no {T : Tr} {a : Nat} (ha : a < 4294967296) (hW : T.WF) (hO : T.Okp) (h : (lkE T a).2 = false) : (lkE T a).1 = ((0, 0), zWay) ∧ ∀ x ∈ T.ents, ¬ cov x.1 (host a) := by
  unfold lkE lastE at *
  cases hg : (T.path a).getLast? with
  | some f => rw [hg] at h; cases h
  | none =>
    refine ⟨rfl, fun x hx hc => ?_⟩
    have := (Tr.path_mem ha hW hO x).2 ⟨hx, hc⟩
    rw [List.getLast?_eq_none_iff] at hg
    rw [hg] at this
    simp at this
theorem cov_zero (a : Nat) (ha : a < 4294967296) : cov (0, 0) (host a) := ⟨Nat.zero_le _, fst_0 a ha⟩
end Go.Proofs.Ytbcekjbckeljmaa
