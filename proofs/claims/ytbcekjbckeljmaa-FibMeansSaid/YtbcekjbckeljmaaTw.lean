/- The trie as a search tree: what is in it, in which order; what an insertion does. Plain. -/
import Derived.Test.YtbcekjbckeljmaaTk
set_option linter.unusedVariables false
set_option linter.unusedSimpArgs false
namespace Go.Proofs.Ytbcekjbckeljmaa
open Go.RowKit Px

namespace Tr
/-- all prefixes of nodes -/
def keys : Tr → List Pf
  | nil => []
  | node _ q _ _ l r => q :: (l.keys ++ r.keys)
/-- the entries, from above to below -/
def ents : Tr → List (Pf × Way)
  | nil => []
  | node _ q v h l r => (if h then [(q, v)] else []) ++ (l.ents ++ r.ents)
/-- a search tree -/
def WF : Tr → Prop
  | nil => True
  | node _ q _ _ l r => (∀ k ∈ l.keys, cov q k ∧ q ≠ k ∧ bit k.1 q.2 = 0) ∧ (∀ k ∈ r.keys, cov q k ∧ q ≠ k ∧ bit k.1 q.2 = 1) ∧ l.WF ∧ r.WF
theorem ents_keys : ∀ {T : Tr} {e : Pf × Way}, e ∈ T.ents → e.1 ∈ T.keys
  | nil, e, h => by simp [ents] at h
  | node _ q v h l r, e, he => by
    simp only [ents, List.mem_append] at he
    simp only [keys, List.mem_cons, List.mem_append]
    rcases he with he | he | he
    · split at he
      · simp at he; exact .inl (by rw [he])
      · simp at he
    · exact .inr (.inl (ents_keys he))
    · exact .inr (.inr (ents_keys he))
theorem okp_keys : ∀ {T : Tr}, T.Okp → ∀ k ∈ T.keys, ok k
  | nil, _, k, h => by simp [keys] at h
  | node _ q v h l r, ⟨h1, h2, h3⟩, k, hk => by
    simp only [keys, List.mem_cons, List.mem_append] at hk
    rcases hk with rfl | hk | hk
    · exact h1
    · exact okp_keys h2 k hk
    · exact okp_keys h3 k hk
/-- the part that is hung in for an insertion -/
def insX (B B2 : Nat) (p : Pf) (v : Way) : Tr → Tr
  | nil => node B p v true nil nil
  | node b q u h l r => if q = p then node b p v true l r else if com q p = p then aboveT B p v (bit q.1 p.2) (node b q u h l r) else forkT B B2 (com q p) p v (bit p.1 (com q p).2) (node b q u h l r)
/-- a part where p is, or would be -/
def At (p : Pf) : Tr → Prop
  | nil => True
  | node _ q _ h _ _ => (q = p ∧ h = false) ∨ (q ≠ p ∧ ¬ cov q p)
theorem insX_keys {B B2 : Nat} {p : Pf} {v : Way} {S : Tr} {k : Pf} (h : k ∈ (insX B B2 p v S).keys) : k ∈ S.keys ∨ k = p ∨ ∃ q ∈ S.keys, k = com q p ∧ q ≠ p ∧ com q p ≠ p ∧ com q p ≠ q ∨ (k = com q p ∧ com q p = q ∧ q ∈ S.keys) := by
  cases S with
  | nil => simp [insX, keys] at h; exact .inr (.inl h)
  | node b q u hh l r =>
    simp only [insX] at h
    split at h
    · rename_i e
      simp only [keys, List.mem_cons, List.mem_append] at h ⊢
      rcases h with h | h | h
      · exact .inr (.inl h)
      · exact .inl (.inr (.inl h))
      · exact .inl (.inr (.inr h))
    · rename_i e
      split at h
      · simp only [aboveT] at h
        split at h <;>
        · simp only [keys, List.mem_cons, List.mem_append, List.not_mem_nil, or_false, false_or] at h ⊢
          rcases h with h | h
          · exact .inr (.inl h)
          · exact .inl h
      · rename_i e2
        simp only [forkT] at h
        have key : k = com q p ∨ k = p ∨ k ∈ (node b q u hh l r).keys := by
          split at h <;>
          · simp only [keys, List.mem_cons, List.mem_append, List.not_mem_nil, or_false, false_or] at h ⊢
            rcases h with h | h | h
            · exact .inl h
            · first | exact .inr (.inl h) | exact .inr (.inr h)
            · first | exact .inr (.inl h) | exact .inr (.inr h)
        rcases key with h | h | h
        · by_cases e3 : com q p = q
          · exact .inl (by rw [h, e3]; simp [keys])
          · exact .inr (.inr ⟨q, by simp [keys], .inl ⟨h, e, e2, e3⟩⟩)
        · exact .inr (.inl h)
        · exact .inl h
theorem insX_ents {B B2 : Nat} {p : Pf} {v : Way} {S : Tr} (hS : At p S) {e : Pf × Way} : e ∈ (insX B B2 p v S).ents ↔ e = (p, v) ∨ e ∈ S.ents := by
  cases S with
  | nil => simp [insX, ents]
  | node b q u hh l r =>
    simp only [insX]
    split
    · rename_i e1
      rcases hS with ⟨_, rfl⟩ | ⟨h, _⟩
      · simp [ents]
      · exact absurd e1 h
    · split
      · simp only [aboveT]
        split <;> simp [ents]
      · simp only [forkT]
        split
        · simp [ents]
        · simp only [ents, if_true, Bool.false_eq_true, if_false, List.nil_append, List.append_nil, List.mem_append, List.mem_singleton]
          constructor
          · rintro (h | h)
            · exact .inr h
            · exact .inl h
          · rintro (h | h)
            · exact .inr h
            · exact .inl h
/-- what the first bits of c say, they say of whatever c covers -/
theorem bit_cov {c p : Pf} {n : Nat} (hc : ok c) (h : cov c p) (hn : n < c.2) : bit c.1 n = bit p.1 n := by
  have h1 : fst c.1 (n + 1) = fst p.1 (n + 1) := by rw [← h.2, fst_fst _ hn hc.2.1]
  have h2 : fst c.1 n = fst p.1 n := by rw [← h.2, fst_fst _ (Nat.le_of_lt hn) hc.2.1]
  exact (fst_succ_eq (by have := hc.2.1; omega) h2).1 h1
/-- the common prefix of two lies below whatever both lie below on one side -/
theorem com_side {a q p : Pf} (ha : ok a) (hq : ok q) (hp : ok p) (h1 : cov a q) (h2 : cov a p) (n1 : a ≠ q) (n2 : a ≠ p) (hb : bit q.1 a.2 = bit p.1 a.2) : cov a (com q p) ∧ a ≠ com q p ∧ bit (com q p).1 a.2 = bit p.1 a.2 := by
  have l1 := cov_len ha hq h1 n1
  have l2 := cov_len ha hp h2 n2
  have hlt : a.2 + 1 ≤ comN q.1 q.2 p.1 p.2 := by
    have e1 : fst q.1 a.2 = fst p.1 a.2 := by rw [h1.2, h2.2]
    have e2 := (fst_succ_eq (by have := hq.2.1; omega) e1).2 hb
    have := (lz_ge q.1 p.1 (a.2 + 1) hq.1 hp.1 (by have := hq.2.1; omega)).2 e2
    unfold comN; omega
  have hlt' : a.2 < (com q p).2 := hlt
  refine ⟨com_max hq hp ha h1 h2, fun e => by rw [e] at hlt'; omega, ?_⟩
  exact bit_cov (com_ok hq hp) (com_cov_right hq hp) hlt'
theorem insX_WF {B B2 : Nat} {p : Pf} {v : Way} {S : Tr} (hp : ok p) (hO : S.Okp) (hS : At p S) (hW : S.WF) : (insX B B2 p v S).WF := by
  cases S with
  | nil => simp [insX, WF, keys]
  | node b q u hh l r =>
    simp only [insX]
    split
    · rename_i e; subst e; exact hW
    · rename_i e
      have hq := hO.1
      have hnc : ¬ cov q p := by rcases hS with ⟨h, _⟩ | ⟨_, h⟩ <;> first | exact absurd h e | exact h
      have hall : ∀ k ∈ (node b q u hh l r).keys, cov q k := by
        intro k hk
        simp only [keys, List.mem_cons, List.mem_append] at hk
        rcases hk with rfl | hk | hk
        · exact cov_refl hq
        · exact (hW.1 k hk).1
        · exact (hW.2.1 k hk).1
      have hok := okp_keys hO
      split
      · rename_i e2
        have hcv : cov p q := by have := com_cov_left hq hp; rwa [e2] at this
        have hl := cov_len hp hq hcv (Ne.symm e)
        have side : ∀ k ∈ (node b q u hh l r).keys, cov p k ∧ p ≠ k ∧ bit k.1 p.2 = bit q.1 p.2 := fun k hk =>
          ⟨cov_trans hq (hok k hk) hcv (hall k hk), fun e3 => by have := (hall k hk).1; rw [← e3] at this; omega, (bit_cov hq (hall k hk) hl).symm⟩
        simp only [aboveT]
        have := bit_lt q.1 p.2
        split
        · rename_i h0
          refine ⟨fun k hk => ?_, fun k hk => by simp [keys] at hk, hW, trivial⟩
          have := side k hk; rwa [h0] at this
        · rename_i h0
          refine ⟨fun k hk => by simp [keys] at hk, fun k hk => ?_, trivial, hW⟩
          have h1 := side k hk; rwa [show bit q.1 p.2 = 1 from by omega] at h1
      · rename_i e2
        have e3 : com q p ≠ q := fun h => hnc ((com_eq_iff hq hp).1 h)
        obtain ⟨hn, hbit⟩ := com_bits hq hp e3 e2
        have hc := com_ok hq hp
        have hl := cov_len hc hq (com_cov_left hq hp) e3
        have side : ∀ k ∈ (node b q u hh l r).keys, cov (com q p) k ∧ com q p ≠ k ∧ bit k.1 (com q p).2 = bit q.1 (com q p).2 := fun k hk =>
          ⟨cov_trans hq (hok k hk) (com_cov_left hq hp) (hall k hk), fun e3 => by have := (hall k hk).1; rw [← e3] at this; omega, (bit_cov hq (hall k hk) hl).symm⟩
        have b1 := bit_lt q.1 (com q p).2
        have b2 := bit_lt p.1 (com q p).2
        have pside : ∀ k ∈ (node B p v true nil nil).keys, cov (com q p) k ∧ com q p ≠ k ∧ bit k.1 (com q p).2 = bit p.1 (com q p).2 := fun k hk => by
          simp [keys] at hk; subst hk; exact ⟨com_cov_right hq hp, e2, rfl⟩
        simp only [forkT]
        split
        · rename_i h0
          refine ⟨fun k hk => ?_, fun k hk => ?_, ⟨by simp [keys], by simp [keys], trivial, trivial⟩, hW⟩
          · have := pside k hk; rwa [h0] at this
          · have h1 := side k hk; rwa [show bit q.1 (com q p).2 = 1 from by omega] at h1
        · rename_i h0
          refine ⟨fun k hk => ?_, fun k hk => ?_, hW, ⟨by simp [keys], by simp [keys], trivial, trivial⟩⟩
          · have h1 := side k hk; rwa [show bit q.1 (com q p).2 = 0 from by omega] at h1
          · have := pside k hk; rwa [show bit p.1 (com q p).2 = 1 from by omega] at this
theorem desc_At {p : Pf} : ∀ {T : Tr} {s : Addr}, (∀ v, (p, v) ∉ T.ents) → At p (desc s T p).2
  | nil, s, _ => trivial
  | node b q u h l r, s, hn => by
    simp only [desc]
    split
    · rename_i hc
      by_cases e : q = p
      · left
        refine ⟨e, ?_⟩
        cases h with
        | false => rfl
        | true => exact absurd (show (p, u) ∈ (node b q u true l r).ents by simp [ents, e]) (hn u)
      · right
        rcases hc with h | h
        · exact absurd h e
        · exact ⟨e, h⟩
    · split
      · exact desc_At (fun v h => hn v (by simp [ents, h]))
      · exact desc_At (fun v h => hn v (by simp [ents, h]))
theorem desc_keys {p : Pf} : ∀ {T : Tr} {s : Addr}, ∀ k ∈ (desc s T p).2.keys, k ∈ T.keys
  | nil, s, k, h => h
  | node b q u h l r, s, k, hk => by
    simp only [desc] at hk
    split at hk
    · exact hk
    · split at hk
      · have := desc_keys k hk; simp [keys, this]
      · have := desc_keys k hk; simp [keys, this]
theorem desc_WF {p : Pf} : ∀ {T : Tr} {s : Addr}, T.WF → (desc s T p).2.WF
  | nil, s, h => h
  | node b q u h l r, s, hW => by
    simp only [desc]
    split
    · exact hW
    · split
      · exact desc_WF hW.2.2.1
      · exact desc_WF hW.2.2.2
theorem desc_Okp {p : Pf} : ∀ {T : Tr} {s : Addr}, T.Okp → (desc s T p).2.Okp
  | nil, s, h => h
  | node b q u h l r, s, hW => by
    simp only [desc]
    split
    · exact hW
    · split
      · exact desc_Okp hW.2.1
      · exact desc_Okp hW.2.2
theorem repl_keys {p : Pf} {X : Tr} : ∀ {T : Tr}, ∀ k ∈ (T.repl p X).keys, k ∈ X.keys ∨ k ∈ T.keys
  | nil, k, h => .inl h
  | node b q u h l r, k, hk => by
    simp only [repl] at hk
    split at hk
    · exact .inl hk
    · split at hk
      · simp only [keys, List.mem_cons, List.mem_append] at hk ⊢
        rcases hk with hk | hk | hk
        · exact .inr (.inl hk)
        · rcases repl_keys k hk with h1 | h1
          · exact .inl h1
          · exact .inr (.inr (.inl h1))
        · exact .inr (.inr (.inr hk))
      · simp only [keys, List.mem_cons, List.mem_append] at hk ⊢
        rcases hk with hk | hk | hk
        · exact .inr (.inl hk)
        · exact .inr (.inr (.inl hk))
        · rcases repl_keys k hk with h1 | h1
          · exact .inl h1
          · exact .inr (.inr (.inr h1))
theorem repl_WF {B B2 : Nat} {p : Pf} {v : Way} (hp : ok p) (s : Addr) : ∀ {T : Tr} {s : Addr}, T.Okp → T.WF → At p (desc s T p).2 → (T.repl p (insX B B2 p v (desc s T p).2)).WF
  | nil, s, hO, hW, hA => insX_WF hp hO hA hW
  | node b q u h l r, s, hO, hW, hA => by
    by_cases hne : q = p ∨ ¬ cov q p
    · simp only [repl, desc, if_pos hne] at hA ⊢
      exact insX_WF hp hO hA hW
    · have hq := hO.1
      have hcv : cov q p := Decidable.byContradiction fun h => hne (.inr h)
      have hqp : q ≠ p := fun h => hne (.inl h)
      have side : ∀ {m : Tr} {s' : Addr} (i : Nat), m.Okp → (∀ k ∈ m.keys, cov q k ∧ q ≠ k ∧ bit k.1 q.2 = i) → bit p.1 q.2 = i → ∀ k ∈ (m.repl p (insX B B2 p v (desc s' m p).2)).keys, cov q k ∧ q ≠ k ∧ bit k.1 q.2 = i := by
        intro m s' i hmO hm hpi k hk
        rcases repl_keys k hk with h1 | h1
        · rcases insX_keys h1 with h2 | h2 | ⟨q', hq', h2⟩
          · exact hm k (desc_keys k h2)
          · subst h2; exact ⟨hcv, hqp, hpi⟩
          · rcases h2 with ⟨rfl, _, _, _⟩ | ⟨h3, h4, h5⟩
            · have hk' := hm q' (desc_keys q' hq')
              have := com_side hq (okp_keys hmO q' (desc_keys q' hq')) hp hk'.1 hcv hk'.2.1 hqp (by rw [hk'.2.2, hpi])
              rw [hpi] at this; exact this
            · rw [h3, h4]; exact hm q' (desc_keys q' h5)
        · exact hm k h1
      simp only [repl, desc, if_neg hne] at hA ⊢
      have := bit_lt p.1 q.2
      by_cases hb : bit p.1 q.2 = 0
      · simp only [if_pos hb] at hA ⊢
        exact ⟨side 0 hO.2.1 hW.1 hb, hW.2.1, repl_WF hp s hO.2.1 hW.2.2.1 hA, hW.2.2.2⟩
      · simp only [if_neg hb] at hA ⊢
        exact ⟨hW.1, side 1 hO.2.2 hW.2.1 (by omega), hW.2.2.1, repl_WF hp s hO.2.2 hW.2.2.2 hA⟩
theorem repl_ents {B B2 : Nat} {p : Pf} {v : Way} {e : Pf × Way} : ∀ {T : Tr} {s : Addr}, At p (desc s T p).2 → (e ∈ (T.repl p (insX B B2 p v (desc s T p).2)).ents ↔ e = (p, v) ∨ e ∈ T.ents)
  | nil, s, hA => insX_ents hA
  | node b q u h l r, s, hA => by
    by_cases hne : q = p ∨ ¬ cov q p
    · simp only [repl, desc, if_pos hne] at hA ⊢
      exact insX_ents hA
    · simp only [repl, desc, if_neg hne] at hA ⊢
      by_cases hb : bit p.1 q.2 = 0
      · simp only [if_pos hb] at hA ⊢
        simp only [ents, List.mem_append]
        rw [repl_ents hA]
        constructor
        · rintro (h | (h | h) | h) <;> simp [h]
        · rintro (h | h | h | h) <;> simp [h]
      · simp only [if_neg hb] at hA ⊢
        simp only [ents, List.mem_append]
        rw [repl_ents hA]
        constructor
        · rintro (h | h | (h | h)) <;> simp [h]
        · rintro (h | h | h | h) <;> simp [h]
/-! ### the order -/
def lt (a b : Pf) : Prop := a.1 < b.1 ∨ (a.1 = b.1 ∧ a.2 < b.2)
theorem lt_trans {a b c : Pf} (h1 : lt a b) (h2 : lt b c) : lt a c := by unfold lt at *; omega
theorem lt_irrefl {a : Pf} (h : lt a a) : False := by unfold lt at h; omega
theorem cov_lt {q k : Pf} (hq : ok q) (hk : ok k) (h : cov q k) (hne : q ≠ k) : lt q k := by
  have h1 := fst_le k.1 q.2
  rw [h.2] at h1
  have h2 := cov_len hq hk h hne
  unfold lt; omega
theorem side_lt {q a b : Pf} (hq : ok q) (ha : ok a) (hb : ok b) (h1 : cov q a) (h2 : cov q b) (n1 : q ≠ a) (b1 : bit a.1 q.2 = 0) (b2 : bit b.1 q.2 = 1) : lt a b := by
  have hn : q.2 ≤ 31 := by have := cov_len hq ha h1 n1; have := ha.2.1; omega
  have e1 := fst_succ a.1 q.2 hn
  have e2 := fst_succ b.1 q.2 hn
  rw [h1.2, b1] at e1
  rw [h2.2, b2] at e2
  have e3 := fst_add a.1 (q.2 + 1)
  have e4 := fst_le b.1 (q.2 + 1)
  have e5 : a.1 % 2 ^ (32 - (q.2 + 1)) < 2 ^ (32 - (q.2 + 1)) := Nat.mod_lt _ (pow_pos' _)
  rw [show 32 - (q.2 + 1) = 31 - q.2 from by omega] at e3 e5
  unfold lt; omega
theorem ents_sorted : ∀ {T : Tr}, T.Okp → T.WF → T.ents.Pairwise (fun a b => lt a.1 b.1)
  | nil, _, _ => by simp [ents]
  | node b q u h l r, hO, hW => by
    have hl := okp_keys hO.2.1
    have hr := okp_keys hO.2.2
    simp only [ents]
    rw [List.pairwise_append, List.pairwise_append]
    refine ⟨by split <;> simp, ⟨ents_sorted hO.2.1 hW.2.2.1, ents_sorted hO.2.2 hW.2.2.2, fun a ha c hc => ?_⟩, fun a ha c hc => ?_⟩
    · have h1 := hW.1 _ (ents_keys ha)
      have h2 := hW.2.1 _ (ents_keys hc)
      exact side_lt hO.1 (hl _ (ents_keys ha)) (hr _ (ents_keys hc)) h1.1 h2.1 h1.2.1 h1.2.2 h2.2.2
    · have hq : a.1 = q := by split at ha <;> simp at ha; rw [ha]
      rw [hq]
      rcases List.mem_append.1 hc with hc | hc
      · have h1 := hW.1 _ (ents_keys hc)
        exact cov_lt hO.1 (hl _ (ents_keys hc)) h1.1 h1.2.1
      · have h1 := hW.2.1 _ (ents_keys hc)
        exact cov_lt hO.1 (hr _ (ents_keys hc)) h1.1 h1.2.1
/-- two sorted lists with the same members are one -/
theorem sorted_ext : ∀ {a b : List (Pf × Way)}, a.Pairwise (fun x y => lt x.1 y.1) → b.Pairwise (fun x y => lt x.1 y.1) → (∀ e, e ∈ a ↔ e ∈ b) → a = b
  | [], [], _, _, _ => rfl
  | [], y :: b, _, _, h => by have := (h y).2 (by simp); simp at this
  | x :: a, [], _, _, h => by have := (h x).1 (by simp); simp at this
  | x :: a, y :: b, ha, hb, h => by
    rw [List.pairwise_cons] at ha hb
    have e : x = y := by
      have h1 := (h x).1 (by simp)
      have h2 := (h y).2 (by simp)
      rcases List.mem_cons.1 h1 with h1 | h1
      · exact h1
      · rcases List.mem_cons.1 h2 with h2 | h2
        · exact h2.symm
        · exact (lt_irrefl (lt_trans (ha.1 y h2) (hb.1 x h1))).elim
    subst e
    congr 1
    refine sorted_ext ha.2 hb.2 fun e => ?_
    have := h e
    simp only [List.mem_cons] at this
    constructor
    · intro he
      rcases this.1 (.inr he) with rfl | h1
      · exact (lt_irrefl (ha.1 _ he)).elim
      · exact h1
    · intro he
      rcases this.2 (.inr he) with rfl | h1
      · exact (lt_irrefl (hb.1 _ he)).elim
      · exact h1
end Tr
end Go.Proofs.Ytbcekjbckeljmaa
