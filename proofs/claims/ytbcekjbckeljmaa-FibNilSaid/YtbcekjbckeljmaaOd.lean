/- The walks of the trie's All, and of fib's All and Len: an iterator over the entries, in the trie's order. -/
import Derived.Test.YtbcekjbckeljmaaNx
set_option linter.unusedVariables false
set_option linter.unusedSimpArgs false
namespace Go.Proofs.Ytbcekjbckeljmaa
open Go.RowKit Px
set_option maxHeartbeats 1000000
set_option maxRecDepth 10000
attribute [local go_sem high] eql47 neq47 loadRow_way loadRow_arr wayA_back arrA_back
attribute [local go_sem low] loadRowOf_some
attribute [local go_sem ↓] load54 store54 alloc54 load52 store52 alloc52 build180 build185
attribute [local go_sem] rload54 rstore54 rload52 rstore52 ralloc54 ralloc52 rbuild180 rbuild185 rfork180
attribute [local go_sem] size_drewN rowAt_alloc_past rowAt_alloc_at rowAt_drew rowAt_drewN thawed_alloc_past thawed_alloc_at thawed_drew thawed_drewN okCells_way storeRowOf_some putRow_drew putRow_drewN putRow_alloc_past putRow_alloc_at wayA_size wayA_toList cells_way arrA_toList cells_arr
attribute [local go_sem ↓] bslice185
attribute [local go_sem] rbslice185'

/-- a box with the entries that came so far -/
structure Acc (base B : Nat) (l : List (Pf × Way)) (w : World) : Prop where
  ex : ∃ v, w.heap[B]? = some (.cells #[v] 112 (0, 0)) ∧ w.ownsRow base 115 259 v l.length (entsRow l)
theorem row_box {w : World} {base B n : Nat} {v u : Value} {xs : List Value} {t e : TypeId} {k : Nat} (h : w.ownsRow base e k v n xs) (hb : w.heap[B]? = some (.cells #[u] t (0, 0))) (hne : e ≠ t) : v.ownBlock ≠ some B := by
  rcases h.2 with ⟨rfl, _⟩ | ⟨g, cap, cur, rfl, _, hh, _⟩
  · simp [Value.ownBlock]
  · intro e'
    have : g = B := by simpa [Value.ownBlock] using e'
    subst this
    rw [hb] at hh
    injection hh with hh
    injection hh with _ h2 _
    exact hne h2.symm
theorem Acc.keep {base B : Nat} {l : List (Pf × Way)} {w w' : World} (h : Acc base B l w) (hb : Below w.heap.size w w') : Acc base B l w' := by
  obtain ⟨v, h1, h2⟩ := h.ex
  exact ⟨v, (hb.block _ (Array.getElem?_eq_some_iff.1 h1).1).trans h1, row_below h2 hb⟩
theorem allf_has (base B b : Nat) (acc : List (Pf × Way)) (qa qn : Nat) (v : Way) (h : Bool) (lp rp : Value) (w : World) (hA : Acc base B acc w) (hb : w.heap[b]? = some (.cells (Tr.cells (qa, qn) v h lp rp).toArray 110 (0, 0))) (hlb : b < base) (hB : base ≤ B) (hlen : acc.length < 100000 ∨ h = false) :
    Calls Try.prog 57 #[.pointer (some ⟨b, 0, none⟩), .pointer (some ⟨B, 0, none⟩)] w fun e w' => (∃ v, e = .returned v) ∧ Acc base B (acc ++ if h then [((qa, qn), v)] else []) w' ∧ Below base w w' := by
  obtain ⟨i0, hi0, hz0, hz1, hz2⟩ := info_parts infoEnt
  have HINF := Lib.hid (And.intro hi0 (And.intro hz0 (And.intro hz1 hz2)))
  clear hi0 hz0 hz1 hz2
  have d2 := Tr.cell259 hb
  cases h with
  | false =>
    have HA := Lib.hid hA
    clear hA hb
    go_enter Try.func57, Try.ntmps57
    go_wp2
    go_end0
    exact ⟨⟨_, rfl⟩, by simpa using HA.out, Below.refl _ _⟩
  | true =>
    have hlen : acc.length < 100000 := by simpa using hlen
    obtain ⟨v5, hv5, hr5⟩ := hA.ex
    have hBlt := (Array.getElem?_eq_some_iff.1 hv5).1
    have hne := row_box hr5 hv5 (by decide)
    have HN0 := Lib.hid (show ∀ wx, Below w.heap.size w wx → wx.heap[b]? = some (.cells (Tr.cells (qa, qn) v true lp rp).toArray 110 (0, 0)) from fun wx hx => (hx.block b (Array.getElem?_eq_some_iff.1 hb).1).trans hb)
    have HV := Lib.hid (show ∀ wx, Below w.heap.size w wx → wx.heap[B]? = some (.cells #[v5] 112 (0, 0)) from fun wx hx => (hx.block B hBlt).trans hv5)
    have HR := Lib.hid hr5
    have HL := Lib.hid (show ∀ k, v5.ownBlock = some k → base ≤ k ∧ k < w.heap.size from fun k e => hr5.lt k e)
    have H63 : Hid (acc.length + 1 ≤ maxLen ∧ (acc.length + 1) * 2072 ≤ 140737488355328) := Lib.hid ⟨by unfold maxLen; omega, by omega⟩
    have hbs : base ≤ w.heap.size := by omega
    have HNE := Lib.hid hne
    clear hA hb hv5 hr5 hne
    have K4 := Lib.hid (show ∀ w', Below w.heap.size w w' → w'.cell? ⟨B, 0, none⟩ = some v5 ∧ w'.cell? ⟨b, 0, none⟩ = some (.int .u32 qa) ∧ w'.cell? ⟨b, 1, none⟩ = some (.int .i64 qn) ∧ rowAt w' ⟨b, 2, none⟩ 257 = some (wayCells v) from
      fun w' h => ⟨by simp [World.cell?, HV.out _ h], Tr.cell0 (HN0.out _ h), Tr.cell1 (HN0.out _ h), Tr.row2 (HN0.out _ h)⟩)
    have KG := Lib.hid (show ∀ x wy, Below w.heap.size w x → x.grownBy wy v5.ownBlock → wy.cell? ⟨B, 0, none⟩ = some v5 ∧ wy.frozen? ⟨B, 0, none⟩ = false ∧ wy.heap[B]? = some (.cells #[v5] 112 (0, 0)) ∧ Below base w wy from fun x wy hx hg => by
      have h1 : wy.heap[B]? = some (.cells #[v5] 112 (0, 0)) := (hg.block B (Nat.lt_of_lt_of_le hBlt hx.size) (Ne.symm HNE.out)).trans (HV.out x hx)
      exact ⟨by simp [World.cell?, h1], by simp [World.frozen?, h1], h1, (hx.mono hbs).grown hg (Nat.le_trans hbs hx.size) (fun k hk => (HL.out k hk).1)⟩)
    obtain ⟨b0, c0, c1, c2⟩ := K4.out _ (Below.refl _ _)
    go_enter Try.func57, Try.ntmps57
    go_wp2
    go_region_law
      ((refine step_append_lies _ (by rfl) _ _ _ (by rfl) base 115 i0 _ 259 2072 Try.underlying112 HINF.out.1 HINF.out.2.1 HINF.out.2.2.1 HINF.out.2.2.2 (by simp [Value.cells, wayCells_length]) (by omega) v5 acc.length (entsRow acc) (by rfl) (by repeat (first | exact HR.out | refine World.ownsRow.alloc ?_ _ | refine World.ownsRow.drew ?_)) _ 1 1 (entCells ((qa, qn), v)) (by rfl) (by simp [entCells, wayCells_length]) (World.news_of_block (cs := (Value.int .u32 qa :: Value.int .i64 qn :: wayCells v).toArray) (t := 115) (fr := (0, 0)) (by repeat (first | (refine heap_alloc_at _ _ _ ?_; first | (with_reducible rfl) | (simp; done)) | (refine (Below.heap_alloc _ _ _ ?_).trans ?_; (focus (first | omega | (simp; omega) | (simp; done))))))) (entCells_one _) (by omega) H63.out.1 H63.out.2 (by first | (simp; done) | (simp; omega)) _ rfl ?_; intro g5 cap5 wy hown5 hgrow5 hat5 hlt5; obtain ⟨b5, f5, k5⟩ := KG.out _ wy (by repeat (first | exact Below.refl _ _ | refine Below.drew ?_ | refine Below.alloc ?_ (by simp) _)) hgrow5; have K5 := Lib.hid k5; clear k5))
    all_goals
      go_wp2
      go_end0
      have hg5 : g5 ≠ B := fun e => row_box hown5 K5.out.1 (by decide) (by simp [Value.ownBlock, e])
      refine ⟨⟨_, rfl⟩, ⟨_, heap_setCell_same _ _ _ _ _ _ K5.out.1, ?_⟩, K5.out.2.setCell (show base ≤ B from hB) _⟩
      have h := row_same hown5 (heap_setCell_other wy ⟨B, 0, none⟩ g5 (.slice (some ⟨g5, 0, none⟩) (acc.length + 1) cap5) hg5)
      simpa [entsRow_snoc] using h
theorem walk_any (base B : Nat) (hB : base ≤ B) : ∀ (T : Tr) (acc : List (Pf × Way)) (w : World), T.In w → (∀ b ∈ T.blocks, b < base) → Acc base B acc w → (acc ++ T.ents).length ≤ 100000 →
    Calls Try.prog 56 #[T.ptr, .func (.func 57) #[] #[.pointer (some ⟨B, 0, none⟩)]] w fun e w' => (∃ v, e = .returned v) ∧ Acc base B (acc ++ T.ents) w' ∧ Below base w w' := by
  intro T
  induction T with
  | nil =>
    intro acc w hI hlt hA hlen
    have HA := Lib.hid hA
    clear hA
    simp only [Tr.ptr]
    go_enter Try.func56, Try.ntmps56
    go_wp2_with fail
    go_end0
    exact ⟨⟨_, rfl⟩, by simpa [Tr.ents] using HA.out, Below.refl _ _⟩
  | node b q v h l r ihl ihr =>
    intro acc w hI hlt hA hlen
    obtain ⟨qa, qn⟩ := q
    obtain ⟨hb, hIl, hIr⟩ := hI
    have hbl := hlt b (by simp [Tr.blocks])
    have hll : ∀ k ∈ l.blocks, k < base := fun k hk => hlt k (by simp [Tr.blocks, hk])
    have hlr : ∀ k ∈ r.blocks, k < base := fun k hk => hlt k (by simp [Tr.blocks, hk])
    simp only [Tr.ents, List.length_append] at hlen
    have hlh : acc.length < 100000 ∨ h = false := by
      cases h with
      | false => exact .inr rfl
      | true => left; simp at hlen; omega
    have HF := Lib.hid (show Calls Try.prog 57 #[.pointer (some ⟨b, 0, none⟩), .pointer (some ⟨B, 0, none⟩)] w fun e w' => (∃ v, e = .returned v) ∧ Acc base B (acc ++ if h then [((qa, qn), v)] else []) w' ∧ Below base w w' from allf_has base B b acc qa qn v h l.ptr r.ptr w hA hb hbl hB hlh)
    have HL := Lib.hid (show ∀ acc w, l.In w → Acc base B acc w → (acc ++ l.ents).length ≤ 100000 → Calls Try.prog 56 #[l.ptr, .func (.func 57) #[] #[.pointer (some ⟨B, 0, none⟩)]] w fun e w' => (∃ v, e = .returned v) ∧ Acc base B (acc ++ l.ents) w' ∧ Below base w w' from fun acc w h1 h2 h3 => ihl acc w h1 hll h2 h3)
    have HR := Lib.hid (show ∀ acc w, r.In w → Acc base B acc w → (acc ++ r.ents).length ≤ 100000 → Calls Try.prog 56 #[r.ptr, .func (.func 57) #[] #[.pointer (some ⟨B, 0, none⟩)]] w fun e w' => (∃ v, e = .returned v) ∧ Acc base B (acc ++ r.ents) w' ∧ Below base w w' from fun acc w h1 h2 h3 => ihr acc w h1 hlr h2 h3)
    have HN := Lib.hid hb
    have KB := Lib.hid (show ∀ w', Below base w w' → w'.cell? ⟨b, 260, none⟩ = some l.ptr ∧ w'.cell? ⟨b, 261, none⟩ = some r.ptr ∧ l.In w' ∧ r.In w' from fun w' hw => by
      have h1 := (hw.block b hbl).trans hb
      exact ⟨Tr.cell260 h1, Tr.cell261 h1, hIl.same (fun k hk => hw.block k (hll k hk)), hIr.same (fun k hk => hw.block k (hlr k hk))⟩)
    have HLEN := Lib.hid hlen
    have EN : Hid (∀ x : List (Pf × Way), x = acc ++ Tr.ents (.node b (qa, qn) v h l r) ↔ x = ((acc ++ if h then [((qa, qn), v)] else []) ++ l.ents) ++ r.ents) := Lib.hid (fun x => by simp [Tr.ents])
    clear ihl ihr hA hb hIl hIr hlen hlt hll hlr hlh
    generalize (if h = true then [((qa, qn), v)] else []) = hd at *
    generalize hlp : l.ptr = lp at *
    generalize hrp : r.ptr = rp at *
    clear hlp hrp
    simp only [Tr.ptr]
    go_enter Try.func56, Try.ntmps56
    go_wp2_with fail
    refine HF.out.mono ?_
    rintro e w1 ⟨⟨v1, rfl⟩, hA1, hb1⟩
    obtain ⟨k0, k1, k2, k3⟩ := KB.out w1 hb1
    have K2 := Lib.hid k2
    have HA1 := Lib.hid hA1
    clear k2 k3 hA1
    go_wp2_with fail
    refine (HL.out _ w1 K2.out HA1.out (by have := HLEN.out; simp only [List.length_append]; omega)).mono ?_
    rintro e w2 ⟨⟨v2, rfl⟩, hA2, hb2⟩
    have hb12 := hb1.trans hb2
    clear k0 k1
    obtain ⟨k0, k1, k2, k3⟩ := KB.out w2 hb12
    have K3 := Lib.hid k3
    have HA2 := Lib.hid hA2
    clear k2 k3 hA2 hb1 hb2
    go_wp2_with fail
    refine (HR.out _ w2 K3.out HA2.out (by have := HLEN.out; simp only [List.length_append]; omega)).mono ?_
    rintro e w3 ⟨⟨v3, rfl⟩, hA3, hb3⟩
    have HA3 := Lib.hid hA3
    have hb13 := hb12.trans hb3
    clear hA3 k0 k1 hb12 hb3
    go_wp2_with fail
    go_end0
    exact ⟨⟨_, rfl⟩, by rw [(EN.out _).1 rfl]; exact HA3.out, hb13⟩
theorem all_any (T : Tr) (base tb lim n : Nat) (w : World) (hT : Trie w base tb T lim n) (hlen : T.ents.length ≤ 100000) :
    Calls Try.prog 36 #[.pointer (some ⟨tb, 0, none⟩)] w fun e w' => Below w.heap.size w w' ∧ ∃ B v, e = .returned (.func (.func 69) #[] #[.pointer (some ⟨B, 0, none⟩)]) ∧ w.heap.size ≤ B ∧ w'.cell? ⟨B, 0, none⟩ = some v ∧ w'.ownsRow w.heap.size 115 259 v T.ents.length (entsRow T.ents) := by
  have hb0 : Below w.heap.size w (w.alloc (.cells #[.slice none 0 0] 112)) := (Below.refl _ _).alloc (Nat.le_refl _) _
  have hH := (hT.below hb0).hdr
  unfold Hdr at hH
  have h3 : (w.alloc (.cells #[.slice none 0 0] 112)).cell? ⟨tb, 3, none⟩ = some (.bool true) := by simp [World.cell?, hH]
  have h0 : (w.alloc (.cells #[.slice none 0 0] 112)).cell? ⟨tb, 0, none⟩ = some T.ptr := by simp [World.cell?, hH]
  have hA : Acc w.heap.size w.heap.size [] (w.alloc (.cells #[.slice none 0 0] 112)) := ⟨_, heap_alloc_at _ _ _ rfl, World.ownsRow_nil _ _ _ _⟩
  have HW := Lib.hid (walk_any w.heap.size w.heap.size (Nat.le_refl _) T [] _ (hT.below hb0).isin (fun b hb => hT.isin.lt b hb) hA (by simpa using hlen))
  clear hT hH hA
  generalize T.ptr = tp at *
  go_enter Try.func36, Try.ntmps36
  go_wp2_with fail
  refine (there_any tb _ h3).mono ?_
  rintro e w' ⟨rfl, rfl⟩
  go_wp2_with fail
  refine HW.out.mono ?_
  rintro e w1 ⟨⟨v1, rfl⟩, hA1, hb1⟩
  obtain ⟨v5, hv5, hr5⟩ := hA1.ex
  have c5 : w1.cell? ⟨w.heap.size, 0, none⟩ = some v5 := by simp [World.cell?, hv5]
  have HB1 := Lib.hid (hb0.trans hb1)
  have HR := Lib.hid hr5
  obtain ⟨o5, n5, c5', e5⟩ : ∃ o n c, v5 = .slice o n c := by
    rcases hr5.2 with ⟨h, _⟩ | ⟨g, c, _, h, _⟩
    · exact ⟨_, _, _, h⟩
    · exact ⟨_, _, _, h⟩
  subst e5
  clear hA1 hr5 hv5 hb1 h0 h3 hb0
  go_wp2_with fail
  refine (over_any o5 n5 c5' w1).mono ?_
  rintro e w2 ⟨rfl, rfl⟩
  go_wp2
  go_ret
  exact ⟨HB1.out.alloc HB1.out.size _, w1.heap.size, _, rfl, HB1.out.size, World.cell?_alloc_at _ _ _ 0 rfl, by simpa using HR.out.alloc (.cells #[.slice o5 n5 c5'] 112)⟩
theorem fall_any (T : Tr) (base fb tb lim n : Nat) (w : World) (hf : w.cell? ⟨fb, 0, none⟩ = some (.pointer (some ⟨tb, 0, none⟩))) (hT : Trie w base tb T lim n) (hlen : T.ents.length ≤ 100000) :
    Calls Try.prog 16 #[.pointer (some ⟨fb, 0, none⟩)] w fun e w' => Below w.heap.size w w' ∧ ∃ B v, e = .returned (.func (.func 69) #[] #[.pointer (some ⟨B, 0, none⟩)]) ∧ w.heap.size ≤ B ∧ w'.cell? ⟨B, 0, none⟩ = some v ∧ w'.ownsRow w.heap.size 115 259 v T.ents.length (entsRow T.ents) := by
  have HA := Lib.hid (all_any T base tb lim n w hT hlen)
  clear hT
  go_enter Try.func16, Try.ntmps16
  go_wp2_with fail
  refine (fthere_yes fb tb _ hf).mono ?_
  rintro e w' ⟨rfl, rfl⟩
  go_wp2_with fail
  refine HA.out.mono ?_
  rintro e w1 ⟨hb1, B, v, rfl, hB, hv, hr⟩
  have HV := Lib.hid hv
  clear hv
  go_wp2
  go_ret
  exact ⟨hb1, B, v, rfl, hB, HV.out, hr⟩
theorem flen_any (T : Tr) (base fb tb lim n : Nat) (w : World) (hf : w.cell? ⟨fb, 0, none⟩ = some (.pointer (some ⟨tb, 0, none⟩))) (hT : Trie w base tb T lim n) :
    Calls Try.prog 20 #[.pointer (some ⟨fb, 0, none⟩)] w fun e w' => e = .returned (.int .i64 n) ∧ w = w' := by
  have hH := hT.hdr
  unfold Hdr at hH
  have h3 : w.cell? ⟨tb, 3, none⟩ = some (.bool true) := by simp [World.cell?, hH]
  have h2 : w.cell? ⟨tb, 2, none⟩ = some (.int .i64 n) := by simp [World.cell?, hH]
  have HL : Hid (Calls Try.prog 42 #[.pointer (some ⟨tb, 0, none⟩)] w fun e w' => e = .returned (.int .i64 n) ∧ w = w') := Lib.hid (by
    clear hT hf hH
    go_enter Try.func42, Try.ntmps42
    go_wp2_with fail
    refine (there_any tb _ h3).mono ?_
    rintro e w' ⟨rfl, rfl⟩
    go_wp2
    go_ret
    exact ⟨rfl, rfl⟩)
  clear hT hH h3 h2
  go_enter Try.func20, Try.ntmps20
  go_wp2_with fail
  refine (fthere_yes fb tb _ hf).mono ?_
  rintro e w' ⟨rfl, rfl⟩
  go_wp2_with fail
  refine HL.out.mono ?_
  rintro e w' ⟨rfl, rfl⟩
  go_wp2
  go_ret
  exact ⟨rfl, rfl⟩
end Go.Proofs.Ytbcekjbckeljmaa
