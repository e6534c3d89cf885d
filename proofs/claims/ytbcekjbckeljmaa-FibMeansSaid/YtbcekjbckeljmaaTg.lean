/- The trie's Insert in one contract; the walk of Get. -/
import Derived.Test.YtbcekjbckeljmaaTw
set_option linter.unusedVariables false
set_option linter.unusedSimpArgs false
namespace Go.Proofs.Ytbcekjbckeljmaa
open Go.RowKit Px
set_option maxHeartbeats 1000000
attribute [local go_sem high] eql47 neq47 loadRow_way loadRow_arr wayA_back arrA_back
attribute [local go_sem low] loadRowOf_some
attribute [local go_sem ↓] load54 store54 alloc54 load52 store52 alloc52 build180 build185
attribute [local go_sem] rload54 rstore54 rload52 rstore52 ralloc54 ralloc52 rbuild180 rbuild185 rfork180
attribute [local go_sem] size_drewN rowAt_alloc_past rowAt_alloc_at rowAt_drew rowAt_drewN thawed_alloc_past thawed_alloc_at thawed_drew thawed_drewN okCells_way storeRowOf_some putRow_drew putRow_drewN putRow_alloc_past putRow_alloc_at wayA_size wayA_toList cells_way arrA_toList cells_arr

theorem insert_any (T : Tr) (p : Pf) (v : Way) (base tb lim n : Nat) (w : World) (hT : Trie w base tb T lim n) (hW : T.WF) (hp : ok p) (hlim : n < lim) (hl : lim ≤ 1000000) (hnew : ∀ u, (p, u) ∉ T.ents) (hbase : base ≤ w.heap.size) :
    Calls Try.prog 32 #[.pointer (some ⟨tb, 0, none⟩), .agg #[.int .u32 p.1, .int .i64 p.2], .agg (wayA v)] w fun e w' => e = .returned (.int .i64 0) ∧ Frm base tb T w w' ∧ ∃ T', Trie w' base tb T' lim (n + 1) ∧ T'.WF ∧ ∀ e, e ∈ T'.ents ↔ e = (p, v) ∨ e ∈ T.ents := by
  have hA := Tr.desc_At (T := T) (s := ⟨tb, 0, none⟩) hnew
  have fin : ∀ B B2, (T.repl p (Tr.insX B B2 p v (T.desc ⟨tb, 0, none⟩ p).2)).WF ∧ ∀ e, e ∈ (T.repl p (Tr.insX B B2 p v (T.desc ⟨tb, 0, none⟩ p).2)).ents ↔ e = (p, v) ∨ e ∈ T.ents :=
    fun B B2 => ⟨Tr.repl_WF hp ⟨tb, 0, none⟩ hT.okp hW hA, fun e => Tr.repl_ents hA⟩
  have hs : (T.desc ⟨tb, 0, none⟩ p).1.spot = none := by
    have key : ∀ {T : Tr} {s : Addr}, s.spot = none → (T.desc s p).1.spot = none := by
      intro T
      induction T with
      | nil => intro s h; exact h
      | node b q u h l r ihl ihr =>
        intro s h1
        simp only [Tr.desc]
        split
        · exact h1
        · split
          · exact ihl rfl
          · exact ihr rfl
    exact key rfl
  have hO := Tr.desc_Okp (p := p) (s := ⟨tb, 0, none⟩) hT.okp
  rcases hd : T.desc ⟨tb, 0, none⟩ p with ⟨⟨sb, so, sp⟩, S⟩
  rw [hd] at hA fin hs hO
  simp only at hs
  subst hs
  cases S with
  | nil => exact (insert_nil T p v base tb lim n w hT hp hlim hl sb so hd hbase).mono fun e w' ⟨h1, h2, B, h3, h4⟩ => ⟨h1, h2, _, h4, fin B B⟩
  | node b q u h l r =>
    rcases hA with ⟨e, rfl⟩ | ⟨e, hc⟩
    · refine (insert_fork T p v base tb lim n w hT hp hlim hl sb so b q u l r hd e hbase).mono fun e' w' ⟨h1, h2, h4⟩ => ⟨h1, h2, _, h4, ?_⟩
      have := fin 0 0
      simp only [Tr.insX, if_pos e] at this
      exact this
    · by_cases hcp : com q p = p
      · refine (insert_above T p v base tb lim n w hT hp hlim hl sb so b q u h l r hd e hcp hbase).mono fun e' w' ⟨h1, h2, B, h3, h4⟩ => ⟨h1, h2, _, h4, ?_⟩
        have := fin B B
        simp only [Tr.insX, if_neg e, if_pos hcp] at this
        exact this
      · refine (insert_beside T p v base tb lim n w hT hp hlim hl sb so b q u h l r hd e hcp (fun h => hc ((com_eq_iff hO.1 hp).1 h)) hbase).mono fun e' w' ⟨h1, h2, B, B2, h3, h5, h4⟩ => ⟨h1, h2, _, h4, ?_⟩
        have := fin B B2
        simp only [Tr.insX, if_neg e, if_neg hcp] at this
        exact this
theorem wayRet {a b : Way} {x y : Bool} (h : a = b) (h2 : x = y) : Ending.returned (.tuple #[.agg (wayA a), .bool x]) = .returned (.tuple #[.agg (wayA b), .bool y]) := by rw [h, h2]
/-- Get, of a prefix that may not be -/
theorem get_bad (a : Nat) (m : Int) (tb : Nat) (w : World) (ha : a < 4294967296) (hm : Px.may a m = false) (h3 : w.cell? ⟨tb, 3, none⟩ = some (.bool true)) :
    Calls Try.prog 31 #[.pointer (some ⟨tb, 0, none⟩), .agg #[.int .u32 a, .int .i64 m]] w fun e w' => e = .returned (.tuple #[.agg (wayA zWay), .bool false]) ∧ Below w.heap.size w w' := by
  have hlt : tb < w.heap.size := World.block_lt_of_cell? w _ h3
  have HM := Lib.hid hm
  clear hm
  go_enter Try.func31, Try.ntmps31
  go_wp2_with fail
  refine (there_any tb _ ?_).mono ?_
  · rw [World.cell?_alloc_past _ _ _ (by simp; omega), World.cell?_alloc_past _ _ _ hlt]; exact h3
  rintro e w' ⟨rfl, rfl⟩
  go_wp2_with fail
  refine (may_any a m _ ha).mono ?_
  rw [HM.out]
  rintro e w1 ⟨rfl, hb1⟩
  have hrow : rowAt w1 ⟨w.heap.size + 1, 0, none⟩ 257 = some (wayCells zWay) := by
    rw [rowAt_below hb1 _ (by simp)]; exact rowAt_alloc_at _ _ _ _ (by simp) (wayA_size zWay).symm
  have hth : thawed w1 (w.heap.size + 1) = true := by
    rw [thawed_below hb1 (by simp)]; exact thawed_alloc_at _ _ _ (by simp)
  have HB := Lib.hid hb1
  clear hb1
  have hr2 := rowAt_putRow_same _ _ _ _ (wayCells zWay) hrow (wayCells_length _)
  have HR2 := Lib.hid hr2
  clear hr2
  go_wp2
  have hr2 := HR2.out
  refine bodyPost_ret (v := .tuple #[.agg (wayA zWay), .bool false]) (results_row_tmp Try.results31 _ _ _ rfl (by rw [loadVar_row Try.underlying33 rfl isz54, hr2]; rfl)) rfl ⟨rfl, ?_⟩
  exact below_putRow (((Below.refl _ w).alloc (Nat.le_refl _) _ |>.alloc (by simp) _).trans (HB.out.mono (by simp; omega))) (by show w.heap.size ≤ w.heap.size + 1; omega) _
end Go.Proofs.Ytbcekjbckeljmaa
