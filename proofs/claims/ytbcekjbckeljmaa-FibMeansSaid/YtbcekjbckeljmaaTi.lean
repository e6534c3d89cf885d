/- The walk of the trie's Insert, of a prefix that is not there. -/
import Derived.Test.YtbcekjbckeljmaaTq
set_option linter.unusedVariables false
set_option linter.unusedSimpArgs false
namespace Go.Proofs.Ytbcekjbckeljmaa
open Go.RowKit Px
set_option maxHeartbeats 400000
attribute [local go_sem high] eql47 neq47 loadRow_way loadRow_arr wayA_back arrA_back
attribute [local go_sem low] loadRowOf_some
attribute [local go_sem ↓] load54 store54 alloc54 load52 store52 alloc52 build180 build185
attribute [local go_sem] rload54 rstore54 rload52 rstore52 ralloc54 ralloc52 rbuild180 rbuild185 rfork180
attribute [local go_sem] size_drewN rowAt_alloc_past rowAt_alloc_at rowAt_drew rowAt_drewN thawed_alloc_past thawed_alloc_at thawed_drew thawed_drewN okCells_way storeRowOf_some putRow_drew putRow_drewN putRow_alloc_past putRow_alloc_at wayA_size wayA_toList cells_way arrA_toList cells_arr

theorem there_any (tb : Nat) (w : World) (h : w.cell? ⟨tb, 3, none⟩ = some (.bool true)) :
    Calls Try.prog 53 #[.pointer (some ⟨tb, 0, none⟩)] w fun e w' => e = .returned (.bool true) ∧ w = w' := by
  go_enter Try.func53, Try.ntmps53
  go_wp2
  go_ret
  exact ⟨rfl, rfl⟩
theorem may_ok {p : Pf} (h : ok p) : Px.may p.1 p.2 = true := by
  have := h.2.1
  simp [Px.may, (fst_eq_iff p.1 p.2).1 h.2.2]; omega
/-- what an insertion may turn -/
def Allow (base tb : Nat) (T : Tr) (w : World) (x : Nat) : Prop := base ≤ x ∧ (x = tb ∨ x ∈ T.blocks ∨ w.heap.size ≤ x)
structure Frm (base tb : Nat) (T : Tr) (w w' : World) : Prop where
  b : Below base w w'
  k : ∀ k, k < w.heap.size → k ≠ tb → k ∉ T.blocks → w'.heap[k]? = w.heap[k]?
namespace Frm
variable {base tb : Nat} {T : Tr} {w a : World}
theorem size (h : Frm base tb T w a) : w.heap.size ≤ a.heap.size := h.b.size
theorem of (hbase : base ≤ w.heap.size) (h : Below w.heap.size w a) : Frm base tb T w a := ⟨h.mono hbase, fun k hk _ _ => h.block k hk⟩
theorem step {c : World} (h : Frm base tb T w a) (hbase : base ≤ w.heap.size) (hb : Below a.heap.size a c) : Frm base tb T w c :=
  ⟨h.b.trans (hb.mono (Nat.le_trans hbase h.b.size)), fun k hk h1 h2 => (hb.block k (Nat.lt_of_lt_of_le hk h.b.size)).trans (h.k k hk h1 h2)⟩
theorem drewN (h : Frm base tb T w a) (n : Nat) : Frm base tb T w (a.drewN n) := ⟨h.b.drewN n, h.k⟩
theorem drew (h : Frm base tb T w a) : Frm base tb T w a.drew := ⟨h.b.drew, h.k⟩
theorem setCell (h : Frm base tb T w a) {x : Addr} (hx : Allow base tb T w x.block) (v : Value) : Frm base tb T w (a.setCell x v) :=
  ⟨h.b.setCell hx.1 v, fun k hk h1 h2 => (heap_setCell_other _ _ _ _ (fun e => by rcases hx.2 with h3 | h3 | h3; (· exact h1 (e.trans h3)); (· exact h2 (e ▸ h3)); (· omega))).trans (h.k k hk h1 h2)⟩
theorem putRow (h : Frm base tb T w a) {x : Addr} (hx : Allow base tb T w x.block) (cs : List Value) : Frm base tb T w (Go.Proofs.Ytbcekjbckeljmaa.putRow a x cs) :=
  ⟨below_putRow h.b hx.1 cs, fun k hk h1 h2 => (heap_putRow_far _ _ _ (fun e => by rcases hx.2 with h3 | h3 | h3; (· exact h1 (e.trans h3)); (· exact h2 (e ▸ h3)); (· omega))).trans (h.k k hk h1 h2)⟩
end Frm
theorem Trie.allow {w : World} {base tb lim n : Nat} {T : Tr} (hT : Trie w base tb T lim n) {p : Pf} {A : Addr} {S : Tr} (hd : T.desc ⟨tb, 0, none⟩ p = (A, S)) : Allow base tb T w A.block := by
  rcases Tr.desc_block (p := p) .nil (T := T) (s := ⟨tb, 0, none⟩) with h | h
  · rw [hd] at h
    have e : A = ⟨tb, 0, none⟩ := h.1
    rw [e]
    exact ⟨hT.from_ _ (by simp), .inl rfl⟩
  · rw [hd] at h
    exact ⟨hT.from_ _ (by simp [h.1]), .inr (.inl h.1)⟩
/-- the two boxes -/
def BoxF (h : Nat) (p : Pf) (v : Way) (w' : World) : Prop :=
  w'.cell? ⟨h, 0, none⟩ = some (.int .u32 p.1) ∧ w'.cell? ⟨h, 1, none⟩ = some (.int .i64 p.2) ∧ rowAt w' ⟨h + 1, 0, none⟩ 257 = some (wayCells v) ∧ h + 1 < w'.heap.size
theorem BoxF.below {h : Nat} {p : Pf} {v : Way} {w w' : World} (H : BoxF h p v w) (hb : Below w.heap.size w w') : BoxF h p v w' := by
  obtain ⟨a1, a2, a3, a4⟩ := H
  exact ⟨pw_cell hb a1, pw_cell hb a2, (rowAt_below hb _ a4).trans a3, Nat.lt_of_lt_of_le a4 hb.size⟩
theorem BoxF.setCell {h : Nat} {p : Pf} {v : Way} {w : World} (H : BoxF h p v w) {a : Addr} {u : Value} (h1 : h ≠ a.block) (h2 : h + 1 ≠ a.block) : BoxF h p v (w.setCell a u) := by
  obtain ⟨a1, a2, a3, a4⟩ := H
  refine ⟨?_, ?_, ?_, by simpa using a4⟩
  · rw [World.cell?_of_block (w := w) (heap_setCell_other w a h u h1)]; exact a1
  · rw [World.cell?_of_block (w := w) (heap_setCell_other w a h u h1)]; exact a2
  · rw [rowAt_setCell_far _ _ _ _ _ h2]; exact a3
theorem boxF_new (p : Pf) (v : Way) (w : World) : BoxF w.heap.size p v ((w.alloc (.cells #[.int .u32 p.1, .int .i64 p.2] 25)).alloc (.cells (wayA v) 33)) := by
  refine ⟨?_, ?_, ?_, by simp⟩
  · rw [World.cell?_alloc_past _ _ _ (by simp)]; exact World.cell?_alloc_at _ _ _ _ rfl
  · rw [World.cell?_alloc_past _ _ _ (by simp)]; exact World.cell?_alloc_at _ _ _ _ rfl
  · exact rowAt_alloc_at _ _ _ _ (by simp) (wayA_size v).symm
theorem below_boxes (p : Pf) (v : Way) (w : World) : Below w.heap.size w ((w.alloc (.cells #[.int .u32 p.1, .int .i64 p.2] 25)).alloc (.cells (wayA v) 33)) :=
  ((Below.refl _ w).alloc (Nat.le_refl _) _).alloc (by simp) _
/-- what the walk asks of a trie -/
theorem Trie.cells {w : World} {base tb lim n : Nat} {T : Tr} (hT : Trie w base tb T lim n) {p : Pf} {sb so : Nat} {S : Tr} (hd : T.desc ⟨tb, 0, none⟩ p = (⟨sb, so, none⟩, S)) :
    w.cell? ⟨tb, 0, none⟩ = some T.ptr ∧ w.cell? ⟨tb, 1, none⟩ = some (.int .i64 lim) ∧ w.cell? ⟨tb, 2, none⟩ = some (.int .i64 n) ∧ w.cell? ⟨tb, 3, none⟩ = some (.bool true) ∧ w.frozen? ⟨tb, 2, none⟩ = false ∧
    w.cell? ⟨sb, so, none⟩ = some S.ptr ∧ w.frozen? ⟨sb, so, none⟩ = false ∧ tb < w.heap.size ∧ sb < w.heap.size := by
  have hH := hT.hdr
  unfold Hdr at hH
  have c0 : w.cell? ⟨tb, 0, none⟩ = some T.ptr := by simp [World.cell?, hH]
  have hlt : tb < w.heap.size := World.block_lt_of_cell? w _ c0
  obtain ⟨s0, s1, s2⟩ := Tr.desc_cell (p := p) hT.isin hT.okp c0
  rw [hd] at s0
  have hsl : sb < w.heap.size := World.block_lt_of_cell? w _ s0
  refine ⟨c0, by simp [World.cell?, hH], by simp [World.cell?, hH], by simp [World.cell?, hH], by simp [World.frozen?, hH], s0, ?_, hlt, hsl⟩
  rcases Tr.desc_block (p := p) .nil (T := T) (s := ⟨tb, 0, none⟩) with h | h
  · rw [hd] at h
    obtain ⟨e, _⟩ := h
    injection e with e1 e2
    subst e1
    simp [World.frozen?, hH]
  · rw [hd] at h
    have key : ∀ {T : Tr}, T.In w → ∀ b ∈ T.blocks, ∀ j, w.frozen? ⟨b, j, none⟩ = false := by
      intro T
      induction T with
      | nil => intro _ b hb; simp [Tr.blocks] at hb
      | node b' q u has l r ihl ihr =>
        intro hI b hb j
        simp only [Tr.blocks, List.mem_cons, List.mem_append] at hb
        rcases hb with rfl | hb | hb
        · exact Tr.froz hI.1 j
        · exact ihl hI.2.1 b hb j
        · exact ihr hI.2.2 b hb j
    exact key hT.isin sb h.1 so
theorem Trie.count {w : World} {base tb lim n : Nat} {T : Tr} (hT : Trie w base tb T lim n) (m : Nat) : Trie (w.setCell ⟨tb, 2, none⟩ (.int .i64 m)) base tb T lim m := by
  refine ⟨?_, ?_, hT.okp, hT.nodup, hT.apart, hT.from_⟩
  · have h := hT.hdr
    unfold Hdr at h ⊢
    rw [heap_setCell_same _ _ _ _ _ _ h]; rfl
  · exact hT.isin.same fun b hb => heap_setCell_other _ _ _ _ (fun e => hT.apart (by simp only at e; rw [← e]; exact hb))
theorem wp_gen {P : Program} {c : Code} {Q : Exit → Act → World → Prop} {a : Act} {w : World} (F : World → Prop) (h0 : F w) (h : ∀ w', F w' → Code.wp P c Q a w') : Code.wp P c Q a w := h w h0
set_option maxRecDepth 100000 in
theorem insert_nil (T : Tr) (p : Pf) (v : Way) (base tb lim n : Nat) (w : World) (hT : Trie w base tb T lim n) (hp : ok p) (hlim : n < lim) (hl : lim ≤ 1000000) (sb so : Nat) (hd : T.desc ⟨tb, 0, none⟩ p = (⟨sb, so, none⟩, .nil)) (hbase : base ≤ w.heap.size) :
    Calls Try.prog 32 #[.pointer (some ⟨tb, 0, none⟩), .agg #[.int .u32 p.1, .int .i64 p.2], .agg (wayA v)] w fun e w' => e = .returned (.int .i64 0) ∧ Frm base tb T w w' ∧ ∃ B, w.heap.size ≤ B ∧ Trie w' base tb (T.repl p (.node B p v true .nil .nil)) lim (n + 1) := by
  have hn : n < 1000000 := by omega
  have HT := Lib.hid hT; have HP := Lib.hid hp; have HM := Lib.hid (may_ok hp); have HD := Lib.hid hd
  clear hT hp hd
  have HT0 := Lib.hid (HT.out.below (below_boxes p v w)); have HF0 := Lib.hid (boxF_new p v w)
  go_enter Try.func32, Try.ntmps32
  go_wp2_with fail
  refine (there_any tb _ (HT0.out.cells HD.out).2.2.2.1).mono ?_
  rintro e w' ⟨rfl, rfl⟩
  go_wp2_with fail
  refine (may_any p.1 p.2 _ HP.out.1).mono ?_
  rw [HM.out]
  rintro e w1 ⟨rfl, hb1⟩
  have HF1 := Lib.hid (HF0.out.below hb1); have HT1 := Lib.hid (HT0.out.below hb1)
  have HB1 := Lib.hid ((below_boxes p v w).trans (hb1.mono (by simp; omega)))
  clear hb1
  obtain ⟨p0, p1, v0, hh⟩ := HF1.out
  go_wp2_with fail
  refine (place_any T p tb _ HT1.out.isin HT1.out.okp HP.out (HT1.out.cells HD.out).1).mono ?_
  rw [HD.out]
  rintro e w2 ⟨rfl, hb2⟩
  clear p0 p1 v0 hh
  have HF2 := Lib.hid (HF1.out.below hb2); have HT2 := Lib.hid (HT1.out.below hb2)
  have HB2 := Lib.hid (HB1.out.trans (hb2.mono HB1.out.size))
  clear hb2
  obtain ⟨p0, p1, v0, hh⟩ := HF2.out
  obtain ⟨c0, c1, c2, c3, fn, s0, fs, htb, hsb⟩ := HT2.out.cells HD.out
  simp only [Tr.ptr] at s0
  clear c0 c3
  go_wp2
  go_quiet (fail)
  go_wp2
  have hgt : ¬ ((lim : Int) ≤ n) := by omega
  go_quiet (fail)
  go_wp2
  clear hgt
  refine wp_gen (fun w' => BoxF w.heap.size p v w' ∧ Trie w' base tb T lim (n + 1) ∧ Frm base tb T w w') ?_ ?_
  · have hbt : Allow base tb T w tb := ⟨HT.out.from_ tb (by simp), .inl rfl⟩
    have hlt := (HT.out.cells HD.out).2.2.2.2.2.2.2.1
    refine ⟨BoxF.setCell (HF2.out.below ((Below.refl _ _).drewN _)) (by show _ ≠ tb; omega) (by show _ ≠ tb; omega), ?_, ((Frm.of hbase HB2.out).drewN _).setCell hbt _⟩
    exact (HT2.out.below ((Below.refl _ _).drewN _)).count (n + 1)
  rintro w3 ⟨hF3, hT3, hB3⟩
  clear p0 p1 v0 hh c1 c2 fn s0 fs htb hsb
  have HF3 := Lib.hid hF3; have HT3 := Lib.hid hT3; have HB3 := Lib.hid hB3
  clear hF3 hT3 hB3
  obtain ⟨p0, p1, v0, hh⟩ := HF3.out
  obtain ⟨c0, c1, c2, c3, fn, s0, fs, htb, hsb⟩ := HT3.out.cells HD.out
  simp only [Tr.ptr] at s0
  clear c0 c1 c2 c3 fn
  go_quiet (fail)
  go_upto_region 17 with fail
  refine wp_gen (fun w' => Trie w' base tb T lim (n + 1) ∧ Frm base tb T w w' ∧ w3.heap.size < w'.heap.size ∧ w'.heap[w3.heap.size]? = some (.cells (Tr.cells p v true (.pointer none) (.pointer none)).toArray 110 (0, 0))) ?_ ?_
  · have hb : Below w3.heap.size w3 ((w3.drewN nq).alloc (.cells (Tr.cells p v true (.pointer none) (.pointer none)).toArray 110)) := ((Below.refl _ _).drewN _).alloc (Nat.le_refl _) _
    exact ⟨HT3.out.below hb, HB3.out.step hbase hb, by simp, heap_alloc_new (w3.drewN nq) _⟩
  rintro w4 ⟨hT4, hB4, hsz, hblk⟩
  clear p0 p1 v0 hh s0 fs htb hsb
  have HT4 := Lib.hid hT4; have HB4 := Lib.hid hB4; have HK := Lib.hid hblk
  clear hT4 hB4 hblk
  obtain ⟨c0, c1, c2, c3, fn, s0, fs, htb, hsb⟩ := HT4.out.cells HD.out
  simp only [Tr.ptr] at s0
  clear c0 c1 c2 c3 fn
  go_wp2
  go_ret
  have hBn : sb ≠ w3.heap.size := by have := (HT3.out.cells HD.out).2.2.2.2.2.2.2.2; omega
  have hbs : Allow base tb T w sb := HT.out.allow HD.out
  refine ⟨rfl, HB4.out.setCell hbs _, w3.heap.size, HB3.out.size, ?_⟩
  have hX : (Tr.node w3.heap.size p v true .nil .nil).In (w4.setCell ⟨sb, so, none⟩ (Tr.node w3.heap.size p v true .nil .nil).ptr) :=
    ⟨(heap_setCell_other _ _ _ _ (Ne.symm hBn)).trans HK.out, trivial, trivial⟩
  refine HT4.out.put HD.out hX ⟨HP.out, trivial, trivial⟩ (by simp [Tr.blocks]) (fun k hk => ?_)
  simp only [Tr.blocks, List.append_nil, List.mem_singleton] at hk
  subst hk
  refine ⟨Nat.le_trans hbase HB3.out.size, ?_, fun h => absurd (HT3.out.isin.lt _ h) (by omega)⟩
  have := (HT3.out.cells HD.out).2.2.2.2.2.2.2.1
  omega
end Go.Proofs.Ytbcekjbckeljmaa
