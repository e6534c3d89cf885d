/- The laws' arguments, opened: a route, a slice of routes. -/
import Derived.Test.YtbcekjbckeljmaaNy
import Derived.Deep.Slices
import Derived.Deep.Fields
import Derived.ChangeSame
import Derived.ProofKit
import Derived.Carry
set_option linter.unusedVariables false
set_option linter.unusedSimpArgs false
namespace Go.Proofs.Ytbcekjbckeljmaa
open Go.RowKit Go.ChangeShapes Go.WideShapes Go.Deep Go.ChangeAt

section
variable {H : Type} {enc : TypeId × Value → H} {w : World} {base : Nat} {spare : Nat → Bool} {held : Bool} {n : Nat} {cs : List Value} {x : DataW H × List MemPlace}
theorem two_of {cs : List Value} {u v : Value} (hl : cs.length = 2) (h0 : (cs.drop 0).take 1 = [u]) (h1 : (cs.drop 1).take 1 = [v]) : cs = [u, v] := by
  match cs, hl with
  | [a, b], _ => simp at h0 h1; rw [h0, h1]
theorem get_some {α : Type} {l : List α} {i : Nat} (h : i < l.length) : l[i]? = some l[i] := List.getElem?_eq_getElem h
theorem open_next (h : DataW.trod enc Try.prog w base spare held n 65 cs = some x) : ∃ p d : Int, cs = [.int .i64 p, .int .i64 d] := by
  obtain ⟨ys, m, -, -, hl, hy, hf⟩ := DataW.trod_struct Try.underlying65 h
  have h0 : DataW.trod enc Try.prog w base spare held m 3 ((cs.drop 0).take (Try.prog.cellsOf 3)) = ys[0]? := hf 0 _ rfl
  have h1 : DataW.trod enc Try.prog w base spare held m 3 ((cs.drop 1).take (Try.prog.cellsOf 3)) = ys[1]? := hf 1 _ rfl
  have hy2 : ys.length = 2 := hy
  rw [get_some (by omega)] at h0 h1
  have c3 : Try.prog.cellsOf 3 = 1 := cells3
  simp only [c3] at h0 h1
  obtain ⟨p, e0, -⟩ := DataW.trod_int Try.underlying3 h0
  obtain ⟨d, e1, -⟩ := DataW.trod_int Try.underlying3 h1
  exact ⟨p, d, two_of (hl.trans (by kernel_rfl)) e0 e1⟩
theorem open_pfx (h : DataW.trod enc Try.prog w base spare held n 25 cs = some x) : ∃ (a : Nat) (m : Int), cs = [.int .u32 a, .int .i64 m] ∧ a < 4294967296 := by
  obtain ⟨ys, m, -, -, hl, hy, hf⟩ := DataW.trod_struct Try.underlying25 h
  have h0 : DataW.trod enc Try.prog w base spare held m 23 ((cs.drop 0).take (Try.prog.cellsOf 23)) = ys[0]? := hf 0 _ rfl
  have h1 : DataW.trod enc Try.prog w base spare held m 3 ((cs.drop 1).take (Try.prog.cellsOf 3)) = ys[1]? := hf 1 _ rfl
  have hy2 : ys.length = 2 := hy
  rw [get_some (by omega)] at h0 h1
  have c3 : Try.prog.cellsOf 3 = 1 := cells3
  have c23 : Try.prog.cellsOf 23 = 1 := by kernel_rfl
  simp only [c3] at h1
  simp only [c23] at h0
  obtain ⟨p, e0, -, hw⟩ := DataW.trod_int Try.underlying23 h0
  obtain ⟨d, e1, -⟩ := DataW.trod_int Try.underlying3 h1
  simp [Lit.wf, IntKind.min, IntKind.max, IntKind.signed, IntKind.bits] at hw
  obtain ⟨a, rfl⟩ := Int.eq_ofNat_of_zero_le hw.1
  exact ⟨a, d, two_of (hl.trans (by kernel_rfl)) e0 e1, by omega⟩
theorem cell?_spot {w : World} {a : Addr} {v : Value} (h : w.cell? a = some v) : a.spot = none := by
  unfold World.cell? at h
  split at h
  · split at h
    · cases h
    · rename_i hs; simpa using hs
  · cases h
theorem add_next {w : World} {a : Addr} {v : Value} (k j : Nat) (h : w.cell? (a.add k) = some v) : (a.add k).add j = ⟨(a.add k).block, (a.add k).off + j, none⟩ := by
  have hs := cell?_spot h
  generalize a.add k = b at *
  obtain ⟨b, o, s⟩ := b
  simp only at hs
  subst hs
  unfold Addr.add
  split <;> simp_all
theorem open_nexts (h : DataW.trod enc Try.prog w base spare held n 26 cs = some x) : ∃ (o : Option Addr) (l : List (Int × Int)) (cap : Nat), cs = [.slice o l.length cap] ∧ PairS w o l := by
  rcases open_slice Try.underlying26 h with ⟨rfl, -⟩ | ⟨a, len, cap, m, n', D, Pl, rfl, hb, hl, hm, hmm, hx, hi⟩
  · exact ⟨none, [], 0, rfl, fun i hi => by simp at hi⟩
  · have hle : len ≤ m := by rw [hmm]; split <;> omega
    have hc2 : Try.prog.cellsOf 65 = 2 := by kernel_rfl
    have key : ∀ i, i < len → ∃ p d : Int, w.cell? (a.add (i * 2)) = some (.int .i64 p) ∧ w.cell? ((a.add (i * 2)).add 1) = some (.int .i64 d) := by
      intro i hil
      obtain ⟨cs', h1, h2⟩ := hi i (by omega)
      rw [hc2] at h1
      obtain ⟨-, h3, h4⟩ := World.cells?_some h1
      obtain ⟨p, d, rfl⟩ := open_next h2
      exact ⟨p, d, h4 0 (by omega), h4 1 (by omega)⟩
    have key2 : ∀ k, k ≤ len → ∃ l : List (Int × Int), l.length = k ∧ ∀ i, (h : i < l.length) → w.cell? (a.add (i * 2)) = some (.int .i64 l[i].1) ∧ w.cell? ((a.add (i * 2)).add 1) = some (.int .i64 l[i].2) := by
      intro k
      induction k with
      | zero => exact fun _ => ⟨[], rfl, fun i hi => by simp at hi⟩
      | succ k ih =>
        intro hk
        obtain ⟨l, hl1, hl2⟩ := ih (by omega)
        obtain ⟨p, d, hp, hd⟩ := key k (by omega)
        refine ⟨l ++ [(p, d)], by simp [hl1], fun i hi => ?_⟩
        by_cases hik : i < l.length
        · rw [List.getElem_append_left hik]; exact hl2 i hik
        · have : i = l.length := by simp at hi; omega
          subst this
          rw [List.getElem_append_right (Nat.le_refl _)]
          simp only [Nat.sub_self, List.getElem_cons_zero, hl1]
          exact ⟨hp, hd⟩
    obtain ⟨l, hl1, hl2⟩ := key2 len (Nat.le_refl _)
    refine ⟨some a, l, cap, by rw [hl1], fun i hi => ?_⟩
    obtain ⟨h1, h2⟩ := hl2 i hi
    rw [add_next _ _ h1] at h2
    exact ⟨a, rfl, h1, h2, by have := World.block_lt_of_cell? w _ h1; rwa [add_block] at this⟩
/-- what is known of a route that came in -/
structure Rt.Raw (r : Rt) (w : World) : Prop where
  a : r.a < 4294967296
  s : PairS w r.o r.l
theorem cat6 {cs : List Value} {a b c d e f : Value} (hl : cs.length = 6) (h0 : (cs.drop 0).take 2 = [a, b]) (h2 : (cs.drop 2).take 1 = [c]) (h3 : (cs.drop 3).take 1 = [d]) (h4 : (cs.drop 4).take 1 = [e]) (h5 : (cs.drop 5).take 1 = [f]) : cs = [a, b, c, d, e, f] := by
  match cs, hl with
  | [_, _, _, _, _, _], _ => simp at h0 h2 h3 h4 h5; simp [h0, h2, h3, h4, h5]
theorem open_route (h : DataW.trod enc Try.prog w base spare held n 28 cs = some x) : ∃ r : Rt, cs = r.cells.toList ∧ r.Raw w := by
  obtain ⟨ys, m, -, -, hl, hy, hf⟩ := DataW.trod_struct Try.underlying28 h
  have h0 : DataW.trod enc Try.prog w base spare held m 25 ((cs.drop 0).take (Try.prog.cellsOf 25)) = ys[0]? := hf 0 _ rfl
  have h1 : DataW.trod enc Try.prog w base spare held m 4 ((cs.drop 2).take (Try.prog.cellsOf 4)) = ys[1]? := hf 1 _ rfl
  have h2 : DataW.trod enc Try.prog w base spare held m 4 ((cs.drop 3).take (Try.prog.cellsOf 4)) = ys[2]? := hf 2 _ rfl
  have h3 : DataW.trod enc Try.prog w base spare held m 3 ((cs.drop 4).take (Try.prog.cellsOf 3)) = ys[3]? := hf 3 _ rfl
  have h4 : DataW.trod enc Try.prog w base spare held m 26 ((cs.drop 5).take (Try.prog.cellsOf 26)) = ys[4]? := hf 4 _ rfl
  have hy2 : ys.length = 5 := hy
  rw [get_some (by omega)] at h0 h1 h2 h3 h4
  have c3 : Try.prog.cellsOf 3 = 1 := cells3
  have c4 : Try.prog.cellsOf 4 = 1 := by kernel_rfl
  have c25 : Try.prog.cellsOf 25 = 2 := by kernel_rfl
  have c26 : Try.prog.cellsOf 26 = 1 := by kernel_rfl
  simp only [c25] at h0
  simp only [c4] at h1 h2
  simp only [c3] at h3
  simp only [c26] at h4
  obtain ⟨a, m, e0, ha⟩ := open_pfx h0
  obtain ⟨own, e1, -⟩ := DataW.trod_bool Try.underlying4 h1
  obtain ⟨taken, e2, -⟩ := DataW.trod_bool Try.underlying4 h2
  obtain ⟨d, e3, -⟩ := DataW.trod_int Try.underlying3 h3
  obtain ⟨o, l, cap, e4, hS⟩ := open_nexts h4
  exact ⟨⟨a, m, own, taken, d, l, o, cap⟩, cat6 (hl.trans (by kernel_rfl)) e0 e1 e2 e3 e4, ⟨ha, hS⟩⟩
end
end Go.Proofs.Ytbcekjbckeljmaa
