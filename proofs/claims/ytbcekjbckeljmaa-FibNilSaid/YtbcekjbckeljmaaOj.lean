/- FibNil: a closed sentence: a table that is not there; more routes than may be. -/
import Derived.Test.YtbcekjbckeljmaaOi
import Derived.Laws.MakeOwn
set_option linter.unusedVariables false
set_option linter.unusedSimpArgs false
namespace Go.Proofs.Ytbcekjbckeljmaa
open Go.RowKit Px
set_option maxHeartbeats 1000000
set_option maxRecDepth 10000

/-- the law's routes when k are laid -/
def nr (k i : Nat) : Rt := ⟨if i < k then i * 256 else 0, if i < k then 24 else 0, false, false, 0, [], none, 0⟩
def zRt : Array Value := #[.int .u32 0, .int .i64 0, .bool false, .bool false, .int .i64 0, .slice none 0 0]
theorem infoRt : (Try.prog.info? 28).map (fun i => (i.zero, i.size, i.bytes)) = some (some (.agg zRt), 6, 56) := by kernel_rfl
theorem mk1025 (w : World) : (Instr.makeSlice 40 (.int .i64 1025) (.int .i64 1025)).run Try.prog w = .ok (.slice (some ⟨w.heap.size, 0, none⟩) 1025 1025) (w.alloc (.cells (madeCells zRt (1025 * 6)) 28)) := by
  obtain ⟨i0, hi0, hz0, hz1, hz2⟩ := info_parts infoRt
  have h := run_make (P := Try.prog) w 40 28 i0 (.agg zRt) Try.underlying40 hi0 hz0 .i64 .i64 1025 1025 (by omega) (by omega) (by rw [hz2]; omega) (by omega)
  rw [hz1] at h
  exact h
structure NRow (w : World) (B k : Nat) : Prop where
  ex : ∃ A : Array Value, w.heap[B]? = some (.cells A 28 (0, 0)) ∧ A.size = 6150 ∧ ∀ i, i < 1025 → ∀ j v, (nr k i).cells[j]? = some v → A[i * 6 + j]? = some v
theorem nr_zero (i : Nat) : (nr 0 i).cells = zRt := by simp [nr, Rt.cells, zRt]
theorem NRow.start (w : World) : NRow (w.alloc (.cells (madeCells zRt (1025 * 6)) 28)) w.heap.size 0 := by
  refine ⟨_, heap_alloc_at _ _ _ rfl, by rw [size_madeCells], fun i hi j v hj => ?_⟩
  rw [nr_zero] at hj
  have hj6 : j < 6 := (Array.getElem?_eq_some_iff.1 hj).1
  have hz : zRt.size = 6 := rfl
  have e : (i * 6 + j) % 6 = j := by omega
  rw [← hj]
  simp only [madeCells, Array.getElem?_map, Array.getElem?_range, hz]
  rw [if_pos (by omega)]
  show some (zRt[(i * 6 + j) % 6]!) = zRt[j]?
  rw [e, getElem!_pos _ _ (by rw [hz]; exact hj6), Array.getElem?_eq_getElem]
theorem NRow.cells {w : World} {B k : Nat} (h : NRow w B k) {i : Nat} (hi : i < 1025) {j : Nat} {v : Value} (hj : (nr k i).cells[j]? = some v) : w.cell? ⟨B, i * 6 + j, none⟩ = some v := by
  obtain ⟨A, h1, h2, h3⟩ := h.ex
  simp [World.cell?, h1, h3 i hi j v hj]
theorem NRow.frozen {w : World} {B k : Nat} (h : NRow w B k) (i : Nat) : w.frozen? ⟨B, i, none⟩ = false := by
  obtain ⟨A, h1, h2, h3⟩ := h.ex
  simp [World.frozen?, h1]
theorem NRow.step {w : World} {B k : Nat} (h : NRow w B k) (hk : k < 1025) : NRow ((w.setCell ⟨B, k * 6, none⟩ (.int .u32 ((k * 256 : Nat) : Int))).setCell ⟨B, k * 6 + 1, none⟩ (.int .i64 24)) B (k + 1) := by
  obtain ⟨A, h1, h2, h3⟩ := h.ex
  refine ⟨_, heap_setCell_same _ _ _ _ _ _ (heap_setCell_same _ _ _ _ _ _ h1), by simp [h2], fun i hi j v hj => ?_⟩
  have hj6 : j < 6 := (Array.getElem?_eq_some_iff.1 hj).1
  by_cases hik : i = k
  · subst hik
    have e : (nr (i + 1) i).cells = #[.int .u32 ((i * 256 : Nat) : Int), .int .i64 24, .bool false, .bool false, .int .i64 0, .slice none 0 0] := by simp [nr, Rt.cells]
    rw [e] at hj
    rcases (show j = 0 ∨ j = 1 ∨ 2 ≤ j by omega) with rfl | rfl | hj2
    · simp at hj; subst hj
      simp [Array.getElem?_setIfInBounds, h2]; omega
    · simp at hj; subst hj
      simp [Array.getElem?_setIfInBounds, h2]; omega
    · have h0 := h3 i hi j v (by
        have e0 : (nr i i).cells = #[.int .u32 0, .int .i64 0, .bool false, .bool false, .int .i64 0, .slice none 0 0] := by simp [nr, Rt.cells]
        rw [e0]
        rcases (show j = 2 ∨ j = 3 ∨ j = 4 ∨ j = 5 by omega) with rfl | rfl | rfl | rfl <;> simpa using hj)
      rw [Array.getElem?_setIfInBounds_ne (by omega), Array.getElem?_setIfInBounds_ne (by omega)]
      exact h0
  · have e : (nr (k + 1) i).cells = (nr k i).cells := by
      have : (i < k + 1) = (i < k) := by rw [eq_iff_iff]; omega
      simp [nr, Rt.cells, this]
    rw [e] at hj
    rw [Array.getElem?_setIfInBounds_ne (by omega), Array.getElem?_setIfInBounds_ne (by omega)]
    exact h3 i hi j v hj
def tailL : List Rt := (List.range 1024).map fun i => nr 1025 (i + 1)
theorem tailL_len : tailL.length = 1024 := by simp [tailL]
theorem tailL_get {i : Nat} (h : i < tailL.length) : tailL[i] = ⟨(i + 1) * 256, 24, false, false, 0, [], none, 0⟩ := by
  have h' : i < 1024 := by rw [tailL_len] at h; exact h
  simp only [tailL, List.getElem_map, List.getElem_range, nr]
  rw [if_pos (by omega), if_pos (by omega)]
theorem tail_routes {w : World} {B : Nat} (h : NRow w B 1025) : RtS w (some ⟨B, 6, none⟩) tailL := by
  intro i hi
  have hc : ∀ j v, (nr 1025 (i + 1)).cells[j]? = some v → w.cell? ⟨B, 6 + i * 6 + j, none⟩ = some v := fun j v hj => by
    have := h.cells (i := i + 1) (by rw [tailL_len] at hi; omega) hj
    rwa [show (i + 1) * 6 + j = 6 + i * 6 + j by omega] at this
  have ha : (⟨B, 6, none⟩ : Addr).add (i * 6) = ⟨B, 6 + i * 6, none⟩ := by
    unfold Addr.add
    split
    · simp_all
    · rfl
  have e : (nr 1025 (i + 1)).cells = (tailL[i]).cells := by
    rw [tailL_get hi]
    simp only [nr]
    rw [if_pos (by rw [tailL_len] at hi; omega), if_pos (by rw [tailL_len] at hi; omega)]
  rw [e] at hc
  refine ⟨_, rfl, ?_, ?_, ?_, ?_, ?_, ?_, ⟨by rw [tailL_get hi]; show (i + 1) * 256 < _; rw [tailL_len] at hi; omega, by rw [tailL_get hi]; show 0 < 100000; omega, by rw [tailL_get hi]; exact fun k hk => by simp at hk⟩⟩
  · rw [ha]; exact hc 0 _ rfl
  all_goals rw [ha]
  · exact hc 1 _ rfl
  · exact hc 2 _ rfl
  · exact hc 3 _ rfl
  · exact hc 4 _ rfl
  · exact hc 5 _ rfl
theorem makeL_all : ∀ (L : List Rt) (acc : List (Pf × Way)), (∀ r ∈ L, r.may = true) → (acc.map (·.1) ++ L.map Rt.pf).Nodup → makeL L acc = some (acc ++ L.map fun r => (r.pf, r.way))
  | [], acc, _, _ => by simp [makeL]
  | r :: rs, acc, hm, hn => by
    have hnin : r.pf ∉ acc.map (·.1) := fun h => by
      rw [List.nodup_append] at hn
      exact hn.2.2 _ h r.pf (by simp) rfl
    rw [makeL, if_pos ⟨hm r (by simp), hnin⟩, makeL_all rs _ (fun x hx => hm x (by simp [hx])) (by simpa using hn)]
    simp
theorem tailL_may : ∀ r ∈ tailL, r.may = true := by
  intro r hr
  obtain ⟨i, hi, rfl⟩ := List.mem_iff_getElem.1 hr
  rw [tailL_get hi]
  unfold Rt.may Px.may
  simp
theorem tailL_nodup : (tailL.map Rt.pf).Nodup := by
  have : tailL.map Rt.pf = (List.range 1024).map fun i => (((i + 1) * 256, 24) : Pf) := by
    apply List.ext_getElem
    · simp [tailL_len]
    · intro i h1 h2
      rw [List.getElem_map, List.getElem_map, List.getElem_range, tailL_get]
      rfl
  rw [this]
  refine List.Pairwise.map _ (fun a b h e => ?_) (List.pairwise_lt_range (n := 1024))
  have := congrArg Prod.fst e
  simp only at this
  omega
theorem tailL_make : makeL tailL [] = some (tailL.map fun r => (r.pf, r.way)) := by
  rw [makeL_all tailL [] tailL_may (by simpa using tailL_nodup)]
  rfl
theorem fibNil_any (w : World) : Calls Try.prog 6 #[] w fun e w' => e = .returned (.bool true) ∧ Below w.heap.size w w' := by
  have hmk := mk1025
  go_enter Try.func6, Try.ntmps6
  go_wp2
  go_loopg [2] 1025 (fun g i wr => ∃ k : Nat, i = .int .i64 k ∧ k ≤ 1025 ∧ Hid (g = 1025 - k) ∧ Hid (NRow wr w.heap.size k) ∧ Hid (Below w.heap.size w wr))
  case atStart => exact ⟨0, rfl, by omega, Lib.hid rfl, Lib.hid (NRow.start w), Lib.hid ((Below.refl _ _).alloc (Nat.le_refl _) _)⟩
  case round =>
    clear hmk
    obtain ⟨k, rfl, hk, HK, HN, HB⟩ := hrel
    by_cases hlt : k < 1025
    · have c0 := HN.out.cells hlt (j := 0) rfl
      have c1 := HN.out.cells hlt (j := 1) rfl
      have f0 := HN.out.frozen (k * 6)
      have f1 := HN.out.frozen (k * 6 + 1)
      simp only [Nat.add_zero] at c0
      go_wp2
      go_roundg (1025 - k - 1)
      case measure => have := HK.out; omega
      case rel => exact ⟨k + 1, by go_num, by omega, Lib.hid (by omega), Lib.hid (by have h := HN.out.step hlt; rwa [show ((k * 256 : Nat) : Int) = (k : Int) * 256 by omega] at h), Lib.hid ((HB.out.setCell (Nat.le_refl _) _).setCell (Nat.le_refl _) _)⟩
    · obtain rfl : k = 1025 := by omega
      have HM1 := Lib.hid (fun w => make_full (some ⟨w.heap.size, 0, none⟩) 1025 1025 w (by omega))
      have HS := tail_routes HN.out
      have HM2 := Lib.hid (make_any (some ⟨w.heap.size, 6, none⟩) 1024 tailL wr HS (by rw [tailL_len]; omega))
      rw [tailL_make, tailL_len] at HM2
      clear HS
      go_wp2_with fail
      refine (make_full _ 1025 1025 wr (by omega)).mono ?_
      rintro e w' ⟨rfl, hw'⟩
      have hw' := hw'.symm
      subst hw'
      go_wp2_with fail
      refine HM2.out.mono ?_
      rintro e w2 ⟨hb2, he⟩
      obtain ⟨fb, tb, T, rfl, hF⟩ : ∃ fb tb T, e = .returned (.tuple #[.pointer (some ⟨fb, 0, none⟩), .int .i64 0]) ∧ MkF wr w2 fb tb T 1024 (tailL.map (fun (r : Rt) => ((r.pf, r.way) : Pf × Way))) := he
      have hfc := hF.fcell
      have HLN := flen_any T _ fb tb _ _ w2 hF.fcell hF.t
      rw [List.length_map, tailL_len] at HLN
      have HLN := Lib.hid HLN
      have HN1 := Lib.hid (nothing_any none fb tb w2 (.inl rfl) hF.fcell)
      have HB2 := Lib.hid (HB.out.trans (hb2.mono HB.out.size))
      clear hF HM1 HM2 hb2
      go_wp2_with fail
      refine (num_any _ _).mono ?_
      rintro e w' ⟨rfl, rfl⟩
      go_wp2_with fail
      refine (num_any _ _).mono ?_
      rintro e w' ⟨rfl, rfl⟩
      go_wp2_with fail
      refine HLN.out.mono ?_
      rintro e w' ⟨rfl, rfl⟩
      go_wp2_with fail
      refine HN1.out.mono ?_
      rintro e w3 ⟨rfl, hb3⟩
      have hf3 := pw_cell hb3 hfc
      have HB3 := Lib.hid (HB2.out.trans (hb3.mono HB2.out.size))
      clear hb3 hfc
      have HN2 := Lib.hid (nothing_any (some ⟨w3.heap.size, 0, none⟩) fb tb (w3.alloc (.cells #[.pointer none] 62)) (.inr ⟨_, rfl, World.cell?_alloc_at _ _ _ 0 rfl⟩) (pw_cell ((Below.refl _ _).alloc (Nat.le_refl _) _) hf3))
      clear hf3
      go_wp2_with fail
      refine HN2.out.mono ?_
      rintro e w4 ⟨rfl, hb4⟩
      have HB4 := Lib.hid ((HB3.out.alloc HB3.out.size _).trans (hb4.mono (by have := HB3.out.size; simp; omega)))
      clear hb4
      go_wp2_with fail
      refine (known_any _).mono ?_
      rintro e w5 ⟨rfl, hb5⟩
      go_wp2
      go_ret
      exact ⟨rfl, HB4.out.trans (hb5.mono HB4.out.size)⟩
end Go.Proofs.Ytbcekjbckeljmaa
