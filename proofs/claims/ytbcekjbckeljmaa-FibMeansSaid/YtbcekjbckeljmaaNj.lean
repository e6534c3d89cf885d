/- The walk of the document's Shares. -/
import Derived.Test.YtbcekjbckeljmaaNi
set_option linter.unusedVariables false
set_option linter.unusedSimpArgs false
namespace Go.Proofs.Ytbcekjbckeljmaa
open Go.RowKit
set_option maxHeartbeats 1000000
set_option maxRecDepth 10000

def rowF (N : Nat) (f : Nat → Int) : List Value := (List.range N).map fun i => .int .i64 (f i)
theorem rowF_get {N : Nat} (f : Nat → Int) {i : Nat} (h : i < N) : (rowF N f)[i]? = some (.int .i64 (f i)) := by simp [rowF, h]
theorem rowF_len (N : Nat) (f : Nat → Int) : (rowF N f).length = N := by simp [rowF]
theorem rowF_congr {N : Nat} {f g : Nat → Int} (h : ∀ i, i < N → f i = g i) : rowF N f = rowF N g := by
  unfold rowF
  apply List.map_congr_left
  intro i hi
  rw [h i (by simpa using hi)]
theorem rowF_set {N : Nat} (f : Nat → Int) (k : Nat) (x : Int) : (rowF N f).set k (.int .i64 x) = rowF N (fun i => if i = k then x else f i) := by
  apply List.ext_getElem?
  intro i
  rw [List.getElem?_set]
  by_cases hi : i < N
  · rw [rowF_get _ hi, rowF_get _ hi]
    by_cases e : k = i
    · subst e; rw [if_pos rfl, if_pos (by rw [rowF_len]; exact hi), if_pos rfl]
    · rw [if_neg e, if_neg (Ne.symm e)]
  · have h1 : ∀ f, (rowF N f)[i]? = none := fun f => by simp [rowF]; omega
    rw [h1, h1]
    split
    · rw [if_neg (by rw [rowF_len]; omega)]
    · rfl
/-- two rows -/
structure RfF (w wr : World) (N g5 g6 : Nat) (fo fr : Nat → Int) : Prop where
  b : Below w.heap.size w wr
  o : wr.ownsRow w.heap.size 3 1 (.slice (some ⟨g5, 0, none⟩) N N) N (rowF N fo)
  r : wr.ownsRow w.heap.size 3 1 (.slice (some ⟨g6, 0, none⟩) N N) N (rowF N fr)
  ne : g5 ≠ g6
  h5 : w.heap.size ≤ g5
  h6 : w.heap.size ≤ g6
theorem RfF.keep {w wr wr' : World} {N g5 g6 : Nat} {fo fr : Nat → Int} (h : RfF w wr N g5 g6 fo fr) (hb : Below wr.heap.size wr wr') : RfF w wr' N g5 g6 fo fr :=
  ⟨h.b.trans (hb.mono h.b.size), row_below h.o hb, row_below h.r hb, h.ne, h.h5, h.h6⟩
theorem RfF.outSet {w wr : World} {N g5 g6 : Nat} {fo fr : Nat → Int} (h : RfF w wr N g5 g6 fo fr) (k : Nat) (x : Int) : RfF w (wr.setCell ⟨g5, k, none⟩ (.int .i64 x)) N g5 g6 (fun i => if i = k then x else fo i) fr := by
  refine ⟨h.b.setCell h.h5 _, ?_, row_same h.r (heap_setCell_other _ _ _ _ (Ne.symm h.ne)), h.ne, h.h5, h.h6⟩
  have := (h.o.stored k (.int .i64 x)).1
  rw [rowF_set] at this
  exact this
theorem RfF.restSet {w wr : World} {N g5 g6 : Nat} {fo fr : Nat → Int} (h : RfF w wr N g5 g6 fo fr) (k : Nat) (x : Int) : RfF w (wr.setCell ⟨g6, k, none⟩ (.int .i64 x)) N g5 g6 fo (fun i => if i = k then x else fr i) := by
  refine ⟨h.b.setCell h.h6 _, row_same h.o (heap_setCell_other _ _ _ _ h.ne), ?_, h.ne, h.h5, h.h6⟩
  have := (h.r.stored k (.int .i64 x)).1
  rw [rowF_set] at this
  exact this
theorem RfF.congr {w wr : World} {N g5 g6 : Nat} {fo fr fo' fr' : Nat → Int} (h : RfF w wr N g5 g6 fo fr) (h1 : ∀ i, i < N → fo i = fo' i) (h2 : ∀ i, i < N → fr i = fr' i) : RfF w wr N g5 g6 fo' fr' :=
  ⟨h.b, by rw [← rowF_congr h1]; exact h.o, by rw [← rowF_congr h2]; exact h.r, h.ne, h.h5, h.h6⟩
theorem RfF.oc {w wr : World} {N g5 g6 : Nat} {fo fr : Nat → Int} (h : RfF w wr N g5 g6 fo fr) {k : Nat} (hk : k < N) : wr.cell? ⟨g5, k, none⟩ = some (.int .i64 (fo k)) ∧ wr.frozen? ⟨g5, k, none⟩ = false :=
  ⟨by rw [h.o.cellAt k (by omega), rowF_get _ hk], h.o.frozenAt k⟩
theorem RfF.rc {w wr : World} {N g5 g6 : Nat} {fo fr : Nat → Int} (h : RfF w wr N g5 g6 fo fr) {k : Nat} (hk : k < N) : wr.cell? ⟨g6, k, none⟩ = some (.int .i64 (fr k)) ∧ wr.frozen? ⟨g6, k, none⟩ = false :=
  ⟨by rw [h.r.cellAt k (by omega), rowF_get _ hk], h.r.frozenAt k⟩
theorem mk_run (n : Nat) (h : n < 100000) (w : World) : (Instr.makeSlice 52 (.int .i64 n) (.int .i64 n)).run Try.prog w = .ok (.slice (some ⟨w.heap.size, 0, none⟩) n n) (w.alloc (.cells (madeCells #[.int .i64 0] n) 3)) := by
  obtain ⟨i0, hi0, hz0, hz1, hz2⟩ := info_parts infoInt
  have := run_makeSlice (P := Try.prog) w 52 3 i0 _ Try.underlying52 hi0 hz0 .i64 .i64 n n (by omega) (by omega) (by rw [hz1]; omega) (by rw [hz2]; omega) (by omega)
  rw [hz1] at this
  simpa [Value.cells] using this
theorem mk_row (n : Nat) (h : n < 100000) (w : World) (B : Nat) (hB : B ≤ w.heap.size) : (w.alloc (.cells (madeCells #[.int .i64 0] n) 3)).ownsRow B 3 1 (.slice (some ⟨w.heap.size, 0, none⟩) n n) n (rowF n (fun _ => 0)) := by
  have := World.ownsRow_lit (e := 3) (size := 1) w (madeCells #[.int .i64 0] n) n hB (by unfold maxLen; omega) (by rw [size_madeCells, Nat.mul_one])
  have e : (madeCells #[.int .i64 0] n).toList = rowF n (fun _ => 0) := by
    apply List.ext_getElem?
    intro i
    by_cases hi : i < n
    · rw [rowF_get _ hi]; simp [madeCells, hi, Nat.mod_one]
    · rw [List.getElem?_eq_none (by simp [size_madeCells]; omega), List.getElem?_eq_none (by rw [rowF_len]; omega)]
  rw [e] at this
  exact this
theorem take_step {N : Nat} {rest : Nat → Int} {ord : List Nat} (h : Ord N rest ord) {n : Nat} (hn : n < N) :
    ord.getD n 0 < N ∧ ord.getD n 0 ∉ ord.take n ∧ (∀ i, i ∈ ord.take (n + 1) ↔ i ∈ ord.take n ∨ i = ord.getD n 0) ∧ ∀ i, i < N → i ∉ ord.take n → i ≠ ord.getD n 0 → before rest (ord.getD n 0) i := by
  have hlen : ord.length = N := by simpa using h.perm.length_eq
  have hnd : ord.Nodup := h.perm.nodup_iff.2 List.nodup_range
  have hk : ord.getD n 0 = ord[n]'(by omega) := by simp [List.getD_eq_getElem?_getD, hlen, hn]
  refine ⟨?_, ?_, ?_, ?_⟩
  · rw [hk]
    have := h.perm.mem_iff.1 (List.getElem_mem (show n < ord.length by omega))
    simpa using this
  · rw [hk]
    intro hm
    obtain ⟨j, hj, e⟩ := List.getElem_of_mem hm
    have hj' : j < n := by simp at hj; omega
    rw [List.getElem_take] at e
    exact List.pairwise_iff_getElem.1 hnd j n (by omega) (by omega) hj' e
  · intro i
    rw [List.take_succ_eq_append_getElem (by omega), List.mem_append, hk]
    simp
  · intro i hi hnt hne
    have hm : i ∈ ord := h.perm.mem_iff.2 (by simpa using hi)
    obtain ⟨j, hj, e⟩ := List.getElem_of_mem hm
    rw [hk] at hne ⊢
    have h1 : ¬ j < n := fun hjn => hnt (by rw [← e]; exact List.mem_take_iff_getElem.2 ⟨j, by omega, rfl⟩)
    have h2 : j ≠ n := fun h2 => hne (by subst h2; exact e.symm)
    rw [← e]
    exact List.pairwise_iff_getElem.1 h.srt n j (by omega) hj (by omega)
def restAt (l : List (Int × Int)) (ord : List Nat) (m i : Nat) : Int := if i ∈ ord.take m then -1 else restN l (allN l) i
def Best (l : List (Int × Int)) (ord : List Nat) (m i : Nat) (best : Int) : Prop :=
  (best = -1 ∧ ∀ k, k < i → k ∈ ord.take m) ∨ ∃ b : Nat, best = b ∧ b < i ∧ b ∉ ord.take m ∧ ∀ k, k < i → k ∉ ord.take m → k ≠ b → before (restN l (allN l)) b k
theorem best_end {l : List (Int × Int)} {ord : List Nat} (h : Ord l.length (restN l (allN l)) ord) {m : Nat} (hm : m < l.length) {best : Int} (hb : Best l ord m l.length best) : best = (ord.getD m 0 : Nat) := by
  obtain ⟨h1, h2, _, h4⟩ := take_step h hm
  rcases hb with ⟨_, hall⟩ | ⟨b, rfl, hlt, hnt, hall⟩
  · exact absurd (hall _ h1) h2
  · by_cases e : b = ord.getD m 0
    · rw [e]
    · have k1 := h4 b hlt hnt e
      have k2 := hall _ h1 h2 (Ne.symm e)
      unfold before at k1 k2
      omega
theorem restN_nn {l : List (Int × Int)} (hm : mayL l = true) (i : Nat) : 0 ≤ restN l (allN l) i := Int.emod_nonneg _ (by have := allN_bd hm; omega)
theorem below_drewN (w : World) (q : Nat) : Below w.heap.size w (w.drewN q) := (Below.refl _ _).drewN q
theorem wp_genX {R : World → Prop} {w : World} (F : World → Prop) (h0 : F w) (h : ∀ w', F w' → R w') : R w := h w h0
def foN (l : List (Int × Int)) (n i : Nat) : Int := if i < n then baseN l i else 0
def frN (l : List (Int × Int)) (n i : Nat) : Int := if i < n then restN l (allN l) i else 0
theorem shares13_any (o : Option Addr) (cap : Nat) (l : List (Int × Int)) (ord : List Nat) (w : World) (hS : PairS w o l) (hlen : l.length < 100000) (hm : mayL l = true) (hO : Ord l.length (restN l (allN l)) ord) :
    Calls Try.prog 52 #[.slice o l.length cap] w fun e w' => ∃ g, e = .returned (.slice (some ⟨g, 0, none⟩) l.length l.length) ∧ Below w.heap.size w w' ∧ w'.ownsRow w.heap.size 3 1 (.slice (some ⟨g, 0, none⟩) l.length l.length) l.length (rowF l.length (shr l ord)) := by
  have HS := Lib.hid hS
  have HM := Lib.hid hm
  have HO := Lib.hid hO
  clear hS hm hO
  have h8 := mayL_len HM.out
  go_enter Try.func52, Try.ntmps52
  go_wp2
  go_loopg [3, 4] l.length (fun k a i wr => ∃ n : Nat, i = .int .i64 n ∧ a = .int .i64 (sumTo (wN l) n) ∧ n ≤ l.length ∧ Hid (k = l.length - n) ∧ Hid (Below w.heap.size w wr))
  case atStart => exact ⟨0, rfl, rfl, by omega, Lib.hid (by omega), Lib.hid (Below.refl _ _)⟩
  case round =>
    obtain ⟨n, rfl, rfl, hn, HK, HB⟩ := hrel
    by_cases hlt : n < l.length
    · obtain ⟨a, rfl, p0, p1, hab⟩ := (HS.out.keep HB.out) n hlt
      have hd : wgt l[n].2 = wN l n := by simp [wN, List.getD_eq_getElem?_getD, hlt]
      have HWT := fun w => Lib.hid (weight13_any l[n].1 l[n].2 w)
      rw [hd] at HWT
      clear hd
      have hsb := sumTo_bd (f := wN l) (a := 0) (b := 65536) (n := n) (fun i _ => wN_le l i)
      have hq := wN_le l n
      have HSS : Hid (sumTo (wN l) (n + 1) = sumTo (wN l) n + wN l n) := Lib.hid rfl
      generalize sumTo (wN l) n = s at *
      generalize wN l n = q at *
      generalize l[n].1 = p at *
      generalize l[n].2 = d at *
      go_wp2_with fail
      refine (HWT _).out.mono ?_
      rintro e w1 ⟨rfl, hb1⟩
      go_wp2
      go_roundg (gk - 1)
      case measure => have := HK.out; omega
      case rel => exact ⟨n + 1, by go_num, by rw [HSS.out], by omega, Lib.hid (by have := HK.out; omega), Lib.hid (HB.out.trans (hb1.mono HB.out.size))⟩
    · obtain rfl : n = l.length := by omega
      have hall := allN_bd HM.out
      have hsum : sumTo (wN l) l.length = allN l := rfl
      rw [hsum]
      clear hsum
      have hmk := fun w => mk_run l.length hlen w
      have F1 : Hid (RfF w ((wr.alloc (.cells (madeCells #[.int .i64 0] l.length) 3)).alloc (.cells (madeCells #[.int .i64 0] l.length) 3)) l.length wr.heap.size (wr.heap.size + 1) (foN l 0) (frN l 0)) := Lib.hid (by
        have hb := HB.out.size
        refine ⟨(HB.out.alloc hb _).alloc (by simp; omega) _, ?_, ?_, by omega, by omega, by omega⟩
        · have e : rowF l.length (fun _ => 0) = rowF l.length (foN l 0) := rowF_congr (fun i _ => by simp [foN])
          rw [← e]
          exact ((mk_row l.length hlen wr w.heap.size hb).alloc _)
        · have := mk_row l.length hlen (wr.alloc (.cells (madeCells #[.int .i64 0] l.length) 3)) w.heap.size (by simp; omega)
          have e : rowF l.length (fun _ => 0) = rowF l.length (frN l 0) := rowF_congr (fun i _ => by simp [frN])
          rw [e] at this
          simpa using this)
      go_wp2
      clear hmk
      have H5 : Hid (w.heap.size ≤ wr.heap.size) := Lib.hid HB.out.size
      have H6 : Hid (w.heap.size ≤ wr.heap.size + 1) := Lib.hid (by have := HB.out.size; omega)
      clear HB
      generalize wr.heap.size = g5 at *
      go_loopg [7, 8] l.length (fun k a i wr => ∃ n : Nat, i = .int .i64 n ∧ a = .int .i64 (256 - sumTo (baseN l) n) ∧ n ≤ l.length ∧ Hid (k = l.length - n) ∧ Hid (RfF w wr l.length g5 (g5 + 1) (foN l n) (frN l n)))
      case atStart => exact ⟨0, rfl, by simp [sumTo], by omega, Lib.hid (by omega), F1⟩
      case round =>
        clear F1 HK
        obtain ⟨n, rfl, rfl, hn, HK, HF⟩ := hrel
        by_cases hlt : n < l.length
        · obtain ⟨a, rfl, p0, p1, hab⟩ := HS.out n hlt
          have K4 := Lib.hid (show ∀ w', Below w.heap.size w w' → w'.cell? (a.add (n * 2)) = some (.int .i64 l[n].1) ∧ w'.cell? ⟨(a.add (n * 2)).block, (a.add (n * 2)).off + 1, none⟩ = some (.int .i64 l[n].2) from fun w' h => by
            obtain ⟨a', e, q0, q1, _⟩ := (HS.out.keep h) n hlt
            cases e
            exact ⟨q0, q1⟩)
          clear p0 p1
          have hd : wgt l[n].2 = wN l n := by simp [wN, List.getD_eq_getElem?_getD, hlt]
          have HWT := fun w => Lib.hid (weight13_any l[n].1 l[n].2 w)
          rw [hd] at HWT
          clear hd
          have hq := wN_le l n
          have hqb := (baseN_bd HM.out n).1
          have hqb2 := (baseN_bd HM.out n).2 hlt
          have hS := sumTo_bd (f := baseN l) (a := 0) (b := 256) (n := n) (fun i hi => ⟨(baseN_bd HM.out i).1, (baseN_bd HM.out i).2 (by omega)⟩)
          have HS1 : Hid (sumTo (baseN l) (n + 1) = sumTo (baseN l) n + baseN l n) := Lib.hid rfl
          have HV : Hid (IntKind.i64.wrap ((256 * wN l n).tdiv (allN l)) = baseN l n) := Lib.hid (by
            rw [Int.tdiv_eq_ediv_of_nonneg (by omega), IntKind.wrap_i64]
            have : 256 * wN l n / allN l = baseN l n := rfl
            omega)
          have HR : Hid ((256 * wN l n).tmod (allN l) = restN l (allN l) n) := Lib.hid (by
            rw [Int.tmod_eq_emod_of_nonneg (by omega)]; rfl)
          have hwr : IntKind.i64.wrap (256 * wN l n) = 256 * wN l n := by rw [IntKind.wrap_i64]; omega
          generalize l[n].1 = p at *
          generalize l[n].2 = d at *
          have hne : allN l ≠ 0 := by omega
          have hi0 : (0 : Int) ≤ (n : Int) := by omega
          have hi1 : (n : Int) < (l.length : Int) := by omega
          have hF := HF.out
          obtain ⟨k5, z5⟩ := hF.oc hlt
          obtain ⟨k6, z6⟩ := hF.rc hlt
          go_wp2_with fail
          go_region_held3 (fun w' => w'.cell? (a.add (n * 2)) = some (.int .i64 p) ∧ w'.cell? ⟨(a.add (n * 2)).block, (a.add (n * 2)).off + 1, none⟩ = some (.int .i64 d))
            (exact K4.out _ (by repeat (first | exact hF.b | exact HF.out.b | refine Below.drew ?_ | refine Below.setCell ?_ H5.out _ | refine Below.setCell ?_ H6.out _)))
            ((go_at_call 68; refine (HWT _).out.mono ?_; rintro e w2 ⟨rfl, hb2⟩; have hF := RfF.keep (show RfF w _ l.length g5 (g5 + 1) (foN l n) (frN l n) by repeat (first | assumption | refine RfF.keep ?_ ((Below.refl _ _).drew))) hb2; obtain ⟨k5, z5⟩ := hF.oc hlt; obtain ⟨k6, z6⟩ := hF.rc hlt; clear hb2))
          have HF2 := Lib.hid ((((hF.outSet n (baseN l n)).restSet n (restN l (allN l) n)).congr (fo' := foN l (n + 1)) (fr' := frN l (n + 1))
            (fun i _ => by unfold foN; by_cases e : i = n; (· subst e; simp); (· simp only [if_neg e]; split <;> split <;> first | rfl | omega))
            (fun i _ => by unfold frN; by_cases e : i = n; (· subst e; simp); (· simp only [if_neg e]; split <;> split <;> first | rfl | omega))))
          rw [HV.out, HR.out]
          clear hF k5 z5 k6 z6
          have kc := (HF2.out.oc hlt).1
          have ec : foN l (n + 1) n = baseN l n := by simp [foN]
          rw [ec] at kc
          clear ec
          generalize baseN l n = bq at *
          refine wp_genX (fun wz => RfF w wz l.length g5 (g5 + 1) (foN l (n + 1)) (frN l (n + 1)) ∧ wz.cell? ⟨g5, n, none⟩ = some (.int .i64 bq)) ⟨HF2.out, kc⟩ ?_
          rintro wz ⟨hz, kc⟩
          have HZ := Lib.hid hz
          clear hz HF2
          go_wp2
          go_roundg (gk - 1)
          case measure => have := HK.out; omega
          case rel =>
            refine ⟨n + 1, by go_num, ?_, by omega, Lib.hid (by have := HK.out; omega), HZ⟩
            rw [HS1.out]
            go_num
        · obtain rfl : n = l.length := by omega
          obtain ⟨L, hL⟩ : ∃ L : Nat, leftN l = L := ⟨(leftN l).toNat, by have := leftN_bd HM.out; omega⟩
          have hLn : L < l.length := by have := leftN_bd HM.out; omega
          have hLL : 256 - sumTo (baseN l) l.length = L := hL
          rw [hLL]
          have HLN := Lib.hid hL
          clear hL hLL
          have F2 : Hid (RfF w wr l.length g5 (g5 + 1) (bumpAt l ord 0) (restAt l ord 0)) := Lib.hid (HF.out.congr (fun i hi => by simp [foN, bumpAt, hi]) (fun i hi => by simp [frN, restAt, hi]))
          go_wp2
          go_loopg [7, 9, 10] L (fun k a y z wr => ∃ m : Nat, a = .int .i64 ((L : Int) - m) ∧ m ≤ L ∧ Hid (k = L - m) ∧ Hid (RfF w wr l.length g5 (g5 + 1) (bumpAt l ord m) (restAt l ord m)))
          case atStart => exact ⟨0, by simp, by omega, Lib.hid (by omega), F2⟩
          case round =>
            clear F2 HF HK
            obtain ⟨m, rfl, hml, HK, HF⟩ := hrel
            by_cases hlt : m < L
            · have hgt : (0 : Int) < (L : Int) - m := by omega
              go_wp2
              clear hgt
              go_loopg [9, 10] l.length (fun k b i wr => ∃ (n : Nat) (best : Int), i = .int .i64 n ∧ b = .int .i64 best ∧ n ≤ l.length ∧ Hid (Best l ord m n best) ∧ Hid (k = l.length - n) ∧ Hid (RfF w wr l.length g5 (g5 + 1) (bumpAt l ord m) (restAt l ord m)))
              case atStart => exact ⟨0, -1, rfl, rfl, by omega, Lib.hid (.inl ⟨rfl, fun k hk => by omega⟩), Lib.hid (by omega), HF⟩
              case round =>
                clear HF
                obtain ⟨n, best, rfl, rfl, hn, HBst, HK2, HF⟩ := hrel
                by_cases hlt2 : n < l.length
                · have hi0 : (0 : Int) ≤ (n : Int) := by omega
                  have hi1 : (n : Int) < (l.length : Int) := by omega
                  have kn := (HF.out.rc hlt2).1
                  by_cases hin : n ∈ ord.take m
                  · have er : restAt l ord m n = -1 := by unfold restAt; rw [if_pos hin]
                    rw [er] at kn
                    have HIN := Lib.hid hin
                    clear er hin
                    go_wp2
                    go_quiet (fail)
                    go_wp2
                    go_roundg (l.length - n - 1)
                    case measure => have := HK2.out; omega
                    case rel =>
                      refine ⟨n + 1, best, by go_num, rfl, by omega, Lib.hid ?_, Lib.hid (by omega), Lib.hid (HF.out.keep (below_drewN _ _))⟩
                      rcases HBst.out with ⟨h1, h2⟩ | ⟨b, h1, h2, h3, h4⟩
                      · exact .inl ⟨h1, fun k hk => by by_cases e : k = n; (· rw [e]; exact HIN.out); (· exact h2 k (by omega))⟩
                      · exact .inr ⟨b, h1, by omega, h3, fun k hk hk2 hk3 => by by_cases e : k = n; (· rw [e] at hk2; exact absurd HIN.out hk2); (· exact h4 k (by omega) hk2 hk3)⟩
                  · have er : restAt l ord m n = restN l (allN l) n := by unfold restAt; rw [if_neg hin]
                    rw [er] at kn
                    have hrn := restN_nn HM.out n
                    have e1 : decide (0 ≤ restN l (allN l) n) = true := by simpa using hrn
                    have HIN := Lib.hid hin
                    clear er hin
                    rcases HBst.out with ⟨rfl, h2⟩ | ⟨b, rfl, hb2, h3, h4⟩
                    · have H2 := Lib.hid h2
                      clear h2
                      go_wp2
                      go_quiet (fail)
                      go_wp2
                      go_roundg (l.length - n - 1)
                      case measure => have := HK2.out; omega
                      case rel =>
                        refine ⟨n + 1, n, by go_num, rfl, by omega, Lib.hid ?_, Lib.hid (by omega), Lib.hid (HF.out.keep (below_drewN _ _))⟩
                        exact .inr ⟨n, rfl, by omega, HIN.out, fun k hk hk2 hk3 => absurd (H2.out k (by omega)) hk2⟩
                    · have H4 := Lib.hid h4
                      have H3 := Lib.hid h3
                      have er : restAt l ord m b = restN l (allN l) b := by unfold restAt; rw [if_neg h3]
                      clear h4 h3
                      have kb := (HF.out.rc (show b < l.length by omega)).1
                      rw [er] at kb
                      clear er
                      have hb0 : (0 : Int) ≤ (b : Int) := by omega
                      have hb1 : (b : Int) < (l.length : Int) := by omega
                      have e2 : decide ((b : Int) < 0) = false := by simp
                      have HRN : Hid (restN l (allN l) = restN l (allN l)) := Lib.hid rfl
                      by_cases hgt : restN l (allN l) b < restN l (allN l) n
                      · have e3 : decide (restN l (allN l) b < restN l (allN l) n) = true := by simpa using hgt
                        go_wp2
                        go_quiet (fail)
                        go_wp2
                        go_roundg (l.length - n - 1)
                        case measure => have := HK2.out; omega
                        case rel =>
                          refine ⟨n + 1, n, by go_num, rfl, by omega, Lib.hid ?_, Lib.hid (by omega), Lib.hid (HF.out.keep (below_drewN _ _))⟩
                          refine .inr ⟨n, rfl, by omega, HIN.out, fun k hk hk2 hk3 => ?_⟩
                          by_cases e : k = b
                          · rw [e]; exact .inl hgt
                          · have := H4.out k (by omega) hk2 e; unfold before at *; omega
                      · have e3 : decide (restN l (allN l) b < restN l (allN l) n) = false := by simpa using hgt
                        go_wp2
                        go_quiet (fail)
                        go_wp2
                        go_roundg (l.length - n - 1)
                        case measure => have := HK2.out; omega
                        case rel =>
                          refine ⟨n + 1, b, by go_num, rfl, by omega, Lib.hid ?_, Lib.hid (by omega), Lib.hid (HF.out.keep (below_drewN _ _))⟩
                          refine .inr ⟨b, rfl, by omega, H3.out, fun k hk hk2 hk3 => ?_⟩
                          by_cases e : k = n
                          · rw [e]; unfold before; omega
                          · exact H4.out k (by omega) hk2 hk3
                · obtain rfl : n = l.length := by omega
                  have hbe := best_end HO.out (show m < l.length by omega) HBst.out
                  subst hbe
                  obtain ⟨t1, t2, t3, _⟩ := take_step HO.out (show m < l.length by omega)
                  have T3 := Lib.hid t3
                  clear t3
                  have hbd := baseN_bd HM.out (ord.getD m 0)
                  have hbd1 := hbd.1
                  have hbd2 := hbd.2 t1
                  clear hbd
                  obtain ⟨k5, z5⟩ := HF.out.oc t1
                  obtain ⟨k6, z6⟩ := HF.out.rc t1
                  have eb : bumpAt l ord m (ord.getD m 0) = baseN l (ord.getD m 0) := by unfold bumpAt; rw [if_neg t2]; omega
                  rw [eb] at k5
                  have HF2 := Lib.hid ((((HF.out.outSet (ord.getD m 0) (baseN l (ord.getD m 0) + 1)).restSet (ord.getD m 0) (-1)).congr (fo' := bumpAt l ord (m + 1)) (fr' := restAt l ord (m + 1))
                    (fun i _ => by
                      by_cases e : i = ord.getD m 0
                      · rw [if_pos e, e]; unfold bumpAt; rw [if_pos ((T3.out _).2 (.inr rfl))]
                      · rw [if_neg e]; unfold bumpAt
                        have : i ∈ ord.take (m + 1) ↔ i ∈ ord.take m := by rw [T3.out]; exact ⟨fun h => h.resolve_right e, .inl⟩
                        simp only [this])
                    (fun i _ => by
                      by_cases e : i = ord.getD m 0
                      · rw [if_pos e, e]; unfold restAt; rw [if_pos ((T3.out _).2 (.inr rfl))]
                      · rw [if_neg e]; unfold restAt
                        have : i ∈ ord.take (m + 1) ↔ i ∈ ord.take m := by rw [T3.out]; exact ⟨fun h => h.resolve_right e, .inl⟩
                        simp only [this])))
                  clear eb t2
                  generalize ord.getD m 0 = kk at *
                  generalize baseN l kk = bv at *
                  have hk0 : ¬ (kk : Int) < 0 := by omega
                  go_wp2
                  go_roundg (L - m - 1)
                  case measure => have := HK.out; omega
                  case rel => exact ⟨m + 1, by go_num, by omega, Lib.hid (by omega), HF2⟩
            · obtain rfl : m = L := by omega
              have hgt : ¬ (0 : Int) < (m : Int) - m := by omega
              go_wp2
              go_ret
              refine ⟨g5, rfl, HF.out.b, ?_⟩
              have e : shr l ord = bumpAt l ord m := by
                funext i
                simp only [shr, bumpAt, HLN.out, Int.toNat_natCast]
              rw [e]
              exact HF.out.o
end Go.Proofs.Ytbcekjbckeljmaa
