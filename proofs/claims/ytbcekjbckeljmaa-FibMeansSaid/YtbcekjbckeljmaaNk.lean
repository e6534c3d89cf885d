/- The walk of the document's Table; the buckets' pick. -/
import Derived.Test.YtbcekjbckeljmaaNj
set_option linter.unusedVariables false
set_option linter.unusedSimpArgs false
namespace Go.Proofs.Ytbcekjbckeljmaa
open Go.RowKit
set_option maxHeartbeats 1000000
set_option maxRecDepth 10000
attribute [local go_sem high] eql47 neq47 loadRow_way loadRow_arr wayA_back arrA_back
attribute [local go_sem low] loadRowOf_some
attribute [local go_sem ↓] load54 store54 alloc54 load52 store52 alloc52 build180 build185
attribute [local go_sem] rload54 rstore54 rload52 rstore52 ralloc54 ralloc52 rbuild180 rbuild185 rfork180
attribute [local go_sem] size_drewN rowAt_alloc_past rowAt_alloc_at rowAt_drew rowAt_drewN thawed_alloc_past thawed_alloc_at thawed_drew thawed_drewN okCells_way storeRowOf_some putRow_drew putRow_drewN putRow_alloc_past putRow_alloc_at wayA_size wayA_toList cells_way arrA_toList cells_arr

theorem table_any (o : Option Addr) (cap : Nat) (l : List (Int × Int)) [Inhabited (Fin l.length)] (w : World) (hS : PairS w o l) (hlen : l.length < 100000) (hm : mayL l = true) :
    Calls Try.prog 29 #[.slice o l.length cap] w fun e w' => e = .returned (.agg (arrA (tabOf l))) ∧ Below w.heap.size w w' := by
  have HS := Lib.hid hS
  have HM := Lib.hid hm
  have HOrd := Lib.hid (ordL_ord l (allN l))
  clear hS hm
  go_enter Try.func29, Try.ntmps29
  go_wp2_with fail
  have hK : Hid (PairS ((w.alloc (.cells (arrA zArr) 31)).alloc (.cells (arrA zArr) 31)) o l) := Lib.hid (HS.out.keep (((Below.refl _ w).alloc (Nat.le_refl _) _).alloc (by simp) _))
  refine (shares13_any o cap l (ordL l (allN l)) _ hK.out hlen HM.out HOrd.out).mono ?_
  rintro e w1 ⟨g, rfl, hb1, hr1⟩
  have h8 := mayL_len HM.out
  have HB1 : Hid (BkF w w1 l (ordL l (allN l)) g l.length (tabPre l (ordL l (allN l)) 0)) := Lib.hid (by
    have hs2 : ((w.alloc (.cells (arrA zArr) 31)).alloc (.cells (arrA zArr) 31)).heap.size = w.heap.size + 2 := by simp
    rw [hs2] at hb1 hr1
    refine ⟨(((Below.refl _ w).alloc (Nat.le_refl _) _).alloc (by simp) _).trans (hb1.mono (by omega)), ?_, ?_, hr1⟩
    · rw [hb1.block _ (by omega), Below.heap_alloc _ _ _ (by simp)]; exact heap_alloc_new _ _
    · rw [hb1.block _ (by omega)]
      have e : pad (tabPre l (ordL l (allN l)) 0) = zArr := by simp [tabPre, pad, zArr]
      rw [e]
      exact heap_alloc_at _ _ _ (by simp))
  clear hb1 hr1 hK
  have HT := Lib.hid (tab_len HM.out HOrd.out)
  generalize hord : ordL l (allN l) = ord at *
  have HORD := Lib.hid hord
  clear hord
  go_wp2
  go_loopg [5, 6, 7] l.length (fun k a i z wr => ∃ n : Nat, i = .int .i64 n ∧ a = .int .i64 (tabPre l ord n).length ∧ n ≤ l.length ∧ Hid (k = l.length - n) ∧ Hid (BkF w wr l ord g l.length (tabPre l ord n)))
  case atStart => exact ⟨0, rfl, rfl, by omega, Lib.hid (by omega), HB1⟩
  case round =>
    clear HB1
    obtain ⟨n, rfl, rfl, hn, HK, HB⟩ := hrel
    by_cases hlt : n < l.length
    · go_wp2
      go_loopg [5, 7] (shN l ord n) (fun k a i wr => ∃ j : Nat, i = .int .i64 j ∧ a = .int .i64 ((tabPre l ord n ++ List.replicate j (portN l n)).length : Nat) ∧ j ≤ shN l ord n ∧ Hid (k = shN l ord n - j) ∧ Hid (BkF w wr l ord g l.length (tabPre l ord n ++ List.replicate j (portN l n))))
      case atStart => exact ⟨0, rfl, by simp, by omega, Lib.hid (by omega), by simpa using HB⟩
      case round =>
        clear HB
        obtain ⟨j, rfl, rfl, hj, HK2, HB⟩ := hrel
        have hsh := HB.out.share HM.out hlt
        by_cases hlt2 : j < shN l ord n
        · obtain ⟨a, rfl, p0, p1, hab⟩ := (HS.out.keep HB.out.b) n hlt
          have hpp : l[n].1 = portN l n := by simp [portN, List.getD_eq_getElem?_getD, hlt]
          rw [hpp] at p0
          have hP : (tabPre l ord n ++ List.replicate j (portN l n)).length < 256 ∧ shN l ord n ≤ 256 := by
            have h1 := tabPre_mono l ord (show n + 1 ≤ l.length from hlt)
            rw [HT.out, tabPre_succ, List.length_append, List.length_replicate] at h1
            simp; omega
          obtain ⟨hP, hsn⟩ := hP
          have hput := HB.out.put hP (by omega) (portN l n)
          have e1 : tabPre l ord n ++ List.replicate j (portN l n) ++ [portN l n] = tabPre l ord n ++ List.replicate (j + 1) (portN l n) := by
            rw [List.append_assoc, List.replicate_succ', ]
          rw [e1] at hput
          have HPUT := Lib.hid hput
          have e2 : (tabPre l ord n ++ List.replicate (j + 1) (portN l n)).length = (tabPre l ord n ++ List.replicate j (portN l n)).length + 1 := by simp; omega
          have E2 := Lib.hid e2
          clear hput e1 e2 hpp
          have ca := arr_cell HB.out.a (i := (tabPre l ord n ++ List.replicate j (portN l n)).length) (by rw [pad_len (by omega)]; exact hP)
          have fa := arr_frozen HB.out.a (tabPre l ord n ++ List.replicate j (portN l n)).length
          generalize (pad (tabPre l ord n ++ List.replicate j (portN l n)))[(tabPre l ord n ++ List.replicate j (portN l n)).length]'(by rw [pad_len (by omega)]; exact hP) = old at ca
          generalize hat : (tabPre l ord n ++ List.replicate j (portN l n)).length = at0 at *
          clear hat
          go_wp2
          go_roundg (shN l ord n - j - 1)
          case measure => have := HK2.out; omega
          case rel =>
            refine ⟨j + 1, by go_num, ?_, by omega, Lib.hid (by omega), HPUT⟩
            rw [E2.out]
            go_num
        · obtain rfl : j = shN l ord n := by omega
          go_wp2
          go_roundg (l.length - n - 1)
          case measure => have := HK.out; omega
          case rel =>
            refine ⟨n + 1, by go_num, by rw [tabPre_succ], by omega, Lib.hid (by omega), Lib.hid (by rw [tabPre_succ]; exact HB.out)⟩
    · obtain rfl : n = l.length := by omega
      have hrow := arr_row HB.out.a (pad_len (by rw [HT.out]; omega))
      rw [pad_full HT.out] at hrow
      have hz := arr_row HB.out.z zArr_length
      have hth : thawed wr w.heap.size = true := by simp [thawed, HB.out.z]
      have ht : tabPre l ord l.length = tabOf l := by rw [tabOf, HORD.out]
      rw [ht] at hrow
      have hk := okCells_arr (tabOf l) (by rw [← ht]; exact HT.out)
      have hst := rowAt_putRow_same _ _ _ _ (arrCells (tabOf l)) hz (by rw [arrCells_length, ← ht]; exact HT.out)
      have HST := Lib.hid hst
      clear hst ht
      go_wp2
      refine bodyPost_ret (v := .agg (arrA (tabOf l))) (results_row Try.results29 _ _ _ rfl (by rw [loadVar_row Try.underlying31 rfl isz52, HST.out]; rfl)) rfl ⟨rfl, below_putRow HB.out.b (Nat.le_refl _) _⟩
theorem pick_any (b : List Int) (hb : b.length = 256) (h : Nat) (hh : h < 4294967296) (w : World) :
    Calls Try.prog 41 #[.agg (arrA b), .int .u32 h] w fun e w' => e = .returned (.int .i64 (b.getD (h % 256) 0)) ∧ Below w.heap.size w w' := by
  have hm : h % 256 < 256 := Nat.mod_lt _ (by omega)
  have hbk : (w.alloc (.cells (arrA b) 31)).heap[w.heap.size]? = some (.cells (arrA b) 31 (0, 0)) := heap_alloc_new _ _
  have hc := arr_cell hbk (i := h % 256) (by omega)
  have e : b.getD (h % 256) 0 = b[h % 256]'(by omega) := by simp [List.getD_eq_getElem?_getD, hb, hm]
  rw [e]
  clear e hbk
  generalize b[h % 256]'(by omega) = x at *
  go_enter Try.func41, Try.ntmps41
  go_wp2
  go_ret
  exact ⟨rfl, (Below.refl _ w).alloc (Nat.le_refl _) _⟩
end Go.Proofs.Ytbcekjbckeljmaa
