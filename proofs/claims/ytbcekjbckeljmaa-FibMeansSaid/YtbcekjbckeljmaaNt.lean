/- The walk of the trie's Covers. -/
import Derived.Test.YtbcekjbckeljmaaNs
set_option linter.unusedVariables false
set_option linter.unusedSimpArgs false
namespace Go.Proofs.Ytbcekjbckeljmaa
open Go.RowKit Px
set_option maxHeartbeats 1000000
set_option maxRecDepth 10000
attribute [local go_sem high] eql47 neq47 loadRow_way loadRow_arr wayA_back arrA_back
attribute [local go_sem low] loadRowOf_some
attribute [local go_sem ↓] load54 store54 alloc54 load52 store52 alloc52 build180 build185
attribute [local go_sem] rload54 rstore54 rload52 rstore52 ralloc54 ralloc52 rbuild180 rbuild185 rfork180
attribute [local go_sem] size_drewN rowAt_alloc_past rowAt_alloc_at rowAt_drew rowAt_drewN thawed_alloc_past thawed_alloc_at thawed_drew thawed_drewN okCells_way storeRowOf_some putRow_drew putRow_drewN putRow_alloc_past putRow_alloc_at wayA_size wayA_toList cells_way arrA_toList cells_arr

def entCells (e : Pf × Way) : List Value := [.int .u32 e.1.1, .int .i64 e.1.2] ++ wayCells e.2
def entsRow (l : List (Pf × Way)) : List Value := l.flatMap entCells
theorem infoEnt : (Try.prog.info? 115).map (fun i => (i.zero, i.size, i.bytes)) = some (some (.agg (([] : List Value) ++ [Value.int .u32 0, Value.int .i64 0] ++ wayCells zWay).toArray), 259, 2072) := by kernel_rfl
def bigBuildSlice (t : TypeId) (n : Nat) (parts : Array (Nat × Value)) : Sem Value := Instr.buildSlice t n parts
theorem bslice185 (n : Nat) (parts : Array (Nat × Value)) : Instr.buildSlice 112 n parts = bigBuildSlice 112 n parts := rfl
theorem isz185 : (Try.prog.info? 115).map (·.size) = some 259 := by kernel_rfl
theorem rbslice185 (cs : List Value) (w : World) (h : cs.length = 259) : (bigBuildSlice 112 1 #[(0, .agg cs.toArray)]).run Try.prog w = .ok (.slice (some ⟨w.heap.size, 0, none⟩) 1 1) (w.alloc (.cells cs.toArray 115)) := by
  have hs : (sizeOf 115).run Try.prog w = .ok 259 w := by kernel_rfl
  unfold bigBuildSlice Instr.buildSlice
  simp only [Sem.run_bind, run_underlying Try.underlying112 w, Result.andThen_ok, hs, zero185, if_neg, Nat.reduceMul, Nat.reducePow, Nat.reduceGT, Nat.reduceLT, if_false, Nat.one_mul, Nat.reduceEqDiff, Sem.run_pure, Value.cells]
  have hf : ∀ old : List Value, old.length = 259 → Instr.fill (fun i => some (i * 259, 259)) old.toArray [(0, .agg cs.toArray)] = some cs.toArray := fun old ho => by
    have e := fill_one (place := fun i => some (i * 259, 259)) (i := 0) (v := .agg cs.toArray) (rest := []) [] old [] cs rfl (by simp [h]) (by rw [ho, h])
    simp only [List.nil_append, List.append_nil] at e
    rw [e, fill_end]
  generalize hA : Array.map _ (Array.range 259) = A
  have hAs : A.size = 259 := by rw [← hA]; simp
  have e := hf A.toList (by simpa using hAs)
  rw [Array.toArray_toList] at e
  rw [e]
  simp only [Sem.run_bind]
  rfl
theorem rbslice185' (x y : Value) (v : Way) (w : World) : (bigBuildSlice 112 1 #[(0, .agg (x :: y :: wayCells v).toArray)]).run Try.prog w = .ok (.slice (some ⟨w.heap.size, 0, none⟩) 1 1) (w.alloc (.cells (x :: y :: wayCells v).toArray 115)) := rbslice185 _ w (by simp [wayCells_length])
attribute [local go_sem ↓] bslice185
attribute [local go_sem] rbslice185'
theorem mask_and (a n : Nat) (ha : a < 4294967296) (hn : n ≤ 32) : bits .and .u32 (a : Int) ((4294967296 - 2 ^ (32 - n) : Nat) : Int) = (fst a n : Nat) := by
  have h2 := Px.pow_pos' (32 - n)
  rw [u32_and_nat _ _ ha (by omega), Px.and_mask a n ha hn]
theorem up_len {α : Type} (f : α → Nat) (m : Nat) : ∀ (l : List α) (k : Nat), l.Pairwise (fun x y => f x < f y) → (∀ x ∈ l, k ≤ f x ∧ f x ≤ m) → l.length ≤ m + 1 - k
  | [], k, _, _ => by simp
  | x :: t, k, hp, hk => by
    obtain ⟨h1, h2⟩ := List.pairwise_cons.1 hp
    have := up_len f m t (f x + 1) h2 (fun y hy => ⟨h1 y hy, (hk y (by simp [hy])).2⟩)
    have h3 := hk x (by simp)
    simp only [List.length_cons]
    omega
theorem Tr.path_len {T : Tr} {a : Nat} (ha : a < 4294967296) (hW : T.WF) (hO : T.Okp) : (T.path a).length ≤ 33 := by
  have h := up_len (fun (e : Pf × Way) => e.1.2) 32 (T.path a) 0 (Tr.path_up ha hW hO) (fun x hx => ⟨Nat.zero_le _, (Tr.keys_ok hO _ (Tr.ents_keys ((Tr.path_mem ha hW hO x).1 hx).1)).2.1⟩)
  omega
theorem entsRow_snoc (l : List (Pf × Way)) (e : Pf × Way) : entsRow (l ++ [e]) = entsRow l ++ entCells e := by simp [entsRow]
theorem entCells_one (e : Pf × Way) : ∀ u ∈ entCells e, u.oneCell' = true := by
  intro u hu
  simp only [entCells, List.mem_append, List.mem_cons, List.not_mem_nil, or_false] at hu
  rcases hu with (rfl | rfl) | hu
  · rfl
  · rfl
  · exact wayCells_one _ u hu
theorem over_any (o : Option Addr) (n cap : Nat) (w : World) :
    Calls Try.prog 58 #[.slice o n cap] w fun e w' => e = .returned (.func (.func 69) #[] #[.pointer (some ⟨w.heap.size, 0, none⟩)]) ∧ w' = w.alloc (.cells #[.slice o n cap] 112) := by
  go_enter Try.func58, Try.ntmps58
  go_wp2
  go_ret
  exact ⟨rfl, rfl⟩
theorem covers_any (T : Tr) (a : Nat) (base tb lim n : Nat) (w : World) (hT : Trie w base tb T lim n) (hW : T.WF) (ha : a < 4294967296) :
    Calls Try.prog 55 #[.pointer (some ⟨tb, 0, none⟩), .int .u32 a] w fun e w' => Below w.heap.size w w' ∧ ∃ B v, e = .returned (.func (.func 69) #[] #[.pointer (some ⟨B, 0, none⟩)]) ∧ w.heap.size ≤ B ∧ w'.cell? ⟨B, 0, none⟩ = some v ∧ w'.ownsRow w.heap.size 115 259 v (T.path a).length (entsRow (T.path a)) := by
  have hc := hT
  have h3 : w.cell? ⟨tb, 3, none⟩ = some (.bool true) := by have hH := hT.hdr; unfold Hdr at hH; simp [World.cell?, hH]
  have h0 : w.cell? ⟨tb, 0, none⟩ = some T.ptr := by have hH := hT.hdr; unfold Hdr at hH; simp [World.cell?, hH]
  have HT := Lib.hid hT
  have HPL := Lib.hid (Tr.path_len ha hW hT.okp)
  clear hc hT hW
  obtain ⟨i0, hi0, hz0, hz1, hz2⟩ := info_parts infoEnt
  have HINF := Lib.hid (And.intro hi0 (And.intro hz0 (And.intro hz1 hz2)))
  clear hi0 hz0 hz1 hz2
  obtain ⟨tp, htp⟩ : ∃ tp, T.ptr = tp := ⟨_, rfl⟩
  rw [htp] at h0
  have HTP := Lib.hid htp
  clear htp
  go_enter Try.func55, Try.ntmps55
  go_wp2_with fail
  refine (there_any tb _ h3).mono ?_
  rintro e w' ⟨rfl, rfl⟩
  go_wp2
  go_step3
  go_wp2
  go_step3
  go_wp2
  go_loopg [5, 6] T.size (fun k y s wr => ∃ (S : Tr) (pre : List (Pf × Way)) (v5 : Value), v5 = y ∧ s = S.ptr ∧ Hid (S.In w) ∧ Hid (S.Okp) ∧ Hid (S.size ≤ k) ∧ Hid (T.path a = pre ++ S.path a) ∧ Hid (Below w.heap.size w wr) ∧ Hid (wr.ownsRow w.heap.size 115 259 v5 pre.length (entsRow pre)))
  case atStart => exact ⟨T, [], _, rfl, HTP.out.symm, Lib.hid HT.out.isin, Lib.hid HT.out.okp, Lib.hid (Nat.le_refl _), Lib.hid rfl, Lib.hid (Below.refl _ _), Lib.hid (World.ownsRow_nil _ _ _ _)⟩
  case round =>
    obtain ⟨S, pre, v5, e5, rfl, HI, HO, HK, HP, HB, HR⟩ := hrel
    subst e5
    cases S with
    | nil =>
      have e : T.path a = pre := by rw [HP.out]; simp [Tr.path]
      have HE := Lib.hid e
      clear e
      simp only [Tr.ptr]
      go_wp2_with fail
      rw [Exit.noGoto_normal]
      go_wp2_with fail
      obtain ⟨o5, n5, c5, e5⟩ : ∃ o n c, v5 = .slice o n c := by
        rcases HR.out.2 with ⟨h, _⟩ | ⟨g, c, _, h, _⟩
        · exact ⟨_, _, _, h⟩
        · exact ⟨_, _, _, h⟩
      subst e5
      refine (over_any o5 n5 c5 wr).mono ?_
      rintro e w2 ⟨rfl, rfl⟩
      go_wp2
      go_ret
      exact ⟨HB.out.alloc HB.out.size _, wr.heap.size, _, rfl, HB.out.size, World.cell?_alloc_at _ _ _ 0 rfl, by rw [HE.out]; exact HR.out.alloc _⟩
    | node b q v h l r =>
      obtain ⟨qa, qn⟩ := q
      obtain ⟨hb, hl, hr⟩ := HI.out
      have hblt : b < w.heap.size := HI.out.lt b (by simp [Tr.blocks])
      have HN0 := Lib.hid (show ∀ wx, Below w.heap.size w wx → wx.heap[b]? = some (.cells (Tr.cells (qa, qn) v h l.ptr r.ptr).toArray 110 (0, 0)) from fun wx hx => (hx.block b hblt).trans hb)
      have hb := HN0.out _ HB.out
      obtain ⟨oq, ol, or_⟩ := HO.out
      have d0 := Tr.cell0 hb
      have d1 := Tr.cell1 hb
      have d2 := Tr.cell259 hb
      have HNB := Lib.hid hb
      have HLI := Lib.hid hl
      have HRI := Lib.hid hr
      have hq1 := oq.1
      have hq2 := oq.2.1
      clear hb hl hr
      simp only [Tr.ptr]
      by_cases hc : fst a qn = qa
      · have hmk := mask_and a qn ha hq2
        rw [hc] at hmk
        have HMK := Lib.hid hmk
        clear hmk
        go_wp2
        go_quiet ((go_at_call 66; exact Calls.quiet_of_same ((mask_any qn _ hq2).mono fun e w' ⟨a, b⟩ => ⟨a, b.symm⟩)))
        have hmk := HMK.out
        generalize bits .and .u32 (a : Int) ((4294967296 - 2 ^ (32 - qn) : Nat) : Int) = m at *
        subst hmk
        cases h with
        | false =>
          go_upto_region 9 with (fail)
          clear d0 d1 d2
          refine wp_gen (fun wx => Below w.heap.size w wx ∧ wx.ownsRow w.heap.size 115 259 v5 pre.length (entsRow pre)) ⟨HB.out.drewN _, HR.out⟩ ?_
          rintro wz ⟨hbz, hrz⟩
          have HBZ := Lib.hid hbz
          have HRZ := Lib.hid hrz
          clear hbz hrz
          by_cases h32 : qn = 32
          · have HE := Lib.hid (show T.path a = pre by rw [HP.out, Tr.path, if_pos hc]; simp [h32])
            subst h32
            have c1 := Tr.cell1 (HN0.out _ HBZ.out)
            simp only [] at c1
            go_wp2_with fail
            obtain ⟨o5, n5, c5, e5⟩ : ∃ o n c, v5 = .slice o n c := by
              rcases HR.out.2 with ⟨h, _⟩ | ⟨g, c, _, h, _⟩
              · exact ⟨_, _, _, h⟩
              · exact ⟨_, _, _, h⟩
            subst e5
            refine (over_any _ _ _ _).mono ?_
            rintro e w2 ⟨rfl, rfl⟩
            go_wp2
            go_ret
            exact ⟨HBZ.out.alloc HBZ.out.size _, wz.heap.size, _, rfl, HBZ.out.size, World.cell?_alloc_at _ _ _ 0 rfl, by rw [HE.out]; exact HRZ.out.alloc _⟩
          · have h32' : ¬ ((qn : Int) = 32) := by omega
            have hb2 := Px.bit_lt a qn
            have hb3 : (0 : Int) ≤ (Px.bit a qn : Int) := by omega
            have hb4 : (Px.bit a qn : Int) < 2 := by omega
            obtain ⟨S, hS1, hS2, hS3, hS4, hS5⟩ : ∃ S : Tr, (Tr.cells (qa, qn) v false l.ptr r.ptr)[260 + Px.bit a qn]? = some S.ptr ∧ S.In w ∧ S.Okp ∧ S.size < gk ∧ T.path a = pre ++ S.path a := by
              have h1 := HK.out
              simp only [Tr.size] at h1
              rcases (show Px.bit a qn = 0 ∨ Px.bit a qn = 1 by omega) with e | e
              · exact ⟨l, by rw [e]; exact Tr.tail_get 1, HLI.out, ol, by omega, by rw [HP.out]; simp [Tr.path, hc, h32, e]⟩
              · exact ⟨r, by rw [e]; exact Tr.tail_get 2, HRI.out, or_, by omega, by rw [HP.out]; simp [Tr.path, hc, h32, e]⟩
            have c1 := Tr.cell1 (HN0.out _ HBZ.out)
            simp only [] at c1
            have cS := (Tr.cell_at (HN0.out _ HBZ.out) (260 + Px.bit a qn)).trans hS1
            have HS2 := Lib.hid hS2
            have HS3 := Lib.hid hS3
            have HS5 := Lib.hid hS5
            have HBT := fun w => Lib.hid (bit_any a qn w ha (by omega))
            clear hS1 hS2 hS3 hS5 hc h32
            generalize Px.bit a qn = bt at *
            generalize hsp : S.ptr = sp at *
            have HSP := Lib.hid hsp.symm
            clear hsp
            go_wp2
            go_quiet ((go_at_call 50; exact Calls.quiet_of_same ((HBT _).out.mono fun e w' ⟨a, b⟩ => ⟨a, b.symm⟩)))
            go_wp2
            go_roundg S.size
            case measure => omega
            case rel => exact ⟨S, pre, _, rfl, HSP.out, HS2, HS3, Lib.hid (Nat.le_refl _), HS5, Lib.hid (by first | exact HBZ.out | exact HBZ.out.drew | exact HBZ.out.drewN _), Lib.hid (by first | exact HRZ.out | exact World.ownsRow.drew HRZ.out)⟩
        | true =>
          go_upto_region 8 with (fail)
          clear d0 d1 d2
          refine wp_gen (fun wx => Below w.heap.size w wx ∧ wx.ownsRow w.heap.size 115 259 v5 pre.length (entsRow pre)) ⟨HB.out.drewN _, HR.out⟩ ?_
          rintro wx ⟨hbx, hrx⟩
          have HBX := Lib.hid hbx
          have HRX := Lib.hid hrx
          clear hbx hrx
          have K4 := Lib.hid (show ∀ w', Below w.heap.size w w' → w'.cell? ⟨b, 0, none⟩ = some (.int .u32 qa) ∧ w'.cell? ⟨b, 1, none⟩ = some (.int .i64 qn) ∧ rowAt w' ⟨b, 2, none⟩ 257 = some (wayCells v) from
            fun w' h => ⟨Tr.cell0 (HN0.out _ h), Tr.cell1 (HN0.out _ h), Tr.row2 (HN0.out _ h)⟩)
          have L5 : Hid (∀ k, v5.ownBlock = some k → w.heap.size ≤ k) := Lib.hid (fun k e => (HRX.out.lt k e).1)
          have H63 : Hid (pre.length + 1 ≤ maxLen ∧ (pre.length + 1) * 2072 ≤ 140737488355328) := Lib.hid (by
            have h1 := HPL.out
            rw [HP.out, List.length_append] at h1
            exact ⟨by unfold maxLen; omega, by omega⟩)
          obtain ⟨c0, c1, c2⟩ := K4.out _ HBX.out
          go_region_held3 (fun w' => w'.cell? ⟨b, 0, none⟩ = some (.int .u32 qa) ∧ w'.cell? ⟨b, 1, none⟩ = some (.int .i64 qn) ∧ rowAt w' ⟨b, 2, none⟩ 257 = some (wayCells v))
            (first | exact K4.out _ hbg | exact K4.out _ (by repeat (first | exact HBX.out | refine Below.drew ?_ | refine Below.alloc ?_ (by have := HBX.out.size; simp; omega) _)))
            ((refine step_append_lies _ (by rfl) _ _ _ (by rfl) w.heap.size 115 i0 _ 259 2072 Try.underlying112 HINF.out.1 HINF.out.2.1 HINF.out.2.2.1 HINF.out.2.2.2 (by simp [Value.cells, wayCells_length]) (by omega) v5 pre.length (entsRow pre) (by rfl) (by repeat (first | exact HRX.out | refine World.ownsRow.alloc ?_ _ | refine World.ownsRow.drew ?_)) _ 1 1 (entCells ((qa, qn), v)) (by rfl) (by simp [entCells, wayCells_length]) (World.news_of_block (cs := (Value.int .u32 qa :: Value.int .i64 qn :: wayCells v).toArray) (t := 115) (fr := (0, 0)) (by repeat (first | (refine heap_alloc_at _ _ _ ?_; first | (with_reducible rfl) | (simp; done)) | (refine (Below.heap_alloc _ _ _ ?_).trans ?_; (focus (first | omega | (simp; omega) | (simp; done))))))) (entCells_one _) (by omega) H63.out.1 H63.out.2 (by have := HBX.out.size; simp; omega) _ rfl ?_; intro g5 cap5 wy hown5 hgrow5 hat5 hlt5; have hbg : Below w.heap.size w wy := Below.grown (by repeat (first | exact HBX.out | refine Below.drew ?_ | refine Below.alloc ?_ (by have := HBX.out.size; simp; omega) _)) hgrow5 (by have := HBX.out.size; simp; omega) L5.out))
          have HN5 := Lib.hid (show wy.ownsRow w.heap.size 115 259 (.slice (some ⟨g5, 0, none⟩) (pre.length + 1) cap5) (pre ++ [((qa, qn), v)]).length (entsRow (pre ++ [((qa, qn), v)])) by rw [entsRow_snoc, List.length_append]; exact hown5)
          clear hown5 hgrow5 hat5 hlt5 c0 c1 c2
          go_upto_region 9 with (fail)
          refine wp_gen (fun wx => Below w.heap.size w wx ∧ wx.ownsRow w.heap.size 115 259 (.slice (some ⟨g5, 0, none⟩) (pre.length + 1) cap5) (pre ++ [((qa, qn), v)]).length (entsRow (pre ++ [((qa, qn), v)]))) ⟨hbg, HN5.out⟩ ?_
          clear hbg HN5
          rintro wz ⟨hbz, hrz⟩
          have HBZ := Lib.hid hbz
          have HRZ := Lib.hid hrz
          clear hbz hrz
          by_cases h32 : qn = 32
          · have HE := Lib.hid (show T.path a = (pre ++ [((qa, qn), v)]) by rw [HP.out, Tr.path, if_pos hc]; simp [h32])
            subst h32
            have c1 := Tr.cell1 (HN0.out _ HBZ.out)
            simp only [] at c1
            go_wp2_with fail
            refine (over_any _ _ _ _).mono ?_
            rintro e w2 ⟨rfl, rfl⟩
            go_wp2
            go_ret
            exact ⟨HBZ.out.alloc HBZ.out.size _, wz.heap.size, _, rfl, HBZ.out.size, World.cell?_alloc_at _ _ _ 0 rfl, by rw [HE.out]; exact HRZ.out.alloc _⟩
          · have h32' : ¬ ((qn : Int) = 32) := by omega
            have hb2 := Px.bit_lt a qn
            have hb3 : (0 : Int) ≤ (Px.bit a qn : Int) := by omega
            have hb4 : (Px.bit a qn : Int) < 2 := by omega
            obtain ⟨S, hS1, hS2, hS3, hS4, hS5⟩ : ∃ S : Tr, (Tr.cells (qa, qn) v true l.ptr r.ptr)[260 + Px.bit a qn]? = some S.ptr ∧ S.In w ∧ S.Okp ∧ S.size < gk ∧ T.path a = (pre ++ [((qa, qn), v)]) ++ S.path a := by
              have h1 := HK.out
              simp only [Tr.size] at h1
              rcases (show Px.bit a qn = 0 ∨ Px.bit a qn = 1 by omega) with e | e
              · exact ⟨l, by rw [e]; exact Tr.tail_get 1, HLI.out, ol, by omega, by rw [HP.out]; simp [Tr.path, hc, h32, e]⟩
              · exact ⟨r, by rw [e]; exact Tr.tail_get 2, HRI.out, or_, by omega, by rw [HP.out]; simp [Tr.path, hc, h32, e]⟩
            have c1 := Tr.cell1 (HN0.out _ HBZ.out)
            simp only [] at c1
            have cS := (Tr.cell_at (HN0.out _ HBZ.out) (260 + Px.bit a qn)).trans hS1
            have HS2 := Lib.hid hS2
            have HS3 := Lib.hid hS3
            have HS5 := Lib.hid hS5
            have HBT := fun w => Lib.hid (bit_any a qn w ha (by omega))
            clear hS1 hS2 hS3 hS5 hc h32
            generalize Px.bit a qn = bt at *
            generalize hsp : S.ptr = sp at *
            have HSP := Lib.hid hsp.symm
            clear hsp
            go_wp2
            go_quiet ((go_at_call 50; exact Calls.quiet_of_same ((HBT _).out.mono fun e w' ⟨a, b⟩ => ⟨a, b.symm⟩)))
            go_wp2
            go_roundg S.size
            case measure => omega
            case rel => exact ⟨S, (pre ++ [((qa, qn), v)]), _, rfl, HSP.out, HS2, HS3, Lib.hid (Nat.le_refl _), HS5, Lib.hid (by first | exact HBZ.out | exact HBZ.out.drew | exact HBZ.out.drewN _), Lib.hid (by first | exact HRZ.out | exact World.ownsRow.drew HRZ.out)⟩
      · have HE := Lib.hid (show T.path a = pre by rw [HP.out]; simp [Tr.path, hc])
        have hmk := mask_and a qn ha hq2
        have HMK := Lib.hid hmk
        have e1 : ¬ ((fst a qn : Nat) : Int) = (qa : Nat) := by omega
        clear hmk
        go_wp2
        go_quiet ((go_at_call 66; exact Calls.quiet_of_same ((mask_any qn _ hq2).mono fun e w' ⟨a, b⟩ => ⟨a, b.symm⟩)))
        have hmk := HMK.out
        generalize bits .and .u32 (a : Int) ((4294967296 - 2 ^ (32 - qn) : Nat) : Int) = m at *
        subst hmk
        go_wp2_with fail
        obtain ⟨o5, n5, c5, e5⟩ : ∃ o n c, v5 = .slice o n c := by
          rcases HR.out.2 with ⟨h, _⟩ | ⟨g, c, _, h, _⟩
          · exact ⟨_, _, _, h⟩
          · exact ⟨_, _, _, h⟩
        subst e5
        refine (over_any o5 n5 c5 _).mono ?_
        rintro e w2 ⟨rfl, rfl⟩
        go_wp2
        go_ret
        exact ⟨(HB.out.drewN nq).alloc HB.out.size _, wr.heap.size, _, rfl, HB.out.size, World.cell?_alloc_at _ _ _ 0 rfl, by rw [HE.out]; exact World.ownsRow.alloc (w := wr.drewN nq) HR.out _⟩
end Go.Proofs.Ytbcekjbckeljmaa
