/- FibMeans: what is picked is among the ports, whatever the hash, and each of these is picked by some; what no prefix has, or is rejected, goes nowhere. -/
import Derived.Test.YtbcekjbckeljmaaOn
import Derived.Test.YtbcekjbckeljmaaOe
import Derived.Maps.Own
import Derived.Maps.OwnOps
set_option linter.unusedVariables false
set_option linter.unusedSimpArgs false
namespace Go.Proofs.Ytbcekjbckeljmaa
open Go.RowKit Px Go.Maps
set_option maxHeartbeats 1000000
set_option maxRecDepth 10000
attribute [local go_sem high] eql47 neq47 loadRow_way loadRow_arr wayA_back arrA_back
attribute [local go_sem low] loadRowOf_some
attribute [local go_sem ↓] load54 store54 alloc54 load52 store52 alloc52 build180 build185
attribute [local go_sem] rload54 rstore54 rload52 rstore52 ralloc54 ralloc52 rbuild180 rbuild185 rfork180
attribute [local go_sem] size_drewN rowAt_alloc_past rowAt_alloc_at rowAt_drew rowAt_drewN thawed_alloc_past thawed_alloc_at thawed_drew thawed_drewN okCells_way storeRowOf_some putRow_drew putRow_drewN putRow_alloc_past putRow_alloc_at wayA_size wayA_toList cells_way arrA_toList cells_arr
attribute [local go_sem] thawed_setCell rowAt_setCell_lt rowAt_setCell_gt cell?_putRow_lt cell?_putRow_gt frozen?_putRow_lt frozen?_putRow_gt pfA_lit wayCells_length

/-- how an element struct{ is bool } reads -/
def sElem : Value → Option (DataW Unit × List MemPlace)
  | .agg cs => match cs.toList with
    | [.bool x] => some (.agg [.lit (.bool x)], [])
    | _ => none
  | _ => none
theorem sElem_inv {v : Value} {x : Bool} {ps : List MemPlace} (h : sElem v = some (.agg [.lit (.bool x)], ps)) : v = .agg #[.bool x] := by
  cases v with
  | agg cs =>
    unfold sElem at h
    simp only at h
    split at h
    · rename_i y hy
      simp at h
      rw [← h.1]
      congr 1
      exact Array.toList_inj.1 hy
    · cases h
  | _ => simp [sElem] at h
theorem zero57 (w : World) : (zeroValue 57).run Try.prog w = .ok (.agg #[.bool false]) w := by kernel_rfl
theorem fld57 (w : World) : (Instr.field 57 (.agg #[.bool true]) 0).run Try.prog w = .ok (.bool true) w := by kernel_rfl
def uB : DataW Unit := .agg [.lit (.bool true)]
theorem own_below {w w' : World} {b n : Nat} {D : DataW Unit} (h : w.ownsMap Try.prog 3 sElem b n D) (hb : Below w.heap.size w w') : w'.ownsMap Try.prog 3 sElem b n D := by
  have hlt := h.lt
  obtain ⟨es, clock, h1, h2⟩ := h
  exact ⟨es, clock, (hb.block b hlt).trans h1, h2⟩
theorem keyLit (x : Int) (h : 0 ≤ x ∧ x < 8) : keyOf Try.prog 3 (.int .i64 x) = some (.int .i64 x) :=
  keyOf_int_mk Try.underlying3 (by simp [Lit.wf, IntKind.min, IntKind.max, IntKind.signed, IntKind.bits]; omega)
theorem atKey_fold (x : Int) (z : DataW Unit) : ∀ (l : List Int) (m : DataW Unit), IsMap m → (x ∈ l ∨ m.atKey (.int .i64 x) z = uB) → ((l.map (Lit.int .i64)).foldl (fun m y => m.put y uB) m).atKey (.int .i64 x) z = uB
  | [], m, _, h => by simpa using h
  | y :: l, m, hm, h => by
    rw [List.map_cons, List.foldl_cons]
    refine atKey_fold x z l _ (hm.put _ _) ?_
    by_cases hxy : x = y
    · subst hxy
      exact .inr (atKey_put_same hm (by trivial) _ _)
    · rcases h with h | h
      · rcases List.mem_cons.1 h with h | h
        · exact absurd h hxy
        · exact .inl h
      · refine .inr ?_
        rw [atKey_put_other (fun e => hxy (by injection e))]
        exact h
theorem seen_look {w : World} {b n : Nat} {l : List Int} (h : w.ownsMap Try.prog 3 sElem b n (setOf uB (l.map (Lit.int .i64)))) (hl : ∀ x ∈ l, 0 ≤ x ∧ x < 8) {x : Int} (hx : x ∈ l) :
    (Instr.lookup 54 (.map (some b)) (.int .i64 x) false).run Try.prog w = .ok (.agg #[.bool true]) w := by
  obtain ⟨v, ps, h1, h2⟩ := h.lookup (int_keyed Try.underlying3) Try.underlying54 (zero57 w) (zd := .agg [.lit (.bool false)]) (zp := []) rfl (keyLit x (hl x hx))
  have e : (setOf uB (l.map (Lit.int .i64))).atKey (.int .i64 x) (.agg [.lit (.bool false)]) = uB := by
    exact atKey_fold x _ l _ isMap_empty (.inl hx)
  rw [e] at h2
  rw [sElem_inv h2] at h1
  exact h1
theorem RtS0.keep2 {w w' : World} {o : Option Addr} {L : List Rt} (h : RtS0 w o L) (hb : Below w.heap.size w w') : RtS0 w' o L := by
  intro i hi
  obtain ⟨a, ha, c0, c1, c2, c3, c4, c5, hr⟩ := h i hi
  exact ⟨a, ha, pw_cell hb c0, pw_cell hb c1, pw_cell hb c2, pw_cell hb c3, pw_cell hb c4, pw_cell hb c5, ⟨hr.a, hr.s.keep hb⟩⟩
theorem fibMeans_any (o : Option Addr) (cap : Nat) (L : List Rt) (a : Nat) (w : World) (hS : RtS0 w o L) (ha : a < 4294967296) :
    Calls Try.prog 5 #[.slice o L.length cap, .int .u32 a] w fun e w' => e = .returned (.bool true) ∧ Below w.heap.size w w' := by
  have hmm := @run_makeMap Try.prog
  by_cases h300 : 300 < L.length
  · have hl : (300 : Int) < L.length := by omega
    go_enter Try.func5, Try.ntmps5
    go_wp2_with fail
    refine (known_any w).mono ?_
    rintro e w1 ⟨rfl, hb1⟩
    go_wp2
    go_ret
    exact ⟨rfl, hb1⟩
  · have hl : ¬ (300 : Int) < L.length := by omega
    have HS := Lib.hid hS
    have HH := Lib.hid hmm
    clear hS hmm
    go_enter Try.func5, Try.ntmps5
    go_wp2_with fail
    refine (known_any w).mono ?_
    rintro e w1 ⟨rfl, hb1⟩
    have HB1 := Lib.hid hb1
    have HS1 := Lib.hid (HS.out.keep2 hb1)
    clear hb1
    go_wp2_with fail
    refine (much_any o cap L _ HS1.out).mono ?_
    rintro e w' ⟨b, rfl, hlen, rfl⟩
    cases b with
    | true =>
      go_wp2
      go_ret
      exact ⟨rfl, HB1.out⟩
    | false =>
      have hR := HS1.out.full (hlen rfl)
      have hM := Lib.hid (make_any o cap L _ hR (by omega))
      clear hlen HS HS1 hR
      go_wp2_with fail
      refine hM.out.mono ?_
      clear hM
      rintro e w2 ⟨hb2, he⟩
      have HB2 := Lib.hid (HB1.out.trans (hb2.mono HB1.out.size))
      clear hb2
      cases hmk : makeL L [] with
      | none =>
        rw [hmk] at he
        have he' : e = .returned (.tuple #[.pointer none, .int .i64 2]) := he
        subst he'
        clear he hmk
        go_wp2_with fail
        refine (num_any _ _).mono ?_
        rintro e w' ⟨rfl, rfl⟩
        go_wp2
        go_ret
        exact ⟨rfl, HB2.out⟩
      | some acc =>
        rw [hmk] at he
        have hwok := makeL_ways _ _ _ hmk (by simp)
        clear hmk
        obtain ⟨fb, tb, T, rfl, hF⟩ : ∃ fb tb T, e = .returned (.tuple #[.pointer (some ⟨fb, 0, none⟩), .int .i64 0]) ∧ MkF w1 w2 fb tb T L.length acc := he
        have HF := Lib.hid hF
        have HY := Lib.hid (lkE_yes ha hF.wf hF.t.okp)
        have HNO := Lib.hid (lkE_no ha hF.wf hF.t.okp)
        have HWK : Hid (WayOk (lkE T a).1.2 ∧ ((lkE T a).2 = false → (lkE T a).1.2 = zWay)) := Lib.hid (by
          cases h : (lkE T a).2 with
          | true => exact ⟨hwok _ ((hF.e _).1 (HY.out h).1), by simp⟩
          | false => rw [(HNO.out h).1]; exact ⟨zWay_ok, fun _ => rfl⟩)
        have HLK := Lib.hid (lookup_any T a _ fb tb _ _ w2 hF.fcell hF.t hF.wf ha)
        have HPO := Lib.hid (fun w' (h : MkF w1 w' fb tb T L.length acc) => fports_any T a _ fb tb _ _ w' h.fcell h.t h.wf ha)
        have HPK := Lib.hid (fun w' (h : MkF w1 w' fb tb T L.length acc) k hk => fpick_any T a k _ fb tb _ _ w' h.fcell h.t h.wf ha hk)
        clear hF hwok HY HNO
        generalize lkE T a = r at *
        obtain ⟨⟨⟨pa, pl⟩, v⟩, is⟩ := r
        simp only [] at HWK HLK HPO HPK
        go_wp2_with fail
        refine (num_any _ _).mono ?_
        rintro e w' ⟨rfl, rfl⟩
        go_wp2_with fail
        refine HLK.out.mono ?_
        rintro e w3 ⟨rfl, hb3⟩
        have HF3 := Lib.hid (HF.out.keep hb3)
        have HB3 := Lib.hid (HB2.out.trans (hb3.mono HB2.out.size))
        clear hb3
        go_wp2_with fail
        have hq : Below w3.heap.size w3 ((w3.alloc (.cells #[.int .u32 pa, .int .i64 pl] 25)).alloc (.cells (wayA v) 33)) := ((Below.refl _ _).alloc (Nat.le_refl _) _).alloc (by simp) _
        have hw8 : WayAt ((w3.alloc (.cells #[.int .u32 pa, .int .i64 pl] 25)).alloc (.cells (wayA v) 33)) (w3.heap.size + 1) v := heap_alloc_at _ _ _ (by simp)
        generalize (w3.alloc (.cells #[.int .u32 pa, .int .i64 pl] 25)).alloc (.cells (wayA v) 33) = w4 at *
        have HF4 := Lib.hid (HF3.out.keep hq)
        have HB4 := Lib.hid (HB3.out.trans (hq.mono HB3.out.size))
        refine (HPO.out w4 HF4.out).mono ?_
        rintro e w5 ⟨hb5, o5, cap5, rfl, hp5⟩
        have HF5 := Lib.hid (HF4.out.keep hb5)
        have HB5 := Lib.hid (HB4.out.trans (hb5.mono HB4.out.size))
        have HW5 := Lib.hid (hw8.below hb5)
        have HP5 := Lib.hid hp5
        clear hq hw8 hb5 hp5
        have hmm := HH.out
        by_cases hk3 : v.k = 3
        · have his : is = true := by
            cases is with
            | true => rfl
            | false => have := HWK.out.2 rfl; rw [this] at hk3; exact absurd hk3 (by decide)
          subst his
          obtain ⟨vk, b, hb⟩ := v
          simp only at hk3
          subst hk3
          have hbw : ∀ x ∈ b, 0 ≤ x ∧ x < 8 := HWK.out.1.2
          have HBW := Lib.hid hbw
          clear hbw
          have HPQ := Lib.hid (show ∀ w' (k : Nat), MkF w1 w' fb tb T L.length acc → k < 256 → (Calls Try.prog 19 #[.pointer (some ⟨fb, 0, none⟩), .int .u32 a, .int .u32 k] w' fun e w'' => e = .returned (.tuple #[.int .i64 3, .int .i64 (b.getD k 0)]) ∧ Below w'.heap.size w' w'') ∧ (Calls Try.prog 19 #[.pointer (some ⟨fb, 0, none⟩), .int .u32 a, .int .u32 ((k : Int) + 1048576)] w' fun e w'' => e = .returned (.tuple #[.int .i64 3, .int .i64 (b.getD k 0)]) ∧ Below w'.heap.size w' w'') from fun w' k hF hk => by
            have h1 := HPK.out w' hF k (by omega)
            have h2 := HPK.out w' hF (k + 1048576) (by omega)
            rw [show (k + 1048576) % 256 = k by omega, show ((k + 1048576 : Nat) : Int) = (k : Int) + 1048576 by omega] at h2
            rw [show k % 256 = k by omega] at h1
            exact ⟨h1, h2⟩)
          go_wp2
          clear hmm
          go_loopg [12] 256 (fun g i wr => ∃ k : Nat, i = .int .i64 k ∧ k ≤ 256 ∧ Hid (g = 256 - k) ∧ Hid (Below w5.heap.size w5 wr) ∧ Hid (wr.ownsMap Try.prog 3 sElem w5.heap.size k (setOf uB ((b.take k).map (Lit.int .i64)))))
          case atStart => exact ⟨0, rfl, by omega, Lib.hid rfl, Lib.hid ((Below.refl _ _).alloc (Nat.le_refl _) _), Lib.hid (World.ownsMap_made w5 Try.prog 3 sElem)⟩
          case round =>
            obtain ⟨k, rfl, hk, HK, HBR, HO⟩ := hrel
            by_cases hlt : k < 256
            · obtain ⟨p, HBK, hkey, HPP⟩ : ∃ p : Int, Hid (b.take (k + 1) = b.take k ++ [p]) ∧ keyOf Try.prog 3 (.int .i64 p) = some (.int .i64 p) ∧ Hid (∀ w', MkF w1 w' fb tb T L.length acc → (Calls Try.prog 19 #[.pointer (some ⟨fb, 0, none⟩), .int .u32 a, .int .u32 k] w' fun e w'' => e = .returned (.tuple #[.int .i64 3, .int .i64 p]) ∧ Below w'.heap.size w' w'') ∧ (Calls Try.prog 19 #[.pointer (some ⟨fb, 0, none⟩), .int .u32 a, .int .u32 ((k : Int) + 1048576)] w' fun e w'' => e = .returned (.tuple #[.int .i64 3, .int .i64 p]) ∧ Below w'.heap.size w' w'')) := by
                refine ⟨b.getD k 0, Lib.hid ?_, keyLit _ (HBW.out _ ?_), Lib.hid fun w' h => HPQ.out w' k h hlt⟩
                · rw [List.take_succ_eq_append_getElem (show k < b.length by omega)]
                  simp [List.getD_eq_getElem?_getD, show k < b.length by omega]
                · rw [show b.getD k 0 = b[k]'(by omega) by simp [List.getD_eq_getElem?_getD, show k < b.length by omega]]
                  exact List.getElem_mem _
              obtain ⟨P1, -⟩ := HPP.out wr (HF5.out.keep HBR.out)
              have P1 := Lib.hid P1
              go_wp2_with fail
              refine P1.out.mono ?_
              rintro e w6 ⟨rfl, hb6⟩
              have HBR6 := Lib.hid (HBR.out.trans (hb6.mono HBR.out.size))
              have HO6 := Lib.hid (own_below HO.out hb6)
              clear hb6
              obtain ⟨-, P2⟩ := HPP.out w6 (HF5.out.keep HBR6.out)
              have P2 := Lib.hid P2
              go_wp2_with fail
              refine P2.out.mono ?_
              rintro e w7 ⟨rfl, hb7⟩
              have HBR7 := Lib.hid (HBR6.out.trans (hb7.mono HBR6.out.size))
              have HO7 := Lib.hid (own_below HO6.out hb7)
              clear hb7
              have c8 := (HW5.out.below HBR7.out).cell
              simp only [] at c8
              go_wp2_with (at_mapUpdate; refine wpList_mapUpdate_own _ rfl _ _ _ 54 rfl 3 57 (int_keyed Try.underlying3) Try.underlying54 sElem w5.heap.size k _ rfl HO7.out (by unfold maxLen; omega) _ _ (Lit.int .i64 p) rfl rfl hkey (.agg [.lit (.bool true)]) [] rfl ?_; intro w8 hown8 hgrow8)
              go_roundg (256 - k - 1)
              case measure => have := HK.out; omega
              case rel => exact ⟨k + 1, by go_num, by omega, Lib.hid (by omega), Lib.hid (HBR7.out.grown hgrow8 HBR7.out.size (fun j hj => by cases hj; exact Nat.le_refl _)), Lib.hid (by rw [HBK.out, List.map_append]; erw [setOf_snoc]; exact hown8)⟩
            · obtain rfl : k = 256 := by omega
              have ho := HO.out
              rw [← hb, List.take_length] at ho
              have hlk := fun x hx => seen_look ho HBW.out (x := x) hx
              have hlen := ho.len Try.underlying54 3
              rw [size_setOf _ _ (by intro x hx; obtain ⟨y, _, rfl⟩ := List.mem_map.1 hx; trivial), ports_count] at hlen
              have hpo : portsOf ⟨3, b, hb⟩ = Lib.compact (b.mergeSort fun x y => decide (x ≤ y)) := rfl
              have hpm : ∀ x ∈ portsOf ⟨3, b, hb⟩, x ∈ b := fun x hx => ((compact_spec b).1 x).1 (by rw [← hpo]; exact hx)
              have hsz : (portsOf ⟨3, b, hb⟩).length ≤ 256 := by
                rw [hpo, ← hb]
                exact nodup_sub _ _ (compact_spec b).2 (fun x hx => ((compact_spec b).1 x).1 hx)
              rw [← hpo] at hlen
              clear hpo ho
              have HPM := Lib.hid hpm
              have HLK2 := Lib.hid hlk
              have HPC := Lib.hid (show ∀ j, (h : j < (portsOf ⟨3, b, hb⟩).length) → ∃ g, o5 = some ⟨g, 0, none⟩ ∧ wr.cell? ⟨g, j, none⟩ = some (.int .i64 (portsOf ⟨3, b, hb⟩)[j]) from fun j h => by
                obtain ⟨g, hg, hc⟩ := HP5.out j h
                exact ⟨g, hg, pw_cell HBR.out hc⟩)
              have HBE := Lib.hid (HB5.out.trans (HBR.out.mono HB5.out.size))
              clear hpm hlk HBR HO HP5
              have HLEN := Lib.hid hlen
              clear hlen
              generalize portsOf _ = ps at *
              go_wp2
              go_loopg [17] ps.length (fun g i wx => ∃ j : Nat, i = .int .i64 j ∧ j ≤ ps.length ∧ Hid (g = ps.length - j) ∧ Hid (wr = wx))
              case atStart => exact ⟨0, rfl, by omega, Lib.hid rfl, Lib.hid rfl⟩
              case round =>
                obtain ⟨j, rfl, hj, HJ, HX⟩ := hrel
                have hx := HX.out
                subst hx
                by_cases hjl : j < ps.length
                · obtain ⟨g, rfl, hc⟩ := HPC.out j hjl
                  have hl := HLK2.out ps[j] (HPM.out _ (List.getElem_mem _))
                  generalize ps[j] = q at *
                  have hfd := fld57 wr
                  go_wp2
                  go_roundg (ps.length - j - 1)
                  case measure => have := HJ.out; omega
                  case rel => exact ⟨j + 1, by go_num, by omega, Lib.hid (by omega), Lib.hid rfl⟩
                · obtain rfl : j = ps.length := by omega
                  have hlen := HLEN.out
                  go_wp2
                  go_ret
                  exact ⟨rfl, HBE.out⟩
        · have HVB := Lib.hid (HWK.out.1.1 hk3)
          have hpo : portsOf v = [] := if_neg hk3
          rw [hpo] at HP5
          have HPQ := Lib.hid (show ∀ w' (k : Nat), MkF w1 w' fb tb T L.length acc → k < 256 → (Calls Try.prog 19 #[.pointer (some ⟨fb, 0, none⟩), .int .u32 a, .int .u32 k] w' fun e w'' => e = .returned (.tuple #[.int .i64 v.k, .int .i64 0]) ∧ Below w'.heap.size w' w'') ∧ (Calls Try.prog 19 #[.pointer (some ⟨fb, 0, none⟩), .int .u32 a, .int .u32 ((k : Int) + 1048576)] w' fun e w'' => e = .returned (.tuple #[.int .i64 v.k, .int .i64 0]) ∧ Below w'.heap.size w' w'') from fun w' k hF hk => by
            have h1 := HPK.out w' hF k (by omega)
            have h2 := HPK.out w' hF (k + 1048576) (by omega)
            rw [show (k + 1048576) % 256 = k by omega, show ((k + 1048576 : Nat) : Int) = (k : Int) + 1048576 by omega] at h2
            rw [show k % 256 = k by omega] at h1
            have hz : v.b.getD k 0 = 0 := by
              rw [HVB.out]
              have : zArr.getD k 0 ∈ zArr := by
                rw [show zArr.getD k 0 = zArr[k]'(by simp [zArr]; omega) by simp [List.getD_eq_getElem?_getD, zArr, hk]]
                exact List.getElem_mem _
              exact List.eq_of_mem_replicate this
            simp only [hz] at h1 h2
            exact ⟨h1, h2⟩)
          have HKZ := Lib.hid (show is = false → v.k = 0 from fun h => by rw [HWK.out.2 h]; rfl)
          obtain ⟨vk, b, hb⟩ := v
          simp only [] at hk3 HPQ HKZ
          clear HPK HPO HWK
          rw [hpo]
          clear hpo
          cases is with
          | true =>
            go_wp2
            clear hmm
            go_loopg [12] 256 (fun g i wr => ∃ k : Nat, i = .int .i64 k ∧ k ≤ 256 ∧ Hid (g = 256 - k) ∧ Hid (Below w5.heap.size w5 wr) ∧ Hid (wr.ownsMap Try.prog 3 sElem w5.heap.size 0 (setOf uB [])))
            case atStart => exact ⟨0, rfl, by omega, Lib.hid rfl, Lib.hid ((Below.refl _ _).alloc (Nat.le_refl _) _), Lib.hid (World.ownsMap_made w5 Try.prog 3 sElem)⟩
            case round =>
              obtain ⟨k, rfl, hk, HK, HBR, HO⟩ := hrel
              by_cases hlt : k < 256
              · obtain ⟨P1, -⟩ := HPQ.out wr k (HF5.out.keep HBR.out) hlt
                have P1 := Lib.hid P1
                go_wp2_with fail
                refine P1.out.mono ?_
                rintro e w6 ⟨rfl, hb6⟩
                have HBR6 := Lib.hid (HBR.out.trans (hb6.mono HBR.out.size))
                have HO6 := Lib.hid (own_below HO.out hb6)
                clear hb6
                obtain ⟨-, P2⟩ := HPQ.out w6 k (HF5.out.keep HBR6.out) hlt
                have P2 := Lib.hid P2
                go_wp2_with fail
                refine P2.out.mono ?_
                rintro e w7 ⟨rfl, hb7⟩
                have HBR7 := Lib.hid (HBR6.out.trans (hb7.mono HBR6.out.size))
                have HO7 := Lib.hid (own_below HO6.out hb7)
                clear hb7
                have c8 := (HW5.out.below HBR7.out).cell
                simp only [] at c8
                go_wp2
                go_roundg (256 - k - 1)
                case measure => have := HK.out; omega
                case rel => exact ⟨k + 1, by go_num, by omega, Lib.hid (by omega), HBR7, HO7⟩
              · obtain rfl : k = 256 := by omega
                have hlen := HO.out.len Try.underlying54 3
                have HBE := Lib.hid (HB5.out.trans (HBR.out.mono HB5.out.size))
                rw [show Maps.size (setOf uB []) = 0 from rfl] at hlen
                go_wp2
                go_loopg [17] 0 (fun g i wx => i = .int .i64 0 ∧ Hid (wr = wx))
                case atStart => exact ⟨rfl, Lib.hid rfl⟩
                case round =>
                  obtain ⟨rfl, HX⟩ := hrel
                  have hx := HX.out
                  subst hx
                  go_wp2
                  go_ret
                  exact ⟨rfl, HBE.out⟩
          | false =>
            have hv0 := HKZ.out rfl
            subst hv0
            go_wp2
            clear hmm
            go_loopg [12] 256 (fun g i wr => ∃ k : Nat, i = .int .i64 k ∧ k ≤ 256 ∧ Hid (g = 256 - k) ∧ Hid (Below w5.heap.size w5 wr) ∧ Hid (wr.ownsMap Try.prog 3 sElem w5.heap.size 0 (setOf uB [])))
            case atStart => exact ⟨0, rfl, by omega, Lib.hid rfl, Lib.hid ((Below.refl _ _).alloc (Nat.le_refl _) _), Lib.hid (World.ownsMap_made w5 Try.prog 3 sElem)⟩
            case round =>
              obtain ⟨k, rfl, hk, HK, HBR, HO⟩ := hrel
              by_cases hlt : k < 256
              · obtain ⟨P1, -⟩ := HPQ.out wr k (HF5.out.keep HBR.out) hlt
                have P1 := Lib.hid P1
                go_wp2_with fail
                refine P1.out.mono ?_
                rintro e w6 ⟨rfl, hb6⟩
                have HBR6 := Lib.hid (HBR.out.trans (hb6.mono HBR.out.size))
                have HO6 := Lib.hid (own_below HO.out hb6)
                clear hb6
                obtain ⟨-, P2⟩ := HPQ.out w6 k (HF5.out.keep HBR6.out) hlt
                have P2 := Lib.hid P2
                go_wp2_with fail
                refine P2.out.mono ?_
                rintro e w7 ⟨rfl, hb7⟩
                have HBR7 := Lib.hid (HBR6.out.trans (hb7.mono HBR6.out.size))
                have HO7 := Lib.hid (own_below HO6.out hb7)
                clear hb7
                have c8 := (HW5.out.below HBR7.out).cell
                simp only [] at c8
                go_wp2
                go_roundg (256 - k - 1)
                case measure => have := HK.out; omega
                case rel => exact ⟨k + 1, by go_num, by omega, Lib.hid (by omega), HBR7, HO7⟩
              · obtain rfl : k = 256 := by omega
                have hlen := HO.out.len Try.underlying54 3
                have HBE := Lib.hid (HB5.out.trans (HBR.out.mono HB5.out.size))
                rw [show Maps.size (setOf uB []) = 0 from rfl] at hlen
                go_wp2
                go_loopg [17] 0 (fun g i wx => i = .int .i64 0 ∧ Hid (wr = wx))
                case atStart => exact ⟨rfl, Lib.hid rfl⟩
                case round =>
                  obtain ⟨rfl, HX⟩ := hrel
                  have hx := HX.out
                  subst hx
                  go_wp2
                  go_ret
                  exact ⟨rfl, HBE.out⟩
end Go.Proofs.Ytbcekjbckeljmaa
