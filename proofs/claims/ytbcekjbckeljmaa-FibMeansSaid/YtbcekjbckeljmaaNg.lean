/- The walk of split.Shares. -/
import Derived.Test.YtbcekjbckeljmaaNf
import Derived.Deep.AppendLies
import Derived.OwnWalk
import Derived.Laws.EntriesVeiled
set_option linter.unusedVariables false
set_option linter.unusedSimpArgs false
namespace Go.Proofs.Ytbcekjbckeljmaa
open Go.RowKit Go.Sort
set_option maxHeartbeats 1000000
set_option maxRecDepth 10000

theorem infoInt : (Try.prog.info? 3).map (fun i => (i.zero, i.size, i.bytes)) = some (some (.int .i64 0), 1, 8) := by kernel_rfl
theorem row_below {B : Nat} {e : TypeId} {k : Nat} {v : Value} {n : Nat} {xs : List Value} {w w' : World} (h : w.ownsRow B e k v n xs) (hb : Below w.heap.size w w') : w'.ownsRow B e k v n xs := by
  refine ⟨h.1, ?_⟩
  rcases h.2 with h2 | ⟨g, cap, cur, hv, hg, hh, rest⟩
  · exact .inl h2
  · refine .inr ⟨g, cap, cur, hv, hg, ?_, rest⟩
    rw [hb.block g (Array.getElem?_eq_some_iff.1 hh).1]; exact hh
/-- what stands beside the rows -/
structure ShB (w wr : World) (l : List (Int × Int)) (o : Option Addr) (cap b1 b4 : Nat) (s : Int) : Prop where
  f : ShF wr l o cap b1 b4 s
  z : wr.frozen? ⟨b4, 0, none⟩ = false
  b : Below w.heap.size w wr
  l1 : w.heap.size ≤ b1
  l4 : b1 < b4
  lo : ∀ a, o = some a → a.block < w.heap.size
theorem ShB.keep {w wr wr' : World} {l : List (Int × Int)} {o : Option Addr} {cap b1 b4 : Nat} {s : Int} (h : ShB w wr l o cap b1 b4 s) (hb : Below wr.heap.size wr wr') : ShB w wr' l o cap b1 b4 s := by
  have hlt := World.block_lt_of_cell? wr _ h.f.a
  refine ⟨⟨pw_cell hb h.f.s, pw_cell hb h.f.a, h.f.p.keep hb⟩, ?_, h.b.trans (hb.mono h.b.size), h.l1, h.l4, h.lo⟩
  rw [World.frozen?_of_block (w := wr) (hb.block _ hlt)]; exact h.z
theorem ShB.bump {w wr : World} {l : List (Int × Int)} {o : Option Addr} {cap b1 b4 : Nat} {s : Int} (h : ShB w wr l o cap b1 b4 s) (s' : Int) : ShB w (wr.setCell ⟨b4, 0, none⟩ (.int .i64 s')) l o cap b1 b4 s' := by
  have hl1 := h.l1
  have hl4 := h.l4
  have hs : wr.heap.size = (wr.setCell ⟨b4, 0, none⟩ (.int .i64 s')).heap.size := by simp
  refine ⟨⟨?_, World.cell?_setCell_same _ _ _ h.f.a, ?_⟩, ?_, h.b.setCell (show w.heap.size ≤ b4 by omega) _, h.l1, h.l4, h.lo⟩
  · rw [World.cell?_setCell_other _ _ _ _ (by intro e; simp only [Addr.mk.injEq] at e; omega)]; exact h.f.s
  · intro i hi
    obtain ⟨a, ha, c0, c1, hb⟩ := h.f.p i hi
    have hlo := h.lo a ha
    refine ⟨a, ha, ?_, ?_, by rw [← hs]; exact hb⟩
    · rw [World.cell?_of_block (w := wr) (heap_setCell_other _ _ _ _ (by rw [add_block]; show _ ≠ b4; omega))]; exact c0
    · rw [World.cell?_of_block (w := wr) (heap_setCell_other _ _ _ _ (by show (a.add (i * 2)).block ≠ b4; rw [add_block]; omega))]; exact c1
  · rw [World.frozen?_setCell]; exact h.z
theorem heap_alloc_at (w : World) (o : Obj) (k : Nat) (h : w.heap.size = k) : (w.alloc o).heap[k]? = some o := by
  subst h
  show (w.heap.push o)[w.heap.size]? = some o
  exact Array.getElem?_push_size
theorem row_same {w w' : World} {B n cap g : Nat} {e : TypeId} {k : Nat} {xs : List Value} (h : w.ownsRow B e k (.slice (some ⟨g, 0, none⟩) n cap) n xs) (hh : w'.heap[g]? = w.heap[g]?) : w'.ownsRow B e k (.slice (some ⟨g, 0, none⟩) n cap) n xs := by
  refine ⟨h.1, ?_⟩
  rcases h.2 with ⟨h2, _⟩ | ⟨g', cap', cur, hv, hg, hc, rest⟩
  · simp at h2
  · have e := hv
    injection e with e1 e2 e3
    injection e1 with e1
    injection e1 with e1 _
    subst e1
    exact .inr ⟨g, cap', cur, hv, hg, hh.trans hc, rest⟩
theorem row_mono {w : World} {B B' n k : Nat} {e : TypeId} {v : Value} {xs : List Value} (h : w.ownsRow B e k v n xs) (hb : B' ≤ B) : w.ownsRow B' e k v n xs := by
  refine ⟨h.1, ?_⟩
  rcases h.2 with h2 | ⟨g', cap', cur, hv, hg, rest⟩
  · exact .inl h2
  · exact .inr ⟨g', cap', cur, hv, Nat.le_trans hb hg, rest⟩
def outRow (l : List (Int × Int)) (n : Nat) : List Value := (List.range n).map fun i => .int .i64 (baseN l i)
def idxRow (n : Nat) : List Value := (List.range n).map fun (i : Nat) => .int .i64 (i : Int)
theorem outRow_succ (l : List (Int × Int)) (n : Nat) : outRow l (n + 1) = outRow l n ++ [.int .i64 (baseN l n)] := by simp [outRow, List.range_succ]
theorem idxRow_succ (n : Nat) : idxRow (n + 1) = idxRow n ++ [.int .i64 (n : Int)] := by simp [idxRow, List.range_succ]
/-- apart from two rows -/
structure Apart (v7 v8 : Value) (w w' : World) : Prop where
  os : w'.os = w.os
  tape : w'.tape = w.tape
  output : w'.output = w.output
  size : w.heap.size ≤ w'.heap.size
  block : ∀ k, k < w.heap.size → some k ≠ v7.ownBlock → some k ≠ v8.ownBlock → w'.heap[k]? = w.heap[k]?
theorem Apart.refl (v7 v8 : Value) (w : World) : Apart v7 v8 w w := ⟨rfl, rfl, rfl, Nat.le_refl _, fun _ _ _ _ => rfl⟩
theorem Apart.below {v7 v8 : Value} {w a b : World} (h : Apart v7 v8 w a) (hb : Below a.heap.size a b) : Apart v7 v8 w b :=
  ⟨hb.os.trans h.os, hb.tape.trans h.tape, hb.output.trans h.output, Nat.le_trans h.size hb.size, fun k hk h1 h2 => (hb.block k (Nat.lt_of_lt_of_le hk h.size)).trans (h.block k hk h1 h2)⟩
theorem Apart.drew {v7 v8 : Value} {w a : World} (h : Apart v7 v8 w a) : Apart v7 v8 w a.drew := h.below ((Below.refl _ _).drew)
theorem Apart.alloc {v7 v8 : Value} {w a : World} (h : Apart v7 v8 w a) (o : Obj) : Apart v7 v8 w (a.alloc o) := h.below ((Below.refl _ _).alloc (Nat.le_refl _) o)
theorem Apart.grown {v7 v8 : Value} {w a b : World} {r : Option Nat} (h : Apart v7 v8 w a) (hg : a.grownBy b r) (hr : r = v7.ownBlock ∨ r = v8.ownBlock) : Apart v7 v8 w b :=
  ⟨hg.os.trans h.os, hg.tape.trans h.tape, hg.output.trans h.output, Nat.le_trans h.size hg.size, fun k hk h1 h2 => (hg.block k (Nat.lt_of_lt_of_le hk h.size) (by rcases hr with rfl | rfl <;> assumption)).trans (h.block k hk h1 h2)⟩
theorem Apart.cell {v7 v8 : Value} {w a : World} (h : Apart v7 v8 w a) {p : Addr} {v : Value} (hp : w.cell? p = some v) (h7 : some p.block ≠ v7.ownBlock) (h8 : some p.block ≠ v8.ownBlock) : a.cell? p = some v := by
  rw [World.cell?_of_block (w := w) (h.block _ (World.block_lt_of_cell? w _ hp) h7 h8)]; exact hp
theorem ShB.apart {w wr wr' : World} {l : List (Int × Int)} {o : Option Addr} {cap b1 b4 : Nat} {s : Int} (h : ShB w wr l o cap b1 b4 s) {v7 v8 : Value} (hA : Apart v7 v8 wr wr') (h7 : ∀ k, v7.ownBlock = some k → b4 < k) (h8 : ∀ k, v8.ownBlock = some k → b4 < k) : ShB w wr' l o cap b1 b4 s := by
  have hl1 := h.l1
  have hl4 := h.l4
  have n7 : ∀ k, k ≤ b4 → some k ≠ v7.ownBlock := fun k hk e => by have := h7 k e.symm; omega
  have n8 : ∀ k, k ≤ b4 → some k ≠ v8.ownBlock := fun k hk e => by have := h8 k e.symm; omega
  refine ⟨⟨hA.cell h.f.s (n7 _ (by show b1 ≤ b4; omega)) (n8 _ (by show b1 ≤ b4; omega)), hA.cell h.f.a (n7 _ (Nat.le_refl _)) (n8 _ (Nat.le_refl _)), ?_⟩, ?_, ?_, h.l1, h.l4, h.lo⟩
  · intro i hi
    obtain ⟨a, ha, c0, c1, hb⟩ := h.f.p i hi
    have hlo := h.lo a ha
    have q0 : (a.add (i * 2)).block ≤ b4 := by rw [add_block]; omega
    exact ⟨a, ha, hA.cell c0 (n7 _ q0) (n8 _ q0), hA.cell c1 (n7 _ q0) (n8 _ q0), Nat.lt_of_lt_of_le hb hA.size⟩
  · rw [World.frozen?_of_block (w := wr) (hA.block _ (World.block_lt_of_cell? wr _ h.f.a) (n7 _ (Nat.le_refl _)) (n8 _ (Nat.le_refl _)))]; exact h.z
  · have hb := h.b
    exact ⟨hA.os.trans hb.os, hA.tape.trans hb.tape, hA.output.trans hb.output, Nat.le_trans hb.size hA.size, fun k hk => (hA.block k (Nat.lt_of_lt_of_le hk hb.size) (n7 _ (by omega)) (n8 _ (by omega))).trans (hb.block k hk)⟩
theorem shares_bad (o : Option Addr) (cap : Nat) (l : List (Int × Int)) (w : World) (hS : PairS w o l) (hlen : l.length < 100000) (hm : mayL l = false) :
    Calls Try.prog 45 #[.slice o l.length cap] w fun e w' => e = .returned (.tuple #[.slice none 0 0, .int .i64 2]) ∧ Below w.heap.size w w' := by
  have HS := Lib.hid (hS.keep ((Below.refl _ w).alloc (Nat.le_refl _) (.cells #[.slice o l.length cap] 26)))
  clear hS
  go_enter Try.func45, Try.ntmps45
  go_wp2_with fail
  refine (split_may o cap l _ HS.out hlen).mono ?_
  rw [hm]
  rintro e w1 ⟨rfl, hb1⟩
  go_wp2
  go_ret2
  exact ⟨rfl, ((Below.refl _ w).alloc (Nat.le_refl _) _).trans (hb1.mono (by simp))⟩
theorem shares_any (o : Option Addr) (cap : Nat) (l : List (Int × Int)) [Inhabited (Fin l.length)] (w : World) (hS : PairS w o l) (hlen : l.length < 100000) (hm : mayL l = true) :
    Calls Try.prog 45 #[.slice o l.length cap] w fun e w' => ∃ g cap', e = .returned (.tuple #[.slice (some ⟨g, 0, none⟩) l.length cap', .int .i64 0]) ∧ Below w.heap.size w w' ∧ w'.ownsRow w.heap.size 3 1 (.slice (some ⟨g, 0, none⟩) l.length cap') l.length ((List.range l.length).map fun i => .int .i64 (shr l (ordL l (allN l)) i)) := by
  have HL : Hid (∀ a, o = some a → a.block < w.heap.size) := Lib.hid (by
    intro a ha
    have := mayL_len hm
    obtain ⟨a', e, _, _, h⟩ := hS 0 (by omega)
    rw [ha] at e; injection e with e; rw [e]; exact h)
  have HS := Lib.hid hS
  have HM := Lib.hid hm
  clear hS hm
  go_enter Try.func45, Try.ntmps45
  go_wp2_with fail
  refine (split_may o cap l _ (HS.out.keep ((Below.refl _ w).alloc (Nat.le_refl _) _)) hlen).mono ?_
  rw [HM.out]
  rintro e w1 ⟨rfl, hb1⟩
  have hB1 := Lib.hid (((Below.refl _ w).alloc (Nat.le_refl _) (.cells #[.slice o l.length cap] 26)).trans (hb1.mono (by simp)))
  have hlt1 : w.heap.size < w1.heap.size := by have := hb1.size; simp at this; omega
  have c1 := pw_cell (a := ⟨w.heap.size, 0, none⟩) (v := .slice o l.length cap) hb1 (World.cell?_alloc_at _ _ _ 0 rfl)
  have c1 : (w1.alloc (.cells #[.int .i64 0] 3)).cell? ⟨w.heap.size, 0, none⟩ = some (.slice o l.length cap) := by rw [World.cell?_alloc_past _ _ _ hlt1]; exact c1
  have hW : Hid (ShB w (w1.alloc (.cells #[.int .i64 0] 3)) l o cap w.heap.size w1.heap.size 0) := by
    have hb : Below w.heap.size w (w1.alloc (.cells #[.int .i64 0] 3)) := hB1.out.alloc hB1.out.size _
    exact Lib.hid ⟨⟨c1, World.cell?_alloc_at _ _ _ 0 rfl, HS.out.keep hb⟩, by (have e := heap_alloc_new w1 (.cells #[.int .i64 0] 3); simp only [World.frozen?, e]; rfl), hb, Nat.le_refl _, hlt1, HL.out⟩
  clear hb1
  go_wp2
  clear c1
  go_loopg [20] l.length (fun k i wr => ∃ n : Nat, i = .int .i64 n ∧ n ≤ l.length ∧ Hid (k = l.length - n) ∧ Hid (ShB w wr l o cap w.heap.size w1.heap.size (sumTo (wN l) n)))
  case atStart => exact ⟨0, rfl, by omega, Lib.hid (by omega), hW⟩
  case round =>
    clear hW
    obtain ⟨n, rfl, hn, HK, HW⟩ := hrel
    by_cases hlt : n < l.length
    · obtain ⟨a, rfl, p0, p1, hab⟩ := HW.out.f.p n hlt
      have hd : wgt l[n].2 = wN l n := by simp [wN, List.getD_eq_getElem?_getD, hlt]
      have HWT := fun w => Lib.hid (weight_any l[n].1 l[n].2 w)
      rw [hd] at HWT
      have hs : sumTo (wN l) (n + 1) = sumTo (wN l) n + wN l n := rfl
      have hsb : -1000000000 ≤ sumTo (wN l) n + wN l n ∧ sumTo (wN l) n + wN l n ≤ 1000000000 := by
        have := sumTo_bd (f := wN l) (a := 0) (b := 65536) (n := n + 1) (fun i _ => wN_le l i)
        have h8 := mayL_len HM.out
        simp only [sumTo] at this
        omega
      have HSS := Lib.hid hs
      clear hs hd
      generalize sumTo (wN l) n = s at *
      generalize wN l n = q at *
      generalize l[n].1 = p at *
      generalize l[n].2 = d at *
      have HWR := HW
      go_wp2_with fail
      refine wp_gen (fun wx => ShB w wx l (some a) cap w.heap.size w1.heap.size s ∧ wx.cell? ⟨wr.heap.size, 0, none⟩ = some (.int .i64 p) ∧ wx.cell? ⟨wr.heap.size, 1, none⟩ = some (.int .i64 d)) ⟨HW.out.keep ((Below.refl _ wr).alloc (Nat.le_refl _) _), World.cell?_alloc_at _ _ _ 0 rfl, World.cell?_alloc_at _ _ _ 1 rfl⟩ ?_
      rintro wx ⟨hx, ca, cb⟩
      have HX := Lib.hid hx
      clear hx
      have K4 := Lib.hid (show ∀ w', Below wx.heap.size wx w' → w'.cell? ⟨w1.heap.size, 0, none⟩ = some (.int .i64 s) ∧ w'.cell? ⟨wr.heap.size, 0, none⟩ = some (.int .i64 p) ∧ w'.cell? ⟨wr.heap.size, 1, none⟩ = some (.int .i64 d) from
        fun w' h => ⟨(HX.out.keep h).f.a, pw_cell h ca, pw_cell h cb⟩)
      have KZ := Lib.hid (show ∀ w', Below wx.heap.size wx w' → w'.frozen? ⟨w1.heap.size, 0, none⟩ = false from fun w' h => (HX.out.keep h).z)
      have c4 := (K4.out _ (Below.refl _ _)).1
      have hwr : IntKind.i64.wrap (s + q) = s + q := by rw [IntKind.wrap_i64]; omega
      go_region_with ((go_at_call 51; refine (HWT _).out.mono ?_; rintro e w2 ⟨rfl, hb2⟩; have hB2 : Below wx.heap.size wx w2 := (by first | exact ((Below.refl _ wx).drew).trans hb2 | exact hb2); have z2 := KZ.out _ hB2; obtain ⟨k0, k1, k2⟩ := K4.out _ hB2; clear hb2))
      all_goals (clear k0 k1 k2 c4 ca cb)
      all_goals go_wp2
      all_goals (go_roundg (gk - 1))
      all_goals first
        | (have := HK.out; omega)
        | (refine ⟨n + 1, by go_num, by omega, Lib.hid (by have := HK.out; omega), Lib.hid ?_⟩
           rw [HSS.out]
           first
            | exact (HX.out.keep hB2).bump _
            | exact ((HX.out.keep hB2).bump _).keep ((Below.refl _ _).drew)
            | exact (((HX.out.keep hB2).keep ((Below.refl _ _).drew)).bump _)
            | exact ((((HX.out.keep hB2).keep ((Below.refl _ _).drew)).bump _).keep ((Below.refl _ _).drew)))
    · obtain rfl : n = l.length := by omega
      have c1 := HW.out.f.s
      have hsum : sumTo (wN l) l.length = allN l := rfl
      rw [hsum] at HW
      clear hsum
      have hall := allN_bd HM.out
      have hi := infoInt
      obtain ⟨i0, hi0, hz0, hz1, hz2⟩ := info_parts hi
      clear hi
      have HI := Lib.hid (And.intro hi0 (And.intro hz0 (And.intro hz1 hz2)))
      clear hi0 hz0 hz1 hz2
      go_wp2
      clear c1
      go_loopg [7, 8, 9, 31] l.length (fun k y7 y8 s9 i wr => ∃ (n : Nat) (v7 v8 : Value), v7 = y7 ∧ v8 = y8 ∧ i = .int .i64 n ∧ n ≤ l.length ∧ s9 = .int .i64 (256 - sumTo (baseN l) n) ∧ Hid (k = l.length - n) ∧ Hid (ShB w wr l o cap w.heap.size w1.heap.size (allN l)) ∧
        Hid (wr.ownsRow (w1.heap.size + 1) 3 1 v7 n (outRow l n)) ∧ Hid (wr.ownsRow (w1.heap.size + 1) 3 1 v8 n (idxRow n)) ∧ Hid (v7.ownBlock = none ∨ v7.ownBlock ≠ v8.ownBlock))
      case atStart => exact ⟨0, _, _, rfl, rfl, rfl, by omega, by simp [sumTo], Lib.hid (by omega), HW, Lib.hid (World.ownsRow_nil _ _ _ _), Lib.hid (World.ownsRow_nil _ _ _ _), Lib.hid (.inl rfl)⟩
      case round =>
        clear HW HK
        obtain ⟨n, v7, v8, e7, e8, rfl, hn, rfl, HK, HW, HR7, HR8, HNE⟩ := hrel
        subst e7
        subst e8
        by_cases hlt : n < l.length
        · obtain ⟨a, rfl, p0, p1, hab⟩ := HW.out.f.p n hlt
          have hd : wgt l[n].2 = wN l n := by simp [wN, List.getD_eq_getElem?_getD, hlt]
          have HWT := fun w => Lib.hid (weight_any l[n].1 l[n].2 w)
          rw [hd] at HWT
          clear hd
          generalize l[n].1 = p at *
          generalize l[n].2 = d at *
          go_wp2_with fail
          refine wp_gen (fun wx => ShB w wx l (some a) cap w.heap.size w1.heap.size (allN l) ∧ wx.cell? ⟨wr.heap.size, 0, none⟩ = some (.int .i64 p) ∧ wx.cell? ⟨wr.heap.size, 1, none⟩ = some (.int .i64 d) ∧ wx.ownsRow (w1.heap.size + 1) 3 1 v7 n (outRow l n) ∧ wx.ownsRow (w1.heap.size + 1) 3 1 v8 n (idxRow n))
            ⟨HW.out.keep ((Below.refl _ wr).alloc (Nat.le_refl _) _), World.cell?_alloc_at _ _ _ 0 rfl, World.cell?_alloc_at _ _ _ 1 rfl, HR7.out.alloc _, HR8.out.alloc _⟩ ?_
          have l7 := HR7.out.lt
          have l8 := HR8.out.lt
          have hgt : w1.heap.size < wr.heap.size := World.block_lt_of_cell? wr _ HW.out.f.a
          have hsx : (wr.alloc (.cells #[.int .i64 p, .int .i64 d] 65)).heap.size = wr.heap.size + 1 := by simp
          rintro wx ⟨hx, ca, cb, hr7, hr8⟩
          have hgx := World.block_lt_of_cell? wx _ ca
          have HX := Lib.hid hx
          clear hx
          have N7 : Hid (∀ k, v7.ownBlock = some k → w1.heap.size < k) := Lib.hid (fun k e => (l7 k e).1)
          have N8 : Hid (∀ k, v8.ownBlock = some k → w1.heap.size < k) := Lib.hid (fun k e => (l8 k e).1)
          have L7 : Hid (∀ k, wr.heap.size ≤ k → some k ≠ v7.ownBlock) := Lib.hid (fun k hk e => by have := (l7 k e.symm).2; omega)
          have L8 : Hid (∀ k, wr.heap.size ≤ k → some k ≠ v8.ownBlock) := Lib.hid (fun k hk e => by have := (l8 k e.symm).2; omega)
          clear l7 l8 hsx
          have NE8 : Hid (v8.ownBlock = none ∨ v8.ownBlock ≠ v7.ownBlock) := Lib.hid (by
            rcases HNE.out with h | h
            · by_cases e : v8.ownBlock = none
              · exact .inl e
              · exact .inr (by rw [h]; exact e)
            · exact .inr (Ne.symm h))
          have K4 := Lib.hid (show ∀ w', Apart v7 v8 wx w' → w'.cell? ⟨w1.heap.size, 0, none⟩ = some (.int .i64 (allN l)) ∧ w'.cell? ⟨wr.heap.size, 0, none⟩ = some (.int .i64 p) ∧ w'.cell? ⟨wr.heap.size, 1, none⟩ = some (.int .i64 d) from
            fun w' h => ⟨(HX.out.apart h N7.out N8.out).f.a, h.cell ca (L7.out _ (Nat.le_refl _)) (L8.out _ (Nat.le_refl _)), h.cell cb (L7.out _ (Nat.le_refl _)) (L8.out _ (Nat.le_refl _))⟩)
          have c4 := (K4.out _ (Apart.refl _ _ _)).1
          have hq := wN_le l n
          have hqb := baseN_bd HM.out n
          have HQB : Hid (256 * wN l n / allN l = baseN l n) := Lib.hid rfl
          generalize wN l n = q at *
          generalize allN l = all at *
          have hS := sumTo_bd (f := baseN l) (a := 0) (b := 256) (n := n) (fun i hi => ⟨(baseN_bd HM.out i).1, (baseN_bd HM.out i).2 (by omega)⟩)
          have HS1 : Hid (sumTo (baseN l) (n + 1) = sumTo (baseN l) n + baseN l n) := Lib.hid rfl
          have HO1 : Hid (outRow l (n + 1) = outRow l n ++ [.int .i64 (baseN l n)]) := Lib.hid (outRow_succ l n)
          generalize baseN l n = bq at *
          have hv : IntKind.i64.wrap ((256 * q).tdiv all) = bq := by
            rw [Int.tdiv_eq_ediv_of_nonneg (by omega), HQB.out, IntKind.wrap_i64]; omega
          have HV := Lib.hid hv
          clear hv
          have hwr : IntKind.i64.wrap (256 * q) = 256 * q := by rw [IntKind.wrap_i64]; omega
          have hne : all ≠ 0 := by omega
          have h8 := mayL_len HM.out
          have H63 : Hid (n + 1 ≤ maxLen ∧ (n + 1) * 8 ≤ 140737488355328) := Lib.hid ⟨by unfold maxLen; omega, by omega⟩
          go_region_held3 (fun w' => w'.cell? ⟨w1.heap.size, 0, none⟩ = some (.int .i64 all) ∧ w'.cell? ⟨wr.heap.size, 0, none⟩ = some (.int .i64 p) ∧ w'.cell? ⟨wr.heap.size, 1, none⟩ = some (.int .i64 d))
            (exact K4.out _ (by repeat (first | assumption | exact Apart.refl _ _ _ | refine Apart.drew ?_ | refine Apart.alloc ?_ _)))
            (first
              | (go_at_call 51; refine (HWT _).out.mono ?_; rintro e w2 ⟨rfl, hb2⟩; have hA2 : Apart v7 v8 wx w2 := Apart.below (by repeat (first | assumption | exact Apart.refl _ _ _ | refine Apart.drew ?_ | refine Apart.alloc ?_ _)) hb2; have hr7 := row_below (show World.ownsRow _ (w1.heap.size + 1) 3 1 v7 n (outRow l n) by repeat (first | assumption | refine World.ownsRow.alloc ?_ _ | refine World.ownsRow.drew ?_)) hb2; have hr8 := row_below (show World.ownsRow _ (w1.heap.size + 1) 3 1 v8 n (idxRow n) by repeat (first | assumption | refine World.ownsRow.alloc ?_ _ | refine World.ownsRow.drew ?_)) hb2; have hs2 := hA2.size; have hsb := hb2.size; simp at hsb)
              | (refine step_append_lies _ (by rfl) _ _ _ (by rfl) (w1.heap.size + 1) 3 i0 _ 1 8 Try.underlying52 HI.out.1 HI.out.2.1 HI.out.2.2.1 HI.out.2.2.2 rfl (by omega) v7 n (outRow l n) (by rfl) (by repeat (first | assumption | refine World.ownsRow.alloc ?_ _ | refine World.ownsRow.drew ?_)) _ 1 1 [_] (by rfl) (by rfl) (World.news_of_block (cs := #[_]) (fr := (0, 0)) (by repeat (first | (refine heap_alloc_at _ _ _ ?_; first | (with_reducible rfl) | (simp; done)) | (refine (Below.heap_alloc _ _ _ ?_).trans ?_; (focus (first | omega | (simp; omega) | (simp; done)))) | (refine (hb2.block _ ?_).trans ?_; (focus (first | omega | (simp; omega) | (simp; done)))) | (refine (hgrow7.block _ ?_ (L7.out _ ?_)).trans ?_; (focus (first | omega | (simp; omega) | (simp; done))); (focus (first | omega | (simp; omega) | (simp; done))))))) (by simp [Value.oneCell']) (by omega) H63.out.1 H63.out.2 (by first | omega | (simp; omega)) _ rfl ?_; intro g7 cap7 w7 hown7 hgrow7 hat7 hlt7; have hA7 : Apart v7 v8 wx w7 := Apart.grown (by repeat (first | assumption | exact Apart.refl _ _ _ | refine Apart.drew ?_ | refine Apart.alloc ?_ _)) hgrow7 (by first | exact .inl rfl | exact .inr rfl); have hr8 := World.ownsRow.kept (show World.ownsRow _ (w1.heap.size + 1) 3 1 v8 n (idxRow n) from (by repeat (first | assumption | refine World.ownsRow.alloc ?_ _ | refine World.ownsRow.drew ?_))) hgrow7 NE8.out; have hs7 := hA7.size)
              | (refine step_append_lies _ (by rfl) _ _ _ (by rfl) (w1.heap.size + 1) 3 i0 _ 1 8 Try.underlying52 HI.out.1 HI.out.2.1 HI.out.2.2.1 HI.out.2.2.2 rfl (by omega) v8 n (idxRow n) (by rfl) (by repeat (first | assumption | refine World.ownsRow.alloc ?_ _ | refine World.ownsRow.drew ?_)) _ 1 1 [_] (by rfl) (by rfl) (World.news_of_block (cs := #[_]) (fr := (0, 0)) (by repeat (first | (refine heap_alloc_at _ _ _ ?_; first | (with_reducible rfl) | (simp; done)) | (refine (Below.heap_alloc _ _ _ ?_).trans ?_; (focus (first | omega | (simp; omega) | (simp; done)))) | (refine (hb2.block _ ?_).trans ?_; (focus (first | omega | (simp; omega) | (simp; done)))) | (refine (hgrow7.block _ ?_ (L7.out _ ?_)).trans ?_; (focus (first | omega | (simp; omega) | (simp; done))); (focus (first | omega | (simp; omega) | (simp; done))))))) (by simp [Value.oneCell']) (by omega) H63.out.1 H63.out.2 (by first | omega | (simp; omega)) _ rfl ?_; intro g8 cap8 w8 hown8 hgrow8 hat8 hlt8; have hA8 : Apart v7 v8 wx w8 := Apart.grown (by repeat (first | assumption | exact Apart.refl _ _ _ | refine Apart.drew ?_ | refine Apart.alloc ?_ _)) hgrow8 (.inr rfl)))
          all_goals
            have hne7 : some g7 ≠ v8.ownBlock := by
              rcases hat7 with h | h
              · rcases NE8.out with e | e
                · rw [e]; simp
                · rw [← h]; exact fun x => e x.symm
              · refine L8.out _ ?_
                rw [h]
                first | omega | (simp; omega)
            have hne78 : g7 ≠ g8 := by
              rcases hat8 with h | h
              · intro e; rw [e] at hne7; exact hne7 h.symm
              · rw [h]; first | omega | (simp; omega)
            have hr7f := World.ownsRow.kept (show World.ownsRow _ (w1.heap.size + 1) 3 1 (.slice (some ⟨g7, 0, none⟩) (n + 1) cap7) (n + 1) (outRow l n ++ _) from (by repeat (first | assumption | refine World.ownsRow.alloc ?_ _ | refine World.ownsRow.drew ?_))) hgrow8 (.inr hne7)
            rw [HV.out] at hr7f
            have hcn := hr7f.cellAt n (by omega)
            rw [List.getElem?_append_right (by simp [outRow])] at hcn
            simp only [outRow, List.length_map, List.length_range, Nat.sub_self, List.getElem?_cons_zero] at hcn
            have HXF := Lib.hid (HX.out.apart hA8 N7.out N8.out)
            have HR7F := Lib.hid hr7f
            have HR8F := Lib.hid hown8
            have HN := Lib.hid hne78
            clear hne7 hne78 hr7f hown8 hat7 hat8 hgrow7 hgrow8 hA7 hA8 hA2 hb2 hr7 hr8 hown7 hlt7 hlt8
            go_wp2
            go_roundg (gk - 1)
          all_goals first
            | (have := HK.out; omega)
            | (refine ⟨n + 1, _, _, rfl, rfl, by go_num, by omega, ?_, Lib.hid (by have := HK.out; omega), HXF, Lib.hid (by rw [HO1.out]; exact HR7F.out), Lib.hid (by rw [idxRow_succ]; exact HR8F.out), Lib.hid (.inr (fun e => HN.out (Option.some.inj e)))⟩
               rw [HS1.out]
               congr 1
               omega)
        · obtain rfl : n = l.length := by omega
          have h8 := mayL_len HM.out
          obtain ⟨g7, cap7, rfl, l7⟩ := HR7.out.form (by omega)
          obtain ⟨g8, cap8, rfl, l8⟩ := HR8.out.form (by omega)
          have HNE' : Hid (g7 ≠ g8) := Lib.hid (by
            rcases HNE.out with h | h
            · simp [Value.ownBlock] at h
            · simpa [Value.ownBlock] using h)
          obtain ⟨L, hL⟩ : ∃ L : Nat, leftN l = L := ⟨(leftN l).toNat, by have := leftN_bd HM.out; omega⟩
          have hLn : L < l.length := by have := leftN_bd HM.out; omega
          have hcap8 : l.length ≤ cap8 := by
            rcases HR8.out.2 with ⟨h, _⟩ | ⟨g', c', cur, h, _, _, h1, _⟩
            · simp at h
            · injection h with e1 e2 e3; omega
          have hLL : 256 - sumTo (baseN l) l.length = L := hL
          rw [hLL]
          have HLN := Lib.hid hL
          clear hL hLL
          have hgt : w1.heap.size < wr.heap.size := World.block_lt_of_cell? wr _ HW.out.f.a
          have hH8 : Hid (∀ j, j < l.length → (wr.alloc (.cells #[.func (.func 62) #[] #[.pointer (some ⟨w.heap.size, 0, none⟩), .pointer (some ⟨w1.heap.size, 0, none⟩)]] 123)).cell? ⟨g8, j, none⟩ = some (.int .i64 j) ∧ (wr.alloc (.cells #[.func (.func 62) #[] #[.pointer (some ⟨w.heap.size, 0, none⟩), .pointer (some ⟨w1.heap.size, 0, none⟩)]] 123)).frozen? ⟨g8, j, none⟩ = false) := Lib.hid (by
            intro j hj
            have hr := HR8.out.alloc (.cells #[.func (.func 62) #[] #[.pointer (some ⟨w.heap.size, 0, none⟩), .pointer (some ⟨w1.heap.size, 0, none⟩)]] 123)
            refine ⟨?_, hr.frozenAt j⟩
            rw [hr.cellAt j (by omega)]
            simp [idxRow, hj])
          have HSt := stable_id (wr.alloc (.cells #[.func (.func 62) #[] #[.pointer (some ⟨w.heap.size, 0, none⟩), .pointer (some ⟨w1.heap.size, 0, none⟩)]] 123)) l o cap w.heap.size w1.heap.size wr.heap.size (allN l) (HW.out.keep ((Below.refl _ wr).alloc (Nat.le_refl _) _)).f hall.1 (by omega) (World.cell?_alloc_at _ _ _ 0 rfl) g8 cap8 h8.2 hH8.out (by simp; omega) (by omega) (by omega) (by omega) (fun a ha => by have := HL.out a ha; omega)
          have HSt := Lib.hid HSt
          have hf0 : (wr.alloc (.cells #[.func (.func 62) #[] #[.pointer (some ⟨w.heap.size, 0, none⟩), .pointer (some ⟨w1.heap.size, 0, none⟩)]] 123)).cell? ⟨wr.heap.size, 0, none⟩ = some (.func (.func 62) #[] #[.pointer (some ⟨w.heap.size, 0, none⟩), .pointer (some ⟨w1.heap.size, 0, none⟩)]) := World.cell?_alloc_at _ _ _ 0 rfl
          go_wp2_with fail
          refine HSt.out.mono ?_
          rintro e w5 ⟨rfl, hsw⟩
          obtain ⟨hb5, hh5, hc5⟩ := sw_after hsw hH8.out (by simp; omega)
          clear hsw hf0
          have HB5 : Hid (Below w.heap.size w w5) := Lib.hid ((HW.out.b.alloc HW.out.b.size _).trans (hb5.mono (by omega)))
          have HR5 : Hid (w5.ownsRow (w1.heap.size + 1) 3 1 (.slice (some ⟨g7, 0, none⟩) l.length cap7) l.length (bumpRow l (ordL l (allN l)) 0)) := Lib.hid (by
            have h := row_same (HR7.out.alloc _) (hh5 g7 HNE'.out (by simp; omega))
            have e : outRow l l.length = bumpRow l (ordL l (allN l)) 0 := by simp [outRow, bumpRow, bumpAt]
            rw [e] at h
            exact h)
          have HC5 := Lib.hid hc5
          clear hb5 hh5 hc5
          go_wp2
          go_loopg [14, 63] L (fun k y i wr => ∃ n : Nat, i = .int .i64 n ∧ n ≤ L ∧ Hid (k = L - n) ∧ Hid (wr.ownsRow (w1.heap.size + 1) 3 1 (.slice (some ⟨g7, 0, none⟩) l.length cap7) l.length (bumpRow l (ordL l (allN l)) n)) ∧ Hid (∀ j, j < l.length → wr.cell? ⟨g8, j, none⟩ = some (.int .i64 ((ordL l (allN l)).getD j 0 : Nat))) ∧ Hid (Below w.heap.size w wr))
          case atStart => exact ⟨0, rfl, by omega, Lib.hid (by omega), HR5, HC5, HB5⟩
          case round =>
            clear HR5 HC5 HB5 HSt HR7 HR8 HW hH8
            obtain ⟨n, rfl, hn, HK, HR, HC, HB⟩ := hrel
            by_cases hlt : n < L
            · have c8 := HC.out n (by omega)
              obtain ⟨s1, s2, s3⟩ := bumpRow_step (ordL_ord l (allN l)) (show n < l.length by omega)
              have S3 := Lib.hid s3
              clear s3
              have hbd := baseN_bd HM.out ((ordL l (allN l)).getD n 0)
              generalize (ordL l (allN l)).getD n 0 = kk at *
              have c7 := HR.out.cellAt kk (by omega)
              rw [bumpRow_get _ _ _ _ s1, s2] at c7
              have f7 := HR.out.frozenAt kk
              clear s2
              have hbd1 := hbd.1
              have hbd2 := hbd.2 s1
              clear hbd
              generalize baseN l kk = bv at *
              go_wp2
              go_roundg (gk - 1)
              case measure => have := HK.out; omega
              case rel =>
                refine ⟨n + 1, by go_num, by omega, Lib.hid (by have := HK.out; omega), Lib.hid ?_, Lib.hid (fun j hj => ?_), Lib.hid (HB.out.setCell (by show w.heap.size ≤ g7; omega) _)⟩
                · have h := (HR.out.stored kk (.int .i64 (bv + 1))).1
                  rw [S3.out] at h
                  exact h
                · rw [World.cell?_of_block (w := wr) (heap_setCell_other _ _ _ _ (by show g8 ≠ g7; exact Ne.symm HNE'.out))]
                  exact HC.out j hj
            · obtain rfl : n = L := by omega
              go_wp2
              go_ret2
              refine ⟨g7, cap7, rfl, HB.out, ?_⟩
              have e : ((List.range l.length).map fun i => Value.int .i64 (shr l (ordL l (allN l)) i)) = bumpRow l (ordL l (allN l)) n := by
                simp only [shr, bumpRow, bumpAt, HLN.out, Int.toNat_natCast]
              rw [e]
              exact row_mono HR.out (by omega)
end Go.Proofs.Ytbcekjbckeljmaa
