/- The stable sort of the ways' numbers. -/
import Derived.Test.YtbcekjbckeljmaaNc
import Derived.Sort.LotA
set_option linter.unusedVariables false
set_option linter.unusedSimpArgs false
namespace Go.Proofs.Ytbcekjbckeljmaa
open Go.RowKit Go.Sort
set_option maxHeartbeats 1000000
set_option maxRecDepth 10000

def encF (n : Nat) (x : Fin n) : Value := .int .i64 x.val
def cfF (l : List (Int × Int)) (all : Int) (x y : Fin l.length) : Int := cfI l all (x.val : Int) (y.val : Int)
theorem cell_sw {α : Type} [Inhabited α] (enc : α → Value) (W : World) (blk off n : Nat) (dk : Array α) (os : Array Obj) (a : Addr) (h1 : a.block ≠ blk) (h2 : a.block < W.heap.size) : (sortWorld enc W blk off n dk os).cell? a = W.cell? a := by
  unfold sortWorld
  rw [cell?_grow _ _ _ (by simp only [Sort.putRow, mapBlock, Array.size_modify]; exact h2), cell?_putRow_other _ _ _ _ _ _ (.inl h1)]
  rfl
theorem size_sw {α : Type} [Inhabited α] (enc : α → Value) (W : World) (blk off n : Nat) (dk : Array α) (os : Array Obj) : W.heap.size ≤ (sortWorld enc W blk off n dk os).heap.size := by
  unfold sortWorld
  rw [size_grow]
  simp only [Sort.putRow, mapBlock, Array.size_modify]
  show W.heap.size ≤ W.heap.size + _
  omega
theorem ShF.sw {α : Type} [Inhabited α] {enc : α → Value} {w : World} {l : List (Int × Int)} {o : Option Addr} {cap b1 b4 : Nat} {all : Int} (h : ShF w l o cap b1 b4 all) {blk : Nat} (h1 : b1 ≠ blk) (h4 : b4 ≠ blk) (ho : ∀ a, o = some a → a.block ≠ blk) (off n : Nat) (dk : Array α) (os : Array Obj) :
    ShF (sortWorld enc w blk off n dk os) l o cap b1 b4 all := by
  refine ⟨?_, ?_, ?_⟩
  · rw [cell_sw _ _ _ _ _ _ _ _ h1 (World.block_lt_of_cell? w _ h.s)]; exact h.s
  · rw [cell_sw _ _ _ _ _ _ _ _ h4 (World.block_lt_of_cell? w _ h.a)]; exact h.a
  · intro i hi
    obtain ⟨a, ha, c0, c1, hb⟩ := h.p i hi
    refine ⟨a, ha, ?_, ?_, Nat.lt_of_lt_of_le hb (size_sw _ _ _ _ _ _ _)⟩
    · rw [cell_sw _ _ _ _ _ _ _ _ (by rw [add_block]; exact ho a ha) (by rw [add_block]; exact hb)]; exact c0
    · rw [cell_sw _ _ _ _ _ _ _ _ (by show (a.add (i * 2)).block ≠ _; rw [add_block]; exact ho a ha) (by show (a.add (i * 2)).block < _; rw [add_block]; exact hb)]; exact c1
theorem stable_any (w : World) (l : List (Int × Int)) [Inhabited (Fin l.length)] (o : Option Addr) (cap b1 b4 b12 : Nat) (all : Int) (h : ShF w l o cap b1 b4 all) (hall : 0 < all) (hall2 : all < 1000000000)
    (hf : w.cell? ⟨b12, 0, none⟩ = some (.func (.func 62) #[] #[.pointer (some ⟨b1, 0, none⟩), .pointer (some ⟨b4, 0, none⟩)]))
    (blk cap2 : Nat) (d : Array (Fin l.length)) (hd : d.size = l.length) (h8 : l.length ≤ 8) (hH : Holds (encF l.length) w blk 0 d) (hblk : blk < w.heap.size)
    (h1 : b1 ≠ blk) (h4 : b4 ≠ blk) (h12 : b12 ≠ blk) (ho : ∀ a, o = some a → a.block ≠ blk) :
    Calls Try.prog 63 #[.slice (some ⟨blk, 0, none⟩) d.size cap2, .func (.func 64) #[] #[.pointer (some ⟨b12, 0, none⟩)]] w fun e w' =>
      e = .returned (.tuple #[]) ∧ SW (encF l.length) w blk 0 (insertionSort (ltOf (cfF l all)) d 0 d.size) w' := by
  have hcmp : CmpLays1 Try.prog 64 #[.pointer (some ⟨b12, 0, none⟩)] (encF l.length) (cfF l all) blk 0 d.size w := by
    intro m os dk _ x y
    exact cmp_any _ l o cap b1 b4 b12 all (h.sw h1 h4 ho 0 m dk os) hall hall2 x.val y.val x.isLt y.isLt (by omega) (by rw [cell_sw _ _ _ _ _ _ _ _ h12 (World.block_lt_of_cell? w _ hf)]; exact hf)
  have eg : ∀ args w, (callFunc 64 args).run Try.prog w = .ok (.enter 64 args) w := enters_of Try.func64 (by kernel_rfl) rfl
  have HC := Try.insertionSortCmpFunc_s (encF l.length) (cfF l all) 64 #[.pointer (some ⟨b12, 0, none⟩)] blk 0 cap2 0 d.size d d w w eg hcmp ⟨fun _ => rfl, hH, hblk⟩ rfl (SW.start hH) (Nat.zero_le _) (Nat.le_refl _) (by omega)
  clear hcmp h hH hf eg
  generalize insertionSort (ltOf (cfF l all)) d 0 d.size = res at *
  have hn : d.size ≤ 8 := by omega
  clear hd
  generalize d.size = n at *
  have HC : Calls Try.prog 86 #[.slice (some ⟨blk, 0, none⟩) n cap2, .int .i64 0, .int .i64 n, .func (.func 64) #[] #[.pointer (some ⟨b12, 0, none⟩)]] w fun e w' =>
      e = .returned (.tuple #[]) ∧ SW (encF l.length) w blk 0 res w' := HC
  have HS : Calls Try.prog 73 #[.slice (some ⟨blk, 0, none⟩) n cap2, .int .i64 n, .func (.func 64) #[] #[.pointer (some ⟨b12, 0, none⟩)]] w fun e w' =>
      e = .returned (.tuple #[]) ∧ SW (encF l.length) w blk 0 res w' := by
    have hn1 : ¬ (20 : Int) ≤ n := by omega
    have hn2 : ¬ (20 : Int) < n := by omega
    go_enter Try.func73, Try.ntmps73
    go_wp2_with fail
    go_loopg [7, 8] 0 (fun k a b wr => a = .int .i64 0 ∧ b = .int .i64 20 ∧ Hid (wr = w))
    case atStart => exact ⟨rfl, rfl, Lib.hid rfl⟩
    case round =>
      obtain ⟨rfl, rfl, HW⟩ := hrel
      obtain rfl := HW.out
      go_wp2_with fail
      refine HC.mono ?_
      rintro e w1 ⟨rfl, hs⟩
      have HS := Lib.hid hs
      clear hs
      go_wp2
      go_loopg [6, 7, 8, 9] 0 (fun k a b c d wr => a = .int .i64 20 ∧ Hid (wr = w1))
      case atStart => exact ⟨rfl, Lib.hid rfl⟩
      case round =>
        obtain ⟨rfl, HW⟩ := hrel
        obtain rfl := HW.out
        go_wp2
        go_end0
        exact ⟨rfl, HS.out⟩
  go_enter Try.func63, Try.ntmps63
  go_wp2_with fail
  refine HS.mono ?_
  rintro e w1 ⟨rfl, hs⟩
  go_wp2
  go_end0
  exact ⟨rfl, hs⟩
end Go.Proofs.Ytbcekjbckeljmaa
