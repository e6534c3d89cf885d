/- The walk of trie.common. -/
import Derived.Test.YtbcekjbckeljmaaTa
import Derived.Test.YtbcekjbckeljmaaPy
import Derived.Test.YtbcekjbckeljmaaSh
import Derived.Deep.RegionWith
import Derived.Deep.RegionHeld3
import Derived.Shelf.Small.Bits
set_option linter.unusedVariables false
namespace Go.Proofs.Ytbcekjbckeljmaa
open Go.RowKit Px
set_option maxHeartbeats 400000

theorem xor_range (a b : Nat) (ha : a < 4294967296) (hb : b < 4294967296) : 0 ≤ bits .xor .u32 (a : Int) b ∧ bits .xor .u32 (a : Int) b ≤ 4294967295 := by
  rw [u32_xor_nat a b ha hb]
  have := Nat.xor_lt_two_pow (n := 32) (x := a) (y := b) (by simpa using ha) (by simpa using hb)
  omega
theorem com_num (a n b m : Nat) (ha : a < 4294967296) (hb : b < 4294967296) : (if 32 - (Lib.bitLen (bits .xor .u32 (a : Int) b).toNat : Int) < if m < n then (m : Int) else n then 32 - (Lib.bitLen (bits .xor .u32 (a : Int) b).toNat : Int) else if m < n then (m : Int) else n) = (comN a n b m : Int) := by
  rw [u32_xor_nat a b ha hb, Int.toNat_natCast]
  have h := Any.bitLen_le32 ((a ^^^ b : Nat) : Int) (by omega) (by have := Nat.xor_lt_two_pow (n := 32) (x := a) (y := b) (by simpa using ha) (by simpa using hb); omega)
  rw [Int.toNat_natCast] at h
  unfold comN lz
  split <;> split at * <;> omega
theorem com_le (a n b m : Nat) (hn : n ≤ 32) : comN a n b m ≤ 32 := by unfold comN; omega
theorem com_any (a n b m : Nat) (w : World) (ha : a < 4294967296) (hb : b < 4294967296) (hn : n ≤ 32) (hm : m ≤ 32) :
    Calls Try.prog 49 #[.agg #[.int .u32 a, .int .i64 n], .agg #[.int .u32 b, .int .i64 m]] w fun e w' =>
      e = .returned (.agg #[.int .u32 (Px.fst a (comN a n b m)), .int .i64 (comN a n b m)]) ∧ Below w.heap.size w w' := by
  have hx := xor_range a b ha hb
  go_enter Try.func49, Try.ntmps49
  go_wp2
  go_quiet ((go_at_call 67; exact Calls.quiet_of_same (lz_any _ _ hx.1 hx.2)))
  rw [com_num a n b m ha hb]
  have hk := com_le a n b m hn
  obtain ⟨k, hkk⟩ : ∃ k, comN a n b m = k := ⟨_, rfl⟩
  rw [hkk] at hk ⊢
  have HK := Lib.hid hkk
  clear hx hkk
  go_wp2
  go_region_held3 (fun w' => w'.cell? ⟨w.heap.size, 0, none⟩ = some (.int .u32 a)) (simp [go_sem, World.cell?_alloc_past]) ((go_at_call 66; refine (mask_any k _ hk).mono ?_; rintro e w1 ⟨rfl, rfl⟩))
  go_wp2
  refine bodyPost_ret (v := .agg #[.int .u32 (bits .and .u32 (a : Int) ((4294967296 - 2 ^ (32 - k) : Nat) : Int)), .int .i64 k]) (by simp [results, Try.results49, go_sem]) rfl ?_
  rw [HK.out, u32_and_nat _ _ ha (by have := Px.pow_pos' (32 - k); omega), Px.and_mask a k ha hk]
  exact ⟨rfl, ((((((Below.refl _ _).alloc (Nat.le_refl _) _).alloc (by simp) _).alloc (by simp; omega) _).drewN _).setCell (by simp; omega) _).setCell (by simp; omega) _⟩
end Go.Proofs.Ytbcekjbckeljmaa
