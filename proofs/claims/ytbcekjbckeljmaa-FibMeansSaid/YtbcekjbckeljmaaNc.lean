/- The shares' comparison, and the stable sort of a few. -/
import Derived.Test.YtbcekjbckeljmaaNb
import Derived.Test.YtbcekjbckeljmaaSh
import Derived.Shelf.SlSortCmp.QuietGrown
set_option linter.unusedVariables false
set_option linter.unusedSimpArgs false
namespace Go.Proofs.Ytbcekjbckeljmaa
open Go.RowKit Go.Sort
set_option maxHeartbeats 1000000
set_option maxRecDepth 10000

theorem weight_gr (p d : Int) (w : World) :
    Calls Try.prog 51 #[.agg #[.int .i64 p, .int .i64 d]] w fun e w' => e = .returned (.int .i64 (wgt d)) ∧ ∃ q os, w' = grow (w.drewN q) os := by
  by_cases h1 : d < 0
  · go_enter Try.func51, Try.ntmps51
    go_wp2
    go_ret
    exact ⟨ret_int (by simp [wgt, dOk, show ¬ 0 ≤ d from by omega]), 0, #[_], rfl⟩
  · by_cases h2 : 255 ≤ d
    · go_enter Try.func51, Try.ntmps51
      go_wp2
      go_ret
      exact ⟨ret_int (by simp [wgt, dOk, show ¬ d < 255 from by omega]), 0, #[_], rfl⟩
    · have h3 : d + 1 ≠ 0 := by omega
      have h4 : -9223372036854775808 ≤ d + 1 ∧ d + 1 < 9223372036854775808 := by omega
      go_enter Try.func51, Try.ntmps51
      go_wp2
      go_ret
      refine ⟨ret_int ?_, 0, #[_], rfl⟩
      simp only [wgt, dOk, show 0 ≤ d from by omega, show d < 255 from by omega, decide_true, Bool.and_self, if_true]
/-- what the closures read -/
structure ShF (w : World) (l : List (Int × Int)) (o : Option Addr) (cap : Nat) (b1 b4 : Nat) (all : Int) : Prop where
  s : w.cell? ⟨b1, 0, none⟩ = some (.slice o l.length cap)
  a : w.cell? ⟨b4, 0, none⟩ = some (.int .i64 all)
  p : PairS w o l
theorem below_gr (w : World) (q : Nat) (os : Array Obj) : Below w.heap.size w (grow (w.drewN q) os) :=
  ⟨rfl, rfl, rfl, by simp [grow, World.drewN], fun k hk => by
    show (w.heap ++ os)[k]? = _
    rw [Array.getElem?_append_left hk]⟩
theorem ShF.gr {w : World} {l : List (Int × Int)} {o : Option Addr} {cap b1 b4 : Nat} {all : Int} (h : ShF w l o cap b1 b4 all) (q : Nat) (os : Array Obj) : ShF (grow (w.drewN q) os) l o cap b1 b4 all :=
  ⟨pw_cell (below_gr w q os) h.s, pw_cell (below_gr w q os) h.a, h.p.keep (below_gr w q os)⟩
def restI (all : Int) (d : Int) : Int := 256 * wgt d % all
theorem rest_any (w : World) (l : List (Int × Int)) (o : Option Addr) (cap b1 b4 : Nat) (all : Int) (h : ShF w l o cap b1 b4 all) (hall : 0 < all) (hall2 : all < 1000000000) (i : Nat) (hi : i < l.length) (hlen : l.length < 100000) :
    Calls Try.prog 62 #[.int .i64 i, .pointer (some ⟨b1, 0, none⟩), .pointer (some ⟨b4, 0, none⟩)] w fun e w' => e = .returned (.int .i64 (restI all l[i].2)) ∧ ∃ q os, w' = grow (w.drewN q) os := by
  obtain ⟨a, rfl, _, _, hab⟩ := h.p i hi
  have c0 : ∀ n os, (grow (w.drewN n) os).cell? (a.add (i * 2)) = some (.int .i64 l[i].1) := fun n os => by
    obtain ⟨a', e, h1, _⟩ := (h.gr n os).p i hi
    cases e; exact h1
  have c1 : ∀ n os, (grow (w.drewN n) os).cell? ⟨(a.add (i * 2)).block, (a.add (i * 2)).off + 1, none⟩ = some (.int .i64 l[i].2) := fun n os => by
    obtain ⟨a', e, _, h1, _⟩ := (h.gr n os).p i hi
    cases e; exact h1
  have cs := fun n os => (h.gr n os).s
  have ca := fun n os => (h.gr n os).a
  clear h
  have hw : 0 ≤ wgt l[i].2 ∧ wgt l[i].2 ≤ 65536 := by
    cases hd : dOk l[i].2 with
    | true => have := wgt_pos hd; omega
    | false => simp [wgt, hd]
  generalize l[i].1 = p at *
  generalize l[i].2 = d at *
  have HW := weight_gr p d
  have hne : all ≠ 0 := by omega
  have hi0 : (0 : Int) ≤ (i : Int) := by omega
  have hi1 : (i : Int) < (l.length : Int) := by omega
  have mixed : Try.prog.follows .mixedOrders = true := by kernel_rfl
  go_enter Try.func62, Try.ntmps62
  go_wp2
  go_quiet_grown (first | (go_at_call 51; refine Calls.grown_of (HW _)))
  go_wp2
  go_ret
  refine ⟨ret_int ?_, nq, osq, rfl⟩
  have e : IntKind.i64.wrap (256 * wgt d) = 256 * wgt d := by rw [IntKind.wrap_i64]; omega
  rw [e, restI, Int.tmod_eq_emod_of_nonneg (by omega)]
/-- the comparison -/
def cfI (l : List (Int × Int)) (all : Int) (x y : Int) : Int := Lib.compareInt (restI all (l.getD y.toNat (0, 0)).2) (restI all (l.getD x.toNat (0, 0)).2)
theorem cmp_any (w : World) (l : List (Int × Int)) (o : Option Addr) (cap b1 b4 b12 : Nat) (all : Int) (h : ShF w l o cap b1 b4 all) (hall : 0 < all) (hall2 : all < 1000000000) (i j : Nat) (hi : i < l.length) (hj : j < l.length) (hlen : l.length < 100000)
    (hf : w.cell? ⟨b12, 0, none⟩ = some (.func (.func 62) #[] #[.pointer (some ⟨b1, 0, none⟩), .pointer (some ⟨b4, 0, none⟩)])) :
    Calls Try.prog 64 #[.int .i64 i, .int .i64 j, .pointer (some ⟨b12, 0, none⟩)] w fun e w' => e = .returned (.int .i64 (cfI l all i j)) ∧ ∃ q os, w' = grow (w.drewN q) os := by
  have mixed : Try.prog.follows .mixedOrders = true := by kernel_rfl
  have cf := fun n os => pw_cell (below_gr w n os) hf
  have r1 := fun n os => rest_any _ l o cap b1 b4 all (h.gr n os) hall hall2 i hi hlen
  have r2 := fun n os => rest_any _ l o cap b1 b4 all (h.gr n os) hall hall2 j hj hlen
  have e1 : cfI l all i j = Lib.compareInt (restI all l[j].2) (restI all l[i].2) := by simp [cfI, List.getD_eq_getElem?_getD, hi, hj]
  have e120 : ∀ args w, (callFunc 62 args).run Try.prog w = .ok (.enter 62 args) w := enters_of Try.func62 (by kernel_rfl) rfl
  have HC : ∀ x y w, Calls Try.prog 65 #[.int .i64 x, .int .i64 y] w fun e w' => e = .returned (.int .i64 (Lib.compareInt x y)) ∧ ∃ q os', w' = grow (w.drewN q) os' := fun x y w => (Try.cmp_Compare_int x y w).mono fun e w' ⟨a, b⟩ => ⟨a, 0, #[], by rw [b, grow_empty]; rfl⟩
  clear h
  rw [e1]
  generalize restI all l[j].2 = rj at *
  generalize restI all l[i].2 = ri at *
  go_enter Try.func64, Try.ntmps64
  go_wp2
  go_quiet_grown (first | (go_at_fn 62; with_reducible refine Calls.grown_of (r2 _ _)) | (go_at_fn 62; with_reducible refine Calls.grown_of (r1 _ _)) | (go_at_call 65; with_reducible refine Calls.grown_of (HC _ _ _)))
  go_wp2
  go_ret
  exact ⟨rfl, nq, osq, rfl⟩
end Go.Proofs.Ytbcekjbckeljmaa
