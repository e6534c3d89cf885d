/- The walks of the document's Has and Much. -/
import Derived.Test.YtbcekjbckeljmaaOa
import Derived.Test.YtbcekjbckeljmaaNl
set_option linter.unusedVariables false
set_option linter.unusedSimpArgs false
namespace Go.Proofs.Ytbcekjbckeljmaa
open Go.RowKit Px
set_option maxHeartbeats 1000000
set_option maxRecDepth 10000
theorem has_ok (p : Pf) (x : Nat) (w : World) (hp : ok p) (hx : x < 4294967296) :
    Calls Try.prog 17 #[.agg #[.int .u32 p.1, .int .i64 p.2], .int .u32 x] w fun e w' => e = .returned (.bool (decide (cov p (host x)))) ∧ Below w.heap.size w w' := by
  obtain ⟨a, n⟩ := p
  have hm := may_ok hp
  have hn : n ≤ 32 := hp.2.1
  have ha : a < 4294967296 := hp.1
  have HM := fun w => Lib.hid (mayPrefix_any a n w ha)
  rw [hm] at HM
  have HF := fun w => Lib.hid (first_any x n w hx hn)
  have hc : decide (cov (a, n) (host x)) = ((fst x n : Int) == a) := by
    rw [Bool.eq_iff_iff, decide_eq_true_eq, beq_iff_eq]
    unfold cov host
    simp only
    omega
  have HC := Lib.hid hc
  clear hm hp hc
  have K := Lib.hid (show ∀ w', Below (w.heap.size + 1) (w.alloc (.cells #[.int .u32 a, .int .i64 n] 25)) w' → w'.cell? ⟨w.heap.size, 0, none⟩ = some (.int .u32 a) ∧ w'.cell? ⟨w.heap.size, 1, none⟩ = some (.int .i64 n) from fun w' h =>
    ⟨(h.cell (by simp)).trans (World.cell?_alloc_at _ _ _ 0 rfl), (h.cell (by simp)).trans (World.cell?_alloc_at _ _ _ 1 rfl)⟩)
  simp only [] at *
  go_enter Try.func17, Try.ntmps17
  go_wp2_with fail
  go_region_held3 (fun w' => w'.cell? ⟨w.heap.size, 0, none⟩ = some (.int .u32 a) ∧ w'.cell? ⟨w.heap.size, 1, none⟩ = some (.int .i64 n))
    (exact K.out _ (by repeat (first | assumption | exact Below.refl _ _ | refine Below.drew ?_)))
    (first
      | (go_at_call 27; refine (HM _).out.mono ?_; rintro e w1 ⟨rfl, hb1⟩; have hB1 : Below (w.heap.size + 1) (w.alloc (.cells #[.int .u32 a, .int .i64 n] 25)) w1 := ((Below.refl _ _).drew).trans (hb1.mono (by simp)))
      | (go_at_call 37; refine (HF _).out.mono ?_; rintro e w' ⟨rfl, rfl⟩))
  all_goals
    go_wp2
    go_ret
    exact ⟨ret_bool HC.out.symm, ((Below.refl _ w).alloc (Nat.le_refl _) _).trans ((show Below (w.heap.size + 1) (w.alloc (.cells #[.int .u32 a, .int .i64 n] 25)) _ by repeat (first | assumption | refine Below.drew ?_)).mono (by omega))⟩
/-- a slice of routes that came in -/
def RtS0 (w : World) (o : Option Addr) (L : List Rt) : Prop :=
  ∀ i, (h : i < L.length) → ∃ a, o = some a ∧ w.cell? (a.add (i * 6)) = some (.int .u32 L[i].a) ∧ w.cell? ⟨(a.add (i * 6)).block, (a.add (i * 6)).off + 1, none⟩ = some (.int .i64 L[i].n) ∧
    w.cell? ⟨(a.add (i * 6)).block, (a.add (i * 6)).off + 2, none⟩ = some (.bool L[i].own) ∧ w.cell? ⟨(a.add (i * 6)).block, (a.add (i * 6)).off + 3, none⟩ = some (.bool L[i].taken) ∧
    w.cell? ⟨(a.add (i * 6)).block, (a.add (i * 6)).off + 4, none⟩ = some (.int .i64 L[i].d) ∧ w.cell? ⟨(a.add (i * 6)).block, (a.add (i * 6)).off + 5, none⟩ = some (.slice L[i].o L[i].l.length L[i].cap) ∧ L[i].Raw w
theorem RtS0.full {w : World} {o : Option Addr} {L : List Rt} (h : RtS0 w o L) (hl : ∀ r ∈ L, r.l.length ≤ 9000) : RtS w o L := by
  intro i hi
  obtain ⟨a, ha, c0, c1, c2, c3, c4, c5, hr⟩ := h i hi
  exact ⟨a, ha, c0, c1, c2, c3, c4, c5, ⟨hr.a, by have := hl _ (List.getElem_mem hi); omega, hr.s⟩⟩
def MuchEnd (L : List Rt) (w : World) (e : Ending) (w' : World) : Prop := ∃ b, e = .returned (.bool b) ∧ (b = false → ∀ r ∈ L, r.l.length ≤ 9000) ∧ w = w'
theorem much_any (o : Option Addr) (cap : Nat) (L : List Rt) (w : World) (hS : RtS0 w o L) :
    Calls Try.prog 13 #[.slice o L.length cap] w (MuchEnd L w) := by
  have HS := Lib.hid hS
  clear hS
  go_enter Try.func13, Try.ntmps13
  go_wp2
  go_loopg [3, 4] L.length (fun g n i wr => ∃ k m : Nat, n = .int .i64 m ∧ i = .int .i64 k ∧ k ≤ L.length ∧ k ≤ 2001 ∧ m ≤ 9000 ∧ Hid (g = L.length - k) ∧ Hid (w = wr) ∧ Hid (∀ j, (h : j < L.length) → j < k → L[j].l.length ≤ 9000))
  case atStart => exact ⟨0, 0, rfl, rfl, by omega, by omega, by omega, Lib.hid rfl, Lib.hid rfl, Lib.hid (fun j _ h => by omega)⟩
  case round =>
    obtain ⟨k, m, rfl, rfl, hk, hk2, hm, HK, HW, HJ⟩ := hrel
    have hw := HW.out
    subst hw
    by_cases hlt : k < L.length
    · by_cases h20 : k ≤ 2000
      · obtain ⟨a, rfl, -, -, -, -, -, c5, -⟩ := HS.out k hlt
        have HN := Lib.hid (show ∀ h : L[k].l.length ≤ 9000, ∀ j, (h : j < L.length) → j < k + 1 → L[j].l.length ≤ 9000 from fun h j hj hjk => by
          by_cases e : j = k
          · subst e; exact h
          · exact HJ.out j hj (by omega))
        generalize L[k].l.length = q at *
        go_wp2
        · go_ret
          exact ⟨true, rfl, by simp, rfl⟩
        · have hq : q ≤ 9000 := by omega
          go_roundg (L.length - k - 1)
          case measure => have := HK.out; omega
          case rel => exact ⟨k + 1, m + q, by rw [show min (q : Int) 9001 = q by omega]; go_num, by go_num, by omega, by omega, by omega, Lib.hid (by omega), Lib.hid rfl, Lib.hid (HN.out hq)⟩
      · have hk3 : k = 2001 := by omega
        have h20' : ¬ (k : Int) ≤ 2000 := by omega
        have hbig : (2000 : Int) < L.length := by omega
        clear hk3
        go_wp2
        go_ret
        exact ⟨true, rfl, by simp, rfl⟩
    · obtain rfl : k = L.length := by omega
      have HA := Lib.hid (show ∀ r ∈ L, r.l.length ≤ 9000 from fun r hr => by
        obtain ⟨j, hj, e⟩ := List.mem_iff_getElem.1 hr
        rw [← e]; exact HJ.out j hj hj)
      clear hlt
      go_wp2
      all_goals
        go_ret
        exact ⟨_, rfl, fun _ => HA.out, rfl⟩
end Go.Proofs.Ytbcekjbckeljmaa
