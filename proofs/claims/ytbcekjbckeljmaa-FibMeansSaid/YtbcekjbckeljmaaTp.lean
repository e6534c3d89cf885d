/- The walk of the trie's place. -/
import Derived.Test.YtbcekjbckeljmaaTr
set_option linter.unusedVariables false
set_option linter.unusedSimpArgs false
namespace Go.Proofs.Ytbcekjbckeljmaa
open Go.RowKit Px
set_option maxHeartbeats 400000
attribute [local go_sem high] eql47 neq47

theorem common_any {q p : Pf} (w : World) (hq : ok q) (hp : ok p) :
    Calls Try.prog 49 #[.agg #[.int .u32 q.1, .int .i64 q.2], .agg #[.int .u32 p.1, .int .i64 p.2]] w fun e w' =>
      e = .returned (.agg #[.int .u32 (com q p).1, .int .i64 (com q p).2]) ∧ Below w.heap.size w w' :=
  com_any q.1 q.2 p.1 p.2 w hq.1 hp.1 hq.2.1 hp.2.1
theorem bit_q (a : Nat) (n : Nat) (w : World) (h1 : a < 4294967296) (hn : n ≤ 31) :
    Calls Try.prog 50 #[.int .u32 a, .int .i64 n] w fun e w' => e = .returned (.int .i64 (Px.bit a n)) ∧ w' = w := (bit_any a n w h1 hn).mono fun _ _ h => ⟨h.1, h.2.symm⟩
theorem bit_k (a : Nat) (n k : Nat) (w : World) (h1 : a < 4294967296) (hn : n ≤ 31) (hk : Px.bit a n = k) :
    Calls Try.prog 50 #[.int .u32 a, .int .i64 n] w fun e w' => e = .returned (.int .i64 k) ∧ w' = w := by rw [← hk]; exact bit_q a n w h1 hn
theorem pw_cell {w w1 : World} (h : Below w.heap.size w w1) {a : Addr} {v : Value} (hc : w.cell? a = some v) : w1.cell? a = some v := (h.cell (World.block_lt_of_cell? w a hc)).trans hc
theorem place_any (T : Tr) (p : Pf) (tb : Nat) (w : World) (hT : T.In w) (hO : T.Okp) (hp : ok p) (hr : w.cell? ⟨tb, 0, none⟩ = some T.ptr) :
    Calls Try.prog 54 #[.pointer (some ⟨tb, 0, none⟩), .agg #[.int .u32 p.1, .int .i64 p.2]] w fun e w' =>
      e = .returned (.pointer (some (T.desc ⟨tb, 0, none⟩ p).1)) ∧ Below w.heap.size w w' := by
  have htb : tb < w.heap.size := World.block_lt_of_cell? w _ hr
  have HR := Lib.hid hr; have HT := Lib.hid hT; have HO := Lib.hid hO; have HP := Lib.hid hp
  clear hr hT hO hp
  go_enter Try.func54, Try.ntmps54
  go_wp2
  go_step3
  go_wp2
  go_step3
  go_wp2
  go_loopg [5] T.size (fun k s wr => ∃ (sb so : Nat) (S : Tr), s = .pointer (some ⟨sb, so, none⟩) ∧ Hid (S.desc ⟨sb, so, none⟩ p = T.desc ⟨tb, 0, none⟩ p) ∧ Hid (S.In wr) ∧ Hid (S.Okp) ∧ Hid (wr.cell? ⟨sb, so, none⟩ = some S.ptr) ∧ Hid (S.size ≤ k) ∧
      Hid (Below (w.heap.size + 1) (w.alloc (.cells #[.int .u32 p.1, .int .i64 p.2] 25)) wr))
  case atStart =>
    refine ⟨tb, 0, T, rfl, Lib.hid rfl, Lib.hid ?_, HO, Lib.hid ?_, Lib.hid (Nat.le_refl _), Lib.hid (Below.refl _ _)⟩
    · exact HT.out.below ((Below.refl _ _).alloc (Nat.le_refl _) _)
    · rw [World.cell?_alloc_past _ _ _ htb]; exact HR.out
  case round =>
    obtain ⟨sb, so, S, rfl, HD, HI, HS, HC, HK, HB⟩ := hrel
    have c0 : wr.cell? ⟨w.heap.size, 0, none⟩ = some (.int .u32 p.1) := by rw [HB.out.cell (by simp)]; exact World.cell?_alloc_at _ _ _ _ rfl
    have c1 : wr.cell? ⟨w.heap.size, 1, none⟩ = some (.int .i64 p.2) := by rw [HB.out.cell (by simp)]; exact World.cell?_alloc_at _ _ _ _ rfl
    have hc := HC.out
    have HW : Below w.heap.size w wr := ((Below.refl _ w).alloc (Nat.le_refl _) _).trans (HB.out.mono (by omega))
    have HW := Lib.hid HW
    cases S with
    | nil =>
      simp only [Tr.ptr] at hc
      go_wp2
      rw [Exit.noGoto_ret]
      go_ret
      exact ⟨by rw [← HD.out]; rfl, HW.out⟩
    | node b q v h l r =>
      simp only [Tr.ptr] at hc
      obtain ⟨hb, hl, hr⟩ := HI.out
      obtain ⟨oq, ol, or⟩ := HS.out
      have d0 := Tr.cell0 hb
      have d1 := Tr.cell1 hb
      have D260 := Lib.hid (Tr.cell260 hb)
      have D261 := Lib.hid (Tr.cell261 hb)
      have hlb : b < wr.heap.size := (Array.getElem?_eq_some_iff.1 hb).1
      have HL := Lib.hid hl
      have HRR := Lib.hid hr
      clear hb hl hr
      have K4 := Lib.hid (show ∀ w', Below wr.heap.size wr w' → w'.cell? ⟨w.heap.size, 0, none⟩ = some (.int .u32 p.1) ∧ w'.cell? ⟨w.heap.size, 1, none⟩ = some (.int .i64 p.2) ∧ w'.cell? ⟨b, 0, none⟩ = some (.int .u32 q.1) ∧ w'.cell? ⟨b, 1, none⟩ = some (.int .i64 q.2) from
          fun w' h => ⟨pw_cell h c0, pw_cell h c1, pw_cell h d0, pw_cell h d1⟩)
      by_cases e : q = p
      · have h1 := pxEq_yes e
        have E := Lib.hid e
        clear e
        go_wp2
        go_quiet (fail)
        go_wp2
        rw [Exit.noGoto_ret]
        go_ret
        exact ⟨by rw [← HD.out, Tr.desc, if_pos (.inl E.out)]; rfl, HW.out.drewN _⟩
      · have h1 := pxEq_no e
        have E := Lib.hid e
        clear e
        by_cases hcv : com q p = q
        · have h2 := pxEq_yes hcv
          have hn : q.2 ≤ 31 := by
            have := cov_len oq HP.out ((com_eq_iff oq HP.out).1 hcv) E.out
            have := HP.out.2.1
            omega
          have hp1 := HP.out.1
          have HV := Lib.hid ((com_eq_iff oq HP.out).1 hcv)
          clear hcv
          go_wp2
          go_region_held3 (fun w' => w'.cell? ⟨w.heap.size, 0, none⟩ = some (.int .u32 p.1) ∧ w'.cell? ⟨w.heap.size, 1, none⟩ = some (.int .i64 p.2) ∧ w'.cell? ⟨b, 0, none⟩ = some (.int .u32 q.1) ∧ w'.cell? ⟨b, 1, none⟩ = some (.int .i64 q.2)) (first | exact K4.out _ (Below.refl _ _).drew | exact K4.out _ (by assumption)) ((go_at_call 49; refine (common_any _ oq HP.out).mono ?_; rintro e w1 ⟨rfl, hb1⟩; have hB1 : Below wr.heap.size wr w1 := ((Below.refl _ wr).drew).trans hb1; clear hb1))
          obtain ⟨e0, e1, e2, e3⟩ := K4.out _ hB1
          have hbit := bit_lt p.1 q.2
          go_wp2
          go_quiet ((go_at_call 50; exact Calls.quiet_of_same (bit_q p.1 q.2 _ hp1 hn)))
          generalize hk : bit p.1 q.2 = k at *
          go_wp2
          go_roundg (gk - 1)
          case measure => have := HK.out; simp only [Tr.size] at this; omega
          case rel =>
            refine ⟨b, 260 + k, Tr.child l r k, ?_, Lib.hid ?_, Lib.hid ?_, Lib.hid ?_, Lib.hid ?_, Lib.hid ?_, Lib.hid ?_⟩
            · rfl
            · rw [← HD.out, Tr.desc_cov (by rintro (h | h); exact E.out h; exact h HV.out), hk]
            · have hl := (HL.out.below hB1).drewN nq; have hr := (HRR.out.below hB1).drewN nq
              unfold Tr.child; split
              · exact hl
              · exact hr
            · unfold Tr.child; split
              · exact ol
              · exact or
            · have g0 := pw_cell hB1 D260.out
              have g1 := pw_cell hB1 D261.out
              have : k = 0 ∨ k = 1 := by omega
              rcases this with rfl | rfl
              · exact g0
              · exact g1
            · have := HK.out; simp only [Tr.size] at this
              unfold Tr.child; split <;> omega
            · exact (HB.out.trans (hB1.mono (by have := HB.out.size; simp at this; omega))).drewN _
        · have h2 := pxEq_no hcv
          have HV := Lib.hid (fun h => hcv ((com_eq_iff oq HP.out).2 h))
          clear hcv
          go_wp2
          go_region_held3 (fun w' => w'.cell? ⟨w.heap.size, 0, none⟩ = some (.int .u32 p.1) ∧ w'.cell? ⟨w.heap.size, 1, none⟩ = some (.int .i64 p.2) ∧ w'.cell? ⟨b, 0, none⟩ = some (.int .u32 q.1) ∧ w'.cell? ⟨b, 1, none⟩ = some (.int .i64 q.2)) (first | exact K4.out _ (Below.refl _ _).drew | exact K4.out _ (by assumption)) ((go_at_call 49; refine (common_any _ oq HP.out).mono ?_; rintro e w1 ⟨rfl, hb1⟩; have hB1 : Below wr.heap.size wr w1 := ((Below.refl _ wr).drew).trans hb1; clear hb1))
          go_wp2
          rw [Exit.noGoto_ret]
          go_ret
          exact ⟨by rw [← HD.out, Tr.desc, if_pos (.inr HV.out)]; rfl, HW.out.trans (hB1.mono HW.out.size)⟩
end Go.Proofs.Ytbcekjbckeljmaa
