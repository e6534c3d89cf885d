/- The walk of fib.Make. -/
import Derived.Test.YtbcekjbckeljmaaNp
set_option linter.unusedVariables false
set_option linter.unusedSimpArgs false
namespace Go.Proofs.Ytbcekjbckeljmaa
open Go.RowKit Px
set_option maxHeartbeats 1000000
set_option maxRecDepth 10000
attribute [local go_sem high] eql47 neq47 loadRow_way loadRow_arr wayA_back arrA_back
attribute [local go_sem low] loadRowOf_some
attribute [local go_sem ↓] load54 store54 alloc54 load52 store52 alloc52 build180 build185
attribute [local go_sem] rload54 rstore54 rload52 rstore52 ralloc54 ralloc52 rbuild180 rbuild185 rfork180
attribute [local go_sem] size_drewN rowAt_alloc_past rowAt_alloc_at rowAt_drew rowAt_drewN thawed_alloc_past thawed_alloc_at thawed_drew thawed_drewN okCells_way storeRowOf_some putRow_drew putRow_drewN putRow_alloc_past putRow_alloc_at wayA_size wayA_toList cells_way arrA_toList cells_arr

/-- a slice of routes -/
def RtS (w : World) (o : Option Addr) (L : List Rt) : Prop :=
  ∀ i, (h : i < L.length) → ∃ a, o = some a ∧ w.cell? (a.add (i * 6)) = some (.int .u32 L[i].a) ∧ w.cell? ⟨(a.add (i * 6)).block, (a.add (i * 6)).off + 1, none⟩ = some (.int .i64 L[i].n) ∧
    w.cell? ⟨(a.add (i * 6)).block, (a.add (i * 6)).off + 2, none⟩ = some (.bool L[i].own) ∧ w.cell? ⟨(a.add (i * 6)).block, (a.add (i * 6)).off + 3, none⟩ = some (.bool L[i].taken) ∧
    w.cell? ⟨(a.add (i * 6)).block, (a.add (i * 6)).off + 4, none⟩ = some (.int .i64 L[i].d) ∧ w.cell? ⟨(a.add (i * 6)).block, (a.add (i * 6)).off + 5, none⟩ = some (.slice L[i].o L[i].l.length L[i].cap) ∧ L[i].In w
theorem RtS.keep {w w' : World} {o : Option Addr} {L : List Rt} (h : RtS w o L) (hb : Below w.heap.size w w') : RtS w' o L := by
  intro i hi
  obtain ⟨a, ha, c0, c1, c2, c3, c4, c5, hI⟩ := h i hi
  exact ⟨a, ha, pw_cell hb c0, pw_cell hb c1, pw_cell hb c2, pw_cell hb c3, pw_cell hb c4, pw_cell hb c5, hI.keep hb⟩
def Rt.pf (r : Rt) : Pf := (r.a, r.n.toNat)
/-- what a table of routes holds -/
def makeL : List Rt → List (Pf × Way) → Option (List (Pf × Way))
  | [], acc => some acc
  | r :: rs, acc => if r.may = true ∧ r.pf ∉ acc.map (·.1) then makeL rs (acc ++ [(r.pf, r.way)]) else none
theorem Tr.In_block : ∀ {T : Tr} {w : World}, T.In w → ∀ b ∈ T.blocks, ∃ cs : List Value, w.heap[b]? = some (.cells cs.toArray 110 (0, 0)) ∧ cs.length = 262
  | .nil, w, _, b, hb => by simp [Tr.blocks] at hb
  | .node b' q v h l r, w, hI, b, hb => by
    simp only [Tr.blocks, List.mem_cons, List.mem_append] at hb
    rcases hb with rfl | hb | hb
    · exact ⟨_, hI.1, by simp [Tr.cells, wayCells_length]⟩
    · exact Tr.In_block hI.2.1 b hb
    · exact Tr.In_block hI.2.2 b hb
structure MkF (w wr : World) (fb tb : Nat) (T : Tr) (lim : Nat) (acc : List (Pf × Way)) : Prop where
  b : Below w.heap.size w wr
  f : wr.heap[fb]? = some (.cells #[.pointer (some ⟨tb, 0, none⟩)] 62 (0, 0))
  t : Trie wr w.heap.size tb T lim acc.length
  wf : T.WF
  e : ∀ e, e ∈ T.ents ↔ e ∈ acc
theorem MkF.keep {w wr wr' : World} {fb tb lim : Nat} {T : Tr} {acc : List (Pf × Way)} (h : MkF w wr fb tb T lim acc) (hb : Below wr.heap.size wr wr') : MkF w wr' fb tb T lim acc :=
  ⟨h.b.trans (hb.mono h.b.size), (hb.block fb (Array.getElem?_eq_some_iff.1 h.f).1).trans h.f, h.t.below hb, h.wf, h.e⟩
theorem MkF.apart {w wr : World} {fb tb lim : Nat} {T : Tr} {acc : List (Pf × Way)} (h : MkF w wr fb tb T lim acc) : fb ≠ tb ∧ fb ∉ T.blocks ∧ fb < wr.heap.size := by
  refine ⟨?_, ?_, (Array.getElem?_eq_some_iff.1 h.f).1⟩
  · intro e
    have hh := h.t.hdr
    unfold Hdr at hh
    rw [← e, h.f] at hh
    injection hh with hh
    injection hh with h1 _ _
    have := congrArg Array.size h1
    simp at this
  · intro hb
    obtain ⟨cs, h1, h2⟩ := Tr.In_block h.t.isin fb hb
    rw [h.f] at h1
    injection h1 with h1
    injection h1 with h1 _ _
    have := congrArg Array.size h1
    simp [h2] at this
theorem MkF.fcell {w wr : World} {fb tb lim : Nat} {T : Tr} {acc : List (Pf × Way)} (h : MkF w wr fb tb T lim acc) : wr.cell? ⟨fb, 0, none⟩ = some (.pointer (some ⟨tb, 0, none⟩)) := by simp [World.cell?, h.f]
theorem trie_new (w : World) (n : Nat) : Trie (w.alloc (.cells #[.pointer none, .int .i64 n, .int .i64 0, .bool true] 105)) w.heap.size w.heap.size .nil n 0 :=
  ⟨heap_alloc_at _ _ _ rfl, trivial, trivial, by simp [Tr.blocks], by simp [Tr.blocks], by simp [Tr.blocks]⟩
theorem make_full (o : Option Addr) (cap n : Nat) (w : World) (hn : 1024 < n) :
    Calls Try.prog 14 #[.slice o n cap] w fun e w' => e = .returned (.tuple #[.pointer none, .int .i64 5]) ∧ w' = w := by
  have h : (1024 : Int) < n := by omega
  go_enter Try.func14, Try.ntmps14
  go_wp2
  go_ret2
  exact ⟨rfl, rfl⟩
def MakeEnd (w : World) (lim : Nat) (e : Ending) (w' : World) : Option (List (Pf × Way)) → Prop
  | none => e = .returned (.tuple #[.pointer none, .int .i64 2])
  | some acc => ∃ fb tb T, e = .returned (.tuple #[.pointer (some ⟨fb, 0, none⟩), .int .i64 0]) ∧ MkF w w' fb tb T lim acc
theorem get_all (T : Tr) (a : Nat) (m : Int) (base tb lim n : Nat) (hW : T.WF) (ha : a < 4294967296) :
    ∃ (v : Way) (has : Bool), (has = true ↔ Px.may a m = true ∧ (a, m.toNat) ∈ T.ents.map (·.1)) ∧ (has = true → ((a, m.toNat), v) ∈ T.ents) ∧ (has = false → v = zWay) ∧
      ∀ w, Trie w base tb T lim n → Calls Try.prog 31 #[.pointer (some ⟨tb, 0, none⟩), .agg #[.int .u32 a, .int .i64 m]] w fun e w' => e = .returned (.tuple #[.agg (wayA v), .bool has]) ∧ Below w.heap.size w w' := by
  cases hm : Px.may a m with
  | false =>
    exact ⟨zWay, false, by simp, by simp, fun _ => rfl, fun w hT => get_bad a m tb w ha hm (by have hH := hT.hdr; unfold Hdr at hH; simp [World.cell?, hH])⟩
  | true =>
    have hm' := hm
    unfold Px.may at hm'
    simp only [Bool.and_eq_true, decide_eq_true_eq] at hm'
    obtain ⟨⟨h1, h2⟩, h3⟩ := hm'
    obtain ⟨m, rfl⟩ := Int.eq_ofNat_of_zero_le h1
    have hok : ok (a, m) := ⟨ha, by simp; omega, by simp only [Int.toNat_natCast] at h3; exact (fst_eq_iff a m).2 h3⟩
    by_cases hk : (a, m) ∈ T.ents.map (·.1)
    · obtain ⟨⟨k, v⟩, he, hke⟩ := List.mem_map.1 hk
      simp only at hke
      subst hke
      exact ⟨v, true, by simpa using ⟨v, he⟩, fun _ => by simpa using he, by simp, fun w hT => get_is T (a, m) v base tb lim n w hT hW hok he⟩
    · exact ⟨zWay, false, by simpa using hk, by simp, fun _ => rfl, fun w hT => get_no T (a, m) base tb lim n w hT hok (fun u hu => hk (List.mem_map.2 ⟨_, hu, rfl⟩))⟩
theorem entry_all (r : Rt) (w : World) (h : r.In w) :
    Calls Try.prog 8 #[r.val] w fun e w' => e = .returned (.tuple #[.agg (wayA (if r.may = true then r.way else zWay)), .int .i64 (if r.may = true then 0 else 2)]) ∧ Below w.heap.size w w' := by
  by_cases hm : r.may = true
  · rw [if_pos hm, if_pos hm]; exact entry_any r w h hm
  · rw [if_neg hm, if_neg hm]; exact entry_bad r w h (by simpa using hm)
theorem MkF.insert {w wr wr' : World} {fb lim : Nat} {T T' : Tr} {acc : List (Pf × Way)} {p : Pf} {v : Way} (h : MkF w wr fb w.heap.size T lim acc) (hf : Frm w.heap.size w.heap.size T wr wr') (ht : Trie wr' w.heap.size w.heap.size T' lim (acc.length + 1)) (hW : T'.WF) (he : ∀ e, e ∈ T'.ents ↔ e = (p, v) ∨ e ∈ T.ents) :
    MkF w wr' fb w.heap.size T' lim (acc ++ [(p, v)]) := by
  obtain ⟨a1, a2, a3⟩ := h.apart
  refine ⟨h.b.trans hf.b, (hf.k fb a3 a1 a2).trans h.f, by simpa using ht, hW, fun e => ?_⟩
  rw [he, h.e, List.mem_append, List.mem_singleton]
  exact Or.comm
theorem make_any (o : Option Addr) (cap : Nat) (L : List Rt) (w : World) (hS : RtS w o L) (hn : L.length ≤ 1024) :
    Calls Try.prog 14 #[.slice o L.length cap] w fun e w' => Below w.heap.size w w' ∧ MakeEnd w L.length e w' (makeL L []) := by
  have h : ¬ (1024 : Int) < L.length := by omega
  have HS := Lib.hid hS
  clear hS
  have hM : Hid (MkF w ((w.alloc (.cells #[.pointer none, .int .i64 L.length, .int .i64 0, .bool true] 105)).alloc (.cells #[.pointer (some ⟨w.heap.size, 0, none⟩)] 62)) (w.heap.size + 1) w.heap.size .nil L.length []) := Lib.hid
    ⟨((Below.refl _ w).alloc (Nat.le_refl _) _).alloc (by simp) _, heap_alloc_at _ _ _ (by simp), (trie_new w L.length).below ((Below.refl _ _).alloc (Nat.le_refl _) _), by trivial, by simp [Tr.ents]⟩
  go_enter Try.func14, Try.ntmps14
  go_wp2_with fail
  refine (new_any L.length _ (by omega)).mono ?_
  rintro e w1 ⟨rfl, rfl⟩
  go_wp2
  go_loopg [21] L.length (fun k i wr => ∃ (n : Nat) (T : Tr) (acc : List (Pf × Way)), i = .int .i64 n ∧ n ≤ L.length ∧ Hid (k = L.length - n) ∧ Hid (acc.length = n) ∧ Hid (makeL L [] = makeL (L.drop n) acc) ∧ Hid (MkF w wr (w.heap.size + 1) w.heap.size T L.length acc))
  case atStart => exact ⟨0, .nil, [], rfl, by omega, Lib.hid (by omega), Lib.hid rfl, Lib.hid rfl, hM⟩
  case round =>
    clear hM
    obtain ⟨n, T, acc, rfl, hnl, HK, HA, HL, HF⟩ := hrel
    by_cases hlt : n < L.length
    · obtain ⟨a, rfl, p0, p1, p2, p3, p4, p5, hI⟩ := (HS.out.keep HF.out.b) n hlt
      have HI := Lib.hid hI
      clear hI
      have hst : makeL (L.drop n) acc = if L[n].may = true ∧ L[n].pf ∉ acc.map (·.1) then makeL (L.drop (n + 1)) (acc ++ [(L[n].pf, L[n].way)]) else none := by
        rw [List.drop_eq_getElem_cons hlt]; rfl
      have HST := Lib.hid hst
      clear hst
      generalize L[n] = r at *
      have HE := fun w' (hw : r.In w') => Lib.hid (entry_all r w' hw)
      have HIB := Lib.hid (HI.out.keep ((Below.refl _ wr).alloc (Nat.le_refl _) (.cells r.cells 28)))
      have HFB := Lib.hid (HF.out.keep ((Below.refl _ wr).alloc (Nat.le_refl _) (.cells r.cells 28)))
      have hra := HI.out.a
      obtain ⟨gv, has, g1, g2, g3, g4⟩ := get_all T r.a r.n w.heap.size w.heap.size L.length acc.length HF.out.wf hra
      have HG1 := Lib.hid g1
      have HG4 := Lib.hid g4
      clear g1 g2 g3 g4
      generalize hv1 : (if r.may = true then r.way else zWay) = v1 at *
      generalize hc1 : (if r.may = true then (0 : Int) else 2) = c1 at *
      have HV1 := Lib.hid hv1
      have HC1 := Lib.hid hc1
      clear hv1 hc1
      simp only [Rt.cells, Rt.val] at *
      go_wp2_with fail
      refine (HE _ HIB.out).out.mono ?_
      rintro e w2 ⟨rfl, hb2⟩
      have b0 := pw_cell (a := ⟨wr.heap.size, 0, none⟩) (v := .int .u32 r.a) hb2 (World.cell?_alloc_at _ _ _ 0 rfl)
      have b1 := pw_cell (a := ⟨wr.heap.size, 1, none⟩) (v := .int .i64 r.n) hb2 (World.cell?_alloc_at _ _ _ 1 rfl)
      have HF2 := Lib.hid (HFB.out.keep hb2)
      have hsw2 : wr.heap.size < w2.heap.size := by have := hb2.size; simp at this; omega
      clear hb2
      go_wp2_with fail
      refine wp_gen (fun wx => MkF w wx (w.heap.size + 1) w.heap.size T L.length acc ∧ wx.cell? ⟨wr.heap.size, 0, none⟩ = some (.int .u32 r.a) ∧ wx.cell? ⟨wr.heap.size, 1, none⟩ = some (.int .i64 r.n) ∧ rowAt wx ⟨w2.heap.size, 0, none⟩ 257 = some (wayCells v1) ∧ w2.heap.size < wx.heap.size) ?_ ?_
      · rw [putRow_alloc_at _ _ _ _ rfl (by rw [wayCells_length, wayA_size])]
        have hb : Below w2.heap.size w2 (w2.alloc (.cells (wayCells v1).toArray 33)) := (Below.refl _ _).alloc (Nat.le_refl _) _
        exact ⟨HF2.out.keep hb, pw_cell hb b0, pw_cell hb b1, rowAt_alloc_at _ _ _ _ rfl (wayA_size v1).symm, by simp⟩
      rintro wx ⟨hx, b0, b1, hrow, hsx⟩
      have HX := Lib.hid hx
      clear hx
      have K4 := Lib.hid (show ∀ w', Below wx.heap.size wx w' → w'.cell? ⟨w.heap.size + 1, 0, none⟩ = some (.pointer (some ⟨w.heap.size, 0, none⟩)) ∧ w'.cell? ⟨wr.heap.size, 0, none⟩ = some (.int .u32 r.a) ∧ w'.cell? ⟨wr.heap.size, 1, none⟩ = some (.int .i64 r.n) from
        fun w' h => ⟨(HX.out.keep h).fcell, pw_cell h b0, pw_cell h b1⟩)
      go_region_held3 (fun w' => w'.cell? ⟨w.heap.size + 1, 0, none⟩ = some (.pointer (some ⟨w.heap.size, 0, none⟩)) ∧ w'.cell? ⟨wr.heap.size, 0, none⟩ = some (.int .u32 r.a) ∧ w'.cell? ⟨wr.heap.size, 1, none⟩ = some (.int .i64 r.n))
        (exact K4.out _ (by repeat (first | assumption | exact Below.refl _ _ | refine Below.drew ?_ | refine Below.alloc ?_ (by first | exact Nat.le_refl _ | exact Below.size (by assumption)) _ | refine below_putRow ?_ (by first | exact Nat.le_refl _ | exact Below.size (by assumption)) _)))
        ((go_at_call 31; refine (HG4.out _ (MkF.t (show MkF w _ (w.heap.size + 1) w.heap.size T L.length acc by repeat (first | exact HX.out | refine MkF.keep ?_ ((Below.refl _ _).drew) | refine MkF.keep ?_ ((Below.refl _ _).alloc (Nat.le_refl _) _))))).mono ?_; rintro e w3 ⟨rfl, hb3⟩; first | (have hB3 : Below wx.heap.size wx w3 := ((Below.refl _ wx).drew).trans hb3; have hs3 := hB3.size; clear hb3) | (have hB3 : Below wx.heap.size wx w3 := ((((Below.refl _ wx).alloc (Nat.le_refl _) _).drew)).trans (hb3.mono (by simp)); have hz3 := (rowAt_below hb3 257 (a := ⟨wx.heap.size, 0, none⟩) (by simp)).trans (rowAt_alloc_at (w := wx) (wayA zWay) 33 wx.heap.size 257 rfl (wayA_size zWay).symm); have ht3 := (thawed_below hb3 (g := wx.heap.size) (by simp)).trans (thawed_alloc_at (w := wx) (wayA zWay) 33 wx.heap.size rfl); have hs3 := hB3.size; clear hb3)))
      all_goals
        refine wp_genX (fun wy => Below wx.heap.size wx wy) (by repeat (first | assumption | exact Below.refl _ _ | refine Below.drew ?_ | refine Below.alloc ?_ (by first | exact Nat.le_refl _ | exact Below.size (by assumption)) _ | refine below_putRow ?_ (by first | exact Nat.le_refl _ | exact Below.size (by assumption)) _)) ?_
        rintro wy hy
        have HFY := Lib.hid (HX.out.keep hy)
        have b0 := pw_cell hy b0
        have b1 := pw_cell hy b1
        have hrow := (rowAt_below hy 257 (a := ⟨w2.heap.size, 0, none⟩) hsx).trans hrow
        have hsy := Nat.lt_of_lt_of_le hsx hy.size
        clear hy
        have hkeys : Hid ((r.a, r.n.toNat) ∈ T.ents.map (·.1) ↔ r.pf ∈ acc.map (·.1)) := Lib.hid (by
          simp only [List.mem_map, Rt.pf]
          constructor
          · rintro ⟨x, hx, e⟩; exact ⟨x, (HFY.out.e x).1 hx, e⟩
          · rintro ⟨x, hx, e⟩; exact ⟨x, (HFY.out.e x).2 hx, e⟩)
        cases hmay : r.may with
        | false =>
          have e : c1 = 2 := by rw [← HC1.out, hmay]; rfl
          subst e
          have HN := Lib.hid (show makeL (L.drop n) acc = none by rw [HST.out, if_neg (by simp [hmay])])
          clear hmay
          go_wp2
          go_ret2
          exact ⟨HFY.out.b, by rw [HL.out, HN.out]; rfl⟩
        | true =>
          have e : c1 = 0 := by rw [← HC1.out, hmay]; rfl
          subst e
          cases has with
          | true =>
            have HN := Lib.hid (show makeL (L.drop n) acc = none by rw [HST.out, if_neg (fun hh => hh.2 (hkeys.out.1 (HG1.out.1 rfl).2))])
            clear hmay
            go_wp2
            go_ret2
            exact ⟨HFY.out.b, by rw [HL.out, HN.out]; rfl⟩
          | false =>
            have hpm : Px.may r.a r.n = true := by
              have := hmay
              simp only [Rt.may, Bool.and_eq_true] at this
              exact this.1
            have hnin : r.pf ∉ acc.map (·.1) := fun hh => by
              have := HG1.out.2 ⟨hpm, hkeys.out.2 hh⟩
              cases this
            have HN := Lib.hid (show makeL (L.drop n) acc = makeL (L.drop (n + 1)) (acc ++ [(r.pf, r.way)]) by rw [HST.out, if_pos ⟨hmay, hnin⟩])
            have ev : r.way = v1 := by rw [← HV1.out, hmay]; rfl
            have HEV := Lib.hid ev
            have hpm' := hpm
            unfold Px.may at hpm'
            simp only [Bool.and_eq_true, decide_eq_true_eq] at hpm'
            have hok : ok r.pf := ⟨HI.out.a, by show r.n.toNat ≤ 32; omega, (fst_eq_iff r.a r.n.toNat).2 hpm'.2⟩
            have HINS := Lib.hid (show ∀ wz, MkF w wz (w.heap.size + 1) w.heap.size T L.length acc → Calls Try.prog 32 #[.pointer (some ⟨w.heap.size, 0, none⟩), .agg #[.int .u32 r.a, .int .i64 r.n], .agg (wayA v1)] wz fun e w' => e = .returned (.int .i64 0) ∧ Frm w.heap.size w.heap.size T wz w' ∧ ∃ T', Trie w' w.heap.size w.heap.size T' L.length (acc.length + 1) ∧ T'.WF ∧ ∀ e, e ∈ T'.ents ↔ e = (r.pf, v1) ∨ e ∈ T.ents from fun wz hz => by
              have h := insert_any T r.pf v1 w.heap.size w.heap.size L.length acc.length wz hz.t hz.wf hok (by have := HA.out; omega) (by omega) (fun u hu => hnin (List.mem_map.2 ⟨_, (hz.e _).1 hu, rfl⟩)) hz.b.size
              have e : ((r.pf.2 : Nat) : Int) = r.n := Int.toNat_of_nonneg hpm'.1.1
              rw [e] at h
              exact h)
            clear hpm hpm' hnin hok hmay ev
            have K5 := Lib.hid (show ∀ w', Below wy.heap.size wy w' → w'.cell? ⟨w.heap.size + 1, 0, none⟩ = some (.pointer (some ⟨w.heap.size, 0, none⟩)) ∧ w'.cell? ⟨wr.heap.size, 0, none⟩ = some (.int .u32 r.a) ∧ w'.cell? ⟨wr.heap.size, 1, none⟩ = some (.int .i64 r.n) ∧ rowAt w' ⟨w2.heap.size, 0, none⟩ 257 = some (wayCells v1) from
              fun w' h => ⟨(HFY.out.keep h).fcell, pw_cell h b0, pw_cell h b1, (rowAt_below h 257 (a := ⟨w2.heap.size, 0, none⟩) hsy).trans hrow⟩)
            have hTlt : ∀ k ∈ T.blocks, k < wr.heap.size := fun k hk => HF.out.t.isin.lt k hk
            have hfl := HF.out.apart.2.2
            have hs2 : wr.heap.size < w2.heap.size := hsw2
            have K6 := Lib.hid (show ∀ wz w', Below wy.heap.size wy wz → Frm w.heap.size w.heap.size T wz w' → w'.cell? ⟨w.heap.size + 1, 0, none⟩ = some (.pointer (some ⟨w.heap.size, 0, none⟩)) ∧ w'.cell? ⟨wr.heap.size, 0, none⟩ = some (.int .u32 r.a) ∧ w'.cell? ⟨wr.heap.size, 1, none⟩ = some (.int .i64 r.n) ∧ rowAt w' ⟨w2.heap.size, 0, none⟩ 257 = some (wayCells v1) from fun wz w' h1 h2 => by
              obtain ⟨k0, k1, k2, k3⟩ := K5.out wz h1
              obtain ⟨q1, q2, q3⟩ := (HFY.out.keep h1).apart
              have l1 := World.block_lt_of_cell? wz _ k1
              have l3 : w2.heap.size < wz.heap.size := Nat.lt_of_lt_of_le hsy h1.size
              refine ⟨(World.cell?_of_block (h2.k _ q3 q1 q2)).trans k0, (World.cell?_of_block (h2.k wr.heap.size l1 (by omega) (fun hh => by have := hTlt _ hh; omega))).trans k1, (World.cell?_of_block (h2.k wr.heap.size l1 (by omega) (fun hh => by have := hTlt _ hh; omega))).trans k2, ?_⟩
              have e := h2.k w2.heap.size l3 (by omega) (fun hh => by have := hTlt _ hh; omega)
              unfold rowAt at k3 ⊢
              simp only at k3 ⊢
              rw [e]
              exact k3)
            clear hTlt hfl hs2
            go_wp2_with fail
            go_region_held3 (fun w' => w'.cell? ⟨w.heap.size + 1, 0, none⟩ = some (.pointer (some ⟨w.heap.size, 0, none⟩)) ∧ w'.cell? ⟨wr.heap.size, 0, none⟩ = some (.int .u32 r.a) ∧ w'.cell? ⟨wr.heap.size, 1, none⟩ = some (.int .i64 r.n) ∧ rowAt w' ⟨w2.heap.size, 0, none⟩ 257 = some (wayCells v1))
              (first | exact K6.out _ _ (by repeat (first | exact Below.refl _ _ | refine Below.drew ?_)) hfr | exact K5.out _ (by repeat (first | exact Below.refl _ _ | refine Below.drew ?_)))
              ((go_at_call 32; refine (HINS.out _ (by repeat (first | exact HFY.out | refine MkF.keep ?_ ((Below.refl _ _).drew)))).mono ?_; rintro e w4 ⟨rfl, hfr, T', ht', hw', he'⟩))
            have HM4 := Lib.hid (MkF.insert (show MkF w _ (w.heap.size + 1) w.heap.size T L.length acc by repeat (first | exact HFY.out | refine MkF.keep ?_ ((Below.refl _ _).drew))) hfr ht' hw' he')
            clear hfr ht' hw' he' b0 b1 hrow p0 p1 p2 p3 p4 p5
            go_wp2
            go_roundg (L.length - n - 1)
            case measure => have := HK.out; omega
            case rel =>
              refine ⟨n + 1, T', acc ++ [(r.pf, v1)], by go_num, by omega, Lib.hid (by omega), Lib.hid (by rw [List.length_append, HA.out]; rfl), Lib.hid ?_, by first | exact HM4 | exact Lib.hid (HM4.out.keep ((Below.refl _ _).drew))⟩
              rw [HL.out, HN.out, HEV.out]
    · obtain rfl : n = L.length := by omega
      go_wp2
      go_ret2
      refine ⟨HF.out.b, ?_⟩
      rw [HL.out, List.drop_length]
      exact ⟨_, _, T, rfl, HF.out⟩
end Go.Proofs.Ytbcekjbckeljmaa
