/- Walks of the words of the statements: known, Long, large, Has. -/
import Derived.Test.YtdgncnhmgbmpjaaRefB
import Derived.Test.YtdgncnhmgbmpjaaCellJ
namespace Go.Proofs.Ytdgncnhmgbmpjaa
open Go.RowKit Go.Shelf
set_option linter.unusedVariables false

def exS : List Int := [2, 2]
def exE : List Ent := [([-1, -1], 0), ([1, -1], 1), ([-1, 1], 2)]
def RPar (sizes : List Int) (es : List Ent) (w : World) (e : Ending) (w' : World) : Prop := ∃ sv ev, e = .returned (.agg #[sv, ev]) ∧ Par w' sv ev sizes es ∧ Ext w w'

theorem ints_lit {w : World} {b n : Nat} {l : List Int} (hn : n = l.length) (hm : n ≤ 1000) (h : ∀ i, i < n → w.cell? ⟨b, i, none⟩ = some (.int .i64 (l[i]?.getD 0))) : Ints w (.slice (some ⟨b, 0, none⟩) n n) l := by
  subst hn
  exact ⟨_, _, rfl, Nat.le_refl _, by unfold maxLen; omega, fun i hi => ⟨b, 0, rfl, by show w.cell? ⟨b, 0 + i, none⟩ = _; rw [Nat.zero_add]; exact h i hi⟩⟩

set_option maxHeartbeats 400000 in
theorem example_c (w : World) : Calls Try.prog 19 #[] w (RPar exS exE w) := by
  go_enter Try.func19, Try.ntmps19
  go_wp2_with fail
  obtain ⟨wA, hA⟩ : ∃ W, W = w.alloc (.cells #[.slice (some ⟨w.heap.size + 1, 0, none⟩) 2 2, .slice (some ⟨w.heap.size + 5, 0, none⟩) 3 3] 25) := ⟨_, rfl⟩
  obtain ⟨wB, hB⟩ : ∃ W, W = wA.alloc (.cells #[.int .i64 2, .int .i64 2] 3) := ⟨_, rfl⟩
  obtain ⟨wC, hC⟩ : ∃ W, W = wB.alloc (.cells #[.int .i64 (-1), .int .i64 (-1)] 3) := ⟨_, rfl⟩
  obtain ⟨wD, hD⟩ : ∃ W, W = wC.alloc (.cells #[.int .i64 1, .int .i64 (-1)] 3) := ⟨_, rfl⟩
  obtain ⟨wE, hE⟩ : ∃ W, W = wD.alloc (.cells #[.int .i64 (-1), .int .i64 1] 3) := ⟨_, rfl⟩
  obtain ⟨wG, hG⟩ : ∃ W, W = wE.alloc (.cells #[.slice (some ⟨w.heap.size + 2, 0, none⟩) 2 2, .int .i64 0, .slice (some ⟨w.heap.size + 3, 0, none⟩) 2 2, .int .i64 1, .slice (some ⟨w.heap.size + 4, 0, none⟩) 2 2, .int .i64 2] 42) := ⟨_, rfl⟩
  have zA : wA.heap.size = w.heap.size + 1 := by rw [hA]; simp
  have xA : Ext w wA := by rw [hA]; exact Ext.alloc _ _
  have zB : wB.heap.size = w.heap.size + 2 := by rw [hB]; simp [zA]
  have xB : Ext wA wB := by rw [hB]; exact Ext.alloc _ _
  have zC : wC.heap.size = w.heap.size + 3 := by rw [hC]; simp [zB]
  have xC : Ext wB wC := by rw [hC]; exact Ext.alloc _ _
  have zD : wD.heap.size = w.heap.size + 4 := by rw [hD]; simp [zC]
  have xD : Ext wC wD := by rw [hD]; exact Ext.alloc _ _
  have zE : wE.heap.size = w.heap.size + 5 := by rw [hE]; simp [zD]
  have xE : Ext wD wE := by rw [hE]; exact Ext.alloc _ _
  have zG : wG.heap.size = w.heap.size + 6 := by rw [hG]; simp [zE]
  have xG : Ext wE wG := by rw [hG]; exact Ext.alloc _ _
  have cA0 := alloc_cell w #[.slice (some ⟨w.heap.size + 1, 0, none⟩) 2 2, .slice (some ⟨w.heap.size + 5, 0, none⟩) 3 3] 25 (i := 0) rfl
  rw [← hA] at cA0
  replace cA0 := xB.keep cA0
  replace cA0 := xC.keep cA0
  replace cA0 := xD.keep cA0
  replace cA0 := xE.keep cA0
  replace cA0 := xG.keep cA0
  have cA1 := alloc_cell w #[.slice (some ⟨w.heap.size + 1, 0, none⟩) 2 2, .slice (some ⟨w.heap.size + 5, 0, none⟩) 3 3] 25 (i := 1) rfl
  rw [← hA] at cA1
  replace cA1 := xB.keep cA1
  replace cA1 := xC.keep cA1
  replace cA1 := xD.keep cA1
  replace cA1 := xE.keep cA1
  replace cA1 := xG.keep cA1
  have cB0 := alloc_cell wA #[.int .i64 2, .int .i64 2] 3 (i := 0) rfl
  rw [← hB, zA] at cB0
  replace cB0 := xC.keep cB0
  replace cB0 := xD.keep cB0
  replace cB0 := xE.keep cB0
  replace cB0 := xG.keep cB0
  have cB1 := alloc_cell wA #[.int .i64 2, .int .i64 2] 3 (i := 1) rfl
  rw [← hB, zA] at cB1
  replace cB1 := xC.keep cB1
  replace cB1 := xD.keep cB1
  replace cB1 := xE.keep cB1
  replace cB1 := xG.keep cB1
  have cC0 := alloc_cell wB #[.int .i64 (-1), .int .i64 (-1)] 3 (i := 0) rfl
  rw [← hC, zB] at cC0
  replace cC0 := xD.keep cC0
  replace cC0 := xE.keep cC0
  replace cC0 := xG.keep cC0
  have cC1 := alloc_cell wB #[.int .i64 (-1), .int .i64 (-1)] 3 (i := 1) rfl
  rw [← hC, zB] at cC1
  replace cC1 := xD.keep cC1
  replace cC1 := xE.keep cC1
  replace cC1 := xG.keep cC1
  have cD0 := alloc_cell wC #[.int .i64 1, .int .i64 (-1)] 3 (i := 0) rfl
  rw [← hD, zC] at cD0
  replace cD0 := xE.keep cD0
  replace cD0 := xG.keep cD0
  have cD1 := alloc_cell wC #[.int .i64 1, .int .i64 (-1)] 3 (i := 1) rfl
  rw [← hD, zC] at cD1
  replace cD1 := xE.keep cD1
  replace cD1 := xG.keep cD1
  have cE0 := alloc_cell wD #[.int .i64 (-1), .int .i64 1] 3 (i := 0) rfl
  rw [← hE, zD] at cE0
  replace cE0 := xG.keep cE0
  have cE1 := alloc_cell wD #[.int .i64 (-1), .int .i64 1] 3 (i := 1) rfl
  rw [← hE, zD] at cE1
  replace cE1 := xG.keep cE1
  have cG0 := alloc_cell wE #[.slice (some ⟨w.heap.size + 2, 0, none⟩) 2 2, .int .i64 0, .slice (some ⟨w.heap.size + 3, 0, none⟩) 2 2, .int .i64 1, .slice (some ⟨w.heap.size + 4, 0, none⟩) 2 2, .int .i64 2] 42 (i := 0) rfl
  rw [← hG, zE] at cG0
  have cG1 := alloc_cell wE #[.slice (some ⟨w.heap.size + 2, 0, none⟩) 2 2, .int .i64 0, .slice (some ⟨w.heap.size + 3, 0, none⟩) 2 2, .int .i64 1, .slice (some ⟨w.heap.size + 4, 0, none⟩) 2 2, .int .i64 2] 42 (i := 1) rfl
  rw [← hG, zE] at cG1
  have cG2 := alloc_cell wE #[.slice (some ⟨w.heap.size + 2, 0, none⟩) 2 2, .int .i64 0, .slice (some ⟨w.heap.size + 3, 0, none⟩) 2 2, .int .i64 1, .slice (some ⟨w.heap.size + 4, 0, none⟩) 2 2, .int .i64 2] 42 (i := 2) rfl
  rw [← hG, zE] at cG2
  have cG3 := alloc_cell wE #[.slice (some ⟨w.heap.size + 2, 0, none⟩) 2 2, .int .i64 0, .slice (some ⟨w.heap.size + 3, 0, none⟩) 2 2, .int .i64 1, .slice (some ⟨w.heap.size + 4, 0, none⟩) 2 2, .int .i64 2] 42 (i := 3) rfl
  rw [← hG, zE] at cG3
  have cG4 := alloc_cell wE #[.slice (some ⟨w.heap.size + 2, 0, none⟩) 2 2, .int .i64 0, .slice (some ⟨w.heap.size + 3, 0, none⟩) 2 2, .int .i64 1, .slice (some ⟨w.heap.size + 4, 0, none⟩) 2 2, .int .i64 2] 42 (i := 4) rfl
  rw [← hG, zE] at cG4
  have cG5 := alloc_cell wE #[.slice (some ⟨w.heap.size + 2, 0, none⟩) 2 2, .int .i64 0, .slice (some ⟨w.heap.size + 3, 0, none⟩) 2 2, .int .i64 1, .slice (some ⟨w.heap.size + 4, 0, none⟩) 2 2, .int .i64 2] 42 (i := 5) rfl
  rw [← hG, zE] at cG5
  have e0 : Ints wG (.slice (some ⟨w.heap.size + 1, 0, none⟩) 2 2) exS := ints_lit rfl (by omega) (fun i hi => by
    match i, hi with
    | 0, _ => exact cB0
    | 1, _ => exact cB1)
  have e1 : Ints wG (.slice (some ⟨w.heap.size + 2, 0, none⟩) 2 2) [-1, -1] := ints_lit rfl (by omega) (fun i hi => by
    match i, hi with
    | 0, _ => exact cC0
    | 1, _ => exact cC1)
  have e2 : Ints wG (.slice (some ⟨w.heap.size + 3, 0, none⟩) 2 2) [1, -1] := ints_lit rfl (by omega) (fun i hi => by
    match i, hi with
    | 0, _ => exact cD0
    | 1, _ => exact cD1)
  have e3 : Ints wG (.slice (some ⟨w.heap.size + 4, 0, none⟩) 2 2) [-1, 1] := ints_lit rfl (by omega) (fun i hi => by
    match i, hi with
    | 0, _ => exact cE0
    | 1, _ => exact cE1)
  have e4 : Ents wG (.slice (some ⟨w.heap.size + 5, 0, none⟩) 3 3) exE := by
    refine ⟨some ⟨w.heap.size + 5, 0, none⟩, 3, rfl, Nat.le_refl _, by unfold maxLen; omega, fun i hi => ⟨_, _, rfl, ?_⟩⟩
    match i, hi with
    | 0, _ => exact ⟨_, cG0, e1, cG1⟩
    | 1, _ => exact ⟨_, cG2, e2, cG3⟩
    | 2, _ => exact ⟨_, cG4, e3, cG5⟩
  have hX : Ext w wG := xA.trans (xB.trans (xC.trans (xD.trans (xE.trans xG))))
  have hfin : RPar exS exE w (.returned (.agg #[.slice (some ⟨w.heap.size + 1, 0, none⟩) 2 2, .slice (some ⟨w.heap.size + 5, 0, none⟩) 3 3])) wG := ⟨_, _, rfl, ⟨e0, e4⟩, hX⟩
  have q0 := cA0
  have q1 := cA1
  rw [← hA, ← hB, ← hC, ← hD, ← hE, ← hG]
  refine bodyPost_ret (v := .agg #[.slice (some ⟨w.heap.size + 1, 0, none⟩) 2 2, .slice (some ⟨w.heap.size + 5, 0, none⟩) 3 3]) ?_ rfl hfin
  clear hfin e0 e1 e2 e3 e4 hA hB hC hD hE hG
  simp [results, Try.results19, go_sem, q0, q1]

theorem ex_valid : validI exS exE = 0 := by decide +kernel
theorem ex_fill : fillL exS exE = [0, 2, 1, -1] := by decide +kernel

set_option maxHeartbeats 400000 in
theorem known_c (w : World) : Calls Try.prog 7 #[] w (RV (.bool true) w) := by
  go_enter Try.func7, Try.ntmps7
  go_wp2_with fail
  refine (example_c _).mono ?_; rintro e w1 ⟨sv, ev, rfl, hp, hx⟩
  have HF := Lib.hid (Fill_c sv ev exS exE w1 hp)
  rw [ex_valid, if_pos rfl, ex_fill] at HF
  clear hp
  go_wp2_with fail
  refine HF.out.mono ?_; rintro e w2 ⟨v, rfl, hv, hx2⟩
  have hc := fun i (hi : i < 4) => alloc_cell w2 #[.int .i64 0, .int .i64 2, .int .i64 1, .int .i64 (-1)] 3 (i := i) (v := .int .i64 (([0, 2, 1, -1] : List Int)[i]?.getD 0)) (by
    match i, hi with
    | 0, _ => rfl
    | 1, _ => rfl
    | 2, _ => rfl
    | 3, _ => rfl)
  have hA := Ext.alloc w2 (.cells #[.int .i64 0, .int .i64 2, .int .i64 1, .int .i64 (-1)] 3)
  have HS := Lib.hid (sameInts_c v (.slice (some ⟨w2.heap.size, 0, none⟩) 4 4) [0, 2, 1, -1] [0, 2, 1, -1] _ (Ints.ext hv hA) (ints_lit (n := 4) rfl (by omega) hc))
  rw [sameIntsB_iff, show (([0, 2, 1, -1] : List Int) == [0, 2, 1, -1]) = true from by decide] at HS
  clear hv hc
  go_wp2_with fail
  refine HS.out.mono ?_; rintro e w3 ⟨rfl, m, rfl⟩
  go_wp2_with fail
  go_ret
  exact RV.bool rfl (((hx.trans hx2).trans hA).trans (Ext.drewN _ _))

set_option maxHeartbeats 400000 in
theorem large_c (v : Value) (l : List Int) (w : World) (h : Ints w v l) : Calls Try.prog 17 #[v] w (RP (.bool (decide (100 < l.length))) w) := by
  obtain ⟨a, c, rfl, h1, h2, _⟩ := h.open_
  clear h
  by_cases h : 100 < l.length
  · go_enter Try.func17, Try.ntmps17
    go_wp2_with fail
    go_ret
    exact RP.bool (by simp; omega)
  · go_enter Try.func17, Try.ntmps17
    go_wp2_with fail
    go_ret
    exact RP.bool (by simp; omega)

def hasB (l : List Int) (x : Int) : Bool := (List.range l.length).any fun i => l[i]?.getD 0 == x
theorem hasB_eq (l : List Int) (x : Int) : hasB l x = l.contains x := by
  have := any_range l (fun y => y == x)
  rw [hasB, this, Bool.eq_iff_iff]
  simp
theorem hasB_yes {l : List Int} {x : Int} {k : Nat} (hk : k < l.length) (h : (l[k]?.getD 0 == x) = true) : hasB l x = true := by
  rw [hasB, List.any_eq_true]; exact ⟨k, by simpa using hk, h⟩
theorem hasB_no {l : List Int} {x : Int} (h : ∀ j, j < l.length → (l[j]?.getD 0 == x) = false) : hasB l x = false := by
  rw [hasB, List.any_eq_false]; intro j hj; rw [h j (by simpa using hj)]; decide
set_option maxHeartbeats 400000 in
theorem has_c (v : Value) (l : List Int) (x : Int) (w : World) (h : Ints w v l) : Calls Try.prog 16 #[v, .int .i64 x] w (RP (.bool (hasB l x)) w) := by
  obtain ⟨a, c, rfl, h1, h2, H⟩ := h.open_
  clear h
  go_enter Try.func16, Try.ntmps16
  go_wp2_with fail
  go_loopg [5] l.length (fun m i wr => ∃ k : Nat, k ≤ l.length ∧ l.length ≤ k + m ∧ i = .int .i64 k ∧ w = wr ∧ Hid (∀ j, j < k → (l[j]?.getD 0 == x) = false))
  case atStart => exact ⟨0, by omega, by omega, rfl, rfl, fun j hj => by omega⟩
  case round =>
    obtain ⟨k, hk, hk2, rfl, rfl, hE⟩ := hrel
    by_cases hlt : k < l.length
    · obtain ⟨ba, oa, rfl, hc1⟩ := H.out k hlt
      generalize hy : l[k]?.getD 0 = y at *
      have HY := Lib.hid hy; clear hy
      cases hxy : (y == x)
      · go_wp2_with fail
        have HX := Lib.hid hxy; clear hxy
        go_roundg (gk-1)
        case measure => omega
        case rel => exact ⟨k+1, by omega, by omega, by go_num, rfl, range_step hE.out (by rw [HY.out]; exact HX.out)⟩
      · go_wp2_with fail
        go_ret
        exact RP.bool (by rw [hasB_yes hlt (by rw [HY.out]; exact hxy)])
    · go_wp2_with fail
      go_ret
      exact RP.bool (by rw [hasB_no (fun j hj => hE.out j (by omega))])

def longB (sizes : List Int) (es : List Ent) : Bool := decide (100 < sizes.length) || (decide (50 < es.length) || !(allB es.length fun i => !decide (100 < (ent es i).1.length)))
set_option maxHeartbeats 400000 in
theorem long_c (sv ev : Value) (sizes : List Int) (es : List Ent) (w : World) (hp : Par w sv ev sizes es) :
    Calls Try.prog 5 #[.agg #[sv, ev]] w (RV (.bool (longB sizes es)) w) := by
  have hA := Ext.alloc w (.cells #[sv, ev] 25)
  have HLg := Lib.hid (large_c sv sizes _ (hp.s.ext hA))
  obtain ⟨az, cz, rfl, hlz, hmz, _⟩ := hp.s.open_
  obtain ⟨ae, ce, rfl, hle, hme, He⟩ := hp.e.open_
  clear hp
  have hb1 := alloc_cell w #[.slice az sizes.length cz, .slice ae es.length ce] 25 (i := 1) rfl
  by_cases h1 : 100 < sizes.length
  · have hv : longB sizes es = true := by simp [longB, h1]
    rw [hv]
    rw [show decide (100 < sizes.length) = true by simpa using h1] at HLg
    clear hv
    go_enter Try.func5, Try.ntmps5
    go_wp2_with fail
    refine HLg.out.mono ?_; rintro e w' ⟨rfl, rfl⟩
    go_wp2_with fail
    go_ret
    exact RV.bool rfl hA
  · rw [show decide (100 < sizes.length) = false by simpa using h1] at HLg
    by_cases h2 : 50 < es.length
    · have hv : longB sizes es = true := by simp [longB, h2]
      rw [hv]
      clear hv
      have h3 : (50 : Int) < es.length := by omega
      go_enter Try.func5, Try.ntmps5
      go_wp2_with fail
      refine HLg.out.mono ?_; rintro e w' ⟨rfl, rfl⟩
      go_wp2_with fail
      go_ret
      exact RV.bool rfl hA
    · have hv : longB sizes es = !(allB es.length fun i => !decide (100 < (ent es i).1.length)) := by simp [longB, h1, h2]
      have HV := Lib.hid hv
      clear hv h1
      have h3 : ¬ (50 : Int) < es.length := by omega
      go_enter Try.func5, Try.ntmps5
      go_wp2_with fail
      refine HLg.out.mono ?_; rintro e w' ⟨rfl, rfl⟩
      go_wp2_with fail
      generalize hwA : w.alloc (.cells #[.slice az sizes.length cz, .slice ae es.length ce] 25) = wA at *
      have HWA := Lib.hid hwA; clear hwA
      go_loopg [3] es.length (fun m i wr => ∃ k : Nat, k ≤ es.length ∧ es.length ≤ k + m ∧ i = .int .i64 k ∧ wA = wr ∧ Hid (∀ j, j < k → (!decide (100 < (ent es j).1.length)) = true))
      case atStart => exact ⟨0, by omega, by omega, rfl, rfl, fun j hj => by omega⟩
      case round =>
        obtain ⟨k, hk, hk2, rfl, rfl, hE⟩ := hrel
        by_cases hlt : k < es.length
        · obtain ⟨ba, oa, rfl, u, hc1, hi1, _⟩ := He.out k hlt
          replace hc1 := hA.keep hc1
          have HL := Lib.hid (large_c u _ _ (hi1.ext hA))
          obtain ⟨au, cu, rfl, _⟩ := hi1.open_
          clear hi1
          by_cases h100 : 100 < (ent es k).1.length
          · rw [show decide (100 < (ent es k).1.length) = true by simpa using h100] at HL
            have HX := Lib.hid h100; clear h100
            go_wp2_with fail
            refine HL.out.mono ?_; rintro e w' ⟨rfl, rfl⟩
            go_wp2_with fail
            go_ret
            exact RV.bool (by rw [HV.out, allB_false hlt (by have := HX.out; simpa using this)]; rfl) hA
          · rw [show decide (100 < (ent es k).1.length) = false by simpa using h100] at HL
            have HX := Lib.hid h100; clear h100
            go_wp2_with fail
            refine HL.out.mono ?_; rintro e w' ⟨rfl, rfl⟩
            go_wp2_with fail
            go_roundg (gk-1)
            case measure => omega
            case rel => exact ⟨k+1, by omega, by omega, by go_num, rfl, range_step hE.out (by have := HX.out; simpa using this)⟩
        · go_wp2_with fail
          go_ret
          exact RV.bool (by rw [HV.out, allB_true (fun j hj => hE.out j (by omega))]; rfl) hA

end Go.Proofs.Ytdgncnhmgbmpjaa
