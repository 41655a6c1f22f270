/- Walks of the reference: which entries match, which one decides, the forms of all cells. -/
import Derived.Test.YtoepnpjjmfhnnaaCellQ
import Derived.Test.YtoepnpjjmfhnnaaLawA
namespace Go.Proofs.Ytoepnpjjmfhnnaa
open Go.RowKit Go.Shelf
set_option linter.unusedVariables false

set_option maxHeartbeats 400000 in
theorem rHolds_c (va vb : Value) (a b : List Int) (w : World) (ha : Ints w va a) (hb : Ints w vb b) (hl : a.length = b.length) (hlo : ∀ i, i < a.length → -1 ≤ a[i]?.getD 0) :
    Calls Try.prog 45 #[va, vb] w (RQ (holdsB a b) w) := by
  obtain ⟨aa, ca, rfl, hla, hma, Hca⟩ := ha.open_
  obtain ⟨ab, cb, rfl, hlb, hmb, Hcb⟩ := hb.open_
  clear ha hb
  have hl1 : b.length ≤ a.length := by omega
  have hl2 : a.length ≤ b.length := by omega
  have HL := Lib.hid hl; have HLO := Lib.hid hlo; clear hl hlo
  go_enter Try.func45, Try.ntmps45
  go_wp2_with fail
  go_loopg [5] a.length (fun m i wr => ∃ k : Nat, k ≤ a.length ∧ a.length ≤ k + m ∧ i = .int .i64 k ∧ (∃ n, wr = w.drewN n) ∧ Hid (∀ j, j < k → coversB (a[j]?.getD 0) (b[j]?.getD 0) = true))
  case atStart => exact ⟨0, by omega, by omega, rfl, ⟨0, rfl⟩, fun j hj => by omega⟩
  case round =>
    obtain ⟨k, hk, hk2, rfl, ⟨nd, hwr⟩, hE⟩ := hrel
    have hwx : Ext w wr := by rw [hwr]; exact Ext.drewN _ _
    have HW := Lib.hid hwr; clear hwr
    by_cases hlt : k < a.length
    · have hltb : k < b.length := by omega
      obtain ⟨ba, oa, rfl, hc1⟩ := Hca.out k hlt
      obtain ⟨bb, ob, rfl, hc2⟩ := Hcb.out k hltb
      replace hc1 := hwx.keep hc1
      replace hc2 := hwx.keep hc2
      have hge := HLO.out k hlt
      generalize hx : a[k]?.getD 0 = x at *
      generalize hy : b[k]?.getD 0 = y at *
      have Hx := Lib.hid hx; have Hy := Lib.hid hy; clear hx hy
      by_cases h0 : 0 ≤ x
      · by_cases hxy : x = y
        · subst hxy
          have hn : (x != x) = false := by simp
          have hd : decide (0 ≤ x) = true := by simpa using h0
          go_wp2_with fail
          go_quiet (fail)
          go_wp2_with fail
          go_roundg (gk-1)
          case measure => omega
          case rel => exact ⟨k+1, by omega, by omega, by go_num, ⟨_, by rw [HW.out, World.drewN_drewN]⟩, range_step hE.out (by rw [Hx.out, Hy.out]; simp [coversB])⟩
        · have hn : (x != y) = true := by simp [hxy]
          have hd : decide (0 ≤ x) = true := by simpa using h0
          have HX := Lib.hid hxy; clear hxy
          go_wp2_with fail
          go_quiet (fail)
          go_wp2_with fail
          go_ret
          exact RQ.mkW (n := nd) (by rw [holdsB, agreesB, allB_false hlt (by rw [Hx.out, Hy.out]; simp [coversB, HX.out]; omega)]) HW.out _
      · have hx1 : x = -1 := by omega
        subst hx1
        go_wp2_with fail
        go_quiet (fail)
        go_wp2_with fail
        go_roundg (gk-1)
        case measure => omega
        case rel => exact ⟨k+1, by omega, by omega, by go_num, ⟨_, by rw [HW.out, World.drewN_drewN]⟩, range_step hE.out (by rw [Hx.out]; simp [coversB])⟩
    · go_wp2_with fail
      go_ret
      exact RQ.mkV (n := nd) (by rw [holdsB, agreesB, allB_true (fun j hj => hE.out j (by omega))]) HW.out

set_option maxHeartbeats 600000 in
theorem rMatches_c (sv ev vc : Value) (sizes : List Int) (es : List Ent) (c : List Int) (w : World) (hp : Par w sv ev sizes es) (hc : Ints w vc c) (V : ValidP sizes es) (hlc : c.length = sizes.length) :
    Calls Try.prog 84 #[.agg #[sv, ev], vc] w (RInts (sel es.length (matchB es c)) w) := by
  obtain ⟨ae, ce, rfl, hle, hme, He⟩ := hp.e.open_
  have Hc := Lib.hid hc; have HV := Lib.hid V; have HLC := Lib.hid hlc
  have hn : es.length ≤ 10 := V.n
  clear hp hc V hlc
  have hA := Ext.alloc w (.cells #[sv, .slice ae es.length ce] 25)
  have hb1 := alloc_cell w #[sv, .slice ae es.length ce] 25 (i := 1) rfl
  go_enter Try.func84, Try.ntmps84
  go_wp2_with fail
  go_loopg [6, 5] es.length (fun m i v wr => ∃ k : Nat, k ≤ es.length ∧ es.length ≤ k + m ∧ i = .int .i64 k ∧ Ext (w.alloc (.cells #[sv, .slice ae es.length ce] 25)) wr ∧
    OInts 3 wr (w.heap.size + 1) v (sel k (matchB es c)))
  case atStart => exact ⟨0, by omega, by omega, rfl, Ext.refl _, OInts.nil _ _ _⟩
  case round =>
    obtain ⟨k, hk, hk2, rfl, hB, hown⟩ := hrel
    have hb1' := hB.keep hb1
    by_cases hlt : k < es.length
    · obtain ⟨ba, oa, rfl, u, hc1, hi1, hf1⟩ := He.out k hlt
      have hX := hA.trans hB
      replace hc1 := hX.keep hc1
      have HH := Lib.hid (rHolds_c u vc (ent es k).1 c wr (hi1.ext hX) (Hc.out.ext hX) ((HV.out.len k hlt).trans HLC.out.symm) (fun i hi => ((HV.out.spec k hlt).2 i hi).1))
      obtain ⟨au, cu, rfl, hlu, hmu, _⟩ := hi1.open_
      have hsl := sel_le k (matchB es c)
      have hsz : w.heap.size + 1 ≤ wr.heap.size := by have := hB.size; simpa using this
      have HOWN := Lib.hid hown; clear hown hf1 hi1
      cases hm : matchB es c k
      · have hs := Lib.hid (sel_no hm)
        unfold matchB at hm
        rw [hm] at HH
        clear hm
        go_wp2_with fail
        refine HH.out.mono ?_; rintro e w' ⟨rfl, nd, rfl⟩
        go_wp2_with fail
        go_roundg (gk-1)
        case measure => omega
        case rel => exact ⟨k+1, by omega, by omega, by go_num, hB.trans (Ext.drewN _ _), by rw [hs.out]; exact HOWN.out.ext (Ext.drewN _ _)⟩
      · have hs := Lib.hid (sel_yes hm)
        unfold matchB at hm
        rw [hm] at HH
        clear hm
        go_wp2_with fail
        refine HH.out.mono ?_; rintro e w2 ⟨rfl, nd, hw2⟩
        have hx2 : Ext wr w2 := by rw [hw2]; exact Ext.drewN _ _
        clear hw2
        have hsz2 := hx2.size
        go_wp2_with (at_builtin; refine wpList_appendInt elInts rfl _ _ rfl rfl rfl (HOWN.out.ext hx2) rfl (by omega) (by omega) ?_; intro v' w' hown2 hb2)
        go_roundg (gk-1)
        case measure => omega
        case rel => exact ⟨k+1, by omega, by omega, by go_num, (hB.trans hx2).upto hb2 (by simp), by rw [hs.out]; exact hown2⟩
    · go_wp2_with fail
      go_ret
      obtain rfl : k = es.length := by omega
      exact ⟨_, rfl, hown.ints, hA.trans hB⟩

set_option maxHeartbeats 600000 in
theorem inside_c (sv ev va vb : Value) (sizes a b : List Int) (w : World) (hs : Ints w sv sizes) (ha : Ints w va a) (hb : Ints w vb b) (hok : sizesOk sizes) (sa : SpecOk sizes a) (sb : SpecOk sizes b) :
    Calls Try.prog 103 #[.agg #[sv, ev], va, vb] w (RV (.bool (insideB sizes a b)) w) := by
  have hA := Ext.alloc w (.cells #[sv, ev] 25)
  have hcr := rcells_c sv ev sizes (w.alloc (.cells #[sv, ev] 25)) (hs.ext hA) hok
  rw [cellsR_eq hok] at hcr
  have HCR := Lib.hid hcr; clear hcr
  have hcount := (cells_count hok).2
  have HLEN := Lib.hid (fun k hk => cells_len hok (k := k) hk)
  have Ha := Lib.hid ha; have Hb := Lib.hid hb; have HOK := Lib.hid hok; have SA := Lib.hid sa; have SB := Lib.hid sb
  clear hs ha hb hok sa sb
  unfold insideB
  generalize cellsOf sizes = L at *
  go_enter Try.func103, Try.ntmps103
  go_wp2_with fail
  refine HCR.out.mono ?_; rintro e w1 ⟨v, rfl, hr, hx1⟩
  obtain ⟨al, cl, rfl, hll, hml, HR⟩ := Rows.open_ hr
  clear hr
  go_wp2_with fail
  go_loopg [8] L.length (fun m i wr => ∃ k : Nat, k ≤ L.length ∧ L.length ≤ k + m ∧ i = .int .i64 k ∧ Ext w1 wr ∧ Hid (∀ j, j < k → (!(holdsB a (L[j]?.getD []) && !holdsB b (L[j]?.getD []))) = true))
  case atStart => exact ⟨0, by omega, by omega, rfl, Ext.refl _, fun j hj => by omega⟩
  case round =>
    obtain ⟨k, hk, hk2, rfl, hB, hE⟩ := hrel
    by_cases hlt : k < L.length
    · obtain ⟨ba, oa, rfl, u, hc1, hi1⟩ := HR.out k hlt
      replace hc1 := hB.keep hc1
      have hlen := HLEN.out k hlt
      have HHa := Lib.hid (fun W (hx : Ext wr W) => rHolds_c va u a (L[k]?.getD []) W (Ha.out.ext ((hA.trans hx1).trans (hB.trans hx))) (hi1.ext (hB.trans hx)) (SA.out.1.trans hlen.symm) (fun i hi => (SA.out.2 i hi).1))
      have HHb := Lib.hid (fun W (hx : Ext wr W) => rHolds_c vb u b (L[k]?.getD []) W (Hb.out.ext ((hA.trans hx1).trans (hB.trans hx))) (hi1.ext (hB.trans hx)) (SB.out.1.trans hlen.symm) (fun i hi => (SB.out.2 i hi).1))
      clear hi1 hlen
      cases h1 : holdsB a (L[k]?.getD [])
      · rw [h1] at HHa
        have H1 := Lib.hid h1; clear h1
        go_wp2_with fail
        refine (HHa.out _ (Ext.refl _)).mono ?_; rintro e w2 ⟨rfl, n2, rfl⟩
        go_wp2_with fail
        go_roundg (gk-1)
        case measure => omega
        case rel => exact ⟨k+1, by omega, by omega, by go_num, hB.trans (Ext.drewN _ _), range_step hE.out (by rw [H1.out]; rfl)⟩
      · rw [h1] at HHa
        have H1 := Lib.hid h1; clear h1
        cases h2 : holdsB b (L[k]?.getD [])
        · rw [h2] at HHb
          have H2 := Lib.hid h2; clear h2
          go_wp2_with fail
          refine (HHa.out _ (Ext.refl _)).mono ?_; rintro e w2 ⟨rfl, n2, hw2⟩
          have hx2 : Ext wr w2 := by rw [hw2]; exact Ext.drewN _ _
          clear hw2
          have hc2 := hx2.keep hc1
          go_wp2_with fail
          refine (HHb.out _ hx2).mono ?_; rintro e w3 ⟨rfl, n3, hw3⟩
          have hx3 : Ext w2 w3 := by rw [hw3]; exact Ext.drewN _ _
          clear hw3
          go_wp2_with fail
          go_ret
          exact RV.bool (by rw [allB_false hlt (by rw [H1.out, H2.out]; rfl)]) ((((hA.trans hx1).trans hB).trans hx2).trans hx3)
        · rw [h2] at HHb
          have H2 := Lib.hid h2; clear h2
          go_wp2_with fail
          refine (HHa.out _ (Ext.refl _)).mono ?_; rintro e w2 ⟨rfl, n2, hw2⟩
          have hx2 : Ext wr w2 := by rw [hw2]; exact Ext.drewN _ _
          clear hw2
          have hc2 := hx2.keep hc1
          go_wp2_with fail
          refine (HHb.out _ hx2).mono ?_; rintro e w3 ⟨rfl, n3, hw3⟩
          have hx3 : Ext w2 w3 := by rw [hw3]; exact Ext.drewN _ _
          clear hw3
          go_wp2_with fail
          go_roundg (gk-1)
          case measure => omega
          case rel => exact ⟨k+1, by omega, by omega, by go_num, (hB.trans hx2).trans hx3, range_step hE.out (by rw [H1.out, H2.out]; rfl)⟩
    · go_wp2_with fail
      go_ret
      exact RV.bool (by rw [allB_true (fun j hj => hE.out j (by omega))]) ((hA.trans hx1).trans hB)
end Go.Proofs.Ytoepnpjjmfhnnaa
