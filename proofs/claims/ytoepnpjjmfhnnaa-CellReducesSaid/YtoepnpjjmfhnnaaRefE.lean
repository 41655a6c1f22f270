/- Walks: the reference's form and fill; Fill and IsFull of both. -/
import Derived.Test.YtoepnpjjmfhnnaaRefD
import Derived.Test.YtoepnpjjmfhnnaaOrd
namespace Go.Proofs.Ytoepnpjjmfhnnaa
open Go.RowKit Go.Shelf
set_option linter.unusedVariables false

set_option maxHeartbeats 600000 in
theorem rForm_c (sv ev vc : Value) (sizes : List Int) (es : List Ent) (c : List Int) (w : World) (hp : Par w sv ev sizes es) (hc : Ints w vc c) (V : ValidP sizes es) (hlc : c.length = sizes.length) :
    Calls Try.prog 89 #[.agg #[sv, ev], vc] w (RV (.int .i64 (formI es c)) w) := by
  have hA := Ext.alloc w (.cells #[sv, ev] 25)
  have HD := Lib.hid (rDecides_c sv ev vc sizes es c _ (hp.ext hA) (hc.ext hA) V hlc)
  have he := hp.e
  clear hp hc V hlc
  unfold formI
  rcases decidesI_cases es c with ⟨k, hk, hd⟩ | hd
  · rw [hd] at HD ⊢
    clear hd
    obtain ⟨ae, ce, rfl, hle, hme, He⟩ := he.open_
    obtain ⟨ba, oa, rfl, u, _, _, hf1⟩ := He.out k hk
    clear he
    go_enter Try.func89, Try.ntmps89
    go_wp2_with fail
    refine HD.out.mono ?_; rintro e w1 ⟨rfl, hB⟩
    replace hf1 := (hA.trans hB).keep hf1
    have hb1 := hB.keep (alloc_cell w #[sv, .slice (some ⟨ba, oa, none⟩) es.length ce] 25 (i := 1) rfl)
    go_wp2_with fail
    go_ret
    exact RV.int (by simp) (hA.trans hB)
  · rw [hd] at HD ⊢
    clear hd
    go_enter Try.func89, Try.ntmps89
    go_wp2_with fail
    refine HD.out.mono ?_; rintro e w1 ⟨rfl, hB⟩
    go_wp2_with fail
    go_ret
    exact RV.int rfl (hA.trans hB)

theorem sel_map_succ {α : Type} (L : List α) (f : α → Int) (d : α) {k : Nat} (hk : k < L.length) : (L.take (k + 1)).map f = (L.take k).map f ++ [f (L[k]?.getD d)] := by
  rw [List.take_add_one, List.map_append]; simp [hk]

set_option maxHeartbeats 1000000 in
set_option maxRecDepth 100000 in
theorem rfill_c (sv ev : Value) (sizes : List Int) (es : List Ent) (w : World) (hp : Par w sv ev sizes es) (V : ValidP sizes es) :
    Calls Try.prog 70 #[.agg #[sv, ev]] w (RInts (fillL sizes es) w) := by
  have hA := Ext.alloc w (.cells #[sv, ev] 25)
  have hb0 := alloc_cell w #[sv, ev] 25 (i := 0) rfl
  have hb1 := alloc_cell w #[sv, ev] 25 (i := 1) rfl
  have hcr := rcells_c sv ev sizes (w.alloc (.cells #[sv, ev] 25)) (hp.s.ext hA) V.ok
  rw [cellsR_eq V.ok] at hcr
  have HCR := Lib.hid hcr; clear hcr
  have hcount := (cells_count V.ok).2
  have HLEN := Lib.hid (fun k hk => cells_len V.ok (k := k) hk)
  have HP := Lib.hid hp; have HV := Lib.hid V
  clear hp V
  unfold fillL
  generalize cellsOf sizes = L at *
  go_enter Try.func70, Try.ntmps70
  go_wp2_with fail
  refine HCR.out.mono ?_; rintro e w1 ⟨v, rfl, hr, hx1⟩
  obtain ⟨al, cl, rfl, hll, hml, HR⟩ := Rows.open_ hr
  clear hr
  replace hb0 := hx1.keep hb0
  replace hb1 := hx1.keep hb1
  replace hx1 := hA.trans hx1
  go_wp2_with fail
  go_loopg [5, 3] L.length (fun m i v wr => ∃ k : Nat, k ≤ L.length ∧ L.length ≤ k + m ∧ i = .int .i64 k ∧ Ext w1 wr ∧ OInts 3 wr w1.heap.size v ((L.take k).map (formI es)))
  case atStart => exact ⟨0, by omega, by omega, rfl, Ext.refl _, OInts.nil _ _ _⟩
  case round =>
    obtain ⟨k, hk, hk2, rfl, hB, hown⟩ := hrel
    by_cases hlt : k < L.length
    · obtain ⟨ba, oa, rfl, u, hc1, hi1⟩ := HR.out k hlt
      replace hc1 := hB.keep hc1
      have hb0w := hB.keep hb0
      have hb1w := hB.keep hb1
      have HS := Lib.hid (sel_map_succ L (formI es) [] hlt)
      have hlenv : ((L.take k).map (formI es)).length ≤ 27 := by simp; omega
      have HF := Lib.hid (fun W (hx : Ext wr W) => rForm_c sv ev u sizes es (L[k]?.getD []) W (HP.out.ext ((hx1.trans hB).trans hx)) (hi1.ext (hB.trans hx)) HV.out (HLEN.out k hlt))
      clear hi1
      generalize formI es (L[k]?.getD []) = fk at *
      generalize (L.take k).map (formI es) = fs at *
      have HOWN := Lib.hid hown; clear hown
      go_wp2_with fail
      refine wp_region_ord 8 [0, 1, 2, 3, 4, 5] [6, 7] (by kernel_rfl) (by kernel_rfl) (by intro c a d v w h; cases d <;> exact h) ?_
      have hd : Ext wr { wr with drawn := wr.drawn + 1 } := drawn_ext wr
      generalize { wr with drawn := wr.drawn + 1 } = W1 at *
      have q0 := fun s : Later W1 => (hd.trans s.ext).keep hb0w
      have q1 := fun s : Later W1 => (hd.trans s.ext).keep hb1w
      have q2 := fun s : Later W1 => (hd.trans s.ext).keep hc1
      simp only [List.filterMap_cons, List.filterMap_nil, List.getElem?_toArray, List.getElem?_cons_zero, List.getElem?_cons_succ]
      repeat (refine wpPure_step (fun K hK => ?_); go_simp; first | (refine hK _ ?_; clear hK K) | (refine ⟨_, fun _ => rfl, hK _ ?_⟩; clear hK K))
      refine wpPure_nil ?_
      clear q0 q1 q2
      refine wpMem_step rfl rfl (fun K hK => ?_)
      go_wp2_with fail
      refine (HF.out _ hd).mono ?_
      rintro e W2 ⟨rfl, hx2⟩
      go_wp2_with fail
      refine ⟨hx2, ?_⟩
      refine wpMem_step rfl rfl (fun K hK => ?_)
      go_wp2_with fail
      refine ⟨Ext.alloc _ _, ?_⟩
      refine wpMem_nil rfl ?_
      have hA2 := hd.trans hx2
      refine wpList_appendInt elInts rfl _ _ rfl rfl rfl (HOWN.out.ext hA2) rfl (by have := hB.size; have := hA2.size; omega) (by omega) ?_
      intro v' w' ho' hb'
      go_wp2_with fail
      go_roundg (gk-1)
      case measure => omega
      case rel => exact ⟨k+1, by omega, by omega, by go_num, (hB.trans hA2).upto hb' (Nat.le_refl _), by rw [HS.out]; exact ho'⟩
    · go_wp2_with fail
      go_ret
      obtain rfl : k = L.length := by omega
      rw [List.take_length] at hown
      exact ⟨_, rfl, hown.ints, hx1.trans hB⟩

set_option maxHeartbeats 400000 in
theorem index_c (va : Value) (l : List Int) (x : Int) (w : World) (ha : Ints w va l) :
    Calls Try.prog 101 #[va, .int .i64 x] w (RP (.int .i64 (firstIdx l.length fun i => x == l[i]?.getD 0)) w) := by
  obtain ⟨aa, ca, rfl, hla, hma, Ha⟩ := ha.open_
  clear ha
  go_enter Try.func101, Try.ntmps101
  go_wp2_with fail
  go_loopg [8] l.length (fun m i wr => ∃ k : Nat, k ≤ l.length ∧ l.length ≤ k + m ∧ i = .int .i64 k ∧ w = wr ∧ Hid (∀ j, j < k → (x == l[j]?.getD 0) = false))
  case atStart => exact ⟨0, by omega, by omega, rfl, rfl, fun j hj => by omega⟩
  case round =>
    obtain ⟨k, hk, hk2, rfl, rfl, hE⟩ := hrel
    by_cases hlt : k < l.length
    · obtain ⟨ba, oa, rfl, hc1⟩ := Ha.out k hlt
      generalize hy : l[k]?.getD 0 = y at *
      have HY := Lib.hid hy; clear hy
      cases hxy : (x == y)
      · go_wp2_with fail
        have HX := Lib.hid hxy; clear hxy
        go_roundg (gk-1)
        case measure => omega
        case rel => exact ⟨k+1, by omega, by omega, by go_num, rfl, range_step hE.out (by rw [HY.out]; exact HX.out)⟩
      · go_wp2_with fail
        go_ret
        exact RP.int (by rw [firstIdx_at hlt (by rw [HY.out]; exact hxy) hE.out])
    · go_wp2_with fail
      go_ret
      exact RP.int (by rw [firstIdx_none (fun j hj => hE.out j (by omega))])

set_option maxHeartbeats 400000 in
theorem contains_c (va : Value) (l : List Int) (x : Int) (w : World) (ha : Ints w va l) :
    Calls Try.prog 71 #[va, .int .i64 x] w (RP (.bool (hasB l x)) w) := by
  have HH := Lib.hid (index_c va l x w ha); clear ha
  have he : hasB l x = decide (0 ≤ firstIdx l.length fun i => x == l[i]?.getD 0) := by
    rw [firstIdx_ge, hasB]
    congr 1
    funext i
    exact Bool.beq_comm
  rw [he]
  generalize firstIdx l.length (fun i => x == l[i]?.getD 0) = n at *
  clear he
  go_enter Try.func71, Try.ntmps71
  go_wp2_with fail
  refine HH.out.mono ?_; rintro e w' ⟨rfl, rfl⟩
  go_wp2_with fail
  go_ret
  exact RP.bool (by first | rfl | simp)

set_option maxHeartbeats 400000 in
theorem rFill_c (sv ev : Value) (sizes : List Int) (es : List Ent) (w : World) (hp : Par w sv ev sizes es) :
    Calls Try.prog 22 #[.agg #[sv, ev]] w (R2 (if validI sizes es = 0 then isInts (fillL sizes es) else isInts []) (validI sizes es) w) := by
  have hA := Ext.alloc w (.cells #[sv, ev] 25)
  have HV := Lib.hid (rValidate_c sv ev sizes es _ (hp.s.ext hA) (hp.e.ext hA))
  have HP := Lib.hid hp; clear hp
  by_cases h0 : validI sizes es = 0
  · have V := validI_zero h0
    rw [h0] at HV ⊢
    rw [if_pos rfl]
    clear h0
    go_enter Try.func22, Try.ntmps22
    go_wp2_with fail
    refine HV.out.mono ?_; rintro e w1 ⟨rfl, hB⟩
    have hb0 := hB.keep (alloc_cell w #[sv, ev] 25 (i := 0) rfl)
    have hb1 := hB.keep (alloc_cell w #[sv, ev] 25 (i := 1) rfl)
    have hX := hA.trans hB
    go_wp2_with fail
    refine (rfill_c sv ev sizes es w1 (HP.out.ext hX) V).mono ?_; rintro e w2 ⟨v, rfl, hr, hB2⟩
    have HR := Lib.hid hr; clear hr
    go_wp2_with fail
    go_ret2
    exact R2.mk HR.out (hX.trans hB2)
  · rw [if_neg h0]
    generalize validI sizes es = k at *
    have hk : (k != 0) = true := by simp [h0]
    have H0 := Lib.hid h0; clear h0
    go_enter Try.func22, Try.ntmps22
    go_wp2_with fail
    refine HV.out.mono ?_; rintro e w1 ⟨rfl, hB⟩
    go_wp2_with fail
    go_ret2
    exact R2.mk (ints_nil_c _) (hA.trans hB)

set_option maxHeartbeats 400000 in
theorem IsFull_c (sv ev : Value) (sizes : List Int) (es : List Ent) (w : World) (hp : Par w sv ev sizes es) :
    Calls Try.prog 23 #[.agg #[sv, ev]] w (R2 (if validI sizes es = 0 then isBool (!hasB (fillL sizes es) (-1)) else isBool false) (validI sizes es) w) := by
  have hA := Ext.alloc w (.cells #[sv, ev] 25)
  have HV := Lib.hid (validate_c sv ev sizes es _ (hp.s.ext hA) (hp.e.ext hA))
  have HP := Lib.hid hp; clear hp
  by_cases h0 : validI sizes es = 0
  · have V := validI_zero h0
    rw [h0] at HV ⊢
    rw [if_pos rfl]
    clear h0
    go_enter Try.func23, Try.ntmps23
    go_wp2_with fail
    refine HV.out.mono ?_; rintro e w1 ⟨rfl, hB⟩
    have hb0 := hB.keep (alloc_cell w #[sv, ev] 25 (i := 0) rfl)
    have hb1 := hB.keep (alloc_cell w #[sv, ev] 25 (i := 1) rfl)
    have hX := hA.trans hB
    go_wp2_with fail
    refine (fillP_c sv ev sizes es w1 (HP.out.ext hX) V).mono ?_; rintro e w2 ⟨v, rfl, hr, hB2⟩
    have HC := Lib.hid (contains_c v _ (-1) w2 hr); clear hr
    go_wp2_with fail
    refine HC.out.mono ?_; rintro e w3 ⟨rfl, rfl⟩
    go_wp2_with fail
    go_ret2
    exact R2.mk rfl (hX.trans hB2)
  · rw [if_neg h0]
    generalize validI sizes es = k at *
    have hk : (k != 0) = true := by simp [h0]
    have H0 := Lib.hid h0; clear h0
    go_enter Try.func23, Try.ntmps23
    go_wp2_with fail
    refine HV.out.mono ?_; rintro e w1 ⟨rfl, hB⟩
    go_wp2_with fail
    go_ret2
    exact R2.mk (rfl) (hA.trans hB)

set_option maxHeartbeats 400000 in
theorem rIsFull_c (sv ev : Value) (sizes : List Int) (es : List Ent) (w : World) (hp : Par w sv ev sizes es) :
    Calls Try.prog 24 #[.agg #[sv, ev]] w (R2 (if validI sizes es = 0 then isBool (!hasB (fillL sizes es) (-1)) else isBool false) (validI sizes es) w) := by
  have hA := Ext.alloc w (.cells #[sv, ev] 25)
  have HV := Lib.hid (rValidate_c sv ev sizes es _ (hp.s.ext hA) (hp.e.ext hA))
  have HP := Lib.hid hp; clear hp
  by_cases h0 : validI sizes es = 0
  · have V := validI_zero h0
    rw [h0] at HV ⊢
    rw [if_pos rfl]
    clear h0
    go_enter Try.func24, Try.ntmps24
    go_wp2_with fail
    refine HV.out.mono ?_; rintro e w1 ⟨rfl, hB⟩
    have hb0 := hB.keep (alloc_cell w #[sv, ev] 25 (i := 0) rfl)
    have hb1 := hB.keep (alloc_cell w #[sv, ev] 25 (i := 1) rfl)
    have hX := hA.trans hB
    go_wp2_with fail
    refine (rfill_c sv ev sizes es w1 (HP.out.ext hX) V).mono ?_; rintro e w2 ⟨v, rfl, hr, hB2⟩
    have HC := Lib.hid (has_c v _ (-1) w2 hr); clear hr
    go_wp2_with fail
    refine HC.out.mono ?_; rintro e w3 ⟨rfl, rfl⟩
    go_wp2_with fail
    go_ret2
    exact R2.mk rfl (hX.trans hB2)
  · rw [if_neg h0]
    generalize validI sizes es = k at *
    have hk : (k != 0) = true := by simp [h0]
    have H0 := Lib.hid h0; clear h0
    go_enter Try.func24, Try.ntmps24
    go_wp2_with fail
    refine HV.out.mono ?_; rintro e w1 ⟨rfl, hB⟩
    go_wp2_with fail
    go_ret2
    exact R2.mk (rfl) (hA.trans hB)
end Go.Proofs.Ytoepnpjjmfhnnaa
