/- Walks: the cells that clash, those that are empty; both packages. -/
import Derived.Test.YtejklkhaplkblaaHomes
namespace Go.Proofs.Ytejklkhaplkblaa
open Go.RowKit Go.Shelf
set_option linter.unusedVariables false

def clashB (es : List Ent) (c : List Int) : Bool := decide (0 < (sel es.length (matchB es c)).length) && decide (decidesI es c < 0)
def emptyB (es : List Ent) (c : List Int) : Bool := (sel es.length (matchB es c)).length == 0
def formB (es : List Ent) (m : Bool) (c : List Int) : Bool := decide (formI es c < 0) && (decide (0 < (sel es.length (matchB es c)).length) == m)
theorem formI_lt {sizes : List Int} {es : List Ent} {c : List Int} (V : ValidP sizes es) : decide (formI es c < 0) = decide (decidesI es c < 0) := by
  unfold formI
  rcases decidesI_cases es c with ⟨k, hk, hd⟩ | hd
  · rw [hd, if_pos (by omega)]
    have := V.ent k hk
    simp only [entB, Bool.and_eq_true, decide_eq_true_eq] at this
    rw [Int.toNat_natCast, decide_eq_false (by omega), decide_eq_false (by omega)]
  · rw [hd, if_neg (by omega)]
theorem decidesI_nil {es : List Ent} {c : List Int} (h : (sel es.length (matchB es c)).length = 0) : decidesI es c = -1 := by
  have h := List.eq_nil_of_length_eq_zero h
  rw [decidesI, h]; rfl
theorem formB_true {sizes : List Int} {es : List Ent} (V : ValidP sizes es) : formB es true = clashB es := by
  funext c
  rw [formB, clashB, formI_lt V, Bool.and_comm]
  cases decide (0 < (sel es.length (matchB es c)).length) <;> rfl
theorem formB_false {sizes : List Int} {es : List Ent} (V : ValidP sizes es) : formB es false = emptyB es := by
  funext c
  rw [formB, emptyB, formI_lt V]
  by_cases h : (sel es.length (matchB es c)).length = 0
  · rw [decidesI_nil h, h]; rfl
  · have h1 : 0 < (sel es.length (matchB es c)).length := by omega
    rw [decide_eq_true h1, show ((sel es.length (matchB es c)).length == 0) = false by simpa using h]
    simp

set_option maxHeartbeats 400000 in
theorem clashes1_c (sv ev vc : Value) (sizes : List Int) (es : List Ent) (c : List Int) (w : World) (he : Ents w ev es) (hc : Ints w vc c) (V : ValidP sizes es) (hlc : c.length = sizes.length)
    (bp : Nat) (hc0 : w.cell? ⟨bp, 0, none⟩ = some sv) (hc1 : w.cell? ⟨bp, 1, none⟩ = some ev) :
    Calls Try.prog 37 #[vc, .pointer (some ⟨bp, 0, none⟩)] w (RV (.bool (clashB es c)) w) := by
  have HM := Lib.hid (matches_c sv ev vc es c w he hc (fun i hi => Nat.le_of_eq ((V.len i hi).trans hlc.symm)) (by have := V.n; omega))
  have HD := Lib.hid (fun W (h : Ext w W) => decides_c sv ev vc es c W (he.ext h) (hc.ext h) (fun i hi => (V.len i hi).trans hlc.symm) (by have := V.n; omega))
  clear he hc V hlc
  unfold clashB
  generalize decidesI es c = d at *
  generalize sel es.length (matchB es c) = l at *
  by_cases h0 : 0 < l.length
  · rw [decide_eq_true h0, Bool.true_and]
    go_enter Try.func37, Try.ntmps37
    go_wp2_with fail
    refine HM.out.mono ?_; rintro e w1 ⟨v, rfl, hi, hx⟩
    obtain ⟨al, cl, rfl, _⟩ := hi.open_
    clear hi
    have hc0 := hx.keep hc0
    have hc1 := hx.keep hc1
    go_wp2_with fail
    refine (HD.out _ hx).mono ?_; rintro e w2 ⟨rfl, hx2⟩
    go_wp2_with fail
    go_ret
    exact RV.bool rfl (hx.trans hx2)
  · obtain rfl : l = [] := List.eq_nil_of_length_eq_zero (by omega)
    go_enter Try.func37, Try.ntmps37
    go_wp2_with fail
    refine HM.out.mono ?_; rintro e w1 ⟨v, rfl, hi, hx⟩
    obtain ⟨al, cl, rfl, _⟩ := hi.open_
    clear hi
    go_wp2_with fail
    go_ret
    exact RV.bool rfl hx

set_option maxHeartbeats 400000 in
theorem empty1_c (sv ev vc : Value) (sizes : List Int) (es : List Ent) (c : List Int) (w : World) (he : Ents w ev es) (hc : Ints w vc c) (V : ValidP sizes es) (hlc : c.length = sizes.length)
    (bp : Nat) (hc0 : w.cell? ⟨bp, 0, none⟩ = some sv) (hc1 : w.cell? ⟨bp, 1, none⟩ = some ev) :
    Calls Try.prog 40 #[vc, .pointer (some ⟨bp, 0, none⟩)] w (RV (.bool (emptyB es c)) w) := by
  have HM := Lib.hid (matches_c sv ev vc es c w he hc (fun i hi => Nat.le_of_eq ((V.len i hi).trans hlc.symm)) (by have := V.n; omega))
  clear he hc V hlc
  unfold emptyB
  generalize sel es.length (matchB es c) = l at *
  go_enter Try.func40, Try.ntmps40
  go_wp2_with fail
  refine HM.out.mono ?_; rintro e w1 ⟨v, rfl, hi, hx⟩
  obtain ⟨al, cl, rfl, _⟩ := hi.open_
  clear hi
  go_wp2_with fail
  go_ret
  exact RV.bool (by rw [Bool.eq_iff_iff]; simp) hx

set_option maxHeartbeats 400000 in
theorem Clashes_c (sv ev : Value) (sizes : List Int) (es : List Ent) (w : World) (hp : Par w sv ev sizes es) :
    Calls Try.prog 11 #[.agg #[sv, ev]] w (R2 (if validI sizes es = 0 then isRows ((cellsOf sizes).filter (clashB es)) else isRows []) (validI sizes es) w) := by
  have hA := Ext.alloc w (.cells #[sv, ev] 25)
  have HV := Lib.hid (validate_c sv ev sizes es _ (hp.s.ext hA) (hp.e.ext hA))
  have HP := Lib.hid hp; clear hp
  by_cases h0 : validI sizes es = 0
  · have V := validI_zero h0
    rw [h0] at HV ⊢
    rw [if_pos rfl]
    clear h0
    go_enter Try.func11, Try.ntmps11
    go_wp2_with fail
    refine HV.out.mono ?_; rintro e w1 ⟨rfl, hB⟩
    have hb0 := hB.keep (alloc_cell w #[sv, ev] 25 (i := 0) rfl)
    have hb1 := hB.keep (alloc_cell w #[sv, ev] 25 (i := 1) rfl)
    have hX := hA.trans hB
    go_wp2_with fail
    refine (where_c sv ev sizes 37 #[.pointer (some ⟨w.heap.size, 0, none⟩)] (clashB es) w1 (enters_of Try.func37 (by kernel_rfl) rfl) (HP.out.s.ext hX) V.ok
      (fun W x v hW hx hi => clashes1_c sv ev v sizes es x W (HP.out.e.ext (hX.trans hW)) hi V (mem_len V.ok hx) _ (hW.keep hb0) (hW.keep hb1))).mono ?_
    rintro e w2 ⟨v, rfl, hr, hB2⟩
    have HR := Lib.hid hr; clear hr
    go_wp2_with fail
    go_ret2
    exact R2.mk HR.out (hX.trans hB2)
  · rw [if_neg h0]
    generalize validI sizes es = k at *
    have hk : (k != 0) = true := by simp [h0]
    have H0 := Lib.hid h0; clear h0
    go_enter Try.func11, Try.ntmps11
    go_wp2_with fail
    refine HV.out.mono ?_; rintro e w1 ⟨rfl, hB⟩
    go_wp2_with fail
    go_ret2
    exact R2.mk (rows_nil_c _) (hA.trans hB)

set_option maxHeartbeats 400000 in
theorem Empty_c (sv ev : Value) (sizes : List Int) (es : List Ent) (w : World) (hp : Par w sv ev sizes es) :
    Calls Try.prog 12 #[.agg #[sv, ev]] w (R2 (if validI sizes es = 0 then isRows ((cellsOf sizes).filter (emptyB es)) else isRows []) (validI sizes es) w) := by
  have hA := Ext.alloc w (.cells #[sv, ev] 25)
  have HV := Lib.hid (validate_c sv ev sizes es _ (hp.s.ext hA) (hp.e.ext hA))
  have HP := Lib.hid hp; clear hp
  by_cases h0 : validI sizes es = 0
  · have V := validI_zero h0
    rw [h0] at HV ⊢
    rw [if_pos rfl]
    clear h0
    go_enter Try.func12, Try.ntmps12
    go_wp2_with fail
    refine HV.out.mono ?_; rintro e w1 ⟨rfl, hB⟩
    have hb0 := hB.keep (alloc_cell w #[sv, ev] 25 (i := 0) rfl)
    have hb1 := hB.keep (alloc_cell w #[sv, ev] 25 (i := 1) rfl)
    have hX := hA.trans hB
    go_wp2_with fail
    refine (where_c sv ev sizes 40 #[.pointer (some ⟨w.heap.size, 0, none⟩)] (emptyB es) w1 (enters_of Try.func40 (by kernel_rfl) rfl) (HP.out.s.ext hX) V.ok
      (fun W x v hW hx hi => empty1_c sv ev v sizes es x W (HP.out.e.ext (hX.trans hW)) hi V (mem_len V.ok hx) _ (hW.keep hb0) (hW.keep hb1))).mono ?_
    rintro e w2 ⟨v, rfl, hr, hB2⟩
    have HR := Lib.hid hr; clear hr
    go_wp2_with fail
    go_ret2
    exact R2.mk HR.out (hX.trans hB2)
  · rw [if_neg h0]
    generalize validI sizes es = k at *
    have hk : (k != 0) = true := by simp [h0]
    have H0 := Lib.hid h0; clear h0
    go_enter Try.func12, Try.ntmps12
    go_wp2_with fail
    refine HV.out.mono ?_; rintro e w1 ⟨rfl, hB⟩
    go_wp2_with fail
    go_ret2
    exact R2.mk (rows_nil_c _) (hA.trans hB)

theorem clash_full {sizes : List Int} {es : List Ent} (V : ValidP sizes es) :
    (!hasB (fillL sizes es) (-1)) = (((cellsOf sizes).filter (clashB es)).length + ((cellsOf sizes).filter (emptyB es)).length == 0) := by
  rw [hasB_eq, Bool.eq_iff_iff]
  simp only [Bool.not_eq_true', beq_iff_eq, Nat.add_eq_zero_iff, List.length_eq_zero_iff, List.filter_eq_nil_iff]
  rw [← Bool.not_eq_true, List.contains_iff_mem, fillL, List.mem_map]
  have key : ∀ c, formI es c = -1 ↔ clashB es c = true ∨ emptyB es c = true := by
    intro c
    have hl := formI_lt (c := c) V
    have hge : formI es c = -1 ∨ 0 ≤ formI es c := by
      unfold formI
      rcases decidesI_cases es c with ⟨k, hk, hd⟩ | hd
      · rw [hd, if_pos (by omega)]
        have := V.ent k hk
        simp only [entB, Bool.and_eq_true, decide_eq_true_eq] at this
        exact .inr (by rw [Int.toNat_natCast]; exact this.2.1)
      · rw [hd, if_neg (by omega)]; exact .inl rfl
    have h2 : formI es c = -1 ↔ decidesI es c < 0 := by
      constructor
      · intro h; rw [h] at hl; simpa using hl.symm
      · intro h
        rw [decide_eq_true h] at hl
        have := of_decide_eq_true hl
        omega
    rw [h2, clashB, emptyB]
    by_cases h0 : (sel es.length (matchB es c)).length = 0
    · rw [decidesI_nil h0, h0]; simp
    · have h1 : 0 < (sel es.length (matchB es c)).length := by omega
      rw [decide_eq_true h1, show ((sel es.length (matchB es c)).length == 0) = false by simpa using h0]
      simp
  constructor
  · intro h
    refine ⟨fun c hc hcl => h ⟨c, hc, (key c).2 (.inl hcl)⟩, fun c hc hcl => h ⟨c, hc, (key c).2 (.inr hcl)⟩⟩
  · rintro ⟨h1, h2⟩ ⟨c, hc, hcf⟩
    rcases (key c).1 hcf with h | h
    · exact h1 c hc h
    · exact h2 c hc h
end Go.Proofs.Ytejklkhaplkblaa
