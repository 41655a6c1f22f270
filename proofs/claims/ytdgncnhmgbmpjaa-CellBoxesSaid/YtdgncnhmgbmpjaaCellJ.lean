/- Walks: Cells, Fill and their kin: nothing where the paradigm is not valid, else what the inner function says. -/
import Derived.Test.YtdgncnhmgbmpjaaCellI
namespace Go.Proofs.Ytdgncnhmgbmpjaa
open Go.RowKit Go.Shelf
set_option linter.unusedVariables false

/-- a value and an error code come back -/
def R2 (S : World → Value → Prop) (k : Int) (w : World) (e : Ending) (w' : World) : Prop := ∃ v, e = .returned (.tuple #[v, .int .i64 k]) ∧ S w' v ∧ Ext w w'
theorem R2.mk {S : World → Value → Prop} {k : Int} {w w' : World} {v : Value} (hs : S w' v) (hx : Ext w w') : R2 S k w (.returned (.tuple #[v, .int .i64 k])) w' := ⟨v, rfl, hs, hx⟩
def isRows (l : List (List Int)) (w : World) (v : Value) : Prop := Rows w v l
def isInts (l : List Int) (w : World) (v : Value) : Prop := Ints w v l
def isBool (b : Bool) (_ : World) (v : Value) : Prop := v = .bool b
theorem ints_nil_c (w : World) : Ints w (.slice none 0 0) [] := ⟨none, 0, rfl, Nat.le_refl _, by unfold maxLen; omega, fun i hi => by simp at hi⟩
theorem rows_nil_c (w : World) : Rows w (.slice none 0 0) [] := ⟨none, 0, rfl, Nat.le_refl _, by unfold maxLen; omega, fun i hi => by simp at hi⟩

/-- a paradigm's two slices -/
structure Par (w : World) (sv ev : Value) (sizes : List Int) (es : List Ent) : Prop where
  s : Ints w sv sizes
  e : Ents w ev es
theorem Par.ext {w w' : World} {sv ev : Value} {sizes : List Int} {es : List Ent} (h : Par w sv ev sizes es) (hx : Ext w w') : Par w' sv ev sizes es := ⟨h.s.ext hx, h.e.ext hx⟩
/-- a valid paradigm -/
structure ValidP (sizes : List Int) (es : List Ent) : Prop where
  ok : sizesOk sizes
  n : es.length ≤ 10
  ent : ∀ i, i < es.length → entB sizes (ent es i) = true
theorem ValidP.len {sizes : List Int} {es : List Ent} (h : ValidP sizes es) (i : Nat) (hi : i < es.length) : (Go.Proofs.Ytdgncnhmgbmpjaa.ent es i).1.length = sizes.length := by
  have := h.ent i hi
  simp only [entB, isListB, Bool.and_eq_true, beq_iff_eq] at this
  exact this.1.1
theorem validI_zero {sizes : List Int} {es : List Ent} (h : validI sizes es = 0) : ValidP sizes es := by
  unfold validI at h
  split at h
  · rename_i h1
    split at h
    · rename_i h2
      split at h
      · rename_i h3
        refine ⟨(sizesB_iff _).1 h1, h2, fun i hi => ?_⟩
        simp only [allB, List.all_eq_true, List.mem_range] at h3
        exact h3 i hi
      · omega
    · omega
  · omega
theorem validI_of {sizes : List Int} {es : List Ent} (h : ValidP sizes es) : validI sizes es = 0 := by
  rw [validI, if_pos ((sizesB_iff _).2 h.ok), if_pos h.n, if_pos (allB_true h.ent)]

def parBox (w : World) (sv ev : Value) : World := w.alloc (.cells #[sv, ev] 25)

set_option maxHeartbeats 400000 in
theorem Cells_c (sv ev : Value) (sizes : List Int) (es : List Ent) (w : World) (hp : Par w sv ev sizes es) :
    Calls Try.prog 14 #[.agg #[sv, ev]] w (R2 (isRows (if validI sizes es = 0 then cellsOf sizes else [])) (validI sizes es) w) := by
  have hA := Ext.alloc w (.cells #[sv, ev] 25)
  have HV := Lib.hid (validate_c sv ev sizes es _ (hp.s.ext hA) (hp.e.ext hA))
  have HP := Lib.hid hp; clear hp
  by_cases h0 : validI sizes es = 0
  · have V := validI_zero h0
    rw [h0] at HV ⊢
    rw [if_pos rfl]
    clear h0
    go_enter Try.func14, Try.ntmps14
    go_wp2_with fail
    refine HV.out.mono ?_; rintro e w1 ⟨rfl, hB⟩
    have hb0 := hB.keep (alloc_cell w #[sv, ev] 25 (i := 0) rfl)
    have hb1 := hB.keep (alloc_cell w #[sv, ev] 25 (i := 1) rfl)
    have hX := hA.trans hB
    go_wp2_with fail
    refine (cellsF_c _ sv ev rfl _).mono ?_; rintro e w2 ⟨rfl, rfl⟩
    have hA2 := Ext.alloc w1 (.cells #[sv, ev] 25)
    have hbp := alloc_cell w1 #[sv, ev] 25 (i := 0) rfl
    have HC := Lib.hid (collect_c 52 #[.pointer (some ⟨w1.heap.size, 0, none⟩)] (cellsOf sizes) (w1.alloc (.cells #[sv, ev] 25)) (enters_of Try.func52 (by kernel_rfl) rfl)
      (by have := cells_count V.ok; omega) (fun W row hW hr => cells1_c sv sizes w1.heap.size (w1.alloc (.cells #[sv, ev] 25)) W row hW (fun r h => ⟨hr r h, by have := hr r h; simp at this; omega⟩) (hW.keep hbp) ((HP.out.s.ext hX).ext hA2) V.ok))
    clear hb0 hb1 hbp
    go_wp2_with fail
    refine HC.out.mono ?_; rintro e w3 ⟨v, rfl, hr, hB3⟩
    have HR := Lib.hid hr; clear hr
    go_wp2_with fail
    go_ret2
    exact R2.mk HR.out ((hX.trans hA2).trans hB3)
  · rw [if_neg h0]
    generalize validI sizes es = k at *
    have hk : (k != 0) = true := by simp [h0]
    have H0 := Lib.hid h0; clear h0
    go_enter Try.func14, Try.ntmps14
    go_wp2_with fail
    refine HV.out.mono ?_; rintro e w1 ⟨rfl, hB⟩
    go_wp2_with fail
    go_ret2
    exact R2.mk (rows_nil_c _) (hA.trans hB)

def fillL (sizes : List Int) (es : List Ent) : List Int := (cellsOf sizes).map (formI es)
theorem fillP_c (sv ev : Value) (sizes : List Int) (es : List Ent) (w : World) (hp : Par w sv ev sizes es) (V : ValidP sizes es) :
    Calls Try.prog 38 #[.agg #[sv, ev]] w (RInts (fillL sizes es) w) :=
  fill_c sv ev sizes es w hp.s hp.e V.ok V.len (by have := V.n; omega)

set_option maxHeartbeats 400000 in
theorem Fill_c (sv ev : Value) (sizes : List Int) (es : List Ent) (w : World) (hp : Par w sv ev sizes es) :
    Calls Try.prog 18 #[.agg #[sv, ev]] w (R2 (isInts (if validI sizes es = 0 then fillL sizes es else [])) (validI sizes es) w) := by
  have hA := Ext.alloc w (.cells #[sv, ev] 25)
  have HV := Lib.hid (validate_c sv ev sizes es _ (hp.s.ext hA) (hp.e.ext hA))
  have HP := Lib.hid hp; clear hp
  by_cases h0 : validI sizes es = 0
  · have V := validI_zero h0
    rw [h0] at HV ⊢
    rw [if_pos rfl]
    clear h0
    go_enter Try.func18, Try.ntmps18
    go_wp2_with fail
    refine HV.out.mono ?_; rintro e w1 ⟨rfl, hB⟩
    have hb0 := hB.keep (alloc_cell w #[sv, ev] 25 (i := 0) rfl)
    have hb1 := hB.keep (alloc_cell w #[sv, ev] 25 (i := 1) rfl)
    have hX := hA.trans hB
    go_wp2_with fail
    refine (fillP_c sv ev sizes es w1 (HP.out.ext hX) V).mono ?_; rintro e w2 ⟨v, rfl, hr, hB2⟩
    have HR := Lib.hid hr; clear hr
    go_wp2_with fail
    go_ret2
    exact R2.mk HR.out (hX.trans hB2)
  · rw [if_neg h0]
    generalize validI sizes es = k at *
    have hk : (k != 0) = true := by simp [h0]
    have H0 := Lib.hid h0; clear h0
    go_enter Try.func18, Try.ntmps18
    go_wp2_with fail
    refine HV.out.mono ?_; rintro e w1 ⟨rfl, hB⟩
    go_wp2_with fail
    go_ret2
    exact R2.mk (ints_nil_c _) (hA.trans hB)
end Go.Proofs.Ytdgncnhmgbmpjaa
