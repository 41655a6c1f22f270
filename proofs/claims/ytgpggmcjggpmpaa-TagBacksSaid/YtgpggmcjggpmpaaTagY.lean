/- What the laws of chapter 08 need besides: new blocks of lists. -/
import Derived.Test.YtgpggmcjggpmpaaTagM
import Derived.Test.YtgpggmcjggpmpaaTagE
import Derived.Test.YtgpggmcjggpmpaaTagX
import Derived.Test.YtgpggmcjggpmpaaTagB
namespace Go.Proofs.Ytgpggmcjggpmpaa
open Go.RowKit Go.Shelf
set_option linter.unusedVariables false
theorem Rows.nil (w : World) : Rows w (.slice none 0 0) [] := ⟨none, 0, rfl, by simp, by unfold maxLen; omega, fun i hi => by simp at hi⟩
theorem AllInts.cons {w : World} {us : List Value} {ls : List (List Int)} {u : Value} {l : List Int} (hu : Ints w u l) (h : AllInts w us ls) : AllInts w (u :: us) (l :: ls) := by
  obtain ⟨h1, h2⟩ := h
  refine ⟨by simp [h1], fun i x hx => ?_⟩
  cases i with
  | zero => simp at hx; subst hx; exact hu
  | succ i => exact h2 i x (by simpa using hx)
/-- a new block of lists -/
theorem rows_new (w : World) (us : List Value) (ls : List (List Int)) (h : AllInts w us ls) (hn : us.length ≤ 1000) : Rows (w.alloc (.cells us.toArray 26)) (.slice (some ⟨w.heap.size, 0, none⟩) us.length us.length) ls := by
  have hl := h.1
  rw [hl]
  refine ⟨_, _, rfl, Nat.le_refl _, by unfold maxLen; omega, fun i hi => ⟨w.heap.size, 0, rfl, us[i]'(by omega), ?_, ?_⟩⟩
  · have := alloc_cell w us.toArray 26 (i := i) (v := us[i]'(by omega)) (by simp)
    rw [Nat.zero_add]; exact this
  · exact (h.2 i _ (List.getElem?_eq_getElem (by omega))).ext (Ext.alloc _ _)
end Go.Proofs.Ytgpggmcjggpmpaa
