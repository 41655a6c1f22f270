/- Walks: Reduce, both packages. -/
import Derived.Test.YtdgncnhmgbmpjaaWo
namespace Go.Proofs.Ytdgncnhmgbmpjaa
open Go.RowKit Go.Shelf
set_option linter.unusedVariables false

/-- entries k-1, .., 0 are left out, one after another, where the forms stay -/
def redL (sizes forms : List Int) : Nat → List Ent → List Ent
  | 0, es => es
  | k + 1, es => redL sizes forms k (if sameIntsB (fillL sizes (es.eraseIdx k)) forms then es.eraseIdx k else es)
def redE (sizes : List Int) (es : List Ent) : List Ent := if validI sizes es = 0 then redL sizes (fillL sizes es) es.length es else []
def redS (sizes : List Int) (es : List Ent) : List Int := if validI sizes es = 0 then sizes else []
/-- what holds of the paradigm that is made, k entries being still to be looked at -/
structure RedI (sizes forms : List Int) (R : List Ent) (k : Nat) (out : List Ent) : Prop where
  le : k ≤ out.length
  V : ValidP sizes out
  to : redL sizes forms k out = R
  forms : fillL sizes out = forms
theorem RedI.start {sizes : List Int} {es : List Ent} (V : ValidP sizes es) : RedI sizes (fillL sizes es) (redL sizes (fillL sizes es) es.length es) es.length es := ⟨Nat.le_refl _, V, rfl, rfl⟩
theorem RedI.yes {sizes forms : List Int} {R out : List Ent} {k : Nat} (h : RedI sizes forms R (k + 1) out) (hs : sameIntsB (fillL sizes (out.eraseIdx k)) forms = true) : RedI sizes forms R k (out.eraseIdx k) := by
  have hle := h.le
  refine ⟨by rw [List.length_eraseIdx_of_lt (by omega)]; omega, erase_valid h.V (by omega), ?_, (by simpa [sameIntsB_iff] using hs)⟩
  have := h.to; rw [redL, if_pos hs] at this; exact this
theorem RedI.no {sizes forms : List Int} {R out : List Ent} {k : Nat} (h : RedI sizes forms R (k + 1) out) (hs : sameIntsB (fillL sizes (out.eraseIdx k)) forms = false) : RedI sizes forms R k out := by
  refine ⟨by have := h.le; omega, h.V, ?_, h.forms⟩
  have := h.to; rw [redL, if_neg (by rw [hs]; decide)] at this; exact this
theorem RedI.end_ {sizes forms : List Int} {R out : List Ent} (h : RedI sizes forms R 0 out) : out = R := h.to
theorem red_fill (sizes forms : List Int) : ∀ (k : Nat) (es : List Ent), k ≤ es.length → ValidP sizes es → fillL sizes es = forms → ValidP sizes (redL sizes forms k es) ∧ fillL sizes (redL sizes forms k es) = forms
  | 0, es, _, V, h => ⟨V, h⟩
  | k + 1, es, hk, V, h => by
    rw [redL]
    split
    · rename_i hs
      exact red_fill sizes forms k _ (by rw [List.length_eraseIdx_of_lt (by omega)]; omega) (erase_valid V (by omega)) ((by simpa [sameIntsB_iff] using hs))
    · exact red_fill sizes forms k es (by omega) V h
theorem boxput {w W : World} {B g : Nat} {A E x y : Value} {S : List Int} {es : List Ent} (hrb : BoxP W g x y) (hs : OInts 3 W B A S) (he : OEnts W B E es) (hX : Ext w W) (hg : w.heap.size ≤ g) :
    BoxP ((W.setCell ⟨g, 0, none⟩ A).setCell ⟨g, 1, none⟩ E) g A E ∧ OInts 3 ((W.setCell ⟨g, 0, none⟩ A).setCell ⟨g, 1, none⟩ E) B A S ∧ OEnts ((W.setCell ⟨g, 0, none⟩ A).setCell ⟨g, 1, none⟩ E) B E es ∧ Ext w ((W.setCell ⟨g, 0, none⟩ A).setCell ⟨g, 1, none⟩ E) := by
  have h0 := hrb.set0 A
  exact ⟨h0.set1 E, (hs.kept (grownBy_set W g 0 A) hrb.noInts).kept (grownBy_set _ g 1 E) h0.noInts, (he.kept (grownBy_set W g 0 A) hrb.neither).kept (grownBy_set _ g 1 E) h0.neither, (hX.setCell hg 0 A).setCell hg 1 E⟩
/-- the state of the loop -/
def RedW (sizes forms : List Int) (R : List Ent) (B g : Nat) (w1 : World) (m : Nat) (i : Value) (wr : World) : Prop :=
  ∃ (k : Nat) (z : Int) (out : List Ent) (sv ev : Value), i = .int .i64 z ∧ z = (k : Int) - 1 ∧ k ≤ m ∧ RedI sizes forms R k out ∧ BoxP wr g sv ev ∧ OInts 3 wr B sv sizes ∧ OEnts wr B ev out ∧ Ext w1 wr

end Go.Proofs.Ytdgncnhmgbmpjaa

