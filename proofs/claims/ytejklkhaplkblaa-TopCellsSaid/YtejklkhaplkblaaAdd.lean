/- Walks: Add, both packages. -/
import Derived.Test.YtejklkhaplkblaaSwapP
namespace Go.Proofs.Ytejklkhaplkblaa
open Go.RowKit Go.Shelf
set_option linter.unusedVariables false

/-- a paradigm in memory of the call's own and an error code come back -/
def RP2 (S : List Int) (E : List Ent) (k : Int) (w : World) (e : Ending) (w' : World) : Prop := ∃ sv ev, e = .returned (.tuple #[.agg #[sv, ev], .int .i64 k]) ∧ OInts 3 w' w.heap.size sv S ∧ OEnts w' w.heap.size ev E ∧ Ext w w'
theorem OEnts.low {w : World} {B B' : Nat} {v : Value} {es : List Ent} (h : OEnts w B v es) (hB : B' ≤ B) : OEnts w B' v es := by
  obtain ⟨us, h1, h2⟩ := h
  refine ⟨us, ⟨h1.1, ?_⟩, h2.1, fun i u hu => (h2.2 i u hu).low hB⟩
  rcases h1.2 with h | ⟨g, cap, cur, h1, h2, h3⟩
  · exact .inl h
  · exact .inr ⟨g, cap, cur, h1, by omega, h3⟩
def addK (sizes : List Int) (es : List Ent) (x : List Int) (f : Int) : Int := if validI sizes es = 0 then validI sizes (es ++ [(x, f)]) else validI sizes es
def addS (sizes : List Int) (es : List Ent) (x : List Int) (f : Int) : List Int := if addK sizes es x f = 0 then sizes else []
def addE (sizes : List Int) (es : List Ent) (x : List Int) (f : Int) : List Ent := if addK sizes es x f = 0 then es ++ [(x, f)] else []

end Go.Proofs.Ytejklkhaplkblaa
