/- Walks: Needless, both packages. -/
import Derived.Test.YtdgncnhmgbmpjaaWithout
import Derived.Test.YtdgncnhmgbmpjaaDec
namespace Go.Proofs.Ytdgncnhmgbmpjaa
open Go.RowKit Go.Shelf
set_option linter.unusedVariables false

/-- entry k changes no form -/
def needB (sizes : List Int) (es : List Ent) (k : Nat) : Bool := sameIntsB (fillL sizes (es.eraseIdx k)) (fillL sizes es)
def needL (sizes : List Int) (es : List Ent) : List Int := sel es.length (needB sizes es)
theorem erase_valid {sizes : List Int} {es : List Ent} {k : Nat} (V : ValidP sizes es) (hk : k < es.length) : ValidP sizes (es.eraseIdx k) :=
  ⟨V.ok, by rw [List.length_eraseIdx_of_lt hk]; have := V.n; omega, fun i hi => by
    rw [List.length_eraseIdx_of_lt hk] at hi
    rw [ent_erase]; split
    · exact V.ent i (by omega)
    · exact V.ent (i + 1) (by omega)⟩

end Go.Proofs.Ytdgncnhmgbmpjaa

