/- How long a rule is; words turned round; the mirrored rule of the program. -/
import Derived.Test.YthmdecgkbjdabaaLaw2
import Derived.Test.YthmdecgkbjdabaaRev
namespace Go.Proofs.Ythmdecgkbjdabaa
open Go.RowKit Go.Shelf
set_option linter.unusedVariables false

def measV (x : Rul) : Int := if validR x = 0 then (((lng x : Int) + x.t.length) + x.l.length) + x.r.length else 0
theorem longR_le {x : Rul} (h : longR x = false) : x.t.length ≤ 100 ∧ x.l.length ≤ 100 ∧ x.r.length ≤ 100 := by
  simp only [longR, Bool.or_eq_false_iff, decide_eq_false_iff_not] at h
  omega

end Go.Proofs.Ythmdecgkbjdabaa

