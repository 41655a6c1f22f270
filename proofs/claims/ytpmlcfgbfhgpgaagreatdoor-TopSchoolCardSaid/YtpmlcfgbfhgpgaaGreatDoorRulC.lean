/- The places of a rule in a word; both packages. -/
import Derived.Test.YtpmlcfgbfhgpgaaGreatDoorRulB
namespace Go.Proofs.YtpmlcfgbfhgpgaaGreatDoor
open Go.RowKit Go.Shelf
set_option linter.unusedVariables false
theorem wf_int {i : Int} (h : (Lit.int .i64 i).wf = true) : -9223372036854775808 ≤ i ∧ i ≤ 9223372036854775807 := by
  have := h; simp [Lit.wf] at this; exact this
theorem wf_mk {i : Int} (h : -9223372036854775808 ≤ i ∧ i ≤ 9223372036854775807) : (Lit.int .i64 i).wf = true := by
  simp [Lit.wf]; exact h
theorem atI_nat {l : List Int} {i : Nat} (h : i < l.length) : atI l i = l[i]?.getD 0 := by
  rw [atI, if_pos (by omega)]; simp
end Go.Proofs.YtpmlcfgbfhgpgaaGreatDoor
