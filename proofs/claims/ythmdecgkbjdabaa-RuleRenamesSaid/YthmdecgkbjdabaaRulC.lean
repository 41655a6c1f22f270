/- The places of a rule in a word; both packages. -/
import Derived.Test.YthmdecgkbjdabaaRulB
namespace Go.Proofs.Ythmdecgkbjdabaa
open Go.RowKit Go.Shelf
set_option linter.unusedVariables false

theorem wf_int {i : Int} (h : (Lit.int .i64 i).wf = true) : -9223372036854775808 ≤ i ∧ i ≤ 9223372036854775807 := by
  have := h; simp [Lit.wf] at this; exact this
theorem wf_mk {i : Int} (h : -9223372036854775808 ≤ i ∧ i ≤ 9223372036854775807) : (Lit.int .i64 i).wf = true := by
  simp [Lit.wf]; exact h
theorem place_out {x : Rul} {l : List Int} {i : Int} {k : Nat} (h : inB i 0 ((l.length : Int) - k) = false) (hl : lng x = k) :
    (decide (0 ≤ i) && decide (i + lng x ≤ l.length) && ((x.f == -1 || atI l i == x.f) && (mayB x.l (atI l (i - 1)) && mayB x.r (atI l (i + lng x))))) = false := by
  have : (decide (0 ≤ i) && decide (i + (lng x : Int) ≤ l.length)) = false := by
    rw [hl, Bool.and_eq_false_iff, decide_eq_false_iff_not, decide_eq_false_iff_not]
    simp only [inB, Bool.and_eq_false_iff, decide_eq_false_iff_not] at h
    omega
  rw [this]; rfl
theorem place_in {x : Rul} {l : List Int} {n k : Nat} (hl : lng x = k) (hn : n + k ≤ l.length) :
    (decide ((0 : Int) ≤ (n : Int)) && decide ((n : Int) + lng x ≤ l.length) && ((x.f == -1 || atI l n == x.f) && (mayB x.l (atI l ((n : Int) - 1)) && mayB x.r (atI l ((n : Int) + lng x))))) =
      ((x.f == -1 || atI l n == x.f) && (mayB x.l (atI l ((n : Int) - 1)) && mayB x.r (atI l ((n : Int) + (k : Int))))) := by
  have : (decide ((0 : Int) ≤ (n : Int)) && decide ((n : Int) + (lng x : Int) ≤ l.length)) = true := by
    rw [hl, Bool.and_eq_true, decide_eq_true_eq, decide_eq_true_eq]; omega
  rw [this, hl]; rfl
theorem atI_nat {l : List Int} {i : Nat} (h : i < l.length) : atI l i = l[i]?.getD 0 := by
  rw [atI, if_pos (by omega)]; simp

end Go.Proofs.Ythmdecgkbjdabaa

