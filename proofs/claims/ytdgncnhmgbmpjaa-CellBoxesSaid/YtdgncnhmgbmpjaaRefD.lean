/- Walks of the reference: more special, decides, form, fill. -/
import Derived.Test.YtdgncnhmgbmpjaaRefC
namespace Go.Proofs.Ytdgncnhmgbmpjaa
open Go.RowKit Go.Shelf
set_option linter.unusedVariables false

/-- best so far: i is more special than the first k of l, but for itself -/
def bestTo (es : List Ent) (l : List Int) (i k : Nat) : Bool := allB k fun j => (j == i) || isMoreB (ent es (l[i]?.getD 0).toNat).1 (ent es (l[j]?.getD 0).toNat).1
theorem bestTo_succ (es : List Ent) (l : List Int) (i k : Nat) : bestTo es l i (k + 1) = (bestTo es l i k && ((k == i) || isMoreB (ent es (l[i]?.getD 0).toNat).1 (ent es (l[k]?.getD 0).toNat).1)) := by
  simp [bestTo, allB, List.range_succ]
theorem bestTo_eq (es : List Ent) (n : Nat) (f : Nat → Bool) {i : Nat} (hi : i < (sel n f).length) : bestTo es (sel n f) i (sel n f).length = bestB es (sel n f) ((sel n f)[i]?.getD 0) := by
  have h1 : bestB es (sel n f) ((sel n f)[i]?.getD 0) = !((List.range (sel n f).length).any fun j => worseB es ((sel n f)[i]?.getD 0) ((sel n f)[j]?.getD 0)) := by
    rw [any_range]; rfl
  rw [h1, bestTo, allB, Bool.eq_iff_iff]
  simp only [List.all_eq_true, List.mem_range, Bool.not_eq_true', List.any_eq_false, worseB, Bool.or_eq_true, beq_iff_eq, Bool.and_eq_true, bne_iff_ne, ne_eq, Bool.not_eq_true', not_and, Bool.not_eq_false]
  constructor
  · intro h j hj hne
    rcases h j hj with h2 | h2
    · subst h2; exact absurd rfl hne
    · exact h2
  · intro h j hj
    by_cases e : j = i
    · exact .inl e
    · exact .inr (h j hj (fun he => e (sel_inj n f hj hi he)))

end Go.Proofs.Ytdgncnhmgbmpjaa
