/- Walks: Without, both packages. -/
import Derived.Test.YtdgncnhmgbmpjaaNeed
namespace Go.Proofs.Ytdgncnhmgbmpjaa
open Go.RowKit Go.Shelf
set_option linter.unusedVariables false

def woS (sizes : List Int) (es : List Ent) (i : Int) : List Int := if nK sizes es i i = 0 then sizes else []
def woE (sizes : List Int) (es : List Ent) (i : Int) : List Ent := if nK sizes es i i = 0 then es.eraseIdx i.toNat else []
theorem ints_one_c {w : World} {b : Nat} {i : Int} (hs : w.heap.size = b) : Ints (w.alloc (.cells #[.int .i64 i] 3)) (.slice (some ⟨b, 0, none⟩) 1 1) [i] := by
  subst hs
  refine ⟨some ⟨w.heap.size, 0, none⟩, 1, rfl, Nat.le_refl _, by unfold maxLen; omega, fun k hk => ⟨_, _, rfl, ?_⟩⟩
  obtain rfl : k = 0 := by simp at hk; omega
  exact alloc_cell w _ _ rfl

end Go.Proofs.Ytdgncnhmgbmpjaa

