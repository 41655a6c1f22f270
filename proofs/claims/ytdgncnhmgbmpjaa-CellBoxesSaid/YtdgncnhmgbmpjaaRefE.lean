/- Walks: the reference's form and fill; Fill and IsFull of both. -/
import Derived.Test.YtdgncnhmgbmpjaaRefD
import Derived.Test.YtdgncnhmgbmpjaaOrd
namespace Go.Proofs.Ytdgncnhmgbmpjaa
open Go.RowKit Go.Shelf
set_option linter.unusedVariables false

theorem sel_map_succ {α : Type} (L : List α) (f : α → Int) (d : α) {k : Nat} (hk : k < L.length) : (L.take (k + 1)).map f = (L.take k).map f ++ [f (L[k]?.getD d)] := by
  rw [List.take_add_one, List.map_append]; simp [hk]

end Go.Proofs.Ytdgncnhmgbmpjaa
