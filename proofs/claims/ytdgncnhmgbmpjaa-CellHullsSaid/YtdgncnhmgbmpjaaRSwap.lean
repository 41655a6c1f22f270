/- Walk: Swap of the reference. -/
import Derived.Test.YtdgncnhmgbmpjaaSwap
import Derived.Deep.Cut
namespace Go.Proofs.Ytdgncnhmgbmpjaa
open Go.RowKit Go.Shelf
set_option linter.unusedVariables false

end Go.Proofs.Ytdgncnhmgbmpjaa
