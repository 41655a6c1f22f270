/- Walk: the reference's Copy, a paradigm in new memory. -/
import Derived.Test.YtejklkhaplkblaaCopied
namespace Go.Proofs.Ytejklkhaplkblaa
open Go.RowKit Go.Shelf
set_option linter.unusedVariables false

end Go.Proofs.Ytejklkhaplkblaa
