/- Marks: what is set, one number behind the other, and what is still held of it. -/
import Derived.Test.YtdjlkhhgaaddpaaGreatEvIns
set_option linter.unusedSectionVars false
set_option linter.unusedVariables false
set_option linter.unusedSimpArgs false
namespace Go.Ev
open Go
section
variable {α:Type} [Inhabited α]
end
end Go.Ev
namespace Go.Ev
end Go.Ev
