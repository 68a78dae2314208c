/- How many marks there may be: no more than what was counted of a value allows. -/
import Derived.Test.YtdjlkhhgaaddpaaGreatEvMk
set_option linter.unusedSectionVars false
set_option linter.unusedVariables false
set_option linter.unusedSimpArgs false
namespace Go.Ev
open Go
end Go.Ev
namespace Go.Ev
open Go
end Go.Ev
