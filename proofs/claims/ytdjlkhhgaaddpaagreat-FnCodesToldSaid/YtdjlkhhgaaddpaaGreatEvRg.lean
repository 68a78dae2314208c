/- A contract out of a walk, of a function that turns the slices of a struct in place. -/
import Derived.Test.YtdjlkhhgaaddpaaGreatEvRm
set_option linter.unusedSectionVars false
set_option linter.unusedVariables false
set_option linter.unusedSimpArgs false
namespace Go.Ev
open Go
open Classical
variable {E:Env} {w w' w0:World} {A0:Fix} {g g':Gh} {st st':St} {N:Nat} {pv:List Value} {a:Act}
end Go.Ev
