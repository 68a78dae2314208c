/- What a listed table gives a walk. -/
import Derived.Test.YtdjlkhhgaaddpaaGreatDoorLItoaT
import Derived.Stop.LaidErr
set_option linter.unusedSectionVars false
set_option linter.unusedVariables false
namespace Go.Ev
open Go
theorem GOk.tab {P:Program} {w:World} {gl:Nat} (hg:P.globalNamed "internal/strconv.uint64pow10"=some gl) (h:Lib.TabIs P w "internal/strconv.uint64pow10" .u64 Lib.pow10Tab) (h2:P.globalNamed "strconv.ErrSyntax"=none:=by kernel_rfl) (h3:P.globalNamed "strconv.ErrRange"=none:=by kernel_rfl):GOk P w (InW w):=by
 refine GOk.one hg ?_ h h2 h3
 unfold Lib.TabIs World.var? at h
 rw [hg] at h
 simp only [Option.bind_some] at h
 rcases Nat.lt_or_ge gl w.heap.size with hlt | hge
 · exact hlt
 · rw [Array.getElem?_eq_none hge] at h
   cases h
end Go.Ev
