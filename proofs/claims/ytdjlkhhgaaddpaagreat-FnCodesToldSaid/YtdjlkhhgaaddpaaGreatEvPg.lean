/- Regions that draw their order, in parts. -/
import Derived.Test.YtdjlkhhgaaddpaaGreatEvPx
set_option linter.unusedSectionVars false
set_option linter.unusedVariables false
set_option linter.unusedSimpArgs false
namespace Go.Ev
open Go
open Classical
variable {E:Env} {w w' w0:World} {A0:Fix} {g g':Gh} {st st':St} {N:Nat} {pv:List Value} {a:Act}
theorem c1w {ops:Array Oper} {n:Nat} {L:Array Bool} (h:d0r ops n L=true):∀j∈Region.ready .any ops L,n≤j:=by
 intro j hj
 obtain ⟨hun,o,ho,_⟩:=mem_ready.1 hj
 have hlt:j < ops.size:=(Array.getElem?_eq_some_iff.1 ho).1
 have:=List.all_eq_true.1 h j (List.mem_range.2 hlt)
 rw [hun] at this
 rcases Nat.lt_or_ge j n with h1 | h1
 · have h2:Nat.blt j n=true:=by simpa [Nat.blt_eq] using h1
   rw [h2] at this
   cases this
 · exact h1
end Go.Ev
