/- The end of a row: its arguments as trees, its call. -/
import Derived.Test.YtdjlkhhgaaddpaaGreatEvV
import Derived.Test.YtdjlkhhgaaddpaaGreatEvU
import Derived.ChangeShapes
import Derived.WideShapes
set_option linter.unusedSectionVars false
set_option linter.unusedVariables false
set_option linter.unusedSimpArgs false
namespace Go.Ev
open Go
open Classical Go.ChangeShapes Go.WideShapes Go.RowKit
variable {H:Type} {enc:TypeId×Value→H} {P:Program} {W:World} {sp:Nat→Bool} {held:Bool} {base:Nat} {r:Reach} {t:TypeId} {v:Value} {d:DataW H} {p:List MemPlace}
def d1e (P:Program) (W:World) (n t:Nat) (v:Value) (x:AV):Prop :=
 lD W (InW W) x v∧((∃l,x=.agg l∧pG P n t l∧∃fs,P.underlying t=some (.struct fs))∨(∃y,x=.one y∧pG P n t [y]∧∀fs,P.underlying t≠some (.struct fs)))
theorem c9r:dN W (InW W) (fun _=>none) 0 [] []:=trivial
theorem c6z {x:AV} {l:List AV} {vs:List Value} (h:lD W (InW W) x v) (hs:dN W (InW W) (fun _=>none) 0 l vs):dN W (InW W) (fun _=>none) 0 (x :: l) (v :: vs):=.cons_ro h hs
theorem FnOk.calls {f:Nat} {args:List AV} {vals:Array Value} {x:Value} (h:FnOk P f args ⟨.one (.v x),[],[],false⟩) (hG:GOk P W (InW W)) (ha:dN W (InW W) (fun _=>none) 0 args vals.toList) :
 Calls P f vals W fun e w'=>e=.returned x∧Below W.heap.size W w':=by
 refine (h.run W (InW W) (fun _=>none) vals ha (fun b hb=>⟨hb,rfl⟩) (fun b i hb=>by cases hb) hG).mono ?_
 rintro e w' ⟨v,lab',rfl,hA,hR,_⟩
 have hv:v=x:=by
  have hR:Ow w' _ _ v (.v x):=hR
  cases hR
  rfl
 subst hv
 exact ⟨rfl,⟨hA.os,hA.tape,hA.output,hA.size,fun b hb=>(hA.blk b hb rfl).1⟩⟩
end Go.Ev
