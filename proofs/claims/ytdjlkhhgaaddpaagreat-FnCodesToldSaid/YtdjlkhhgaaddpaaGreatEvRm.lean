/- A contract out of a walk, of a function that turns one of its arguments in place. -/
import Derived.Test.YtdjlkhhgaaddpaaGreatEvR
set_option linter.unusedSectionVars false
set_option linter.unusedVariables false
set_option linter.unusedSimpArgs false
namespace Go.Ev
open Go
open Classical
variable {E:Env} {w w' w0:World} {A0:Fix} {g g':Gh} {st st':St} {N:Nat} {pv:List Value} {a:Act}
def d7y:List AV→Option (Nat×List (List T))
 | []=>none
 | .tup [.one (.s true k rows)] :: l=>bif l.all AV.arg then some (k,rows) else none
 | a :: l=>bif a.arg then d7y l else none
def c0b (m:AV):AV→AV
 | .tup [_]=>m
 | x=>x
def wG (m:AV):List AV→List AV
 | []=>[]
 | x :: l=>c0b m x :: wG m l
theorem a9b (m:AV):∀(l:List AV) (i:Nat),(wG m l)[i]?=(l[i]?).map (c0b m)
 | [],i=>by simp [wG]
 | x :: l,0=>by simp [wG]
 | x :: l,i+1=>by simp [wG,a9b m l i]
theorem c6q (h:RepSt w g st N pv a) {A':Nat→Prop} {x x':AV} {v:Value} (he:yF st x=some (x',st')) (hr:bL w g st x v) (hA:(∀b,g.A b→A' b)∨x'.Own):Kills st st'∧∃S,iU w A' S x' v∧∀b,S b→iZ g st st' b:=by
 have one:jR st x=some (x',st')→((∀b,g.A b→A' b)∨x'.Own1)→Kills st st'∧∃S,iU w A' S x' v∧∀b,S b→iZ g st st' b:=by
  intro h1 hA
  obtain ⟨k,S0,hR,hS0⟩:=a7c h h1 hr hA
  exact ⟨k,S0,hR.res,hS0⟩
 have own1:∀{y:AV},jR st x=some (y,st')→y.Own→y.Own1:=by
  intro y h1 hy
  cases x with
  | one t=>simp only [jR,Option.map_eq_some_iff,Prod.exists,Prod.mk.injEq] at h1;obtain ⟨_,_,_,rfl,_⟩:=h1;exact hy
  | agg t=>simp only [jR,Option.map_eq_some_iff,Prod.exists,Prod.mk.injEq] at h1;obtain ⟨_,_,_,rfl,_⟩:=h1;exact hy
  | lit b=>cases h1;exact hy
  | _=>simp [jR] at h1
 cases x with
 | tup l =>
   simp only [yF,Option.map_eq_some_iff,Prod.exists,Prod.mk.injEq] at he
   obtain ⟨l',st1,h1,rfl,rfl⟩:=he
   obtain ⟨vs,rfl,q1,q2⟩:=hr
   have hpl:=tE h1
   obtain ⟨hk,hl,Sub,hO,hd,hS'⟩:=a7b (A':=A') (us:=vs.toList) h h1 (by simpa using q1) (fun j x u hj hu=>by
    have:=q2 j x u hj (by simpa using hu)
    rcases hpl x (List.mem_of_getElem? hj) with ⟨t,rfl⟩ | ⟨l,rfl⟩ | ⟨b,rfl⟩ <;> exact this) hA
   exact ⟨hk,fun b=>∃j,Sub j b,⟨vs,Sub,rfl,by rw [hl];exact q1,fun j x u hj hu=>hO j x u hj (by simpa using hu),hd,fun j b hb=>⟨j,hb⟩⟩,fun b ⟨j,hb⟩=>hS' j b hb⟩
 | one t=>exact one he (hA.imp id (own1 he))
 | agg l=>exact one he (hA.imp id (own1 he))
 | may _ _=>simp [yF,jR] at he
 | lit b=>exact one he (hA.imp id (own1 he))
 | no=>simp [yF,jR] at he
end Go.Ev
