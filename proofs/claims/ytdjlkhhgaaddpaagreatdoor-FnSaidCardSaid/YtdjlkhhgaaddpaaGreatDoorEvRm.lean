/- A contract out of a walk, of a function that turns one of its arguments in place. -/
import Derived.Test.YtdjlkhhgaaddpaaGreatDoorEvR
set_option linter.unusedSectionVars false
set_option linter.unusedVariables false
set_option linter.unusedSimpArgs false
namespace Go.Ev
open Go
open Classical
variable {E:Env} {w w' w0:World} {A0:Fix} {g g':Gh} {st st':St} {N:Nat} {pv:List Value} {a:Act}
def muOf:List AV→Option (Nat×List (List T))
 | []=>none
 | .tup [.one (.s true k rows)] :: l=>bif l.all AV.arg then some (k,rows) else none
 | a :: l=>bif a.arg then muOf l else none
def entryA (m:AV):AV→AV
 | .tup [_]=>m
 | x=>x
def entryMs (m:AV):List AV→List AV
 | []=>[]
 | x :: l=>entryA m x :: entryMs m l
theorem entryMs_get (m:AV):∀(l:List AV) (i:Nat),(entryMs m l)[i]?=(l[i]?).map (entryA m)
 | [],i=>by simp [entryMs]
 | x :: l,0=>by simp [entryMs]
 | x :: l,i+1=>by simp [entryMs,entryMs_get m l i]
theorem extAV_ok2 (h:RepSt w g st N pv a) {A':Nat→Prop} {x x':AV} {v:Value} (he:extAV st x=some (x',st')) (hr:RepAV w g st x v) (hA:(∀b,g.A b→A' b)∨x'.Own):Kills st st'∧∃S,ResRep w A' S x' v∧∀b,S b→Struck g st st' b:=by
 have one:extAV1 st x=some (x',st')→((∀b,g.A b→A' b)∨x'.Own1)→Kills st st'∧∃S,ResRep w A' S x' v∧∀b,S b→Struck g st st' b:=by
  intro h1 hA
  obtain ⟨k,S0,hR,hS0⟩:=extAV1_ok h h1 hr hA
  exact ⟨k,S0,hR.res,hS0⟩
 have own1:∀{y:AV},extAV1 st x=some (y,st')→y.Own→y.Own1:=by
  intro y h1 hy
  cases x with
  | one t=>simp only [extAV1,Option.map_eq_some_iff,Prod.exists,Prod.mk.injEq] at h1;obtain ⟨_,_,_,rfl,_⟩:=h1;exact hy
  | agg t=>simp only [extAV1,Option.map_eq_some_iff,Prod.exists,Prod.mk.injEq] at h1;obtain ⟨_,_,_,rfl,_⟩:=h1;exact hy
  | lit b=>cases h1;exact hy
  | _=>simp [extAV1] at h1
 cases x with
 | tup l =>
   simp only [extAV,Option.map_eq_some_iff,Prod.exists,Prod.mk.injEq] at he
   obtain ⟨l',st1,h1,rfl,rfl⟩:=he
   obtain ⟨vs,rfl,q1,q2⟩:=hr
   have hpl:=extAVs_plain h1
   obtain ⟨hk,hl,Sub,hO,hd,hS'⟩:=extAVs_ok (A':=A') (us:=vs.toList) h h1 (by simpa using q1) (fun j x u hj hu=>by
    have:=q2 j x u hj (by simpa using hu)
    rcases hpl x (List.mem_of_getElem? hj) with ⟨t,rfl⟩ | ⟨l,rfl⟩ | ⟨b,rfl⟩ <;> exact this) hA
   exact ⟨hk,fun b=>∃j,Sub j b,⟨vs,Sub,rfl,by rw [hl];exact q1,fun j x u hj hu=>hO j x u hj (by simpa using hu),hd,fun j b hb=>⟨j,hb⟩⟩,fun b ⟨j,hb⟩=>hS' j b hb⟩
 | one t=>exact one he (hA.imp id (own1 he))
 | agg l=>exact one he (hA.imp id (own1 he))
 | may _ _=>simp [extAV,extAV1] at he
 | lit b=>exact one he (hA.imp id (own1 he))
 | no=>simp [extAV,extAV1] at he
end Go.Ev
