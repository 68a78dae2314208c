/- A contract, out of a walk. -/
import Derived.Test.YtdjlkhhgaaddpaaGreatEvPw
set_option linter.unusedSectionVars false
set_option linter.unusedVariables false
set_option linter.unusedSimpArgs false
namespace Go.Ev
open Go
open Classical
variable {E:Env} {w w' w0:World} {A0:Fix} {g g':Gh} {st st':St} {N:Nat} {pv:List Value} {a:Act}
def T.arg0:T→Bool
 | .v _=>true
 | .s o _ _=>!o
 | .q _ _ _ _=>true
 | .h=>true
 | _=>false
def T.arg:T→Bool
 | .c _ caps=>caps.all T.arg0
 | t=>t.arg0
def AV.arg:AV→Bool
 | .one t=>t.arg
 | .agg l=>l.all T.arg
 | _=>false
def tY:Nat→List AV→List (Nat×AV)
 | _,[]=>[]
 | i,a :: l=>(i,a) :: tY (i+1) l
def St.entry (args:List AV):St:=⟨tY 0 args,[],[]⟩
def a4o (E:Env) (st:St) (K:AV→Prop):ResultVar→Prop
 | .tmp t=>K (iD st.tm t)
 | .cell a t=>b1i st true K (E.tab t) (iD st.tm a)
def a0s (E:Env) (st:St) (K:AV→Prop):List ResultVar→Prop
 | []=>K (.tup [])
 | [r]=>a4o E st K r
 | [r,s]=>a4o E st (fun a=>a4o E st (fun b=>K (.tup [a,b])) s) r
 | [r,s,t]=>a4o E st (fun a=>a4o E st (fun b=>a4o E st (fun c=>K (.tup [a,b,c])) t) s) r
 | _=>False
def jR (st:St):AV→Option (AV×St)
 | .one t=>(lP st t).map fun (t,st)=>(.one t,st)
 | .agg l=>(lB st l).map fun (l,st)=>(.agg l,st)
 | .lit b=>some (.one (.v (.bool b)),st)
 | _=>none
def uS (st:St):List AV→Option (List AV×St)
 | []=>some ([],st)
 | a :: l=>match jR st a with
   | some (a,st)=>match uS st l with
     | some (l,st)=>some (a :: l,st)
     | none=>none
   | none=>none
def yF (st:St):AV→Option (AV×St)
 | .tup l=>(uS st l).map fun (l,st)=>(.tup l,st)
 | a=>jR st a
def lU:List T→Prop
 | []=>True
 | t :: l=>OwnT t∧lU l
def AV.Own1:AV→Prop
 | .one t=>OwnT t
 | .agg l=>lU l
 | _=>False
def c5i:List AV→Prop
 | []=>True
 | a :: l=>a.Own1∧c5i l
def AV.Own:AV→Prop
 | .tup l=>c5i l
 | a=>a.Own1
def c9f (out:Out):Option (AV×St)→Prop
 | some (a,_)=>((out.al=false→out.res.Own)∧a=out.res)∨(out.al=true∧FzQ a out.res)
 | none=>False
def c0c (out:Out) (st:St) (a:AV):Prop:=c9f out (yF st a)
def d8e (E:Env) (rs:List ResultVar) (out:Out):Exit→St→Prop
 | .normal,st=>a0s E st (c0c out st) rs
 | .ret,st=>a0s E st (c0c out st) rs
 | _,_=>False
def xA (P:Program) (tmps:Array Value) (w:World) (v:Value):ResultVar→Prop
 | .tmp t=>v=tmps.getD t undef
 | .cell a t=>∃x,tmps.getD a undef=.pointer (some x)∧(loadVar t x).run P w=.ok v w
def c3q (tmps:Array Value):ResultVar→Sem Value
 | .tmp t=>pure (tmps.getD t undef)
 | .cell a t=>do loadVar t (←asAddr (tmps.getD a undef))
theorem zR (fn:Func) (tmps:Array Value):results fn tmps=(do let vs ←fn.results.mapM (c3q tmps);pure (if h:vs.size=1 then vs[0] else .tuple vs)):=by
 unfold results
 congr 1
theorem xA.run {P:Program} {tmps:Array Value} {w:World} {v:Value} {r:ResultVar} (h:xA P tmps w v r):(c3q tmps r).run P w=.ok v w:=by
 cases r with
 | tmp t=>cases h;rfl
 | cell a t =>
   obtain ⟨x,h1,h2⟩:=h
   simp only [c3q,h1,asAddr]
   simpa using h2
theorem c8i {P:Program} {fn:Func} {tmps:Array Value} {w:World} (hf:fn.results=#[]):(results fn tmps).run P w=.ok (.tuple #[]) w:=by
 simp [zR,hf]
theorem c8h {P:Program} {fn:Func} {tmps:Array Value} {w:World} {v:Value} {r:ResultVar} (hf:fn.results=#[r]) (h:xA P tmps w v r):(results fn tmps).run P w=.ok v w:=by
 simp [zR,hf,h.run]
theorem c8g {P:Program} {fn:Func} {tmps:Array Value} {w:World} {v u:Value} {r s:ResultVar} (hf:fn.results=#[r,s]) (h:xA P tmps w v r) (k:xA P tmps w u s):(results fn tmps).run P w=.ok (.tuple #[v,u]) w:=by
 simp [zR,hf,h.run,k.run]
theorem c8f {P:Program} {fn:Func} {tmps:Array Value} {w:World} {v u x:Value} {r s t:ResultVar} (hf:fn.results=#[r,s,t]) (h:xA P tmps w v r) (k:xA P tmps w u s) (l:xA P tmps w x t):(results fn tmps).run P w=.ok (.tuple #[v,u,x]) w:=by
 simp [zR,hf,h.run,k.run,l.run]
theorem xL (hE:EnvOk E) (h:RepSt w g st N pv a) {K:AV→Prop} {r:ResultVar} (hK:a4o E st K r):∃x v,K x∧xA E.P a.tmps w v r∧bL w g st x v:=by
 cases r with
 | tmp t=>exact ⟨_,_,hK,rfl,h.tm t⟩
 | cell b t =>
   obtain ⟨x,hx,hr⟩:=b5u hE h (gd:=true) hK (fun _=>h.tm b)
   obtain ⟨v,hv,hr⟩:=hr rfl
   refine ⟨x,v,hx,?_,hr⟩
   have hv:=hv w (.refl w)
   unfold Instr.loadAt at hv
   generalize hp:a.tmps.getD b undef=p at hv
   unfold Instr.sureAddr at hv
   split at hv
   · exact ⟨_,hp,by simpa using hv⟩
   · simp [stuck] at hv
def b3h (x:AV):Prop:=(∃t,x=.one t)∨(∃l,x=.agg l)∨∃b,x=.lit b
def b7t:AV→Prop
 | .tup l=>∀x∈l,b3h x
 | _=>True
theorem b3h.rep {x:AV} {v:Value} (h:b3h x) (hr:bL w g st x v):xB w g st x v:=by
 rcases h with ⟨t,rfl⟩ | ⟨l,rfl⟩ | ⟨b,rfl⟩ <;> exact hr
theorem b3q (hE:EnvOk E) (h:RepSt w g st N pv a) {K:AV→Prop} (hKp:∀x,K x→b7t x) {fn:Func} (hK:a0s E st K fn.results.toList):∃x v,K x∧(results fn a.tmps).run E.P w=.ok v w∧bL w g st x v:=by
 generalize hr:fn.results.toList=l at hK
 unfold a0s at hK
 split at hK
 · exact ⟨_,_,hK,c8i (by apply Array.ext';simpa using hr),#[],rfl,rfl,fun j z v' hj=>by simp at hj⟩
 · rename_i r
   obtain ⟨x,v,h1,h2,h3⟩:=xL hE h hK
   exact ⟨x,v,h1,c8h (by apply Array.ext';simpa using hr) h2,h3⟩
 · rename_i r s
   obtain ⟨x,v,h1,h2,h3⟩:=xL hE h hK
   obtain ⟨y,u,k1,k2,k3⟩:=xL hE h h1
   have hp:=hKp _ k1
   refine ⟨_,_,k1,c8g (by apply Array.ext';simpa using hr) h2 k2,_,rfl,rfl,fun j z v' hj hv=>?_⟩
   rcases j with _ | _ | j
   · simp at hj hv;subst hj hv;exact (hp _ (by simp)).rep h3
   · simp at hj hv;subst hj hv;exact (hp _ (by simp)).rep k3
   · simp at hj
 · rename_i r s t
   obtain ⟨x,v,h1,h2,h3⟩:=xL hE h hK
   obtain ⟨y,u,k1,k2,k3⟩:=xL hE h h1
   obtain ⟨z,u',l1,l2,l3⟩:=xL hE h k1
   have hp:=hKp _ l1
   refine ⟨_,_,l1,c8f (by apply Array.ext';simpa using hr) h2 k2 l2,_,rfl,rfl,fun j z v' hj hv=>?_⟩
   rcases j with _ | _ | _ | j
   · simp at hj hv;subst hj hv;exact (hp _ (by simp)).rep h3
   · simp at hj hv;subst hj hv;exact (hp _ (by simp)).rep k3
   · simp at hj hv;subst hj hv;exact (hp _ (by simp)).rep l3
   · simp at hj
 · exact hK.elim
theorem tE:∀{l l':List AV} {st st':St},uS st l=some (l',st')→∀x∈l,b3h x
 | [],_,_,_,_=>fun x hx=>by cases hx
 | x :: l,l',st,st',he=>by
   simp only [uS] at he
   split at he
   · rename_i x1 st1 h1
     split at he
     · rename_i l1 st2 h2
       intro y hy
       rcases List.mem_cons.1 hy with rfl | hy
       · cases y with
         | one t=>exact .inl ⟨t,rfl⟩
         | agg l=>exact .inr (.inl ⟨l,rfl⟩)
         | lit b=>exact .inr (.inr ⟨b,rfl⟩)
         | _=>simp [jR] at h1
       · exact tE h2 y hy
     · cases he
   · cases he
theorem c4w {out:Out} {x:AV} (h:c0c out st x):b7t x:=by
 cases x with
 | tup l =>
   have h:c9f out ((uS st l).map fun (l,st)=>(.tup l,st)):=h
   cases he:uS st l with
   | none=>rw [he] at h;exact h.elim
   | some y=>exact tE he
 | _=>exact trivial
theorem lU.get:∀{l:List T},lU l→∀(j:Nat) t,l[j]?=some t→OwnT t
 | _ :: _,h,0,t,hj=>by simp at hj;subst hj;exact h.1
 | _ :: l,h,j+1,t,hj=>lU.get h.2 j t (by simpa using hj)
theorem Ow.fit {A' S:Nat→Prop} {v:Value} {t:T} (h:Ow w g.A S v t) (hA:(∀b,g.A b→A' b)∨OwnT t):Ow w A' S v t:=by
 rcases hA with hA | ho
 · exact h.mono (fun b hb _=>⟨hA b hb,rfl⟩) (fun b hb _=>⟨hb,rfl⟩)
 · exact h.own ho
theorem a7c (h:RepSt w g st N pv a) {A':Nat→Prop} {x x':AV} {v:Value} (he:jR st x=some (x',st')) (hr:bL w g st x v) (hA:(∀b,g.A b→A' b)∨x'.Own1) :
 Kills st st'∧∃S,eR w A' S x' v∧∀b,S b→iZ g st st' b:=by
 cases x with
 | one t =>
   simp only [jR,Option.map_eq_some_iff,Prod.exists,Prod.mk.injEq] at he
   obtain ⟨t',st1,h1,rfl,rfl⟩:=he
   obtain ⟨k,S,hO,hS⟩:=a5i h h1 hr
   refine ⟨k,S,?_,hS⟩
   have:=hO.fit hA
   cases t' with
   | b row=>cases this
   | _=>exact this
 | agg l =>
   simp only [jR,Option.map_eq_some_iff,Prod.exists,Prod.mk.injEq] at he
   obtain ⟨l',st1,h1,rfl,rfl⟩:=he
   obtain ⟨cs,rfl,q1,q2⟩:=hr
   obtain ⟨k,hl,Sub,hO,hd,hS⟩:=pL (us:=cs.toList) h h1 (by simpa using q1) (fun j t u hj hu=>q2 j t u hj (by simpa using hu))
   refine ⟨k,fun b=>∃j,Sub j b,⟨cs,rfl,by rw [hl];exact q1,Sub,fun j t u hj hu=>?_,hd,fun j x hx=>⟨j,hx⟩⟩,fun b hb=>by obtain ⟨j,hj⟩:=hb;exact hS j b hj⟩
   exact (hO j t u hj (by simpa using hu)).fit (hA.imp id (fun ho=>lU.get ho j t hj))
 | lit b =>
   cases he
   cases (show v=.bool b from hr)
   exact ⟨.refl st,fun _=>False,Ow.v _ _ rfl,fun _ h=>h.elim⟩
 | _=>simp [jR] at he
theorem a7b {A':Nat→Prop}:∀{l l':List AV} {st st':St} {us:List Value},RepSt w g st N pv a→uS st l=some (l',st')→us.length=l.length →
 (∀(j:Nat) t u,l[j]?=some t→us[j]?=some u→bL w g st t u)→((∀b,g.A b→A' b)∨c5i l') →
 Kills st st'∧l'.length=l.length∧∃Sub:Nat→Nat→Prop,(∀(j:Nat) t u,l'[j]?=some t→us[j]?=some u→eR w A' (Sub j) t u)∧(∀j j' x,Sub j x→Sub j' x→j=j')∧∀j x,Sub j x→iZ g st st' x
 | [],l',st,st',us,h,he,hl,hr,hA=>by
   cases he
   exact ⟨.refl st,rfl,fun _ _=>False,fun j t u ht=>by simp at ht,fun _ _ _ h=>h.elim,fun _ _ h=>h.elim⟩
 | t :: l,l',st,st',[],h,he,hl,hr,hA=>by simp at hl
 | t :: l,l',st,st',u :: us,h,he,hl,hr,hA=>by
   simp only [uS] at he
   split at he
   · rename_i t1 st1 h1
     split at he
     · rename_i l1 st2 h2
       cases he
       obtain ⟨k1,S0,hO,hS⟩:=a7c (A':=A') h h1 (hr 0 t u rfl rfl) (hA.imp id (fun ho=>ho.1))
       obtain ⟨k2,hlen,Sub,hO2,hd,hS2⟩:=a7b (us:=us) (h.kills k1) h2 (by simpa using hl) (fun j t u hj hu=>(hr (j+1) t u (by simpa using hj) (by simpa using hu)).keeps (Keeps.kills k1)) (hA.imp id (fun ho=>ho.2))
       refine ⟨k1.trans k2,by simp [hlen],fun j=>match j with | 0=>S0 | j+1=>Sub j,fun j t u hj hu=>?_,fun j j' x hx hx'=>?_,fun j x hx=>?_⟩
       · cases j with
         | zero=>simp at hj hu;subst hj hu;exact hO
         | succ j=>exact hO2 j t u (by simpa using hj) (by simpa using hu)
       · cases j with
         | zero =>
           cases j' with
           | zero=>rfl
           | succ j' =>
             obtain ⟨i,q1,_,q2⟩:=hS x hx
             obtain ⟨i',q3,⟨ob,q4⟩,_⟩:=hS2 j' x hx'
             rw [q1] at q3;cases q3
             rw [q2] at q4;cases q4
         | succ j =>
           cases j' with
           | zero =>
             obtain ⟨i,q1,_,q2⟩:=hS x hx'
             obtain ⟨i',q3,⟨ob,q4⟩,_⟩:=hS2 j x hx
             rw [q1] at q3;cases q3
             rw [q2] at q4;cases q4
           | succ j'=>exact congrArg (·+1) (hd j j' x hx hx')
       · cases j with
         | zero=>exact (hS x hx).mono1 k2
         | succ j=>exact (hS2 j x hx).mono2 k1
     · cases he
   · cases he
theorem eR.res {A S:Nat→Prop} {x:AV} {v:Value} (h:eR w A S x v):iU w A S x v:=by
 cases x with
 | tup l=>exact h.elim
 | _=>exact h
theorem eR.weak {A S S':Nat→Prop} {x:AV} {v:Value} (h:eR w A S x v) (hS:∀b,S b→S' b):eR w A S' x v:=by
 cases x with
 | one t =>
   cases t with
   | b row =>
     obtain ⟨b,cs,e,h1,h2,h3,h4,Sub,h5,h6,h7⟩:=h
     exact ⟨b,cs,e,h1,h2,hS b h3,h4,Sub,h5,h6,fun j x hx=>⟨hS x (h7 j x hx).1,(h7 j x hx).2⟩⟩
   | _=>exact Ow.weak h hS
 | agg l =>
   obtain ⟨cs,h1,h2,Sub,h3,h4,h5⟩:=h
   exact ⟨cs,h1,h2,Sub,h3,h4,fun j x hx=>hS x (h5 j x hx)⟩
 | _=>exact h.elim
theorem c9b (h:RepSt w g st N pv a) {A' S:Nat→Prop} {x x':AV} {v:Value} (he:yF st x=some (x',st')) (hr:bL w g st x v) (hA:(∀b,g.A b→A' b)∨x'.Own) (hS:∀b i,g.lab b=some i→S b):iU w A' S x' v:=by
 have hst:∀st1 b,iZ g st st1 b→S b:=fun st1 b hb=>by obtain ⟨i,hi,_⟩:=hb;exact hS b i hi
 have one:jR st x=some (x',st')→((∀b,g.A b→A' b)∨x'.Own1)→iU w A' S x' v:=by
  intro h1 hA
  obtain ⟨_,S0,hR,hS0⟩:=a7c h h1 hr hA
  exact (hR.weak (fun b hb=>hst _ b (hS0 b hb))).res
 have own1:∀{y:AV},jR st x=some (y,st')→y.Own→y.Own1:=by
  intro y h1 hy
  cases x with
  | one t=>simp only [jR,Option.map_eq_some_iff,Prod.exists,Prod.mk.injEq] at h1;obtain ⟨_,_,_,rfl,_⟩:=h1;exact hy
  | agg t=>simp only [jR,Option.map_eq_some_iff,Prod.exists,Prod.mk.injEq] at h1;obtain ⟨_,_,_,rfl,_⟩:=h1;exact hy
  | lit b=>cases h1;exact hy
  | _=>simp [jR] at h1
 cases x with
 | tup l =>
   simp only [yF,Option.map_eq_some_iff,Prod.exists,Prod.mk.injEq] at he
   obtain ⟨l',st1,h1,rfl,rfl⟩:=he
   obtain ⟨vs,rfl,q1,q2⟩:=hr
   have hpl:=tE h1
   obtain ⟨_,hl,Sub,hO,hd,hS'⟩:=a7b (A':=A') (us:=vs.toList) h h1 (by simpa using q1) (fun j x u hj hu=>by
    have:=q2 j x u hj (by simpa using hu)
    rcases hpl x (List.mem_of_getElem? hj) with ⟨t,rfl⟩ | ⟨l,rfl⟩ | ⟨b,rfl⟩ <;> exact this) hA
   exact ⟨vs,Sub,rfl,by rw [hl];exact q1,fun j x u hj hu=>hO j x u hj (by simpa using hu),hd,fun j b hb=>hst _ b (hS' j b hb)⟩
 | one t=>exact one he (hA.imp id (own1 he))
 | agg l=>exact one he (hA.imp id (own1 he))
 | may _ _=>simp [yF,jR] at he
 | lit b=>exact one he (hA.imp id (own1 he))
 | no=>simp [yF,jR] at he
end Go.Ev
