/- Contracts, and calls of what is read alone. -/
import Derived.Test.YtdjlkhhgaaddpaaGreatEvK
import Derived.Lib.LaidTab
import Derived.Lib.ItoaNum
set_option linter.unusedSectionVars false
set_option linter.unusedVariables false
set_option linter.unusedSimpArgs false
namespace Go.Ev
open Go
open Classical
variable {E:Env} {w w' w0:World} {A0:Fix} {g g':Gh} {st st':St} {N:Nat} {pv:List Value} {a:Act}
theorem Ow.own {A A' S:Nat→Prop} {v:Value} {t:T} (h:Ow w A S v t):OwnT t→Ow w A' S v t:=by
 induction h with
 | v S x h1=>intro _;exact .v _ _ h1
 | h S x h1=>intro _;exact .h _ _ h1
 | f S x k rows hf =>
   intro ho
   cases ho
   refine .f _ _ _ _ ?_
   cases hf with
   | nil a c=>exact .nil _ _ _ _
   | s b f c=>exact .nil _ _ _ _
 | nil S a k=>intro _;exact .nil _ _ _
 | s S b f c k rows vals Sub cs e hS hh hc hl hln hk hv ht hd hs ih =>
   intro ho
   refine .s _ b f c k rows vals Sub cs e hS hh hc hl hln hk hv (fun i j r t hr ht'=>ih i j r t hr ht' ?_) hd hs
   cases ho with
   | nil=>simp at hr
   | s _ _ hr'=>exact hr' r (List.mem_of_getElem? hr) t (List.mem_of_getElem? ht')
def OwC (w:World) (A S:Nat→Prop) (l:List T) (cs:Array Value):Prop :=
 cs.size=l.length∧∃Sub:Nat→Nat→Prop,(∀(j:Nat) t u,l[j]?=some t→cs[j]?=some u→Ow w A (Sub j) u t)∧(∀j j' x,Sub j x→Sub j' x→j=j')∧∀j x,Sub j x→S x
def uB (w:World) (A S:Nat→Prop) (row:List T) (v:Value):Prop :=
 ∃b cs e,v=.pointer (some ⟨b,0,none⟩)∧w.heap[b]?=some (.cells cs e (0,0))∧S b∧OwC w A (fun x=>S x∧x≠b) row cs
def eR (w:World) (A S:Nat→Prop):AV→Value→Prop
 | .one (.b row),v=>uB w A S row v
 | .one t,v=>Ow w A S v t
 | .agg l,v=>∃cs,v=.agg cs∧OwC w A S l cs
 | _,_=>False
def iU (w:World) (A S:Nat→Prop):AV→Value→Prop
 | .tup l,v=>∃(vs:Array Value) (Sub:Nat→Nat→Prop),v=.tuple vs∧vs.size=l.length∧(∀(j:Nat) a u,l[j]?=some a→vs[j]?=some u→eR w A (Sub j) a u)∧(∀j j' x,Sub j x→Sub j' x→j=j')∧∀j x,Sub j x→S x
 | a,v=>eR w A S a v
def lD (w:World) (A:Nat→Prop):AV→Value→Prop
 | .one t,v=>Fz w A v t
 | .agg l,v=>∃cs:Array Value,v=.agg cs∧cs.size=l.length∧∀(j:Nat) t u,l[j]?=some t→cs[j]?=some u→Fz w A u t
 | _,_=>False
def dN (w:World) (A:Nat→Prop) (lab:Nat→Option Nat):Nat→List AV→List Value→Prop
 | _,[],[]=>True
 | k,.one (.b row) :: l,v :: vs=>uB w A (fun b=>lab b=some k) row v∧dN w A lab (k+1) l vs
 | k,.tup [a] :: l,v :: vs=>eR w A (fun b=>lab b=some k) a v∧dN w A lab (k+1) l vs
 | k,a :: l,v :: vs=>lD w A a v∧dN w A lab k l vs
 | _,_,_=>False
structure Aft (w:World) (lab:Nat→Option Nat) (w':World) (lab':Nat→Option Nat):Prop where
 os:w'.os=w.os
 tape:w'.tape=w.tape
 output:w'.output=w.output
 size:w.heap.size≤w'.heap.size
 blk:∀b,b < w.heap.size→lab b=none→w'.heap[b]?=w.heap[b]?∧lab' b=none
 lt:∀b i,lab' b=some i→b < w'.heap.size
 bs:∀b,b < w.heap.size→bsz w' b=bsz w b
def fQ (w w':World) (A:Nat→Prop) (lab':Nat→Option Nat):Nat→List AV→List Value→List AV→List (List Nat)→Prop
 | _,[],[],[],_=>True
 | k,.one (.b _) :: l,v :: vs,.one (.b row) :: os,kps=>(uB w' A (fun b=>lab' b=some k) row v∧∀b (cs cs':Array Value) e e',v=.pointer (some ⟨b,0,none⟩)→w.heap[b]?=some (.cells cs e (0,0))→w'.heap[b]?=some (.cells cs' e' (0,0))→∀j∈kps.headD [],cs'[j]?=cs[j]?)∧fQ w w' A lab' (k+1) l vs os kps.tail
 | k,.one (.b _) :: _,_ :: _,_,_=>False
 | k,.tup [_] :: l,v :: vs,a :: os,kps=>eR w' A (fun b=>lab' b=some k) a v∧fQ w w' A lab' (k+1) l vs os kps
 | k,.tup [_] :: _,_ :: _,_,_=>False
 | k,_ :: l,_ :: vs,os,kps=>fQ w w' A lab' k l vs os kps
 | _,_,_,_,_=>False
def vV (n:Nat) (lab lab':Nat→Option Nat):Nat→Prop:=fun b=>(n≤b∨lab b≠none)∧lab' b=none
def Out.A (out:Out) (n:Nat) (A:Nat→Prop) (lab lab':Nat→Option Nat):Nat→Prop:=fun b=>(out.al=true∧A b)∨vV n lab lab' b
inductive GFact where
 | tab (k:IntKind) (zs:List Int)
 | sent
def GFact.Is (P:Program) (w:World) (nm:String):GFact→Prop
 | .tab k zs=>Lib.TabIs P w nm k zs
 | .sent=>∃tp p,w.var? P nm=some #[.iface tp p]
def b7y:List (String×GFact):=[("internal/strconv.uint64pow10",.tab .u64 Lib.pow10Tab),("strconv.ErrSyntax",.sent),("strconv.ErrRange",.sent)]
def GOk (P:Program) (w:World) (A:Nat→Prop):Prop:=∀x∈b7y,∀gl,P.globalNamed x.1=some gl→A gl∧gl < w.heap.size∧∀w':World,w'.heap[gl]?=w.heap[gl]?→x.2.Is P w' x.1
theorem GOk.mono {P:Program} {w w':World} {A A':Nat→Prop} (h:GOk P w A) (ht:∀b,A b→b < w.heap.size→A' b∧b < w'.heap.size∧w'.heap[b]?=w.heap[b]?):GOk P w' A':=by
 intro x hx gl hg
 obtain ⟨h1,h2,h3⟩:=h x hx gl hg
 obtain ⟨k1,k2,k3⟩:=ht gl h1 h2
 exact ⟨k1,k2,fun w2 he=>h3 w2 (he.trans k3)⟩
structure FnOk (P:Program) (f:Nat) (args:List AV) (out:Out):Prop where
 fn:∃fn,P.funcs[f]?=some fn∧(fn.name == "runtime.NumGoroutine")=false∧fn.body.isSome=true
 run:∀(w:World) (A:Nat→Prop) (lab:Nat→Option Nat) (vals:Array Value),dN w A lab 0 args vals.toList→(∀b,A b→b < w.heap.size∧lab b=none)→(∀b i,lab b=some i→b < w.heap.size)→GOk P w A →
  Calls P f vals w fun e w'=>∃v lab',e=.returned v∧Aft w lab w' lab'∧iU w' (out.A w.heap.size A lab lab') (fun b=>lab' b=some args.length) out.res v∧fQ w w' (fun b=>A b∨vV w.heap.size lab lab' b) lab' 0 args vals.toList out.outs out.keep
def tH (g:Gh) (st:St) (S:Nat→Prop):Prop:=∀x,S x→∃i,g.lab x=some i∧st.obj i=none
structure In (w:World) (g:Gh) (st:St) (S:Nat→Prop) (g':Gh) (st':St) (N:Nat) (pv:List Value) (a:Act):Prop where
 rep:RepSt w g' st' N pv a
 keeps:Keeps w g st w g' st'
 out:∀x,¬S x→g'.lab x=g.lab x
 none:∀x,g.lab x=Option.none→g'.lab x=Option.none
 obj:∀i,i < st.ob.length→st'.obj i=st.obj i
 X:g'.X=g.X
theorem In.refl (h:RepSt w g st N pv a) (S:Nat→Prop):In w g st S g st N pv a:=⟨h,Keeps.refl _ _ _,fun _ _=>rfl,fun _ h=>h,fun _ _=>rfl,rfl⟩
theorem Keeps.trans {w1 w2 w3:World} {g1 g2 g3:Gh} {s1 s2 s3:St} (h:Keeps w1 g1 s1 w2 g2 s2) (k:Keeps w2 g2 s2 w3 g3 s3) (hsz:w1.heap.size≤w2.heap.size):Keeps w1 g1 s1 w3 g3 s3:=by
 refine ⟨fun b hb hlt=>?_,Nat.le_trans h.len k.len,fun id ob' hid ho=>?_,fun id ob' hid ho ob1 h1=>?_,fun id ob' hid ho=>?_⟩
 · obtain ⟨p1,p2⟩:=h.fz b hb hlt
   obtain ⟨q1,q2⟩:=k.fz b p1 (by omega)
   exact ⟨q1,q2.trans p2⟩
 · obtain ⟨ob2,q1,q2,q3,q4⟩:=k.obj id ob' (Nat.lt_of_lt_of_le hid h.len) ho
   obtain ⟨ob1,r1,r2,r3,r4⟩:=h.obj id ob2 hid q1
   exact ⟨ob1,r1,q2.trans r2,q3.trans r3,q4.trans r4⟩
 · obtain ⟨ob2,q1,q2,q3,q4⟩:=k.obj id ob' (Nat.lt_of_lt_of_le hid h.len) ho
   obtain ⟨a1,a2,a3,a4⟩:=h.gh id ob2 hid q1
   obtain ⟨v1,v2⟩:=h.ver id ob2 hid q1 ob1 h1
   obtain ⟨u1,u2⟩:=k.ver id ob' (Nat.lt_of_lt_of_le hid h.len) ho ob2 q1
   refine ⟨Nat.le_trans v1 u1,fun he hb hl=>?_⟩
   have p1:=v2 (by omega) (q2.symm.trans hb) hl
   have p2:=u2 (by omega) hb (by rw [a1];exact a4 hl)
   rw [a1] at p2
   exact p2.trans p1
 · obtain ⟨ob2,q1,_⟩:=k.obj id ob' (Nat.lt_of_lt_of_le hid h.len) ho
   obtain ⟨a1,a2,a3,a4⟩:=k.gh id ob' (Nat.lt_of_lt_of_le hid h.len) ho
   obtain ⟨b1,b2,b3,b4⟩:=h.gh id ob2 hid q1
   refine ⟨a1.trans b1,a2.trans b2,a3.trans b3,fun hl=>?_⟩
   have:=b4 hl
   rw [←b1] at this
   have:=a4 this
   rw [b1] at this;exact this
theorem In.trans {g2:Gh} {st2:St} {S S2:Nat→Prop} (h:In w g st S g' st' N pv a) (k:In w g' st' S2 g2 st2 N pv a):In w g st (fun x=>S x∨S2 x) g2 st2 N pv a :=
 ⟨k.rep,h.keeps.trans k.keeps (Nat.le_refl _),fun x hx=>(k.out x (fun h2=>hx (.inr h2))).trans (h.out x (fun h2=>hx (.inl h2))),fun x hx=>k.none x (h.none x hx),
   fun i hi=>(k.obj i (Nat.lt_of_lt_of_le hi h.keeps.len)).trans (h.obj i hi),k.X.trans h.X⟩
theorem In.weak {S S':Nat→Prop} (h:In w g st S g' st' N pv a) (hS:∀x,S x→S' x):In w g st S' g' st' N pv a:=⟨h.rep,h.keeps,fun x hx=>h.out x (fun hs=>hx (hS x hs)),h.none,h.obj,h.X⟩
theorem In.A {S:Nat→Prop} (h:In w g st S g' st' N pv a) {b:Nat} (hb:g.A b):g'.A b:=⟨h.none b hb.1,by rw [h.X];exact hb.2⟩
theorem a6z (h:RepSt w g st N pv a) {A S:Nat→Prop} (hA:∀b,A b→g.A b) (hP:tH g st S) {t:T} {v:Value} (hO:Ow w A S v t) {t':T} (he:uN st t=(t',st')) :
 ∃g',In w g st S g' st' N pv a∧dU w g' st' t' v:=by
 have triv:t'=t→st'=st→c5h w g st t v→∃g',In w g st S g' st' N pv a∧dU w g' st' t' v:=by
  rintro rfl rfl hr
  exact ⟨g,In.refl h S,hO.one,hr⟩
 cases hO with
 | v S x h1=>cases he;exact triv rfl rfl rfl
 | h S x h1=>cases he;exact triv rfl rfl trivial
 | f S x k rows hf=>cases he;exact triv rfl rfl (hf.mono (fun b hb _=>⟨hA b hb,rfl⟩))
 | nil S ad k =>
   cases he
   refine ⟨g,⟨h.addEmpty k,?_,fun _ _=>rfl,fun _ h=>h,fun i hi=>dX hi,rfl⟩,rfl,by simp [St.add],fun ob ho=>?_⟩
   · refine ⟨fun _ h _=>⟨h,rfl⟩,by simp [St.add],fun j ob' hj ho=>?_,fun j ob' hj ho ob1 h1=>?_,fun _ _ _ _=>⟨rfl,rfl,rfl,fun h=>h⟩⟩
     · rw [dX hj] at ho
       exact ⟨ob',ho,rfl,rfl,rfl⟩
     · rw [dX hj,h1] at ho
       cases ho
       exact ⟨Nat.le_refl _,fun _ _ _=>rfl⟩
   · rw [iJ] at ho
     cases ho
     exact ⟨rfl,(fun _=>⟨rfl,rfl⟩),ad,0,rfl,Nat.le_refl _,by simp,.inl rfl⟩
 | s S b f c k rows vals Sub cs e hS hh hc hl hln hk hv ht hd hs =>
   cases he
   obtain ⟨g2,p1,p2,p3,p4,p5,p6,p7,p8,p9,pX⟩:=h.addAt (w':=w) (b:=b) (f:=f) (k:=k) (cc:=cs) (rows:=rows) (S:=S) (vals:=vals) (Sub:=Sub) hh (fun _ _=>rfl) rfl hP hS
    (by have:=Nat.mul_le_mul_right k hl;omega) hk hv (fun i j r t hr ht'=>(ht i j r t hr ht').mono (fun b hb _=>⟨hA b hb,rfl⟩) (fun x hx _=>⟨hx,rfl⟩)) hd hs
   refine ⟨g2,⟨p1,p9,p8,p6,fun i hi=>dX hi,pX⟩,hln,by simp [St.add],fun ob ho=>?_⟩
   rw [iJ] at ho
   cases ho
   exact ⟨rfl,(fun _=>⟨rfl,rfl⟩),_,c,rfl,hl,by simp,.inr ⟨by rw [p2,p3];simp,by rw [p2];exact p5,by rw [p3,p4];simpa using hc⟩⟩
theorem tH.after {S S2:Nat→Prop} (h:In w g st S g' st' N pv a) (hP:tH g st S2) (hd:∀x,S2 x→¬S x) (hl:∀x i,g.lab x=some i→i < st.ob.length):tH g' st' S2:=by
 intro x hx
 obtain ⟨i,q1,q2⟩:=hP x hx
 exact ⟨i,by rw [h.out x (hd x hx)];exact q1,by rw [h.obj i (hl x i q1)];exact q2⟩
theorem wR {A:Nat→Prop}:∀{l l':List T} {cs:List Value} {g:Gh} {st st':St} {Sub:Nat→Nat→Prop},RepSt w g st N pv a→(∀b,A b→g.A b)→(∀j,tH g st (Sub j))→(∀(j:Nat) t u,l[j]?=some t→cs[j]?=some u→Ow w A (Sub j) u t) →
 (∀j j' x,Sub j x→Sub j' x→j=j')→cs.length=l.length→oQ st l=(l',st')→∃g',In w g st (fun x=>∃j,Sub j x) g' st' N pv a∧l'.length=l.length∧∀(j:Nat) t u,l'[j]?=some t→cs[j]?=some u→dU w g' st' t u
 | [],l',cs,g,st,st',Sub,h,hA,hP,hO,hd,hl,he=>by
   cases he
   exact ⟨g,In.refl h _,rfl,fun j t u hj=>by simp at hj⟩
 | t :: l,l',[],g,st,st',Sub,h,hA,hP,hO,hd,hl,he=>by simp at hl
 | t :: l,l',u :: cs,g,st,st',Sub,h,hA,hP,hO,hd,hl,he=>by
   simp only [oQ] at he
   cases h1:uN st t with
   | mk t1 st1 =>
     cases h2:oQ st1 l with
     | mk l2 st2 =>
       rw [h1] at he
       simp only [h2] at he
       cases he
       obtain ⟨g1,i1,r1⟩:=a6z h hA (hP 0) (hO 0 t u rfl rfl) h1
       obtain ⟨g2,i2,e2,r2⟩:=wR (Sub:=fun j=>Sub (j+1)) i1.rep (fun b hb=>i1.A (hA b hb)) (fun j=>tH.after i1 (hP (j+1)) (fun x hx hx'=>by have:=hd _ _ _ hx hx';omega) (fun x i hx=>(h.lab x i hx).2))
        (fun j t u hj hu=>hO (j+1) t u (by simpa using hj) (by simpa using hu)) (fun j j' x hx hx'=>by have:=hd _ _ _ hx hx';omega) (by simpa using hl) h2
       refine ⟨g2,(i1.trans i2).weak (fun x hx=>?_),by simp [e2],fun j t' u' hj hu=>?_⟩
       · rcases hx with hx | ⟨j,hx⟩
         · exact ⟨0,hx⟩
         · exact ⟨j+1,hx⟩
       · cases j with
         | zero=>simp at hj hu;subst hj hu;exact r1.keeps i2.keeps
         | succ j=>exact r2 j t' u' (by simpa using hj) (by simpa using hu)
end Go.Ev
