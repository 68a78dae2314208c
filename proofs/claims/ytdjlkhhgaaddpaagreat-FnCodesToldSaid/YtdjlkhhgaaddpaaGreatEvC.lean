/- What a state says of a frame and a world. -/
import Derived.Test.YtdjlkhhgaaddpaaGreatEvB
set_option linter.unusedSectionVars false
set_option linter.unusedVariables false
set_option linter.unusedSimpArgs false
namespace Go.Ev
open Go
structure Gh where
 β:Nat→Nat
 ω:Nat→Nat
 sz:Nat→Nat
 lab:Nat→Option Nat
 X:Nat→Prop
def Gh.A (g:Gh):Nat→Prop:=fun b=>g.lab b=none∧¬g.X b
structure Fix where
 u:Nat→Prop
 x:Nat→Prop
def dM (w:World) (g:Gh) (st:St):T→Value→Prop
 | .v x,v=>v=x
 | .s true _ rows,v=>rows=[]∧∃a,v=.slice a 0 0
 | .s false k rows,v=>Fz w g.A v (.s false k rows)
 | .n id [] ep lo len,v=>id < st.ob.length∧∀ob,st.obj id=some ob→ob.box=false∧(ep=1→lo=0∧len=ob.rows.length)∧∃a c,v=.slice a len c∧len≤c∧lo+len≤ob.rows.length ∧
    (c=0∨(a=some ⟨g.β id,g.ω id+lo*ob.k,none⟩∧g.lab (g.β id)=some id∧g.ω id+(lo+c)*ob.k≤g.sz id))
 | .n id [(row,off)] ep _ len,v=>id < st.ob.length∧∀ob,st.obj id=some ob→ob.box=false→ep≤ob.ep∧(ep=ob.ep→g.lab (g.β id)=some id∧w.cell? ⟨g.β id,g.ω id+row*ob.k+off,none⟩=some v∧row < ob.rows.length)
 | .n id [(row,off),(lo,k)] ep n0 len,v=>id < st.ob.length∧lo+len≤n0∧∃ad c,v=.slice (if c=lo then ad else ad.map fun x=>x.add (lo*k)) len (c - lo) ∧
    ∀ob,st.obj id=some ob→ob.box=false→ep≤ob.ep∧(ep=ob.ep→g.lab (g.β id)=some id∧w.cell? ⟨g.β id,g.ω id+row*ob.k+off,none⟩=some (.slice ad n0 c)∧row < ob.rows.length)
 | .n _ (_ :: _ :: _ :: _) _ _ _,_=>True
 | .p id [] _ row off,v=>id < st.ob.length∧∀ob,st.obj id=some ob→v=.pointer (some ⟨g.β id,g.ω id+row*ob.k+off,none⟩)∧g.lab (g.β id)=some id∧row < ob.rows.length
 | .p _ (_ :: _) _ _ _,_=>True
 | .q k rows row off,v=>Fz w g.A v (.q k rows row off)
 | .c _ _,_=>False
 | .b _,_=>False
 | .h,_=>True
def c5h (w:World) (g:Gh) (st:St):T→Value→Prop
 | .c f caps,v=>∃cvs:Array Value,v=.func (.func f) #[] cvs∧cvs.size=caps.length∧∀(i:Nat) t u,caps[i]?=some t→cvs[i]?=some u→fit u=true∧dM w g st t u
 | t,v=>dM w g st t v
def dU (w:World) (g:Gh) (st:St) (t:T) (v:Value):Prop:=fit v=true∧c5h w g st t v
def rO (w:World) (g:Gh) (st:St) (l:List T) (cs:Array Value):Prop :=
 cs.size=l.length∧∀(j:Nat) t u,l[j]?=some t→cs[j]?=some u→dU w g st t u
def xB (w:World) (g:Gh) (st:St):AV→Value→Prop
 | .one t,v=>dU w g st t v
 | .agg l,v=>∃cs,v=.agg cs∧rO w g st l cs
 | .lit b,v=>v=.bool b
 | .no,_=>True
 | _,_=>False
def bL (w:World) (g:Gh) (st:St):AV→Value→Prop
 | .tup l,v=>∃vs:Array Value,v=.tuple vs∧vs.size=l.length∧∀(j:Nat) a u,l[j]?=some a→vs[j]?=some u→xB w g st a u
 | .may b a,v=>(b=true→xB w g st a v)∧(b=false→v=undef)
 | a,v=>xB w g st a v
structure Main (w:World) (g:Gh) (S:Nat→Prop) (b f k:Nat) (cs:Array Value) (rows:List (List T)) (vals:Nat→Nat→Value) (Sub:Nat→Nat→Nat→Prop):Prop where
 hk:∀r∈rows,r.length=k
 hv:∀i j,i < rows.length→j < k→cs[f+i*k+j]?=some (vals i j)
 ht:∀(i j:Nat) r t,rows[i]?=some r→r[j]?=some t→Ow w g.A (Sub i j) (vals i j) t
 hd:∀i j i' j' x,Sub i j x→Sub i' j' x→i=i'∧j=j'
 hs:∀i j x,Sub i j x→S x∧x≠b
def fY (w:World) (g:Gh) (st:St) (id:Nat) (ob:Ob):Prop :=
 match ob.box with
 | true=>∃cs e row,ob.rows=[row]∧ob.k=row.length∧w.heap[g.β id]?=some (.cells cs e (0,0))∧g.lab (g.β id)=some id∧g.ω id=0∧cs.size=g.sz id∧rO w g st row cs
 | false=>(ob.rows=[]∧g.lab (g.β id)≠some id) ∨
    ∃cs e vals Sub,w.heap[g.β id]?=some (.cells cs e (0,0))∧g.lab (g.β id)=some id∧cs.size=g.sz id∧g.ω id+ob.rows.length*ob.k≤cs.size ∧
     Main w g (fun x=>g.lab x=some id) (g.β id) (g.ω id) ob.k cs ob.rows vals Sub
structure RepSt (w:World) (g:Gh) (st:St) (N:Nat) (pv:List Value) (a:Act):Prop where
 size:a.tmps.size=N
 defers:a.defers=[]
 tm:∀k,bL w g st (iD st.tm k) (a.tmps.getD k undef)
 ob:∀id ob,st.obj id=some ob→fY w g st id ob
 lab:∀b i,g.lab b=some i→b < w.heap.size∧i < st.ob.length
 pr:pv.length=st.pr.length∧∀(i:Nat) t u,st.pr[i]?=some t→pv[i]?=some u→dU w g st t u
def bsz (w:World) (b:Nat):Option Nat:=match w.heap[b]? with
 | some (.cells cs _ _)=>some cs.size
 | _=>none
theorem a7o {w w':World} {b:Nat} (h:w'.heap[b]?=w.heap[b]?):bsz w' b=bsz w b:=by unfold bsz;rw [h]
structure Fr (w0:World) (A0:Fix) (w:World) (g:Gh):Prop where
 os:w.os=w0.os
 tape:w.tape=w0.tape
 output:w.output=w0.output
 size:w0.heap.size≤w.heap.size
 x:g.X=A0.x∧∀b,A0.x b→b < w0.heap.size∧A0.u b
 blk:∀b,b < w0.heap.size→A0.u b→w.heap[b]?=w0.heap[b]?∧g.lab b=none
 bs:∀b,b < w0.heap.size→bsz w b=bsz w0 b
theorem Fr.nx {w0:World} {A0:Fix} {w:World} {g:Gh} (h:Fr w0 A0 w g) {b i:Nat} (hb:g.lab b=some i):¬g.X b:=by
 intro hX
 rw [h.x.1] at hX
 obtain ⟨h1,h2⟩:=h.x.2 b hX
 rw [(h.blk b h1 h2).2] at hb
 cases hb
structure Keeps (w:World) (g:Gh) (st:St) (w':World) (g':Gh) (st':St):Prop where
 fz:∀b,g.A b→b < w.heap.size→g'.A b∧w'.heap[b]?=w.heap[b]?
 len:st.ob.length≤st'.ob.length
 obj:∀id ob',id < st.ob.length→st'.obj id=some ob'→∃ob,st.obj id=some ob∧ob'.box=ob.box∧ob'.k=ob.k∧ob'.rows.length=ob.rows.length
 ver:∀id ob',id < st.ob.length→st'.obj id=some ob'→∀ob,st.obj id=some ob→ob.ep≤ob'.ep∧(ob'.ep=ob.ep→ob'.box=false→g.lab (g.β id)=some id→w'.heap[g.β id]?=w.heap[g.β id]?)
 gh:∀id ob',id < st.ob.length→st'.obj id=some ob'→g'.β id=g.β id∧g'.ω id=g.ω id∧g'.sz id=g.sz id∧(g.lab (g.β id)=some id→g'.lab (g.β id)=some id)
theorem dM.keeps {w w':World} {g g':Gh} {st st':St} (h:Keeps w g st w' g' st') {t:T} {v:Value} (ht:dM w g st t v):dM w' g' st' t v:=by
 match t,ht with
 | .v x,ht=>exact ht
 | .s true k rows,ht=>exact ht
 | .s false k rows,ht=>exact Fz.mono h.fz ht
 | .n id [] ep lo len,ht =>
   obtain ⟨h1,h2⟩:=ht
   refine ⟨Nat.lt_of_lt_of_le h1 h.len,fun ob' ho=>?_⟩
   obtain ⟨ob,ho1,hb,hk,hr⟩:=h.obj id ob' h1 ho
   obtain ⟨e1,e2,e3,e4⟩:=h.gh id ob' h1 ho
   obtain ⟨h3,hw,a,c,rfl,hl,hlr,hc⟩:=h2 ob ho1
   refine ⟨hb.trans h3,hr ▸ hw,a,c,rfl,hl,hr ▸ hlr,?_⟩
   rcases hc with hc | ⟨ha,hl1,hs⟩
   · exact .inl hc
   · exact .inr ⟨by rw [e1,e2,hk];exact ha,by rw [e1];exact e4 hl1,by rw [e2,e3,hk];exact hs⟩
 | .n id [(row,off)] ep lo len,ht =>
   obtain ⟨h1,h2⟩:=ht
   refine ⟨Nat.lt_of_lt_of_le h1 h.len,fun ob' ho hbx=>?_⟩
   obtain ⟨ob,ho1,hb,hk,hr⟩:=h.obj id ob' h1 ho
   obtain ⟨e1,e2,e3,e4⟩:=h.gh id ob' h1 ho
   obtain ⟨v1,v2⟩:=h.ver id ob' h1 ho ob ho1
   obtain ⟨h3,h4⟩:=h2 ob ho1 (hb ▸ hbx)
   refine ⟨Nat.le_trans h3 v1,fun he=>?_⟩
   have he2:ob'.ep=ob.ep:=by omega
   obtain ⟨h5,h6,h7⟩:=h4 (by omega)
   rw [e1,e2,hk,hr]
   refine ⟨e4 h5,?_,h7⟩
   exact (by rw [World.cell?_of_block (w:=w) (a:=⟨g.β id,g.ω id+row*ob.k+off,none⟩) (v2 he2 hbx h5)];exact h6)
 | .n id [(row,off),(lo,k)] ep n0 len,ht =>
   obtain ⟨h1,hl,ad,c,e,h2⟩:=ht
   refine ⟨Nat.lt_of_lt_of_le h1 h.len,hl,ad,c,e,fun ob' ho hbx=>?_⟩
   obtain ⟨ob,ho1,hb,hk,hr⟩:=h.obj id ob' h1 ho
   obtain ⟨e1,e2,e3,e4⟩:=h.gh id ob' h1 ho
   obtain ⟨v1,v2⟩:=h.ver id ob' h1 ho ob ho1
   obtain ⟨h3,h4⟩:=h2 ob ho1 (hb ▸ hbx)
   refine ⟨Nat.le_trans h3 v1,fun he=>?_⟩
   have he2:ob'.ep=ob.ep:=by omega
   obtain ⟨h5,h6,h7⟩:=h4 (by omega)
   rw [e1,e2,hk,hr]
   refine ⟨e4 h5,?_,h7⟩
   exact (by rw [World.cell?_of_block (w:=w) (a:=⟨g.β id,g.ω id+row*ob.k+off,none⟩) (v2 he2 hbx h5)];exact h6)
 | .n id (x :: y :: z :: t) ep lo len,_=>exact trivial
 | .p id [] ep row off,ht =>
   obtain ⟨h1,h2⟩:=ht
   refine ⟨Nat.lt_of_lt_of_le h1 h.len,fun ob' ho=>?_⟩
   obtain ⟨ob,ho1,hb,hk,hr⟩:=h.obj id ob' h1 ho
   obtain ⟨e1,e2,e3,e4⟩:=h.gh id ob' h1 ho
   obtain ⟨h3,h4,h5⟩:=h2 ob ho1
   exact ⟨by rw [e1,e2,hk];exact h3,by rw [e1];exact e4 h4,by rw [hr];exact h5⟩
 | .p id (x :: y) ep row off,_=>exact trivial
 | .q k rows row off,ht=>exact Fz.mono h.fz ht
 | .h,_=>exact trivial
theorem rB {ep lo len:Nat} {rows:List (List T)} (h:ep=1→lo=0∧len=rows.length):vH ep lo len rows=(rows.drop lo).take len:=by
 unfold vH
 cases he:Nat.beq ep 1 with
 | false=>rfl
 | true =>
   obtain ⟨rfl,rfl⟩:=h (Nat.eq_of_beq_eq_true he)
   simp
theorem dU.keeps {w w':World} {g g':Gh} {st st':St} (h:Keeps w g st w' g' st') {t:T} {v:Value} (ht:dU w g st t v):dU w' g' st' t v:=by
 refine ⟨ht.1,?_⟩
 replace ht:=ht.2
 match t,ht with
 | .c f caps,ht =>
   obtain ⟨cvs,h1,h2,h3⟩:=ht
   exact ⟨cvs,h1,h2,fun i t u hi hu=>⟨(h3 i t u hi hu).1,(h3 i t u hi hu).2.keeps h⟩⟩
 | .v x,ht=>exact dM.keeps (t:=.v x) h ht
 | .s o k rows,ht=>exact dM.keeps (t:=.s o k rows) h ht
 | .n id p ep lo len,ht=>exact dM.keeps (t:=.n id p ep lo len) h ht
 | .p id p ep row off,ht=>exact dM.keeps (t:=.p id p ep row off) h ht
 | .q k rows row off,ht=>exact dM.keeps (t:=.q k rows row off) h ht
 | .b row,ht=>exact False.elim ht
 | .h,_=>exact trivial
theorem rO.keeps {w w':World} {g g':Gh} {st st':St} (h:Keeps w g st w' g' st') {l:List T} {cs:Array Value} (ht:rO w g st l cs):rO w' g' st' l cs :=
 ⟨ht.1,fun j t u hj hu=>(ht.2 j t u hj hu).keeps h⟩
theorem xB.keeps {w w':World} {g g':Gh} {st st':St} (h:Keeps w g st w' g' st') {a:AV} {v:Value} (ht:xB w g st a v):xB w' g' st' a v:=by
 match a,ht with
 | .one t,ht=>exact dU.keeps h ht
 | .agg l,⟨cs,h1,h2⟩=>exact ⟨cs,h1,h2.keeps h⟩
 | .lit b,ht=>exact ht
 | .no,_=>exact trivial
theorem bL.keeps {w w':World} {g g':Gh} {st st':St} (h:Keeps w g st w' g' st') {a:AV} {v:Value} (ht:bL w g st a v):bL w' g' st' a v:=by
 match a,ht with
 | .tup l,⟨vs,h1,h2,h3⟩=>exact ⟨vs,h1,h2,fun j a u hj hu=>(h3 j a u hj hu).keeps h⟩
 | .may b a,ht=>exact ⟨fun hb=>xB.keeps h (ht.1 hb),ht.2⟩
 | .one t,ht=>exact xB.keeps (a:=.one t) h ht
 | .agg l,ht=>exact xB.keeps (a:=.agg l) h ht
 | .lit b,ht=>exact ht
 | .no,_=>exact trivial
theorem bL.nl {w:World} {g:Gh} {st:St} {a:AV} {v:Value} (h:bL w g st a v):bL w g st a.nl v:=by
 cases a with
 | lit b=>cases (show v=.bool b from h);exact ⟨rfl,rfl⟩
 | _=>exact h
theorem Keeps.refl (w:World) (g:Gh) (st:St):Keeps w g st w g st :=
 ⟨fun _ h _=>⟨h,rfl⟩,Nat.le_refl _,fun _ ob' _ h=>⟨ob',h,rfl,rfl,rfl⟩,fun _ ob' _ h ob h'=>by rw [h'] at h;cases h;exact ⟨Nat.le_refl _,fun _ _ _=>rfl⟩,fun _ _ _ _=>⟨rfl,rfl,rfl,id⟩⟩
theorem Keeps.tm (w:World) (g:Gh) (st:St) (tm:List (Nat×AV)):Keeps w g st w g { st with tm:=tm }:=⟨fun _ h _=>⟨h,rfl⟩,Nat.le_refl _,fun _ ob' _ h=>⟨ob',h,rfl,rfl,rfl⟩,fun i ob' _ h ob h'=>by have e:st.obj i=some ob':=h;rw [h'] at e;cases e;exact ⟨Nat.le_refl _,fun _ _ _=>rfl⟩,fun _ _ _ _=>⟨rfl,rfl,rfl,id⟩⟩
theorem Main.keeps {w w':World} {g g':Gh} {S S':Nat→Prop} {b f k:Nat} {cs:Array Value} {rows:List (List T)} {vals:Nat→Nat→Value} {Sub:Nat→Nat→Nat→Prop}
 (hA:∀b,g.A b→b < w.heap.size→g'.A b∧w'.heap[b]?=w.heap[b]?) (hS:∀x,S x→S' x) (hSb:∀x,S x→x≠b→x < w.heap.size→w'.heap[x]?=w.heap[x]?)
 (h:Main w g S b f k cs rows vals Sub):Main w' g' S' b f k cs rows vals Sub :=
 ⟨h.hk,h.hv,fun i j r t hr ht=>(h.ht i j r t hr ht).mono hA (fun x hx hlt=>⟨hx,hSb x (h.hs i j x hx).1 (h.hs i j x hx).2 hlt⟩),h.hd,fun i j x hx=>⟨hS x (h.hs i j x hx).1,(h.hs i j x hx).2⟩⟩
end Go.Ev
