/- How a state goes over into another. -/
import Derived.Test.YtdjlkhhgaaddpaaGreatEvD
set_option linter.unusedSectionVars false
set_option linter.unusedVariables false
set_option linter.unusedSimpArgs false
namespace Go.Ev
open Go
variable {E:Env} {w w':World} {g g':Gh} {st st':St} {N:Nat} {pv:List Value} {a:Act}
theorem dX {o:Ob} {id:Nat} (h:id < st.ob.length):(st.add o).obj id=st.obj id:=by
 simp [St.obj,St.add,List.getElem?_append_left h]
theorem iJ {o:Ob}:(st.add o).obj st.ob.length=some o:=by
 simp [St.obj,St.add]
theorem nF {id:Nat} {ob:Ob} (h:st.obj id=some ob):id < st.ob.length:=by
 rcases Nat.lt_or_ge id st.ob.length with h' | h'
 · exact h'
 · simp [St.obj,List.getElem?_eq_none h'] at h
theorem qX {o:Option Ob} {id j:Nat} (h:j≠id):({ st with ob:=st.ob.set id o }:St).obj j=st.obj j:=by
 simp [St.obj,List.getElem?_set,Ne.symm h]
theorem kW {o:Option Ob} {id:Nat} (h:id < st.ob.length):({ st with ob:=st.ob.set id o }:St).obj id=o:=by
 simp [St.obj,List.getElem?_set,h]
theorem RepSt.put (h:RepSt w g st N pv a) {d:Option Nat} {av:AV} {v:Value} (hr:bL w g st av v) (hd:∀i,d=some i→i < N):RepSt w g (st.set d av) N pv (a.put d v):=by
 cases d with
 | none=>exact h
 | some d =>
   have hd:=hd d rfl
   have hk:=Keeps.tm w g st ((d,av) :: st.tm)
   refine ⟨by simp [Act.put,h.size],h.defers,fun k=>?_,fun id ob ho=>?_,h.lab,h.pr.1,fun i t u hi hu=>(h.pr.2 i t u hi hu).keeps hk⟩
   · by_cases hkd:d=k
     · subst hkd
       have:iD ((d,av) :: st.tm) d=av:=by simp [iD]
       show bL w g _ (iD ((d,av) :: st.tm) d) _
       rw [this]
       have hget:(a.put (some d) v).tmps.getD d undef=v:=by
        simp [Act.put,Array.getD,h.size,hd]
       rw [hget]
       exact hr.keeps hk
     · have:iD ((d,av) :: st.tm) k=iD st.tm k:=by
        have:(d==k)=false:=by simpa using hkd
        simp [iD,this]
       show bL w g _ (iD ((d,av) :: st.tm) k) _
       rw [this]
       have hget:(a.put (some d) v).tmps.getD k undef=a.tmps.getD k undef:=by
        simp [Act.put,Array.getD_eq_getD_getElem?,Array.getElem?_setIfInBounds,hkd]
       rw [hget]
       exact (h.tm k).keeps hk
   · have h1:=h.ob id ob ho
     unfold fY at h1 ⊢
     cases hb:ob.box with
     | true =>
       rw [hb] at h1
       obtain ⟨cs,e,row,h1,h2,h3,h4,h5,h6,h7⟩:=h1
       exact ⟨cs,e,row,h1,h2,h3,h4,h5,h6,h7.keeps hk⟩
     | false=>rw [hb] at h1;exact h1
theorem fY.keeps (hK:Keeps w g st w' g' st') {id:Nat} {ob:Ob} (hb:g'.β id=g.β id∧g'.ω id=g.ω id∧g'.sz id=g.sz id)
 (hl:∀x,g.lab x=some id→x < w.heap.size→g'.lab x=some id∧w'.heap[x]?=w.heap[x]?) (hn:g.lab (g.β id)≠some id→g'.lab (g.β id)≠some id) (h:fY w g st id ob):fY w' g' st' id ob:=by
 obtain ⟨e1,e2,e3⟩:=hb
 unfold fY at h ⊢
 cases hb:ob.box with
 | true =>
   rw [hb] at h
   obtain ⟨cs,e,row,h1,h2,h3,h4,h5,h6,h7⟩:=h
   have hlt:=(Array.getElem?_eq_some_iff.1 h3).1
   obtain ⟨q1,q2⟩:=hl _ h4 hlt
   exact ⟨cs,e,row,h1,h2,by rw [e1,q2,h3],by rw [e1];exact q1,by rw [e2];exact h5,by rw [e3];exact h6,h7.keeps hK⟩
 | false =>
   rw [hb] at h
   rcases h with ⟨h1,h2⟩ | ⟨cs,e,vals,Sub,h1,h2,h3,h4,hM⟩
   · exact .inl ⟨h1,by rw [e1];exact hn h2⟩
   · have hlt:=(Array.getElem?_eq_some_iff.1 h1).1
     obtain ⟨q1,q2⟩:=hl _ h2 hlt
     refine .inr ⟨cs,e,vals,fun i j x=>Sub i j x∧x < w.heap.size,by rw [e1,q2,h1],by rw [e1];exact q1,by rw [e3];exact h3,by rw [e2];exact h4,?_⟩
     rw [e1,e2]
     exact ⟨hM.hk,hM.hv,fun i j r t hr ht=>(hM.ht i j r t hr ht).mono hK.fz (fun x hx hx'=>⟨⟨hx,hx'⟩,(hl x (hM.hs i j x hx).1 hx').2⟩),fun i j i' j' x h h'=>hM.hd i j i' j' x h.1 h'.1,
      fun i j x hx=>⟨(hl x (hM.hs i j x hx.1).1 hx.2).1,(hM.hs i j x hx.1).2⟩⟩
def Gh.new (g:Gh) (id b n:Nat):Gh :=
 { β:=fun i=>if i=id then b else g.β i,ω:=fun i=>if i=id then 0 else g.ω i,sz:=fun i=>if i=id then n else g.sz i,lab:=fun x=>if x=b then some id else g.lab x,X:=g.X }
theorem nA {o:Obj} (hw:w'.heap=w.heap.push o) {b:Nat} (hb:b < w.heap.size):w'.heap[b]?=w.heap[b]?:=by
 rw [hw,Array.getElem?_push,if_neg (by omega)]
theorem Keeps.add {o:Obj} {ob:Ob} {n:Nat} (h:RepSt w g st N pv a) (hw:w'.heap=w.heap.push o):Keeps w g st w' (g.new st.ob.length w.heap.size n) (st.add ob):=by
 refine ⟨fun b hb hlt=>⟨⟨?_,hb.2⟩,nA hw hlt⟩,by simp [St.add],fun id ob' hid ho=>?_,fun id ob' hid ho=>?_,fun id ob' hid ho=>?_⟩
 · show (if b=w.heap.size then some st.ob.length else g.lab b)=none
   rw [if_neg (by omega)];exact hb.1
 · rw [dX hid] at ho
   exact ⟨ob',ho,rfl,rfl,rfl⟩
 · intro ob1 h1
   rw [dX hid,h1] at ho
   cases ho
   exact ⟨Nat.le_refl _,fun _ _ hl=>nA hw (h.lab _ _ hl).1⟩
 · have hne:id≠st.ob.length:=by omega
   refine ⟨by simp [Gh.new,hne],by simp [Gh.new,hne],by simp [Gh.new,hne],fun hl=>?_⟩
   have:=(h.lab _ _ hl).1
   show (if g.β id=w.heap.size then some st.ob.length else g.lab (g.β id))=some id
   rw [if_neg (by omega)];exact hl
theorem RepSt.addOb (h:RepSt w g st N pv a) {o:Obj} {ob:Ob} {n:Nat} (hw:w'.heap=w.heap.push o)
 (hob:fY w' (g.new st.ob.length w.heap.size n) (st.add ob) st.ob.length ob):RepSt w' (g.new st.ob.length w.heap.size n) (st.add ob) N pv a:=by
 have hK:=Keeps.add (n:=n) (ob:=ob) h hw
 refine ⟨h.size,h.defers,fun k=>(h.tm k).keeps hK,fun id ob' ho=>?_,fun b i hb=>?_,h.pr.1,fun i t u hi hu=>(h.pr.2 i t u hi hu).keeps hK⟩
 · have hid:=nF ho
   simp only [St.add,List.length_append,List.length_cons,List.length_nil] at hid
   by_cases he:id=st.ob.length
   · subst he
     rw [iJ] at ho
     cases ho
     exact hob
   · have hid':id < st.ob.length:=by omega
     rw [dX hid'] at ho
     refine (h.ob id ob' ho).keeps hK ⟨by simp [Gh.new,he],by simp [Gh.new,he],by simp [Gh.new,he]⟩ (fun x hx hlt=>⟨?_,nA hw hlt⟩) (fun hx=>?_)
     · show (if x=w.heap.size then some st.ob.length else g.lab x)=some id
       rw [if_neg (by omega)];exact hx
     · show (if g.β id=w.heap.size then some st.ob.length else g.lab (g.β id))≠some id
       split
       · intro hh;cases hh;exact he rfl
       · exact hx
 · have hb:(if b=w.heap.size then some st.ob.length else g.lab b)=some i:=hb
   split at hb
   · cases hb;subst_vars;simp [hw,St.add]
   · have:=h.lab b i hb
     refine ⟨by rw [hw];simp;omega,by simp [St.add];omega⟩
theorem Fr.add {w0:World} {A0:Fix} (h:Fr w0 A0 w g) {o:Obj} {id n:Nat} (hw:w'.heap=w.heap.push o) (ho:w'.os=w.os) (ht:w'.tape=w.tape) (hp:w'.output=w.output):Fr w0 A0 w' (g.new id w.heap.size n) :=
 ⟨ho.trans h.os,ht.trans h.tape,hp.trans h.output,by rw [hw];simp;have:=h.size;omega,h.x,fun b hb hA=>by
   obtain ⟨h1,h2⟩:=h.blk b hb hA
   have:=h.size
   refine ⟨(nA hw (by omega)).trans h1,?_⟩
   show (if b=w.heap.size then some id else g.lab b)=none
   rw [if_neg (by omega)];exact h2,fun b hb=>(a7o (nA hw (Nat.lt_of_lt_of_le hb h.size))).trans (h.bs b hb)⟩
theorem c8p {id j:Nat} {ob:Ob} (h:(st.kill id).obj j=some ob):j≠id∧st.obj j=some ob:=by
 by_cases he:j=id
 · subst he
   have hlt:j < st.ob.length:=by have:=nF h;simpa [St.kill] using this
   rw [St.kill,kW hlt] at h
   cases h
 · exact ⟨he,by rw [St.kill,qX he] at h;exact h⟩
structure Kills (st st':St):Prop where
 len:st'.ob.length=st.ob.length
 tm:st'.tm=st.tm
 pr:st'.pr=st.pr
 obj:∀i ob,st'.obj i=some ob→st.obj i=some ob
theorem Kills.refl (st:St):Kills st st:=⟨rfl,rfl,rfl,fun _ _ h=>h⟩
theorem Kills.trans {a b c:St} (h:Kills a b) (k:Kills b c):Kills a c:=⟨k.len.trans h.len,k.tm.trans h.tm,k.pr.trans h.pr,fun i ob ho=>h.obj i ob (k.obj i ob ho)⟩
theorem Kills.kill (st:St) (id:Nat):Kills st (st.kill id):=⟨by simp [St.kill],rfl,rfl,fun i ob h=>(c8p h).2⟩
theorem Keeps.kills (h:Kills st st'):Keeps w g st w g st' :=
 ⟨fun _ h _=>⟨h,rfl⟩,by rw [h.len];exact Nat.le_refl _,fun id ob' _ ho=>⟨ob',h.obj id ob' ho,rfl,rfl,rfl⟩,fun id ob' _ ho ob h1=>by rw [h.obj id ob' ho] at h1;cases h1;exact ⟨Nat.le_refl _,fun _ _ _=>rfl⟩,fun _ _ _ _=>⟨rfl,rfl,rfl,fun h=>h⟩⟩
theorem RepSt.kills (h:RepSt w g st N pv a) (k:Kills st st'):RepSt w g st' N pv a:=by
 have hK:=Keeps.kills (w:=w) (g:=g) k
 refine ⟨h.size,h.defers,fun i=>by rw [k.tm];exact (h.tm i).keeps hK,fun j ob' ho=>?_,fun b i hb=>?_,by rw [k.pr];exact h.pr.1,fun i t u hi hu=>(h.pr.2 i t u (by rw [←k.pr];exact hi) hu).keeps hK⟩
 · exact (h.ob j ob' (k.obj j ob' ho)).keeps hK ⟨rfl,rfl,rfl⟩ (fun x hx _=>⟨hx,rfl⟩) (fun hx=>hx)
 · have:=h.lab b i hb
   exact ⟨this.1,by rw [k.len];exact this.2⟩
def iZ (g:Gh) (st st':St) (x:Nat):Prop:=∃i,g.lab x=some i∧(∃ob,st.obj i=some ob)∧st'.obj i=none
theorem a5i (h:RepSt w g st N pv a) {t t':T} {v:Value} (he:lP st t=some (t',st')) (hr:dU w g st t v) :
 Kills st st'∧∃S,Ow w g.A S v t'∧∀x,S x→iZ g st st' x:=by
 obtain ⟨h1,hr⟩:=hr
 cases t with
 | v x =>
   cases he
   have e:v=x:=hr
   subst e
   exact ⟨.refl st,fun _=>False,.v _ _ h1,fun _ h=>h.elim⟩
 | s o k rows =>
   cases o with
   | false =>
     cases he
     exact ⟨.refl st,fun _=>False,.f _ _ _ _ hr,fun _ h=>h.elim⟩
   | true =>
     obtain ⟨rfl,a',rfl⟩:=hr
     cases he
     exact ⟨.refl st,fun _=>False,.nil _ _ _,fun _ h=>h.elim⟩
 | n id path ep lo len =>
   cases path with
   | cons x y=>simp [lP] at he
   | nil =>
     cases ho:st.obj id with
     | none=>simp [lP,ho] at he
     | some ob =>
       obtain ⟨hid,hr⟩:=(show dM w g st (.n id [] ep lo len) v from hr)
       obtain ⟨hbox,hwh,a',c,rfl,hlc,hlr,hc⟩:=hr ob ho
       simp only [lP,ho,hbox,cond_false,Option.some.injEq,Prod.mk.injEq,rB hwh] at he
       obtain ⟨rfl,rfl⟩:=he
       refine ⟨.kill st id,fun x=>g.lab x=some id,?_,fun x hx=>⟨id,hx,⟨ob,ho⟩,?_⟩⟩
       · have hlen:((ob.rows.drop lo).take len).length=len:=by simp;omega
         rcases hc with rfl | ⟨rfl,hl,hs⟩
         · have:len=0:=by omega
           subst this
           exact .nil _ _ _
         · have hob:=h.ob id ob ho
           unfold fY at hob
           rw [hbox] at hob
           rcases hob with ⟨_,hn⟩ | ⟨cs,e,vals,Sub,q1,q2,q3,q4,hM⟩
           · exact absurd hl hn
           · have hget:∀i,i < len→((ob.rows.drop lo).take len)[i]?=ob.rows[lo+i]?:=by
              intro i hi
              rw [List.getElem?_take,if_pos hi,List.getElem?_drop]
             have hO:Ow w g.A (fun x=>g.lab x=some id) (.slice (some ⟨g.β id,g.ω id+lo*ob.k,none⟩) ((ob.rows.drop lo).take len).length c) (.s true ob.k ((ob.rows.drop lo).take len)):=by
              refine .s _ _ _ c ob.k _ (fun i j=>vals (lo+i) j) (fun i j=>Sub (lo+i) j) cs e q2 q1 ?_ (by omega) (by rw [hlen];exact h1) (fun r hr=>hM.hk r (List.mem_of_mem_drop (List.mem_of_mem_take hr))) (fun i j hi hj=>?_)
               (fun i j r t hr ht=>?_) (fun i j i' j' x hx hx'=>?_) (fun i j x hx=>hM.hs _ _ _ hx)
              · rw [q3,Nat.add_assoc,←Nat.add_mul];exact hs
              · have:=hM.hv (lo+i) j (by omega) hj
                rw [←this];congr 1;rw [Nat.add_mul];omega
              · have hi:i < len:=by have:=(List.getElem?_eq_some_iff.1 hr).1;omega
                rw [hget i hi] at hr
                exact hM.ht _ _ _ _ hr ht
              · have:=hM.hd _ _ _ _ _ hx hx'
                exact ⟨by omega,this.2⟩
             rw [hlen] at hO
             exact hO
       · rw [St.kill,kW hid]
 | _=>simp [lP] at he
theorem iZ.mono1 {st1:St} {x:Nat} (h:iZ g st st1 x) (k:Kills st1 st'):iZ g st st' x:=by
 obtain ⟨i,h1,h2,h3⟩:=h
 refine ⟨i,h1,h2,?_⟩
 cases ho:st'.obj i with
 | none=>rfl
 | some ob=>rw [k.obj i ob ho] at h3;cases h3
theorem iZ.mono2 {st1:St} {x:Nat} (k:Kills st st1) (h:iZ g st1 st' x):iZ g st st' x:=by
 obtain ⟨i,h1,⟨ob,h2⟩,h3⟩:=h
 exact ⟨i,h1,⟨ob,k.obj i ob h2⟩,h3⟩
theorem pL:∀{l l':List T} {st st':St} {us:List Value},RepSt w g st N pv a→lB st l=some (l',st')→us.length=l.length →
 (∀(j:Nat) t u,l[j]?=some t→us[j]?=some u→dU w g st t u) →
 Kills st st'∧l'.length=l.length∧∃Sub:Nat→Nat→Prop,(∀(j:Nat) t u,l'[j]?=some t→us[j]?=some u→Ow w g.A (Sub j) u t)∧(∀j j' x,Sub j x→Sub j' x→j=j')∧∀j x,Sub j x→iZ g st st' x
 | [],l',st,st',us,h,he,hl,hr=>by
   cases he
   exact ⟨.refl st,rfl,fun _ _=>False,fun j t u ht=>by simp at ht,fun _ _ _ h=>h.elim,fun _ _ h=>h.elim⟩
 | t :: l,l',st,st',[],h,he,hl,hr=>by simp at hl
 | t :: l,l',st,st',u :: us,h,he,hl,hr=>by
   simp only [lB] at he
   split at he
   · rename_i t1 st1 h1
     split at he
     · rename_i l1 st2 h2
       cases he
       obtain ⟨k1,S0,hO,hS⟩:=a5i h h1 (hr 0 t u rfl rfl)
       obtain ⟨k2,hlen,Sub,hO2,hd,hS2⟩:=pL (us:=us) (h.kills k1) h2 (by simpa using hl) (fun j t u hj hu=>(hr (j+1) t u (by simpa using hj) (by simpa using hu)).keeps (Keeps.kills k1))
       refine ⟨k1.trans k2,by simp [hlen],fun j=>match j with | 0=>S0 | j+1=>Sub j,fun j t u hj hu=>?_,fun j j' x hx hx'=>?_,fun j x hx=>?_⟩
       · cases j with
         | zero=>simp at hj hu;subst hj hu;exact hO
         | succ j=>exact hO2 j t u (by simpa using hj) (by simpa using hu)
       · cases j with
         | zero =>
           cases j' with
           | zero=>rfl
           | succ j' =>
             obtain ⟨i,q1,_,q2⟩:=hS x hx
             obtain ⟨i',q3,⟨ob,q4⟩,_⟩:=hS2 j' x hx'
             rw [q1] at q3;cases q3
             rw [q2] at q4;cases q4
         | succ j =>
           cases j' with
           | zero =>
             obtain ⟨i,q1,_,q2⟩:=hS x hx'
             obtain ⟨i',q3,⟨ob,q4⟩,_⟩:=hS2 j x hx
             rw [q1] at q3;cases q3
             rw [q2] at q4;cases q4
           | succ j'=>exact congrArg (·+1) (hd j j' x hx hx')
       · cases j with
         | zero=>exact (hS x hx).mono1 k2
         | succ j=>exact (hS2 j x hx).mono2 k1
     · cases he
   · cases he
open Classical
noncomputable def Gh.frz (g:Gh) (S:Nat→Prop):Gh:={ g with lab:=fun x=>if S x then none else g.lab x }
theorem Keeps.frz {S:Nat→Prop} (hS:∀x,S x→∃i,g.lab x=some i∧st.obj i=none):Keeps w g st w (g.frz S) st:=by
 refine ⟨fun b hb _=>⟨⟨?_,hb.2⟩,rfl⟩,Nat.le_refl _,fun i ob' _ ho=>⟨ob',ho,rfl,rfl,rfl⟩,fun i ob' _ ho ob h1=>by rw [h1] at ho;cases ho;exact ⟨Nat.le_refl _,fun _ _ _=>rfl⟩,fun i ob' _ ho=>⟨rfl,rfl,rfl,fun hl=>?_⟩⟩
 · show (if S b then none else g.lab b)=none
   split
   · rfl
   · exact hb.1
 · show (if S (g.β i) then none else g.lab (g.β i))=some i
   rw [if_neg]
   · exact hl
   · intro hs
     obtain ⟨k,q1,q2⟩:=hS _ hs
     rw [hl] at q1;cases q1
     rw [q2] at ho;cases ho
theorem RepSt.frz (h:RepSt w g st N pv a) {S:Nat→Prop} (hS:∀x,S x→∃i,g.lab x=some i∧st.obj i=none):RepSt w (g.frz S) st N pv a:=by
 have hK:=Keeps.frz (w:=w) hS
 refine ⟨h.size,h.defers,fun k=>(h.tm k).keeps hK,fun i ob ho=>?_,fun b i hb=>?_,h.pr.1,fun i t u hi hu=>(h.pr.2 i t u hi hu).keeps hK⟩
 · refine (h.ob i ob ho).keeps hK ⟨rfl,rfl,rfl⟩ (fun x hx _=>⟨?_,rfl⟩) (fun hn hh=>?_)
   · show (if S x then none else g.lab x)=some i
     rw [if_neg]
     · exact hx
     · intro hs
       obtain ⟨k,q1,q2⟩:=hS _ hs
       rw [hx] at q1;cases q1
       rw [q2] at ho;cases ho
   · have hh:(if S (g.β i) then none else g.lab (g.β i))=some i:=hh
     split at hh
     · cases hh
     · exact hn hh
 · have hb:(if S b then none else g.lab b)=some i:=hb
   split at hb
   · cases hb
   · exact h.lab b i hb
theorem Fr.frz {w0:World} {A0:Fix} (h:Fr w0 A0 w g) (S:Nat→Prop):Fr w0 A0 w (g.frz S) :=
 ⟨h.os,h.tape,h.output,h.size,h.x,fun b hb hA=>⟨(h.blk b hb hA).1,by
   show (if S b then none else g.lab b)=none
   split
   · rfl
   · exact (h.blk b hb hA).2⟩,h.bs⟩
theorem b9t:∀{l:List T} (j:Nat),(rM l)[j]?=(l[j]?).map T.fzT
 | [],j=>by simp [rM]
 | t :: l,0=>by simp [rM]
 | t :: l,j+1=>by simp [rM,b9t j]
theorem b9s:∀(l:List T),(rM l).length=l.length
 | []=>rfl
 | t :: l=>by simp [rM,b9s l]
theorem a8y {w0:World} {A0:Fix} (h:RepSt w g st N pv a) (hF:Fr w0 A0 w g) {l l':List T} {us:List Value} (he:lB st l=some (l',st')) (hl:us.length=l.length) (hr:∀(j:Nat) t u,l[j]?=some t→us[j]?=some u→dU w g st t u) :
 Kills st st'∧(rM l').length=l.length∧∃g',RepSt w g' st' N pv a∧Fr w0 A0 w g'∧Keeps w g st w g' st'∧∀(j:Nat) t u,(rM l')[j]?=some t→us[j]?=some u→dU w g' st' t u:=by
 obtain ⟨k,hl1,Sub,hO,hd,hS⟩:=pL h he hl hr
 obtain ⟨S,hSdef⟩:∃S:Nat→Prop,∀x,S x↔∃j,Sub j x:=⟨_,fun _=>Iff.rfl⟩
 have hSS:∀x,S x→∃i,g.lab x=some i∧st'.obj i=none:=fun x hx=>by
  obtain ⟨j,hx⟩:=(hSdef x).1 hx
  obtain ⟨i,q1,_,q2⟩:=hS j x hx
  exact ⟨i,q1,q2⟩
 have hK:=Keeps.frz (w:=w) hSS
 have hA:∀b,g.A b→(g.frz S).A b:=fun b hb=>⟨by
  show (if S b then none else g.lab b)=none
  split
  · rfl
  · exact hb.1,hb.2⟩
 have hSA:∀j b,Sub j b→(g.frz S).A b:=fun j b hb=>by
  obtain ⟨i,q1,_⟩:=hS j b hb
  refine ⟨?_,hF.nx q1⟩
  show (if S b then none else g.lab b)=none
  rw [if_pos ((hSdef b).2 ⟨j,hb⟩)]
 refine ⟨k,by rw [b9s,hl1],g.frz S,(h.kills k).frz hSS,hF.frz S,?_,fun j t u hj hu=>?_⟩
 · refine ⟨fun b hb _=>⟨hA b hb,rfl⟩,by rw [k.len];exact Nat.le_refl _,fun i ob' _ ho=>⟨ob',k.obj i ob' ho,rfl,rfl,rfl⟩,fun i ob' _ ho ob h1=>by rw [k.obj i ob' ho] at h1;cases h1;exact ⟨Nat.le_refl _,fun _ _ _=>rfl⟩,fun i ob' hi ho=>⟨rfl,rfl,rfl,(hK.gh i ob' (by rw [k.len];exact hi) ho).2.2.2⟩⟩
 · rw [b9t] at hj
   cases h0:l'[j]? with
   | none=>rw [h0] at hj;cases hj
   | some t0 =>
     rw [h0] at hj;cases hj
     have ho:=hO j t0 u h0 hu
     refine ⟨ho.one,?_⟩
     have hf:=Ow.fz hA ho (hSA j)
     cases ho with
     | v=>rfl
     | h=>exact trivial
     | f=>exact hf.frz
     | nil=>exact hf.frz
     | s=>exact hf.frz
end Go.Ev
