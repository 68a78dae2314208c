/- Calls. -/
import Derived.Test.YtdjlkhhgaaddpaaGreatEvL
set_option linter.unusedSectionVars false
set_option linter.unusedVariables false
set_option linter.unusedSimpArgs false
namespace Go.Ev
open Go
open Classical
variable {E:Env} {w w' w0:World} {A0:Fix} {g g':Gh} {st st':St} {N:Nat} {pv:List Value} {a:Act}
theorem c9x (h:RepSt w g st N pv a) {b:Nat} {cs:Array Value} {e:TypeId} {row:List T} {S:Nat→Prop} (hb:w.heap[b]?=some (.cells cs e (0,0))) (hP:tH g st S) (hSb:S b) (hr:rO w g st row cs) :
 ∃g',In w g st S g' (st.add ⟨row.length,true,[row],0⟩) N pv a∧dU w g' (st.add ⟨row.length,true,[row],0⟩) (.p st.ob.length [] 0 0 0) (.pointer (some ⟨b,0,none⟩)):=by
 let id:=st.ob.length
 let g':Gh:={ β:=fun i=>if i=id then b else g.β i,ω:=fun i=>if i=id then 0 else g.ω i,sz:=fun i=>if i=id then cs.size else g.sz i,lab:=fun x=>if x=b then some id else g.lab x,X:=g.X }
 obtain ⟨i0,hb1,hb2⟩:=hP b hSb
 have hnone:∀x,g.lab x=none→g'.lab x=none:=by
  intro x hx
  show (if x=b then some id else g.lab x)=none
  rw [if_neg]
  · exact hx
  · intro he;subst he;rw [hx] at hb1;cases hb1
 have alive:∀x j ob,g.lab x=some j→st.obj j=some ob→x≠b:=by
  intro x j ob hx ho he
  subst he
  rw [hb1] at hx;cases hx
  rw [hb2] at ho;cases ho
 have hK:Keeps w g st w g' (st.add ⟨row.length,true,[row],0⟩):=by
  refine ⟨fun x hx _=>⟨⟨hnone x hx.1,hx.2⟩,rfl⟩,by simp [St.add],fun j ob' hj ho=>?_,fun j ob' hj ho ob1 h1=>?_,fun j ob' hj ho=>?_⟩
  · rw [dX hj] at ho
    exact ⟨ob',ho,rfl,rfl,rfl⟩
  · rw [dX hj,h1] at ho
    cases ho
    exact ⟨Nat.le_refl _,fun _ _ _=>rfl⟩
  · rw [dX hj] at ho
    have hne:j≠id:=by show j≠st.ob.length;omega
    refine ⟨by simp [g',hne],by simp [g',hne],by simp [g',hne],fun hl=>?_⟩
    show (if g.β j=b then some id else g.lab (g.β j))=some j
    rw [if_neg (alive _ _ _ hl ho)];exact hl
 have hlb:g'.lab b=some id:=by show (if b=b then some id else g.lab b)=some id;rw [if_pos rfl]
 refine ⟨g',⟨⟨h.size,h.defers,fun i=>(h.tm i).keeps hK,fun j ob ho=>?_,fun x i hx=>?_,h.pr.1,fun i t u hi hu=>(h.pr.2 i t u hi hu).keeps hK⟩,hK,fun x hx=>?_,hnone,fun i hi=>dX hi,rfl⟩,rfl,by simp [St.add],fun ob ho=>?_⟩
 · have hj:=nF ho
   simp only [St.add,List.length_append,List.length_cons,List.length_nil] at hj
   by_cases he:j=st.ob.length
   · subst he
     rw [iJ] at ho
     cases ho
     exact ⟨cs,e,row,rfl,rfl,by simp [g',id,hb],by simp only [g',id,if_true],by simp [g',id],by simp [g',id],hr.keeps hK⟩
   · have hj':j < st.ob.length:=by omega
     have ho':=ho
     rw [dX hj'] at ho'
     have hne:j≠id:=he
     refine (h.ob j ob ho').keeps hK ⟨by simp [g',hne],by simp [g',hne],by simp [g',hne]⟩ (fun x hx hlt=>⟨?_,rfl⟩) (fun hn=>?_)
     · show (if x=b then some id else g.lab x)=some j
       rw [if_neg (alive _ _ _ hx ho')];exact hx
     · show (if _=b then some id else g.lab _)≠some j
       split
       · intro hh;cases hh;exact hne rfl
       · exact hn
 · have hx:(if x=b then some id else g.lab x)=some i:=hx
   split at hx
   · rename_i hs'
     cases hx
     subst hs'
     have:=h.lab x i0 hb1
     exact ⟨this.1,by simp [St.add,id]⟩
   · have:=h.lab x i hx
     exact ⟨this.1,by simp [St.add];omega⟩
 · show (if x=b then some id else g.lab x)=g.lab x
   rw [if_neg]
   intro he;subst he;exact hx hSb
 · rw [iJ] at ho
   cases ho
   exact ⟨by simp [g',id],by show g'.lab (g'.β id)=some id;simp only [g',if_true],by simp⟩
theorem c3e (h:RepSt w g st N pv a) {A S:Nat→Prop} (hA:∀b,A b→g.A b) (hP:tH g st S) {x:AV} {v:Value} (hO:eR w A S x v) {x':AV} (he:sW st x=(x',st')) :
 ∃g',In w g st S g' st' N pv a∧xB w g' st' x' v:=by
 have leaf:∀t,(∀row,t≠.b row)→x=.one t→∃g',In w g st S g' st' N pv a∧xB w g' st' x' v:=by
  rintro t ht rfl
  have hO':Ow w A S v t:=by
   cases t with
   | b row=>exact absurd rfl (ht row)
   | _=>exact hO
  cases h1:uN st t with
  | mk t1 st1 =>
    have:sW st (.one t)=(.one t1,st1):=by
     cases t with
     | b row=>exact absurd rfl (ht row)
     | _=>simp only [sW,h1]
    rw [this] at he
    cases he
    obtain ⟨g1,i1,r1⟩:=a6z h hA hP hO' h1
    exact ⟨g1,i1,r1⟩
 cases x with
 | one t =>
   cases t with
   | b row =>
     obtain ⟨b,cs,e,rfl,hh,hSb,hsz,Sub,hO,hd,hs⟩:=hO
     simp only [sW] at he
     cases h1:oQ st row with
     | mk row1 st1 =>
       rw [h1] at he
       cases he
       obtain ⟨g1,i1,e1,r1⟩:=wR (cs:=cs.toList) (Sub:=Sub) h hA (fun j x hx=>hP x (hs j x hx).1) (fun j t u hj hu=>hO j t u hj (by simpa using hu)) hd (by simpa using hsz) h1
       have hP1:tH g1 st1 (fun x=>x=b):=by
        refine tH.after i1 (fun x hx=>by subst hx;exact hP x hSb) (fun x hx=>?_) (fun x i hx=>(h.lab x i hx).2)
        rintro ⟨j,hj⟩
        exact (hs j x hj).2 hx
       obtain ⟨g2,i2,r2⟩:=c9x i1.rep hh hP1 rfl ⟨by rw [e1];exact hsz,fun j t u hj hu=>r1 j t u hj (by simpa using hu)⟩
       refine ⟨g2,(i1.trans i2).weak (fun x hx=>?_),r2⟩
       rcases hx with ⟨j,hj⟩ | rfl
       · exact (hs j x hj).1
       · exact hSb
   | _=>exact leaf _ (fun row=>by simp) rfl
 | agg l =>
   obtain ⟨cs,rfl,hsz,Sub,hO,hd,hs⟩:=hO
   simp only [sW] at he
   cases h1:oQ st l with
   | mk l1 st1 =>
     rw [h1] at he
     cases he
     obtain ⟨g1,i1,e1,r1⟩:=wR (cs:=cs.toList) (Sub:=Sub) h hA (fun j x hx=>hP x (hs j x hx)) (fun j t u hj hu=>hO j t u hj (by simpa using hu)) hd (by simpa using hsz) h1
     exact ⟨g1,i1.weak (fun x hx=>by obtain ⟨j,hj⟩:=hx;exact hs j x hj),cs,rfl,by rw [e1];exact hsz,fun j t u hj hu=>r1 j t u hj (by simpa using hu)⟩
 | _=>exact hO.elim
theorem b9o {A:Nat→Prop}:∀{l l':List AV} {vs:List Value} {g:Gh} {st st':St} {Sub:Nat→Nat→Prop},RepSt w g st N pv a→(∀b,A b→g.A b)→(∀j,tH g st (Sub j))→(∀(j:Nat) x u,l[j]?=some x→vs[j]?=some u→eR w A (Sub j) x u) →
 (∀j j' x,Sub j x→Sub j' x→j=j')→vs.length=l.length→a0a st l=(l',st')→∃g',In w g st (fun x=>∃j,Sub j x) g' st' N pv a∧l'.length=l.length∧∀(j:Nat) x u,l'[j]?=some x→vs[j]?=some u→xB w g' st' x u
 | [],l',vs,g,st,st',Sub,h,hA,hP,hO,hd,hl,he=>by
   cases he
   exact ⟨g,In.refl h _,rfl,fun j t u hj=>by simp at hj⟩
 | t :: l,l',[],g,st,st',Sub,h,hA,hP,hO,hd,hl,he=>by simp at hl
 | t :: l,l',u :: vs,g,st,st',Sub,h,hA,hP,hO,hd,hl,he=>by
   simp only [a0a] at he
   cases h1:sW st t with
   | mk t1 st1 =>
     cases h2:a0a st1 l with
     | mk l2 st2 =>
       rw [h1] at he
       simp only [h2] at he
       cases he
       obtain ⟨g1,i1,r1⟩:=c3e h hA (hP 0) (hO 0 t u rfl rfl) h1
       obtain ⟨g2,i2,e2,r2⟩:=b9o (Sub:=fun j=>Sub (j+1)) i1.rep (fun b hb=>i1.A (hA b hb)) (fun j=>tH.after i1 (hP (j+1)) (fun x hx hx'=>by have:=hd _ _ _ hx hx';omega) (fun x i hx=>(h.lab x i hx).2))
        (fun j t u hj hu=>hO (j+1) t u (by simpa using hj) (by simpa using hu)) (fun j j' x hx hx'=>by have:=hd _ _ _ hx hx';omega) (by simpa using hl) h2
       refine ⟨g2,(i1.trans i2).weak (fun x hx=>?_),by simp [e2],fun j t' u' hj hu=>?_⟩
       · rcases hx with hx | ⟨j,hx⟩
         · exact ⟨0,hx⟩
         · exact ⟨j+1,hx⟩
       · cases j with
         | zero=>simp at hj hu;subst hj hu;exact r1.keeps i2.keeps
         | succ j=>exact r2 j t' u' (by simpa using hj) (by simpa using hu)
theorem b9n (h:RepSt w g st N pv a) {A S:Nat→Prop} (hA:∀b,A b→g.A b) (hP:tH g st S) {x:AV} {v:Value} (hO:iU w A S x v) {K:St→AV→Prop} (hK:inK st K x) :
 ∃st' x' g',K st' x'∧In w g st S g' st' N pv a∧bL w g' st' x' v:=by
 have one:eR w A S x v→a5b st x=sW st x→∃st' x' g',K st' x'∧In w g st S g' st' N pv a∧bL w g' st' x' v:=by
  intro hO he
  replace hK:=hK.get
  rw [he] at hK
  cases h1:sW st x with
  | mk x1 st1 =>
    rw [h1] at hK
    obtain ⟨g1,i1,r1⟩:=c3e h hA hP hO h1
    refine ⟨st1,x1,g1,hK,i1,?_⟩
    match x1,r1 with
    | .one t,r1=>exact r1
    | .agg l,r1=>exact r1
    | .lit b,r1=>exact r1
    | .no,_=>exact trivial
 cases x with
 | tup l =>
   obtain ⟨vs,Sub,rfl,hsz,hO,hd,hs⟩:=hO
   replace hK:=hK.get
   simp only [a5b] at hK
   cases h1:a0a st l with
   | mk l1 st1 =>
     rw [h1] at hK
     obtain ⟨g1,i1,e1,r1⟩:=b9o (vs:=vs.toList) (Sub:=Sub) h hA (fun j x hx=>hP x (hs j x hx)) (fun j t u hj hu=>hO j t u hj (by simpa using hu)) hd (by simpa using hsz) h1
     exact ⟨st1,.tup l1,g1,hK,i1.weak (fun x hx=>by obtain ⟨j,hj⟩:=hx;exact hs j x hj),vs,rfl,by rw [e1];exact hsz,fun j t u hj hu=>r1 j t u hj (by simpa using hu)⟩
 | one t=>exact one hO rfl
 | agg l=>exact one hO rfl
 | may _ _=>exact hO.elim
 | lit _=>exact hO.elim
 | no=>exact hO.elim
end Go.Ev
