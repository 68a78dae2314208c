/- Calls that turn a struct, or a variable, in place. -/
import Derived.Test.YtdjlkhhgaaddpaaGreatEvNm
set_option linter.unusedSectionVars false
set_option linter.unusedVariables false
set_option linter.unusedSimpArgs false
namespace Go.Ev
open Go
open Classical
variable {E:Env} {w w' w0:World} {A0:Fix} {g g':Gh} {st st':St} {N:Nat} {pv:List Value} {a:Act}
theorem d3h {m:AV} {v0:Value} {A:Nat→Prop} {lab':Nat→Option Nat} {o:AV} {kps:List (List Nat)}:∀{j:Nat} {l l1 l':List AV} {vs:List Value},oC st (.tup [m]) j l=some l1→FzAs l1 l'→vs[j]?=some v0→fQ w w' A lab' 0 l' vs [o] kps →
 eR w' A (fun b=>lab' b=some 0) o v0:=c6c
theorem d6m {A S:Nat→Prop} (hA:∀b,g.A b→b < w.heap.size→A b) {t:T} {u:Value} (hf:t.flatB=true) (h:dU w g st t u):Ow w A S u t:=by
 cases t with
 | v x =>
   have e:u=x:=h.2
   subst e
   exact .v _ _ h.1
 | s o k rows =>
   cases o with
   | true=>cases hf
   | false=>exact .f _ _ _ _ (Fz.mono (fun b hb hlt=>⟨hA b hb hlt,rfl⟩) (show Fz w g.A u (.s false k rows) from h.2))
 | _=>cases hf
theorem c1u {A A':Nat→Prop} {lab:Nat→Option Nat} {k:Nat}:∀{l l':List AV} {vs:List Value},sP st l=some l'→(∀b,A b→A' b)→dN w A lab k l' vs→dN w A' lab k l' vs:=by
 intro l l' vs he hA h
 have hp:=a6n he
 clear he
 induction l' generalizing vs with
 | nil=>cases vs with
   | nil=>exact trivial
   | cons=>exact h.elim
 | cons x l ih =>
   cases vs with
   | nil =>
     exfalso
     cases x with
     | one t=>cases t <;> exact h.elim
     | tup m=>rcases m with _ | ⟨x,_ | ⟨y,m⟩⟩ <;> exact h.elim
     | _=>exact h.elim
   | cons v vs =>
     have hx:=hp x (by simp)
     have hl:c3k l:=fun y hy=>hp y (by simp [hy])
     cases x with
     | one t =>
       cases t with
       | b row=>exact absurd rfl (hx.2 row)
       | _=>exact ⟨lD.mono' hA h.1,ih h.2 hl⟩
     | tup m=>exact absurd rfl (hx.1 m)
     | _=>exact ⟨lD.mono' hA h.1,ih h.2 hl⟩
theorem OwC.monoA {A A' S:Nat→Prop} {l:List T} {cs:Array Value} (hA:∀b,A b→A' b) (h:OwC w A S l cs):OwC w A' S l cs:=by
 obtain ⟨q1,Sub,q2,q3,q4⟩:=h
 exact ⟨q1,Sub,fun j t u hj hu=>(q2 j t u hj hu).mono (fun b hb _=>⟨hA b hb,rfl⟩) (fun b hb _=>⟨hb,rfl⟩),q3,q4⟩
theorem uB.monoA {A A' S:Nat→Prop} {l:List T} {v:Value} (hA:∀b,A b→A' b) (h:uB w A S l v):uB w A' S l v:=by
 obtain ⟨b,cs,e,q1,q2,q3,q4⟩:=h
 exact ⟨b,cs,e,q1,q2,q3,q4.monoA hA⟩
theorem eR.monoA {A A' S:Nat→Prop} {x:AV} {v:Value} (hA:∀b,A b→A' b) (h:eR w A S x v):eR w A' S x v:=by
 cases x with
 | one t =>
   cases t with
   | b row=>exact uB.monoA hA h
   | _=>exact Ow.mono (fun b hb _=>⟨hA b hb,rfl⟩) h (fun b hb _=>⟨hb,rfl⟩)
 | agg l =>
   obtain ⟨cs,rfl,q⟩:=h
   exact ⟨cs,rfl,q.monoA hA⟩
 | _=>exact h.elim
theorem b1q (h:RepSt w g st N pv a) {Av:Nat→Prop} (hA2:∀b,yD w g true b→Av b) {L:Nat→Prop} {m:AV} {v0:Value} (hm:eR w Av (fun b=>(if L b then some 0 else (none:Option Nat))=some 0) m v0):∀{j:Nat} {l l':List AV} {vs:List Value},
 oC st (.tup [m]) j l=some l'→vs.length=l.length→(∀(i:Nat) x u,l[i]?=some x→vs[i]?=some u→bL w g st x u)→vs[j]?=some v0→b1o j l=true →
 l'.length=l.length∧dN w Av (fun b=>if L b then some 0 else none) 0 l' vs
 | _,[],l',vs,he,_,_,_,_=>by simp [oC] at he
 | 0,x :: l,l',[],he,hl,_,_,_=>by simp at hl
 | 0,x :: l,l',v :: vs,he,hl,hr,hv,hn=>by
   simp only [oC] at he
   split at he
   · rename_i l1 h1
     cases he
     obtain ⟨q1,q2⟩:=a1y h (al:=true) (lab:=fun b=>if L b then some 0 else none) (k:=1) h1 (by simpa using hl) (fun j t u hj hu=>hr (j+1) t u (by simpa using hj) (by simpa using hu)) (fun _=>hn)
     have:v=v0:=by simpa using hv
     subst this
     exact ⟨by simp [q1],hm,c1u h1 hA2 q2⟩
   · cases he
 | j+1,x :: l,l',[],he,hl,_,_,_=>by simp at hl
 | j+1,x :: l,l',v :: vs,he,hl,hr,hv,hn=>by
   simp only [oC] at he
   split at he
   · rename_i x1 l1 h1 h2
     cases he
     simp only [b1o,Bool.and_eq_true] at hn
     obtain ⟨q1,q2⟩:=b1q h hA2 hm h2 (by simpa using hl) (fun j t u hj hu=>hr (j+1) t u (by simpa using hj) (by simpa using hu)) (by simpa using hv) hn.2
     exact ⟨by simp [q1],.cons_ro ((c2s h h1 (hr 0 x v rfl rfl) (fun _=>hn.1)).mono' hA2) q2⟩
   · cases he
noncomputable def Gh.mutV (g:Gh) (sz b0 id p:Nat) (L Fr F2:Nat→Prop) (lab':Nat→Option Nat):Gh :=
 { g with lab:=fun b=>if b < sz∧¬L b∧¬Fr b then g.lab b else if b=b0 then some id else if lab' b=none∨F2 b then none else some p }
theorem b6c {n j:Nat} {t:T} (h:(List.replicate n T.h)[j]?=some t):t=.h:=by
 rw [List.getElem?_replicate] at h
 split at h
 · cases h;rfl
 · cases h
theorem qS:∀(l:List T) (m:Nat),(jG m l).length=l.length
 | [],_=>rfl
 | t :: l,m=>by
   cases t with
   | s o k rows=>cases o <;> simp [jG,qS l]
   | _=>simp [jG,qS l]
theorem b4a:∀{l l':List T} {st st':St} {us:Nat→Value} {vs:List Value} {i:Nat} {ks:List Bool},RepSt w g st N pv a→a1c st us i ks l=some (l',st')→vs.length=l.length→(∀(j:Nat) u,vs[j]?=some u→us (i+j)=u) →
 (∀(j:Nat) t u,l[j]?=some t→vs[j]?=some u→dU w g st t u) →
 Kills st st'∧l'.length=l.length∧∃Sub:Nat→Nat→Prop,(∀(j:Nat) t u,l'[j]?=some t→vs[j]?=some u→Ow w g.A (Sub j) u t)∧(∀j j' x,Sub j x→Sub j' x→j=j')∧∀j x,Sub j x→iZ g st st' x
 | [],l',st,st',us,vs,i,ks,h,he,hl,hu,hr=>by
   have he:some ([],st)=some (l',st'):=by cases ks <;> exact he
   cases he
   exact ⟨.refl st,rfl,fun _ _=>False,fun j t u ht=>by simp at ht,fun _ _ _ h=>h.elim,fun _ _ h=>h.elim⟩
 | t :: l,l',st,st',us,[],i,ks,h,he,hl,hu,hr=>by simp at hl
 | t :: l,l',st,st',us,u :: vs,i,ks,h,he,hl,hu,hr=>by
   have hu':∀(j:Nat) v,vs[j]?=some v→us (i+1+j)=v:=fun j v hj=>by
    have:=hu (j+1) v (by simpa using hj)
    rw [←this];congr 1;omega
   have opq:(∃l1,a1c st us (i+1) ks.tail l=some (l1,st')∧l'=.v (us i) :: l1)→Kills st st'∧l'.length=(t :: l).length∧∃Sub:Nat→Nat→Prop,(∀(j:Nat) t' u',l'[j]?=some t'→(u :: vs)[j]?=some u'→Ow w g.A (Sub j) u' t')∧(∀j j' x,Sub j x→Sub j' x→j=j')∧∀j x,Sub j x→iZ g st st' x:=by
    rintro ⟨l1,h1,rfl⟩
    obtain ⟨k,hlen,Sub,hO,hd,hS⟩:=b4a h h1 (by simpa using hl) hu' (fun j t u hj hu=>hr (j+1) t u (by simpa using hj) (by simpa using hu))
    refine ⟨k,by simp [hlen],fun j=>match j with | 0=>fun _=>False | j+1=>Sub j,fun j t' u' hj hv=>?_,fun j j' x hx hx'=>?_,fun j x hx=>?_⟩
    · cases j with
      | zero =>
        simp at hj hv
        subst hj hv
        have e:=hu 0 u rfl
        simp only [Nat.add_zero] at e
        rw [e]
        exact .v _ _ (hr 0 t u rfl rfl).1
      | succ j=>exact hO j t' u' (by simpa using hj) (by simpa using hv)
    · cases j with
      | zero=>exact hx.elim
      | succ j=>cases j' with
        | zero=>exact hx'.elim
        | succ j'=>exact congrArg (·+1) (hd j j' x hx hx')
    · cases j with
      | zero=>exact hx.elim
      | succ j=>exact hS j x hx
   have cell:(∃t1 st1 l1,lP st t=some (t1,st1)∧a1c st1 us (i+1) ks.tail l=some (l1,st')∧l'=t1 :: l1)→Kills st st'∧l'.length=(t :: l).length∧∃Sub:Nat→Nat→Prop,(∀(j:Nat) t' u',l'[j]?=some t'→(u :: vs)[j]?=some u'→Ow w g.A (Sub j) u' t')∧(∀j j' x,Sub j x→Sub j' x→j=j')∧∀j x,Sub j x→iZ g st st' x:=by
    rintro ⟨t1,st1,l1,h1,h2,rfl⟩
    obtain ⟨k1,S0,hO,hS⟩:=a5i h h1 (hr 0 t u rfl rfl)
    obtain ⟨k2,hlen,Sub,hO2,hd,hS2⟩:=b4a (h.kills k1) h2 (by simpa using hl) hu' (fun j t u hj hu=>(hr (j+1) t u (by simpa using hj) (by simpa using hu)).keeps (Keeps.kills k1))
    refine ⟨k1.trans k2,by simp [hlen],fun j=>match j with | 0=>S0 | j+1=>Sub j,fun j t u hj hu=>?_,fun j j' x hx hx'=>?_,fun j x hx=>?_⟩
    · cases j with
      | zero=>simp at hj hu;subst hj hu;exact hO
      | succ j=>exact hO2 j t u (by simpa using hj) (by simpa using hu)
    · cases j with
      | zero =>
        cases j' with
        | zero=>rfl
        | succ j' =>
          obtain ⟨i,q1,_,q2⟩:=hS x hx
          obtain ⟨i',q3,⟨ob,q4⟩,_⟩:=hS2 j' x hx'
          rw [q1] at q3;cases q3
          rw [q2] at q4;cases q4
      | succ j =>
        cases j' with
        | zero =>
          obtain ⟨i,q1,_,q2⟩:=hS x hx'
          obtain ⟨i',q3,⟨ob,q4⟩,_⟩:=hS2 j x hx
          rw [q1] at q3;cases q3
          rw [q2] at q4;cases q4
        | succ j'=>exact congrArg (·+1) (hd j j' x hx hx')
    · cases j with
      | zero=>exact (hS x hx).mono1 k2
      | succ j=>exact (hS2 j x hx).mono2 k1
   have split:∀ks':List Bool,(match lP st t with
    | some (t,st)=>match a1c st us (i+1) ks' l with
      | some (l,st)=>some (t :: l,st)
      | none=>none
    | none=>none)=some (l',st')→∃t1 st1 l1,lP st t=some (t1,st1)∧a1c st1 us (i+1) ks' l=some (l1,st')∧l'=t1 :: l1:=by
    intro ks' he
    cases h1:lP st t with
    | none=>rw [h1] at he;cases he
    | some x =>
      obtain ⟨t1,st1⟩:=x
      rw [h1] at he
      simp only at he
      cases h2:a1c st1 us (i+1) ks' l with
      | none=>rw [h2] at he;cases he
      | some y =>
        obtain ⟨l1,st2⟩:=y
        rw [h2] at he
        cases he
        exact ⟨t1,st1,l1,rfl,h2,rfl⟩
   cases ks with
   | nil=>exact cell (split [] he)
   | cons k ks =>
     cases k with
     | true =>
       refine opq ?_
       have he:(match a1c st us (i+1) ks l with | some (l,st)=>some (.v (us i) :: l,st) | none=>none)=some (l',st'):=he
       cases h1:a1c st us (i+1) ks l with
       | none=>rw [h1] at he;cases he
       | some x =>
         obtain ⟨l1,st1⟩:=x
         rw [h1] at he
         cases he
         exact ⟨l1,h1,rfl⟩
     | false=>exact cell (split ks he)
theorem zU:∀(l' l:List T) (ks:List Bool),(kX ks l l').length=l'.length
 | [],l,ks=>by cases l <;> cases ks <;> rfl
 | t' :: l',[],ks=>by cases ks <;> rfl
 | t' :: l',t :: l,ks=>by
   cases ks with
   | nil=>simp [kX,zU l' l]
   | cons k ks=>cases k <;> simp [kX,zU l' l]
theorem a4w:∀{l' l:List T} {ks:List Bool} {j:Nat} {t:T},l.length=l'.length→(kX ks l l')[j]?=some t→(ks[j]?=some true∧l[j]?=some t)∨(ks[j]?≠some true∧l'[j]?=some t)
 | [],l,ks,j,t,hl,h=>by
   have:l=[]:=by simpa using hl
   subst this
   cases ks <;> simp [kX] at h
 | t' :: l',[],ks,j,t,hl,h=>by simp at hl
 | t' :: l',t0 :: l,ks,j,t,hl,h=>by
   have hl':l.length=l'.length:=by simpa using hl
   cases ks with
   | nil =>
     cases j with
     | zero=>exact .inr ⟨by simp,by simpa [kX] using h⟩
     | succ j =>
       rcases a4w (ks:=[]) hl' (show (kX [] l l')[j]?=some t by simpa [kX] using h) with ⟨q,_⟩ | ⟨_,q⟩
       · simp at q
       · exact .inr ⟨by simp,by simpa using q⟩
   | cons k ks =>
     cases j with
     | zero =>
       cases k with
       | true=>exact .inl ⟨rfl,by simpa [kX] using h⟩
       | false=>exact .inr ⟨by simp,by simpa [kX] using h⟩
     | succ j =>
       have h2:(kX ks l l')[j]?=some t:=by cases k <;> simpa [kX] using h
       rcases a4w hl' h2 with ⟨q1,q2⟩ | ⟨q1,q2⟩
       · exact .inl ⟨by simpa using q1,by simpa using q2⟩
       · exact .inr ⟨by simpa using q1,by simpa using q2⟩
theorem b8n {us:Nat→Value}:∀{l:List T} {ks:List Bool} {i j:Nat} {t:T},b8o us i ks l→ks[j]?=some true→l[j]?=some t→t=.v (us (i+j))
 | [],ks,i,j,t,_,_,h=>by simp at h
 | t0 :: l,[],i,j,t,_,h,_=>by simp at h
 | t0 :: l,k :: ks,i,j,t,h,hk,hj=>by
   cases j with
   | zero =>
     simp at hk hj
     subst hk hj
     exact h.1
   | succ j =>
     have h2:b8o us (i+1) ks l:=by cases k <;> first | exact h.2 | exact h
     have:=b8n h2 (by simpa using hk) (show l[j]?=some t by simpa using hj)
     rw [this];congr 2;omega
theorem d6d (h:RepSt w g st N pv a) (hF:Fr w0 A0 w g) {P:Program} (hG:GOk P w0 (A0.G w0)) {F:Nat→List AV→Out→Prop} (hFn:∀f as out,F f as out→FnOk P f as out) {f:Nat} {args:List AV} {vals:Array Value}
 (hl:vals.toList.length=args.length) (hr:∀(j:Nat) x u,args[j]?=some x→vals.toList[j]?=some u→bL w g st x u) {K:St→AV→Prop} {j id ep:Nat} (hj:args[j]?=some (.one (.p id [] ep 0 0))) (hK:muV F f args j st K id (st.obj id)) :
 (∃fn,P.funcs[f]?=some fn∧(fn.name == "runtime.NumGoroutine")=false∧fn.body.isSome=true) ∧
 Calls P f vals w fun e w'=>∃v st' av g',e=.returned v∧K st' av∧RepSt w' g' st' N pv a∧bL w' g' st' av v∧Fr w0 A0 w' g':=by
 obtain ⟨vj,hvj⟩:∃vj,vals.toList[j]?=some vj:=by
  have:=(List.getElem?_eq_some_iff.1 hj).1
  exact ⟨_,List.getElem?_eq_getElem (by omega)⟩
 have hrep:=hr j _ _ hj hvj
 cases hob:st.obj id with
 | none=>rw [hob] at hK;exact hK.elim
 | some ob =>
   rw [hob] at hK
   simp only [muV] at hK
   obtain ⟨ks,hK⟩:=hK
   obtain ⟨csv,hcsv⟩:∃c:Array Value,c=(match w.heap[g.β id]? with | some (.cells cs _ _)=>cs | _=>#[]):=⟨_,rfl⟩
   have hbx0:ob.box=true:=by
    have hK:=hK (fun _=>.bool true) (fun _=>rfl)
    unfold c8r at hK
    split at hK
    rotate_left
    · exact hK.elim
    obtain ⟨ts',hfx,hK⟩:=hK
    unfold c8q at hK
    split at hK
    rotate_left
    · exact hK.elim
    obtain ⟨as',row',row2,res,al,hFa,hFz,hfx2,hK⟩:=hK
    have:=hK.get.1
    simp only [Bool.and_eq_true] at this
    exact this.1
   have hRO0:=h.ob id ob hob
   unfold fY at hRO0
   rw [hbx0] at hRO0
   obtain ⟨cs0,e0,row0,_,_,z3,_,_,_,z7⟩:=hRO0
   have hcs0:cs0=csv:=by rw [hcsv,z3]
   obtain ⟨us,hus⟩:∃us:Nat→Value,us=fun i=>if i < csv.size then csv.getD i undef else .bool true:=⟨_,rfl⟩
   have hus1:∀(j:Nat) u,csv.toList[j]?=some u→us j=u:=by
    intro j u hj
    have hlt:j < csv.size:=by have:=(List.getElem?_eq_some_iff.1 hj).1;simpa using this
    rw [hus]
    simp only [hlt,if_true]
    have:csv[j]?=some u:=by simpa using hj
    simp [Array.getD,hlt]
    rw [Array.getElem?_eq_getElem hlt] at this
    exact Option.some.inj this
   have hK:=hK us (fun i=>by
    by_cases hlt:i < csv.size
    · have h1:=hus1 i csv[i] (by simp [hlt])
      rw [h1]
      rw [hcs0] at z7
      have hrl:i < row0.length:=by have:=z7.1;omega
      exact (z7.2 i row0[i] csv[i] (by simp [hrl]) (by simp [hlt])).1
    · rw [hus];simp only [hlt,if_false];rfl)
   unfold c8r at hK
   split at hK
   rotate_left
   · exact hK.elim
   rename_i ts st1 hext
   obtain ⟨ts',hfx,hK⟩:=hK
   unfold c8q at hK
   split at hK
   rotate_left
   · exact hK.elim
   rename_i as has
   obtain ⟨as',row',row2,res,al,hFa,hFz,hfx2,hK⟩:=hK
   obtain ⟨hb,hopq,hK⟩:=hK.get
   simp only [Bool.and_eq_true] at hb
   obtain ⟨hbox,hnr,hlen⟩:=hb
   have hlen:=Nat.eq_of_beq_eq_true hlen
   unfold d6e at hK
   obtain ⟨α,y0,cv,rf,e1,e2,hK⟩:=hK
   have hK:=hK y0 rfl _ rfl
   rw [yU,←e1,←e2] at hK
   obtain ⟨hid,hr2⟩:=(show dM w g st (.p id [] ep 0 0) vj from hrep.2)
   obtain ⟨hv,hlb,_⟩:=hr2 ob hob
   have hRO:=h.ob id ob hob
   unfold fY at hRO
   rw [hbox] at hRO
   obtain ⟨cs,e,row,q1,q2,q3,q4,q5,q6,q7⟩:=hRO
   rw [q1] at hext hlen hK
   have hrow:dK [row] 0=row:=rfl
   rw [hrow] at hext hlen hK
   have hcs:csv=cs:=by rw [hcsv,q3]
   rw [hcs] at hus1
   have hv:vj=.pointer (some ⟨g.β id,0,none⟩):=by rw [hv,q5];simp
   subst hv
   have hβ:=(h.lab _ _ hlb).1
   have k0:=Kills.kill st id
   have h0:=h.kills k0
   obtain ⟨k1,hl0,Sub0,hO0,hd0,hS0⟩:=b4a (vs:=cs.toList) h0 hext (by simpa using q7.1) (fun j u hj=>by rw [Nat.zero_add];exact hus1 j u hj) (fun i t u hi hu=>(q7.2 i t u hi (by simpa using hu)).keeps (Keeps.kills k0))
   have kk:=k0.trans k1
   obtain ⟨hl1a,Sub,hSub,hO⟩:=hfx.ow (us:=cs.toList) (by rw [hl0];simpa using q7.1) hO0
   have hl1:ts'.length=row.length:=by rw [hl1a,hl0]
   have hd:∀j j' x,Sub j x→Sub j' x→j=j':=fun j j' x hx hx'=>hd0 j j' x (hSub j x hx) (hSub j' x hx')
   have hS:=fun j x (hx:Sub j x)=>hS0 j x (hSub j x hx)
   obtain ⟨FF,hFF⟩:∃FF:Nat→Prop,∀b,FF b↔∃i,Sub0 i b∧¬Sub i b:=⟨_,fun _=>Iff.rfl⟩
   have h1:=h0.kills k1
   have hkid:(st.kill id).obj id=none:=by simp [St.kill,St.obj,nF hob]
   have h1id:st1.obj id=none:=by
    cases ho:st1.obj id with
    | none=>rfl
    | some ob'=>have:=k1.obj id ob' ho;rw [hkid] at this;cases this
   obtain ⟨L,hL⟩:∃L:Nat→Prop,∀b,L b↔(b=g.β id∨∃j,Sub j b):=⟨_,fun _=>Iff.rfl⟩
   have hLi:∀b,L b→∃i,g.lab b=some i∧st1.obj i=none:=by
    intro b hb
    rcases (hL b).1 hb with rfl | ⟨j,hj⟩
    · exact ⟨id,hlb,h1id⟩
    · obtain ⟨i,p1,_,p3⟩:=hS j b hj
      exact ⟨i,p1,p3⟩
   have hne0:∀j b,Sub0 j b→b≠g.β id:=by
    intro j b hb he
    obtain ⟨i,p1,⟨ob',p2⟩,p3⟩:=hS0 j b hb
    rw [he,hlb] at p1;cases p1
    rw [hkid] at p2;cases p2
   have hne:∀j b,Sub j b→b≠g.β id:=fun j b hb=>hne0 j b (hSub j b hb)
   have hFi:∀b,FF b→∃i,g.lab b=some i∧st1.obj i=none:=by
    intro b hb
    obtain ⟨j,hj,_⟩:=(hFF b).1 hb
    obtain ⟨i,p1,_,p3⟩:=hS0 j b hj
    exact ⟨i,p1,p3⟩
   have hFL:∀b,FF b→¬L b:=by
    intro b hb hh
    obtain ⟨j,hj,hn⟩:=(hFF b).1 hb
    rcases (hL b).1 hh with rfl | ⟨j',hj'⟩
    · exact hne0 j _ hj rfl
    · have:=hd0 _ _ _ hj (hSub _ _ hj')
      subst this
      exact hn hj'
   have hFn0:∀b,FF b→b≠g.β id:=fun b hb=>by
    obtain ⟨j,hj,_⟩:=(hFF b).1 hb
    exact hne0 j b hj
   have hLs:∀b,L b→b < w.heap.size:=fun b hb=>by
    obtain ⟨i,h2,_⟩:=hLi b hb
    exact (h.lab b i h2).1
   have aN:∀b,g.A b→¬L b:=fun b hb hh=>by
    obtain ⟨i,h2,_⟩:=hLi b hh
    have h1:=hb.1;rw [h2] at h1;cases h1
   have notL:∀i ob',st1.obj i=some ob'→∀b,g.lab b=some i→¬L b:=fun i ob' ho b hb hh=>by
    obtain ⟨i',p1,p2⟩:=hLi b hh
    rw [hb] at p1;cases p1
    rw [ho] at p2;cases p2
   have notF:∀i ob',st1.obj i=some ob'→∀b,g.lab b=some i→¬FF b:=fun i ob' ho b hb hh=>by
    obtain ⟨i',p1,p2⟩:=hFi b hh
    rw [hb] at p1;cases p1
    rw [ho] at p2;cases p2
   have aF:∀b,g.A b→¬FF b:=fun b hb hh=>by
    obtain ⟨i,h2,_⟩:=hFi b hh
    have h1:=hb.1;rw [h2] at h1;cases h1
   have hFs:∀b,FF b→b < w.heap.size:=fun b hb=>by
    obtain ⟨i,h2,_⟩:=hFi b hb
    exact (h.lab b i h2).1
   obtain ⟨Av,hAv⟩:∃Av:Nat→Prop,∀b,Av b↔(yD w g true b∨FF b):=⟨_,fun _=>Iff.rfl⟩
   have hm:eR w Av (fun b=>(if L b then some 0 else (none:Option Nat))=some 0) (.one (.b ts')) (.pointer (some ⟨g.β id,0,none⟩)):=by
    refine ⟨g.β id,cs,e,rfl,q3,if_pos ((hL _).2 (.inl rfl)),by rw [hl1];exact q7.1,Sub,fun j t u hj hu=>?_,hd,fun j b hb=>?_⟩
    · exact (hO j t u hj (by simpa using hu)).mono (fun b hb hlt=>⟨(hAv b).2 (hb.imp (fun hb=>⟨hlt,fun _=>hb⟩) (hFF b).2),rfl⟩) (fun b hb _=>⟨hb,rfl⟩)
    · exact ⟨if_pos ((hL b).2 (.inr ⟨j,hb⟩)),hne j b hb⟩
   obtain ⟨_,r2⟩:=b1q (L:=L) h1 (fun b hb=>(hAv b).2 (.inl hb)) hm has hl (fun j x u hj hu=>(hr j x u hj hu).keeps (Keeps.kills kk)) hvj hnr
   have hCn:=hFn f as' _ hFa
   let lab:Nat→Option Nat:=fun b=>if L b then some 0 else none
   have labL:∀b,L b→lab b=some 0:=fun b hb=>if_pos hb
   have labN:∀b,¬L b→lab b=none:=fun b hb=>if_neg hb
   have hAl:∀b,Av b→b < w.heap.size∧lab b=none:=fun b hb=>by
    rcases (hAv b).1 hb with hb | hb
    · exact ⟨hb.1,labN b (aN b (hb.2 rfl))⟩
    · exact ⟨hFs b hb,labN b (hFL b hb)⟩
   refine ⟨hCn.fn,(hCn.run w Av lab vals (hFz.args r2) hAl (fun b i hb=>?_) ((hF.gok hG).mono fun b hb hlt=>⟨(hAv b).2 (.inl ⟨hlt,fun _=>hb⟩),hlt,rfl⟩)).mono ?_⟩
   · by_cases hh:L b
     · exact hLs b hh
     · rw [labN b hh] at hb;cases hb
   rintro e' w' ⟨v,lab',rfl,hAft,hRes,hOut⟩
   obtain ⟨n,hn⟩:∃n,n=as'.length:=⟨_,rfl⟩
   rw [←hn] at hRes
   have hn0:n≠0:=by
    have:=b5x has
    have:=(List.getElem?_eq_some_iff.1 this).1
    rw [hn,hFz.len];omega
   have hOw:=d3h has hFz hvj hOut
   obtain ⟨b,cs',e2,hp,hh,hlb',hsz0',Sub1,hO1,hd1,hS1⟩:=(show uB w' _ _ row' _ from hOw)
   injection hp with hp;injection hp with hp;injection hp with hp
   subst hp
   obtain ⟨hl2a,Sub',hSub',hO'⟩:=hfx2.ow (us:=cs'.toList) (by simpa using hsz0') (fun j t u hj hu=>hO1 j t u hj (by simpa using hu))
   have hsz':cs'.size=row2.length:=by rw [hl2a];exact hsz0'
   have hd':∀j j' x,Sub' j x→Sub' j' x→j=j':=fun j j' x hx hx'=>hd1 j j' x (hSub' j x hx) (hSub' j' x hx')
   have hS':=fun j x (hx:Sub' j x)=>hS1 j x (hSub' j x hx)
   obtain ⟨F2,hF2⟩:∃F2:Nat→Prop,∀b,F2 b↔∃i,Sub1 i b∧¬Sub' i b:=⟨_,fun _=>Iff.rfl⟩
   have hF20:∀b,F2 b→lab' b=some 0∧b≠g.β id:=fun b hb=>by
    obtain ⟨j,hj,_⟩:=(hF2 b).1 hb
    exact hS1 j b hj
   let p:=st.ob.length
   let g1:=g.mutV w.heap.size (g.β id) id p L FF F2 lab'
   have old:∀b,b < w.heap.size→¬L b→¬FF b→g1.lab b=g.lab b:=fun b hb hb2 hb3=>if_pos ⟨hb,hb2,hb3⟩
   have notOld:∀b,lab' b≠none→¬(b < w.heap.size∧¬L b):=by
    rintro b hb ⟨h1,h2⟩
    exact hb (hAft.blk b h1 (labN b h2)).2
   have g1b:g1.lab (g.β id)=some id:=by
    show (if g.β id < w.heap.size∧¬L (g.β id)∧¬FF (g.β id) then g.lab (g.β id) else if g.β id=g.β id then some id else if lab' (g.β id)=none∨F2 (g.β id) then none else some p)=some id
    rw [if_neg (fun h=>h.2.1 ((hL _).2 (.inl rfl))),if_pos rfl]
   have new:∀b,¬(b < w.heap.size∧¬L b∧¬FF b)→b≠g.β id→g1.lab b=if lab' b=none∨F2 b then none else some p:=fun b hb h2=>by
    show (if b < w.heap.size∧¬L b∧¬FF b then g.lab b else if b=g.β id then some id else if lab' b=none∨F2 b then none else some p)=_
    rw [if_neg hb,if_neg h2]
   have same:∀b,b < w.heap.size→¬L b→w'.heap[b]?=w.heap[b]?:=fun b hb hb2=>(hAft.blk b hb (labN b hb2)).1
   have hx:∀b,g.X b→b < w.heap.size:=fun b hb=>by
    have:=hF.x.2 b (by rw [←hF.x.1];exact hb)
    have:=hF.size
    omega
   have gA:∀b,g.A b→b < w.heap.size→g1.A b:=fun b hb hlt=>⟨by rw [old b hlt (aN b hb) (aF b hb)];exact hb.1,hb.2⟩
   have FA:∀b,FF b→g1.A b:=fun b hb=>by
    obtain ⟨i,h2,_⟩:=hFi b hb
    refine ⟨?_,hF.nx h2⟩
    rw [new b (fun h=>h.2.2 hb) (hFn0 b hb),if_pos (.inl (hAft.blk b (hFs b hb) (labN b (hFL b hb))).2)]
   have nX:∀b,(w.heap.size≤b∨L b)→¬g.X b:=fun b hb hX=>by
    rcases hb with hb | hb
    · have:=hx b hX;omega
    · obtain ⟨i,h2,_⟩:=hLi b hb
      exact hF.nx h2 hX
   have newA:∀b,vV w.heap.size lab lab' b→g1.A b:=fun b hb=>by
    obtain ⟨hge,hnone⟩:=hb
    have h9:w.heap.size≤b∨L b:=hge.imp (fun h=>h) (fun h=>Classical.byContradiction fun hh=>h (labN b hh))
    have hbn:b≠g.β id:=fun he=>by rw [he,hlb'] at hnone;cases hnone
    refine ⟨?_,nX b h9⟩
    rw [new b (by rintro ⟨h1,h2,_⟩;exact h9.elim (fun h9=>by omega) (fun h9=>h2 h9)) hbn,if_pos (.inl hnone)]
   have F2A:∀b,F2 b→g1.A b:=fun b hb=>by
    obtain ⟨h3,h4⟩:=hF20 b hb
    have h5:=notOld b (by rw [h3];simp)
    have h9:w.heap.size≤b∨L b:=by
     by_cases hlt:b < w.heap.size
     · exact .inr (Classical.byContradiction fun hh=>h5 ⟨hlt,hh⟩)
     · exact .inl (by omega)
    refine ⟨?_,nX b h9⟩
    rw [new b (fun h=>h5 ⟨h.1,h.2.1⟩) h4,if_pos (.inr hb)]
   obtain ⟨obH,hobH⟩:∃x:Ob,x={ ob with rows:=[List.replicate row.length .h],ep:=ob.ep+1 }:=⟨_,rfl⟩
   let sA:St:={ st1 with ob:=st1.ob.set id (some obH)++[none] }
   have hl1':st1.ob.length=st.ob.length:=kk.len
   have sAlen:sA.ob.length=st.ob.length+1:=by simp [sA,hl1']
   have sAid:sA.obj id=some obH:=by
    simp [sA,St.obj,List.getElem?_append,hl1',hid]
   have sAo:∀i,i≠id→sA.obj i=st1.obj i:=by
    intro i hi
    simp only [sA,St.obj,List.getElem?_append,List.length_set,hl1']
    by_cases hlt:i < st.ob.length
    · rw [if_pos hlt,List.getElem?_set_ne (Ne.symm hi)]
    · rw [if_neg hlt,List.getElem?_eq_none (l:=st1.ob) (by omega)]
      cases h9:i - st.ob.length with
      | zero=>rfl
      | succ m=>rfl
   have hKp:Keeps w g st w' g1 sA:=by
    refine ⟨fun b hb hlt=>⟨gA b hb hlt,same b hlt (aN b hb)⟩,by omega,fun i ob' hi ho=>?_,fun i ob' hi ho ob2 h2=>?_,fun i ob' hi ho=>⟨rfl,rfl,rfl,fun hlb2=>?_⟩⟩
    · by_cases he:i=id
      · subst he
        rw [sAid] at ho;cases ho
        exact ⟨ob,hob,by rw [hobH],by rw [hobH],by rw [hobH,q1];rfl⟩
      · rw [sAo i he] at ho
        exact ⟨ob',kk.obj i ob' ho,rfl,rfl,rfl⟩
    · by_cases he:i=id
      · subst he
        rw [sAid] at ho;cases ho
        rw [hob] at h2;cases h2
        subst hobH
        exact ⟨Nat.le_succ _,fun e=>absurd e (by simp)⟩
      · rw [sAo i he] at ho
        have h3:=kk.obj i ob' ho
        rw [h3] at h2;cases h2
        exact ⟨Nat.le_refl _,fun _ _ hl2=>same _ (h.lab _ _ hl2).1 (notL i _ ho _ hl2)⟩
    · by_cases he:i=id
      · subst he;exact g1b
      · rw [sAo i he] at ho
        rw [old _ (h.lab _ _ hlb2).1 (notL i _ ho _ hlb2) (notF i _ ho _ hlb2)];exact hlb2
   have hszb:cs'.size=g.sz id:=by
    have:=hAft.bs _ hβ
    unfold bsz at this
    rw [hh,q3] at this
    rw [←q6]
    simpa using this
   have hRp:RepSt w' g1 sA N pv a:=by
    refine ⟨h.size,h.defers,fun i=>?_,fun i ob' ho=>?_,fun b i hb=>?_,?_,fun i t u hi hu=>?_⟩
    · show bL w' g1 sA (iD st1.tm i) _
      rw [kk.tm];exact (h.tm i).keeps hKp
    · by_cases he:i=id
      · subst he
        rw [sAid] at ho;cases ho
        unfold fY
        have hbx:obH.box=true:=by rw [hobH];exact hbox
        simp only [hbx]
        refine ⟨cs',e2,List.replicate row.length .h,by rw [hobH],by rw [hobH,q2];simp,hh,g1b,q5,hszb,by rw [hsz',hlen];simp,fun j t u hj hu=>?_⟩
        have:=b6c hj
        subst this
        refine ⟨?_,trivial⟩
        have hjl:j < row'.length:=by rw [←hsz0'];exact (Array.getElem?_eq_some_iff.1 hu).1
        exact (hO1 j row'[j] u (by simp [hjl]) hu).one
      · rw [sAo i he] at ho
        refine (h.ob i ob' (kk.obj i ob' ho)).keeps hKp ⟨rfl,rfl,rfl⟩ (fun x hx hlt=>?_) (fun hne2 hh2=>?_)
        · exact ⟨by rw [old x hlt (notL i _ ho x hx) (notF i _ ho x hx)];exact hx,same x hlt (notL i _ ho x hx)⟩
        · have hh2:g1.lab (g.β i)=some i:=hh2
          by_cases hb:g.β i < w.heap.size∧¬L (g.β i)∧¬FF (g.β i)
          · rw [old _ hb.1 hb.2.1 hb.2.2] at hh2;exact hne2 hh2
          · by_cases h3:g.β i=g.β id
            · rw [h3,g1b] at hh2;cases hh2;exact he rfl
            · rw [new _ hb h3] at hh2
              split at hh2
              · cases hh2
              · cases hh2
                have:=nF ho
                simp only [p] at this
                omega
    · by_cases hlt:b < w.heap.size∧¬L b∧¬FF b
      · rw [old b hlt.1 hlt.2.1 hlt.2.2] at hb
        have:=h.lab b i hb
        have:=hAft.size
        exact ⟨by omega,by omega⟩
      · by_cases h3:b=g.β id
        · subst h3
          rw [g1b] at hb;cases hb
          have:=hAft.size
          exact ⟨by omega,by omega⟩
        · rw [new _ hlt h3] at hb
          split at hb
          · cases hb
          · rename_i hnn
            cases hb
            cases hl9:lab' b with
            | none=>exact absurd (.inl hl9) hnn
            | some x=>exact ⟨hAft.lt b x hl9,by simp only [p];omega⟩
    · show pv.length=st1.pr.length
      rw [kk.pr];exact h.pr.1
    · have hi:st1.pr[i]?=some t:=hi
      rw [kk.pr] at hi
      exact (h.pr.2 i t u hi hu).keeps hKp
   have sAp:sA.obj p=none:=by
    simp only [sA,St.obj,p,List.getElem?_append,List.length_set,hl1']
    simp
   have hpool:∀S:Nat→Prop,(∀b,S b→lab' b≠none∧b≠g.β id∧¬F2 b)→tH g1 sA S:=by
    intro S hS b hb
    obtain ⟨h3,h4,h5⟩:=hS b hb
    exact ⟨p,by rw [new b (fun h=>notOld b h3 ⟨h.1,h.2.1⟩) h4,if_neg (fun h=>h.elim h3 h5)],sAp⟩
   have hA0:∀b,Av b→g1.A b:=by
    intro b hb
    rcases (hAv b).1 hb with hb | hb
    · exact gA b (hb.2 rfl) hb.1
    · exact FA b hb
   have hA1:∀b,((Av b∨vV w.heap.size lab lab' b)∨∃i,Sub1 i b∧¬Sub' i b)→g1.A b:=by
    rintro b ((hb | hb) | hb)
    · exact hA0 b hb
    · exact newA b hb
    · exact F2A b ((hF2 b).2 hb)
   have nF2:∀j b,Sub' j b→¬F2 b:=fun j b hb hh=>by
    obtain ⟨i,h3,h4⟩:=(hF2 b).1 hh
    have:=hd1 _ _ _ h3 (hSub' j b hb)
    subst this
    exact h4 hb
   obtain ⟨g2,hIn,hTl,hT⟩:=wR (A:=fun b=>(Av b∨vV w.heap.size lab lab' b)∨∃i,Sub1 i b∧¬Sub' i b) (l:=row2) (cs:=cs'.toList) (Sub:=Sub') hRp hA1
    (fun j=>hpool _ (fun b hb=>⟨by rw [(hS' j b hb).1];simp,(hS' j b hb).2,nF2 j b hb⟩)) (fun j t u hj hu=>hO' j t u hj (by simpa using hu)) hd' (by simpa using hsz') (yR row2 sA)
   let sB:St:={ sA with ob:=sA.ob++wO row2 }
   have sBid:sB.obj id=some obH:=by rw [←sAid];exact hIn.obj id (by omega)
   obtain ⟨e5,e6,e7,e8⟩:=hIn.keeps.gh id obH (by omega) sBid
   have g2b:g2.lab (g2.β id)=some id:=by rw [e5];exact e8 g1b
   have hInr:RepSt w' g2 sB N pv a:=hIn.rep
   have hC:=hInr.turn (w':=w') (ob':={ obH with rows:=[kX ks row (jG sA.ob.length row2)] }) sBid rfl rfl (by rw [hobH];rfl) ⟨Nat.le_refl _,fun _=>by rw [hobH];exact hbox⟩ g2b (fun _ _=>rfl) rfl (fun hkC=>by
    unfold fY
    have hbx:obH.box=true:=by rw [hobH];exact hbox
    simp only [hbx] at hkC ⊢
    refine ⟨cs',e2,kX ks row (jG sA.ob.length row2),rfl,by rw [zU,qS,hlen,←q2,hobH],by rw [e5];exact hh,g2b,by rw [e6];exact q5,by rw [e7];exact hszb,by rw [zU,qS];exact hsz',fun j t u hj hu=>?_⟩
    rcases a4w (by rw [qS,hlen]) hj with ⟨m1,m2⟩ | ⟨m1,m2⟩
    · have hjl:j < row2.length:=by rw [←hsz'];exact (Array.getElem?_eq_some_iff.1 hu).1
      have hv2:=b8n hopq m1 (show row2[j]?=some row2[j] by simp [hjl])
      rw [Nat.zero_add] at hv2
      have ho:=hO' j row2[j] u (by simp [hjl]) (by simpa using hu)
      rw [hv2] at ho
      have hjc:j < cs.size:=by rw [q7.1,←hlen];exact hjl
      have e9:=hus1 j cs[j] (by simp [hjc])
      have hu2:u=cs[j]:=by rw [←e9];cases ho;rfl
      exact ((((q7.2 j t cs[j] m2 (by simp [hjc])).keeps hKp).keeps hIn.keeps).keeps hkC) |> (hu2 ▸ ·)
    · exact (hT j t u m2 (by simpa using hu)).keeps hkC)
   let sC:St:={ sB with ob:=sB.ob.set id (some { obH with rows:=[kX ks row (jG sA.ob.length row2)] }) }
   have hsC:sC={ st1 with ob:=(st1.ob.set id (some { ob with rows:=[kX ks row (jG (st1.ob.length+1) row2)],ep:=ob.ep+1 }))++none :: wO row2 }:=by
    have e9:sA.ob.length=st1.ob.length+1:=by omega
    simp only [sC,sB,e9]
    simp only [sA,hobH]
    congr 1
    rw [List.set_append_left _ _ (by simp [hl1'];omega),List.set_append_left _ _ (by simp [hl1',hid])]
    simp
   have poolC:tH g2 sC (fun b=>lab' b=some n):=by
    intro b hb
    have hb0:b≠g.β id:=fun he=>by
     rw [he,hlb'] at hb;cases hb;exact hn0 rfl
    have hbn:lab' b≠none:=by rw [hb];simp
    have h5:g1.lab b=some p:=by
     rw [new b (fun h=>notOld b hbn ⟨h.1,h.2.1⟩) hb0,if_neg]
     rintro (h6 | h6)
     · exact hbn h6
     · have h7:=(hF20 b h6).1
       rw [hb] at h7;cases h7;exact hn0 rfl
    refine ⟨p,?_,?_⟩
    · rw [hIn.out b (fun ⟨j,hj⟩=>by
       have h6:lab' b=some 0:=(hS' j b hj).1
       rw [hb] at h6;cases h6;exact hn0 rfl)]
      exact h5
    · have:sC.obj p=sB.obj p:=qX (by simp only [p];omega)
      rw [this]
      have:sB.obj p=sA.obj p:=hIn.obj p (by simp only [p];omega)
      rw [this];exact sAp
   rw [←hsC] at hK
   obtain ⟨st2,av2,g3,hK2,hIn2,hAV⟩:=b9n hC (A:=Out.A ⟨res,[.one (.b row')],[],al⟩ w.heap.size Av lab lab') (S:=fun b=>lab' b=some n) (fun b hb=>by
    rcases hb with ⟨_,hb⟩ | hb
    · exact hIn.A (hA0 b hb)
    · exact hIn.A (newA b hb)) poolC hRes hK
   refine ⟨v,st2,av2,g3,rfl,hK2,hIn2.rep,hAV,?_⟩
   refine ⟨hAft.os.trans hF.os,hAft.tape.trans hF.tape,hAft.output.trans hF.output,Nat.le_trans hF.size hAft.size,⟨hIn2.X.trans (hIn.X.trans hF.x.1),hF.x.2⟩,fun b hb hA=>?_,fun b hb=>(hAft.bs b (Nat.lt_of_lt_of_le hb hF.size)).trans (hF.bs b hb)⟩
   obtain ⟨p1,p2⟩:=hF.blk b hb hA
   have hlt:b < w.heap.size:=Nat.lt_of_lt_of_le hb hF.size
   have hnL:¬L b:=fun hh=>by
    obtain ⟨i,h3,_⟩:=hLi b hh
    rw [p2] at h3;cases h3
   have hnF:¬FF b:=fun hh=>by
    obtain ⟨i,h3,_⟩:=hFi b hh
    rw [p2] at h3;cases h3
   exact ⟨(same b hlt hnL).trans p1,hIn2.none b (hIn.none b (by rw [old b hlt hnL hnF];exact p2))⟩
theorem c9l (h:RepSt w g st N pv a) (hF:Fr w0 A0 w g) {P:Program} (hG:GOk P w0 (A0.G w0)) {F:Nat→List AV→Out→Prop} (hFn:∀f as out,F f as out→FnOk P f as out) {f:Nat} {args:List AV} {vals:Array Value}
 (hl:vals.toList.length=args.length) (hr:∀(j:Nat) x u,args[j]?=some x→vals.toList[j]?=some u→bL w g st x u) {K:St→AV→Prop} (hK:c4y F f args st K) :
 (∃fn,P.funcs[f]?=some fn∧(fn.name == "runtime.NumGoroutine")=false∧fn.body.isSome=true) ∧
 Calls P f vals w fun e w'=>∃v st' av g',e=.returned v∧K st' av∧RepSt w' g' st' N pv a∧bL w' g' st' av v∧Fr w0 A0 w' g':=by
 obtain ⟨j,hK⟩:=hK
 unfold muT at hK
 split at hK
 · rename_i id ep hj
   exact d6d h hF hG hFn hl hr hj hK
 · exact hK.elim
end Go.Ev
