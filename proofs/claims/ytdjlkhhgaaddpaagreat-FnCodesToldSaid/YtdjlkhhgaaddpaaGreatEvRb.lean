/- A contract out of a walk, of a function that turns a variable that it was handed by its address. -/
import Derived.Test.YtdjlkhhgaaddpaaGreatEvRg
set_option linter.unusedSectionVars false
set_option linter.unusedVariables false
set_option linter.unusedSimpArgs false
namespace Go.Ev
open Go
open Classical
variable {E:Env} {w w' w0:World} {A0:Fix} {g g':Gh} {st st':St} {N:Nat} {pv:List Value} {a:Act}
def b1p:List AV→Option (List T)
 | []=>none
 | .tup [.one (.b row)] :: l=>bif l.all AV.arg then some row else none
 | a :: l=>bif a.arg then b1p l else none
def St.entryV (row:List T) (args:List AV):St:=⟨tY 0 (wG (.one (.p 0 [] 0 0 0)) args),some ⟨row.length,true,[jG 2 row],0⟩ :: none :: wO row,[.p 0 [] 0 0 0]⟩
def c4u (out:Out):Option (List T×St)→Prop
 | some (ts',_)=>out.outs=[.one (.b ts')]
 | none=>False
def d7q (out:Out) (st:St) (id:Nat):Option Ob→Prop
 | some ob=>Tr ob.box (c4u out (lB (st.kill id) (dK ob.rows 0)))
 | none=>False
def d0w (out:Out) (st:St):List T→Prop
 | [.p id [] _ 0 0]=>d7q out st id (st.obj id)
 | _=>False
def c4v (out:Out):Option (AV×St)→Prop
 | some (a,st2)=>(((out.al=false→out.res.Own)∧a=out.res)∨(out.al=true∧FzQ a out.res))∧d0w out st2 st2.pr
 | none=>False
def b1y (out:Out) (st:St) (a:AV):Prop:=c4v out (yF st a)
def d8c (E:Env) (rs:List ResultVar) (out:Out):Exit→St→Prop
 | .normal,st=>a0s E st (b1y out st) rs
 | .ret,st=>a0s E st (b1y out st) rs
 | _,_=>False
theorem c2d {out:Out} {x:AV} (h:b1y out st x):b7t x:=by
 cases x with
 | tup l =>
   have h:c4v out ((uS st l).map fun (l,st)=>(.tup l,st)):=h
   cases he:uS st l with
   | none=>rw [he] at h;exact h.elim
   | some y=>exact tE he
 | _=>exact trivial
theorem c3h {A:Nat→Prop} {lab:Nat→Option Nat} {row:List T}:∀{l:List AV} {vs:List Value},dN w A lab 0 l vs→b1p l=some row→vs.length=l.length∧∃j v0,l[j]?=some (.tup [.one (.b row)])∧vs[j]?=some v0∧uB w A (fun b=>lab b=some 0) row v0 ∧
 (∀(i:Nat) x u,l[i]?=some x→vs[i]?=some u→i=j∨(lD w A x u∧x.arg=true)) ∧
 ∀{w':World} {A':Nat→Prop} {lab':Nat→Option Nat} {o:List T} {kps:List (List Nat)},uB w' A' (fun b=>lab' b=some 0) o v0→fQ w w' A' lab' 0 l vs [.one (.b o)] kps
 | [],vs,h,hm=>by simp [b1p] at hm
 | x :: l,[],h,hm=>by
   exfalso
   cases x with
   | one t=>cases t <;> exact h.elim
   | tup m=>rcases m with _ | ⟨x,_ | ⟨y,m⟩⟩ <;> exact h.elim
   | _=>exact h.elim
 | x :: l,v :: vs,h,hm=>by
   unfold b1p at hm
   split at hm
   · simp at *
   · rename_i row' l0 heq
     injection heq with e1 e2
     subst e1
     subst e2
     cases hc:l.all AV.arg with
     | false=>rw [hc] at hm;cases hm
     | true =>
       rw [hc] at hm
       simp only [cond_true,Option.some.injEq] at hm
       subst hm
       obtain ⟨q1,q2⟩:=dN.ro h.2 hc
       refine ⟨by simp [q1],0,v,rfl,rfl,h.1,fun i x u hi hu=>?_,fun {w' A' lab' o kps} ho=>⟨ho,zS hc q1⟩⟩
       · cases i with
         | zero=>exact .inl rfl
         | succ i=>exact .inr ⟨q2 i x u (by simpa using hi) (by simpa using hu),(List.all_eq_true.1 hc) x (List.mem_of_getElem? (by simpa using hi))⟩
   · rename_i x0 l0 hne heq
     injection heq with e1 e2
     subst e1
     subst e2
     cases hc:x.arg with
     | false=>rw [hc] at hm;cases hm
     | true =>
       rw [hc] at hm
       simp only [cond_true] at hm
       have h':lD w A x v∧dN w A lab 0 l vs:=by
        cases x with
        | one t =>
          cases t with
          | b row=>simp [AV.arg,T.arg,T.arg0] at hc
          | _=>exact h
        | tup m=>simp [AV.arg] at hc
        | _=>exact h
       obtain ⟨q1,j,v0,q2,q3,q4,q5,q6⟩:=c3h h'.2 hm
       refine ⟨by simp [q1],j+1,v0,by simpa using q2,by simpa using q3,q4,fun i y u hi hu=>?_,fun {w' A' lab' o kps} ho=>?_⟩
       · cases i with
         | zero=>simp at hi hu;subst hi hu;exact .inr ⟨h'.1,hc⟩
         | succ i=>exact (q5 i y u (by simpa using hi) (by simpa using hu)).imp (fun h=>by omega) id
       · have:=q6 (kps:=kps) ho
         cases x with
         | one t =>
           cases t with
           | b row=>simp [AV.arg,T.arg,T.arg0] at hc
           | _=>exact this
         | tup m=>simp [AV.arg] at hc
         | _=>exact this
theorem FnOk.introV (hE:EnvOk E) (hm:E.P.follows .mixedOrders=true) {f:Nat} {fn:Func} {c:Code} {args:List AV} {out:Out} {row:List T} (hf:E.P.funcs[f]?=some fn) (hb:fn.body=some c)
 (hc:b3y fn c args.length=true) (hargs:b1p args=some row) (h:wpA E (FnOk E.P) c (d8c E fn.results.toList out) (St.entryV row args)):FnOk E.P f args out:=by
 simp only [b3y,Bool.and_eq_true,Bool.not_eq_true',Nat.ble_eq] at hc
 refine ⟨⟨fn,hf,hc.1.1,by rw [hb];rfl⟩,fun w A lab vals hA hAl hlab hG=>?_⟩
 obtain ⟨hlen,j,v0,hj,hv0,hO,hro,hback⟩:=c3h hA hargs
 obtain ⟨b0,cs,e0,rfl,hh0,hS0,hsz0,Sub0,hO0,hd0,hs0⟩:=hO
 let g0:Gh:=⟨fun _=>b0,fun _=>0,fun _=>cs.size,fun b=>if lab b=some 0 then (if b=b0 then some 0 else some 1) else none,fun b=>b < w.heap.size∧¬A b∧lab b=none⟩
 have g0n:∀b,lab b≠some 0→g0.lab b=none:=fun b hb=>if_neg hb
 have g0b:g0.lab b0=some 0:=by
  show (if lab b0=some 0 then (if b0=b0 then some 0 else some 1) else none)=some 0
  rw [if_pos hS0,if_pos rfl]
 have g0s:∀b,lab b=some 0→b≠b0→g0.lab b=some 1:=fun b h1 h2=>by
  show (if lab b=some 0 then (if b=b0 then some 0 else some 1) else none)=some 1
  rw [if_pos h1,if_neg h2]
 have hA0:∀b,A b→g0.A b:=fun b hb=>⟨g0n b (by rw [(hAl b hb).2];exact (fun h=>by cases h)),fun hh=>hh.2.1 hb⟩
 have hsz:vals.size=args.length:=by simpa using hlen
 let st0:St:=⟨[],[some ⟨row.length,true,[List.replicate row.length .h],0⟩,none],[]⟩
 let a0:Act:={ tmps:=vals++Array.replicate (fn.ntmps - vals.size) undef,defers:=[] }
 have hst0:RepSt w g0 st0 fn.ntmps [] a0:=by
  refine ⟨by simp [a0];omega,rfl,fun k=>trivial,fun id ob ho=>?_,fun b i hb=>?_,rfl,fun i t u hi=>by simp [st0] at hi⟩
  · cases id with
    | zero =>
      have:st0.obj 0=some ⟨row.length,true,[List.replicate row.length .h],0⟩:=rfl
      rw [this] at ho
      cases ho
      refine ⟨cs,e0,List.replicate row.length .h,rfl,by simp,hh0,g0b,rfl,rfl,by rw [hsz0];simp,fun j t u hj hu=>?_⟩
      have:=b6c hj
      subst this
      have hjl:j < row.length:=by rw [←hsz0];exact (Array.getElem?_eq_some_iff.1 hu).1
      exact ⟨(hO0 j row[j] u (by simp [hjl]) hu).one,trivial⟩
    | succ i =>
      have:st0.obj (i+1)=none:=by cases i <;> rfl
      rw [this] at ho;cases ho
  · by_cases h0:lab b=some 0
    · refine ⟨hlab b 0 h0,?_⟩
      by_cases h1:b=b0
      · subst h1;rw [g0b] at hb;cases hb;simp [st0]
      · rw [g0s b h0 h1] at hb;cases hb;simp [st0]
    · rw [g0n b h0] at hb;cases hb
 obtain ⟨g1,hIn,hTl,hT⟩:=wR (cs:=cs.toList) (Sub:=Sub0) hst0 hA0 (fun j x hx=>⟨1,g0s x (hs0 j x hx).1 (hs0 j x hx).2,rfl⟩) (fun j t u hj hu=>hO0 j t u hj (by simpa using hu)) hd0 (by simpa using hsz0) (yR row st0)
 have hA1:∀b,A b→g1.A b:=fun b hb=>hIn.A (hA0 b hb)
 let stB:St:=⟨[],st0.ob++wO row,[]⟩
 have hInr:RepSt w g1 stB fn.ntmps [] a0:=hIn.rep
 have sBid:stB.obj 0=some ⟨row.length,true,[List.replicate row.length .h],0⟩:=rfl
 obtain ⟨e5,e6,e7,e8⟩:=hIn.keeps.gh 0 _ (by simp [st0]) sBid
 have g1b:g1.lab (g1.β 0)=some 0:=by rw [e5];exact e8 g0b
 have hC:=hInr.turn (w':=w) (ob':=⟨row.length,true,[jG 2 row],0⟩) sBid rfl rfl rfl ⟨Nat.le_refl _,fun _=>rfl⟩ g1b (fun _ _=>rfl) rfl (fun hkC =>
  ⟨cs,e0,jG 2 row,rfl,by rw [qS],by rw [e5];exact hh0,g1b,by rw [e6],by rw [e7],by rw [qS];exact hsz0,fun j t u hj hu=>(hT j t u hj (by simpa using hu)).keeps hkC⟩)
 let stC:St:={ stB with ob:=stB.ob.set 0 (some ⟨row.length,true,[jG 2 row],0⟩) }
 have hC':RepSt w g1 stC fn.ntmps [] a0:=hC
 have hKp:Keeps w g1 stC w g1 (St.entryV row args) :=
  ⟨fun _ h _=>⟨h,rfl⟩,Nat.le_refl _,fun _ ob' _ h=>⟨ob',h,rfl,rfl,rfl⟩,fun i ob' _ h ob h'=>by
    have e:stC.obj i=some ob':=h
    rw [h'] at e;cases e;exact ⟨Nat.le_refl _,fun _ _ _=>rfl⟩,fun _ _ _ _=>⟨rfl,rfl,rfl,fun h=>h⟩⟩
 have hp0:dU w g1 (St.entryV row args) (.p 0 [] 0 0 0) (.pointer (some ⟨b0,0,none⟩)):=by
  refine ⟨rfl,?_⟩
  show dM w g1 (St.entryV row args) (.p 0 [] 0 0 0) _
  refine ⟨by simp [St.entryV],fun ob ho=>?_⟩
  have:(St.entryV row args).obj 0=some ⟨row.length,true,[jG 2 row],0⟩:=rfl
  rw [this] at ho
  cases ho
  exact ⟨by rw [e5,e6];simp [g0],g1b,Nat.zero_lt_one⟩
 refine calls_of_wp hf hb (b7v (w0:=w) (A0:=⟨fun b=>lab b=none,g0.X⟩) (N:=fn.ntmps) (pv:=[.pointer (some ⟨b0,0,none⟩)]) (g:=g1) hE hm (hG.mono fun b hb hlt=>⟨⟨(hAl b hb).2,fun hh=>hh.2.1 hb⟩,hlt,rfl⟩) (fun _ _ _ h=>h) c hc.1.2 ?_ ?_ ?_ h)
 ·
  have fin:∀st' a' w' g',a0s E st' (b1y out st') fn.results.toList→RepSt w' g' st' fn.ntmps [.pointer (some ⟨b0,0,none⟩)] a'→Fr w ⟨fun b=>lab b=none,g0.X⟩ w' g' →
   a'.defers=[]∧∃v,(results fn a'.tmps).run E.P w'=.ok v w'∧∃v' lab',Ending.returned v=.returned v'∧Aft w lab w' lab'∧iU w' (out.A w.heap.size A lab lab') (fun b=>lab' b=some args.length) out.res v'∧fQ w w' (fun b=>A b∨vV w.heap.size lab lab' b) lab' 0 args vals.toList out.outs out.keep:=by
   intro st' a' w' g' hK hR hF
   obtain ⟨x,v,hx,hrun,hrep⟩:=b3q hE hR (fun x hx=>c2d hx) hK
   unfold b1y c4v at hx
   split at hx
   rotate_left
   · exact hx.elim
   rename_i x' st2 he
   obtain ⟨hdis,hx⟩:=hx
   unfold d0w at hx
   split at hx
   rotate_left
   · exact hx.elim
   rename_i id ep hpr
   cases hob:st2.obj id with
   | none=>rw [hob] at hx;exact hx.elim
   | some ob =>
   rw [hob] at hx
   obtain ⟨hbox,hx⟩:=(show Tr ob.box (c4u out (lB (st2.kill id) (dK ob.rows 0))) from hx).get
   unfold c4u at hx
   split at hx
   rotate_left
   · exact hx.elim
   rename_i ts' st3 he2
   have hout:=hx
   have key:(out.al=false→x'.Own)→∃lab',Aft w lab w' lab'∧iU w' (Out.A ⟨x',out.outs,out.keep,out.al⟩ w.heap.size A lab lab') (fun b=>lab' b=some args.length) x' v∧fQ w w' (fun b=>A b∨vV w.heap.size lab lab' b) lab' 0 args vals.toList out.outs out.keep:=by
    intro hown
    let lab':Nat→Option Nat:=fun b=>match g'.lab b with
     | none=>none
     | some i=>match st2.obj i with
       | none=>some args.length
       | some _=>some 0
    have ln:∀b,g'.lab b=none→lab' b=none:=fun b hb=>by simp only [lab',hb]
    have gA:∀b,g'.A b→A b∨vV w.heap.size lab lab' b:=fun b hb=>by
     by_cases hlt:b < w.heap.size
     · have:=hb.2
       rw [hF.x.1] at this
       by_cases hA:A b
       · exact .inl hA
       · exact .inr ⟨.inr (fun hn=>this ⟨hlt,hA,hn⟩),ln b hb.1⟩
     · exact .inr ⟨.inl (by omega),ln b hb.1⟩
    obtain ⟨k1,S1,hR1,hS1⟩:=c6q hR (A':=Out.A ⟨x',out.outs,out.keep,out.al⟩ w.heap.size A lab lab') he hrep (by
     cases hal:out.al with
     | false=>exact .inr (hown hal)
     | true=>exact .inl fun b hb=>(gA b hb).imp (fun h=>⟨rfl,h⟩) (fun h=>h))
    have hR2:=hR.kills k1
    have hpv:=hR2.pr.2 0 (.p id [] ep 0 0) (.pointer (some ⟨b0,0,none⟩)) (by rw [hpr];rfl) rfl
    obtain ⟨_,hpv⟩:=(show dM w' g' st2 (.p id [] ep 0 0) _ from hpv.2)
    obtain ⟨hpv,hlb,_⟩:=hpv ob hob
    injection hpv with hpv;injection hpv with hpv;injection hpv with hpv _
    have hRO:=hR2.ob id ob hob
    unfold fY at hRO
    rw [hbox] at hRO
    obtain ⟨cs',e',row',q1,q2,q3,q4,q5,q6,q7⟩:=hRO
    rw [q1] at he2
    have hrow:dK [row'] 0=row':=rfl
    rw [hrow] at he2
    have hkid:(st2.kill id).obj id=none:=by simp [St.kill,St.obj,nF hob]
    have k0:=Kills.kill st2 id
    obtain ⟨k2,hl2,Sub,hO2,hd2,hS2⟩:=pL (us:=cs'.toList) (hR2.kills k0) he2 (by simpa using q7.1) (fun i t u hi hu=>(q7.2 i t u hi (by simpa using hu)).keeps (Keeps.kills k0))
    refine ⟨lab',?_,hR1.weak (fun b hb=>?_),?_⟩
    · refine ⟨hF.os,hF.tape,hF.output,hF.size,fun b hb hn=>⟨(hF.blk b hb hn).1,ln b (hF.blk b hb hn).2⟩,fun b i hi=>?_,hF.bs⟩
      cases hl:g'.lab b with
      | none=>rw [ln b hl] at hi;cases hi
      | some i=>exact (hR.lab b i hl).1
    · obtain ⟨i,h1,_,h3⟩:=hS1 b hb
      simp only [lab',h1,h3]
    · rw [hout]
      refine hback ⟨b0,cs',e',rfl,by rw [hpv];exact q3,?_,by rw [hl2];exact q7.1,Sub,fun j t u hj hu=>(hO2 j t u hj (by simpa using hu)).mono (fun b hb hlt=>⟨?_,rfl⟩) (fun b hb hlt=>⟨hb,rfl⟩),hd2,fun j b hb=>?_⟩
      · show lab' b0=some 0
        rw [hpv]
        simp only [lab',q4,hob]
      · exact gA b hb
      · obtain ⟨i,h1,⟨ob2,h2⟩,_⟩:=hS2 j b hb
        have h3:=k0.obj i ob2 h2
        refine ⟨by show lab' b=some 0;simp only [lab',h1,h3],fun hbb=>?_⟩
        rw [hbb,hpv,q4] at h1
        cases h1
        rw [hkid] at h2;cases h2
   rcases hdis with ⟨h1,rfl⟩ | ⟨hal,hq⟩
   · obtain ⟨lab',p1,p2,p3⟩:=key h1
     exact ⟨hR.defers,v,hrun,v,lab',rfl,p1,p2,p3⟩
   · obtain ⟨lab',p1,p2,p3⟩:=key (fun h=>by rw [hal] at h;cases h)
     obtain ⟨lab2,r1,r2,r3⟩:=a9y hq p1 p2 p3
     exact ⟨hR.defers,v,hrun,v,lab2,rfl,r1,r2,r3⟩
  intro e st' a' w' g' hq hR hF
  cases e with
  | normal=>exact fin st' a' w' g' hq hR hF
  | ret=>exact fin st' a' w' g' hq hR hF
  | _=>exact hq.elim
 · refine ⟨hC'.size,rfl,fun i=>?_,fun id ob ho=>?_,hC'.lab,rfl,fun i t u hi hu=>?_⟩
   · show bL w g1 _ (iD (tY 0 (wG (.one (.p 0 [] 0 0 0)) args)) i) _
     rcases zX (wG (.one (.p 0 [] 0 0 0)) args) 0 i with h1 | ⟨x,_,h2,h3⟩
     · rw [h1];trivial
     · rw [h3]
       rw [Nat.sub_zero,a9b] at h2
       cases hx:args[i]? with
       | none=>rw [hx] at h2;cases h2
       | some y =>
         rw [hx] at h2
         simp only [Option.map_some,Option.some.injEq] at h2
         have hk:i < vals.size:=by have:=(List.getElem?_eq_some_iff.1 hx).1;omega
         have hv:(vals++Array.replicate (fn.ntmps - vals.size) undef).getD i undef=vals[i]:=by
          simp [Array.getD,Array.getElem_append,hk]
          intro hge
          omega
         rw [hv]
         rcases hro i y vals[i] hx (by simp [hk]) with rfl | ⟨h5,h6⟩
         · rw [hj] at hx
           cases hx
           have:vals[i]=.pointer (some ⟨b0,0,none⟩):=by
            have e1:vals.toList[i]?=some vals[i]:=by simp [hk]
            rw [hv0] at e1;exact (Option.some.inj e1).symm
           rw [this,←h2]
           exact hp0
         · have:c0b (.one (.p 0 [] 0 0 0)) y=y:=by
            cases y with
            | tup m=>simp [AV.arg] at h6
            | _=>rfl
           rw [this] at h2
           rw [←h2]
           exact a6m hA1 h5 h6
   · exact (hC'.ob id ob ho).keeps hKp ⟨rfl,rfl,rfl⟩ (fun x hx _=>⟨hx,rfl⟩) (fun h=>h)
   · cases i with
     | zero=>cases hi;cases hu;exact hp0
     | succ i=>cases hi
 · exact ⟨rfl,rfl,rfl,Nat.le_refl _,⟨hIn.X,fun b hb=>⟨hb.1,hb.2.2⟩⟩,fun b hb hn=>⟨rfl,hIn.none b (g0n b (by rw [hn];exact (fun h=>by cases h)))⟩,fun b hb=>rfl⟩
def b1z (out:Out) (st:St):AV→Prop
 | .one (.p id [] _ 0 0)=>match st.obj id with
   | some ob=>out.outs=[]∧out.res=.one (.b (dK ob.rows 0))∧(ob.box&&(dK ob.rows 0).all T.flatB)=true∧out.al=true
   | none=>False
 | _=>False
def d8d (E:Env) (rs:List ResultVar) (out:Out):Exit→St→Prop
 | .normal,st=>a0s E st (b1z out st) rs
 | .ret,st=>a0s E st (b1z out st) rs
 | _,_=>False
theorem c2e {out:Out} {x:AV} (h:b1z out st x):b7t x:=by
 cases x with
 | tup l=>exact h.elim
 | _=>exact trivial
theorem FnOk.introP (hE:EnvOk E) (hm:E.P.follows .mixedOrders=true) {f:Nat} {fn:Func} {c:Code} {args:List AV} {out:Out} (hf:E.P.funcs[f]?=some fn) (hb:fn.body=some c)
 (hc:b3y fn c args.length=true) (hargs:args.all AV.arg=true) (h:wpA E (FnOk E.P) c (d8d E fn.results.toList out) (St.entry args)):FnOk E.P f args out:=by
 simp only [b3y,Bool.and_eq_true,Bool.not_eq_true',Nat.ble_eq] at hc
 refine ⟨⟨fn,hf,hc.1.1,by rw [hb];rfl⟩,fun w A lab vals hA hAl hlab hG=>?_⟩
 obtain ⟨hlen,hro⟩:=dN.ro hA hargs
 let g0:Gh:=⟨fun _=>0,fun _=>0,fun _=>0,fun _=>none,fun b=>b < w.heap.size∧¬A b⟩
 have hA0:∀b,A b→g0.A b:=fun b hb=>⟨rfl,fun hh=>hh.2 hb⟩
 have hsz:vals.size=args.length:=by simpa using hlen
 refine calls_of_wp hf hb (b7v (w0:=w) (A0:=⟨fun _=>True,g0.X⟩) (N:=fn.ntmps) (pv:=[]) (g:=g0) hE hm (hG.mono fun b hb hlt=>⟨⟨trivial,fun hh=>hh.2 hb⟩,hlt,rfl⟩) (fun _ _ _ h=>h) c hc.1.2 ?_ ?_ ?_ h)
 ·
  have fin:∀st' a' w' g',a0s E st' (b1z out st') fn.results.toList→RepSt w' g' st' fn.ntmps [] a'→Fr w ⟨fun _=>True,g0.X⟩ w' g' →
   a'.defers=[]∧∃v,(results fn a'.tmps).run E.P w'=.ok v w'∧∃v' lab',Ending.returned v=.returned v'∧Aft w lab w' lab'∧iU w' (out.A w.heap.size A lab lab') (fun b=>lab' b=some args.length) out.res v'∧fQ w w' (fun b=>A b∨vV w.heap.size lab lab' b) lab' 0 args vals.toList out.outs out.keep:=by
   intro st' a' w' g' hK hR hF
   obtain ⟨x,v,hx,hrun,hrep⟩:=b3q hE hR (fun x hx=>c2e hx) hK
   refine ⟨hR.defers,v,hrun,v,fun b=>if b < w.heap.size then none else if g'.lab b=none then none else some args.length,rfl,?_,?_⟩
   · refine ⟨hF.os,hF.tape,hF.output,hF.size,fun b hb _=>⟨(hF.blk b hb trivial).1,if_pos hb⟩,fun b i hi=>?_,hF.bs⟩
     split at hi
     · cases hi
     · split at hi
       · cases hi
       · rename_i hne
         cases hl:g'.lab b with
         | none=>exact absurd hl hne
         | some j=>exact (hR.lab b j hl).1
   · unfold b1z at hx
     split at hx
     rotate_left
     · exact hx.elim
     rename_i id ep
     split at hx
     rotate_left
     · exact hx.elim
     rename_i ob hob
     obtain ⟨hout,hres,hbf,hal⟩:=hx
     simp only [Bool.and_eq_true] at hbf
     obtain ⟨hbox,hflat'⟩:=hbf
     obtain ⟨_,hpv⟩:=(show dM w' g' st' (.p id [] ep 0 0) v from hrep.2)
     obtain ⟨hpv,hlb,_⟩:=hpv ob hob
     have hRO:=hR.ob id ob hob
     unfold fY at hRO
     rw [hbox] at hRO
     obtain ⟨cs',e',row',q1,q2,q3,q4,q5,q6,q7⟩:=hRO
     rw [q1] at hflat' hres
     have hrow:dK [row'] 0=row':=rfl
     rw [hrow] at hflat' hres
     have hge:¬g'.β id < w.heap.size:=fun hlt=>by
      have:=(hF.blk _ hlt trivial).2
      rw [q4] at this;cases this
     rw [hres,hout]
     refine ⟨⟨g'.β id,cs',e',by rw [hpv,q5];simp,q3,?_,q7.1,fun _ _=>False,fun j t u hj hu=>?_,fun _ _ _ h=>h.elim,fun _ _ h=>h.elim⟩,zS hargs (by simpa using hlen)⟩
     · show (if g'.β id < w.heap.size then none else if g'.lab (g'.β id)=none then none else some args.length)=some args.length
       rw [if_neg hge,if_neg (by rw [q4];simp)]
     · refine d6m (fun b hb hlt=>?_) ((List.all_eq_true.1 hflat') t (List.mem_of_getElem? hj)) (q7.2 j t u hj hu)
       by_cases hlt:b < w.heap.size
       · have:=hb.2
         rw [hF.x.1] at this
         exact .inl ⟨hal,Classical.byContradiction fun hn=>this ⟨hlt,hn⟩⟩
       · refine .inr ⟨.inl (by omega),?_⟩
         show (if b < w.heap.size then none else if g'.lab b=none then none else some args.length)=none
         rw [if_neg hlt,if_pos hb.1]
  intro e st' a' w' g' hq hR hF
  cases e with
  | normal=>exact fin st' a' w' g' hq hR hF
  | ret=>exact fin st' a' w' g' hq hR hF
  | _=>exact hq.elim
 · refine ⟨by simp;omega,rfl,fun k=>?_,fun id ob ho=>?_,fun b i hb=>(by cases hb),rfl,fun i t u hi=>?_⟩
   rotate_left
   · simp [St.obj,St.entry] at ho
   · simp [St.entry] at hi
   show bL w g0 _ (iD (tY 0 args) k) _
   rcases zX args 0 k with h1 | ⟨x,_,h2,h3⟩
   · rw [h1];trivial
   · rw [h3]
     have hk:k < vals.size:=by have:=(List.getElem?_eq_some_iff.1 h2).1;omega
     simp only [Nat.sub_zero] at h2
     have hv:(vals++Array.replicate (fn.ntmps - vals.size) undef).getD k undef=vals[k]:=by
      simp [Array.getD,Array.getElem_append,hk]
      intro hge
      omega
     rw [hv]
     refine a6m hA0 (hro k x _ h2 (by simp [hk])) ?_
     exact (List.all_eq_true.1 hargs) x (List.mem_of_getElem? h2)
 · exact ⟨rfl,rfl,rfl,Nat.le_refl _,⟨rfl,fun b hb=>⟨hb.1,trivial⟩⟩,fun b hb _=>⟨rfl,rfl⟩,fun b hb=>rfl⟩
end Go.Ev
