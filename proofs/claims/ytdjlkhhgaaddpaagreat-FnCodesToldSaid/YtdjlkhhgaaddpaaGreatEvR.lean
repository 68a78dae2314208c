/- A contract, out of a walk: the end of it. -/
import Derived.Test.YtdjlkhhgaaddpaaGreatEvFz
set_option linter.unusedSectionVars false
set_option linter.unusedVariables false
set_option linter.unusedSimpArgs false
namespace Go.Ev
open Go
open Classical
variable {E:Env} {w w' w0:World} {A0:Fix} {g g':Gh} {st st':St} {N:Nat} {pv:List Value} {a:Act}
theorem zX:∀(l:List AV) (i k:Nat),iD (tY i l) k=.no∨∃x,i≤k∧l[k - i]?=some x∧iD (tY i l) k=x
 | [],i,k=>.inl rfl
 | x :: l,i,k=>by
   simp only [tY,iD]
   by_cases h:i=k
   · subst h
     simp
   · have:(i==k)=false:=by simpa using h
     rw [this]
     simp only [cond_false]
     rcases zX l (i+1) k with h1 | ⟨y,h1,h2,h3⟩
     · exact .inl h1
     · refine .inr ⟨y,by omega,?_,h3⟩
       have:k - i=(k - (i+1))+1:=by omega
       rw [this]
       simpa using h2
theorem dN.ro {A:Nat→Prop} {lab:Nat→Option Nat}:∀{k:Nat} {l:List AV} {vs:List Value},dN w A lab k l vs→l.all AV.arg=true→vs.length=l.length∧∀(j:Nat) x u,l[j]?=some x→vs[j]?=some u→lD w A x u
 | k,[],[],_,_=>⟨rfl,fun j x u hj=>by simp at hj⟩
 | k,[],_ :: _,h,_=>h.elim
 | k,x :: l,[],h,_=>by
   cases x with
   | one t=>cases t <;> exact h.elim
   | tup m=>rcases m with _ | ⟨x,_ | ⟨y,m⟩⟩ <;> exact h.elim
   | _=>exact h.elim
 | k,x :: l,v :: vs,h,ha=>by
   simp only [List.all_cons,Bool.and_eq_true] at ha
   have h':lD w A x v∧dN w A lab k l vs:=by
    cases x with
    | one t =>
      cases t with
      | b row=>simp [AV.arg,T.arg,T.arg0] at ha
      | _=>exact h
    | tup m=>simp [AV.arg] at ha
    | _=>exact h
   obtain ⟨q1,q2⟩:=dN.ro h'.2 ha.2
   refine ⟨by simp [q1],fun j y u hj hu=>?_⟩
   cases j with
   | zero=>simp at hj hu;subst hj hu;exact h'.1
   | succ j=>exact q2 j y u (by simpa using hj) (by simpa using hu)
theorem zS {A:Nat→Prop} {lab':Nat→Option Nat} {kps:List (List Nat)}:∀{k:Nat} {l:List AV} {vs:List Value},l.all AV.arg=true→vs.length=l.length→fQ w w' A lab' k l vs [] kps
 | k,[],[],_,_=>trivial
 | k,[],_ :: _,_,h=>by simp at h
 | k,_ :: _,[],_,h=>by simp at h
 | k,x :: l,v :: vs,ha,h=>by
   simp only [List.all_cons,Bool.and_eq_true] at ha
   have:=zS (A:=A) (lab':=lab') (kps:=kps) (k:=k) (vs:=vs) ha.2 (by simpa using h)
   cases x with
   | one t =>
     cases t with
     | b row=>simp [AV.arg,T.arg,T.arg0] at ha
     | _=>exact this
   | tup m=>simp [AV.arg] at ha
   | _=>exact this
theorem b3x {A:Nat→Prop} (hA:∀b,A b→g.A b) {t:T} {v:Value} (h:Fz w A v t) (ha:t.arg0=true):dM w g st t v:=by
 have hm:Fz w g.A v t:=h.mono (fun b hb _=>⟨hA b hb,rfl⟩)
 cases t with
 | v x=>cases h;rfl
 | s o k rows =>
   cases o with
   | true=>simp [T.arg0] at ha
   | false=>exact hm
 | q k rows row off=>exact hm
 | h=>trivial
 | _=>simp [T.arg0] at ha
theorem c6n {A:Nat→Prop} (hA:∀b,A b→g.A b) {t:T} {v:Value} (h:Fz w A v t) (ha:t.arg=true):dU w g st t v:=by
 refine ⟨h.one,?_⟩
 cases t with
 | c f caps =>
   cases h with
   | c _ _ cvs hl ht =>
     refine ⟨cvs,rfl,hl,fun i t u hi hu=>⟨(ht i t u hi hu).one,b3x hA (ht i t u hi hu) ?_⟩⟩
     have ha:caps.all T.arg0=true:=ha
     exact (List.all_eq_true.1 ha) t (List.mem_of_getElem? hi)
 | v x=>cases h;rfl
 | s o k rows=>exact b3x (st:=st) (t:=.s o k rows) hA h ha
 | q k rows row off=>exact b3x (st:=st) (t:=.q k rows row off) hA h ha
 | h=>trivial
 | n _ _ _ _ _=>simp [T.arg,T.arg0] at ha
 | p _ _ _ _ _=>simp [T.arg,T.arg0] at ha
 | b _=>simp [T.arg,T.arg0] at ha
theorem a6m {A:Nat→Prop} (hA:∀b,A b→g.A b) {x:AV} {v:Value} (h:lD w A x v) (ha:x.arg=true):bL w g st x v:=by
 cases x with
 | one t=>exact c6n hA h ha
 | agg l =>
   obtain ⟨cs,rfl,h1,h2⟩:=h
   refine ⟨cs,rfl,h1,fun j t u hj hu=>c6n hA (h2 j t u hj hu) ?_⟩
   have ha:l.all T.arg=true:=ha
   exact (List.all_eq_true.1 ha) t (List.mem_of_getElem? hj)
 | _=>exact h.elim
def b3y (fn:Func) (c:Code) (n:Nat):Bool:=!(fn.name == "runtime.NumGoroutine")&&tG fn.ntmps c&&Nat.ble n fn.ntmps
theorem FnOk.intro (hE:EnvOk E) (hm:E.P.follows .mixedOrders=true) {f:Nat} {fn:Func} {c:Code} {args:List AV} {out:Out} (hf:E.P.funcs[f]?=some fn) (hb:fn.body=some c)
 (hc:b3y fn c args.length=true) (hargs:args.all AV.arg=true) (hout:out.outs=[]) (h:wpA E (FnOk E.P) c (d8e E fn.results.toList out) (St.entry args)):FnOk E.P f args out:=by
 simp only [b3y,Bool.and_eq_true,Bool.not_eq_true',Nat.ble_eq] at hc
 refine ⟨⟨fn,hf,hc.1.1,by rw [hb];rfl⟩,fun w A lab vals hA hAl hlab hG=>?_⟩
 obtain ⟨hlen,hro⟩:=dN.ro hA hargs
 let g0:Gh:=⟨fun _=>0,fun _=>0,fun _=>0,fun _=>none,fun b=>b < w.heap.size∧¬A b⟩
 have hA0:∀b,A b→g0.A b:=fun b hb=>⟨rfl,fun hh=>hh.2 hb⟩
 have hsz:vals.size=args.length:=by simpa using hlen
 refine calls_of_wp hf hb (b7v (w0:=w) (A0:=⟨fun _=>True,g0.X⟩) (N:=fn.ntmps) (pv:=[]) (g:=g0) hE hm (hG.mono fun b hb hlt=>⟨⟨trivial,fun hh=>hh.2 hb⟩,hlt,rfl⟩) (fun _ _ _ h=>h) c hc.1.2 ?_ ?_ ?_ h)
 ·
  have fin:∀st' a' w' g',a0s E st' (c0c out st') fn.results.toList→RepSt w' g' st' fn.ntmps [] a'→Fr w ⟨fun _=>True,g0.X⟩ w' g' →
   a'.defers=[]∧∃v,(results fn a'.tmps).run E.P w'=.ok v w'∧∃v' lab',Ending.returned v=.returned v'∧Aft w lab w' lab'∧iU w' (out.A w.heap.size A lab lab') (fun b=>lab' b=some args.length) out.res v'∧fQ w w' (fun b=>A b∨vV w.heap.size lab lab' b) lab' 0 args vals.toList out.outs out.keep:=by
   intro st' a' w' g' hK hR hF
   obtain ⟨x,v,hx,hrun,hrep⟩:=b3q hE hR (fun x hx=>c4w hx) hK
   unfold c0c c9f at hx
   split at hx
   rotate_left
   · exact hx.elim
   rename_i x' st2 he
   have key:(out.al=false→x'.Own)→∃lab',Aft w lab w' lab'∧iU w' (Out.A ⟨x',out.outs,out.keep,out.al⟩ w.heap.size A lab lab') (fun b=>lab' b=some args.length) x' v∧fQ w w' (fun b=>A b∨vV w.heap.size lab lab' b) lab' 0 args vals.toList out.outs out.keep:=by
    intro h1
    refine ⟨fun b=>if b < w.heap.size then none else if g'.lab b=none then none else some args.length,?_,?_,?_⟩
    · refine ⟨hF.os,hF.tape,hF.output,hF.size,fun b hb _=>⟨(hF.blk b hb trivial).1,if_pos hb⟩,fun b i hi=>?_,hF.bs⟩
      split at hi
      · cases hi
      · split at hi
        · cases hi
        · rename_i hne
          cases hl:g'.lab b with
          | none=>exact absurd hl hne
          | some j=>exact (hR.lab b j hl).1
    · refine c9b hR he hrep ?_ (fun b i hi=>?_)
      · cases hal:out.al with
        | false=>exact .inr (h1 hal)
        | true =>
          refine .inl (fun b hb=>?_)
          by_cases hlt:b < w.heap.size
          · refine .inl ⟨rfl,?_⟩
            have:=hb.2
            rw [hF.x.1] at this
            exact Classical.byContradiction fun hn=>this ⟨hlt,hn⟩
          · refine .inr ⟨.inl (by omega),?_⟩
            show (if b < w.heap.size then none else if g'.lab b=none then none else some args.length)=none
            rw [if_neg hlt,if_pos hb.1]
      · show (if b < w.heap.size then none else if g'.lab b=none then none else some args.length)=some args.length
        rw [if_neg,if_neg]
        · rw [hi];simp
        · intro hlt
          have:=(hF.blk b hlt trivial).2
          rw [this] at hi;cases hi
    · rw [hout]
      exact zS hargs hlen
   rcases hx with ⟨h1,rfl⟩ | ⟨hal,hq⟩
   · obtain ⟨lab',p1,p2,p3⟩:=key h1
     exact ⟨hR.defers,v,hrun,v,lab',rfl,p1,p2,p3⟩
   · obtain ⟨lab',p1,p2,p3⟩:=key (fun h=>by rw [hal] at h;cases h)
     obtain ⟨lab2,r1,r2,r3⟩:=a9y hq p1 p2 p3
     exact ⟨hR.defers,v,hrun,v,lab2,rfl,r1,r2,r3⟩
  intro e st' a' w' g' hq hR hF
  cases e with
  | normal=>exact fin st' a' w' g' hq hR hF
  | ret=>exact fin st' a' w' g' hq hR hF
  | _=>exact hq.elim
 · refine ⟨by simp;omega,rfl,fun k=>?_,fun id ob ho=>?_,fun b i hb=>(by cases hb),rfl,fun i t u hi=>?_⟩
   rotate_left
   · simp [St.obj,St.entry] at ho
   · simp [St.entry] at hi
   show bL w g0 _ (iD (tY 0 args) k) _
   rcases zX args 0 k with h1 | ⟨x,_,h2,h3⟩
   · rw [h1];trivial
   · rw [h3]
     have hk:k < vals.size:=by have:=(List.getElem?_eq_some_iff.1 h2).1;omega
     simp only [Nat.sub_zero] at h2
     have hv:(vals++Array.replicate (fn.ntmps - vals.size) undef).getD k undef=vals[k]:=by
      simp [Array.getD,Array.getElem_append,hk]
      intro hge
      omega
     rw [hv]
     refine a6m hA0 (hro k x _ h2 (by simp [hk])) ?_
     exact (List.all_eq_true.1 hargs) x (List.mem_of_getElem? h2)
 · exact ⟨rfl,rfl,rfl,Nat.le_refl _,⟨rfl,fun b hb=>⟨hb.1,trivial⟩⟩,fun b hb _=>⟨rfl,rfl⟩,fun b hb=>rfl⟩
end Go.Ev
