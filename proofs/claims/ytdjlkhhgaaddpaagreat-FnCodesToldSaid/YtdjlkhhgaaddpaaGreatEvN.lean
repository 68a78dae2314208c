/- What is handed to a call. -/
import Derived.Test.YtdjlkhhgaaddpaaGreatEvM
set_option linter.unusedSectionVars false
set_option linter.unusedVariables false
set_option linter.unusedSimpArgs false
namespace Go.Ev
open Go
open Classical
variable {E:Env} {w w' w0:World} {A0:Fix} {g g':Gh} {st st':St} {N:Nat} {pv:List Value} {a:Act}
theorem d7j (h:RepSt w g st N pv a) {t t':T} {v:Value} (hr:dM w g st t v) (ho:fit v=true) (he:ro st t=some t'):Fz w (fun _=>True) v t':=by
 have up:∀{u:Value} {x:T},Fz w g.A u x→Fz w (fun _=>True) u x:=fun h=>h.mono (fun _ _ _=>⟨trivial,rfl⟩)
 cases t with
 | v x =>
   cases he
   have hr:v=x:=hr
   subst hr
   exact .v _ ho
 | s o k rows =>
   cases he
   cases o with
   | true=>obtain ⟨rfl,ad,rfl⟩:=hr;exact .nil _ _ _ _
   | false=>exact up hr
 | n id path ep lo len =>
   cases path with
   | cons x y=>simp [ro,St.res] at he
   | nil =>
     simp only [ro,St.res] at he
     obtain ⟨hid,hr⟩:=hr
     cases hob:st.obj id with
     | none=>rw [hob] at he;simp at he
     | some ob =>
       rw [hob] at he
       obtain ⟨hb,hwh,ad,c,rfl,hlc,hlr,hc⟩:=hr ob hob
       simp only [hb,cond_false,Option.some.injEq,rB hwh] at he
       subst he
       by_cases hl:len=0
       · subst hl
         rw [List.take_zero]
         exact .nil _ _ _ _
       · have hR:=h.ob id ob hob
         unfold fY at hR
         rw [hb] at hR
         rcases hR with ⟨hR,_⟩ | ⟨cs,e,vals,Sub,q1,q2,q3,q4,hM⟩
         · rw [hR] at hlr;simp at hlr;omega
         · rcases hc with hc | ⟨rfl,_,_⟩
           · omega
           · have hlen:((ob.rows.drop lo).take len).length=len:=by simp;omega
             have hget:∀i,i < len→((ob.rows.drop lo).take len)[i]?=ob.rows[lo+i]?:=by
              intro i hi
              rw [List.getElem?_take,if_pos hi,List.getElem?_drop]
             have:=Fz.s (w:=w) (A:=fun _=>True) (g.β id) (g.ω id+lo*ob.k) c false ob.k ((ob.rows.drop lo).take len) (fun i j=>vals (lo+i) j) trivial (Array.getElem?_eq_some_iff.1 q1).1 (by omega) (by rw [hlen];exact ho)
              (fun r hr=>hM.hk r (List.mem_of_mem_drop (List.mem_of_mem_take hr))) (fun i j hi hj=>?_) (fun i j r t hr' ht=>?_)
             · rw [hlen] at this;exact this
             · rw [hlen] at hi
               have:=hM.hv (lo+i) j (by omega) hj
               rw [Nat.add_mul] at this
               simp only [World.cell?,q1]
               rw [show g.ω id+lo*ob.k+i*ob.k+j=g.ω id+(lo*ob.k+i*ob.k)+j by omega]
               exact this
             · have hi:=(List.getElem?_eq_some_iff.1 hr').1
               rw [hlen] at hi
               rw [hget i hi] at hr'
               exact (hM.ht _ _ _ _ hr' ht).fz (fun _ _=>trivial) (fun _ _=>trivial)
 | q k rows row off=>cases he;exact up hr
 | c _ _=>exact hr.elim
 | p _ _ _ _ _=>simp [ro] at he
 | b _=>simp [ro] at he
 | h=>simp [ro] at he
theorem c8e {t t':T} {v:Value} (hr:dM w g st t v) (ho:fit v=true) (he:ro st t=some t') (hn:t.noRef=true):Fz w g.A v t':=by
 cases t with
 | v x =>
   cases he
   have hr:v=x:=hr
   subst hr
   exact .v _ ho
 | s o k rows =>
   cases he
   cases o with
   | true=>obtain ⟨rfl,ad,rfl⟩:=hr;exact .nil _ _ _ _
   | false=>exact hr
 | q k rows row off=>cases he;exact hr
 | c _ _=>exact hr.elim
 | _=>simp [T.noRef] at hn
def yD (w:World) (g:Gh) (al:Bool):Nat→Prop:=fun b=>b < w.heap.size∧(al=true→g.A b)
theorem Fz.sees {al:Bool} {v:Value} {t:T} (h1:Fz w (fun _=>True) v t) (h2:al=true→Fz w g.A v t):Fz w (yD w g al) v t:=by
 cases al with
 | false=>exact h1.mono (fun b _ hb=>⟨⟨hb,fun h=>by cases h⟩,rfl⟩)
 | true=>exact (h2 rfl).mono (fun b h hb=>⟨⟨hb,fun _=>h⟩,rfl⟩)
theorem nP (h:RepSt w g st N pv a) {t t':T} {v:Value} {al:Bool} (hr:dM w g st t v) (ho:fit v=true) (he:ro st t=some t') (hn:al=true→t.noRef=true):Fz w (yD w g al) v t' :=
 (d7j h hr ho he).sees (fun ha=>c8e hr ho he (hn ha))
theorem vN (h:RepSt w g st N pv a) {t t':T} {v:Value} {al:Bool} (hr:dU w g st t v) (he:ro st t=some t') (hn:al=true→t.noRef=true):Fz w (yD w g al) v t':=by
 cases t with
 | c g0 caps =>
   cases caps with
   | nil =>
     cases he
     obtain ⟨cvs,h1,h2,h3⟩:=hr.2
     subst h1
     have:cvs=#[]:=by apply Array.eq_empty_of_size_eq_zero;simpa using h2
     subst this
     exact .c _ _ _ rfl (fun i t v hi=>by simp at hi)
   | cons _ _=>simp [ro] at he
 | v x=>exact nP h (t:=.v x) hr.2 hr.1 he hn
 | s o k rows=>exact nP h (t:=.s o k rows) hr.2 hr.1 he hn
 | n id p ep lo len=>exact nP h (t:=.n id p ep lo len) hr.2 hr.1 he hn
 | p id p ep row off=>exact nP h (t:=.p id p ep row off) hr.2 hr.1 he hn
 | q k rows row off=>exact nP h (t:=.q k rows row off) hr.2 hr.1 he hn
 | b row=>exact nP h (t:=.b row) hr.2 hr.1 he hn
 | h=>exact nP h (t:=.h) hr.2 hr.1 he hn
theorem a4n (h:RepSt w g st N pv a) {al:Bool}:∀{l l':List T} {us:List Value},a0f st l=some l'→us.length=l.length→(∀(j:Nat) t u,l[j]?=some t→us[j]?=some u→dU w g st t u) →
 (al=true→l.all T.noRef=true)→us.length=l'.length∧∀(j:Nat) t u,l'[j]?=some t→us[j]?=some u→Fz w (yD w g al) u t
 | [],l',us,he,hl,hr,hn=>by
   cases he
   exact ⟨hl,fun j t u hj=>by simp at hj⟩
 | t :: l,l',[],he,hl,hr,hn=>by simp at hl
 | t :: l,l',u :: us,he,hl,hr,hn=>by
   simp only [a0f] at he
   split at he
   · rename_i t1 l1 h1 h2
     cases he
     have hn':al=true→t.noRef=true∧l.all T.noRef=true:=fun ha=>by simpa using hn ha
     obtain ⟨q1,q2⟩:=a4n h h2 (by simpa using hl) (fun j t u hj hu=>hr (j+1) t u (by simpa using hj) (by simpa using hu)) (fun ha=>(hn' ha).2)
     refine ⟨by simp [q1],fun j t' u' hj hu=>?_⟩
     cases j with
     | zero=>simp at hj hu;subst hj hu;exact vN h (hr 0 t u rfl rfl) h1 (fun ha=>(hn' ha).1)
     | succ j=>exact q2 j t' u' (by simpa using hj) (by simpa using hu)
   · cases he
theorem b8f (h:RepSt w g st N pv a) {al:Bool} {t t':T} {v:Value} (hr:dM w g st t v) (ho:fit v=true) (he:a8b st t=some t') (hn:al=true→t.noRef=true):Fz w (yD w g al) v t':=by
 cases t with
 | p id path ep row off =>
   cases al with
   | true=>exact absurd (hn rfl) (by simp [T.noRef])
   | false =>
   cases path with
   | cons x y=>simp [a8b,ro] at he
   | nil =>
     simp only [a8b] at he
     obtain ⟨hid,hr⟩:=hr
     cases hob:st.obj id with
     | none=>rw [hob] at he;simp at he
     | some ob =>
       rw [hob] at he
       obtain ⟨rfl,hlab,_⟩:=hr ob hob
       cases hb:ob.box with
       | false=>simp [hb] at he
       | true =>
         simp only [hb,cond_true] at he
         cases hc:a0f st (dK ob.rows 0) with
         | none=>rw [hc] at he;cases he
         | some r =>
           rw [hc] at he
           cases row with
           | succ n=>simp at he
           | zero =>
             simp at he
             subst he
             have hR:=h.ob id ob hob
             unfold fY at hR
             rw [hb] at hR
             obtain ⟨cs,e,row,q1,q2,q3,q4,q5,q6,q7⟩:=hR
             have hrow:dK ob.rows 0=row:=by rw [q1];rfl
             rw [hrow] at hc
             obtain ⟨p1,p2⟩:=a4n h (al:=false) (us:=cs.toList) hc (by simpa using q7.1) (fun j t u hj hu=>q7.2 j t u hj (by simpa using hu)) (fun ha=>by cases ha)
             have hsz:cs.size=ob.k:=by rw [q2];exact q7.1
             have:=Fz.q (w:=w) (A:=yD w g false) (g.β id) 0 ob.k [r] 0 off (fun _ j=>cs.getD j undef) ⟨(Array.getElem?_eq_some_iff.1 q3).1,fun ha=>by cases ha⟩ (Array.getElem?_eq_some_iff.1 q3).1 (by simp)
              (fun r' hr'=>by simp at hr';subst hr';rw [←p1];simpa using hsz) (fun i j hi hj=>?_) (fun i j r' t hr' ht=>?_)
             · rw [q5];exact this
             · have:i=0:=by simpa using hi
               subst this
               simp only [World.cell?,q3,Nat.zero_mul,Nat.zero_add]
               rw [←hsz] at hj
               simp [hj]
             · have hi:=(List.getElem?_eq_some_iff.1 hr').1
               have:i=0:=by simpa using hi
               subst this
               simp at hr'
               subst hr'
               have hj:=(List.getElem?_eq_some_iff.1 ht).1
               rw [←p1] at hj
               have hj':j < cs.size:=by simpa using hj
               exact p2 j t _ ht (by simp [hj'])
 | v x=>exact nP h hr ho he hn
 | s o k rows=>exact nP h hr ho he hn
 | n id p ep lo len=>exact nP h hr ho he hn
 | q k rows row off=>exact nP h hr ho he hn
 | b row=>exact nP h hr ho he hn
 | h=>exact nP h hr ho he hn
 | c _ _=>exact hr.elim
theorem b5o (h:RepSt w g st N pv a) {al:Bool}:∀{l l':List T} {us:List Value},b1b st l=some l'→us.length=l.length→(∀(j:Nat) t u,l[j]?=some t→us[j]?=some u→dM w g st t u∧fit u=true) →
 (al=true→l.all T.noRef=true)→us.length=l'.length∧∀(j:Nat) t u,l'[j]?=some t→us[j]?=some u→Fz w (yD w g al) u t
 | [],l',us,he,hl,hr,hn=>by
   cases he
   exact ⟨hl,fun j t u hj=>by simp at hj⟩
 | t :: l,l',[],he,hl,hr,hn=>by simp at hl
 | t :: l,l',u :: us,he,hl,hr,hn=>by
   simp only [b1b] at he
   split at he
   · rename_i t1 l1 h1 h2
     cases he
     have hn':al=true→t.noRef=true∧l.all T.noRef=true:=fun ha=>by simpa using hn ha
     obtain ⟨q1,q2⟩:=b5o h h2 (by simpa using hl) (fun j t u hj hu=>hr (j+1) t u (by simpa using hj) (by simpa using hu)) (fun ha=>(hn' ha).2)
     refine ⟨by simp [q1],fun j t' u' hj hu=>?_⟩
     cases j with
     | zero=>simp at hj hu;subst hj hu;exact b8f h (hr 0 t u rfl rfl).1 (hr 0 t u rfl rfl).2 h1 (fun ha=>(hn' ha).1)
     | succ j=>exact q2 j t' u' (by simpa using hj) (by simpa using hu)
   · cases he
end Go.Ev
namespace Go.Ev
open Go
open Classical
variable {E:Env} {w w' w0:World} {A0:Fix} {g g':Gh} {st st':St} {N:Nat} {pv:List Value} {a:Act}
theorem c2s (h:RepSt w g st N pv a) {al:Bool} {x x':AV} {v:Value} (he:kO st x=some x') (hr:bL w g st x v) (hn:al=true→x.noRef=true):lD w (yD w g al) x' v:=by
 cases x with
 | one t =>
   cases t with
   | c g0 caps =>
     simp only [kO,Option.map_eq_some_iff] at he
     obtain ⟨l,h1,rfl⟩:=he
     obtain ⟨cvs,rfl,q1,q2⟩:=hr.2
     obtain ⟨p1,p2⟩:=b5o h (al:=al) (us:=cvs.toList) h1 (by simpa using q1) (fun j t u hj hu=>⟨(q2 j t u hj (by simpa using hu)).2,(q2 j t u hj (by simpa using hu)).1⟩) (fun ha=>by
      have:=hn ha
      cases caps with
      | nil=>rfl
      | cons _ _=>simp [AV.noRef,T.noRef] at this)
     exact .c _ _ _ (by simpa using p1) (fun i t v hi hv=>p2 i t v hi (by simpa using hv))
   | p id p ep row off =>
     simp only [kO,Option.map_eq_some_iff] at he
     obtain ⟨l,h1,rfl⟩:=he
     exact b8f (t:=.p id p ep row off) h hr.2 hr.1 h1 hn
   | v x=>simp only [kO,Option.map_eq_some_iff] at he;obtain ⟨l,h1,rfl⟩:=he;exact vN h hr h1 hn
   | s o k rows=>simp only [kO,Option.map_eq_some_iff] at he;obtain ⟨l,h1,rfl⟩:=he;exact vN h hr h1 hn
   | n id p ep lo len=>simp only [kO,Option.map_eq_some_iff] at he;obtain ⟨l,h1,rfl⟩:=he;exact vN h hr h1 hn
   | q k rows row off=>simp only [kO,Option.map_eq_some_iff] at he;obtain ⟨l,h1,rfl⟩:=he;exact vN h hr h1 hn
   | b row=>simp only [kO,Option.map_eq_some_iff] at he;obtain ⟨l,h1,rfl⟩:=he;exact vN h hr h1 hn
   | h=>simp only [kO,Option.map_eq_some_iff] at he;obtain ⟨l,h1,rfl⟩:=he;exact vN h hr h1 hn
 | agg l =>
   simp only [kO,Option.map_eq_some_iff] at he
   obtain ⟨l',h1,rfl⟩:=he
   obtain ⟨cs,rfl,q1,q2⟩:=hr
   obtain ⟨p1,p2⟩:=a4n h (al:=al) (us:=cs.toList) h1 (by simpa using q1) (fun j t u hj hu=>q2 j t u hj (by simpa using hu)) hn
   exact ⟨cs,rfl,by simpa using p1,fun j t u hj hu=>p2 j t u hj (by simpa using hu)⟩
 | tup l=>simp [kO] at he
 | may _ _=>simp [kO] at he
 | lit _=>simp [kO] at he
 | no=>simp [kO] at he
theorem dN.cons_ro {A:Nat→Prop} {lab:Nat→Option Nat} {k:Nat} {x:AV} {l:List AV} {v:Value} {vs:List Value} (h1:lD w A x v) (h2:dN w A lab k l vs):dN w A lab k (x :: l) (v :: vs):=by
 cases x with
 | one t =>
   cases t with
   | b row=>cases h1
   | _=>exact ⟨h1,h2⟩
 | tup l=>cases h1
 | _=>exact ⟨h1,h2⟩
theorem a1y (h:RepSt w g st N pv a) {al:Bool} {lab:Nat→Option Nat} {k:Nat}:∀{l l':List AV} {vs:List Value},sP st l=some l'→vs.length=l.length→(∀(j:Nat) x u,l[j]?=some x→vs[j]?=some u→bL w g st x u) →
 (al=true→l.all AV.noRef=true)→l'.length=l.length∧dN w (yD w g al) lab k l' vs
 | [],l',vs,he,hl,hr,hn=>by
   cases he
   have:vs=[]:=by simpa using hl
   subst this
   exact ⟨rfl,trivial⟩
 | x :: l,l',[],he,hl,hr,hn=>by simp at hl
 | x :: l,l',v :: vs,he,hl,hr,hn=>by
   simp only [sP] at he
   split at he
   · rename_i x1 l1 h1 h2
     cases he
     have hn':al=true→x.noRef=true∧l.all AV.noRef=true:=fun ha=>by simpa using hn ha
     obtain ⟨q1,q2⟩:=a1y h h2 (by simpa using hl) (fun j t u hj hu=>hr (j+1) t u (by simpa using hj) (by simpa using hu)) (fun ha=>(hn' ha).2)
     exact ⟨by simp [q1],.cons_ro (c2s h h1 (hr 0 x v rfl rfl) (fun ha=>(hn' ha).1)) q2⟩
   · cases he
theorem FzE.fz {A:Nat→Prop} {t t':T} {v:Value} (h:FzE t t') (hf:Fz w A v t):Fz w A v t':=by
 cases h with
 | same=>exact hf
 | sl o k rows rows' h=>subst h;exact hf.frz
theorem FzEs.get {l l':List T} (h:FzEs l l'):l'.length=l.length∧∀(j:Nat) t',l'[j]?=some t'→∃t,l[j]?=some t∧FzE t t':=by
 induction h with
 | nil=>exact ⟨rfl,fun j t' hj=>by simp at hj⟩
 | cons h h' ih =>
   refine ⟨by simp [ih.1],fun j t' hj=>?_⟩
   cases j with
   | zero=>simp at hj;subst hj;exact ⟨_,rfl,h⟩
   | succ j=>simpa using ih.2 j t' (by simpa using hj)
theorem FzA.ro {A:Nat→Prop} {a a':AV} {v:Value} (h:FzA a a') (hf:lD w A a v):lD w A a' v:=by
 cases h with
 | same=>exact hf
 | one h=>exact h.fz hf
 | agg h =>
   obtain ⟨cs,h1,h2,h3⟩:=hf
   obtain ⟨q1,q2⟩:=h.get
   refine ⟨cs,h1,h2.trans q1.symm,fun j t u hj hu=>?_⟩
   obtain ⟨t0,p1,p2⟩:=q2 j t hj
   exact p2.fz (h3 j t0 u p1 hu)
theorem FzAs.args {A:Nat→Prop} {lab:Nat→Option Nat} {l l':List AV} (h:FzAs l l'):∀{k:Nat} {vs:List Value},dN w A lab k l vs→dN w A lab k l' vs:=by
 induction h with
 | same=>intro k vs h;exact h
 | cons h h' ih =>
   rename_i a a' l l'
   intro k vs hA
   have keep:a'=a→dN w A lab k (a' :: l') vs:=by
    rintro rfl
    cases vs with
    | nil=>cases a' with
      | one t=>cases t <;> exact hA.elim
      | tup m=>rcases m with _ | ⟨x,_ | ⟨y,m⟩⟩ <;> exact hA.elim
      | _=>exact hA.elim
    | cons v vs =>
      cases a' with
      | one t =>
        cases t with
        | b row=>exact ⟨hA.1,ih hA.2⟩
        | _=>exact ⟨hA.1,ih hA.2⟩
      | tup m=>rcases m with _ | ⟨x,_ | ⟨y,m⟩⟩ <;> exact ⟨hA.1,ih hA.2⟩
      | _=>exact ⟨hA.1,ih hA.2⟩
   cases h with
   | same=>exact keep rfl
   | one h =>
     cases h with
     | same=>exact keep rfl
     | sl o k' rows rows' h =>
       cases vs with
       | nil=>exact hA.elim
       | cons v vs=>exact ⟨(FzE.sl o k' rows rows' h).fz hA.1,ih hA.2⟩
   | agg h =>
     cases vs with
     | nil=>exact hA.elim
     | cons v vs=>exact ⟨(FzA.agg h).ro hA.1,ih hA.2⟩
theorem FzAs.len {l l':List AV} (h:FzAs l l'):l'.length=l.length:=by
 induction h with
 | same=>rfl
 | cons h h' ih=>simp [ih]
theorem a8f (i:Nat):st.pad.obj i=st.obj i:=by
 unfold St.obj St.pad
 by_cases h:i < st.ob.length
 · simp [List.getElem?_append_left h]
 · by_cases h2:i=st.ob.length
   · subst h2;simp
   · rw [List.getElem?_append_right (by omega),List.getElem?_eq_none (by simp;omega),List.getElem?_eq_none (by omega)]
noncomputable def Gh.aft (g:Gh) (sz n:Nat) (rid:Nat) (lab':Nat→Option Nat):Gh :=
 { g with lab:=fun b=>if b < sz then g.lab b else if lab' b=some n then some rid else none }
def Fix.G (A0:Fix) (w0:World):Nat→Prop:=fun b=>A0.u b∧¬A0.x b
theorem Fr.gok {P:Program} (hF:Fr w0 A0 w g) (hG:GOk P w0 (A0.G w0)):GOk P w g.A :=
 hG.mono fun b hb hlt=>⟨⟨(hF.blk b hlt hb.1).2,by rw [hF.x.1];exact hb.2⟩,Nat.lt_of_lt_of_le hlt hF.size,(hF.blk b hlt hb.1).1⟩
theorem c9m (h:RepSt w g st N pv a) (hF:Fr w0 A0 w g) {P:Program} (hG:GOk P w0 (A0.G w0)) {F:Nat→List AV→Out→Prop} (hFn:∀f as out,F f as out→FnOk P f as out) {f:Nat} {args:List AV} {vals:Array Value}
 (hl:vals.toList.length=args.length) (hr:∀(j:Nat) x u,args[j]?=some x→vals.toList[j]?=some u→bL w g st x u) {K:St→AV→Prop} (hK:b2g F f args st K) :
 (∃fn,P.funcs[f]?=some fn∧(fn.name == "runtime.NumGoroutine")=false∧fn.body.isSome=true) ∧
 Calls P f vals w fun e w'=>∃v st' av g',e=.returned v∧K st' av∧RepSt w' g' st' N pv a∧bL w' g' st' av v∧Fr w0 A0 w' g'∧Up w w':=by
 unfold b2g at hK
 split at hK
 rotate_left
 · exact hK.elim
 rename_i as has
 obtain ⟨as',out,hFa,hFz,hK⟩:=hK
 replace hK:=hK.get
 obtain ⟨hal,hK⟩:=hK
 replace hal:out.al=true→args.all AV.noRef=true:=by
  simp only [Bool.and_eq_true,Bool.or_eq_true,Bool.not_eq_true'] at hal
  intro h
  rcases hal.2 with h2 | h2
  · rw [h] at h2;cases h2
  · exact h2
 have hC:=hFn f as' out hFa
 obtain ⟨q1,q2⟩:=a1y h (al:=out.al) has hl hr hal
 refine ⟨hC.fn,(hC.run w (yD w g out.al) (fun _=>none) vals (hFz.args q2) (fun b hb=>⟨hb.1,rfl⟩) (fun b i hb=>by cases hb) ((hF.gok hG).mono fun b hb hlt=>⟨⟨hlt,fun _=>hb⟩,hlt,rfl⟩)).mono ?_⟩
 rintro e w' ⟨v,lab',rfl,hAft,hRes,_⟩
 obtain ⟨n,hn⟩:∃n,n=as'.length:=⟨_,rfl⟩
 rw [←hn] at hRes
 have hx:∀b,g.X b→b < w.heap.size:=fun b hb=>by
  have:=(hF.x.2 b (by rw [←hF.x.1];exact hb)).1
  have:=hF.size
  omega
 let g1:=g.aft w.heap.size n st.ob.length lab'
 have old:∀b,b < w.heap.size→g1.lab b=g.lab b:=fun b hb=>if_pos hb
 have new:∀b,¬b < w.heap.size→g1.lab b=if lab' b=some n then some st.ob.length else none:=fun b hb=>if_neg hb
 have same:∀b,b < w.heap.size→w'.heap[b]?=w.heap[b]?:=fun b hb=>(hAft.blk b hb rfl).1
 have hKp:Keeps w g st w' g1 st.pad:=by
  refine ⟨fun b hb hlt=>⟨⟨by rw [old b hlt];exact hb.1,hb.2⟩,same b hlt⟩,by simp [St.pad],fun id ob' hid ho=>?_,fun id ob' hid ho ob1 h1=>?_,fun id ob' hid ho=>⟨rfl,rfl,rfl,fun hlb=>?_⟩⟩
  · rw [a8f] at ho;exact ⟨ob',ho,rfl,rfl,rfl⟩
  · rw [a8f,h1] at ho
    cases ho
    exact ⟨Nat.le_refl _,fun _ _ hl2=>same _ (h.lab _ _ hl2).1⟩
  · rw [old _ (h.lab _ _ hlb).1];exact hlb
 have hRp:RepSt w' g1 st.pad N pv a:=by
  refine ⟨h.size,h.defers,fun k=>(h.tm k).keeps hKp,fun id ob ho=>?_,fun b i hb=>?_,h.pr.1,fun i t u hi hu=>(h.pr.2 i t u hi hu).keeps hKp⟩
  · rw [a8f] at ho
    have hid:=nF ho
    refine (h.ob id ob ho).keeps hKp ⟨rfl,rfl,rfl⟩ (fun x hx hlt=>⟨by rw [old x hlt];exact hx,same x hlt⟩) (fun hne hh=>?_)
    have hh:g1.lab (g.β id)=some id:=hh
    by_cases hb:g.β id < w.heap.size
    · rw [old _ hb] at hh;exact hne hh
    · rw [new _ hb] at hh
      split at hh
      · cases hh;omega
      · cases hh
  · by_cases hlt:b < w.heap.size
    · rw [old b hlt] at hb
      have:=h.lab b i hb
      have:=hAft.size
      exact ⟨by omega,by simp [St.pad];omega⟩
    · rw [new b hlt] at hb
      split at hb
      · rename_i hlb
        cases hb
        exact ⟨hAft.lt b _ hlb,by simp [St.pad]⟩
      · cases hb
 have hpool:tH g1 st.pad (fun b=>lab' b=some n):=by
  intro b hb
  have hnot:¬b < w.heap.size:=fun hlt=>by have:=(hAft.blk b hlt rfl).2;rw [hb] at this;cases this
  refine ⟨st.ob.length,by rw [new b hnot,if_pos hb],?_⟩
  rw [a8f]
  simp [St.obj]
 obtain ⟨st2,av2,g2,hK2,hIn,hAV⟩:=b9n hRp (A:=out.A w.heap.size (yD w g out.al) (fun _=>none) lab') (S:=fun b=>lab' b=some n) (fun b hb=>by
  rcases hb with ⟨ha,hb1,hb2⟩ | ⟨hge,hnone⟩
  · exact ⟨by rw [old b hb1];exact (hb2 ha).1,(hb2 ha).2⟩
  · have hge:w.heap.size≤b:=hge.resolve_right (fun h=>h rfl)
    refine ⟨by rw [new b (by omega),hnone];simp,fun hX=>?_⟩
    have:=hx b hX
    omega) hpool hRes hK
 refine ⟨v,st2,av2,g2,rfl,hK2,hIn.rep,hAV,?_,same⟩
 refine ⟨hAft.os.trans hF.os,hAft.tape.trans hF.tape,hAft.output.trans hF.output,Nat.le_trans hF.size hAft.size,⟨hIn.X.trans hF.x.1,hF.x.2⟩,fun b hb hA=>?_,fun b hb=>(hAft.bs b (Nat.lt_of_lt_of_le hb hF.size)).trans (hF.bs b hb)⟩
 obtain ⟨p1,p2⟩:=hF.blk b hb hA
 have hlt:b < w.heap.size:=Nat.lt_of_lt_of_le hb hF.size
 exact ⟨(same b hlt).trans p1,hIn.none b (by rw [old b hlt];exact p2)⟩
end Go.Ev
