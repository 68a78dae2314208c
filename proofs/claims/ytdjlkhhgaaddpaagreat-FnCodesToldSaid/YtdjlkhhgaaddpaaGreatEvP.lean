/- Regions; the whole of it. -/
import Derived.Test.YtdjlkhhgaaddpaaGreatEvO
import Derived.Deep.LoopGhost
import Derived.OrdersHeld
set_option linter.unusedSectionVars false
set_option linter.unusedVariables false
set_option linter.unusedSimpArgs false
namespace Go.Ev
open Go
open Classical
variable {E:Env} {w w' w0:World} {A0:Fix} {g g':Gh} {st st':St} {N:Nat} {pv:List Value} {a:Act}
def mD (N:Nat) (d:Option Nat):Prop:=∀i,d=some i→i < N
theorem RepSt.say (h:RepSt w g st N pv a) {d:Nat} {av:AV} (hr:bL w g st av (a.tmps.getD d undef)):RepSt w g (st.set (some d) av) N pv a:=by
 have hk:=Keeps.tm w g st ((d,av) :: st.tm)
 refine ⟨h.size,h.defers,fun k=>?_,fun id ob ho=>?_,h.lab,h.pr.1,fun i t u hi hu=>(h.pr.2 i t u hi hu).keeps hk⟩
 · show bL w g _ (iD ((d,av) :: st.tm) k) _
   by_cases hkd:d=k
   · subst hkd
     have:iD ((d,av) :: st.tm) d=av:=by simp [iD]
     rw [this]
     exact hr.keeps hk
   · have:iD ((d,av) :: st.tm) k=iD st.tm k:=by
      have:(d==k)=false:=by simpa using hkd
      simp [iD,this]
     rw [this]
     exact (h.tm k).keeps hk
 · have h1:=h.ob id ob ho
   unfold fY at h1 ⊢
   cases hb:ob.box with
   | true =>
     rw [hb] at h1
     obtain ⟨cs,e,row,h1,h2,h3,h4,h5,h6,h7⟩:=h1
     exact ⟨cs,e,row,h1,h2,h3,h4,h5,h6,h7.keeps hk⟩
   | false=>rw [hb] at h1;exact h1
theorem yS (h:RepSt w g st N pv a) {ops:Array Oper} {j:Nat} {want:Bool} {K0 K1:St→Prop} (hK:a0z st want K0 K1 ((ops[j]?).bind (·.dst))) {o:Oper} (ho:o.guard=some (j,want)) :
 ∃gb st',Region.wanted o (yielded ops a.tmps)=gb∧RepSt w g st' N pv a∧(gb=true→K1 st')∧(gb=false→K0 st'):=by
 unfold Region.wanted
 rw [ho]
 simp only
 unfold yielded
 cases hd:(ops[j]?).bind (·.dst) with
 | none=>rw [hd] at hK;exact hK.elim
 | some d =>
   rw [hd] at hK
   simp only [a0z] at hK
   have hr:=h.tm d
   simp only [Option.bind_some]
   have hget:a.tmps.getD d undef=(a.tmps[d]?).getD undef:=by simp
   unfold c6m at hK
   split at hK
   · rename_i b hav
     rw [hav] at hr
     have e:a.tmps.getD d undef=.bool b:=hr
     refine ⟨b==want,st,?_,h,fun hb=>?_,fun hb=>?_⟩
     · rw [hget] at e
       generalize a.tmps[d]?=x at e
       cases x with
       | none=>cases e
       | some v=>cases (show v=.bool b from e);cases b <;> cases want <;> rfl
     · cases b <;> cases want <;> first | exact hK | cases hb
     · cases b <;> cases want <;> first | exact hK | cases hb
   · rename_i b hav
     rw [hav] at hr
     have e:a.tmps.getD d undef=.bool b:=hr.2
     obtain ⟨k1,k0⟩:=hK
     refine ⟨b==want,st.set (some d) (.lit b),?_,h.say (by rw [e];exact rfl),fun hb=>?_,fun hb=>?_⟩
     · rw [hget] at e
       generalize a.tmps[d]?=x at e
       cases x with
       | none=>cases e
       | some v=>cases (show v=.bool b from e);cases b <;> cases want <;> rfl
     · have:b=want:=by simpa using hb
       subst this
       exact k1 rfl
     · have:b=!want:=by cases b <;> cases want <;> simp_all
       subst this
       exact k0 rfl
   · rename_i hav
     rw [hav] at hr
     have e:=hr.2 rfl
     refine ⟨false,st,?_,h,(fun hb=>by cases hb),fun _=>hK⟩
     rw [hget] at e
     generalize a.tmps[d]?=x at e
     cases x with
     | none=>cases want <;> rfl
     | some v=>cases (show v=undef from e);cases want <;> rfl
   · exact hK.elim
theorem RepSt.up (h:RepSt w g st N pv a) (hu:Up w w') (hs:w.heap.size≤w'.heap.size):RepSt w' g st N pv a:=by
 have hK:Keeps w g st w' g st:=⟨fun b hb hlt=>⟨hb,hu b hlt⟩,Nat.le_refl _,fun id ob' _ ho=>⟨ob',ho,rfl,rfl,rfl⟩,fun id ob' _ ho ob1 h1=>by rw [h1] at ho;cases ho;exact ⟨Nat.le_refl _,fun _ _ hl=>hu _ (h.lab _ _ hl).1⟩,fun _ _ _ _=>⟨rfl,rfl,rfl,fun h=>h⟩⟩
 refine ⟨h.size,h.defers,fun k=>(h.tm k).keeps hK,fun id ob ho=>?_,fun b i hb=>?_,h.pr.1,fun i t u hi hu=>(h.pr.2 i t u hi hu).keeps hK⟩
 · exact (h.ob id ob ho).keeps hK ⟨rfl,rfl,rfl⟩ (fun x hx hlt=>⟨hx,hu x hlt⟩) (fun h=>h)
 · have:=h.lab b i hb
   exact ⟨by omega,this.2⟩
theorem c0m (h:RepSt w g st N pv a) {P:Program} (hG:GOk P w g.A) {F:Nat→List AV→Out→Prop} (hFn:∀f as out,F f as out→FnOk P f as out) {f:Nat} {args:Array Operand} {fo:Operand} {caps:List T} (hf:st.ev fo=.one (.c f caps)) {as:List AV} (has:sP st (evs st args.toList++caps.map .one)=some as) {r:Value} (hF:∃as',F f as' ⟨.one (.v r),[],[],false⟩∧FzAs as as') :
 (∃fn,P.funcs[f]?=some fn∧(fn.name == "runtime.NumGoroutine")=false∧fn.body.isSome=true)∧fit r=true∧∃cvs:Array Value,a.eval fo=.func (.func f) #[] cvs ∧
 ∀w',Up w w'→w.heap.size≤w'.heap.size→Calls P f (args.map a.eval++cvs) w' fun e w2=>e=.returned r∧w2.os=w'.os∧w2.tape=w'.tape∧w2.output=w'.output∧w'.heap.size≤w2.heap.size∧Up w' w2:=by
 obtain ⟨as',hF,hFz⟩:=hF
 have hC:=hFn _ _ _ hF
 have rf:=iQ h fo
 rw [hf] at rf
 obtain ⟨cvs,hv,hl,_⟩:=rf.2
 have rd:∀w',Up w w'→w.heap.size≤w'.heap.size→Calls P f (args.map a.eval++cvs) w' fun e w2=>(e=.returned r∧fit r=true)∧w2.os=w'.os∧w2.tape=w'.tape∧w2.output=w'.output∧w'.heap.size≤w2.heap.size∧Up w' w2:=by
  intro w' hu hs
  have rf:=iQ (h.up hu hs) fo
  rw [hf] at rf
  obtain ⟨cvs',hv',_,hcv⟩:=rf.2
  have hcc:cvs'=cvs:=by
   rw [hv] at hv'
   cases hv';rfl
  subst hcc
  obtain ⟨q1,q2⟩:=a1y (h.up hu hs) (al:=false) (vs:=(args.map a.eval++cvs').toList) has (by simp [nU,hl]) (fun j x u hj hu=>by
   simp only [Array.toList_append,Array.toList_map] at hu
   by_cases hlt:j < args.toList.length
   · rw [List.getElem?_append_left (by rw [nU];exact hlt)] at hj
     rw [List.getElem?_append_left (by simpa using hlt)] at hu
     obtain ⟨o',h1,rfl⟩:=a8i st _ j x hj
     rw [List.getElem?_map,h1] at hu
     cases hu
     exact jM (h.up ‹_› hs) o'
   · rw [List.getElem?_append_right (by rw [nU];omega)] at hj
     rw [List.getElem?_append_right (by simp at hlt ⊢;omega)] at hu
     rw [nU,List.getElem?_map] at hj
     simp only [List.length_map] at hu
     cases hcap:caps[j - args.toList.length]? with
     | none=>rw [hcap] at hj;cases hj
     | some t =>
       rw [hcap] at hj
       cases hj
       have:=hcv _ t u hcap (by simpa using hu)
       refine ⟨this.1,?_⟩
       cases t with
       | c _ _=>exact this.2.elim
       | _=>exact this.2) (fun ha=>by cases ha)
  refine (hC.run w' _ (fun _=>none) (args.map a.eval++cvs') (hFz.args q2) (fun b hb=>⟨hb.1,rfl⟩) (fun b i hb=>by cases hb) (hG.mono fun b hb hlt=>⟨⟨by omega,fun _=>hb⟩,by omega,hu b hlt⟩)).mono ?_
  rintro e w2 ⟨v,lab',rfl,hAft,hRes,_⟩
  have hv:fit v=true∧v=r:=by
   have:Ow w2 _ _ v (.v r):=hRes
   refine ⟨this.one,?_⟩
   cases this
   rfl
  obtain ⟨hv1,rfl⟩:=hv
  exact ⟨⟨rfl,hv1⟩,hAft.os,hAft.tape,hAft.output,hAft.size,fun b hb=>(hAft.blk b hb rfl).1⟩
 refine ⟨hC.fn,?_,cvs,hv,fun w' hu hs=>(rd w' hu hs).mono fun e w2 hh=>⟨hh.1.1,hh.2⟩⟩
 obtain ⟨e,w2,fr,hR,_⟩:=rd w (.refl w) (Nat.le_refl _) []
 exact hR.1.2
theorem b8j (h:RepSt w g st N pv a) {ti:TI} {t:TypeId} {x:Operand} {lo hi:Option Operand} {l:Int} {K:AV→Prop} {o:Oper} (ho:o.op=.slice t x lo hi none) (hu:ti.kind=4→E.P.underlying t=some .string)
 (hlo':(lo.map a.eval)=none∧l=0∨∃k,(lo.map a.eval)=some (.int k l)) (hK:b1g st l hi ti K (st.ev x)):∃v,fit v=true∧(∀w',(execOp a.eval o).run E.P w'=.ok (.value v) w')∧K (.one (.v v)):=by
 have hx:=iQ h x
 have exec:execOp a.eval o=(do let v ←Instr.sliceAt t (a.eval x) (lo.map a.eval) (hi.map a.eval) none;pure (Next.value v)):=by simp [execOp,ho]
 unfold b1g at hK
 split at hK
 · rename_i s he
   rw [he] at hx
   have hft:fit (a.eval x)=true:=hx.1
   have hx:a.eval x=.string s:=hx.2
   rw [hx] at hft
   obtain ⟨hk,hK⟩:=hK.get
   have hk:=Nat.eq_of_beq_eq_true hk
   obtain ⟨hh,⟨⟨b0,b1,b2⟩,hK⟩,hhi⟩:=mI h hK
   have hhi':(hi.map a.eval)=none∧hh=((s.size:Nat):Int)∨∃k,(hi.map a.eval)=some (.int k hh):=by
    rcases hhi with ⟨rfl,rfl⟩ | ⟨y,k,rfl,e⟩
    · exact .inl ⟨rfl,rfl⟩
    · exact .inr ⟨k,by simp [e]⟩
   have hu:=hu hk
   refine ⟨.string (s.extract l.toNat hh.toNat),mO (m:=s.size) hft (by simp;omega),fun w'=>?_,hK⟩
   rw [exec]
   simp [Instr.sliceAt,run_underlying hu,Instr.slice,hx,jK hlo' hhi' b0 b1 b2 (Nat.le_refl _)]
 · exact hK.elim
theorem c5s (hE:EnvOk E) (h:RepSt w g st N pv a) {t:TypeId} {x:Operand} {lo hi:Option Operand} {K:AV→Prop} {o:Oper} (ho:o.op=.slice t x lo hi none)
 (hK:E.ti t fun ti=>pZ st lo 0 fun lo=>b1g st lo hi ti K (st.ev x)):∃v,fit v=true∧(∀w',(execOp a.eval o).run E.P w'=.ok (.value v) w')∧K (.one (.v v)):=by
 unfold Env.ti at hK
 split at hK
 rotate_left
 · exact hK.elim
 rename_i ti hti
 have hT:=hE.ti t ti hti
 obtain ⟨l,hK,hlo⟩:=mI h hK
 exact b8j h ho hT.string (by
  rcases hlo with ⟨rfl,rfl⟩ | ⟨y,k,rfl,e⟩
  · exact .inl ⟨rfl,rfl⟩
  · exact .inr ⟨k,by simp [e]⟩) hK
theorem b5n {P:Program} {ρ:Operand→Value} {o:Oper} {f:Nat} {fo:Operand} {cvs:Array Value} {args:Array Operand} {tys:Array TypeId} (ho:o.op=.call ⟨.value fo,args,tys⟩) (hρ:ρ fo=.func (.func f) #[] cvs) (hfn:∃fn,P.funcs[f]?=some fn∧(fn.name == "runtime.NumGoroutine")=false∧fn.body.isSome=true) (w:World) :
 (execOp ρ o).run P w=.ok (.enter f (args.map ρ++cvs)) w:=by
 obtain ⟨fn,q1,q2,q3⟩:=hfn
 cases hbd:fn.body with
 | none=>rw [hbd] at q3;cases q3
 | some b =>
   simp [execOp,ho,resolve,hρ,Deferred.ofValue,invoke,callFunc,q1,hbd]
   exact fun he=>by simp [he] at q2
theorem a9e (hE:EnvOk E) (hG:GOk E.P w0 (A0.G w0)) {F:Nat→List AV→Out→Prop} (hFn:∀f as out,F f as out→FnOk E.P f as out) {ops:Array Oper} {Qa:St→Prop} {Q:Exit→Act→World→Prop}
 (hQ:∀st' a' w' g',Qa st'→RepSt w' g' st' N pv a'→Fr w0 A0 w' g'→Q .normal a' w') :
 ∀(l:List Oper) (st:St) (g:Gh) (a:Act) (w:World),RepSt w g st N pv a→Fr w0 A0 w g→(∀o∈l,mD N o.dst)→wJ E F ops Qa l st→wpList E.P ops Q l a w
 | [],st,g,a,w,h,hF,_,hK=>hQ st a w g hK h hF
 | o :: l,st,g,a,w,h,hF,hd,hK=>by
   have hdo:mD N o.dst:=hd o (by simp)
   have ih:=fun st g a w h hF hK=>a9e (ops:=ops) hE hG hFn hQ l st g a w h hF (fun o ho=>hd o (by simp [ho])) hK
   obtain ⟨d,op,ty,pos,after,gd⟩:=o
   cases gd with
   | none =>
     simp only [wJ,nY] at hK
     unfold wpList
     rw [if_pos (by rfl)]
     refine .inl ?_
     cases hp:Op.pureA op with
     | true =>
       rw [hp] at hK
       simp only [cond_true] at hK
       obtain ⟨x,hx,hr⟩:=yM (o:=⟨d,op,ty,pos,after,none⟩) hE h rfl hK
       obtain ⟨v,hv,hr⟩:=hr rfl
       unfold Oper.wp
       rw [hv w (.refl w)]
       exact ih _ _ _ _ (h.put hr hdo) hF hx
     | false =>
       rw [hp] at hK
       simp only [cond_false] at hK
       exact b1h (o:=⟨d,op,ty,pos,after,none⟩) hE h hF hG hFn hK (fun st' av v w' g' hK' hR hA hF'=>ih _ _ _ _ (hR.put hA hdo) hF' hK')
   | some jw =>
     obtain ⟨j,want⟩:=jw
     simp only [wJ,nY] at hK
     obtain ⟨gb,st1,hw,h,hK1,hK0⟩:=yS (o:=⟨d,op,ty,pos,after,some (j,want)⟩) h hK rfl
     unfold wpList
     rw [hw]
     clear hw hK
     cases gb with
     | false =>
       rw [if_neg (by simp)]
       exact ih _ _ _ _ (h.put (av:=.may false .no) ⟨fun h=>(by cases h),fun _=>rfl⟩ hdo) hF (hK0 rfl)
     | true =>
       have hK:=hK1 rfl
       rw [if_pos rfl]
       refine .inl ?_
       cases hp:Op.pureA op with
       | true =>
         rw [hp] at hK
         simp only [cond_true] at hK
         obtain ⟨x,hx,hr⟩:=yM (o:=⟨d,op,ty,pos,after,some (j,want)⟩) hE h rfl hK
         obtain ⟨v,hv,hr⟩:=hr rfl
         unfold Oper.wp
         rw [hv w (.refl w)]
         exact ih _ _ _ _ (h.put hr hdo) hF hx
       | false =>
         rw [hp] at hK
         simp only [cond_false] at hK
         exact b1h (o:=⟨d,op,ty,pos,after,some (j,want)⟩) hE h hF hG hFn hK (fun st' av v w' g' hK' hR hA hF'=>ih _ _ _ _ (hR.put hA hdo) hF' hK')
def Cls (w:World):World→Prop:=fun w'=>w'.os=w.os∧w'.tape=w.tape∧w'.output=w.output∧w.heap.size≤w'.heap.size∧Up w w'
theorem b5g (hE:EnvOk E) {F:Nat→List AV→Out→Prop} (hFn:∀f as out,F f as out→FnOk E.P f as out) {ops:Array Oper} {Qa:St→Prop} {Q:Act→Prop} (g:Gh) (w:World) (hG:GOk E.P w g.A)
 (hQ:∀st' a',Qa st'→RepSt w g st' N pv a'→Q a') :
 ∀(l:List Oper) (st:St) (a:Act),RepSt w g st N pv a→(∀o∈l,mD N o.dst)→qU E F ops Qa l st→wpQuiet E.P ops (Cls w) Q l a
 | [],st,a,h,_,hK=>hQ st a hK h
 | o :: l,st,a,h,hd,hK=>by
   have hdo:mD N o.dst:=hd o (by simp)
   have ih:=fun st a h hK=>b5g (ops:=ops) hE hFn g w hG hQ l st a h (fun o ho=>hd o (by simp [ho])) hK
   obtain ⟨d,op,ty,pos,after,gd⟩:=o
   have quietP:∀(o:Oper) {v:Value},(∀w',Up w w'→(execOp a.eval o).run E.P w'=.ok (.value v) w')→∀w',Cls w w'→o.quietAt E.P a (Cls w) w' v:=by
    intro o v hv w' hw'
    unfold Oper.quietAt
    rw [hv w' hw'.2.2.2.2]
    exact ⟨rfl,rfl⟩
   have uJ:∀{st:St} (o:Oper) {f:Nat} {fo:Operand} {caps:List T} {args:Array Operand} {tys:Array TypeId} {as:List AV} {r:Value},RepSt w g st N pv a→o.op=.call ⟨.value fo,args,tys⟩→st.ev fo=.one (.c f caps)→sP st (evs st args.toList++caps.map .one)=some as →
    (∃as',F f as' ⟨.one (.v r),[],[],false⟩∧FzAs as as')→fit r=true∧∀w',Cls w w'→o.quietAt E.P a (Cls w) w' r:=by
    intro st o f fo caps args tys as r h ho hf has hF
    obtain ⟨hfn,hr,cvs,hv,hC⟩:=c0m h hG hFn hf has hF
    refine ⟨hr,fun w' hw'=>?_⟩
    unfold Oper.quietAt
    rw [b5n ho hv hfn w']
    refine ⟨rfl,(hC w' hw'.2.2.2.2 hw'.2.2.2.1).mono ?_⟩
    rintro e w2 ⟨he,h1,h2,h3,h4,h5⟩
    refine ⟨he,h1.trans hw'.1,h2.trans hw'.2.1,h3.trans hw'.2.2.1,Nat.le_trans hw'.2.2.2.1 h4,fun b hb=>(h5 b (Nat.lt_of_lt_of_le hb hw'.2.2.2.1)).trans (hw'.2.2.2.2 b hb)⟩
   have step:∀{st:St} (o:Oper),o.dst=d→o.op=op→o.type=ty→RepSt w g st N pv a→(bif Op.pureA op then opP E true op ty st fun a=>qU E F ops Qa l (st.set d a)
    else b1d E F op st fun a=>qU E F ops Qa l (st.set d a))→∃v,(∀w',Cls w w'→o.quietAt E.P a (Cls w) w' v)∧wpQuiet E.P ops (Cls w) Q l (a.put o.dst v):=by
    intro st o hd1 hop hty h hK
    subst hd1 hop hty
    cases hp:Op.pureA o.op with
    | true =>
      rw [hp] at hK
      simp only [cond_true] at hK
      obtain ⟨x,hx,hr⟩:=yM (o:=o) hE h rfl hK
      obtain ⟨v,hv,hr⟩:=hr rfl
      exact ⟨v,quietP _ hv,ih _ _ (h.put hr hdo) hx⟩
    | false =>
      rw [hp] at hK
      simp only [cond_false] at hK
      unfold b1d at hK
      split at hK
      · rename_i t x lo hi hop
        obtain ⟨r,hr,hv,hK⟩:=c5s (K:=fun a=>qU E F ops Qa l (st.set o.dst a)) hE h hop hK
        exact ⟨r,quietP _ (fun w' _=>hv w'),ih _ _ (h.put (av:=.one (.v r)) ⟨hr,rfl⟩ hdo) hK⟩
      · rename_i c hop0
        unfold b7s at hK
        split at hK
        · rename_i fo args tys hop
          have hop:=hop0.trans hop
          split at hK
          rotate_left
          · exact hK.elim
          rename_i f caps hf
          unfold c4z at hK
          split at hK
          rotate_left
          · exact hK.elim
          rename_i as has
          obtain ⟨as',r,hFr,hFz,hK⟩:=hK
          obtain ⟨h1,h2⟩:=uJ o h hop hf has ⟨as',hFr,hFz⟩
          exact ⟨r,h2,ih _ _ (h.put (av:=.one (.v r)) ⟨h1,rfl⟩ hdo) hK⟩
        · exact hK.elim
      · exact hK.elim
   cases gd with
   | none =>
     simp only [qU,nY] at hK
     unfold wpQuiet
     rw [if_pos (by rfl)]
     exact step ⟨d,op,ty,pos,after,none⟩ rfl rfl rfl h hK
   | some jw =>
     obtain ⟨j,want⟩:=jw
     simp only [qU,nY] at hK
     obtain ⟨gb,st1,hw,h,hK1,hK0⟩:=yS (o:=⟨d,op,ty,pos,after,some (j,want)⟩) h hK rfl
     unfold wpQuiet
     rw [hw]
     clear hw
     cases gb with
     | false =>
       rw [if_neg (by simp)]
       exact ih _ _ (h.put (av:=.may false .no) ⟨fun h=>(by cases h),fun _=>rfl⟩ hdo) (hK0 rfl)
     | true =>
       rw [if_pos rfl]
       exact step ⟨d,op,ty,pos,after,some (j,want)⟩ rfl rfl rfl h (hK1 rfl)
theorem b5i {ops:Array Oper} {Q:Exit→Act→World→Prop} {i:Nat} {K:Act→World→Prop} {d:Option Nat} {op:Op} {ty:TypeId} {pos:String} {after:Array Edge} (hi:ops[i]?=some ⟨d,op,ty,pos,after,none⟩)
 (h:(⟨d,op,ty,pos,after,none⟩:Oper).wp E.P a w K Q):wpOp E.P ops Q i K a w:=by
 unfold wpOp
 rw [hi]
 simp only
 rw [if_pos (by rfl)]
 exact .inl h
end Go.Ev
