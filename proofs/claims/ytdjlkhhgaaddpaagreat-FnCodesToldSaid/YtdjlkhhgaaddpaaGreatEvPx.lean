/- Regions that draw their order: each order. -/
import Derived.Test.YtdjlkhhgaaddpaaGreatEvPh
set_option linter.unusedSectionVars false
set_option linter.unusedVariables false
set_option linter.unusedSimpArgs false
namespace Go.Ev
open Go
open Classical
variable {E:Env} {w w' w0:World} {A0:Fix} {g g':Gh} {st st':St} {N:Nat} {pv:List Value} {a:Act}
theorem a1o (hE:EnvOk E) (h:RepSt w g st N pv a) {ty:TypeId} {K:AV→Prop} {o:Oper} (hK:b0v E o.op o.type st K) :
 ∃x v,K x∧(∀w',(execOp a.eval o).run E.P w'=.ok (.value v) w')∧bL w g st x v:=by
 have mv:∀{x:Operand},(∀w',(execOp a.eval o).run E.P w'=.ok (.value (a.eval x)) w')→yN E o.type K (st.ev x) x→∃x v,K x∧(∀w',(execOp a.eval o).run E.P w'=.ok (.value v) w')∧bL w g st x v:=by
  intro x hrun hK
  unfold yN at hK
  split at hK
  · exact ⟨_,_,hK,hrun,a5m (iQ h _)⟩
  · exact ⟨_,_,hK,hrun,iQ h _⟩
 have lift:∀{s:Sem Value},(execOp a.eval o=do let v ←s;pure (Next.value v))→b5f E.P w g st true s K→∃x v,K x∧(∀w',(execOp a.eval o).run E.P w'=.ok (.value v) w')∧bL w g st x v:=by
  intro s he ⟨x,hK,hx⟩
  obtain ⟨v,hv,hr⟩:=hx rfl
  exact ⟨x,v,hK,fun w'=>by rw [he];simp [hv w'],hr⟩
 generalize hop:o.op=op at hK
 unfold b0v at hK
 split at hK
 · exact mv (fun w'=>by simp [execOp,hop]) hK
 · exact mv (fun w'=>by simp [execOp,hop]) hK
 · exact lift (by simp [execOp,hop]) (b1j hE hK (fun _=>iQ h _))
 · exact lift (by simp [execOp,hop]) (a8t hE hK (fun _=>iQ h _) (fun _=>iQ h _))
 · rename_i op' t x y yt
   exact lift (by simp [execOp,hop]) (b8u (ox:=x) (oy:=y) hE hK (fun _=>jM h _) (fun _=>jM h _))
 · rename_i x i
   unfold yO at hK
   split at hK
   rotate_left
   · exact hK.elim
   rename_i l he
   cases hi:l[i]? with
   | none=>simp [hi] at hK
   | some y =>
     simp only [hi] at hK
     have hr:=iQ h x
     rw [he] at hr
     obtain ⟨vs,e,hs,hr⟩:=(show ∃vs:Array Value,a.eval x=.tuple vs∧vs.size=l.length∧∀(j:Nat) a u,l[j]?=some a→vs[j]?=some u→xB w g st a u from hr)
     have hlt:i < l.length:=(List.getElem?_eq_some_iff.1 hi).1
     have hv:vs[i]?=some vs[i]:=by simp [show i < vs.size by omega]
     refine ⟨_,vs[i],hK,fun w'=>by simp [execOp,hop,e,Instr.extract,hv],?_⟩
     have:=hr i y _ hi hv
     match y,this with
     | .one t,h=>exact h
     | .agg l,h=>exact h
     | .lit b,h=>exact h
     | .no,h=>exact trivial
 · rename_i t x lo hi
   unfold Env.ti at hK
   split at hK
   rotate_left
   · exact hK.elim
   rename_i ti hti
   have hT:=hE.ti t ti hti
   obtain ⟨l,hK,hlo⟩:=mI h hK
   have hlo':(lo.map a.eval)=none∧l=0∨∃k,(lo.map a.eval)=some (.int k l):=by
    rcases hlo with ⟨rfl,rfl⟩ | ⟨y,k,rfl,e⟩
    · exact .inl ⟨rfl,rfl⟩
    · exact .inr ⟨k,by simp [e]⟩
   have hx:=iQ h x
   have exec:execOp a.eval o=(do let v ←Instr.sliceAt t (a.eval x) (lo.map a.eval) (hi.map a.eval) none;pure (Next.value v)):=by simp [execOp,hop]
   split at hK
   · rename_i id ep l0 len he
     split at hK
     rotate_left
     · exact hK.elim
     rename_i ob hob
     rw [he] at hx
     have hft:fit (a.eval x)=true:=hx.1
     obtain ⟨hid,hx⟩:=(show dM w g st (.n id [] ep l0 len) (a.eval x) from hx.2)
     obtain ⟨hbox,_,ad,c,e,hlc,hlr,hcc⟩:=hx ob hob
     obtain ⟨hk,hK⟩:=hK.get
     simp only [Bool.and_eq_true,Nat.beq_eq] at hk
     obtain ⟨hk,hsz⟩:=hk
     obtain ⟨hh,⟨⟨b0,b1,b2⟩,hK⟩,hhi⟩:=mI h hK
     have hhi':(hi.map a.eval)=none∧hh=((len:Nat):Int)∨∃k,(hi.map a.eval)=some (.int k hh):=by
      rcases hhi with ⟨rfl,rfl⟩ | ⟨y,k,rfl,e⟩
      · exact .inl ⟨rfl,rfl⟩
      · exact .inr ⟨k,by simp [e]⟩
     obtain ⟨hu,hs⟩:=hT.slice hk
     refine ⟨_,.slice (if c=l.toNat then ad else ad.map fun x=>x.add (l.toNat*ti.esz)) (hh.toNat - l.toNat) (c - l.toNat),hK,fun w'=>?_,⟨by rw [e] at hft;exact mO (m:=len) hft (by omega),hid,fun ob' ho'=>?_⟩⟩
     · rw [exec]
       simp [Instr.sliceAt,run_underlying hu,Instr.slice,e,jK hlo' hhi' b0 b1 b2 hlc,hs]
     · rw [hob] at ho'
       cases ho'
       refine ⟨hbox,(fun h=>by cases h),_,_,rfl,by omega,by omega,?_⟩
       by_cases hz:c=l.toNat
       · exact .inl (by omega)
       · rw [if_neg hz]
         rcases hcc with rfl | ⟨rfl,q1,q2⟩
         · exact .inl (by omega)
         · refine .inr ⟨?_,q1,?_⟩
           · simp only [Option.map_some,lT,hsz,Nat.add_mul,Nat.add_assoc]
           · have:l0+l.toNat+(c - l.toNat)=l0+c:=by omega
             rw [this];exact q2
   · rename_i k rows he
     rw [he] at hx
     obtain ⟨hft,hx⟩:=(show dU w g st (.s false k rows) (a.eval x) from hx)
     obtain ⟨hk,hK⟩:=hK.get
     simp only [Bool.and_eq_true,Nat.beq_eq] at hk
     obtain ⟨hk,hsz⟩:=hk
     obtain ⟨hh,⟨⟨b0,b1,b2⟩,hK⟩,hhi⟩:=mI h hK
     have hhi':(hi.map a.eval)=none∧hh=((rows.length:Nat):Int)∨∃k,(hi.map a.eval)=some (.int k hh):=by
      rcases hhi with ⟨rfl,rfl⟩ | ⟨y,k,rfl,e⟩
      · exact .inl ⟨rfl,rfl⟩
      · exact .inr ⟨k,by simp [e]⟩
     obtain ⟨hu,hs⟩:=hT.slice hk
     have run:∀ad c,rows.length≤c→a.eval x=.slice ad rows.length c→∀w',(execOp a.eval o).run E.P w'=.ok (.value (.slice (if c=l.toNat then ad else ad.map fun x=>x.add (l.toNat*ti.esz)) (hh.toNat - l.toNat) (c - l.toNat))) w':=by
      intro ad c hc e w'
      rw [exec]
      simp [Instr.sliceAt,run_underlying hu,Instr.slice,e,jK hlo' hhi' b0 b1 b2 hc,hs]
     have hx:Fz w g.A (a.eval x) (.s false k rows):=hx
     generalize hv:a.eval x=v at hx
     have hlen:((rows.drop l.toNat).take (hh.toNat - l.toNat)).length=hh.toNat - l.toNat:=by simp;omega
     cases hx with
     | nil ad c =>
       have hz:l.toNat=0∧hh.toNat=0:=by simp at b2;omega
       refine ⟨_,_,hK _ rfl,run ad c (by simp) hv,⟨by simp [fit,hz],?_⟩⟩
       simp only [hz]
       exact Fz.nil _ _ false k
     | s b f c _ _ _ vals hA hb hlc hln hk' hc ht =>
       refine ⟨_,_,hK _ rfl,run _ c hlc hv,⟨mO hln (by omega),?_⟩⟩
       show Fz w g.A _ (.s false k ((rows.drop l.toNat).take (hh.toNat - l.toNat)))
       by_cases hz:hh.toNat - l.toNat=0
       · rw [hz];exact Fz.nil _ _ false k
       · have hne:c≠l.toNat:=by omega
         rw [if_neg hne]
         simp only [Option.map_some,lT]
         have:=Fz.s (w:=w) (A:=g.A) b (f+l.toNat*ti.esz) (c - l.toNat) false k ((rows.drop l.toNat).take (hh.toNat - l.toNat)) (fun i j=>vals (l.toNat+i) j) hA hb (by omega) (mO hln (by omega)) (fun r hr=>hk' r (List.mem_of_mem_drop (List.mem_of_mem_take hr))) (fun i j hi hj=>?_) (fun i j r t hr ht'=>?_)
         · rw [hlen] at this
           exact this
         · have:=hc (l.toNat+i) j (by omega) hj
           rw [←this,hsz,Nat.add_mul]
           congr 2
           omega
         · have hi:i < hh.toNat - l.toNat:=by have:=(List.getElem?_eq_some_iff.1 hr).1;omega
           rw [List.getElem?_take,if_pos hi,List.getElem?_drop] at hr
           exact ht _ _ _ _ hr ht'
   · rename_i id row off ep l0 len he
     split at hK
     rotate_left
     · exact hK.elim
     rename_i ob hob
     rw [he] at hx
     have hft:fit (a.eval x)=true:=hx.1
     obtain ⟨hid,hx⟩:=(show dM w g st (.n id [(row,off)] ep l0 len) (a.eval x) from hx.2)
     obtain ⟨hk,hK⟩:=hK.get
     simp only [Bool.and_eq_true,Nat.beq_eq,Bool.not_eq_true'] at hk
     obtain ⟨hk,hbox,hep⟩:=hk
     obtain ⟨_,hx⟩:=hx ob hob hbox
     obtain ⟨hlb,hcell,hrow⟩:=hx hep
     have hr:ob.rows[row]?=some ob.rows[row]:=by simp [hrow]
     have hK:=hK _ (fun _=>hr)
     unfold b0z at hK
     split at hK
     rotate_left
     · exact hK.elim
     rename_i k rows tl hd
     have hc:ob.rows[row][off]?=some (.s true k rows):=by
      have:(ob.rows[row].drop off)[0]?=some (.s true k rows):=by rw [hd];rfl
      simpa using this
     obtain ⟨hsz,hK⟩:=hK.get
     have hsz:=Nat.eq_of_beq_eq_true hsz
     have hO:=h.ob id ob hob
     unfold fY at hO
     rw [hbox] at hO
     rcases hO with ⟨hz,_⟩ | ⟨cs,e,vals,Sub,r1,r2,r3,r4,hM⟩
     · rw [hz] at hrow;simp at hrow
     have hrl:ob.rows[row].length=ob.k:=hM.hk _ (List.getElem_mem hrow)
     have hoff:off < ob.k:=by rw [←hrl];exact (List.getElem?_eq_some_iff.1 hc).1
     have hv:=hM.hv row off hrow hoff
     have hOw:=hM.ht row off _ _ hr hc
     have hev:a.eval x=vals row off:=by
      have:w.cell? ⟨g.β id,g.ω id+row*ob.k+off,none⟩=some (vals row off):=by simp [World.cell?,r1,hv]
      rw [hcell] at this;exact Option.some.inj this
     obtain ⟨ad,c,e,hlc⟩:∃ad c,a.eval x=.slice ad rows.length c∧rows.length≤c:=by
      rw [hev]
      generalize vals row off=u at hOw
      cases hOw with
      | nil=>exact ⟨_,0,rfl,Nat.le_refl _⟩
      | s S b f c _ _ _ _ _ _ _ _ _ hl=>exact ⟨_,c,rfl,hl⟩
     obtain ⟨hh,⟨⟨b0,b1,b2⟩,hK⟩,hhi⟩:=mI h hK
     have hhi':(hi.map a.eval)=none∧hh=((rows.length:Nat):Int)∨∃k,(hi.map a.eval)=some (.int k hh):=by
      rcases hhi with ⟨rfl,rfl⟩ | ⟨y,k,rfl,e⟩
      · exact .inl ⟨rfl,rfl⟩
      · exact .inr ⟨k,by simp [e]⟩
     obtain ⟨hu,hs⟩:=hT.slice hk
     rw [hsz] at hs
     refine ⟨_,.slice (if c=l.toNat then ad else ad.map fun x=>x.add (l.toNat*k)) (hh.toNat - l.toNat) (c - l.toNat),hK,fun w'=>?_,⟨by rw [e] at hft;exact mO (m:=rows.length) hft (by omega),hid,by omega,ad,c,rfl,fun ob' ho' hb'=>?_⟩⟩
     · rw [exec]
       simp [Instr.sliceAt,run_underlying hu,Instr.slice,e,jK hlo' hhi' b0 b1 b2 hlc,hs]
     · rw [hob] at ho'
       cases ho'
       exact ⟨by omega,fun _=>⟨hlb,by rw [←e];exact hcell,hrow⟩⟩
   · obtain ⟨v,hf,hv,hK⟩:=b8j h hop hT.string hlo' hK
     exact ⟨_,v,hK,hv,hf,rfl⟩
 · exact hK.elim
theorem c3n {P:Program} {ops:Array Oper} {md:Region.Mode} {G:World→World→Prop} {S:World→Prop} {Q:Exit→Act→World→Prop} {n:Nat} {T:Array Bool→Act→World→Prop} {i j f:Nat} {listed:Array Bool} {a:Act} {w:World} (hr:Region.ready md ops listed=[i,j]) (hin:i < n) (hjn:j < n)
 (h:∀w',G w w'→S w'→wpOp P ops Q i (fun a' w1=>S w1∧mE P md ops Q n G S T f (listed.setIfInBounds i true) a' w1) a w')
 (h2:∀w',G w w'→S w'→wpOp P ops Q j (fun a' w1=>S w1∧mE P md ops Q n G S T f (listed.setIfInBounds j true) a' w1) a w'):mE P md ops Q n G S T (f+1) listed a w:=by
 intro w' hG hS
 rw [hr]
 refine ⟨by simp,fun k hk=>?_⟩
 rcases List.mem_cons.1 hk with rfl | hk
 · exact ⟨hin,h w' hG hS⟩
 · obtain rfl:=List.mem_singleton.1 hk
   exact ⟨hjn,h2 w' hG hS⟩
theorem d3c (hE:EnvOk E) (hG:GOk E.P w0 (A0.G w0)) {F:Nat→List AV→Out→Prop} (hFn:∀f as out,F f as out→FnOk E.P f as out) {ops:Array Oper} {Q:Exit→Act→World→Prop} {K:St→Prop} {next:Act→World→Prop} {i:Nat}
 (hd:∀o∈ops.toList,mD N o.dst) (h:RepSt w g st N pv a) (hF:Fr w0 A0 w g) (hK:d6a E F st K ops.toList[i]?) (hn:∀st' a' w' g',K st'→RepSt w' g' st' N pv a'→Fr w0 A0 w' g'→next a' w'):wpOp E.P ops Q i next a w:=by
 cases hi:ops.toList[i]? with
 | none=>rw [hi] at hK;exact hK.elim
 | some o =>
   have hia:ops[i]?=some o:=by simpa using hi
   have hdo:mD N o.dst:=hd o (List.mem_of_getElem? hi)
   rw [hi] at hK
   obtain ⟨d,op,ty,pos,after,gd⟩:=o
   cases gd with
   | some jw=>exact hK.elim
   | none =>
     simp only [d6a,nY] at hK
     refine b5i hia ?_
     cases hpu:Op.pureA op with
     | true =>
       rw [hpu] at hK
       simp only [cond_true] at hK
       obtain ⟨x,hx,hr'⟩:=yM (o:=⟨d,op,ty,pos,after,none⟩) hE h rfl hK
       obtain ⟨v,hv,hr'⟩:=hr' rfl
       unfold Oper.wp
       rw [hv w (.refl w)]
       exact hn _ _ _ g hx (h.put hr' hdo) hF
     | false =>
       rw [hpu] at hK
       simp only [cond_false] at hK
       exact b1h (o:=⟨d,op,ty,pos,after,none⟩) hE h hF hG hFn hK (fun st' av v w' g' hK' hR hA hF'=>hn _ _ _ g' hK' (hR.put hA hdo) hF')
end Go.Ev
