/- Operations that turn something. -/
import Derived.Test.YtdjlkhhgaaddpaaGreatEvE
import Derived.Deep.AppendSrc
set_option linter.unusedSectionVars false
set_option linter.unusedVariables false
set_option linter.unusedSimpArgs false
namespace Go.Ev
open Go
variable {E:Env} {w w' w0:World} {A0:Fix} {g g':Gh} {st st':St} {N:Nat} {pv:List Value} {a:Act}
def SOk (E:Env) (w0:World) (A0:Fix) (N:Nat) (pv:List Value) (a:Act) (s:Sem Next) (w:World) (K:St→AV→Prop):Prop :=
 ∃st' av,K st' av∧∃nx v w' g',s.run E.P w=.ok nx w'∧(nx=.value v∨(nx=.skip∧v=undef))∧RepSt w' g' st' N pv a∧bL w' g' st' av v∧Fr w0 A0 w' g'
theorem c5z {v:Value} (h:fit v=true):Value.cells v=#[v]:=by cases v <;> first | rfl | cases h
theorem uT {av:AV} {v:Value} {l:List T} (h:av.cellsOf=some l) (hr:bL w g st av v):(Value.cells v).size=l.length∧∀(j:Nat) t u,l[j]?=some t→(Value.cells v)[j]?=some u→dU w g st t u:=by
 cases av with
 | one t =>
   cases h
   have h1:dU w g st t v:=hr
   rw [c5z h1.1]
   refine ⟨rfl,fun j t' u hj hu=>?_⟩
   cases j with
   | zero=>simp at hj hu;subst hj hu;exact h1
   | succ j=>simp at hj
 | agg l' =>
   cases h
   obtain ⟨cs,rfl,h1⟩:=hr
   exact h1
 | _=>cases h
theorem pB {P:Program} {e:TypeId} {cs:Array Value}:(newRow e cs).run P w=.ok ⟨w.heap.size,0,none⟩ { w with heap:=w.heap.push (.cells cs e) }:=by
 simp [newRow]
theorem c3j (h:RepSt w g st N pv a) (hF:Fr w0 A0 w g) {t:TypeId} {cs:Array Value} {row:List T} (hs:cs.size=row.length) (hr:∀(j:Nat) x u,row[j]?=some x→cs[j]?=some u→dU w g st x u)
 {K:St→AV→Prop} (hK:K (st.add ⟨row.length,true,[row],0⟩) (.one (.p st.ob.length [] 0 0 0))) {s:Sem Next}
 (hrun:s.run E.P w=.ok (.value (.pointer (some ⟨w.heap.size,0,none⟩))) { w with heap:=w.heap.push (.cells cs t) }):SOk E w0 A0 N pv a s w K:=by
 have hk:=Keeps.add (n:=cs.size) (ob:=⟨row.length,true,[row],0⟩) (w':={ w with heap:=w.heap.push (.cells cs t) }) h rfl
 have hst:RepSt { w with heap:=w.heap.push (.cells cs t) } (g.new st.ob.length w.heap.size cs.size) (st.add ⟨row.length,true,[row],0⟩) N pv a:=by
  refine h.addOb rfl ?_
  exact ⟨cs,t,row,rfl,rfl,by simp [Gh.new],by simp [Gh.new],by simp [Gh.new],by simp [Gh.new],hs,fun j x u hj hu=>(hr j x u hj hu).keeps hk⟩
 refine ⟨_,_,hK,_,_,_,_,hrun,.inl rfl,hst,⟨rfl,by simp [St.add],fun ob ho=>?_⟩,hF.add rfl rfl rfl rfl⟩
 rw [iJ] at ho
 cases ho
 exact ⟨by simp [Gh.new],by simp [Gh.new]⟩
theorem c1k (hE:EnvOk E) (h:RepSt w g st N pv a) (hF:Fr w0 A0 w g) {t:TypeId} {K:St→AV→Prop} {o:Oper} (ho:o.op=.alloc t)
 (hK:E.ti t fun ti=>∀m,m=st.ob.length→K (st.add ⟨ti.size,true,[ti.zero],0⟩) (.one (.p m [] 0 0 0))):SOk E w0 A0 N pv a (execOp a.eval o) w K:=by
 unfold Env.ti at hK
 split at hK
 · rename_i ti hti
   obtain ⟨z,h1,h2,h3,h4⟩:=(hE.ti t ti hti).zero
   replace hK:=hK _ rfl
   rw [←h3] at hK
   refine c3j h hF (t:=t) (cs:=z.cells) (row:=ti.zero) (by omega) (fun j x u hj hu=>?_) hK ?_
   · obtain ⟨q1,q2⟩:=h4 j u x hu hj
     refine ⟨q1,?_⟩
     rcases q2 with rfl | ⟨k,rfl,rfl⟩
     · exact rfl
     · exact ⟨rfl,none,rfl⟩
   · simp [execOp,ho,Instr.alloc,h1,newVar,pB]
 · exact hK.elim
theorem a5n {E:Env} {ty:Nat} {av:AV} {v:Value} (o:Operand) (hr:bL w g st av v):bL w g st (a3w E ty av o) v:=by
 unfold a3w
 split
 · exact a5m hr
 · exact hr
theorem d7a (h:RepSt w g st N pv a) (hF:Fr w0 A0 w g) {t:TypeId} {x:Operand} {K:St→AV→Prop} {o:Oper} (ho:o.op=.box t x)
 (hK:E.ti t fun ti=>match (a3w E t (st.evn x) x).cellsOf with
   | some cs=>Tr (Nat.beq cs.length ti.size) <| ∀m,m=st.ob.length→K (st.add ⟨ti.size,true,[cs],0⟩) (.one (.p m [] 0 0 0))
   | none=>False):SOk E w0 A0 N pv a (execOp a.eval o) w K:=by
 unfold Env.ti at hK
 split at hK
 · split at hK
   · rename_i ti hti cs hcs
     obtain ⟨h1,hK⟩:=hK.get
     have h1:=Nat.eq_of_beq_eq_true h1
     replace hK:=hK _ rfl
     rw [←h1] at hK
     obtain ⟨h2,h3⟩:=uT hcs (a5n x (jM h x))
     refine c3j h hF (t:=t) (cs:=(a.eval x).cells) (row:=cs) h2 h3 hK ?_
     simp [execOp,ho,Instr.box,newVar,pB]
   · exact hK.elim
 · exact hK.elim
theorem rE (h:RepSt w g st N pv a) (hF:Fr w0 A0 w g) {K:St→AV→Prop} {s:Sem Next} {av:AV} {v:Value} (hK:K st av) (hrun:s.run E.P w=.ok (.value v) w) (hr:bL w g st av v):SOk E w0 A0 N pv a s w K :=
 ⟨_,_,hK,_,v,w,g,hrun,.inl rfl,h,hr,hF⟩
theorem c0j (h:RepSt w g st N pv a):∀(xs:List Operand) (l:List T),a3x (evs st xs)=some l→xs.length=l.length∧∀(i:Nat) t x,l[i]?=some t→xs[i]?=some x→fit (a.eval x)=true∧dM w g st t (a.eval x)
 | [],l,hl=>by simp [evs,a3x] at hl;subst hl;simp
 | x :: xs,l,hl=>by
   simp only [evs,a3x] at hl
   split at hl
   · rename_i t r h1 h2
     cases hc:t.isC with
     | true=>rw [hc] at hl;cases hl
     | false =>
       rw [hc] at hl
       cases hl
       obtain ⟨q1,q2⟩:=c0j h xs r h2
       refine ⟨by simp [q1],fun i t' x' hi hx=>?_⟩
       cases i with
       | zero =>
         simp at hi hx
         subst hi hx
         have:=jM h x
         rw [h1] at this
         refine ⟨this.1,?_⟩
         have:=this.2
         cases t with
         | c _ _=>cases hc
         | _=>exact this
       | succ i=>exact q2 i t' x' (by simpa using hi) (by simpa using hx)
   · cases hl
theorem c1y (h:RepSt w g st N pv a) (hF:Fr w0 A0 w g) {f:FuncId} {fs cs:Array Operand} {K:St→AV→Prop} {o:Oper} (ho:o.op=.makeFunc (.func f) fs cs) (hf:fs.toList=[]) {l:List T} (hl:a3x (evs st cs.toList)=some l)
 (hK:K st (.one (.c f l))):SOk E w0 A0 N pv a (execOp a.eval o) w K:=by
 have hfs:fs=#[]:=by cases fs;simp_all
 subst hfs
 obtain ⟨h1,h2⟩:=c0j h cs.toList l hl
 refine rE h hF (v:=.func (.func f) #[] (cs.map a.eval)) hK (by simp [execOp,ho,Instr.makeFunc]) ⟨rfl,cs.map a.eval,rfl,by simpa using h1,fun i t u hi hu=>?_⟩
 simp only [Array.getElem?_map] at hu
 cases hx:cs[i]? with
 | none=>simp [hx] at hu
 | some x =>
   simp only [hx,Option.map_some,Option.some.injEq] at hu
   subst hu
   exact h2 i t x hi (by simpa using hx)
theorem mI (h:RepSt w g st N pv a) {x:Option Operand} {d:Int} {K:Int→Prop} (hK:pZ st x d K):∃n,K n∧((x=none∧n=d)∨∃y k,x=some y∧a.eval y=.int k n):=by
 unfold pZ at hK
 split at hK
 · exact ⟨d,hK,.inl ⟨rfl,rfl⟩⟩
 · rename_i y
   split at hK
   · rename_i k n he
     refine ⟨n,hK,.inr ⟨y,k,rfl,?_⟩⟩
     have:=iQ h y
     rw [he] at this
     exact this.2
   · exact hK.elim
theorem jK {P:Program} {isSl:Bool} {len cap:Nat} {lo hi:Option Value} {l h:Int} (hlo:lo=none∧l=0∨∃k,lo=some (.int k l)) (hhi:hi=none∧h=(len:Int)∨∃k,hi=some (.int k h)) (h0:0≤l) (h1:l≤h) (h2:h≤(len:Int)) (hc:len≤cap) :
 (Instr.sliceBounds isSl len cap lo hi none).run P w=.ok (l.toNat,h.toNat,cap) w:=by
 have hh:h≤(cap:Int):=by omega
 have hl:l≤((h.toNat:Nat):Int):=by omega
 have hl':l≤max h 0:=by omega
 have hh0:0≤h:=by omega
 rcases hhi with ⟨rfl,rfl⟩ | ⟨k,rfl⟩
 · rcases hlo with ⟨rfl,rfl⟩ | ⟨k',rfl⟩
   · simp [Instr.sliceBounds]
   · simp [Instr.sliceBounds,Instr.sliceBound,asIntOf,h0,h1]
 · rcases hlo with ⟨rfl,rfl⟩ | ⟨k',rfl⟩
   · simp [Instr.sliceBounds,Instr.sliceBound,asIntOf,hh0,hh]
   · simp [Instr.sliceBounds,Instr.sliceBound,asIntOf,hh0,hh,h0,hl']
theorem c7x (hE:EnvOk E) (h:RepSt w g st N pv a) (hF:Fr w0 A0 w g) {t:TypeId} {x:Operand} {lo hi:Option Operand} {ty:TypeId} {K:St→AV→Prop} {F:Nat→List AV→Out→Prop} {o:Oper} (ho:o.op=.slice t x lo hi none)
 (hK:opS E F (.slice t x lo hi none) ty st K):SOk E w0 A0 N pv a (execOp a.eval o) w K:=by
 simp only [opS] at hK
 unfold Env.ti at hK
 split at hK
 rotate_left
 · exact hK.elim
 rename_i ti hti
 have hT:=hE.ti t ti hti
 obtain ⟨l,hK,hlo⟩:=mI h hK
 have hlo':(lo.map a.eval)=none∧l=0∨∃k,(lo.map a.eval)=some (.int k l):=by
  rcases hlo with ⟨rfl,rfl⟩ | ⟨y,k,rfl,e⟩
  · exact .inl ⟨rfl,rfl⟩
  · exact .inr ⟨k,by simp [e]⟩
 have hx:=iQ h x
 have exec:execOp a.eval o=(do let v ←Instr.sliceAt t (a.eval x) (lo.map a.eval) (hi.map a.eval) none;pure (Next.value v)):=by simp [execOp,ho]
 split at hK
 · rename_i s he
   rw [he] at hx
   have hft:fit (a.eval x)=true:=hx.1
   have hx:a.eval x=.string s:=hx.2
   rw [hx] at hft
   obtain ⟨hk,hK⟩:=hK.get
   have hk:=Nat.eq_of_beq_eq_true hk
   obtain ⟨hh,⟨⟨b0,b1,b2⟩,hK⟩,hhi⟩:=mI h hK
   have hhi':(hi.map a.eval)=none∧hh=((s.size:Nat):Int)∨∃k,(hi.map a.eval)=some (.int k hh):=by
    rcases hhi with ⟨rfl,rfl⟩ | ⟨y,k,rfl,e⟩
    · exact .inl ⟨rfl,rfl⟩
    · exact .inr ⟨k,by simp [e]⟩
   have hu:=hT.string hk
   refine rE h hF hK (v:=.string (s.extract l.toNat hh.toNat)) ?_ ⟨mO (m:=s.size) hft (by simp;omega),rfl⟩
   rw [exec]
   simp [Instr.sliceAt,run_underlying hu,Instr.slice,hx,jK hlo' hhi' b0 b1 b2 (Nat.le_refl _)]
 · rename_i o' k rows he
   rw [he] at hx
   obtain ⟨hft,hx⟩:=(show dU w g st (.s o' k rows) (a.eval x) from hx)
   obtain ⟨hk,hK⟩:=hK.get
   simp only [Bool.and_eq_true,Nat.beq_eq] at hk
   obtain ⟨hk,hsz⟩:=hk
   obtain ⟨hh,⟨⟨b0,b1,b2⟩,hK⟩,hhi⟩:=mI h hK
   have hhi':(hi.map a.eval)=none∧hh=((rows.length:Nat):Int)∨∃k,(hi.map a.eval)=some (.int k hh):=by
    rcases hhi with ⟨rfl,rfl⟩ | ⟨y,k,rfl,e⟩
    · exact .inl ⟨rfl,rfl⟩
    · exact .inr ⟨k,by simp [e]⟩
   obtain ⟨hu,hs⟩:=hT.slice hk
   have run:∀ad c,rows.length≤c→a.eval x=.slice ad rows.length c→(execOp a.eval o).run E.P w=.ok (.value (.slice (if c=l.toNat then ad else ad.map fun x=>x.add (l.toNat*ti.esz)) (hh.toNat - l.toNat) (c - l.toNat))) w:=by
    intro ad c hc e
    rw [exec]
    simp [Instr.sliceAt,run_underlying hu,Instr.slice,e,jK hlo' hhi' b0 b1 b2 hc,hs]
   cases o' with
   | true =>
     obtain ⟨rfl,ad,e⟩:=hx
     have hz:l.toNat=0∧hh.toNat=0:=by simp at b2;omega
     refine rE h hF (hK _ rfl) (run ad 0 (by simp) e) ⟨by simp [fit,hz],by simp,if 0=l.toNat then ad else ad.map fun x=>x.add (l.toNat*ti.esz),by simp [hz]⟩
   | false =>
     have hx:Fz w g.A (a.eval x) (.s false k rows):=hx
     generalize hv:a.eval x=v at hx
     have hlen:((rows.drop l.toNat).take (hh.toNat - l.toNat)).length=hh.toNat - l.toNat:=by simp;omega
     cases hx with
     | nil ad c =>
       have hz:l.toNat=0∧hh.toNat=0:=by simp at b2;omega
       refine rE h hF (hK _ rfl) (run ad c (by simp) hv) ⟨by simp [fit,hz],?_⟩
       simp only [hz]
       exact Fz.nil _ _ false k
     | s b f c _ _ _ vals hA hb hlc hln hk' hc ht =>
       refine rE h hF (hK _ rfl) (run _ c hlc hv) ⟨mO hln (by omega),?_⟩
       show Fz w g.A _ (.s false k ((rows.drop l.toNat).take (hh.toNat - l.toNat)))
       by_cases hz:hh.toNat - l.toNat=0
       · rw [hz];exact Fz.nil _ _ false k
       · have hne:c≠l.toNat:=by omega
         rw [if_neg hne]
         simp only [Option.map_some,lT]
         have:=Fz.s (w:=w) (A:=g.A) b (f+l.toNat*ti.esz) (c - l.toNat) false k ((rows.drop l.toNat).take (hh.toNat - l.toNat)) (fun i j=>vals (l.toNat+i) j) hA hb (by omega) (mO hln (by omega)) (fun r hr=>hk' r (List.mem_of_mem_drop (List.mem_of_mem_take hr))) (fun i j hi hj=>?_) (fun i j r t hr ht'=>?_)
         · rw [hlen] at this
           exact this
         · have:=hc (l.toNat+i) j (by omega) hj
           rw [←this,hsz,Nat.add_mul]
           congr 2
           omega
         · have hi:i < hh.toNat - l.toNat:=by have:=(List.getElem?_eq_some_iff.1 hr).1;omega
           rw [List.getElem?_take,if_pos hi,List.getElem?_drop] at hr
           exact ht _ _ _ _ hr ht'
 · rename_i id ep l0 len he
   split at hK
   rotate_left
   · exact hK.elim
   rename_i ob hob
   rw [he] at hx
   have hft:fit (a.eval x)=true:=hx.1
   obtain ⟨hid,hx⟩:=(show dM w g st (.n id [] ep l0 len) (a.eval x) from hx.2)
   obtain ⟨hbox,_,ad,c,e,hlc,hlr,hcc⟩:=hx ob hob
   obtain ⟨hk,hK⟩:=hK.get
   simp only [Bool.and_eq_true,Nat.beq_eq] at hk
   obtain ⟨hk,hsz⟩:=hk
   obtain ⟨hh,⟨⟨b0,b1,b2⟩,hK⟩,hhi⟩:=mI h hK
   have hhi':(hi.map a.eval)=none∧hh=((len:Nat):Int)∨∃k,(hi.map a.eval)=some (.int k hh):=by
    rcases hhi with ⟨rfl,rfl⟩ | ⟨y,k,rfl,e⟩
    · exact .inl ⟨rfl,rfl⟩
    · exact .inr ⟨k,by simp [e]⟩
   obtain ⟨hu,hs⟩:=hT.slice hk
   refine rE h hF hK (v:=.slice (if c=l.toNat then ad else ad.map fun x=>x.add (l.toNat*ti.esz)) (hh.toNat - l.toNat) (c - l.toNat)) ?_ ⟨by rw [e] at hft;exact mO (m:=len) hft (by omega),hid,fun ob' ho'=>?_⟩
   · rw [exec]
     simp [Instr.sliceAt,run_underlying hu,Instr.slice,e,jK hlo' hhi' b0 b1 b2 hlc,hs]
   · rw [hob] at ho'
     cases ho'
     refine ⟨hbox,(fun h=>by cases h),_,_,rfl,by omega,by omega,?_⟩
     by_cases hz:c=l.toNat
     · exact .inl (by omega)
     · rw [if_neg hz]
       rcases hcc with rfl | ⟨rfl,q1,q2⟩
       · exact .inl (by omega)
       · refine .inr ⟨?_,q1,?_⟩
         · simp only [Option.map_some,lT,hsz,Nat.add_mul,Nat.add_assoc]
         · have:l0+l.toNat+(c - l.toNat)=l0+c:=by omega
           rw [this];exact q2
 · rename_i id row off ep l0 len he
   split at hK
   rotate_left
   · exact hK.elim
   rename_i ob hob
   rw [he] at hx
   have hft:fit (a.eval x)=true:=hx.1
   obtain ⟨hid,hx⟩:=(show dM w g st (.n id [(row,off)] ep l0 len) (a.eval x) from hx.2)
   obtain ⟨hk,hK⟩:=hK.get
   simp only [Bool.and_eq_true,Nat.beq_eq,Bool.not_eq_true'] at hk
   obtain ⟨hk,hbox,hep⟩:=hk
   obtain ⟨_,hx⟩:=hx ob hob hbox
   obtain ⟨hlb,hcell,hrow⟩:=hx hep
   have hr:ob.rows[row]?=some ob.rows[row]:=by simp [hrow]
   have hK:=hK _ (fun _=>hr)
   unfold b0z at hK
   split at hK
   rotate_left
   · exact hK.elim
   rename_i k rows tl hd
   have hc:ob.rows[row][off]?=some (.s true k rows):=by
    have:(ob.rows[row].drop off)[0]?=some (.s true k rows):=by rw [hd];rfl
    simpa using this
   obtain ⟨hsz,hK⟩:=hK.get
   have hsz:=Nat.eq_of_beq_eq_true hsz
   have hO:=h.ob id ob hob
   unfold fY at hO
   rw [hbox] at hO
   rcases hO with ⟨hz,_⟩ | ⟨cs,e,vals,Sub,r1,r2,r3,r4,hM⟩
   · rw [hz] at hrow;simp at hrow
   have hrl:ob.rows[row].length=ob.k:=hM.hk _ (List.getElem_mem hrow)
   have hoff:off < ob.k:=by rw [←hrl];exact (List.getElem?_eq_some_iff.1 hc).1
   have hv:=hM.hv row off hrow hoff
   have hOw:=hM.ht row off _ _ hr hc
   have hev:a.eval x=vals row off:=by
    have:w.cell? ⟨g.β id,g.ω id+row*ob.k+off,none⟩=some (vals row off):=by simp [World.cell?,r1,hv]
    rw [hcell] at this;exact Option.some.inj this
   obtain ⟨ad,c,e,hlc⟩:∃ad c,a.eval x=.slice ad rows.length c∧rows.length≤c:=by
    rw [hev]
    generalize vals row off=u at hOw
    cases hOw with
    | nil=>exact ⟨_,0,rfl,Nat.le_refl _⟩
    | s S b f c _ _ _ _ _ _ _ _ _ hl=>exact ⟨_,c,rfl,hl⟩
   obtain ⟨hh,⟨⟨b0,b1,b2⟩,hK⟩,hhi⟩:=mI h hK
   have hhi':(hi.map a.eval)=none∧hh=((rows.length:Nat):Int)∨∃k,(hi.map a.eval)=some (.int k hh):=by
    rcases hhi with ⟨rfl,rfl⟩ | ⟨y,k,rfl,e⟩
    · exact .inl ⟨rfl,rfl⟩
    · exact .inr ⟨k,by simp [e]⟩
   obtain ⟨hu,hs⟩:=hT.slice hk
   rw [hsz] at hs
   refine rE h hF hK (v:=.slice (if c=l.toNat then ad else ad.map fun x=>x.add (l.toNat*k)) (hh.toNat - l.toNat) (c - l.toNat)) ?_ ⟨by rw [e] at hft;exact mO (m:=rows.length) hft (by omega),hid,by omega,ad,c,rfl,fun ob' ho' hb'=>?_⟩
   · rw [exec]
     simp [Instr.sliceAt,run_underlying hu,Instr.slice,e,jK hlo' hhi' b0 b1 b2 hlc,hs]
   · rw [hob] at ho'
     cases ho'
     exact ⟨by omega,fun _=>⟨hlb,by rw [←e];exact hcell,hrow⟩⟩
 · exact hK.elim
end Go.Ev
