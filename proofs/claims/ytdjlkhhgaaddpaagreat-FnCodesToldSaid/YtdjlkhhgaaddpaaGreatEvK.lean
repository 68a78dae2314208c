/- append, the law. -/
import Derived.Test.YtdjlkhhgaaddpaaGreatEvJ
set_option linter.unusedSectionVars false
set_option linter.unusedVariables false
set_option linter.unusedSimpArgs false
namespace Go.Ev
open Go
open Classical
variable {E:Env} {w w' w0:World} {A0:Fix} {g g':Gh} {st st':St} {N:Nat} {pv:List Value} {a:Act}
theorem RepSt.addEmpty (h:RepSt w g st N pv a) (k:Nat):RepSt w g (st.add ⟨k,false,[],0⟩) N pv a:=by
 have hK:Keeps w g st w g (st.add ⟨k,false,[],0⟩):=by
  refine ⟨fun _ h _=>⟨h,rfl⟩,by simp [St.add],fun j ob' hj ho=>?_,fun j ob' hj ho ob1 h1=>?_,fun _ _ _ _=>⟨rfl,rfl,rfl,fun h=>h⟩⟩
  · rw [dX hj] at ho
    exact ⟨ob',ho,rfl,rfl,rfl⟩
  · rw [dX hj,h1] at ho
    cases ho
    exact ⟨Nat.le_refl _,fun _ _ _=>rfl⟩
 refine ⟨h.size,h.defers,fun i=>(h.tm i).keeps hK,fun j ob ho=>?_,fun x i hx=>?_,h.pr.1,fun i t u hi hu=>(h.pr.2 i t u hi hu).keeps hK⟩
 · have hj:=nF ho
   simp only [St.add,List.length_append,List.length_cons,List.length_nil] at hj
   by_cases he:j=st.ob.length
   · subst he
     rw [iJ] at ho
     cases ho
     refine .inl ⟨rfl,fun hl=>?_⟩
     have:=(h.lab _ _ hl).2
     omega
   · rw [dX (by omega)] at ho
     exact (h.ob j ob ho).keeps hK ⟨rfl,rfl,rfl⟩ (fun x hx _=>⟨hx,rfl⟩) (fun hn=>hn)
 · have:=h.lab x i hx
   exact ⟨this.1,by simp [St.add];omega⟩
theorem c2k (h:RepSt w g st N pv a) (hF:Fr w0 A0 w g) {k:Nat} {K:St→AV→Prop} (hK:K (st.add ⟨k,false,[],0⟩) (.one (.n st.ob.length [] 1 0 0))) {s:Sem Next} {ad:Option Addr} {c:Nat} (hc:c=0) (hrun:s.run E.P w=.ok (.value (.slice ad 0 c)) w) :
 SOk E w0 A0 N pv a s w K:=by
 subst hc
 refine ⟨_,_,hK,_,_,w,g,hrun,.inl rfl,h.addEmpty k,⟨rfl,by simp [St.add],fun ob ho=>?_⟩,hF⟩
 rw [iJ] at ho
 cases ho
 exact ⟨rfl,(fun _=>⟨rfl,rfl⟩),ad,0,rfl,Nat.le_refl _,by simp,.inl rfl⟩
theorem wZ {te:TI} {t tx e:TypeId} (hTe:TIok E.P e te) (ht:E.P.underlying t=some (.slice e)) (hs:0 < te.size) (h:RepSt w g st N pv a) (hF:Fr w0 A0 w g) {y:Value} {ys:List (List T)} (hR:SrcR E w g st st' te.size tx y ys)
 (hb:ys.length*te.bytes≤140737488355328∧ys.length≤9223372036854775807) {st2:St} (hk2:Kills st' st2) {K:St→AV→Prop} (hK:K (st2.add ⟨te.size,false,ys,0⟩) (.one (.n st2.ob.length [] 1 0 ys.length))) {ad:Option Addr} {s:Sem Next} {ty:TypeId}
 (hsr:s=(do let v ←Builtin.append_ #[t,tx] ty #[.slice ad 0 0,y];pure (Next.value v))):SOk E w0 A0 N pv a s w K:=by
 obtain ⟨i,hi1,hi2,hi3,z',hiz⟩:=hTe.info
 obtain ⟨news,Sub,hS,hrk,hn,hd,hst⟩:=hR.ex
 rw [←hi3] at hS
 have hfc:∀w:World,(Builtin.firstCells i.size 0 (.slice ad 0 0)).run E.P w=.ok #[] w:=by
  intro w
  cases ad with
  | none=>simp [Builtin.firstCells]
  | some x=>simp [Builtin.firstCells,loadCells,loadCellsFrom]
 by_cases hz:ys.length=0
 · have hys:ys=[]:=List.eq_nil_of_length_eq_zero hz
   subst hys
   refine c2k ((h.kills hR.kills).kills hk2) hF hK rfl (ad:=ad) ?_
   rw [hsr]
   have hn0:news=[]:=List.eq_nil_of_length_eq_zero (by rw [hS.newsLen];simp)
   subst hn0
   have hc:=hS.cells
   have hl:=hS.len
   simp only [List.length_nil] at hc hl
   rcases hS.kind with ⟨e',hk⟩ | hk <;> cases ad <;> simp [Builtin.append_,run_underlying ht,run_underlying hk,sizeOf,typeInfo,hi1,hl,hc,storeCells]
 · have hsl:s.run E.P w=.ok (.value (.slice (some ⟨w.heap.size,0,none⟩) ys.length (grownCap w ys.length 0 e))) (w.drew.alloc (.cells (news.toArray++Builtin.zeroCells z'.cells (grownCap w ys.length 0 e - ys.length)) e)):=by
    rw [hsr]
    have:=run_append_grow_src (P:=E.P) w t tx ty e i z' ht hi1 hiz ad 0 0 [] (hfc _) y ys.length news hS (by omega) (by omega) (growslice_fits (by omega) (by rw [hi2];simpa using hb.1))
    simp only [Nat.zero_add,List.nil_append] at this
    simp [this]
   have hge:=grownCap_ge w ys.length 0 e
   have hzs:z'.cells.size=te.size:=by
    obtain ⟨z,q1,q2,_⟩:=hTe.zero
    have:=q1 w
    simp [zeroValue,typeInfo,hi1,hiz] at this
    rw [this];exact q2
   refine a5o (w':=w.drew.alloc (.cells (news.toArray++Builtin.zeroCells z'.cells (grownCap w ys.length 0 e - ys.length)) e)) (cs:=news.toArray++Builtin.zeroCells z'.cells (grownCap w ys.length 0 e - ys.length)) (k:=te.size) (rows:=ys) (c:=grownCap w ys.length 0 e) (S:=fun x=>iZ g st st2 x)
    (vals:=fun i j=>(news[i*te.size+j]?).getD undef) (Sub:=Sub) ((h.kills hR.kills).kills hk2) hF rfl rfl rfl rfl (fun x hx=>by obtain ⟨i,q1,_,q2⟩:=hx;exact ⟨i,q1,q2⟩) hrk hge (by omega) ?_ (fun i j hi hj=>?_) (fun i j r x hr hx=>?_) hd (fun i j x hx=>(hst i j x hx).mono1 hk2) hK hsl
   · simp only [Array.size_append,List.size_toArray,size_zeroCells,hS.newsLen,hzs,hi3,←Nat.add_mul]
     rw [show ys.length+(grownCap w ys.length 0 e - ys.length)=grownCap w ys.length 0 e by omega]
     exact Nat.le_refl _
   · have hrow:ys[i]?=some ys[i]:=by simp [hi]
     have hl:ys[i].length=te.size:=hrk _ (List.getElem_mem hi)
     obtain ⟨u,hu,_⟩:=hn i j _ _ hrow (List.getElem?_eq_getElem (by omega))
     have hlt:=(List.getElem?_eq_some_iff.1 hu).1
     rw [hu,Array.getElem?_append_left (by simpa using hlt)]
     simpa using hu
   · obtain ⟨u,hu,hO⟩:=hn i j r x hr hx
     rw [hu];exact hO
theorem c1j {te:TI} {t tx e:TypeId} (hTe:TIok E.P e te) (ht:E.P.underlying t=some (.slice e)) (hs:0 < te.size) (hF:Fr w0 A0 w g) {stk:St} (hstt:RepSt w g stk N pv a) {ys:List (List T)}
 {id lo len c:Nat} {ob:Ob} {cs:Array Value} {ee:TypeId} {vals:Nat→Nat→Value} {SubO:Nat→Nat→Nat→Prop} (r1:w.heap[g.β id]?=some (.cells cs ee (0,0))) (r2:g.lab (g.β id)=some id) (r3:cs.size=g.sz id) (r4:g.ω id+ob.rows.length*ob.k≤cs.size)
 (hM:Main w g (fun x=>g.lab x=some id) (g.β id) (g.ω id) ob.k cs ob.rows vals SubO) (hkk:ob.k=te.size) (hlc:len≤c) (hlr:lo+len≤ob.rows.length) (hsz:g.ω id+(lo+c)*ob.k≤g.sz id) (hc0:c≠0)
 {y:Value} {news:List Value} {Sub:Nat→Nat→Nat→Prop} {i:TypeInfo} {z':Value} (hi1:E.P.info? e=some i) (hi2:i.bytes=te.bytes) (hi3:i.size=te.size) (hiz:i.zero=some z') (hS:Src E.P i.size tx y ys.length news w) (hrk:∀r∈ys,r.length=te.size)
 (hn:∀(i j:Nat) r t,ys[i]?=some r→r[j]?=some t→∃u,news[i*te.size+j]?=some u∧Ow w g.A (Sub i j) u t) (hd:∀i j i' j' x,Sub i j x→Sub i' j' x→i=i'∧j=j')
 {S:Nat→Prop} (hS2:∀x,S x→∃i,g.lab x=some i∧stk.obj i=none) (hSid:∀x,g.lab x=some id→S x) (hdX:∀i j i' j' x,lo≤i→i < lo+len→SubO i j x→Sub i' j' x→False) (hsX:∀i j x,Sub i j x→S x∧x≠g.β id)
 (hb:(len+ys.length)*te.bytes≤140737488355328∧len+ys.length≤9223372036854775807) {K:St→AV→Prop}
 (hK:K (stk.add ⟨te.size,false,(ob.rows.drop lo).take len++ys,0⟩) (.one (.n stk.ob.length [] 1 0 (len+ys.length)))) {s:Sem Next} {ty:TypeId}
 (hsr:s=(do let v ←Builtin.append_ #[t,tx] ty #[.slice (some ⟨g.β id,g.ω id+lo*ob.k,none⟩) len c,y];pure (Next.value v))):SOk E w0 A0 N pv a s w K:=by
 have hrows:((ob.rows.drop lo).take len).length=len:=by simp;omega
 have hget:∀i,i < len→((ob.rows.drop lo).take len)[i]?=ob.rows[lo+i]?:=by
  intro i hi
  rw [List.getElem?_take,if_pos hi,List.getElem?_drop]
 let V:Nat→Nat→Value:=fun i j=>if i < len then vals (lo+i) j else (news[(i - len)*te.size+j]?).getD undef
 let SS:Nat→Nat→Nat→Prop:=fun i j x=>if i < len then SubO (lo+i) j x else Sub (i - len) j x
 have Hk:∀r∈(ob.rows.drop lo).take len++ys,r.length=te.size:=by
  intro r hr
  rcases List.mem_append.1 hr with hr | hr
  · rw [←hkk];exact hM.hk r (List.mem_of_mem_drop (List.mem_of_mem_take hr))
  · exact hrk r hr
 have Ht:∀(i j:Nat) r t,((ob.rows.drop lo).take len++ys)[i]?=some r→r[j]?=some t→Ow w g.A (SS i j) (V i j) t:=by
  intro i j r t hr ht
  rw [a2b,hrows] at hr
  by_cases hi:i < len
  · rw [if_pos hi,hget i hi] at hr
    simp only [V,SS,hi,if_true]
    exact hM.ht _ j r t hr ht
  · rw [if_neg hi] at hr
    simp only [V,SS,hi,if_false]
    obtain ⟨u,hu,hO⟩:=hn _ j r t hr ht
    rw [hu];exact hO
 have Hd:∀i j i' j' x,SS i j x→SS i' j' x→i=i'∧j=j':=by
  intro i j i' j' x hx hx'
  simp only [SS] at hx hx'
  split at hx <;> split at hx'
  · have:=hM.hd _ _ _ _ _ hx hx';omega
  · rename_i h1 h2
    exact (hdX (lo+i) j _ _ x (by omega) (by omega) hx hx').elim
  · rename_i h1 h2
    exact (hdX (lo+i') j' _ _ x (by omega) (by omega) hx' hx).elim
  · have:=hd _ _ _ _ _ hx hx';omega
 have HsS:∀i j x,SS i j x→S x∧x≠g.β id:=by
  intro i j x hx
  simp only [SS] at hx
  split at hx
  · exact ⟨hSid _ (hM.hs _ _ _ hx).1,(hM.hs _ _ _ hx).2⟩
  · exact hsX _ _ _ hx
 have hnews:∀i j,i < ys.length→j < te.size→∃u,news[i*te.size+j]?=some u:=by
  intro i j hi hj
  have hrow:ys[i]?=some ys[i]:=by simp [hi]
  have hl:ys[i].length=te.size:=hrk _ (List.getElem_mem hi)
  obtain ⟨u,hu,_⟩:=hn i j _ _ hrow (List.getElem?_eq_getElem (by omega))
  exact ⟨u,hu⟩
 have hnl:news.length=ys.length*te.size:=by rw [hS.newsLen,hi3]
 by_cases hroom:len+ys.length≤c
 ·
  have hfit:g.ω id+lo*ob.k+len*i.size+news.length≤cs.size:=by
   rw [hnl,hi3,hkk,r3]
   rw [hkk] at hsz
   have:=Nat.mul_le_mul_right te.size hroom
   rw [Nat.add_mul] at this hsz
   omega
  have hrun:=a9k (w:=w) (ty:=ty) ht hi1 hS hroom r1 hfit
  generalize hcc':(cs.toList.take (g.ω id+lo*ob.k+len*i.size)++news++cs.toList.drop (g.ω id+lo*ob.k+len*i.size+news.length)).toArray=cc' at hrun
  have hgetc:∀p,cc'[p]?=if g.ω id+lo*ob.k+len*i.size≤p∧p < g.ω id+lo*ob.k+len*i.size+news.length then news[p - (g.ω id+lo*ob.k+len*i.size)]? else cs[p]?:=by
   intro p
   rw [←hcc',a2q (by simpa using hfit)]
   simp
  have hccs:cc'.size=cs.size:=by rw [←hcc'];simp;omega
  have hrl:((ob.rows.drop lo).take len++ys).length=len+ys.length:=by rw [List.length_append,hrows]
  have Hv:∀i' j,i' < ((ob.rows.drop lo).take len++ys).length→j < te.size→cc'[g.ω id+lo*ob.k+i'*te.size+j]?=some (V i' j):=by
   intro i' j hi' hj
   rw [hrl] at hi'
   rw [hgetc]
   by_cases hil:i' < len
   · simp only [V,hil,if_true]
     have h1:(i'+1)*te.size≤len*te.size:=Nat.mul_le_mul_right _ hil
     rw [Nat.add_mul] at h1
     rw [if_neg (by rw [hi3];omega)]
     have:=hM.hv (lo+i') j (by omega) (by omega)
     rw [←this];congr 1;rw [Nat.add_mul,hkk];omega
   · simp only [V,hil,if_false]
     obtain ⟨u,hu⟩:=hnews (i' - len) j (by omega) hj
     have h1:i'*te.size=len*te.size+(i' - len)*te.size:=by rw [←Nat.add_mul];congr 1;omega
     have h2:(i' - len+1)*te.size≤ys.length*te.size:=Nat.mul_le_mul_right _ (by omega)
     rw [Nat.add_mul] at h2
     rw [if_pos (by rw [hi3,hnl];omega),hi3]
     rw [show g.ω id+lo*ob.k+i'*te.size+j - (g.ω id+lo*ob.k+len*te.size)=(i' - len)*te.size+j by omega]
     rw [hu];rfl
  obtain ⟨g2,p1,p2,p3,p4,p5,p6,_,_,_,pX⟩:=hstt.addAt (w':=w.setRow (g.β id) cc') (b:=g.β id) (f:=g.ω id+lo*ob.k) (k:=te.size) (cc:=cc') (rows:=(ob.rows.drop lo).take len++ys) (S:=S) (vals:=V) (Sub:=SS)
   (setRow_heap _ _ _ _ _ _ r1) (fun x hx=>setRow_other _ _ _ _ hx) (uH _ _ _) hS2 (hSid _ r2) (by rw [hrl,hccs,Nat.add_mul];rw [hi3,hnl] at hfit;omega) Hk Hv Ht Hd HsS
  refine ⟨_,_,hK,_,.slice (some ⟨g.β id,g.ω id+lo*ob.k,none⟩) (len+ys.length) c,w.setRow (g.β id) cc',g2,by rw [hsr];simp [hrun],.inl rfl,p1,⟨Nat.ble_eq_true_of_le (by omega),by simp [St.add],fun ob2 ho2=>?_⟩,?_⟩
  · rw [iJ] at ho2
    cases ho2
    refine ⟨rfl,(fun _=>⟨rfl,hrl.symm⟩),_,c,rfl,hroom,by rw [hrl];omega,.inr ⟨by rw [p2,p3];simp,by rw [p2];exact p5,?_⟩⟩
    rw [p3,p4,hccs,r3,hkk]
    rw [Nat.add_mul,hkk] at hsz
    simp only [Nat.zero_add]
    omega
  · have hF2:=hF.set (b:=g.β id) (cs:=cc') r2 r1 hccs
    exact ⟨hF2.os,hF2.tape,hF2.output,hF2.size,⟨pX.trans hF2.x.1,hF2.x.2⟩,fun b hb hA=>⟨(hF2.blk b hb hA).1,p6 b (hF2.blk b hb hA).2⟩,hF2.bs⟩
 ·
  have hcell:∀p,p < len*te.size→∃u,w.cell? ⟨g.β id,g.ω id+lo*ob.k+p,none⟩=some u:=by
   intro p hp
   have hlt:g.ω id+lo*ob.k+p < cs.size:=by
    have h1:(lo+len)*ob.k≤ob.rows.length*ob.k:=Nat.mul_le_mul_right _ hlr
    rw [Nat.add_mul] at h1
    rw [←hkk] at hp
    omega
   exact ⟨cs[g.ω id+lo*ob.k+p],by simp [World.cell?,r1,hlt]⟩
  obtain ⟨olds,ho1,ho2⟩:=b2f (w:=w) (b:=g.β id) (f:=g.ω id+lo*ob.k) hcell
  have hold:(Builtin.firstCells i.size len (.slice (some ⟨g.β id,g.ω id+lo*ob.k,none⟩) len c)).run E.P w.drew=.ok olds.toArray w.drew :=
   run_firstCells_some w.drew i.size len _ len c olds (by rw [hi3];exact ho1) (fun p u hp=>by rw [lT];have:=ho2 p u hp;simpa using this)
  have hrun:=run_append_grow_src (P:=E.P) w t tx ty e i z' ht hi1 hiz (some ⟨g.β id,g.ω id+lo*ob.k,none⟩) len c olds hold y ys.length news hS (by omega) (by omega) (growslice_fits (by omega) (by rw [hi2];exact hb.1))
  have hge:=grownCap_ge w (len+ys.length) c e
  have hzs:z'.cells.size=te.size:=by
   obtain ⟨z,q1,q2,_⟩:=hTe.zero
   have:=q1 w
   simp [zeroValue,typeInfo,hi1,hiz] at this
   rw [this];exact q2
  have hrl:((ob.rows.drop lo).take len++ys).length=len+ys.length:=by rw [List.length_append,hrows]
  rw [←hrl] at hK
  have holds:∀i j,i < len→j < te.size→olds[i*te.size+j]?=some (vals (lo+i) j):=by
   intro i' j hi' hj
   have h1:(i'+1)*te.size≤len*te.size:=Nat.mul_le_mul_right _ hi'
   rw [Nat.add_mul] at h1
   have hp:olds[i'*te.size+j]?=some (olds[i'*te.size+j]'(by omega)):=List.getElem?_eq_getElem (by omega)
   have q:=ho2 _ _ hp
   have q2:=hM.hv (lo+i') j (by omega) (by omega)
   have e1:g.ω id+lo*ob.k+(i'*te.size+j)=g.ω id+(lo+i')*ob.k+j:=by rw [Nat.add_mul,hkk];omega
   rw [e1] at q
   simp [World.cell?,r1,q2] at q
   rw [hp,q]
  refine a5o (w':=w.drew.alloc (.cells ((olds++news).toArray++Builtin.zeroCells z'.cells (grownCap w (len+ys.length) c e - (len+ys.length))) e)) (cs:=(olds++news).toArray++Builtin.zeroCells z'.cells (grownCap w (len+ys.length) c e - (len+ys.length))) (k:=te.size) (rows:=(ob.rows.drop lo).take len++ys) (c:=grownCap w (len+ys.length) c e) (S:=S)
   (vals:=V) (Sub:=SS) hstt hF rfl rfl rfl rfl hS2 Hk (by rw [hrl];exact hge) (by rw [hrl];omega) ?_ (fun i' j hi' hj=>?_) Ht Hd (fun i j x hx=>(HsS i j x hx).1) hK ?_
  · simp only [Array.size_append,List.size_toArray,List.length_append,size_zeroCells,ho1,hnl,hzs,←Nat.add_mul]
    rw [show len+ys.length+(grownCap w (len+ys.length) c e - (len+ys.length))=grownCap w (len+ys.length) c e by omega]
    exact Nat.le_refl _
  · rw [hrl] at hi'
    have hlt:i'*te.size+j < (olds++news).length:=by
     rw [List.length_append,ho1,hnl,←Nat.add_mul]
     have h1:(i'+1)*te.size≤(len+ys.length)*te.size:=Nat.mul_le_mul_right _ hi'
     rw [Nat.add_mul] at h1;omega
    rw [Array.getElem?_append_left (by simpa using hlt)]
    simp only [List.getElem?_toArray]
    rw [a2b,ho1]
    by_cases hil:i' < len
    · have h1:(i'+1)*te.size≤len*te.size:=Nat.mul_le_mul_right _ hil
      rw [Nat.add_mul] at h1
      rw [if_pos (by omega),holds i' j hil hj]
      simp [V,hil]
    · have h1:i'*te.size=len*te.size+(i' - len)*te.size:=by rw [←Nat.add_mul];congr 1;omega
      obtain ⟨u,hu⟩:=hnews (i' - len) j (by omega) hj
      rw [if_neg (by omega),show i'*te.size+j - len*te.size=(i' - len)*te.size+j by omega]
      simp [V,hil,hu]
  · rw [hsr,hrl];simp [hrun]
theorem b3f {te:TI} {t tx e:TypeId} (hTe:TIok E.P e te) (ht:E.P.underlying t=some (.slice e)) (hs:0 < te.size) (h:RepSt w g st N pv a) (hF:Fr w0 A0 w g) {y:Value} {ys:List (List T)} (hR:SrcR E w g st st' te.size tx y ys)
 {id ep lo len:Nat} {ob:Ob} (hob:st'.obj id=some ob) {x:Value} (hx:dU w g st (.n id [] ep lo len) x) (hbx:ob.box=false) (hkk:ob.k=te.size) (hb:(len+ys.length)*te.bytes≤140737488355328∧len+ys.length≤9223372036854775807) {K:St→AV→Prop}
 (hK:K ((st'.kill id).add ⟨te.size,false,(ob.rows.drop lo).take len++ys,0⟩) (.one (.n st'.ob.length [] 1 0 (len+ys.length)))) {s:Sem Next} {ty:TypeId}
 (hsr:s=(do let v ←Builtin.append_ #[t,tx] ty #[x,y];pure (Next.value v))):SOk E w0 A0 N pv a s w K:=by
 have hob0:=hR.kills.obj id ob hob
 obtain ⟨hid,hx⟩:=(show dM w g st (.n id [] ep lo len) x from hx.2)
 obtain ⟨_,_,ad,c,rfl,hlc,hlr,hcc⟩:=hx ob hob0
 have hkl:Kills st' (st'.kill id):=.kill st' id
 have hlen':(st'.kill id).ob.length=st'.ob.length:=hkl.len
 have hrows:((ob.rows.drop lo).take len).length=len:=by simp;omega
 rw [←hlen'] at hK
 by_cases hc0:c=0
 · subst hc0
   have hl0:len=0:=by omega
   subst hl0
   simp only [List.take_zero,List.nil_append,Nat.zero_add] at hK hb
   exact wZ hTe ht hs h hF hR hb hkl hK hsr
 · rcases hcc with hcc | ⟨rfl,hl,hsz⟩
   · exact absurd hcc hc0
   · obtain ⟨i,hi1,hi2,hi3,z',hiz⟩:=hTe.info
     obtain ⟨news,Sub,hS,hrk,hn,hd,hst⟩:=hR.ex
     rw [←hi3] at hS
     have hO:=h.ob id ob hob0
     unfold fY at hO
     rw [hbx] at hO
     rcases hO with ⟨_,hno⟩ | ⟨cs,ee,vals,SubO,r1,r2,r3,r4,hM⟩
     · exact absurd hl hno
     · have hstt:=(h.kills hR.kills).kills hkl
       have hS2:∀x,(g.lab x=some id∨iZ g st st' x)→∃i,g.lab x=some i∧(st'.kill id).obj i=none:=by
        intro x hx
        rcases hx with hx | ⟨i,q1,_,q2⟩
        · exact ⟨id,hx,by rw [St.kill,kW (nF hob)]⟩
        · refine ⟨i,q1,?_⟩
          cases ho:(st'.kill id).obj i with
          | none=>rfl
          | some o2=>rw [hkl.obj i o2 ho] at q2;cases q2
       have hnid:∀i j x,Sub i j x→g.lab x≠some id:=by
        intro i j x hx hl
        obtain ⟨i',q1,_,q2⟩:=hst i j x hx
        rw [hl] at q1;cases q1
        rw [hob] at q2;cases q2
       exact c1j (stk:=st'.kill id) (S:=fun x=>g.lab x=some id∨iZ g st st' x) hTe ht hs hF hstt r1 r2 r3 r4 hM hkk hlc hlr hsz hc0 hi1 hi2 hi3 hiz hS hrk hn hd hS2 (fun _ h=>.inl h)
        (fun i j i' j' x _ _ h h'=>hnid _ _ _ h' (hM.hs _ _ _ h).1) (fun i j x h=>⟨.inr (hst _ _ _ h),fun he=>by subst he;exact hnid _ _ _ h r2⟩) hb hK hsr
theorem c2j {te:TI} {t tx e e':TypeId} (hTe:TIok E.P e te) (ht:E.P.underlying t=some (.slice e)) (ht':E.P.underlying tx=some (.slice e')) (hs:0 < te.size) (h:RepSt w g st N pv a) (hF:Fr w0 A0 w g)
 {id ep lo len ep2 lo2 len2:Nat} {ob:Ob} (hob:st.obj id=some ob) {x y:Value} (hx:dU w g st (.n id [] ep lo len) x) (hy:dU w g st (.n id [] ep2 lo2 len2) y) (hdis:lo+len≤lo2) (hbx:ob.box=false) (hkk:ob.k=te.size)
 (hb:(len+len2)*te.bytes≤140737488355328∧len+len2≤9223372036854775807) {K:St→AV→Prop}
 (hK:K ((st.kill id).add ⟨te.size,false,(ob.rows.drop lo).take len++(ob.rows.drop lo2).take len2,0⟩) (.one (.n st.ob.length [] 1 0 (len+len2)))) {s:Sem Next} {ty:TypeId}
 (hsr:s=(do let v ←Builtin.append_ #[t,tx] ty #[x,y];pure (Next.value v))):SOk E w0 A0 N pv a s w K:=by
 have hx0:=hx
 obtain ⟨hid,hx⟩:=(show dM w g st (.n id [] ep lo len) x from hx.2)
 obtain ⟨_,_,ad,c,rfl,hlc,hlr,hcc⟩:=hx ob hob
 obtain ⟨_,hy⟩:=(show dM w g st (.n id [] ep2 lo2 len2) y from hy.2)
 obtain ⟨_,_,ad2,c2,rfl,hlc2,hlr2,hcc2⟩:=hy ob hob
 have hyr:((ob.rows.drop lo2).take len2).length=len2:=by simp;omega
 by_cases hz:len2=0
 · subst hz
   have hR:SrcR E w g st st te.size tx (.slice ad2 0 c2) []:=⟨.refl st,[],fun _ _ _=>False,by simpa using yK ht' ad2 c2,by simp,fun i j r t hi=>by simp at hi,fun _ _ _ _ _ h=>h.elim,fun _ _ _ h=>h.elim⟩
   simp only [List.take_zero] at hK
   exact b3f hTe ht hs h hF hR hob hx0 hbx hkk (by simpa using hb) hK hsr
 · rcases hcc2 with rfl | ⟨rfl,hl2,hs2⟩
   · omega
   have hO:=h.ob id ob hob
   unfold fY at hO
   rw [hbx] at hO
   rcases hO with ⟨_,hn⟩ | ⟨cs,ee,vals,SubO,r1,r2,r3,r4,hM⟩
   · exact absurd hl2 hn
   have hcell:∀i j,i < len2→j < te.size→w.cell? ⟨g.β id,g.ω id+lo2*ob.k+i*te.size+j,none⟩=some (vals (lo2+i) j):=by
    intro i j hi hj
    have:=hM.hv (lo2+i) j (by omega) (by omega)
    have e1:g.ω id+lo2*ob.k+i*te.size+j=g.ω id+(lo2+i)*ob.k+j:=by rw [Nat.add_mul,hkk];omega
    rw [e1]
    simp [World.cell?,r1,this]
   have hone:∀i j,i < len2→j < te.size→(vals (lo2+i) j).oneCell'=true:=by
    intro i j hi hj
    have hrow:ob.rows[lo2+i]?=some ob.rows[lo2+i]:=by simp [show lo2+i < ob.rows.length by omega]
    have hl':ob.rows[lo2+i].length=ob.k:=hM.hk _ (List.getElem_mem (by omega))
    exact xU (hM.ht _ j _ _ hrow (List.getElem?_eq_getElem (by omega))).one
   obtain ⟨news,hS,hn⟩:=a1p (w:=w) (c:=c2) (n:=len2) ht' hs hcell hone
   have hget:∀i,i < len2→((ob.rows.drop lo2).take len2)[i]?=ob.rows[lo2+i]?:=by
    intro i hi
    rw [List.getElem?_take,if_pos hi,List.getElem?_drop]
   have hrk:∀r∈(ob.rows.drop lo2).take len2,r.length=te.size:=fun r hr=>by rw [←hkk];exact hM.hk r (List.mem_of_mem_drop (List.mem_of_mem_take hr))
   have hnn:∀(i j:Nat) r t,((ob.rows.drop lo2).take len2)[i]?=some r→r[j]?=some t→∃u,news[i*te.size+j]?=some u∧Ow w g.A (SubO (lo2+i) j) u t:=by
    intro i j r t hi hj
    have hil:i < len2:=by have:=(List.getElem?_eq_some_iff.1 hi).1;omega
    rw [hget i hil] at hi
    have h2:=(List.getElem?_eq_some_iff.1 hj).1
    rw [hM.hk r (List.mem_of_getElem? hi),hkk] at h2
    exact ⟨_,hn i j hil h2,hM.ht _ j r t hi hj⟩
   have hd:∀i j i' j' x,SubO (lo2+i) j x→SubO (lo2+i') j' x→i=i'∧j=j':=fun i j i' j' x h1 h2=>by
    have:=hM.hd _ _ _ _ _ h1 h2;omega
   have hkl:Kills st (st.kill id):=.kill st id
   have hlen':(st.kill id).ob.length=st.ob.length:=hkl.len
   rw [←hlen'] at hK
   by_cases hc0:c=0
   · subst hc0
     have hl0:len=0:=by omega
     subst hl0
     simp only [List.take_zero,List.nil_append,Nat.zero_add] at hK hb
     have hR:SrcR E w g st (st.kill id) te.size tx (.slice (some ⟨g.β id,g.ω id+lo2*ob.k,none⟩) len2 c2) ((ob.rows.drop lo2).take len2) :=
      ⟨hkl,news,fun i j=>SubO (lo2+i) j,by rw [hyr];exact hS,hrk,hnn,hd,fun i j x hx=>⟨id,(hM.hs _ _ _ hx).1,⟨ob,hob⟩,by rw [St.kill,kW (nF hob)]⟩⟩
     exact wZ hTe ht hs h hF hR (by rw [hyr];exact hb) (.refl _) (by rw [hyr];exact hK) hsr
   · rcases hcc with hcc | ⟨rfl,hl,hsz⟩
     · exact absurd hcc hc0
     obtain ⟨i,hi1,hi2,hi3,z',hiz⟩:=hTe.info
     rw [←hi3] at hS
     exact c1j (stk:=st.kill id) (S:=fun x=>g.lab x=some id) hTe ht hs hF (h.kills hkl) r1 r2 r3 r4 hM hkk hlc hlr hsz hc0 hi1 hi2 hi3 hiz (by rw [hyr];exact hS) hrk hnn hd (fun x hx=>⟨id,hx,by rw [St.kill,kW (nF hob)]⟩) (fun _ h=>h)
      (fun i j i' j' x h1 h2 q1 q2=>by have:=hM.hd _ _ _ _ _ q1 q2;omega) (fun i j x hx=>hM.hs _ _ _ hx) (by rw [hyr];exact hb) (by rw [hyr];exact hK) hsr
end Go.Ev
