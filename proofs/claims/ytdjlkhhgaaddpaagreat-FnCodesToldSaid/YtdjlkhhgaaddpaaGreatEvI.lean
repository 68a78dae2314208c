/- Stores. -/
import Derived.Test.YtdjlkhhgaaddpaaGreatEvH
set_option linter.unusedSectionVars false
set_option linter.unusedVariables false
set_option linter.unusedSimpArgs false
namespace Go.Ev
open Go
open Classical
variable {E:Env} {w w' w0:World} {A0:Fix} {g g':Gh} {st st':St} {N:Nat} {pv:List Value} {a:Act}
theorem a0q {P:Program} {t:TypeId} {n:Nat} (hs:∀w,(sizeOf t).run P w=.ok n w) {b o:Nat} {v:Value} (hv:v.cells.size=n) {cs:Array Value} {e:TypeId} (hb:w.heap[b]?=some (.cells cs e (0,0))) (hfit:o+n≤cs.size)
 (h1:∀u∈v.cells.toList,u.oneCell'=true) :
 (Instr.storeAt t (.pointer (some ⟨b,o,none⟩)) v).run P w=.ok () (w.setRow b (cs.toList.take o++v.cells.toList++cs.toList.drop (o+n)).toArray):=by
 have:=run_storeCells_at P b o e v.cells.toList 0 cs w hb (by simp [hv];omega) h1
 simp only [Nat.add_zero,Array.length_toList,hv] at this
 simp [Instr.storeAt,Instr.sureAddr,storeVar,hs,hv,this]
theorem a2q {cs vs:List Value} {o:Nat} (h:o+vs.length≤cs.length) (p:Nat):((cs.take o++vs++cs.drop (o+vs.length)).toArray)[p]?=if o≤p∧p < o+vs.length then vs[p - o]? else cs[p]?:=by
 have h1:(cs.take o).length=o:=by simp;omega
 simp only [List.getElem?_toArray]
 by_cases hp:p < o
 · rw [if_neg (by omega),List.append_assoc,List.getElem?_append_left (by omega),List.getElem?_take,if_pos hp]
 · by_cases hq:p < o+vs.length
   · rw [if_pos (by omega),List.append_assoc,List.getElem?_append_right (by omega),h1,List.getElem?_append_left (by omega)]
   · rw [if_neg (by omega),List.getElem?_append_right (by simp;omega),List.getElem?_drop]
     congr 1
     simp;omega
theorem uH (w:World) (b:Nat) (cs:Array Value):(w.setRow b cs).heap.size=w.heap.size:=by simp [World.setRow]
theorem c5e {w:World} {b:Nat} {cs cc:Array Value} {e:TypeId} {n:Nat×Nat} (hb:w.heap[b]?=some (.cells cc e n)) (hs:cs.size=cc.size) (x:Nat):bsz (w.setRow b cs) x=bsz w x:=by
 by_cases h:x=b
 · subst h
   have:(w.setRow x cs).heap[x]?=some (.cells cs e n):=setRow_heap _ _ _ _ _ _ hb
   unfold bsz
   rw [this,hb]
   simp [hs]
 · exact a7o (setRow_other _ _ _ _ h)
theorem Fr.set (h:Fr w0 A0 w g) {b id:Nat} {cs:Array Value} (hl:g.lab b=some id) {cc:Array Value} {e:TypeId} {n:Nat×Nat} (hb:w.heap[b]?=some (.cells cc e n)) (hs:cs.size=cc.size):Fr w0 A0 (w.setRow b cs) g:=by
 refine ⟨h.os,h.tape,h.output,by rw [uH];exact h.size,h.x,fun x hx hA=>?_,fun x hx=>(c5e hb hs x).trans (h.bs x hx)⟩
 obtain ⟨h1,h2⟩:=h.blk x hx hA
 refine ⟨?_,h2⟩
 rw [setRow_other]
 · exact h1
 · intro he
   subst he
   rw [h2] at hl
   cases hl
theorem b5k (h:RepSt w g st N pv a) (hF:Fr w0 A0 w g) {t:TypeId} {x y:Operand} {K:St→AV→Prop} {o:Oper} (ho:o.op=.store t x y) {ti:TI} (hT:TIok E.P t ti) {id row off ep:Nat} {cs:List T} (hlen:cs.length=ti.size)
 (hp:dM w g st (.p id [] ep row off) (a.eval x)) (q1:(a.eval y).cells.size=cs.length) (q2:∀(j:Nat) t u,cs[j]?=some t→(a.eval y).cells[j]?=some u→dU w g st t u) {ob:Ob} (hob:st.obj id=some ob) (hbox:ob.box=false)
 (hK:a6i K id row off (lB st cs)):SOk E w0 A0 N pv a (execOp a.eval o) w K:=by
 have hv1:∀u∈(a.eval y).cells.toList,u.oneCell'=true:=by
  intro u hu
  obtain ⟨j,hj⟩:=List.getElem?_of_mem hu
  have hlt:j < cs.length:=by
   have:=(List.getElem?_eq_some_iff.1 hj).1;simp at this;omega
  exact xU (q2 j cs[j] u (by simp [hlt]) (by simpa using hj)).1
 obtain ⟨hid,hp⟩:=hp
 obtain ⟨hpx,hl,hrow⟩:=hp ob hob
 have exec:execOp a.eval o=(do Instr.storeAt t (a.eval x) (a.eval y);pure Next.skip):=by simp [execOp,ho]
 have hO:=h.ob id ob hob
 unfold fY at hO
 have hvs:(a.eval y).cells.toList.length=cs.length:=by simpa using q1
 rw [hbox] at hO
 cases hex:lB st cs with
 | none=>rw [hex] at hK;exact hK.elim
 | some r =>
   obtain ⟨cs',st1⟩:=r
   rw [hex] at hK
   simp only [a6i] at hK
   cases hob1:st1.obj id with
   | none=>rw [hob1] at hK;exact hK.elim
   | some ob1 =>
     rw [hob1] at hK
     obtain ⟨k1,hlen1,SubE,hOE,hdE,hSE⟩:=pL (us:=(a.eval y).cells.toList) h hex hvs (fun j t u hj hu=>q2 j t u hj (by simpa using hu))
     have:ob1=ob:=by have:=k1.obj id ob1 hob1;rw [hob] at this;cases this;rfl
     subst this
     replace hK:=hK.get
     obtain ⟨hfit,hK⟩:=hK
     replace hfit:=Nat.le_of_ble_eq_true hfit
     rcases hO with ⟨hz,_⟩ | ⟨cc,e,vals,Sub,r1,r2,r3,r4,hM⟩
     · rw [hz] at hrow;simp at hrow
     · have hra:dK ob1.rows row=ob1.rows[row]:=by simp [dK,List.getD,hrow]
       rw [hra] at hK
       have hrl:ob1.rows[row].length=ob1.k:=hM.hk _ (List.getElem_mem hrow)
       have hpos:g.ω id+row*ob1.k+ob1.k≤cc.size:=by
        have:=Nat.mul_le_mul_right ob1.k (show row+1≤ob1.rows.length from hrow)
        rw [Nat.add_mul] at this;omega
       have hsz:g.ω id+row*ob1.k+off+ti.size≤cc.size:=by omega
       have hrun:=a0q (w:=w) hT.size (b:=g.β id) (o:=g.ω id+row*ob1.k+off) (v:=a.eval y) (by rw [q1,hlen]) r1 hsz hv1
       have hl2:(a.eval y).cells.toList.length=ti.size:=by rw [hvs,hlen]
       generalize hcc:(cc.toList.take (g.ω id+row*ob1.k+off)++(a.eval y).cells.toList++cc.toList.drop (g.ω id+row*ob1.k+off+ti.size)).toArray=cc' at hrun
       have hget:∀p,cc'[p]?=if g.ω id+row*ob1.k+off≤p∧p < g.ω id+row*ob1.k+off+cs.length then (a.eval y).cells[p - (g.ω id+row*ob1.k+off)]? else cc[p]?:=by
        intro p
        rw [←hcc,←hl2,a2q (by simp [hl2];simpa using hsz),hvs]
        simp
       have hccs:cc'.size=cc.size:=by rw [←hcc];simp;omega
       let S:Nat→Prop:=fun x=>iZ g st st1 x
       have hS:∀x,S x→∃i,g.lab x=some i∧st1.obj i=none:=fun x hx=>by obtain ⟨i,p1,_,p2⟩:=hx;exact ⟨i,p1,p2⟩
       have hid1:id < st1.ob.length:=by rw [k1.len];exact hid
       have hst1:=(h.kills k1).take hid1 hS r2
       have hKt:=Keeps.take (w:=w) (id:=id) hS
       have hl':(g.take S id).lab ((g.take S id).β id)=some id:=by
        show (if S (g.β id) then some id else g.lab (g.β id))=some id
        split <;> first | rfl | exact r2
       have hnS:∀z,g.lab z=some id→¬S z:=by
        intro z hz hSz
        obtain ⟨i,p1,p2⟩:=hS z hSz
        rw [hz] at p1;cases p1
        rw [hob1] at p2;cases p2
       have hF':Fr w0 A0 (w.setRow (g.β id) cc') (g.take S id):=by
        have:=(hF.take (S:=S) (id:=id) (fun x hx=>by obtain ⟨i,p1,_⟩:=hS x hx;exact ⟨i,p1⟩)).set (b:=g.β id) (cs:=cc') hl' r1 hccs
        exact this
       refine ⟨_,_,hK _ rfl,_,undef,w.setRow (g.β id) cc',g.take S id,by rw [exec,hpx];simp [hrun],.inr ⟨rfl,rfl⟩,?_,trivial,hF'⟩
       refine hst1.turn hob1 rfl rfl (by simp) ⟨Nat.le_succ _,fun e=>absurd e (Nat.succ_ne_self _)⟩ hl' (fun z hz=>setRow_other _ _ _ _ hz) (uH _ _ _) (fun hKp=>?_)
       unfold fY
       simp only [hbox]
       obtain ⟨Pr,hPr⟩:∃Pr:Nat→Nat→Prop,∀i j,Pr i j↔(i=row∧off≤j∧j < off+cs.length):=⟨fun i j=>i=row∧off≤j∧j < off+cs.length,fun _ _=>Iff.rfl⟩
       obtain ⟨V,hV1,hV2⟩:∃V:Nat→Nat→Value,(∀i j,Pr i j→V i j=(a.eval y).cells.getD (j - off) undef)∧∀i j,¬Pr i j→V i j=vals i j :=
        ⟨fun i j=>if Pr i j then (a.eval y).cells.getD (j - off) undef else vals i j,fun i j h=>if_pos h,fun i j h=>if_neg h⟩
       obtain ⟨SS,hS1,hS2⟩:∃SS:Nat→Nat→Nat→Prop,(∀i j,Pr i j→SS i j=SubE (j - off))∧∀i j,¬Pr i j→SS i j=Sub i j :=
        ⟨fun i j=>if Pr i j then SubE (j - off) else Sub i j,fun i j h=>if_pos h,fun i j h=>if_neg h⟩
       refine .inr ⟨cc',e,V,SS,setRow_heap _ _ _ _ _ _ r1,hl',by rw [hccs];exact r3,by simp only [List.length_set];rw [hccs];exact r4,?_⟩
       have fz2:∀b,g.A b→b < w.heap.size→(g.take S id).A b∧(w.setRow (g.β id) cc').heap[b]?=w.heap[b]?:=by
        intro b hb hlt
        refine ⟨(hKt.fz b hb hlt).1,setRow_other _ _ _ _ ?_⟩
        intro he
        subst he
        have:g.lab (g.β id)=none:=hb.1
        rw [r2] at this
        cases this
       refine ⟨fun r hr=>?_,fun i j hi hj=>?_,fun i j r t hr ht=>?_,fun i j i' j' x hy hy'=>?_,fun i j x hy=>?_⟩
       · rcases List.mem_or_eq_of_mem_set hr with hr | rfl
         · exact hM.hk r hr
         · rw [uQ (by omega),hrl]
       · simp only [List.length_set] at hi
         show cc'[g.ω id+i*ob1.k+j]?=_
         rw [hget]
         by_cases hc:Pr i j
         · rw [hV1 i j hc]
           obtain ⟨rfl,hc⟩:=(hPr i j).1 hc
           rw [if_pos (by omega)]
           have e1:g.ω id+i*ob1.k+j - (g.ω id+i*ob1.k+off)=j - off:=by omega
           rw [e1]
           have:j - off < (a.eval y).cells.size:=by omega
           simp [Array.getD,this]
         · rw [hV2 i j hc]
           have hc':=fun hh=>hc ((hPr i j).2 hh)
           rw [if_neg]
           · exact hM.hv i j hi hj
           · intro hq
             rcases Nat.lt_trichotomy i row with hlt | rfl | hlt
             · have:=Nat.mul_le_mul_right ob1.k (show i+1≤row from hlt)
               rw [Nat.add_mul] at this;omega
             · exact hc' ⟨rfl,by omega,by omega⟩
             · have:=Nat.mul_le_mul_right ob1.k (show row+1≤i from hlt)
               rw [Nat.add_mul] at this;omega
       · rw [List.getElem?_set] at hr
         by_cases hc:Pr i j
         · rw [hV1 i j hc,hS1 i j hc]
           obtain ⟨rfl,hc⟩:=(hPr i j).1 hc
           simp only [hrow,if_true,Option.some.injEq] at hr
           subst hr
           rw [uR (by omega),if_pos (by omega)] at ht
           have hlt:j - off < (a.eval y).cells.size:=by omega
           refine (hOE (j - off) t _ ht (by simp [Array.getD,hlt])).mono fz2 (fun x hx hxl=>⟨hx,setRow_other _ _ _ _ ?_⟩)
           intro he
           subst he
           exact hnS _ r2 (hSE _ _ hx)
         · rw [hV2 i j hc,hS2 i j hc]
           have hc':=fun hh=>hc ((hPr i j).2 hh)
           have key:ob1.rows[i]?=some r∧r[j]?=some t∨∃r',ob1.rows[i]?=some r'∧r'[j]?=some t:=by
            by_cases hir:row=i
            · subst hir
              simp only [hrow,if_true,Option.some.injEq] at hr
              subst hr
              rw [uR (by omega),if_neg (fun hh=>hc' ⟨rfl,by omega⟩)] at ht
              exact .inr ⟨_,by simp [hrow],ht⟩
            · rw [if_neg hir] at hr
              exact .inl ⟨hr,ht⟩
           have hO2:Ow w g.A (Sub i j) (vals i j) t:=by
            rcases key with ⟨p1,p2⟩ | ⟨r',p1,p2⟩
            · exact hM.ht i j r t p1 p2
            · exact hM.ht i j r' t p1 p2
           exact hO2.mono fz2 (fun x hx hxl=>⟨hx,setRow_other _ _ _ _ (hM.hs _ _ _ hx).2⟩)
       · by_cases hc:Pr i j
         · rw [hS1 i j hc] at hy
           obtain ⟨rfl,hc⟩:=(hPr i j).1 hc
           by_cases hc':Pr i' j'
           · rw [hS1 i' j' hc'] at hy'
             obtain ⟨rfl,hc'⟩:=(hPr i' j').1 hc'
             have:=hdE _ _ _ hy hy'
             omega
           · rw [hS2 i' j' hc'] at hy'
             exact (hnS x (hM.hs _ _ _ hy').1 (hSE _ _ hy)).elim
         · rw [hS2 i j hc] at hy
           by_cases hc':Pr i' j'
           · rw [hS1 i' j' hc'] at hy'
             exact (hnS x (hM.hs _ _ _ hy).1 (hSE _ _ hy')).elim
           · rw [hS2 i' j' hc'] at hy'
             exact hM.hd _ _ _ _ _ hy hy'
       · by_cases hc:Pr i j
         · rw [hS1 i j hc] at hy
           refine ⟨?_,fun he=>?_⟩
           · show (if S x then some id else g.lab x)=some id
             rw [if_pos (hSE _ _ hy)]
           · subst he;exact hnS _ r2 (hSE _ _ hy)
         · rw [hS2 i j hc] at hy
           refine ⟨?_,(hM.hs _ _ _ hy).2⟩
           show (if S x then some id else g.lab x)=some id
           split
           · rfl
           · exact (hM.hs _ _ _ hy).1
theorem b7z (hE:EnvOk E) (h:RepSt w g st N pv a) (hF:Fr w0 A0 w g) {t:TypeId} {x y:Operand} {ty:TypeId} {K:St→AV→Prop} {F:Nat→List AV→Out→Prop} {o:Oper} (ho:o.op=.store t x y)
 (hK:opS E F (.store t x y) ty st K):SOk E w0 A0 N pv a (execOp a.eval o) w K:=by
 simp only [opS] at hK
 split at hK
 rotate_left
 · exact hK.elim
 rename_i id ep row off cs hx hcs
 unfold Env.ti at hK
 split at hK
 rotate_left
 · exact hK.elim
 rename_i ti hti
 replace hK:=hK.get
 obtain ⟨hlen,hK⟩:=hK
 replace hlen:=Nat.eq_of_beq_eq_true hlen
 have hT:=hE.ti t ti hti
 obtain ⟨q1,q2⟩:=uT hcs (a5n y (jM h y))
 have hv1:∀u∈(a.eval y).cells.toList,u.oneCell'=true:=by
  intro u hu
  obtain ⟨j,hj⟩:=List.getElem?_of_mem hu
  have hlt:j < cs.length:=by
   have:=(List.getElem?_eq_some_iff.1 hj).1;simp at this;omega
  exact xU (q2 j cs[j] u (by simp [hlt]) (by simpa using hj)).1
 cases hob:st.obj id with
 | none=>rw [hob] at hK;exact hK.elim
 | some ob =>
   rw [hob] at hK
   have hp:=iQ h x
   rw [hx] at hp
   obtain ⟨hid,hp⟩:=(show dM w g st (.p id [] ep row off) (a.eval x) from hp.2)
   obtain ⟨hpx,hl,hrow⟩:=hp ob hob
   have exec:execOp a.eval o=(do Instr.storeAt t (a.eval x) (a.eval y);pure Next.skip):=by simp [execOp,ho]
   have hO:=h.ob id ob hob
   unfold fY at hO
   have hvs:(a.eval y).cells.toList.length=cs.length:=by simpa using q1
   cases hbox:ob.box with
   | true =>
     rw [hbox] at hO
     obtain ⟨cc,e,row0,r1,r2,r3,r4,r5,r6,r7⟩:=hO
     simp only [a3a,hbox,cond_true,yU] at hK
     replace hK:=hK.get
     obtain ⟨hfit,hK⟩:=hK
     replace hfit:=Nat.le_of_ble_eq_true hfit
     have hrow0:row=0:=by rw [r1] at hrow;simpa using hrow
     subst hrow0
     have hra:dK ob.rows 0=row0:=by simp [dK,r1]
     rw [hra] at hK
     have hsz:off+ti.size≤cc.size:=by rw [r7.1,←r2,←hlen];exact hfit
     have hrun:=a0q (w:=w) hT.size (b:=g.β id) (o:=off) (v:=a.eval y) (by rw [q1,hlen]) r3 hsz hv1
     have haddr:a.eval x=.pointer (some ⟨g.β id,off,none⟩):=by rw [hpx,r5];simp
     have hl2:(a.eval y).cells.toList.length=ti.size:=by rw [hvs,hlen]
     generalize hcc:(cc.toList.take off++(a.eval y).cells.toList++cc.toList.drop (off+ti.size)).toArray=cc' at hrun
     have hget:∀p,cc'[p]?=if off≤p∧p < off+cs.length then (a.eval y).cells[p - off]? else cc[p]?:=by
      intro p
      rw [←hcc,←hl2,a2q (by simp [hl2];simpa using hsz),hvs]
      simp
     have hccs:cc'.size=cc.size:=by rw [←hcc];simp;omega
     refine ⟨_,_,hK,_,undef,w.setRow (g.β id) cc',g,by rw [exec,haddr];simp [hrun],.inr ⟨rfl,rfl⟩,?_,trivial,hF.set hl r3 hccs⟩
     refine h.turn hob hbox.symm rfl (by simp [r1]) ⟨Nat.le_refl _,fun _=>by first | rfl | exact hbox | exact hbox.symm⟩ hl (fun z hz=>setRow_other _ _ _ _ hz) (uH _ _ _) (fun hKp=>?_)
     refine ⟨cc',e,eC row0 off cs,rfl,?_,setRow_heap _ _ _ _ _ _ r3,r4,r5,by rw [hccs];exact r6,?_,fun j t u hj hu=>?_⟩
     · rw [uQ (by omega)];exact r2
     · rw [hccs,uQ (by omega)];exact r7.1
     · rw [uR (by omega)] at hj
       rw [hget] at hu
       split at hj
       · rename_i hc;rw [if_pos hc] at hu;exact (q2 _ t u hj hu).keeps hKp
       · rename_i hc;rw [if_neg hc] at hu;exact (r7.2 j t u hj hu).keeps hKp
   | false =>
     simp only [a3a,hbox,cond_false] at hK
     rcases hK with hK | hK
     · exact b5k (ep:=ep) h hF ho hT hlen ⟨hid,hp⟩ q1 q2 hob hbox hK
     · unfold c5n at hK
       split at hK
       rotate_left
       · exact hK.elim
       rename_i cs' st1 hex
       obtain ⟨k1,hl1,g1,h1,hF1,hKp,hR⟩:=a8y (us:=(a.eval y).cells.toList) h hF hex (by simpa using q1) (fun j t u hj hu=>q2 j t u hj (by simpa using hu))
       have hob1:st1.obj id=some ob:=by
        cases ho1:st1.obj id with
        | none =>
          exfalso
          unfold a6i at hK
          split at hK
          · rename_i cs2 st2 he2
            have k2:=(pL (us:=(a.eval y).cells.toList) h1 he2 (by simpa [hl1] using q1) hR).1
            cases ho2:st2.obj id with
            | none=>rw [ho2] at hK;exact hK.elim
            | some ob2=>have:=k2.obj id ob2 ho2;rw [ho1] at this;cases this
          · exact hK.elim
        | some ob1=>have:=k1.obj id ob1 ho1;rw [hob] at this;exact this.symm
       exact b5k h1 hF1 ho hT (by rw [hl1,hlen]) (dM.keeps (t:=.p id [] ep row off) hKp ⟨hid,hp⟩) (by rw [hl1];exact q1) (fun j t u hj hu=>hR j t u hj (by simpa using hu)) hob1 hbox hK
end Go.Ev
