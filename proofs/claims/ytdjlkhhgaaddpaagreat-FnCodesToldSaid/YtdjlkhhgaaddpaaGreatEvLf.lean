/- A slice that lies in an object's row becomes an object of its own; where it lay is a hole. -/
import Derived.Test.YtdjlkhhgaaddpaaGreatEvNb
set_option linter.unusedSectionVars false
set_option linter.unusedVariables false
set_option linter.unusedSimpArgs false
namespace Go.Ev
open Go
open Classical
variable {E:Env} {w w' w0:World} {A0:Fix} {g g':Gh} {st st':St} {N:Nat} {pv:List Value} {a:Act}
theorem d3o (h:RepSt w g st N pv a) (hF:Fr w0 A0 w g) {id row off k:Nat} {ob:Ob} {r:List T} {rows:List (List T)} (hob:st.obj id=some ob) (hbox:ob.box=false) (hr:ob.rows[row]?=some r) (hc:r[off]?=some (.s true k rows)) :
 ∃(g1:Gh) (S0:Nat→Prop) (v:Value),RepSt w g1 (st.hole id row off ob) N pv a∧Fr w0 A0 w g1∧Keeps w g st w g1 (st.hole id row off ob)∧tH g1 (st.hole id row off ob) S0∧Ow w g1.A S0 v (.s true k rows)∧w.cell? ⟨g.β id,g.ω id+row*ob.k+off,none⟩=some v:=by
 have hid:=nF hob
 have hrow:row < ob.rows.length:=(List.getElem?_eq_some_iff.1 hr).1
 have hO:=h.ob id ob hob
 unfold fY at hO
 rw [hbox] at hO
 rcases hO with ⟨hz,_⟩ | ⟨cs,e,vals,Sub,r1,r2,r3,r4,hM⟩
 · rw [hz] at hrow;simp at hrow
 have hrl:r.length=ob.k:=hM.hk r (List.mem_of_getElem? hr)
 have hoff:off < ob.k:=by rw [←hrl];exact (List.getElem?_eq_some_iff.1 hc).1
 have hOw:=hM.ht row off r _ hr hc
 obtain ⟨S0,hS0⟩:∃S0:Nat→Prop,∀x,S0 x↔Sub row off x:=⟨_,fun _=>Iff.rfl⟩
 have hSl:∀x,S0 x→g.lab x=some id∧x≠g.β id:=fun x hx=>hM.hs row off x ((hS0 x).1 hx)
 let p:=st.ob.length
 let g1:Gh:={ g with lab:=fun x=>if S0 x then some p else g.lab x }
 have l0:∀x,¬S0 x→g1.lab x=g.lab x:=fun x hx=>if_neg hx
 have l1:∀x,S0 x→g1.lab x=some p:=fun x hx=>if_pos hx
 let st1:=st.hole id row off ob
 let ob1:Ob:={ ob with rows:=ob.rows.set row (eC (dK ob.rows row) off [.h]),ep:=ob.ep+1 }
 have jP:st1.ob.length=st.ob.length+1:=by simp [st1,St.hole]
 have o1:st1.obj id=some ob1:=by simp [st1,St.hole,St.obj,List.getElem?_append,hid,ob1]
 have o2:∀i,i≠id→st1.obj i=st.obj i:=by
  intro i hi
  simp only [st1,St.hole,St.obj,List.getElem?_append,List.length_set]
  by_cases hlt:i < st.ob.length
  · rw [if_pos hlt,List.getElem?_set_ne (Ne.symm hi)]
  · rw [if_neg hlt,List.getElem?_eq_none (l:=st.ob) (by omega)]
    cases h9:i - st.ob.length <;> rfl
 have gA:∀b,g.A b→g1.A b:=fun b hb=>⟨by
  rw [l0 b (fun hs=>by have h1:=hb.1;rw [(hSl b hs).1] at h1;cases h1)];exact hb.1,hb.2⟩
 have hβ:¬S0 (g.β id):=fun hs=>(hSl _ hs).2 rfl
 have hKp:Keeps w g st w g1 st1:=by
  refine ⟨fun b hb _=>⟨gA b hb,rfl⟩,by omega,fun i ob' hi ho=>?_,fun i ob' hi ho ob2 h2=>?_,fun i ob' hi ho=>⟨rfl,rfl,rfl,fun hlb=>?_⟩⟩
  · by_cases he:i=id
    · subst he
      rw [o1] at ho;cases ho
      exact ⟨ob,hob,rfl,rfl,by simp [ob1]⟩
    · rw [o2 i he] at ho;exact ⟨ob',ho,rfl,rfl,rfl⟩
  · by_cases he:i=id
    · subst he
      rw [o1] at ho;cases ho
      rw [hob] at h2;cases h2
      exact ⟨Nat.le_succ _,fun _ _ _=>rfl⟩
    · rw [o2 i he,h2] at ho;cases ho
      exact ⟨Nat.le_refl _,fun _ _ _=>rfl⟩
  · have hn:¬S0 (g.β i):=by
     intro hs
     have:=(hSl _ hs).1
     rw [hlb] at this;cases this
     exact hβ hs
    show g1.lab (g.β i)=some i
    rw [l0 _ hn];exact hlb
 have hRp:RepSt w g1 st1 N pv a:=by
  refine ⟨h.size,h.defers,fun i=>(h.tm i).keeps hKp,fun i ob' ho=>?_,fun b i hb=>?_,h.pr.1,fun i t u hi hu=>(h.pr.2 i t u hi hu).keeps hKp⟩
  · by_cases he:i=id
    · subst he
      rw [o1] at ho;cases ho
      unfold fY
      have hbx:ob1.box=false:=hbox
      simp only [hbx]
      have hra:dK ob.rows row=r:=by simp only [dK,List.getD,hr];rfl
      refine .inr ⟨cs,e,vals,fun i j x=>if i=row∧j=off then False else Sub i j x,r1,by rw [l0 _ hβ];exact r2,r3,by simp only [ob1,List.length_set];exact r4,?_⟩
      refine ⟨fun q hq=>?_,fun i j hi hj=>hM.hv i j (by simpa [ob1] using hi) hj,fun i j q t hq ht=>?_,fun i j i' j' x hx hx'=>?_,fun i j x hx=>?_⟩
      · rcases List.mem_or_eq_of_mem_set hq with hq | rfl
        · exact hM.hk q hq
        · rw [hra,uQ (by simp;omega),hrl]
      · have hq:(ob.rows.set row (eC (dK ob.rows row) off [.h]))[i]?=some q:=hq
        by_cases hir:i=row
        · subst hir
          rw [List.getElem?_set_self (by omega)] at hq
          cases hq
          rw [hra,uR (by simp;omega)] at ht
          by_cases hjo:j=off
          · subst hjo
            simp at ht
            subst ht
            simp only [and_self,if_true]
            exact .h _ _ hOw.one
          · rw [if_neg (by simp;omega)] at ht
            simp only [hjo,and_false,if_false]
            exact (hM.ht i j r t hr ht).mono (fun b hb _=>⟨gA b hb,rfl⟩) (fun b hb _=>⟨hb,rfl⟩)
        · rw [List.getElem?_set_ne (Ne.symm hir)] at hq
          simp only [hir,false_and,if_false]
          exact (hM.ht i j q t hq ht).mono (fun b hb _=>⟨gA b hb,rfl⟩) (fun b hb _=>⟨hb,rfl⟩)
      · by_cases hc1:i=row∧j=off
        · rw [if_pos hc1] at hx;exact hx.elim
        · by_cases hc2:i'=row∧j'=off
          · rw [if_pos hc2] at hx';exact hx'.elim
          · rw [if_neg hc1] at hx;rw [if_neg hc2] at hx'
            exact hM.hd _ _ _ _ _ hx hx'
      · by_cases hc1:i=row∧j=off
        · rw [if_pos hc1] at hx;exact hx.elim
        · rw [if_neg hc1] at hx
          obtain ⟨q1,q2⟩:=hM.hs i j x hx
          refine ⟨?_,q2⟩
          show g1.lab x=some _
          rw [l0 x (fun hs=>hc1 (hM.hd _ _ _ _ _ hx ((hS0 x).1 hs)))]
          exact q1
    · rw [o2 i he] at ho
      refine (h.ob i ob' ho).keeps hKp ⟨rfl,rfl,rfl⟩ (fun x hx _=>⟨?_,rfl⟩) (fun hn hh=>?_)
      · rw [l0 x (fun hs=>by have:=(hSl x hs).1;rw [hx] at this;cases this;exact he rfl)];exact hx
      · have hh:g1.lab (g.β i)=some i:=hh
        by_cases hs:S0 (g.β i)
        · rw [l1 _ hs] at hh;cases hh
          have:=nF ho;omega
        · rw [l0 _ hs] at hh;exact hn hh
  · by_cases hs:S0 b
    · rw [l1 b hs] at hb;cases hb
      exact ⟨(h.lab b id (hSl b hs).1).1,by omega⟩
    · rw [l0 b hs] at hb
      have:=h.lab b i hb
      exact ⟨this.1,by omega⟩
 refine ⟨g1,S0,vals row off,hRp,?_,hKp,fun x hx=>⟨p,l1 x hx,?_⟩,?_,?_⟩
 · refine ⟨hF.os,hF.tape,hF.output,hF.size,hF.x,fun b hb hA=>⟨(hF.blk b hb hA).1,?_⟩,hF.bs⟩
   rw [l0 b (fun hs=>by have h1:=(hF.blk b hb hA).2;rw [(hSl b hs).1] at h1;cases h1)]
   exact (hF.blk b hb hA).2
 · show st1.obj p=none
   simp [st1,St.hole,St.obj,p]
 · exact hOw.mono (fun b hb _=>⟨gA b hb,rfl⟩) (fun b hb _=>⟨(hS0 b).2 hb,rfl⟩)
 · have:cs[g.ω id+row*ob.k+off]?=some (vals row off):=hM.hv row off hrow hoff
   simp [World.cell?,r1,this]
theorem d3k (h:RepSt w g st N pv a) (hF:Fr w0 A0 w g) {id row off k:Nat} {ob:Ob} {r:List T} {rows:List (List T)} (hob:st.obj id=some ob) (hbox:ob.box=false) (hr:ob.rows[row]?=some r) (hc:r[off]?=some (.s true k rows)) :
 ∃(g1:Gh),RepSt w g1 (st.lift id row off ob k rows) N pv a∧Fr w0 A0 w g1∧Keeps w g st w g1 (st.lift id row off ob k rows) ∧
  ∀v,w.cell? ⟨g.β id,g.ω id+row*ob.k+off,none⟩=some v→dU w g1 (st.lift id row off ob k rows) (.n (st.ob.length+1) [] 1 0 rows.length) v:=by
 obtain ⟨g1,S0,v0,hR,hF1,hK,hP,hO,hcell⟩:=d3o h hF hob hbox hr hc
 obtain ⟨g2,hIn,hT⟩:=a6z (t:=.s true k rows) hR (fun b hb=>hb) hP hO (t':=.n (st.hole id row off ob).ob.length [] 1 0 rows.length) (st':=(st.hole id row off ob).add ⟨k,false,rows,0⟩) rfl
 have hl:(st.hole id row off ob).ob.length=st.ob.length+1:=by simp [St.hole]
 refine ⟨g2,hIn.rep,?_,hK.trans hIn.keeps (Nat.le_refl _),fun v hv=>?_⟩
 · exact ⟨hF1.os,hF1.tape,hF1.output,hF1.size,⟨hIn.X.trans hF1.x.1,hF1.x.2⟩,fun b hb hA=>⟨(hF1.blk b hb hA).1,hIn.none b (hF1.blk b hb hA).2⟩,hF1.bs⟩
 · rw [hcell] at hv;cases hv
   rw [hl] at hT
   exact hT
theorem d3a {id n0 lo len c:Nat} {ad:Option Addr} {ob:Ob} (hob:st.obj id=some ob) (h:dU w g st (.n id [] 1 0 n0) (.slice ad n0 c)) (hlo:lo+len≤n0) :
 dU w g st (.n id [] 0 lo len) (.slice (if c=lo then ad else ad.map fun x=>x.add (lo*ob.k)) len (c - lo)):=by
 have hf:fit (.slice ad n0 c)=true:=h.1
 obtain ⟨hid,hx⟩:=(show dM w g st (.n id [] 1 0 n0) (.slice ad n0 c) from h.2)
 obtain ⟨hbox,hwh,ad',c',e,hlc,hlr,hcc⟩:=hx ob hob
 injection e with e1 e2 e3
 subst e1 e3
 refine ⟨mO (m:=n0) hf (by omega),hid,fun ob' ho'=>?_⟩
 rw [hob] at ho'
 cases ho'
 refine ⟨hbox,(fun h=>by cases h),_,_,rfl,by omega,by omega,?_⟩
 by_cases hz:c=lo
 · exact .inl (by omega)
 · rw [if_neg hz]
   rcases hcc with rfl | ⟨rfl,q1,q2⟩
   · exact .inl (by omega)
   · refine .inr ⟨?_,q1,?_⟩
     · simp only [Option.map_some,lT,Nat.zero_mul,Nat.add_zero]
     · have:lo+(c - lo)=0+c:=by omega
       rw [this];exact q2
theorem b9h (h:RepSt w g st N pv a) (hF:Fr w0 A0 w g) {id row off k ep n0 len:Nat} {ob:Ob} {r:List T} {rows:List (List T)} (hob:st.obj id=some ob) (hbox:ob.box=false) (hep:ep=ob.ep) (hr:ob.rows[row]?=some r) (hc:r[off]?=some (.s true k rows)) :
 ∃(g1:Gh),RepSt w g1 (st.lift id row off ob k rows) N pv a∧Fr w0 A0 w g1∧Keeps w g st w g1 (st.lift id row off ob k rows) ∧
  ∀{p:List (Nat×Nat)} {row2 off2 ep2 n02 len2:Nat} {v:Value} {t:T},row2=row→off2=off→ep2=ob.ep→dU w g st (.n id ((row2,off2) :: p) ep2 n02 len2) v→b1s (st.ob.length+1) rows.length k p len2=some t→dU w g1 (st.lift id row off ob k rows) t v:=by
 obtain ⟨g1,h1,h2,h3,h4⟩:=d3k h hF hob hbox hr hc
 refine ⟨g1,h1,h2,h3,?_⟩
 rintro p row2 off2 ep2 n02 len2 v t rfl rfl rfl hv ht
 have hnew:(st.lift id row2 off2 ob k rows).obj (st.ob.length+1)=some ⟨k,false,rows,0⟩:=by
  have hl:(st.hole id row2 off2 ob).ob.length=st.ob.length+1:=by simp [St.hole]
  unfold St.lift
  rw [←hl];exact iJ
 match p,hv,ht with
 | [],hv,ht =>
   cases ht
   obtain ⟨_,hq⟩:=(show dM w g st (.n id [(row2,off2)] ob.ep n02 len2) v from hv.2)
   obtain ⟨_,hq⟩:=hq ob hob hbox
   exact h4 v (hq rfl).2.1
 | [(lo,k')],hv,ht =>
   simp only [b1s] at ht
   cases hk:Nat.beq k' k with
   | false=>rw [hk] at ht;cases ht
   | true =>
     rw [hk] at ht
     cases ht
     have hk:=Nat.eq_of_beq_eq_true hk
     subst hk
     obtain ⟨_,hlo,ad,c,e,hq⟩:=(show dM w g st (.n id [(row2,off2),(lo,k')] ob.ep n02 len2) v from hv.2)
     obtain ⟨_,hq⟩:=hq ob hob hbox
     have hw:=h4 _ (hq rfl).2.1
     have hn:rows.length=n02:=by
      obtain ⟨_,hx⟩:=(show dM w g1 (st.lift id row2 off2 ob k' rows) (.n (st.ob.length+1) [] 1 0 rows.length) (.slice ad n02 c) from hw.2)
      obtain ⟨_,_,_,_,e,_⟩:=hx _ hnew
      injection e with _ e _
      exact e.symm
     rw [hn] at hw
     rw [e]
     exact d3a hnew hw hlo
 | _ :: _ :: _,hv,ht=>cases ht
end Go.Ev
