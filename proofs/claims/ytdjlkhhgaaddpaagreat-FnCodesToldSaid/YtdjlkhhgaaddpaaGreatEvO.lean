/- Operations, all of them; regions. -/
import Derived.Test.YtdjlkhhgaaddpaaGreatEvLf
import Derived.Tactics
set_option linter.unusedSectionVars false
set_option linter.unusedVariables false
set_option linter.unusedSimpArgs false
namespace Go.Ev
open Go
open Classical
variable {E:Env} {w w' w0:World} {A0:Fix} {g g':Gh} {st st':St} {N:Nat} {pv:List Value} {a:Act}
theorem nU (st:St):∀l:List Operand,(evs st l).length=l.length
 | []=>rfl
 | _ :: l=>by simp [evs,nU st l]
theorem a8i (st:St):∀(l:List Operand) (j:Nat) x,(evs st l)[j]?=some x→∃o,l[j]?=some o∧x=st.evn o
 | [],j,x,h=>by simp [evs] at h
 | o :: l,0,x,h=>by simp [evs] at h;exact ⟨o,rfl,h.symm⟩
 | o :: l,j+1,x,h=>by
   simp only [evs,List.getElem?_cons_succ] at h ⊢
   exact a8i st l j x h
theorem d3u {l:List Operand} {x y:AV} (h:evs st l=[x,y]):∃ox oy,l=[ox,oy]∧st.evn ox=x∧st.evn oy=y:=by
 match l,h with
 | [ox,oy],h=>simp [evs] at h;exact ⟨ox,oy,rfl,h.1,h.2⟩
 | [],h=>simp [evs] at h
 | [_],h=>simp [evs] at h
 | _ :: _ :: _ :: _,h=>simp [evs] at h
theorem c7a (hE:EnvOk E) (h:RepSt w g st N pv a) (hF:Fr w0 A0 w g) {c:Call} {ty:TypeId} {K:St→AV→Prop} {F:Nat→List AV→Out→Prop} {o:Oper} (ho:o.op=.call c) (hc:c.callee=.builtin .append)
 (hK:opS E F (.call c) ty st K):SOk E w0 A0 N pv a (execOp a.eval o) w K:=by
 simp only [opS,hc] at hK
 split at hK
 rotate_left
 · exact hK.elim
 rename_i x y tx ty' hev hty
 unfold Env.ti at hK
 split at hK
 rotate_left
 · exact hK.elim
 rename_i ti hti
 split at hK
 rotate_left
 · exact hK.elim
 rename_i te hte
 split at hK
 rotate_left
 · exact hK.elim
 rename_i ti' hti'
 replace hK:=hK.get
 obtain ⟨hkk,hK⟩:=hK
 simp only [Bool.and_eq_true,Nat.beq_eq,Nat.blt_eq] at hkk
 obtain ⟨hk1,hk2,hpos⟩:=hkk
 obtain ⟨ox,oy,hargs,hx,hy⟩:=d3u hev
 have hTe:=hE.ti _ _ hte
 have ht:=((hE.ti _ _ hti).slice hk1).1
 have ht':=((hE.ti _ _ hti').slice hk2).1
 have rx:bL w g st x (a.eval ox):=hx ▸ jM h ox
 have ry:dU w g st y (a.eval oy):=by have:=jM h oy;rw [hy] at this;exact this
 have hat:c.argTypes=#[tx,ty']:=by apply Array.ext';simpa using hty
 have har:c.args=#[ox,oy]:=by apply Array.ext';simpa using hargs
 have hs:execOp a.eval o=(do let v ←Builtin.append_ #[tx,ty'] o.type #[a.eval ox,a.eval oy];pure (Next.value v)):=by
  simp [execOp,ho,resolve,hc,invoke,builtin,hat,har]
 have deep:∀{x1:AV} {t:Option T} {g1:Gh} {stF:St},RepSt w g1 stF N pv a→Fr w0 A0 w g1→bL w g1 stF x1 (a.eval ox)→(∀y1,t=some y1→dU w g1 stF y1 (a.eval oy))→c5f stF te K x1 t →
  ∃(x1:AV) (g1:Gh) (stF:St),RepSt w g1 stF N pv a∧Fr w0 A0 w g1∧bL w g1 stF x1 (a.eval ox)∧((∃src,(∀k ys st1,src=some (k,ys,st1)→k=te.size→SrcR E w g1 stF st1 te.size ty' (a.eval oy) ys)∧zP stF te K x1 src)∨∃y1,dU w g1 stF y1 (a.eval oy)∧b5e stF te K x1 y1):=by
  intro x1 t g1 stF h1 hF1 hx1 hy1 hK
  cases t with
  | none=>exact hK.elim
  | some y1 =>
    have ry1:=hy1 y1 rfl
    rcases hK with hK | hK | hK
    · exact ⟨x1,g1,stF,h1,hF1,hx1,.inl ⟨_,fun k ys st1 hsrc hkk=>a4k h1 ht' hpos ry1 hsrc hkk,hK⟩⟩
    · exact ⟨x1,g1,stF,h1,hF1,hx1,.inl ⟨_,fun k ys st1 hsrc hkk=>a9f h1 ht' hpos ry1 hsrc hkk,hK⟩⟩
    · exact ⟨x1,g1,stF,h1,hF1,hx1,.inr ⟨y1,ry1,hK⟩⟩
 have frzd:∀{x1:AV} {y1:T} {g1:Gh} {stF:St},RepSt w g1 stF N pv a→Fr w0 A0 w g1→bL w g1 stF x1 (a.eval ox)→dU w g1 stF y1 (a.eval oy)→c5g te K x1 (lP stF y1) →
  ∃(x1:AV) (g1:Gh) (stF:St),RepSt w g1 stF N pv a∧Fr w0 A0 w g1∧bL w g1 stF x1 (a.eval ox)∧((∃src,(∀k ys st1,src=some (k,ys,st1)→k=te.size→SrcR E w g1 stF st1 te.size ty' (a.eval oy) ys)∧zP stF te K x1 src)∨∃y1,dU w g1 stF y1 (a.eval oy)∧b5e stF te K x1 y1):=by
  intro x1 y1 g1 stF h1 hF1 hx1 hy1 hK
  unfold c5g at hK
  split at hK
  rotate_left
  · exact hK.elim
  rename_i y' st' hex
  obtain ⟨_,_,g2,h2,hF2,hKp,hR⟩:=a8y (l:=[y1]) (l':=[y']) (us:=[a.eval oy]) h1 hF1 (by simp only [lB];rw [hex]) rfl (fun j t u hj hu=>by
   cases j with
   | zero=>simp at hj hu;subst hj hu;exact hy1
   | succ j=>simp at hj)
  have ry1:dU w g2 st' y'.fzT (a.eval oy):=hR 0 _ _ rfl rfl
  exact ⟨x1,g2,st',h2,hF2,hx1.keeps hKp,.inl ⟨_,fun k ys st1 hsrc hkk=>a4k h2 ht' hpos ry1 hsrc hkk,hK⟩⟩
 obtain ⟨x,g1,stF,h',hF',rx',hK'⟩:∃(x1:AV) (g1:Gh) (stF:St),RepSt w g1 stF N pv a∧Fr w0 A0 w g1∧bL w g1 stF x1 (a.eval ox)∧((∃src,(∀k ys st1,src=some (k,ys,st1)→k=te.size→SrcR E w g1 stF st1 te.size ty' (a.eval oy) ys)∧zP stF te K x1 src)∨∃y1,dU w g1 stF y1 (a.eval oy)∧b5e stF te K x1 y1):=by
  rcases hK with hK | hK | hK | hK
  · exact ⟨x,g,st,h,hF,rx,.inl ⟨_,fun k ys st1 hsrc hkk=>a4k h ht' hpos ry hsrc hkk,hK⟩⟩
  · exact ⟨x,g,st,h,hF,rx,.inl ⟨_,fun k ys st1 hsrc hkk=>a9f h ht' hpos ry hsrc hkk,hK⟩⟩
  · exact frzd h hF rx ry hK
  · have ydeep:c9s st te K x y→∃(x1:AV) (g1:Gh) (stF:St),RepSt w g1 stF N pv a∧Fr w0 A0 w g1∧bL w g1 stF x1 (a.eval ox)∧((∃src,(∀k ys st1,src=some (k,ys,st1)→k=te.size→SrcR E w g1 stF st1 te.size ty' (a.eval oy) ys)∧zP stF te K x1 src)∨∃y1,dU w g1 stF y1 (a.eval oy)∧b5e stF te K x1 y1):=by
     clear hK
     intro hK
     unfold c9s at hK
     split at hK
     rotate_left
     · exact hK.elim
     rename_i id row off p ep n0 len
     cases hob:st.obj id with
     | none=>rw [hob] at hK;exact hK.elim
     | some ob =>
       rw [hob] at hK
       obtain ⟨hb,hK⟩:=(show Tr (!ob.box&&(Nat.beq ep ob.ep&&Nat.ble p.length 1)) _ from hK).get
       simp only [Bool.and_eq_true,Bool.not_eq_true'] at hb
       have hep:=Nat.eq_of_beq_eq_true hb.2.1
       have hpl:=Nat.le_of_ble_eq_true hb.2.2
       have hrow:row < ob.rows.length:=by
        match p,hpl,ry with
        | [],_,ry =>
          obtain ⟨_,hq⟩:=(show dM w g st (.n id [(row,off)] ep n0 len) (a.eval oy) from ry.2)
          exact ((hq ob hob hb.1).2 hep).2.2
        | [(lo,k)],_,ry =>
          obtain ⟨_,_,_,_,_,hq⟩:=(show dM w g st (.n id [(row,off),(lo,k)] ep n0 len) (a.eval oy) from ry.2)
          exact ((hq ob hob hb.1).2 hep).2.2
        | q1 :: q2 :: q,hpl,ry=>simp at hpl
       have hr:ob.rows[row]?=some ob.rows[row]:=by simp [hrow]
       have hK:=hK _ (fun _=>hr) _ rfl
       unfold d0z at hK
       split at hK
       rotate_left
       · exact hK.elim
       rename_i k rows tl hd
       have hc:ob.rows[row][off]?=some (.s true k rows):=by
        have:(ob.rows[row].drop off)[0]?=some (.s true k rows):=by rw [hd];rfl
        simpa using this
       obtain ⟨g1,h1,hF1,hKp,hX⟩:=b9h (ep:=ep) (n0:=n0) (len:=len) h hF hob hb.1 hep hr hc
       exact deep h1 hF1 (rx.keeps hKp) (fun y1 hy1=>hX rfl rfl hep ry hy1) hK
    unfold d7d at hK
    split at hK
    rotate_left
    · exact ydeep hK
    rename_i id row off p ep n0 len
    have rx1:dU w g st (.n id ((row,off) :: p) ep n0 len) (a.eval ox):=rx
    cases hob:st.obj id with
    | none=>rw [hob] at hK;exact hK.elim
    | some ob =>
       rw [hob] at hK
       obtain ⟨hb,hK⟩:=(show Tr (!ob.box&&(Nat.beq ep ob.ep&&Nat.ble p.length 1)) _ from hK).get
       simp only [Bool.and_eq_true,Bool.not_eq_true'] at hb
       have hep:=Nat.eq_of_beq_eq_true hb.2.1
       have hpl:=Nat.le_of_ble_eq_true hb.2.2
       have hrow:row < ob.rows.length:=by
        match p,hpl,rx1 with
        | [],_,ry =>
          obtain ⟨_,hq⟩:=(show dM w g st (.n id [(row,off)] ep n0 len) (a.eval ox) from ry.2)
          exact ((hq ob hob hb.1).2 hep).2.2
        | [(lo,k)],_,ry =>
          obtain ⟨_,_,_,_,_,hq⟩:=(show dM w g st (.n id [(row,off),(lo,k)] ep n0 len) (a.eval ox) from ry.2)
          exact ((hq ob hob hb.1).2 hep).2.2
        | q1 :: q2 :: q,hpl,ry=>simp at hpl
       have hr:ob.rows[row]?=some ob.rows[row]:=by simp [hrow]
       have hK:=hK _ (fun _=>hr) _ rfl
       unfold d1b at hK
       split at hK
       rotate_left
       · exact hK.elim
       rename_i k rows tl hd
       have hc:ob.rows[row][off]?=some (.s true k rows):=by
        have:(ob.rows[row].drop off)[0]?=some (.s true k rows):=by rw [hd];rfl
        simpa using this
       obtain ⟨g1,h1,hF1,hKp,hX⟩:=b9h (ep:=ep) (n0:=n0) (len:=len) h hF hob hb.1 hep hr hc
       split at hK
       rotate_left
       · exact hK.elim
       rename_i x1 hx1
       have rx2:bL w g1 (st.lift id row off ob k rows) (.one x1) (a.eval ox):=hX rfl rfl hep rx1 hx1
       unfold d1a at hK
       split at hK
       · rename_i id2 row2 off2 p2 ep2 n02 len2
         obtain ⟨hb2,hr2,hK⟩:=hK.get
         simp only [Bool.and_eq_true] at hb2
         have e1:=Nat.eq_of_beq_eq_true hb2.1
         have e2:=Nat.eq_of_beq_eq_true hb2.2.1
         have e3:=Nat.eq_of_beq_eq_true hb2.2.2
         subst e1
         exact deep h1 hF1 rx2 (fun y1 hy1=>hX hr2 e2 e3 ry hy1) hK
       · have ry1:=dU.keeps hKp ry
         rcases hK with hK | hK | hK
         · exact ⟨.one x1,g1,_,h1,hF1,rx2,.inl ⟨_,fun k ys st1 hsrc hkk=>a4k h1 ht' hpos ry1 hsrc hkk,hK⟩⟩
         · exact ⟨.one x1,g1,_,h1,hF1,rx2,.inl ⟨_,fun k ys st1 hsrc hkk=>a9f h1 ht' hpos ry1 hsrc hkk,hK⟩⟩
         · exact frzd h1 hF1 rx2 ry1 hK
 clear hK h hF rx
 have h:=h'
 have hF:=hF'
 have rx:=rx'
 rcases hK' with ⟨src,hSR,hK'⟩ | ⟨y1,ry1,hK'⟩
 rotate_left
 · unfold b5e at hK'
   split at hK'
   rotate_left
   · exact hK'.elim
   rename_i id ep lo len id2 ep2 lo2 len2
   obtain ⟨hid,hK'⟩:=hK'.get
   have hid:=Nat.eq_of_beq_eq_true hid
   subst hid
   split at hK'
   rotate_left
   · exact hK'.elim
   rename_i ob hob
   obtain ⟨hkk,hdis,hK'⟩:=hK'.get
   simp only [Bool.and_eq_true,Nat.beq_eq,Bool.not_eq_true'] at hkk
   obtain ⟨hb1,hb2⟩:=hkk
   obtain ⟨⟨hb3,hb4⟩,hK⟩:=hK' _ rfl
   obtain ⟨_,hwh,_,_,_,_,hlr,_⟩:=(show dM w g1 stF (.n id2 [] ep lo len) (a.eval ox) from rx.2).2 ob hob
   obtain ⟨_,hwh2,_,_,_,_,hlr2,_⟩:=(show dM w g1 stF (.n id2 [] ep2 lo2 len2) (a.eval oy) from ry1.2).2 ob hob
   have hrl:(vH ep lo len ob.rows++vH ep2 lo2 len2 ob.rows).length=len+len2:=by
    rw [List.length_append,rB hwh,rB hwh2]
    simp
    omega
   rw [hrl] at hb3 hb4 hK
   rw [rB hwh,rB hwh2] at hK
   exact c2j hTe ht ht' hpos h hF hob rx ry1 hdis hb1 hb2 ⟨hb3,hb4⟩ (hK _ rfl) hs
 have hK:=hK'
 clear hK'
 cases src with
 | none=>exact hK.elim
 | some p =>
 obtain ⟨k,ys,st1⟩:=p
 unfold zP at hK
 simp only at hK
 replace hK:=hK.get
 obtain ⟨hkk,hK⟩:=hK
 replace hkk:=Nat.eq_of_beq_eq_true hkk
 subst hkk
 have hR:=hSR _ _ _ rfl rfl
 split at hK
 · obtain ⟨hb,hK⟩:=hK _ rfl
   obtain ⟨_,ad,he⟩:=rx.2
   rw [he] at hs
   exact wZ hTe ht hpos h hF hR hb (.refl _) (hK _ rfl) hs
 · obtain ⟨hb,hK⟩:=hK _ rfl
   have he:a.eval ox=.slice none 0 0:=rx.2
   rw [he] at hs
   exact wZ hTe ht hpos h hF hR hb (.refl _) (hK _ rfl) hs
 · unfold d7c at hK
   split at hK
   rotate_left
   · exact hK.elim
   rename_i id ep lo len _ ob hob
   replace hK:=hK.get
   obtain ⟨hkk,hK⟩:=hK
   simp only [Bool.and_eq_true,Nat.beq_eq,Bool.not_eq_true'] at hkk
   obtain ⟨hb1,hb2⟩:=hkk
   obtain ⟨⟨hb3,hb4⟩,hK⟩:=hK _ rfl
   have hob0:=hR.kills.obj id ob hob
   obtain ⟨_,hwh,_,_,_,_,hlr,_⟩:=(show dM w g1 stF (.n id [] ep lo len) (a.eval ox) from rx.2).2 ob hob0
   have hrl:(vH ep lo len ob.rows++ys).length=len+ys.length:=by
    rw [List.length_append,rB hwh]
    simp
    omega
   rw [hrl] at hb3 hb4 hK
   rw [rB hwh] at hK
   exact b3f hTe ht hpos h hF hR hob rx hb1 hb2 ⟨hb3,hb4⟩ (hK _ rfl) hs
 · exact hK.elim
theorem b9a (h:RepSt w g st N pv a) {k:IntKind} {K:Int→Prop}:∀(l:List Operand) (acc:Int),fit (.int k acc)=true→a5d min k K acc (evs st l)→∃r,K r∧fit (.int k r)=true∧∀w',((l.map a.eval).foldlM Builtin.min2 (Value.int k acc)).run E.P w'=.ok (Value.int k r) w'
 | [],acc,hf,hK=>⟨acc,hK,hf,fun w'=>by simp⟩
 | o :: l,acc,hf,hK=>by
   have hr:=jM h o
   simp only [evs] at hK
   unfold a5d at hK
   split at hK
   · rename_i heq;cases heq
   · rename_i acc _ _ k' b l' heq
     obtain ⟨h1,h2⟩:=List.cons.inj heq
     subst h2
     replace hK:=hK.get
     obtain ⟨hkk,hK⟩:=hK
     replace hkk:=of_decide_eq_true hkk
     subst hkk
     rw [h1] at hr
     have e:a.eval o=.int k b:=hr.2
     have fb:fit (.int k b)=true:=e ▸ hr.1
     have fxy:fit (.int k (min acc b))=true:=by rcases Int.le_total acc b with h | h <;> simp only [Int.min_def] <;> split <;> assumption
     obtain ⟨r,q1,q2,q3⟩:=b9a h l (min acc b) fxy hK
     refine ⟨r,q1,q2,fun w'=>?_⟩
     have:(if b < acc then b else acc)=min acc b:=by rw [Int.min_def];split <;> split <;> omega
     simp only [List.map_cons,List.foldlM_cons,e]
     simp only [Builtin.min2,this]
     simpa using q3 w'
   · exact hK.elim
theorem d6f (h:RepSt w g st N pv a) (hF:Fr w0 A0 w g) {c:Call} {ty:TypeId} {K:St→AV→Prop} {F:Nat→List AV→Out→Prop} {o:Oper} (ho:o.op=.call c) (hc:c.callee=.builtin .min)
 (hK:opS E F (.call c) ty st K):SOk E w0 A0 N pv a (execOp a.eval o) w K:=by
 simp only [opS,hc] at hK
 cases hl:c.args.toList with
 | nil=>rw [hl] at hK;simp only [evs] at hK
 | cons ox l =>
   rw [hl] at hK
   simp only [evs] at hK
   split at hK
   rotate_left
   · exact hK.elim
   rename_i k x l' heq
   obtain ⟨h1,h2⟩:=List.cons.inj heq
   subst h2
   have hr:=jM h ox
   rw [h1] at hr
   have e:a.eval ox=.int k x:=hr.2
   have fx:fit (.int k x)=true:=e ▸ hr.1
   obtain ⟨r,q1,q2,q3⟩:=b9a (E:=E) h l x fx hK
   refine rE h hF q1 (v:=.int k r) ?_ ⟨q2,rfl⟩
   have hal:(c.args.map a.eval).toList=a.eval ox :: l.map a.eval:=by rw [Array.toList_map,hl];rfl
   simp [execOp,ho,resolve,hc,invoke,builtin,Builtin.min_,hl,e,q3]
theorem b9b (h:RepSt w g st N pv a) {k:IntKind} {K:Int→Prop}:∀(l:List Operand) (acc:Int),fit (.int k acc)=true→a5d max k K acc (evs st l)→∃r,K r∧fit (.int k r)=true∧∀w',((l.map a.eval).foldlM Builtin.max2 (Value.int k acc)).run E.P w'=.ok (Value.int k r) w'
 | [],acc,hf,hK=>⟨acc,hK,hf,fun w'=>by simp⟩
 | o :: l,acc,hf,hK=>by
   have hr:=jM h o
   simp only [evs] at hK
   unfold a5d at hK
   split at hK
   · rename_i heq;cases heq
   · rename_i acc _ _ k' b l' heq
     obtain ⟨h1,h2⟩:=List.cons.inj heq
     subst h2
     replace hK:=hK.get
     obtain ⟨hkk,hK⟩:=hK
     replace hkk:=of_decide_eq_true hkk
     subst hkk
     rw [h1] at hr
     have e:a.eval o=.int k b:=hr.2
     have fb:fit (.int k b)=true:=e ▸ hr.1
     have fxy:fit (.int k (max acc b))=true:=by rcases Int.le_total acc b with h | h <;> simp only [Int.max_def] <;> split <;> assumption
     obtain ⟨r,q1,q2,q3⟩:=b9b h l (max acc b) fxy hK
     refine ⟨r,q1,q2,fun w'=>?_⟩
     have:(if b > acc then b else acc)=max acc b:=by rw [Int.max_def];split <;> split <;> omega
     simp only [List.map_cons,List.foldlM_cons,e]
     simp only [Builtin.max2,this]
     simpa using q3 w'
   · exact hK.elim
theorem d6g (h:RepSt w g st N pv a) (hF:Fr w0 A0 w g) {c:Call} {ty:TypeId} {K:St→AV→Prop} {F:Nat→List AV→Out→Prop} {o:Oper} (ho:o.op=.call c) (hc:c.callee=.builtin .max)
 (hK:opS E F (.call c) ty st K):SOk E w0 A0 N pv a (execOp a.eval o) w K:=by
 simp only [opS,hc] at hK
 cases hl:c.args.toList with
 | nil=>rw [hl] at hK;simp only [evs] at hK
 | cons ox l =>
   rw [hl] at hK
   simp only [evs] at hK
   split at hK
   rotate_left
   · exact hK.elim
   rename_i k x l' heq
   obtain ⟨h1,h2⟩:=List.cons.inj heq
   subst h2
   have hr:=jM h ox
   rw [h1] at hr
   have e:a.eval ox=.int k x:=hr.2
   have fx:fit (.int k x)=true:=e ▸ hr.1
   obtain ⟨r,q1,q2,q3⟩:=b9b (E:=E) h l x fx hK
   refine rE h hF q1 (v:=.int k r) ?_ ⟨q2,rfl⟩
   have hal:(c.args.map a.eval).toList=a.eval ox :: l.map a.eval:=by rw [Array.toList_map,hl];rfl
   simp [execOp,ho,resolve,hc,invoke,builtin,Builtin.max_,hl,e,q3]
def Nxt (w0:World) (A0:Fix) (N:Nat) (pv:List Value) (a:Act) (d:Option Nat) (K:St→AV→Prop) (next:Act→World→Prop):Prop :=
 ∀st' av v w' g',K st' av→RepSt w' g' st' N pv a→bL w' g' st' av v→Fr w0 A0 w' g'→next (a.put d v) w'
theorem SOk.wp {o:Oper} {K:St→AV→Prop} {next:Act→World→Prop} {Q:Exit→Act→World→Prop} (h:SOk E w0 A0 N pv a (execOp a.eval o) w K) (hn:Nxt w0 A0 N pv a o.dst K next):o.wp E.P a w next Q:=by
 obtain ⟨st',av,hK,nx,v,w',g',hrun,hnx,hR,hA,hF⟩:=h
 unfold Oper.wp
 rw [hrun]
 rcases hnx with rfl | ⟨rfl,rfl⟩
 · exact hn st' av v w' g' hK hR hA hF
 · exact hn st' av undef w' g' hK hR hA hF
theorem c0l (h:RepSt w g st N pv a) (hF:Fr w0 A0 w g) (hG:GOk E.P w0 (A0.G w0)) {F:Nat→List AV→Out→Prop} (hFn:∀f as out,F f as out→FnOk E.P f as out) {c:Call} {fo:Operand} {K:St→AV→Prop} {o:Oper} (ho:o.op=.call c) (hc:c.callee=.value fo)
 (hK:match st.ev fo with | .one (.c f caps)=>b2g F f (evs st c.args.toList++caps.map .one) st K | _=>False) {next:Act→World→Prop} {Q:Exit→Act→World→Prop} (hn:∀st' av v w' g',K st' av→RepSt w' g' st' N pv a→bL w' g' st' av v→Fr w0 A0 w' g'→Up w w'→next (a.put o.dst v) w'):o.wp E.P a w next Q:=by
 split at hK
 rotate_left
 · exact hK.elim
 rename_i f caps hf
 have rf:=iQ h fo
 rw [hf] at rf
 obtain ⟨cvs,hv,hl,hcv⟩:=rf.2
 obtain ⟨⟨fn,q1,q2,q3⟩,hC⟩:=c9m h hF hG hFn (vals:=c.args.map a.eval++cvs) (by simp [nU,hl]) (fun j x u hj hu=>by
  simp only [Array.toList_append,Array.toList_map] at hu
  by_cases hlt:j < c.args.toList.length
  · rw [List.getElem?_append_left (by rw [nU];exact hlt)] at hj
    rw [List.getElem?_append_left (by simpa using hlt)] at hu
    obtain ⟨o',h1,rfl⟩:=a8i st _ j x hj
    rw [List.getElem?_map,h1] at hu
    cases hu
    exact jM h o'
  · rw [List.getElem?_append_right (by rw [nU];omega)] at hj
    rw [List.getElem?_append_right (by simp at hlt ⊢;omega)] at hu
    rw [nU,List.getElem?_map] at hj
    simp only [List.length_map] at hu
    cases hcap:caps[j - c.args.toList.length]? with
    | none=>rw [hcap] at hj;cases hj
    | some t =>
      rw [hcap] at hj
      cases hj
      have:=hcv _ t u hcap (by simpa using hu)
      refine ⟨this.1,?_⟩
      cases t with
      | c _ _=>exact this.2.elim
      | _=>exact this.2) hK
 have hrun:(execOp a.eval o).run E.P w=.ok (.enter f (c.args.map a.eval++cvs)) w:=by
  cases hbd:fn.body with
  | none=>rw [hbd] at q3;cases q3
  | some b=>simp [execOp,ho,resolve,hc,hv,Deferred.ofValue,invoke,callFunc,q1,hbd];exact fun he=>by simp [he] at q2
 unfold Oper.wp
 rw [hrun]
 rw [Oper.upon_enter]
 refine hC.mono ?_
 rintro e w' ⟨v,st',av,g',rfl,hK,hR,hA,hF',hU⟩
 exact hn st' av v w' g' hK hR hA hF' hU
theorem c9k (h:RepSt w g st N pv a) (hF:Fr w0 A0 w g) (hG:GOk E.P w0 (A0.G w0)) {F:Nat→List AV→Out→Prop} (hFn:∀f as out,F f as out→FnOk E.P f as out) {c:Call} {fo:Operand} {K:St→AV→Prop} {o:Oper} (ho:o.op=.call c) (hc:c.callee=.value fo)
 (hK:match st.ev fo with | .one (.c f caps)=>c4y F f (evs st c.args.toList++caps.map .one) st K | _=>False) {next:Act→World→Prop} {Q:Exit→Act→World→Prop} (hn:∀st' av v w' g',K st' av→RepSt w' g' st' N pv a→bL w' g' st' av v→Fr w0 A0 w' g'→next (a.put o.dst v) w'):o.wp E.P a w next Q:=by
 split at hK
 rotate_left
 · exact hK.elim
 rename_i f caps hf
 have rf:=iQ h fo
 rw [hf] at rf
 obtain ⟨cvs,hv,hl,hcv⟩:=rf.2
 obtain ⟨⟨fn,q1,q2,q3⟩,hC⟩:=c9l h hF hG hFn (vals:=c.args.map a.eval++cvs) (by simp [nU,hl]) (fun j x u hj hu=>by
  simp only [Array.toList_append,Array.toList_map] at hu
  by_cases hlt:j < c.args.toList.length
  · rw [List.getElem?_append_left (by rw [nU];exact hlt)] at hj
    rw [List.getElem?_append_left (by simpa using hlt)] at hu
    obtain ⟨o',h1,rfl⟩:=a8i st _ j x hj
    rw [List.getElem?_map,h1] at hu
    cases hu
    exact jM h o'
  · rw [List.getElem?_append_right (by rw [nU];omega)] at hj
    rw [List.getElem?_append_right (by simp at hlt ⊢;omega)] at hu
    rw [nU,List.getElem?_map] at hj
    simp only [List.length_map] at hu
    cases hcap:caps[j - c.args.toList.length]? with
    | none=>rw [hcap] at hj;cases hj
    | some t =>
      rw [hcap] at hj
      cases hj
      have:=hcv _ t u hcap (by simpa using hu)
      refine ⟨this.1,?_⟩
      cases t with
      | c _ _=>exact this.2.elim
      | _=>exact this.2) hK
 have hrun:(execOp a.eval o).run E.P w=.ok (.enter f (c.args.map a.eval++cvs)) w:=by
  cases hbd:fn.body with
  | none=>rw [hbd] at q3;cases q3
  | some b=>simp [execOp,ho,resolve,hc,hv,Deferred.ofValue,invoke,callFunc,q1,hbd];exact fun he=>by simp [he] at q2
 unfold Oper.wp
 rw [hrun]
 rw [Oper.upon_enter]
 refine hC.mono ?_
 rintro e w' ⟨v,st',av,g',rfl,hK,hR,hA,hF'⟩
 exact hn st' av v w' g' hK hR hA hF'
theorem d4c (h:RepSt w g st N pv a) (hF:Fr w0 A0 w g) (hG:GOk E.P w0 (A0.G w0)) {F:Nat→List AV→Out→Prop} (hFn:∀f as out,F f as out→FnOk E.P f as out) {c:Call} {fo:Operand} {ty:TypeId} {K:St→AV→Prop} {o:Oper} (ho:o.op=.call c) (hc:c.callee=.value fo)
 (hK:opS E F (.call c) ty st K) {next:Act→World→Prop} {Q:Exit→Act→World→Prop} (hn:Nxt w0 A0 N pv a o.dst K next):o.wp E.P a w next Q:=by
 simp only [opS,hc] at hK
 cases he:st.ev fo with
 | one t =>
   rw [he] at hK
   cases t with
   | c f caps =>
     rcases hK with hK | hK
     · exact c0l h hF hG hFn ho hc (by rw [he];exact hK) (fun st' av v w' g' h1 h2 h3 h4 _=>hn st' av v w' g' h1 h2 h3 h4)
     · exact c9k h hF hG hFn ho hc (by rw [he];exact hK) (fun st' av v w' g' h1 h2 h3 h4=>hn st' av v w' g' h1 h2 h3 h4)
   | _=>exact hK.elim
 | _=>rw [he] at hK;exact hK.elim
theorem b1h (hE:EnvOk E) (h:RepSt w g st N pv a) (hF:Fr w0 A0 w g) (hG:GOk E.P w0 (A0.G w0)) {F:Nat→List AV→Out→Prop} (hFn:∀f as out,F f as out→FnOk E.P f as out) {ty:TypeId} {K:St→AV→Prop} {o:Oper}
 (hK:opS E F o.op ty st K) {next:Act→World→Prop} {Q:Exit→Act→World→Prop} (hn:Nxt w0 A0 N pv a o.dst K next):o.wp E.P a w next Q:=by
 generalize hop:o.op=op at hK
 cases op with
 | alloc t=>exact (c1k hE h hF hop hK).wp hn
 | box t x=>exact (d7a h hF hop hK).wp hn
 | build t ps=>exact (c9o hE h hF hop hK).wp hn
 | buildSlice t n ps=>exact (b7o hE h hF hop hK).wp hn
 | makeSlice t l c=>exact (b9d hE h hF hop hK).wp hn
 | slice t x lo hi mx =>
   cases mx with
   | none=>exact (c7x hE h hF hop hK).wp hn
   | some _=>exact hK.elim
 | store t x y=>exact (b7z hE h hF hop hK).wp hn
 | makeFunc f first caps =>
   cases f with
   | func f =>
     simp only [opS] at hK
     split at hK
     · rename_i cs h1 h2
       exact (c1y h hF hop h1 h2 hK).wp hn
     · exact hK.elim
   | _=>exact hK.elim
 | call c =>
   cases hc:c.callee with
   | value f=>exact d4c h hF hG hFn hop hc hK hn
   | builtin b =>
     cases b with
     | append=>exact (c7a hE h hF hop hc hK).wp hn
     | min=>exact (d6f h hF hop hc hK).wp hn
     | max=>exact (d6g h hF hop hc hK).wp hn
     | _=>simp only [opS,hc] at hK
   | invoke _ _=>simp only [opS,hc] at hK
 | _=>exact hK.elim
end Go.Ev
