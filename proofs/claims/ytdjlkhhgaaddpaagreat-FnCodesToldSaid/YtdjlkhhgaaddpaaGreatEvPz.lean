/- Regions that draw: what floats is put off, whatever is done in between. -/
import Derived.Test.YtdjlkhhgaaddpaaGreatEvPt
set_option linter.unusedSectionVars false
set_option linter.unusedVariables false
set_option linter.unusedSimpArgs false
namespace Go.Ev
open Go
open Classical
variable {E:Env} {w w' w0:World} {A0:Fix} {g g':Gh} {st st':St} {N:Nat} {pv:List Value} {a b:Act}
theorem b3g {ops:Array Oper} {x y:Oper} (h:x.apart ops y=true):y.apart ops x=true:=by
 unfold Oper.apart at *
 cases hx:x.dst with
 | none =>
   rw [hx] at h
   cases hy:y.dst with
   | none=>simp
   | some e=>simp [hy] at h ⊢;exact h
 | some d =>
   rw [hx] at h
   cases hy:y.dst with
   | none=>simp [hy] at h ⊢;exact h
   | some e =>
     simp [hy] at h ⊢
     exact ⟨⟨h.2,fun h'=>h.1.2 h'.symm⟩,h.1.1⟩
def Lz (ops:Array Oper) (U:List Nat) (lm:Array Bool) (i:Nat) (oi:Oper):Prop :=
 (∀d,oi.dst=some d→d ∉ oi.looksAt ops) ∧
 (∀k∈U,∀ok d,ops[k]?=some ok→ok.dst=some d→d ∉ oi.looksAt ops∧oi.dst≠some d) ∧
 (∀j oj,ops[j]?=some oj→j≠i→lm.getD j true=false→(∀e∈oj.after,Region.binds .any e=true→e.on≠i)→oi.apart ops oj=true)
def PdS (ops:Array Oper):List Nat→Array Bool→Array Bool→Prop
 | [],lm,L=>L=lm
 | i :: U,lm,L=>i∈Region.ready .any ops lm∧∃oi,ops[i]?=some oi∧oi.guard=none∧Lz ops U lm i oi∧PdS ops U (lm.setIfInBounds i true) L
def PdR (P:Program) (ops:Array Oper) (w:World):List Nat→Act→Act→Prop
 | [],a,b=>b=a
 | i :: U,a,b=>∃oi v,ops[i]?=some oi∧(execOp a.eval oi).run P w=.ok (.value v) w∧PdR P ops w U (a.put oi.dst v) b
theorem c2p {lm:Array Bool} {i:Nat} (h:lm.getD i true=false):(lm.setIfInBounds i true).getD i true=true:=by
 have:i < lm.size:=by
  rcases Nat.lt_or_ge i lm.size with h' | h'
  · exact h'
  · simp [Array.getElem?_eq_none h'] at h
 simp [this]
theorem a7y {lm:Array Bool} {i j:Nat} (h:(lm.setIfInBounds i true).getD j true=false):lm.getD j true=false:=by
 by_cases hij:i=j
 · subst hij
   by_cases hlt:i < lm.size
   · simp [hlt] at h
   · simp [hlt] at h
 · rw [getD_set_ne true hij] at h;exact h
theorem PdS.unl {ops:Array Oper}:∀{U:List Nat} {lm L:Array Bool},PdS ops U lm L→∀k∈U,lm.getD k true=false
 | i :: U,lm,L,⟨hr,oi,_,_,_,hp⟩,k,hk=>by
   rcases List.mem_cons.1 hk with rfl | hk
   · exact (mem_ready.1 hr).1
   · exact a7y (hp.unl k hk)
theorem PdS.ne {ops:Array Oper} {i:Nat} {U:List Nat} {lm L:Array Bool} (h:PdS ops (i :: U) lm L):∀k∈U,k≠i:=by
 intro k hk e
 subst e
 obtain ⟨hr,_,_,_,_,hp⟩:=h
 have:=hp.unl k hk
 rw [c2p (mem_ready.1 hr).1] at this
 cases this
theorem a6q {ops:Array Oper} {lm:Array Bool} {j k:Nat} {oj:Oper} (hoj:ops[j]?=some oj) (hj:j∈Region.ready .any ops lm) (hk:lm.getD k true=false):∀e∈oj.after,Region.binds .any e=true→e.on≠k:=by
 obtain ⟨_,o,ho,hall⟩:=mem_ready.1 hj
 rw [hoj] at ho
 cases ho
 intro e he hb heq
 have h1:=hall e he hb
 rw [heq,getD_both hk] at h1
 cases h1
theorem PdS.apart {ops:Array Oper} {i:Nat} {oi:Oper} (hoi:ops[i]?=some oi):∀{U:List Nat} {lm L:Array Bool},PdS ops U lm L→i∈Region.ready .any ops lm→i ∉ U→∀k∈U,∃ok,ops[k]?=some ok∧ok.guard=none∧ok.apart ops oi=true
 | j :: U,lm,L,⟨hr,oj,hoj,hg,hz,hp⟩,hi,hn,k,hk=>by
   have hne:i≠j:=fun e=>hn (by rw [e];exact List.mem_cons_self)
   rcases List.mem_cons.1 hk with rfl | hk
   · exact ⟨oj,hoj,hg,hz.2.2 i oi hoi hne (mem_ready.1 hi).1 (a6q hoi hi (mem_ready.1 hr).1)⟩
   · exact hp.apart hoi (ready_mono hi hne) (fun h=>hn (List.mem_cons_of_mem _ h)) k hk
theorem PdS.step {ops:Array Oper} {i:Nat}:∀{U:List Nat} {lm L:Array Bool},PdS ops U lm L→i∈Region.ready .any ops lm→i ∉ U→PdS ops U (lm.setIfInBounds i true) (L.setIfInBounds i true)
 | [],lm,L,h,hi,hn=>by
   have h:L=lm:=h
   subst h;rfl
 | j :: U,lm,L,⟨hr,oj,hoj,hg,hz,hp⟩,hi,hn=>by
   have hne:i≠j:=fun e=>hn (by rw [e];exact List.mem_cons_self)
   refine ⟨ready_mono hr (Ne.symm hne),oj,hoj,hg,⟨hz.1,hz.2.1,fun k ok hk hkj hun hno=>hz.2.2 k ok hk hkj (a7y hun) hno⟩,?_⟩
   have:=hp.step (ready_mono hi hne) (fun h=>hn (List.mem_cons_of_mem _ h))
   rw [Array.setIfInBounds_comm _ _ hne]
   exact this
theorem PdS.sub {ops:Array Oper}:∀{U:List Nat} {lm L:Array Bool},PdS ops U lm L→∀j,L.getD j false=true→lm.getD j false=true∨j∈U
 | [],lm,L,h,j,hj=>by
   have h:L=lm:=h
   subst h;exact .inl hj
 | i :: U,lm,L,⟨hr,oj,hoj,hg,hz,hp⟩,j,hj=>by
   rcases hp.sub j hj with h | h
   · by_cases hij:i=j
     · subst hij;exact .inr List.mem_cons_self
     · rw [getD_set_ne false hij] at h;exact .inl h
   · exact .inr (List.mem_cons_of_mem _ h)
theorem PdS.up {ops:Array Oper}:∀{U:List Nat} {lm L:Array Bool},PdS ops U lm L→∀j,j∈Region.ready .any ops lm→j ∉ U→j∈Region.ready .any ops L
 | [],lm,L,h,j,hj,_=>by
   have h:L=lm:=h
   subst h;exact hj
 | i :: U,lm,L,⟨hr,oj,hoj,hg,hz,hp⟩,j,hj,hn =>
   hp.up j (ready_mono hj fun e=>hn (by rw [e];exact List.mem_cons_self)) fun h=>hn (List.mem_cons_of_mem _ h)
theorem PdS.unl2 {ops:Array Oper}:∀{U:List Nat} {lm L:Array Bool},PdS ops U lm L→∀j,L.getD j true=false→lm.getD j true=false
 | [],lm,L,h,j,hj=>by
   have h:L=lm:=h
   subst h;exact hj
 | i :: U,lm,L,⟨hr,oj,hoj,hg,hz,hp⟩,j,hj=>a7y (hp.unl2 j hj)
theorem PdS.out {ops:Array Oper}:∀{U:List Nat} {lm L:Array Bool},PdS ops U lm L→∀k∈U,L.getD k true=true
 | i :: U,lm,L,⟨hr,oj,hoj,hg,hz,hp⟩,k,hk=>by
   rcases List.mem_cons.1 hk with rfl | hk
   · cases hL:L.getD k true with
     | true=>rfl
     | false =>
       have:=hp.unl2 k hL
       rw [c2p (mem_ready.1 hr).1] at this
       cases this
   · exact hp.out k hk
theorem PdS.size {ops:Array Oper}:∀{U:List Nat} {lm L:Array Bool},PdS ops U lm L→L.size=lm.size
 | [],lm,L,h=>by have h:L=lm:=h;rw [h]
 | i :: U,lm,L,⟨hr,oj,hoj,hg,hz,hp⟩=>by rw [hp.size];simp
theorem PdS.front {ops:Array Oper} {k:Nat}:∀{U1 U2:List Nat} {lm L:Array Bool},PdS ops (U1++k :: U2) lm L→k∈Region.ready .any ops lm→PdS ops (k :: (U1++U2)) lm L
 | [],U2,lm,L,h,_=>h
 | i :: U1,U2,lm,L,h,hk=>by
   have hki:k≠i:=PdS.ne h k (by simp)
   obtain ⟨hr,oi,hoi,hg,hz,hp⟩:=h
   obtain ⟨hk2,ok,hok,hgk,hzk,hpk⟩:=hp.front (ready_mono hk hki)
   have hap:=hz.2.2 k ok hok hki (mem_ready.1 hk).1 (a6q hok hk (mem_ready.1 hr).1)
   obtain ⟨h1,h2,h3⟩:=Oper.apart_spec hap
   refine ⟨hk,ok,hok,hgk,⟨hzk.1,fun m hm om d hom hd=>?_,fun j oj hoj hjk hun hno=>?_⟩,ready_mono hr (Ne.symm hki),oi,hoi,hg,⟨hz.1,fun m hm=>hz.2.1 m ?_,fun j oj hoj hji hun hno=>hz.2.2 j oj hoj hji (a7y hun) hno⟩,?_⟩
   · rcases List.mem_cons.1 hm with rfl | hm
     · rw [hoi] at hom;cases hom
       exact ⟨h1 d hd,h2 d hd⟩
     · exact hzk.2.1 m hm om d hom hd
   · by_cases hji:j=i
     · subst hji;rw [hoi] at hoj;cases hoj
       exact b3g hap
     · exact hzk.2.2 j oj hoj hjk (by rw [getD_set_ne true (Ne.symm hji)];exact hun) hno
   · rcases List.mem_append.1 hm with hm | hm
     · exact List.mem_append_left _ hm
     · exact List.mem_append_right _ (List.mem_cons_of_mem _ hm)
   · rw [Array.setIfInBounds_comm _ _ hki]
     exact hpk
theorem PdR.front {P:Program} {ops:Array Oper} (hs:Region.noSelect ops=true) {k:Nat}:∀{U1 U2:List Nat} {lm L:Array Bool} {a b:Act},PdS ops (U1++k :: U2) lm L→k∈Region.ready .any ops lm→PdR P ops w (U1++k :: U2) a b→PdR P ops w (k :: (U1++U2)) a b
 | [],U2,lm,L,a,b,_,_,h=>h
 | i :: U1,U2,lm,L,a,b,h,hk,⟨oi',vi,hoi',hvi,hR⟩=>by
   have hki:k≠i:=PdS.ne h k (by simp)
   obtain ⟨hr,oi,hoi,hg,hz,hp⟩:=h
   have e:oi'=oi:=(Option.some.inj (hoi.symm.trans hoi')).symm
   rw [e] at hvi hR
   obtain ⟨ok,vk,hok,hvk,hRk⟩:=PdR.front hs hp (ready_mono hk hki) hR
   have hap:=hz.2.2 k ok hok hki (mem_ready.1 hk).1 (a6q hok hk (mem_ready.1 hr).1)
   obtain ⟨h1,h2,h3⟩:=Oper.apart_spec hap
   refine ⟨ok,vk,hok,?_,oi,vi,hoi,?_,?_⟩
   · rw [execOp_put ok (fun cs c=>Region.noSelect_spec hs k ok cs c hok) a oi.dst vi h1] at hvk;exact hvk
   · rw [execOp_put oi (fun cs c=>Region.noSelect_spec hs i oi cs c hoi) a ok.dst vk h3];exact hvi
   · rw [Act.put_comm a vk vi (fun d hd h=>h2 d h hd)];exact hRk
def rN (ops:Array Oper) (i:Nat):Option Nat:=(ops[i]?).bind (·.dst)
def putU (ops:Array Oper) (a:Act):List (Nat×Value)→Act
 | []=>a
 | (i,v) :: r=>putU ops (a.put (rN ops i) v) r
theorem a0i {ops:Array Oper} {i:Nat} {o:Oper} (h:ops[i]?=some o):rN ops i=o.dst:=by simp [rN,h]
theorem PdR.putU {P:Program} {ops:Array Oper}:∀{U:List Nat} {a b:Act},PdR P ops w U a b→∃r:List (Nat×Value),r.map (·.1)=U∧b=putU ops a r
 | [],a,b,h=>⟨[],rfl,h⟩
 | i :: U,a,b,⟨oi,v,hoi,_,h⟩=>by
   obtain ⟨r,h1,h2⟩:=PdR.putU h
   exact ⟨(i,v) :: r,by simp [h1],by rw [h2];show _=Go.Ev.putU ops (a.put (rN ops i) v) r;rw [a0i hoi]⟩
theorem c5k {P:Program} {ops:Array Oper} {Q:Exit→Act→World→Prop} {j:Nat} {oi oj:Oper} {v:Value} (hj:ops[j]?=some oj) (hap:oi.apart ops oj=true) (hgi:oi.guard=none)
 (hsi:∀cs b,oi.op≠.select cs b) (hsj:∀cs b,oj.op≠.select cs b) (hQ:∀c a w,Q (.panic c) a w→False) {K:Act→World→Prop} {a:Act} {w:World}
 (h:wpOp P ops Q j K (a.put oi.dst v) w):wpOp P ops Q j (fun a' w'=>K (a'.put oi.dst v) w') a w :=
 wpOp_mono (fun _ _ h=>h.2) (a6e (G:=fun _ _=>True) (S:=fun _=>False) hj hap hsi hsj (fun c a w hq=>(hQ _ _ _ hq).elim) (.inl ⟨by unfold Region.wanted;rw [hgi],fun _ h=>h.elim⟩) h)
theorem b5h {P:Program} {ops:Array Oper} (hs:Region.noSelect ops=true) {Q:Exit→Act→World→Prop} (hQ:∀c a w,Q (.panic c) a w→False) {i:Nat} {oi:Oper} (hoi:ops[i]?=some oi) {K:Act→World→Prop} {w:World} :
 ∀(r:List (Nat×Value)) {a:Act},(∀k∈r.map (·.1),∃ok,ops[k]?=some ok∧ok.guard=none∧ok.apart ops oi=true)→wpOp P ops Q i K (putU ops a r) w→wpOp P ops Q i (fun a' w'=>K (putU ops a' r) w') a w
 | [],a,_,h=>h
 | (k,v) :: r,a,hr,h=>by
   obtain ⟨ok,hok,hg,hap⟩:=hr k (by simp)
   have ih:=b5h hs hQ hoi r (a:=a.put (rN ops k) v) (fun m hm=>hr m (by simp at hm ⊢;exact .inr hm)) h
   rw [a0i hok] at ih
   refine wpOp_mono (fun a' w' h=>?_) (c5k hoi hap hg (fun cs c=>Region.noSelect_spec hs k ok cs c hok) (fun cs c=>Region.noSelect_spec hs i oi cs c hoi) hQ ih)
   show K (putU ops (a'.put (rN ops k) v) r) w'
   rw [a0i hok];exact h
theorem c4s {ops:Array Oper} (hs:Region.noSelect ops=true) {k:Nat} {ok:Oper} (hok:ops[k]?=some ok):∀(r:List (Nat×Value)) {a:Act},(∀m∈r.map (·.1),∀d,rN ops m=some d→d ∉ ok.looksAt ops)→execOp (putU ops a r).eval ok=execOp a.eval ok
 | [],a,_=>rfl
 | (m,v) :: r,a,h=>by
   have ih:=c4s hs hok r (a:=a.put (rN ops m) v) (fun m' hm=>h m' (by simp at hm ⊢;exact .inr hm))
   show execOp (putU ops (a.put (rN ops m) v) r).eval ok=_
   rw [ih]
   exact execOp_put ok (fun cs c=>Region.noSelect_spec hs k ok cs c hok) a (rN ops m) v (h m (by simp))
theorem b8i {ops:Array Oper} {d:Option Nat} {v:Value}:∀(r:List (Nat×Value)) {a:Act},(∀m∈r.map (·.1),∀e,rN ops m=some e→d≠some e)→(putU ops a r).put d v=putU ops (a.put d v) r
 | [],a,_=>rfl
 | (m,u) :: r,a,h=>by
   have ih:=b8i (d:=d) (v:=v) r (a:=a.put (rN ops m) u) (fun m' hm=>h m' (by simp at hm ⊢;exact .inr hm))
   show (putU ops (a.put (rN ops m) u) r).put d v=putU ops ((a.put d v).put (rN ops m) u) r
   rw [ih]
   congr 1
   cases d with
   | none=>rfl
   | some d =>
     refine (Act.put_comm a v u fun e he=>?_).symm
     cases he
     intro h2
     exact h m (by simp) _ h2 rfl
theorem d2w (a:Act) (d:Option Nat) (u v:Value):(a.put d u).put d v=a.put d v:=by
 cases d with
 | none=>rfl
 | some d=>simp [Act.put]
theorem b9i (hE:EnvOk E) (h:RepSt w g st N pv a) {o:Oper} {K:Option Nat→AV→Prop} (hK:b1t E st K (some o)) :
 o.guard=none∧∃x v,K o.dst x∧(execOp a.eval o).run E.P w=.ok (.value v) w∧bL w g st x v:=by
 obtain ⟨d,op,ty,pos,after,gd⟩:=o
 cases gd with
 | some jw=>exact hK.elim
 | none =>
   refine ⟨rfl,?_⟩
   simp only [b1t] at hK
   cases hpu:Op.pureA op with
   | true =>
     rw [hpu] at hK
     simp only [cond_true] at hK
     obtain ⟨x,hx,hr'⟩:=yM (o:=⟨d,op,ty,pos,after,none⟩) hE h rfl hK
     obtain ⟨v,hv,hr'⟩:=hr' rfl
     exact ⟨x,v,hx,hv w (.refl w),hr'⟩
   | false =>
     rw [hpu] at hK
     simp only [cond_false] at hK
     obtain ⟨x,v,hx,hv,hr'⟩:=a1o (o:=⟨d,op,ty,pos,after,none⟩) hE h (ty:=ty) hK
     exact ⟨x,v,hx,hv w,hr'⟩
theorem RepSt.unsay {d:Option Nat} {av:AV} (h:RepSt w g (st.set d av) N pv a) (hl:c4d st d av):RepSt w g st N pv a:=by
 cases d with
 | none=>exact h
 | some d =>
   have hl:iD st.tm d=av:=hl
   have hk:Keeps w g (st.set (some d) av) w g st:=Keeps.tm w g (st.set (some d) av) st.tm
   refine ⟨h.size,h.defers,fun k=>?_,fun id ob ho=>?_,h.lab,h.pr.1,fun i t u hi hu=>(h.pr.2 i t u hi hu).keeps hk⟩
   · have h1:=(h.tm k).keeps hk
     by_cases hkd:d=k
     · subst hkd
       have e:iD (st.set (some d) av).tm d=av:=by simp [St.set,iD]
       rw [e] at h1
       rw [hl];exact h1
     · have e:iD (st.set (some d) av).tm k=iD st.tm k:=by
        have:(d==k)=false:=by simpa using hkd
        simp [St.set,iD,this]
       rw [e] at h1;exact h1
   · have h1:=h.ob id ob ho
     unfold fY at h1 ⊢
     cases hb:ob.box with
     | true =>
       rw [hb] at h1
       obtain ⟨cs,e,row,h1,h2,h3,h4,h5,h6,h7⟩:=h1
       exact ⟨cs,e,row,h1,h2,h3,h4,h5,h6,h7.keeps hk⟩
     | false=>rw [hb] at h1;exact h1
theorem b6l {ops:Array Oper}:∀{D:List (Nat×AV)},yY E ops st D→∀k av,(k,av)∈D→b1t E st (fun d b=>b=av∧c4d st d av) ops.toList[k]?
 | (i,x) :: D,⟨h1,h2⟩,k,av,hk=>by
   rcases List.mem_cons.1 hk with e | hk
   · cases e;exact h1
   · exact b6l h2 k av hk
theorem PdR.again (hE:EnvOk E) {ops:Array Oper} (hs:Region.noSelect ops=true) (hd:∀o∈ops.toList,mD N o.dst) {D:List (Nat×AV)} (hD:yY E ops st D) :
 ∀{U:List Nat} {lm L:Array Bool} {a:Act} (r:List (Nat×Value)),PdS ops U lm L→r.map (·.1)=U→(∀k∈U,∃av,(k,av)∈D)→RepSt w g st N pv (Go.Ev.putU ops a r)→∃b,PdR E.P ops w U a b∧RepSt w g st N pv b
 | [],lm,L,a,[],_,_,_,h=>⟨a,rfl,h⟩
 | [],lm,L,a,_ :: _,_,e,_,h=>by cases e
 | k :: U,lm,L,a,[],_,e,_,h=>by cases e
 | k :: U,lm,L,a,(k',v) :: r,⟨hr,ok,hok,hg,hz,hp⟩,e,hU,h=>by
   simp only [List.map_cons,List.cons.injEq] at e
   obtain ⟨rfl,hrU⟩:=e
   obtain ⟨av,hav⟩:=hU k' List.mem_cons_self
   have h1:=b6l hD k' av hav
   have hok':ops.toList[k']?=some ok:=by simpa using hok
   rw [hok'] at h1
   obtain ⟨_,x,v',⟨rfl,hl⟩,hv',hrep⟩:=b9i hE h h1
   have hlk:∀m∈((k',v) :: r).map (·.1),∀d,rN ops m=some d→d ∉ ok.looksAt ops:=by
    intro m hm d hdm
    simp only [List.map_cons,List.mem_cons] at hm
    rcases hm with rfl | hm
    · rw [a0i hok] at hdm;exact hz.1 d hdm
    · rw [hrU] at hm
      unfold rN at hdm
      cases hom:ops[m]? with
      | none=>rw [hom] at hdm;cases hdm
      | some om=>rw [hom] at hdm;exact (hz.2.1 m hm om d hom hdm).1
   rw [c4s hs hok _ hlk] at hv'
   have h2:=(h.put hrep (hd ok (List.mem_of_getElem? hok'))).unsay hl
   have e2:(Go.Ev.putU ops a ((k',v) :: r)).put ok.dst v'=Go.Ev.putU ops (a.put ok.dst v') r:=by
    show (Go.Ev.putU ops (a.put (rN ops k') v) r).put ok.dst v'=_
    rw [b8i r,a0i hok,d2w]
    intro m hm e hdm
    rw [hrU] at hm
    unfold rN at hdm
    cases hom:ops[m]? with
    | none=>rw [hom] at hdm;cases hdm
    | some om=>rw [hom] at hdm;exact (hz.2.1 m hm om e hom hdm).2
   rw [e2] at h2
   obtain ⟨b,hb,hR⟩:=PdR.again hE hs hd hD r hp hrU (fun m hm=>hU m (List.mem_cons_of_mem _ hm)) h2
   exact ⟨b,⟨ok,v',hok,hv',hb⟩,hR⟩
theorem d3d (hE:EnvOk E) (hG:GOk E.P w0 (A0.G w0)) {F:Nat→List AV→Out→Prop} (hFn:∀f as out,F f as out→FnOk E.P f as out) {ops:Array Oper} {Q:Exit→Act→World→Prop} {K:St→Prop} {next:Act→World→Prop} {i:Nat}
 (hd:∀o∈ops.toList,mD N o.dst) (h:RepSt w g st N pv a) (hF:Fr w0 A0 w g) (hK:b3v E F ops st K ops.toList[i]?) (hn:∀st' a' w' g',K st'→RepSt w' g' st' N pv a'→Fr w0 A0 w' g'→next a' w'):wpOp E.P ops Q i next a w:=by
 cases hi:ops.toList[i]? with
 | none=>rw [hi] at hK;exact hK.elim
 | some o =>
   have hia:ops[i]?=some o:=by simpa using hi
   have hdo:mD N o.dst:=hd o (List.mem_of_getElem? hi)
   obtain ⟨d,op,ty,pos,after,gd⟩:=o
   cases gd with
   | none=>exact d3c hE hG hFn hd h hF (K:=K) (by rw [hi] at hK ⊢;exact hK) hn
   | some jw =>
     obtain ⟨j,want⟩:=jw
     rw [hi] at hK
     simp only [b3v,nY] at hK
     obtain ⟨gb,st1,hw,h,hK1,hK0⟩:=yS (o:=⟨d,op,ty,pos,after,some (j,want)⟩) h hK rfl
     unfold wpOp
     rw [hia]
     simp only
     rw [hw]
     clear hw hK
     cases gb with
     | false =>
       rw [if_neg (by simp)]
       exact hn _ _ _ _ (hK0 rfl) (h.put (av:=.may false .no) ⟨fun h=>(by cases h),fun _=>rfl⟩ hdo) hF
     | true =>
       have hK:=hK1 rfl
       rw [if_pos rfl]
       refine .inl ?_
       cases hp:Op.pureA op with
       | true =>
         rw [hp] at hK
         simp only [cond_true] at hK
         obtain ⟨x,hx,hr⟩:=yM (o:=⟨d,op,ty,pos,after,some (j,want)⟩) hE h rfl hK
         obtain ⟨v,hv,hr⟩:=hr rfl
         unfold Oper.wp
         rw [hv w (.refl w)]
         exact hn _ _ _ _ hx (h.put hr hdo) hF
       | false =>
         rw [hp] at hK
         simp only [cond_false] at hK
         exact b1h (o:=⟨d,op,ty,pos,after,some (j,want)⟩) hE h hF hG hFn hK (fun st' av v w' g' hK' hR hA hF'=>hn _ _ _ _ hK' (hR.put hA hdo) hF')
theorem a7h (ops:Array Oper):∀(l:List (Nat×AV)) (R:List Nat),(a5l ops R l).map (·.1)=b2a ops R (l.map (·.1))
 | [],R=>rfl
 | x :: l,R=>by
   simp only [a5l,b2a,List.map_cons]
   cases R.any fun r=>Region.waitsFor .any ops r x.1
   · simp only [cond_false,List.map_cons,a7h ops l R]
   · simp only [cond_true];exact a7h ops l _
theorem c6j (ops:Array Oper) (i:Nat) (D:List (Nat×AV)):(c4n ops i D).map (·.1)=a5a ops i (D.map (·.1)):=by
 unfold c4n a5a
 rw [List.map_reverse,a7h,List.map_reverse]
theorem a9i (ks:List Nat):∀D:List (Nat×AV),(pY ks D).map (·.1)=a6l ks (D.map (·.1))
 | []=>rfl
 | x :: l=>by
   simp only [pY,a6l,List.map_cons]
   cases a0t ks x.1
   · simp only [cond_false];exact a9i ks l
   · simp only [cond_true,List.map_cons,a9i ks l]
theorem a9h {ks:List Nat} {x:Nat×AV}:∀{D:List (Nat×AV)},x∈pY ks D→x∈D
 | y :: l,h=>by
   simp only [pY] at h
   cases hb:a0t ks y.1 <;> rw [hb] at h
   · simp only [cond_false] at h;exact List.mem_cons_of_mem _ (a9h h)
   · simp only [cond_true] at h
     rcases List.mem_cons.1 h with rfl | h
     · exact List.mem_cons_self
     · exact List.mem_cons_of_mem _ (a9h h)
theorem b3p {ks:List Nat} {x:Nat×AV} (hm:a0t ks x.1=true):∀{D:List (Nat×AV)},x∈D→x∈pY ks D
 | y :: l,h=>by
   simp only [pY]
   rcases List.mem_cons.1 h with rfl | h
   · rw [hm];exact List.mem_cons_self
   · cases a0t ks y.1
     · exact b3p hm h
     · exact List.mem_cons_of_mem _ (b3p hm h)
def uC (ops:Array Oper) (lm:Array Bool) (r:Nat):Prop:=∀o,ops[r]?=some o→∀e∈o.after,Region.binds .any e=true→lm.getD e.on false=true
theorem uC.set {ops:Array Oper} {lm:Array Bool} {r:Nat} (h:uC ops lm r) (i:Nat):uC ops (lm.setIfInBounds i true) r:=fun o ho e he hb=>getD_set_true (h o ho e he hb)
theorem uC.ready {ops:Array Oper} {lm:Array Bool} {r:Nat} (h:r∈Region.ready .any ops lm):uC ops lm r:=by
 obtain ⟨_,o,ho,hall⟩:=mem_ready.1 h
 intro o' ho' e he hb
 rw [ho] at ho';cases ho'
 exact hall e he hb
theorem a5k {ops:Array Oper} {lm:Array Bool} {U:List Nat} (hU:∀k∈U,lm.getD k true=false):∀(l:List (Nat×AV)) (R:List Nat),(∀r∈R,uC ops lm r)→(∀x∈l,x.1∈U∨uC ops lm x.1)→∀x∈l,x.1∈U→x∈a5l ops R l
 | y :: l,R,hR,hl,x,hx,hxU=>by
   simp only [a5l]
   cases hb:R.any fun r=>Region.waitsFor .any ops r y.1
   · simp only [cond_false]
     rcases List.mem_cons.1 hx with rfl | hx
     · exact List.mem_cons_self
     · exact List.mem_cons_of_mem _ (a5k hU l R hR (fun z hz=>hl z (List.mem_cons_of_mem _ hz)) x hx hxU)
   · simp only [cond_true]
     have hy:y.1 ∉ U:=by
      intro hyU
      obtain ⟨r,hr,hw⟩:=List.any_eq_true.1 hb
      obtain ⟨oj,hoj,e,he,hbi,heq⟩:=Region.waitsFor_spec hw
      have h1:=hR r hr oj hoj e he hbi
      rw [heq,getD_both (hU _ hyU)] at h1
      cases h1
     have hyD:uC ops lm y.1:=(hl y List.mem_cons_self).resolve_left hy
     rcases List.mem_cons.1 hx with rfl | hx
     · exact absurd hxU hy
     · exact a5k hU l _ (fun r hr=>by
        rcases List.mem_cons.1 hr with rfl | hr
        · exact hyD
        · exact hR r hr) (fun z hz=>hl z (List.mem_cons_of_mem _ hz)) x hx hxU
theorem d4g (hE:EnvOk E) (hG:GOk E.P w0 (A0.G w0)) {F:Nat→List AV→Out→Prop} (hFn:∀f as out,F f as out→FnOk E.P f as out) {ops:Array Oper} {Kn:St→Prop} {Q:Exit→Act→World→Prop}
 (hs:Region.noSelect ops=true) (hp:∀c a w,Q (.panic c) a w→False)
 (hQ:∀st' a' w' g',Kn st'→RepSt w' g' st' N pv a'→Fr w0 A0 w' g'→Q .normal a' w') (hd:∀o∈ops.toList,mD N o.dst) :
 ∀(f:Nat) (t:ZT) (n:Nat) (D:List (Nat×AV)) (L lm:Array Bool) (U:List Nat) (st:St) (g:Gh) (a b:Act) (w:World),f=U.length+n→zOk ops n t (D.map (·.1)) L=true→(∀k∈U,∃av,(k,av)∈D)→(∀x∈D,x.1∈U∨uC ops lm x.1) →
  PdS ops U lm L→PdR E.P ops w U a b→RepSt w g st N pv b→Fr w0 A0 w g→wpZ E F ops Kn t D st→wpAny E.P .any ops Q f lm a w:=by
 intro f
 induction f with
 | zero =>
   intro t n D L lm U st g a b w hf hB hU hC hS hR h hF hK
   have hn:n=0:=by omega
   have hU0:U=[]:=List.length_eq_zero_iff.1 (by omega)
   subst hn;subst hU0
   have hS:L=lm:=hS
   have hR:b=a:=hR
   subst hS;subst hR
   cases t with
   | leaf=>exact ⟨by simpa [zOk] using hB,hQ _ _ _ _ hK h hF⟩
   | _=>simp [zOk] at hB
 | succ f ih =>
   intro t
   have mine:∀(t:ZT) (n:Nat) (D:List (Nat×AV)) (L lm:Array Bool) (U:List Nat) (st:St) (g:Gh) (a b:Act) (w:World) (k:Nat),f+1=U.length+n→zOk ops n t (D.map (·.1)) L=true→(∀k∈U,∃av,(k,av)∈D)→(∀x∈D,x.1∈U∨uC ops lm x.1) →
    PdS ops U lm L→PdR E.P ops w U a b→RepSt w g st N pv b→Fr w0 A0 w g→wpZ E F ops Kn t D st→k∈Region.ready .any ops lm→k∈U→wpOp E.P ops Q k (wpAny E.P .any ops Q f (lm.setIfInBounds k true)) a w:=by
    intro t n D L lm U st g a b w k hf hB hU hC hS hR h hF hK hk hkU
    obtain ⟨U1,U2,rfl⟩:=List.append_of_mem hkU
    obtain ⟨_,ok,hok,hg,hz,hS2⟩:=hS.front hk
    obtain ⟨ok',v,hok',hv,hR2⟩:=PdR.front hs hS hk hR
    have e:ok'=ok:=Option.some.inj (hok'.symm.trans hok)
    rw [e] at hv hR2
    obtain ⟨d,op,ty,pos,after,gd⟩:=ok
    cases hg
    refine b5i hok ?_
    unfold Oper.wp
    rw [hv]
    exact ih t n D L _ _ st g _ b w (by simp at hf ⊢;omega) hB (fun m hm=>hU m (by simp at hm ⊢;rcases hm with h | h <;> simp [h])) (fun x hx=>by
     rcases hC x hx with h1 | h1
     · by_cases hxk:x.1=k
       · rw [hxk];exact .inr ((uC.ready hk).set k)
       · refine .inl ?_
         simp at h1 ⊢
         rcases h1 with h1 | h1 | h1
         · exact .inl h1
         · exact absurd h1 hxk
         · exact .inr h1
     · exact .inr (h1.set k)) hS2 hR2 h hF hK
   have step:∀(t:ZT) (n:Nat) (D:List (Nat×AV)) (L lm:Array Bool) (U:List Nat) (st:St) (g:Gh) (a b:Act) (w:World) (i:Nat) (ks:List Nat),f=U.length+n→(a5a ops i (D.map (·.1))).all (a0t ks)=true→zOk ops n t (a6l ks (D.map (·.1))) (L.setIfInBounds i true)=true→(∀k∈U,∃av,(k,av)∈D)→(∀x∈D,x.1∈U∨uC ops lm x.1) →
    PdS ops U lm L→PdR E.P ops w U a b→RepSt w g st N pv b→Fr w0 A0 w g→i∈Region.ready .any ops lm→i ∉ U→b3v E F ops st (fun st=>yY E ops st (pY ks D)∧wpZ E F ops Kn t (pY ks D) st) ops.toList[i]? →
    wpOp E.P ops Q i (wpAny E.P .any ops Q f (lm.setIfInBounds i true)) a w:=by
    intro t n D L lm U st g a b w i ks hf hks hB hU hC hS hR h hF hi hnU hK
    obtain ⟨_,oi,hoi,_⟩:=mem_ready.1 hi
    obtain ⟨r,hr1,hr2⟩:=hR.putU
    have hap:=hS.apart hoi hi hnU
    have hU':∀k∈U,∃av,(k,av)∈pY ks D:=fun k hk=>by
     obtain ⟨av,hav⟩:=hU k hk
     have hkz:(k,av)∈c4n ops i D:=List.mem_reverse.2 (a5k hS.unl _ _ (fun r hr=>by rw [List.mem_singleton.1 hr];exact uC.ready hi) (fun x hx=>hC x (List.mem_reverse.1 hx)) _ (List.mem_reverse.2 hav) hk)
     have hmk:k∈a5a ops i (D.map (·.1)):=by rw [←c6j];exact List.mem_map.2 ⟨_,hkz,rfl⟩
     exact ⟨av,b3p (List.all_eq_true.1 hks k hmk) hav⟩
    have h1:=d3d (Q:=Q) (next:=fun b' w'=>∃g' st',(yY E ops st' (pY ks D)∧wpZ E F ops Kn t (pY ks D) st')∧RepSt w' g' st' N pv b'∧Fr w0 A0 w' g') hE hG hFn hd h hF hK (fun st' a' w' g' hk hR hF'=>⟨g',st',hk,hR,hF'⟩)
    rw [hr2] at h1
    refine wpOp_mono (fun a' w' hn=>?_) (b5h hs hp hoi r (fun k hk=>hap k (by rw [hr1] at hk;exact hk)) h1)
    obtain ⟨g',st',⟨hag,hkz⟩,hR',hF'⟩:=hn
    have hS':=hS.step hi hnU
    obtain ⟨b',hb',hRb⟩:=PdR.again hE hs hd hag r hS' hr1 hU' hR'
    exact ih t n (pY ks D) _ _ U st' g' a' b' w' hf (by rw [a9i];exact hB) hU' (fun x hx=>(hC x (a9h hx)).imp id fun h=>h.set i) hS' hb' hRb hF' hkz
   induction t with
   | leaf =>
     intro n D L lm U st g a b w hf hB hU hC hS hR h hF hK
     cases n with
     | succ n=>simp [zOk] at hB
     | zero =>
       have hL:Region.ready .any ops L=[]:=by simpa [zOk] using hB
       refine ⟨fun h0=>?_,fun k hk=>?_⟩
       · cases U with
         | nil=>simp at hf
         | cons k U=>have:=hS.1;rw [h0] at this;cases this
       · by_cases hkU:k∈U
         · exact mine .leaf 0 D L lm U st g a b w k hf hB hU hC hS hR h hF hK hk hkU
         · have:=hS.up k hk hkU
           rw [hL] at this;cases this
   | q i t iht =>
     intro n D L lm U st g a b w hf hB hU hC hS hR h hF hK
     cases n with
     | zero=>simp [zOk] at hB
     | succ n =>
       simp only [zOk,Bool.and_eq_true,List.all_eq_true,Bool.not_eq_true'] at hB
       obtain ⟨b1,b2,b3,b4⟩:=hB
       simp only [wpZ] at hK
       cases hi:ops.toList[i]? with
       | none=>rw [hi] at hK;exact hK.elim
       | some o =>
         have hia:ops[i]?=some o:=by simpa using hi
         have hdo:mD N o.dst:=hd o (List.mem_of_getElem? hi)
         rw [hi] at hK
         obtain ⟨d,op,ty,pos,after,gd⟩:=o
         cases gd with
         | some jw=>exact hK.elim
         | none =>
           simp only [a3b,nY] at hK
           obtain ⟨x,v,hx,hv,hrep⟩:=a1o (o:=⟨d,op,ty,pos,after,none⟩) hE h (ty:=ty) hK
           have hrL:i∈Region.ready .any ops L:=by simpa using b2
           have hnU:i ∉ U:=fun hm=>by have:=hS.out i hm;rw [(mem_ready.1 hrL).1] at this;cases this
           have hrl:i∈Region.ready .any ops lm:=by
            obtain ⟨u1,o1,ho1,hall⟩:=mem_ready.1 hrL
            refine mem_ready.2 ⟨hS.unl2 i u1,o1,ho1,fun e he hb=>?_⟩
            rcases hS.sub _ (hall e he hb) with h1 | h1
            · exact h1
            · obtain ⟨av,hav⟩:=hU _ h1
              have h2:=b3 e.on (List.mem_map.2 ⟨_,hav,rfl⟩)
              have h3:Region.waitsFor .any ops i e.on=true:=by
               unfold Region.waitsFor
               rw [ho1]
               exact Array.any_eq_true'.2 ⟨e,he,by simp [hb]⟩
              rw [h3] at h2;cases h2
           have hap:=hS.apart hia hrl hnU
           obtain ⟨r,hr1,hr2⟩:=hR.putU
           have hexec:execOp b.eval ⟨d,op,ty,pos,after,none⟩=execOp a.eval ⟨d,op,ty,pos,after,none⟩:=by
            rw [hr2]
            refine c4s hs hia r fun m hm e hde=>?_
            rw [hr1] at hm
            obtain ⟨om,hom,_,hom2⟩:=hap m hm
            rw [a0i hom] at hde
            exact (Oper.apart_spec hom2).1 e hde
           have hS':=hS.step hrl hnU
           have hR':PdR E.P ops w U (a.put d v) (b.put d v):=by
            clear hexec hr1 hr2 hS' hf hU hC h hF hx hv hrep iht ih hrl hrL
            induction U generalizing a lm with
            | nil=>have:b=a:=hR;subst this;rfl
            | cons k U ihU =>
              obtain ⟨ok,vk,hok,hvk,hR⟩:=hR
              obtain ⟨om,hom,_,hom2⟩:=hap k List.mem_cons_self
              rw [hok] at hom;cases hom
              obtain ⟨h1,h2,h3⟩:=Oper.apart_spec hom2
              refine ⟨ok,vk,hok,?_,?_⟩
              · rw [execOp_put ok (fun cs c=>Region.noSelect_spec hs k ok cs c hok) a d v h3];exact hvk
              · have:=ihU (lm:=lm.setIfInBounds k true) (a:=a.put ok.dst vk) hS.2.choose_spec.2.2.2 hR (fun hm=>hnU (List.mem_cons_of_mem _ hm)) (fun m hm=>hap m (List.mem_cons_of_mem _ hm))
                rw [Act.put_comm a vk v (fun e he=>h2 e he)] at this
                exact this
           have hfree:∀j oj,ops[j]?=some oj→j≠i→lm.getD j true=false→(∀e∈oj.after,Region.binds .any e=true→e.on≠i)→(⟨d,op,ty,pos,after,none⟩:Oper).apart ops oj=true:=by
            intro j oj hoj hji hun hno
            cases hLj:L.getD j true with
            | false=>exact Region.free_spec hia b1 j oj hoj hji hLj hno
            | true =>
              have hjs:j < lm.size:=by
               rcases Nat.lt_or_ge j lm.size with h' | h'
               · exact h'
               · simp [Array.getElem?_eq_none h'] at hun
              have hLj2:L.getD j false=true:=by
               cases hL2:L.getD j false with
               | true=>rfl
               | false =>
                 have hsz:=hS.size
                 rw [getD_in (by omega) hL2] at hLj;cases hLj
              rcases hS.sub j hLj2 with h1 | h1
              · rw [getD_both hun] at h1;cases h1
              · obtain ⟨om,hom,_,hom2⟩:=hap j h1
                rw [hoj] at hom;cases hom
                exact b3g hom2
           refine a8p (v:=v) hia (Region.noSelect_spec hs) (fun c a w hq=>(hp _ _ _ hq).elim) f lm a w hfree hrl (.inl ⟨rfl,fun w' _=>?_⟩) ?_
           · unfold Oper.quietAt
             rw [←hexec,hv w']
             exact ⟨rfl,rfl⟩
           · exact ih t n D _ _ U _ g _ _ w (by omega) b4 hU (fun x hx=>(hC x hx).imp id fun h=>h.set i) hS' hR' (h.put hrep hdo) hF hx
   | z i t iht =>
     intro n D L lm U st g a b w hf hB hU hC hS hR h hF hK
     cases n with
     | zero=>simp [zOk] at hB
     | succ n =>
       simp only [zOk,Bool.and_eq_true,List.all_eq_true] at hB
       obtain ⟨b1,b2,b3,b4,b5⟩:=hB
       simp only [wpZ] at hK
       cases hi:ops.toList[i]? with
       | none=>rw [hi] at hK;exact hK.elim
       | some o =>
         have hia:ops[i]?=some o:=by simpa using hi
         have hdo:mD N o.dst:=hd o (List.mem_of_getElem? hi)
         rw [hi] at hK
         obtain ⟨hg,x,v,hx,hv,hrep⟩:=b9i hE h hK
         rw [nY] at hx
         have hrL:i∈Region.ready .any ops L:=by simpa using b2
         refine iht n (D++[(i,x)]) (L.setIfInBounds i true) lm (U++[i]) _ g a (b.put o.dst v) w (by simp;omega) (by simpa using b5) (fun k hk=>?_) (fun y hy=>?_) ?_ ?_ (h.put hrep hdo) hF hx
         · rcases List.mem_append.1 hk with hk | hk
           · obtain ⟨av,hav⟩:=hU k hk
             exact ⟨av,List.mem_append_left _ hav⟩
           · rw [List.mem_singleton.1 hk]
             exact ⟨x,by simp⟩
         · rcases List.mem_append.1 hy with hy | hy
           · exact (hC y hy).imp (fun h=>List.mem_append_left _ h) id
           · rw [List.mem_singleton.1 hy];exact .inl (by simp)
         · have hah:∀k∈U,a7u ops i k=true:=fun k hk=>by
            obtain ⟨av,hav⟩:=hU k hk
            exact b3 k (List.mem_map.2 ⟨_,hav,rfl⟩)
           have hself:∀d,o.dst=some d→d ∉ o.looksAt ops:=fun d hdd=>by
            simp [a7u,hia,hdd] at b4
            exact b4
           have hfreeL:=Region.free_spec hia b1
           have hout:=hS.out
           clear hf hU hC hR h hF hK b3
           induction U generalizing lm with
           | nil =>
             have hS:L=lm:=hS
             subst hS
             exact ⟨hrL,o,hia,hg,⟨hself,fun k hk=>absurd hk List.not_mem_nil,fun j oj hoj hji hun hno=>hfreeL j oj hoj hji hun hno⟩,rfl⟩
           | cons k U ihU =>
             obtain ⟨hr,ok,hok,hgk,hz,hS⟩:=hS
             have hki:k≠i:=fun e=>by
              have:=hout k List.mem_cons_self
              rw [e,(mem_ready.1 hrL).1] at this;cases this
             refine ⟨hr,ok,hok,hgk,⟨hz.1,fun m hm om d hom hdm=>?_,hz.2.2⟩,ihU _ hS (fun m hm=>hah m (List.mem_cons_of_mem _ hm)) (fun m hm=>hout m (List.mem_cons_of_mem _ hm))⟩
             rcases List.mem_append.1 hm with hm | hm
             · exact hz.2.1 m hm om d hom hdm
             · have hmi:=List.mem_singleton.1 hm
               subst hmi
               rw [hia] at hom;cases hom
               have:=hah k List.mem_cons_self
               simp [a7u,hia,hok,hdm] at this
               exact ⟨this.1,fun e=>by rcases this.2 with h | h;exact hki h.symm;exact h e⟩
         · clear hf hU hC hS h hF hK b3
           induction U generalizing a with
           | nil =>
             have hR:b=a:=hR
             subst hR
             exact ⟨o,v,hia,hv,rfl⟩
           | cons k U ihU =>
             obtain ⟨ok,vk,hok,hvk,hR⟩:=hR
             exact ⟨ok,vk,hok,hvk,ihU _ hR⟩
   | m i ks t iht =>
     intro n D L lm U st g a b w hf hB hU hC hS hR h hF hK
     cases n with
     | zero=>simp [zOk] at hB
     | succ n =>
       have hB0:=hB
       simp only [zOk,Bool.and_eq_true,beq_iff_eq] at hB
       obtain ⟨b1,b0,b2⟩:=hB
       refine ⟨fun h0=>?_,fun k hk=>?_⟩
       · cases U with
         | nil=>have hS:L=lm:=hS;rw [←hS,b1] at h0;cases h0
         | cons k U=>have:=hS.1;rw [h0] at this;cases this
       · by_cases hkU:k∈U
         · exact mine (.m i ks t) (n+1) D L lm U st g a b w k hf hB0 hU hC hS hR h hF hK hk hkU
         · have:=hS.up k hk hkU
           rw [b1] at this
           have e:=List.mem_singleton.1 this
           subst e
           exact step t n D L lm U st g a b w k ks (by omega) b0 b2 hU hC hS hR h hF hk hkU hK
   | b i ks t j ls u iht ihu =>
     intro n D L lm U st g a b w hf hB hU hC hS hR h hF hK
     cases n with
     | zero=>simp [zOk] at hB
     | succ n =>
       have hB0:=hB
       simp only [zOk,Bool.and_eq_true,beq_iff_eq] at hB
       obtain ⟨b1,⟨b0,b2⟩,⟨b4,b3⟩⟩:=hB
       refine ⟨fun h0=>?_,fun k hk=>?_⟩
       · cases U with
         | nil=>have hS:L=lm:=hS;rw [←hS,b1] at h0;cases h0
         | cons k U=>have:=hS.1;rw [h0] at this;cases this
       · by_cases hkU:k∈U
         · exact mine (.b i ks t j ls u) (n+1) D L lm U st g a b w k hf hB0 hU hC hS hR h hF hK hk hkU
         · have:=hS.up k hk hkU
           rw [b1] at this
           rcases List.mem_cons.1 this with e | this
           · subst e
             exact step t n D L lm U st g a b w k ks (by omega) b0 b2 hU hC hS hR h hF hk hkU hK.1
           · have e:=List.mem_singleton.1 this
             subst e
             exact step u n D L lm U st g a b w k ls (by omega) b4 b3 hU hC hS hR h hF hk hkU hK.2
end Go.Ev
