/- Regions that draw their order: orders that serve for all, as trees. -/
import Derived.Test.YtdjlkhhgaaddpaaGreatEvPg
set_option linter.unusedSectionVars false
set_option linter.unusedVariables false
set_option linter.unusedSimpArgs false
namespace Go.Ev
open Go
open Classical
variable {E:Env} {w w' w0:World} {A0:Fix} {g g':Gh} {st st':St} {N:Nat} {pv:List Value} {a:Act}
def tI (X:List Nat) (md:Region.Mode) (ops:Array Oper) (n:Nat) (listed:Array Bool):Prop:=HeadInv md ops n listed∧∀i∈X,listed.getD i false=true
theorem tI.set {X:List Nat} {md:Region.Mode} {ops:Array Oper} {n:Nat} {listed:Array Bool} (h:tI X md ops n listed) {i:Nat} (hr:i∈Region.ready md ops listed) (hin:i < n):tI X md ops n (listed.setIfInBounds i true):=by
 refine ⟨h.1.set hr hin,fun x hx=>?_⟩
 by_cases he:i=x
 · subst he
   have hs:=h.1.size
   obtain ⟨_,o,ho,_⟩:=mem_ready.1 hr
   have:=(Array.getElem?_eq_some_iff.1 ho).1
   simp [Array.getD,hs,this]
 · rw [getD_set_ne false he]
   exact h.2 x hx
theorem c1t {X:List Nat} {ops:Array Oper} {n:Nat} {listed:Array Bool} (hs:d0o ops n X=true) (hr:d0p ops n=true) (inv:tI X .any ops n listed) {i:Nat} (hi:i < n) (hun:listed.getD i true=false):∀t∈Region.ready .any ops listed,t < n:=by
 intro t ht
 rcases Nat.lt_or_ge t n with h | h
 · exact h
 · exfalso
   obtain ⟨_,ot,hot,hall⟩:=mem_ready.1 ht
   have htlt:t < ops.size:=(Array.getElem?_eq_some_iff.1 hot).1
   rcases Nat.lt_or_ge n t with hnt | hnt
   · have h1:=List.all_eq_true.1 hr t (List.mem_range.2 htlt)
     simp only [Bool.or_eq_true,Nat.ble_eq] at h1
     rcases h1 with h1 | h1
     · omega
     · obtain ⟨j,hj,hj2⟩:=List.any_eq_true.1 h1
       simp only [Bool.and_eq_true,Nat.ble_eq,Nat.blt_eq] at hj2
       obtain ⟨oj,hoj,e,he,hb,hon⟩:=Region.waitsFor_spec hj2.2.2
       have:oj=ot:=Option.some.inj (hoj.symm.trans hot)
       subst this
       have h2:=hall e he hb
       have h3:=inv.1.tail j hj2.1 (by have:=List.mem_range.1 hj;exact this)
       rw [hon,getD_both h3] at h2
       cases h2
   · have htn:t=n:=by omega
     subst htn
     have key:∀(d i:Nat),t - i=d→i < t→listed.getD i true=false→False:=by
      intro d
      induction d using Nat.strongRecOn with
      | _ d ih =>
        intro i hd hi hun
        have h1:=List.all_eq_true.1 hs i (List.mem_range.2 hi)
        rcases Bool.or_eq_true_iff.1 h1 with h1 | h1
        · have h9:=inv.2 i (by simpa using h1)
          rw [getD_both hun] at h9
          cases h9
        obtain ⟨j,hj,hj2⟩:=List.any_eq_true.1 h1
        simp only [Bool.and_eq_true,Nat.blt_eq] at hj2
        obtain ⟨oj,hoj,e,he,hb,hon⟩:=Region.waitsFor_spec hj2.2
        have hjle:j≤t:=by have:=List.mem_range.1 hj;omega
        by_cases hjt:j=t
        · subst hjt
          have:oj=ot:=Option.some.inj (hoj.symm.trans hot)
          subst this
          have h2:=hall e he hb
          rw [hon,getD_both hun] at h2
          cases h2
        · cases hl:listed.getD j false with
          | true =>
            have h2:=inv.1.closed j oj hoj hl e he hb
            rw [hon,getD_both hun] at h2
            cases h2
          | false=>exact ih (t - j) (by omega) j rfl (by omega) (getD_in (by rw [inv.1.size];omega) hl)
     exact key _ i rfl hi hun
section
variable {P:Program} {md:Region.Mode} {ops:Array Oper} {G:World→World→Prop} {S:World→Prop} {Q:Exit→Act→World→Prop} {n:Nat} {T:Array Bool→Act→World→Prop} {X:List Nat}
theorem yZ {i:Nat} {oi:Oper} {v:Value} (hi:ops[i]?=some oi) (hsel:∀(j:Nat) (o:Oper) cs b,ops[j]?=some o→o.op≠.select cs b)
 (hQ:∀c a w,Q (.panic c) (a.put oi.dst v) w→Q (.panic c) a w) (hin:i < n)
 (head:∀listed,tI X md ops n listed→listed.getD i true=false→∀j∈Region.ready md ops listed,j < n)
 (hdone:∀listed a w,T listed a w→∀j∈Region.ready md ops listed,n≤j) (Gr:∀w,G w w) (Gt:∀a b c,G a b→G b c→G a c) :
 ∀(f:Nat) (listed:Array Bool) (a:Act) (w:World),tI X md ops n listed →
  (∀j oj,ops[j]?=some oj→j≠i→listed.getD j true=false→(∀e∈oj.after,Region.binds md e=true→e.on≠i)→oi.apart ops oj=true) →
  i∈Region.ready md ops listed→mW P ops G S oi v a →
  mE P md ops Q n G S T f (listed.setIfInBounds i true) (a.put oi.dst v) w→mE P md ops Q n G S T (f+1) listed a w:=by
 intro f
 induction f with
 | zero =>
   intro listed a w inv _ hr hy H w' hG hS
   have hun:=(mem_ready.1 hr).1
   refine ⟨fun h=>(by rw [h] at hr;cases hr),fun j hj=>?_⟩
   have hjn:=head listed inv hun j hj
   refine ⟨hjn,?_⟩
   by_cases hji:j=i
   · subst hji
     exact hy.wpOp hi Gr hS fun w1 hG1 hS1=>⟨hS1,H.grow Gt (Gt _ _ _ hG hG1)⟩
   · have:=hdone _ _ _ (H w' hG hS) j (ready_mono hj hji)
     omega
 | succ f ih =>
   intro listed a w inv hfree hr hy H w' hG hS
   have hun:=(mem_ready.1 hr).1
   refine ⟨fun h=>(by rw [h] at hr;cases hr),fun j hj=>?_⟩
   have hjn:=head listed inv hun j hj
   refine ⟨hjn,?_⟩
   by_cases hji:j=i
   · subst hji
     exact hy.wpOp hi Gr hS fun w1 hG1 hS1=>⟨hS1,H.grow Gt (Gt _ _ _ hG hG1)⟩
   · have h1:=((H w' hG hS).2 j (ready_mono hj hji)).2
     obtain ⟨hjun,oj,hoj,hall⟩:=mem_ready.1 hj
     have hnot:∀e∈oj.after,Region.binds md e=true→e.on≠i:=fun e he hb heq=>by
      have h1:=hall e he hb
      rw [heq,getD_both hun] at h1
      cases h1
     have h2:=a6e hoj (hfree j oj hoj hji hjun hnot) (fun cs b=>hsel i oi cs b hi) (fun cs b=>hsel j oj cs b hoj) hQ hy h1
     have hfree':∀k ok,ops[k]?=some ok→k≠i→(listed.setIfInBounds j true).getD k true=false →
      (∀e∈ok.after,Region.binds md e=true→e.on≠i)→oi.apart ops ok=true:=fun k ok hk hki hun hno=>by
      refine hfree k ok hk hki ?_ hno
      by_cases hjk:j=k
      · subst hjk;exact hjun
      · rw [getD_set_ne true hjk] at hun;exact hun
     refine wpOp_mono (fun a' w1 h3=>⟨h3.2.1,ih (listed.setIfInBounds j true) a' w1 (inv.set hj hjn) hfree' (ready_mono hr (Ne.symm hji)) h3.1 ?_⟩) h2
     rw [Array.setIfInBounds_comm _ _ hji]
     exact h3.2.2
theorem a8p {i:Nat} {oi:Oper} {v:Value} (hi:ops[i]?=some oi) (hsel:∀(j:Nat) (o:Oper) cs b,ops[j]?=some o→o.op≠.select cs b)
 (hQ:∀c a w,Q (.panic c) (a.put oi.dst v) w→Q (.panic c) a w) :
 ∀(f:Nat) (listed:Array Bool) (a:Act) (w:World),
  (∀j oj,ops[j]?=some oj→j≠i→listed.getD j true=false→(∀e∈oj.after,Region.binds md e=true→e.on≠i)→oi.apart ops oj=true) →
  i∈Region.ready md ops listed→mW P ops (fun u v=>u=v) (fun _=>True) oi v a →
  wpAny P md ops Q f (listed.setIfInBounds i true) (a.put oi.dst v) w→wpAny P md ops Q (f+1) listed a w:=by
 intro f
 induction f with
 | zero =>
   intro listed a w _ hr hy H
   refine ⟨fun h=>(by rw [h] at hr;cases hr),fun j hj=>?_⟩
   by_cases hji:j=i
   · subst hji
     exact hy.wpOp hi (fun _=>rfl) trivial fun w1 hG1 _=>by cases hG1;exact H
   · have:=ready_mono hj hji
     rw [H.1] at this;cases this
 | succ f ih =>
   intro listed a w hfree hr hy H
   have hun:=(mem_ready.1 hr).1
   refine ⟨fun h=>(by rw [h] at hr;cases hr),fun j hj=>?_⟩
   by_cases hji:j=i
   · subst hji
     exact hy.wpOp hi (fun _=>rfl) trivial fun w1 hG1 _=>by cases hG1;exact H
   · have h1:=H.2 j (ready_mono hj hji)
     obtain ⟨hjun,oj,hoj,hall⟩:=mem_ready.1 hj
     have hnot:∀e∈oj.after,Region.binds md e=true→e.on≠i:=fun e he hb heq=>by
      have h1:=hall e he hb
      rw [heq,getD_both hun] at h1
      cases h1
     have h2:=a6e hoj (hfree j oj hoj hji hjun hnot) (fun cs b=>hsel i oi cs b hi) (fun cs b=>hsel j oj cs b hoj) hQ hy h1
     have hfree':∀k ok,ops[k]?=some ok→k≠i→(listed.setIfInBounds j true).getD k true=false →
      (∀e∈ok.after,Region.binds md e=true→e.on≠i)→oi.apart ops ok=true:=fun k ok hk hki hun hno=>by
      refine hfree k ok hk hki ?_ hno
      by_cases hjk:j=k
      · subst hjk;exact hjun
      · rw [getD_set_ne true hjk] at hun;exact hun
     refine wpOp_mono (fun a' w1 h3=>ih (listed.setIfInBounds j true) a' w1 hfree' (ready_mono hr (Ne.symm hji)) h3.1 ?_) h2
     rw [Array.setIfInBounds_comm _ _ hji]
     exact h3.2
end
def c9z (ops:Array Oper) (i:Nat) (a a':Act):Prop:=∃o v,ops[i]?=some o∧a'=a.put o.dst v
def ZOk (u:World) (Z:List Nat) (a:Act):Prop:=∀d∈Z,∃b,a.tmps.getD d undef=.pointer (some ⟨b,0,none⟩)∧u.heap.size≤b
theorem ZOk.put {ops:Array Oper} {u:World} {Z:List Nat} {i:Nat} {a':Act} (h:ZOk u Z a) (hp:c9z ops i a a') (ha:a1l ops i Z=true):ZOk u Z a':=by
 obtain ⟨o,v,ho,rfl⟩:=hp
 intro d hd
 obtain ⟨b,h1,h2⟩:=h d hd
 refine ⟨b,?_,h2⟩
 unfold a1l at ha
 rw [ho] at ha
 obtain ⟨dst,op,ty,pos,after,gd⟩:=o
 cases dst with
 | none=>exact h1
 | some x =>
   simp only [Bool.not_eq_true',List.contains_eq_mem,decide_eq_false_iff_not] at ha
   have hne:x≠d:=fun e=>ha (e ▸ hd)
   rw [←h1]
   simp only [Act.put]
   simp only [Array.getD,Array.size_setIfInBounds]
   split
   · rename_i hlt
     exact (Array.getElem_setIfInBounds (xs:=a.tmps) (i:=x) (a:=v) (j:=d) (by simpa using hlt)).trans (if_neg hne)
   · rfl
theorem ZOk.addZ {ops:Array Oper} {u:World} {Z:List Nat} {i:Nat} {a':Act} (h:ZOk u Z a') (hz:∀d t ty pos after,ops[i]?=some ⟨some d,.alloc t,ty,pos,after,none⟩→∃b,a'.tmps.getD d undef=.pointer (some ⟨b,0,none⟩)∧u.heap.size≤b):ZOk u (addZ ops i Z) a':=by
 unfold Go.Ev.addZ
 split
 · rename_i d t ty pos after hi
   intro x hx
   rcases List.mem_cons.1 hx with rfl | hx
   · exact hz _ _ _ _ _ hi
   · exact h x hx
 · exact h
theorem c9g {X:List Nat} (hE:EnvOk E) (hG:GOk E.P w0 (A0.G w0)) {F:Nat→List AV→Out→Prop} (hFn:∀f as out,F f as out→FnOk E.P f as out) {ops:Array Oper} {Kc:St→Prop} {Q:Exit→Act→World→Prop} {n:Nat} {T:Array Bool→Act→World→Prop}
 (hs:Region.noSelect ops=true) (hp:∀c a w,Q (.panic c) a w→False) (hT:∀listed a w,T listed a w→∀j∈Region.ready .any ops listed,n≤j) (hd:∀o∈ops.toList,mD N o.dst)
 (head:∀i,i < n→∀listed,tI X .any ops n listed→listed.getD i true=false→∀j∈Region.ready .any ops listed,j < n)
 {b:World} {k i:Nat} {listed:Array Bool} (hin:i < n) (b2:Region.free .any ops listed i=true) (hr:i∈Region.ready .any ops listed) (inv:tI X .any ops n listed) (h:RepSt b g st N pv a) (hF:Fr w0 A0 b g)
 (hK:yH E F ops true st Kc ops.toList[i]?)
 (next:∀st' a',Kc st'→RepSt b g st' N pv a'→c9z ops i a a'→mE E.P .any ops Q n Cls (Sx b) T k (listed.setIfInBounds i true) a' b):mE E.P .any ops Q n Cls (Sx b) T (k+1) listed a b:=by
 cases hi:ops.toList[i]? with
 | none=>rw [hi] at hK;exact hK.elim
 | some o =>
   have hia:ops[i]?=some o:=by simpa using hi
   have hdo:mD N o.dst:=hd o (List.mem_of_getElem? hi)
   rw [hi] at hK
   obtain ⟨d,op,ty,pos,after,gd⟩:=o
   have main:∀(st:St),Region.wanted ⟨d,op,ty,pos,after,gd⟩ (yielded ops a.tmps)=true→RepSt b g st N pv a →
    (bif Op.pureA op then opP E true op ty st fun a=>Kc (st.set d a)
      else uJ E F op st fun a=>Kc (st.set d a))→mE E.P .any ops Q n Cls (Sx b) T (k+1) listed a b:=by
    clear hK h
    intro st hwt h hK
    have fin:∀(x:AV) (v:Value),Kc (st.set d x)→bL b g st x v→mW E.P ops Cls (Sx b) ⟨d,op,ty,pos,after,gd⟩ v a→mE E.P .any ops Q n Cls (Sx b) T (k+1) listed a b:=by
     intro x v hx hrep hy
     exact yZ (v:=v) hia (Region.noSelect_spec hs) (fun c a w hq=>(hp _ _ _ hq).elim) hin (head i hin) hT Cls.refl (fun _ _ _=>Cls.trans) k listed a b inv (Region.free_spec hia b2) hr hy
      (next _ _ hx (h.put hrep hdo) ⟨_,_,hia,rfl⟩)
    cases hpu:Op.pureA op with
    | true =>
      rw [hpu] at hK
      simp only [cond_true] at hK
      obtain ⟨x,hx,hr⟩:=yM (o:=⟨d,op,ty,pos,after,gd⟩) hE h rfl hK
      obtain ⟨v,hv,hr⟩:=hr rfl
      refine fin x v hx hr (.inl ⟨hwt,fun w' hw'=>?_⟩)
      unfold Oper.quietAt
      rw [hv w' hw'.1]
      exact ⟨rfl,rfl⟩
    | false =>
      rw [hpu] at hK
      simp only [cond_false] at hK
      unfold uJ at hK
      split at hK
      · obtain ⟨x,v,hx,hv,hr⟩:=b3e (K:=fun a=>Kc (st.set d a)) (o:=⟨d,_,ty,pos,after,gd⟩) hE h rfl hK
        refine fin x v hx hr (.inl ⟨hwt,fun w' hw'=>?_⟩)
        unfold Oper.quietAt
        rw [hv w']
        exact ⟨rfl,rfl⟩
      · unfold b7s at hK
        split at hK
        · rename_i x args tys heq
          split at hK
          · rename_i f caps hf
            unfold c4z at hK
            split at hK
            rotate_left
            · exact hK.elim
            rename_i as has
            obtain ⟨as',r,hFa,hFz,hK⟩:=hK
            obtain ⟨hfn,hr1,cvs,hv,hC⟩:=c0m h (hF.gok hG) hFn hf has ⟨as',hFa,hFz⟩
            refine fin (.one (.v r)) r hK ⟨hr1,rfl⟩ (.inl ⟨hwt,fun w' hw'=>?_⟩)
            unfold Oper.quietAt
            rw [b5n heq hv hfn w']
            refine ⟨rfl,(hC w' hw'.1 hw'.2).mono ?_⟩
            rintro e w2 ⟨he,h1,h2,h3,h4,h5⟩
            have hc:Cls w' w2:=⟨h1,h2,h3,h4,h5⟩
            exact ⟨he,hc,hw'.cls hc⟩
          · exact hK.elim
        · exact hK.elim
      · exact hK.elim
   cases gd with
   | none =>
     simp only [yH,nY,cond_true] at hK
     exact main st rfl h hK
   | some jw =>
     obtain ⟨j,want⟩:=jw
     simp only [yH,nY,cond_true] at hK
     obtain ⟨gb,st1,hw,h,hK1,hK0⟩:=yS (o:=⟨d,op,ty,pos,after,some (j,want)⟩) h hK rfl
     cases gb with
     | true=>exact main st1 hw h (hK1 rfl)
     | false =>
       have hput:=h.put (d:=d) (av:=.may false .no) (v:=undef) ⟨fun h=>(by cases h),fun _=>rfl⟩ hdo
       exact yZ (v:=undef) hia (Region.noSelect_spec hs) (fun c a w hq=>(hp _ _ _ hq).elim) hin (head i hin) hT Cls.refl (fun _ _ _=>Cls.trans) k listed a b inv (Region.free_spec hia b2) hr (.inr ⟨hw,rfl⟩)
        (next _ _ (hK0 rfl) hput ⟨_,_,hia,rfl⟩)
theorem b0a (hE:EnvOk E) (hG:GOk E.P w0 (A0.G w0)) {F:Nat→List AV→Out→Prop} (hFn:∀f as out,F f as out→FnOk E.P f as out) {ops:Array Oper} {Kc:St→Prop} {Q:Exit→Act→World→Prop} {next:Act→World→Prop} {u:World} (hd:∀o∈ops.toList,mD N o.dst)
 {i:Nat} (h':RepSt w' g st N pv a) (hF':Fr w0 A0 w' g) (hS:Sx u w') (hK:yH E F ops false st Kc ops.toList[i]?)
 (ih:∀st' a' w1 g',Kc st'→RepSt w1 g' st' N pv a'→Fr w0 A0 w1 g'→Sx u w1→c9z ops i a a'→(∀d t ty pos after,ops[i]?=some ⟨some d,.alloc t,ty,pos,after,none⟩→∃b,a'.tmps.getD d undef=.pointer (some ⟨b,0,none⟩)∧u.heap.size≤b)→next a' w1):wpOp E.P ops Q i (fun a' w1=>Sx u w1∧next a' w1) a w':=by
 cases hi:ops.toList[i]? with
 | none=>rw [hi] at hK;exact hK.elim
 | some o =>
   have hia:ops[i]?=some o:=by simpa using hi
   have hdo:mD N o.dst:=hd o (List.mem_of_getElem? hi)
   rw [hi] at hK
   obtain ⟨d,op,ty,pos,after,gd⟩:=o
   have main:∀(st:St),Region.wanted ⟨d,op,ty,pos,after,gd⟩ (yielded ops a.tmps)=true→RepSt w' g st N pv a →
    (bif Op.pureA op then opP E true op ty st fun a=>Kc (st.set d a)
      else b2d E F op ty st fun st a=>Kc (st.set d a))→wpOp E.P ops Q i (fun a' w1=>Sx u w1∧next a' w1) a w':=by
    clear hK h'
    intro st hwt h' hK
    refine c2l hia hwt ?_
    cases hpu:Op.pureA op with
    | true =>
      rw [hpu] at hK
      simp only [cond_true] at hK
      obtain ⟨x,hx,hr'⟩:=yM (o:=⟨d,op,ty,pos,after,gd⟩) hE h' rfl hK
      obtain ⟨v,hv,hr'⟩:=hr' rfl
      unfold Oper.wp
      rw [hv w' (.refl w')]
      exact ⟨hS,ih _ _ _ _ hx (h'.put hr' hdo) hF' hS ⟨_,_,hia,rfl⟩ (fun _ _ _ _ _ e=>by rw [hia] at e;injection e with e;injection e with _ e2;rw [e2] at hpu;cases hpu)⟩
    | false =>
      rw [hpu] at hK
      simp only [cond_false] at hK
      unfold b2d at hK
      split at hK
      · rename_i t n parts
        obtain ⟨⟨st',av,hK',nx,v,w1,g',hrun,hnx,hR,hA,hF1⟩,v2,u2,hrun2,hU⟩:=a4g (K:=fun st a=>Kc (st.set d a)) (o:=⟨d,.buildSlice t n parts,ty,pos,after,gd⟩) hE h' hF' rfl hK
        rw [hrun2] at hrun
        cases hrun
        have hs1:w'.heap.size≤w1.heap.size:=by
         rcases Nat.lt_or_ge w1.heap.size w'.heap.size with hlt | hge
         · have:=hU w1.heap.size hlt
           rw [Array.getElem?_eq_none (Nat.le_refl _)] at this
           have h3:w1.heap.size < w'.heap.size:=hlt
           simp [h3] at this
         · exact hge
        have hS':Sx u w1:=⟨fun y hy=>(hU y (Nat.lt_of_lt_of_le hy hS.2)).trans (hS.1 y hy),Nat.le_trans hS.2 hs1⟩
        unfold Oper.wp
        rw [hrun2]
        rcases hnx with hv | ⟨hv,_⟩
        · cases hv
          exact ⟨hS',ih _ _ _ _ hK' (hR.put hA hdo) hF1 hS' ⟨_,_,hia,rfl⟩ (fun _ _ _ _ _ e=>by rw [hia] at e;cases e)⟩
        · cases hv
      rename_i hne
      clear hne
      unfold b2e at hK
      split at hK
      · unfold d0y at hK
        split at hK
        · rename_i c x args tys heq
          cases heq
          exact c0l (o:=⟨d,.call ⟨.value x,args,tys⟩,ty,pos,after,gd⟩) h' hF' hG hFn rfl rfl hK (fun st' av v w1 g' hK' hR hA hF1 hU =>
           have hs1:w'.heap.size≤w1.heap.size:=by
            rcases Nat.lt_or_ge w1.heap.size w'.heap.size with hlt | hge
            · have:=hU w1.heap.size hlt
              rw [Array.getElem?_eq_none (Nat.le_refl _)] at this
              have h3:w1.heap.size < w'.heap.size:=hlt
              simp [h3] at this
            · exact hge
           have hS':Sx u w1:=⟨fun y hy=>(hU y (Nat.lt_of_lt_of_le hy hS.2)).trans (hS.1 y hy),Nat.le_trans hS.2 hs1⟩
           ⟨hS',ih _ _ _ _ hK' (hR.put hA hdo) hF1 hS' ⟨_,_,hia,rfl⟩ (fun _ _ _ _ _ e=>by rw [hia] at e;cases e)⟩)
        · exact hK.elim
      · rename_i t
        have hti:∃ti,E.tab t=some ti:=by
         cases hti:E.tab t with
         | some ti=>exact ⟨ti,rfl⟩
         | none =>
           have h2:=hK
           simp only [opS] at h2
           unfold Env.ti at h2
           rw [hti] at h2
           exact h2.elim
        obtain ⟨ti,hti⟩:=hti
        obtain ⟨st',av,hK',nx,v,w1,g',hrun,hnx,hR,hA,hF1⟩:=c1k (K:=fun st a=>Kc (st.set d a)) (o:=⟨d,.alloc t,ty,pos,after,gd⟩) hE h' hF' rfl (by simpa only [opS] using hK)
        have hU:=c9t (o:=⟨d,.alloc t,ty,pos,after,gd⟩) hE hti rfl hrun
        have hs1:w'.heap.size≤w1.heap.size:=by
         rcases Nat.lt_or_ge w1.heap.size w'.heap.size with hlt | hge
         · have:=hU w1.heap.size hlt
           rw [Array.getElem?_eq_none (Nat.le_refl _)] at this
           have h3:w1.heap.size < w'.heap.size:=hlt
           simp [h3] at this
         · exact hge
        have hS':Sx u w1:=⟨fun y hy=>(hU y (Nat.lt_of_lt_of_le hy hS.2)).trans (hS.1 y hy),Nat.le_trans hS.2 hs1⟩
        have hval:nx=.value (.pointer (some ⟨w'.heap.size,0,none⟩)):=by
         obtain ⟨z,h1,_⟩:=(hE.ti t ti hti).zero
         have:(execOp a.eval ⟨d,.alloc t,ty,pos,after,gd⟩).run E.P w'=.ok (.value (.pointer (some ⟨w'.heap.size,0,none⟩))) { w' with heap:=w'.heap.push (.cells z.cells t) }:=by
          simp [execOp,Instr.alloc,h1,newVar,pB]
         rw [this] at hrun
         cases hrun
         rfl
        unfold Oper.wp
        rw [hrun]
        rcases hnx with rfl | ⟨rfl,rfl⟩
        · cases hval
          refine ⟨hS',ih _ _ _ _ hK' (hR.put hA hdo) hF1 hS' ⟨_,_,hia,rfl⟩ (fun d' t' ty' pos' after' e=>?_)⟩
          rw [hia] at e
          cases e
          refine ⟨w'.heap.size,?_,hS.2⟩
          have hlt:d' < a.tmps.size:=by rw [h'.size];exact hdo d' rfl
          simp [Act.put,Array.getD,hlt]
        · cases hval
      · rename_i t parts
        unfold uJ at hK
        obtain ⟨x,v,hx,hv,hr'⟩:=b3e (K:=fun a=>Kc (st.set d a)) (o:=⟨d,.build t parts,ty,pos,after,gd⟩) hE h' rfl hK
        unfold Oper.wp
        rw [hv w']
        exact ⟨hS,ih _ _ _ _ hx (h'.put hr' hdo) hF' hS ⟨_,_,hia,rfl⟩ (fun _ _ _ _ _ e=>by rw [hia] at e;cases e)⟩
      · exact hK.elim
   cases gd with
   | none =>
     simp only [yH,nY,cond_false] at hK
     exact main st rfl h' hK
   | some jw =>
     obtain ⟨j,want⟩:=jw
     simp only [yH,nY,cond_false] at hK
     obtain ⟨gb,st1,hw,h,hK1,hK0⟩:=yS (o:=⟨d,op,ty,pos,after,some (j,want)⟩) h' hK rfl
     cases gb with
     | true=>exact main st1 hw h (hK1 rfl)
     | false =>
       have hput:=h.put (d:=d) (av:=.may false .no) (v:=undef) ⟨fun h=>(by cases h),fun _=>rfl⟩ hdo
       unfold Go.wpOp
       rw [hia]
       simp only
       rw [if_neg (by rw [hw];simp)]
       exact ⟨hS,ih _ _ _ _ (hK0 rfl) hput hF' hS ⟨_,_,hia,rfl⟩ (fun _ _ _ _ _ e=>by rw [hia] at e;injection e with e;injection e with _ _ _ _ _ e2;cases e2)⟩
theorem c5o (hE:EnvOk E) {F:Nat→List AV→Out→Prop} {ops:Array Oper} {Kc:St→Prop} {Q:Exit→Act→World→Prop} {next:Act→World→Prop} {u:World} {Z:List Nat}
 {i:Nat} (h':RepSt w' g st N pv a) (hF':Fr w0 A0 w' g) (hS:Sx u w') (hZ:ZOk u Z a) (hz:b8a ops i Z=true) (hK:b8b E st Kc ops.toList[i]?)
 (ih:∀st' a' w1 g',Kc st'→RepSt w1 g' st' N pv a'→Fr w0 A0 w1 g'→Sx u w1→ZOk u Z a'→next a' w1):wpOp E.P ops Q i (fun a' w1=>Sx u w1∧next a' w1) a w':=by
 cases hi:ops.toList[i]? with
 | none=>rw [hi] at hK;exact hK.elim
 | some o =>
   have hia:ops[i]?=some o:=by simpa using hi
   rw [hi] at hK
   unfold b8a at hz
   rw [hia] at hz
   split at hz
   rotate_left
   · cases hz
   rename_i t d y ty pos after heq
   cases heq
   simp only [List.contains_eq_mem,decide_eq_true_eq] at hz
   obtain ⟨b,hb1,hb2⟩:=hZ d hz
   simp only [b8b] at hK
   split at hK
   rotate_left
   · exact hK.elim
   rename_i id ep row off cs hx hcs
   have hti0:=hK
   unfold Env.ti at hti0
   split at hti0
   rotate_left
   · exact hti0.elim
   rename_i ti hti
   clear hti0
   unfold Env.ti at hK
   rw [hti] at hK
   obtain ⟨hlen,hK⟩:=hK.get
   cases hob:st.obj id with
   | none=>rw [hob] at hK;exact hK.elim
   | some ob =>
     rw [hob] at hK
     obtain ⟨hbox,hK⟩:=(show Tr ob.box (a3a st (fun st a=>stK st none a Kc) id row off cs (some ob)) from hK).get
     have hK2:opS E F (.store t (.tmp d) y) ty st (fun st a=>Kc (st.set none a)):=by
      simp only [opS,hx,hcs]
      unfold Env.ti
      rw [hti]
      show Tr (Nat.beq cs.length ti.size) _
      rw [hlen,hob]
      simp only [nY] at hK
      exact hK
     obtain ⟨st',av,hKc,nx,v,w1,g',hrun,hnx,hR,hA,hF1⟩:=b7z (o:=⟨none,.store t (.tmp d) y,ty,pos,after,none⟩) hE h' hF' rfl hK2
     have hp:=iQ h' (.tmp d)
     rw [hx] at hp
     obtain ⟨hid,hp⟩:=(show dM w' g st (.p id [] ep row off) (a.eval (.tmp d)) from hp.2)
     obtain ⟨hpx,hl,hrow⟩:=hp ob hob
     have hO:=h'.ob id ob hob
     unfold fY at hO
     rw [hbox] at hO
     obtain ⟨cc,e,row0,r1,r2,r3,r4,r5,r6,r7⟩:=hO
     have hev:a.eval (.tmp d)=.pointer (some ⟨b,0,none⟩):=hb1
     have hβ:g.β id=b∧off=0:=by
      rw [hev,r5] at hpx
      injection hpx with hpx;injection hpx with hpx;injection hpx with h1 h2
      refine ⟨h1.symm,?_⟩
      have hrow0:row=0:=by rw [r1] at hrow;simpa using hrow
      subst hrow0
      simp at h2
      exact h2.symm
     obtain ⟨q1,q2⟩:=uT hcs (a5n y (jM h' y))
     have hv1:∀x∈(a.eval y).cells.toList,x.oneCell'=true:=by
      intro x hx
      obtain ⟨j,hj⟩:=List.getElem?_of_mem hx
      have hlt:j < cs.length:=by
       have:=(List.getElem?_eq_some_iff.1 hj).1;simp at this;omega
      exact xU (q2 j cs[j] x (by simp [hlt]) (by simpa using hj)).1
     have hlen:=Nat.eq_of_beq_eq_true hlen
     have hfit:off+cs.length≤ob.k:=by
      simp only [a3a,hbox,cond_true] at hK
      exact Nat.le_of_ble_eq_true hK.get.1
     have hsz:0+ti.size≤cc.size:=by rw [r7.1,←r2,←hlen];omega
     have hrun2:=a0q (w:=w') (hE.ti t ti hti).size (b:=g.β id) (o:=0) (v:=a.eval y) (by rw [q1,hlen]) r3 hsz hv1
     have hw1:w1=w'.setRow (g.β id) (cc.toList.take 0++(a.eval y).cells.toList++cc.toList.drop (0+ti.size)).toArray:=by
      have exec:(execOp a.eval ⟨none,.store t (.tmp d) y,ty,pos,after,none⟩)=(do Instr.storeAt t (a.eval (.tmp d)) (a.eval y);pure Next.skip):=by simp [execOp]
      rw [exec,hev,←hβ.1] at hrun
      simp [hrun2] at hrun
      rw [←hrun.2];simp
     have hS1:Sx u w1:=by
      refine ⟨fun x hx=>?_,by rw [hw1,uH];exact hS.2⟩
      rw [hw1,setRow_other _ _ _ _ (by rw [hβ.1];omega)]
      exact hS.1 x hx
     refine c2l hia rfl ?_
     unfold Oper.wp
     rw [hrun]
     have fin:next (a.put none v) w1:=ih _ _ _ _ hKc (hR.put (d:=none) hA (fun i h=>by cases h)) hF1 hS1 hZ
     rcases hnx with rfl | ⟨rfl,rfl⟩
     · exact ⟨hS1,fin⟩
     · exact ⟨hS1,fin⟩
theorem wD {X:List Nat} {ops:Array Oper} {n:Nat} {L:Array Bool}:∀(k:Nat) (t:DT) (ph:Bool) (Z:List Nat) (listed:Array Bool),gT ops n L ph Z k t listed=true→tI X .any ops n listed→tI X .any ops n L
 | 0,.leaf,ph,Z,listed,hB,inv=>by
   have:listed=L:=by simpa [gT] using hB
   subst this;exact inv
 | 0,.q _ _,ph,Z,listed,hB,inv=>by simp [gT] at hB
 | 0,.s _ _,ph,Z,listed,hB,inv=>by simp [gT] at hB
 | 0,.o _ _,ph,Z,listed,hB,inv=>by simp [gT] at hB
 | 0,.b _ _ _ _,ph,Z,listed,hB,inv=>by simp [gT] at hB
 | 0,.w _ _,ph,Z,listed,hB,inv=>by simp [gT] at hB
 | k+1,.leaf,ph,Z,listed,hB,inv=>by simp [gT] at hB
 | k+1,.q i t,ph,Z,listed,hB,inv=>by
   simp only [gT,Bool.and_eq_true,Nat.blt_eq] at hB
   exact wD k t ph _ _ hB.2.2.2.2 (inv.set (by simpa using hB.2.2.2.1) hB.1.1)
 | k+1,.s i t,ph,Z,listed,hB,inv=>by
   simp only [gT,Bool.and_eq_true,Nat.blt_eq] at hB
   exact wD k t ph _ _ hB.2.2.2 (inv.set (by simpa using hB.2.2.1) hB.1.1)
 | k+1,.o i t,ph,Z,listed,hB,inv=>by
   simp only [gT,Bool.and_eq_true,Nat.blt_eq,beq_iff_eq] at hB
   exact wD k t false _ _ hB.2.2 (inv.set (by rw [hB.2.1];simp) hB.1.1)
 | k+1,.b i t j u,ph,Z,listed,hB,inv=>by
   simp only [gT,Bool.and_eq_true,Nat.blt_eq,beq_iff_eq] at hB
   exact wD k t false _ _ hB.2.2.2.1 (inv.set (by rw [hB.2.2.1];simp) hB.1.1)
 | k+1,.w i t,ph,Z,listed,hB,inv=>by
   simp only [gT,Bool.and_eq_true,Nat.blt_eq,beq_iff_eq] at hB
   exact wD k t false _ _ hB.2.2 (inv.set (by rw [hB.2.1];simp) hB.1.1)
theorem vW {X:List Nat} (hE:EnvOk E) (hG:GOk E.P w0 (A0.G w0)) {F:Nat→List AV→Out→Prop} (hFn:∀f as out,F f as out→FnOk E.P f as out) {ops:Array Oper} {Kn:St→Prop} {Q:Exit→Act→World→Prop} {u:World} {n gf:Nat} {L:Array Bool}
 (hs:Region.noSelect ops=true) (hp:∀c a w,Q (.panic c) a w→False)
 (hKn:∀st' a' w' g',Kn st'→RepSt w' g' st' N pv a'→Fr w0 A0 w' g'→wpAny E.P .any ops Q gf L a' w') (hP:∀j∈Region.ready .any ops L,n≤j) (hd:∀o∈ops.toList,mD N o.dst)
 (head:∀i,i < n→∀listed,tI X .any ops n listed→listed.getD i true=false→∀j∈Region.ready .any ops listed,j < n) :
 ∀(k:Nat) (t:DT) (ph:Bool) (Z:List Nat) (listed:Array Bool) (st:St) (g:Gh) (a:Act) (b:World),Sx u b→(ph=true→b=u)→ZOk u Z a→gT ops n L ph Z k t listed=true→tI X .any ops n listed→RepSt b g st N pv a→Fr w0 A0 b g→wI E F ops Kn t st →
  mE E.P .any ops Q n Cls (Sx u) (fun listed a w=>listed=L∧wpAny E.P .any ops Q gf L a w) k listed a b
 | 0,.leaf,ph,Z,listed,st,g,a,b,hb,hph,hZ,hB,inv,h,hF,hK=>by
   intro w' hc hS
   have:listed=L:=by simpa [gT] using hB
   exact ⟨this,hKn _ _ _ _ hK (h.up hc.2.2.2.2 hc.2.2.2.1) (hF.cls hc)⟩
 | 0,.q _ _,ph,Z,listed,st,g,a,b,hb,hph,hZ,hB,inv,h,hF,hK=>by simp [gT] at hB
 | 0,.s _ _,ph,Z,listed,st,g,a,b,hb,hph,hZ,hB,inv,h,hF,hK=>by simp [gT] at hB
 | 0,.o _ _,ph,Z,listed,st,g,a,b,hb,hph,hZ,hB,inv,h,hF,hK=>by simp [gT] at hB
 | 0,.b _ _ _ _,ph,Z,listed,st,g,a,b,hb,hph,hZ,hB,inv,h,hF,hK=>by simp [gT] at hB
 | 0,.w _ _,ph,Z,listed,st,g,a,b,hb,hph,hZ,hB,inv,h,hF,hK=>by simp [gT] at hB
 | k+1,.leaf,ph,Z,listed,st,g,a,b,hb,hph,hZ,hB,inv,h,hF,hK=>by simp [gT] at hB
 | k+1,.q i t,ph,Z,listed,st,g,a,b,hb,hph,hZ,hB,inv,h,hF,hK=>by
   have ih:=vW (u:=u) (n:=n) hE hG hFn hs hp hKn hP hd head k t
   simp only [gT,Bool.and_eq_true,Nat.blt_eq] at hB
   obtain ⟨⟨hin,hap⟩,b1,b2,b3,b4⟩:=hB
   have hbu:=hph b1
   subst hbu
   have hr:i∈Region.ready .any ops listed:=by simpa using b3
   exact c9g hE hG hFn hs hp (fun listed a w hT=>by rw [hT.1];exact hP) hd head hin b2 hr inv h hF hK (fun st' a' hk hR hput=>ih ph Z _ _ g _ b hb hph (hZ.put hput hap) b4 (inv.set hr hin) hR hF hk)
 | k+1,.s i t,ph,Z,listed,st,g,a,b,hb,hph,hZ,hB,inv,h,hF,hK=>by
   have ih:=vW (u:=u) (n:=n) hE hG hFn hs hp hKn hP hd head k t
   simp only [gT,Bool.and_eq_true,Nat.blt_eq] at hB
   obtain ⟨⟨hin,hap⟩,b2,b3,b4⟩:=hB
   have hr:i∈Region.ready .any ops listed:=by simpa using b3
   simp only [wI] at hK
   cases hi:ops.toList[i]? with
   | none=>rw [hi] at hK;exact hK.elim
   | some o =>
     have hia:ops[i]?=some o:=by simpa using hi
     have hdo:mD N o.dst:=hd o (List.mem_of_getElem? hi)
     rw [hi] at hK
     obtain ⟨d,op,ty,pos,after,gd⟩:=o
     cases gd with
     | some jw=>exact hK.elim
     | none =>
       simp only [a3b,nY] at hK
       obtain ⟨x,v,hx,hv,hrep⟩:=a1o (o:=⟨d,op,ty,pos,after,none⟩) hE h (ty:=ty) hK
       refine yZ (v:=v) hia (Region.noSelect_spec hs) (fun c a w hq=>(hp _ _ _ hq).elim) hin (head i hin) (fun listed a w hT=>by rw [hT.1];exact hP) Cls.refl (fun _ _ _=>Cls.trans) k listed a b inv (Region.free_spec hia b2) hr (.inl ⟨rfl,fun w' _=>?_⟩) (ih ph Z _ _ g _ b hb hph (hZ.put ⟨_,_,hia,rfl⟩ hap) b4 (inv.set hr hin) (h.put hrep hdo) hF hx)
       unfold Oper.quietAt
       rw [hv w']
       exact ⟨rfl,rfl⟩
 | k+1,.o i t,ph,Z,listed,st,g,a,b,hb,hph,hZ,hB,inv,h,hF,hK=>by
   have ih:=vW (u:=u) (n:=n) hE hG hFn hs hp hKn hP hd head k t
   simp only [gT,Bool.and_eq_true,Nat.blt_eq,beq_iff_eq] at hB
   obtain ⟨⟨hin,hap⟩,b2,b4⟩:=hB
   have hr:i∈Region.ready .any ops listed:=by rw [b2];simp
   refine b0t b2 hin fun w' hc hS=>?_
   exact b0a (st:=st) hE hG hFn hd (h.up hc.2.2.2.2 hc.2.2.2.1) (hF.cls hc) hS hK (fun st' a' w1 g' hk hR hF1 hS1 hput hal=>ih false _ _ _ g' _ w1 hS1 (fun h=>by cases h) ((hZ.put hput hap).addZ hal) b4 (inv.set hr hin) hR hF1 hk)
 | k+1,.b i t j v,ph,Z,listed,st,g,a,b,hb,hph,hZ,hB,inv,h,hF,hK=>by
   have ih:=vW (u:=u) (n:=n) hE hG hFn hs hp hKn hP hd head k
   simp only [gT,Bool.and_eq_true,Nat.blt_eq,beq_iff_eq] at hB
   obtain ⟨⟨hin,hap⟩,⟨hjn,hap2⟩,b2,b4,b5⟩:=hB
   have hr:i∈Region.ready .any ops listed:=by rw [b2];simp
   have hr2:j∈Region.ready .any ops listed:=by rw [b2];simp
   refine c3n b2 hin hjn (fun w' hc hS=>?_) (fun w' hc hS=>?_)
   · exact b0a (st:=st) hE hG hFn hd (h.up hc.2.2.2.2 hc.2.2.2.1) (hF.cls hc) hS hK.1 (fun st' a' w1 g' hk hR hF1 hS1 hput hal=>ih t false _ _ _ g' _ w1 hS1 (fun h=>by cases h) ((hZ.put hput hap).addZ hal) b4 (inv.set hr hin) hR hF1 hk)
   · exact b0a (st:=st) hE hG hFn hd (h.up hc.2.2.2.2 hc.2.2.2.1) (hF.cls hc) hS hK.2 (fun st' a' w1 g' hk hR hF1 hS1 hput hal=>ih v false _ _ _ g' _ w1 hS1 (fun h=>by cases h) ((hZ.put hput hap2).addZ hal) b5 (inv.set hr2 hjn) hR hF1 hk)
 | k+1,.w i t,ph,Z,listed,st,g,a,b,hb,hph,hZ,hB,inv,h,hF,hK=>by
   have ih:=vW (u:=u) (n:=n) hE hG hFn hs hp hKn hP hd head k t
   simp only [gT,Bool.and_eq_true,Nat.blt_eq,beq_iff_eq] at hB
   obtain ⟨⟨hin,hsz⟩,b2,b4⟩:=hB
   have hr:i∈Region.ready .any ops listed:=by rw [b2];simp
   refine b0t b2 hin fun w' hc hS=>?_
   exact c5o (F:=F) (st:=st) hE (h.up hc.2.2.2.2 hc.2.2.2.1) (hF.cls hc) hS hZ hsz hK (fun st' a' w1 g' hk hR hF1 hS1 hZ1=>ih false Z _ _ g' _ w1 hS1 (fun h=>by cases h) hZ1 b4 (inv.set hr hin) hR hF1 hk)
theorem b3i (hE:EnvOk E) (hG:GOk E.P w0 (A0.G w0)) {F:Nat→List AV→Out→Prop} (hFn:∀f as out,F f as out→FnOk E.P f as out) {ops:Array Oper} {Qa:St→Prop} {Q:Exit→Act→World→Prop}
 (hs:Region.noSelect ops=true) (hp:∀c a w,Q (.panic c) a w→False)
 (hQ:∀st' a' w' g',Qa st'→RepSt w' g' st' N pv a'→Fr w0 A0 w' g'→Q .normal a' w') (hd:∀o∈ops.toList,mD N o.dst) :
 ∀(r:DS) (X:List Nat) (m:Nat) (listed:Array Bool) (st:St) (g:Gh) (a:Act) (w:World),a7g ops X m r listed=true→tI X .any ops m listed→RepSt w g st N pv a→Fr w0 A0 w g→b3j E F ops Qa r st→wpAny E.P .any ops Q (a5j ops.size r) listed a w
 | .done,X,m,listed,st,g,a,w,hB,inv,h,hF,hK=>⟨by simpa [a7g] using hB,hQ _ _ _ _ hK h hF⟩
 | .tail n,X,m,listed,st,g,a,w,hB,inv,h,hF,hK=>by
   simp only [a7g,Bool.and_eq_true,Nat.ble_eq] at hB
   have h2:=a9e hE hG hFn hQ (ops.toList.drop n) st g a w h hF (fun o ho=>hd o (List.mem_of_mem_drop ho)) hK
   have h1:=wpAny_of_seq (md:=.any) (ops.toList.drop n) n listed a w (fun j=>by simp [List.getElem?_drop]) (by rw [List.length_drop,Array.length_toList];exact hB.2) h2
   rw [List.length_drop,Array.length_toList] at h1
   exact h1
 | .seg n k t r,X,m,listed,st,g,a,w,hB,inv,h,hF,hK=>by
   simp only [a7g,Bool.and_eq_true,Nat.ble_eq,Bool.or_eq_true,Nat.beq_eq] at hB
   obtain ⟨b1,b2,b3,b4,b5,b6⟩:=hB
   have inv':tI X .any ops n listed:=⟨⟨inv.1.size,inv.1.closed,fun t ht ht'=>inv.1.tail t (by omega) ht'⟩,inv.2⟩
   have head:∀i,i < n→∀listed,tI X .any ops n listed→listed.getD i true=false→∀j∈Region.ready .any ops listed,j < n:=by
    intro i hi listed inv hun j hj
    rcases b3 with b3 | ⟨b31,b32⟩
    · obtain ⟨_,o,ho,_⟩:=mem_ready.1 hj
      have:=(Array.getElem?_eq_some_iff.1 ho).1
      omega
    · exact c1t b31 b32 inv hi hun j hj
   have ih:=b3i hE hG hFn hs hp hQ hd r X n (b1e ops n)
   have key:=vW (Q:=Q) (u:=w) (n:=n) (gf:=a5j ops.size r) (L:=b1e ops n) (Kn:=b3j E F ops Qa r) hE hG hFn hs hp (fun st' a' w' g' hk hR hF'=>ih st' g' a' w' b6 (wD k t true [] listed b4 inv') hR hF' hk) (c1w b5) hd head k t true [] listed st g a w ⟨.refl _,Nat.le_refl _⟩ (fun _=>rfl) (fun d hd=>by cases hd) b4 inv' h hF hK
   exact b0s (g:=a5j ops.size r) Cls.refl (fun listed a w hT=>by rw [hT.1];exact hT.2) k listed a w ⟨.refl _,Nat.le_refl _⟩ key
 | .pre i r,X,m,listed,st,g,a,w,hB,inv,h,hF,hK=>by
   simp only [a7g,Bool.and_eq_true,Nat.blt_eq] at hB
   obtain ⟨hin,b2,b3,b4⟩:=hB
   have hr:i∈Region.ready .any ops listed:=by simpa using b3
   simp only [b3j] at hK
   cases hi:ops.toList[i]? with
   | none=>rw [hi] at hK;exact hK.elim
   | some o =>
     have hia:ops[i]?=some o:=by simpa using hi
     have hdo:mD N o.dst:=hd o (List.mem_of_getElem? hi)
     rw [hi] at hK
     obtain ⟨d,op,ty,pos,after,gd⟩:=o
     cases gd with
     | some jw=>exact hK.elim
     | none =>
       simp only [a3b,nY] at hK
       obtain ⟨x,v,hx,hv,hrep⟩:=a1o (o:=⟨d,op,ty,pos,after,none⟩) hE h (ty:=ty) hK
       have inv1:tI X .any ops (max m (i+1)) listed:=⟨⟨inv.1.size,inv.1.closed,fun t ht ht'=>inv.1.tail t (by omega) ht'⟩,inv.2⟩
       have inv2:=inv1.set hr (by omega)
       have inv3:tI (i :: X) .any ops (max m (i+1)) (listed.setIfInBounds i true):=⟨inv2.1,fun x hx=>by
        rcases List.mem_cons.1 hx with rfl | hx
        · have hs:=inv.1.size
          simp [Array.getD,hs,hin]
        · exact inv2.2 x hx⟩
       refine a8p (v:=v) hia (Region.noSelect_spec hs) (fun c a w hq=>(hp _ _ _ hq).elim) (a5j ops.size r) listed a w (Region.free_spec hia b2) hr (.inl ⟨rfl,fun w' _=>?_⟩) (b3i hE hG hFn hs hp hQ hd r (i :: X) _ _ _ g _ w b4 inv3 (h.put hrep hdo) hF hx)
       unfold Oper.quietAt
       rw [hv w']
       exact ⟨rfl,rfl⟩
end Go.Ev
