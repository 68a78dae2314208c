import Derived.Test.YtdjlkhhgaaddpaaGreatLToldWalkD
set_option linter.unusedSectionVars false
namespace Go.Proofs.Tryz.Ev
open Go Go.Ev Go.Proofs
set_option maxHeartbeats 4000000
set_option maxRecDepth 100000
set_option linter.unusedSimpArgs false
set_option linter.unusedVariables false
set_option linter.unusedSectionVars false
theorem c5m {now next:Int} {S:List Stripe} (h:StV now next S) (hn:now≤2147483647) (hl:S.length≤3) (hh:∀i:Nat,i < S.length→-1≤(S[i]?.getD default).Held∧(S[i]?.getD default).Held≤4) (hb:∀x∈S,x.L.length≤1000000):nS S=true:=by
 have inner:∀(i:Nat) (hi:i < S.length) (L':List Trail) (j:Nat) (s:List Int),S[i].L.drop j=L'→(s++L'.map Trail.Stamp).Nodup→aJ (nH S i S[i]) j s L'=.fin (s++L'.map Trail.Stamp):=by
  intro i hi L'
  have hg:(S[i]?.getD default).L=S[i].L:=by rw [List.getElem?_eq_getElem hi];rfl
  induction L' with
  | nil=>intro j s _ _;simp [aJ]
  | cons t L' ih =>
    intro j s hd hnd
    have hj:j < S[i].L.length:=by
     have:=congrArg List.length hd
     rw [List.length_drop,List.length_cons] at this
     omega
    have htj:S[i].L[j]=t:=by
     have:=List.drop_eq_getElem_cons hj
     rw [hd] at this
     injection this with e _
     exact e.symm
    have hd2:S[i].L.drop (j+1)=L':=by
     have:=List.drop_eq_getElem_cons hj
     rw [hd] at this
     injection this with _ e
     exact e.symm
    have hm:t∈S[i].L:=by rw [←htj];exact List.getElem_mem hj
    have hmt:t∈bW S:=vO.2 ⟨i,hi,by rw [hg];exact hm⟩
    have htv:=(h.tv t hmt).1
    have hix:=h.ix i hi t (by rw [hg];exact hm)
    obtain ⟨i1,i2⟩:=mF h.ln t.Id
    have hst:eT t.Id ((S.length:Nat):Int)=((i:Nat):Int):=by rw [←zD,i2,hix]
    have hns:t.Stamp ∉ s:=by
     intro hs
     rw [List.nodup_append] at hnd
     exact hnd.2.2 t.Stamp hs t.Stamp (by rw [List.map_cons];exact List.mem_cons_self ..) rfl
    have e3:∃z,pR t S i j S[i]=.next z:=by
     unfold pR
     rw [d1i htv hn,Bool.not_true,cond_false,hst,show ((((i:Nat):Int)) != ((i:Nat):Int))=false by simp,cond_false]
     by_cases c:(((j:Nat):Int)) > 0
     · have hbl:=hb S[i] (List.getElem_mem hi)
       rw [decide_eq_true c,cond_true,Go.Ev.wrap_small (by omega) (by omega),show (((j:Nat):Int) - 1).toNat=j - 1 by omega,List.getElem?_eq_getElem (show j - 1 < S[i].L.length by omega)]
       have hp:=List.pairwise_iff_getElem.1 (hg ▸ h.so i) (j - 1) j (by omega) hj (by omega)
       rw [htj] at hp
       rw [decide_eq_false (show ¬((some S[i].L[j - 1]).getD default).Id≥t.Id by show ¬S[i].L[j - 1].Id≥t.Id;omega),cond_false]
       exact ⟨_,rfl⟩
     · rw [decide_eq_false c,cond_false]
       exact ⟨_,rfl⟩
    obtain ⟨z,e3⟩:=e3
    have e0:nH S i S[i] j s t=.next (s++[t.Stamp]):=by
     unfold nH
     rw [e3]
     show (bif fC s t.Stamp then _ else _)=_
     rw [c4x hns];rfl
    rw [aJ,e0]
    show aJ _ (j+1) (s++[t.Stamp]) L'=_
    rw [ih (j+1) (s++[t.Stamp]) hd2 (by rw [List.append_assoc];exact hnd),List.append_assoc];rfl
 have outer:∀(S':List Stripe) (i:Nat) (s:List Int),S.drop i=S'→(s++(S'.flatMap (fun x=>x.L)).map Trail.Stamp).Nodup→∃v,aJ (nI S) i s S'=.fin v:=by
  intro S'
  induction S' with
  | nil=>intro i s _ _;exact ⟨s,rfl⟩
  | cons a S' ih =>
    intro i s hd hnd
    have hi:i < S.length:=by
     have:=congrArg List.length hd
     rw [List.length_drop,List.length_cons] at this
     omega
    have hai:S[i]=a:=by
     have:=List.drop_eq_getElem_cons hi
     rw [hd] at this
     injection this with e _
     exact e.symm
    have hd2:S.drop (i+1)=S':=by
     have:=List.drop_eq_getElem_cons hi
     rw [hd] at this
     injection this with _ e
     exact e.symm
    have hh2:=hh i hi
    rw [List.getElem?_eq_getElem hi,hai] at hh2
    have hh2:-1≤a.Held∧a.Held≤4:=hh2
    rw [List.flatMap_cons,List.map_append,←List.append_assoc] at hnd
    have hin:=inner i hi S[i].L 0 s rfl (by
     rw [hai]
     exact (List.nodup_append.1 hnd).1)
    rw [hai] at hin
    have e0:nI S i s a=.next (s++a.L.map Trail.Stamp):=by
     unfold nI
     rw [jA.2 hh2,Bool.not_true,cond_false,hin];rfl
    rw [aJ,e0]
    exact ih (i+1) _ hd2 hnd
 unfold nS
 rw [jA.2 (by have:=h.ln;omega),Bool.not_true,cond_false]
 obtain ⟨v,e⟩:=outer S 0 [] rfl (by
  rw [List.nil_append,a7t];exact h.su)
 rw [e];rfl
theorem c8x {t:Task} {n:Nat} (hn:1≤n):fK t ((n:Nat):Int)=hS t n:=by
 unfold fK hS
 rw [decide_eq_false (by omega),cond_false]
 unfold oL jN oK
 rw [←zD,←zD]
 by_cases h1:t.Op=1
 · rw [show (t.Op==1)=true by simpa using h1,show (t.Op==2)=false by rw [h1];rfl]
   by_cases h2:t.Pc=1
   · rw [if_pos ⟨h1,h2⟩,show (t.Pc==1)=true by simpa using h2];rfl
   · rw [if_neg (fun q=>h2 q.2),show (t.Pc==1)=false by simpa using h2]
     by_cases h3:t.Pc=3
     · rw [if_pos (.inl ⟨h1,h3⟩),show (t.Pc==3)=true by simpa using h3];rfl
     · rw [if_neg (by
        rintro (⟨_,q⟩ | ⟨q,_⟩)
        · exact h3 q
        · rw [h1] at q;cases q),show (t.Pc==3)=false by simpa using h3];rfl
 · rw [show (t.Op==1)=false by simpa using h1,if_neg (fun q=>h1 q.1)]
   by_cases h2:t.Op=2
   · rw [show (t.Op==2)=true by simpa using h2]
     by_cases h3:t.Pc=1
     · rw [if_pos (.inr ⟨h2,.inl h3⟩),show (t.Pc==1)=true by simpa using h3];rfl
     · rw [show (t.Pc==1)=false by simpa using h3]
       by_cases h4:t.Pc=2
       · rw [if_pos (.inr ⟨h2,.inr h4⟩),show (t.Pc==2)=true by simpa using h4];rfl
       · rw [if_neg (by
          rintro (⟨q,_⟩ | ⟨_,q | q⟩)
          · exact h1 q
          · exact h3 q
          · exact h4 q),show (t.Pc==2)=false by simpa using h4];rfl
   · rw [show (t.Op==2)=false by simpa using h2,if_neg (by
      rintro (⟨q,_⟩ | ⟨q,_⟩)
      · exact h1 q
      · exact h2 q)];rfl
theorem c2q {t:Task}:kL t=true↔hR t:=by
 unfold kL hR
 cases h1:(t.Op==2) with
 | true=>rw [cond_true];exact ⟨fun q=>⟨by simpa using h1,by simpa using q⟩,fun q=>by simpa using q.2⟩
 | false=>rw [cond_false];exact ⟨fun q=>(by cases q),fun q=>(by rw [q.1] at h1;cases h1)⟩
theorem a2a {α:Type} {b:Nat→Unit→α→Step Unit Bool}:∀(l:List α) (i:Nat),(∀j (hj:j < l.length),b (i+j) () l[j]=.next ())→aJ b i () l=.fin ()
 | [],_,_=>rfl
 | a :: l,i,h=>by
   have h0:b i () a=.next ():=h 0 (Nat.zero_lt_succ _)
   rw [aJ,h0]
   exact a2a l (i+1) (fun j hj=>by
    have:=h (j+1) (Nat.succ_lt_succ hj)
    rw [show i+1+j=i+(j+1) by omega]
    exact this)
theorem c6y (l:List Attr):jE l l=true:=by
 unfold jE
 rw [a2a l 0 (fun j hj=>?_)]
 · simp [Fin.get]
 · unfold mX
   rw [Nat.zero_add,List.getElem?_eq_getElem hj]
   simp
theorem b8c (s:Span):jW s s=true:=by
 unfold jW
 rw [show (s.Trace==s.Trace)=true by simp,show (s.Id==s.Id)=true by simp,show (s.Start==s.Start)=true by simp,show (s.End==s.End)=true by simp,show (s.Err==s.Err)=true by simp,c6y];rfl
theorem d5j {next:Int} {D:List Deed} {k:Nat} {t:Task} (h:TX next D k t) (hd:TD D k t) (hk:k < 5):pK t ((k:Nat):Int)=true:=by
 have hp:=h.pc
 have hh:=h.hh
 unfold pK
 rw [jA.2 (show (0:Int)≤((k:Nat):Int)∧((k:Nat):Int)≤4 by omega),jA.2 (show 0≤t.Pc∧t.Pc≤3 by omega),decide_eq_false (by omega:¬t.H < 0)]
 show Step.get _ (lO t _)=true
 rcases h.op with o | o | o
 · have:=h.no o
   subst this
   rfl
 · obtain ⟨o1,o2,_⟩:=h.of o
   have hn:t.Hand=[]:=by
    cases e:t.Hand with
    | nil=>rfl
    | cons a l =>
      have:=(hd.hand (by rw [e];simp)).1
      omega
   have e1:lO t ((k:Nat):Int)=.next (true,false):=by
    unfold lO
    rw [show (t.Op==1)=true by simpa using o,show (t.Op==2)=false by rw [o];rfl,decide_eq_true (by omega:((k:Nat):Int) < 3)];rfl
   rw [e1,←uL,o2,hn,show (t.Op==0)=false by rw [o];rfl]
   show Step.get _ (iL t)=true
   by_cases c:t.Pc=3
   · obtain ⟨c1,c2,_⟩:=h.o3 o c
     have e2:∃z,iL t=.next z:=by
      unfold iL
      cases (t.Trace==0)
      · exact ⟨_,rfl⟩
      · exact ⟨_,rfl⟩
     obtain ⟨z,e2⟩:=e2
     have e3:gY t=.next true:=by
      unfold gY
      rw [jA.2 c1,cond_true,decide_eq_true (by omega:t.Stamp≥1)]
     rw [e2]
     show Step.get _ (gY t)=true
     rw [e3,show (t.Pc==3)=true by simpa using c];rfl
   · obtain ⟨c1,c2⟩:=h.on o c
     have e2:iL t=.next true:=by
      unfold iL
      rw [c1,c2];rfl
     have e3:∃z,gY t=.next z:=by
      unfold gY
      cases aM t.Trace 1 999
      · exact ⟨_,rfl⟩
      · exact ⟨_,rfl⟩
     obtain ⟨z,e3⟩:=e3
     rw [e2]
     show Step.get _ (gY t)=true
     rw [e3,show (t.Pc==3)=false by simpa using c,show (t.Pc != 3)=true by simpa using c];rfl
 · obtain ⟨o1,o2,o3,o4,_⟩:=h.ju o
   have e1:lO t ((k:Nat):Int)=.next (false,true):=by
    unfold lO
    rw [show (t.Op==2)=true by simpa using o,show (t.Op==1)=false by rw [o];rfl,decide_eq_true (by omega:((k:Nat):Int)≥3)];rfl
   have e2:∃z,iL t=.next z:=by
    unfold iL
    cases (t.Trace==0)
    · exact ⟨_,rfl⟩
    · exact ⟨_,rfl⟩
   obtain ⟨z,e2⟩:=e2
   have e3:gY t=.next true:=by
    unfold gY
    rw [jA.2 o3,cond_true,decide_eq_true (by omega:t.Stamp≥1)]
   have e4:uO t=true:=by
    unfold uO
    rw [a2a t.Hand 0 (fun j hj=>?_)]
    · show ((t.Pc==3)==(decide ((((t.Hand).length:Nat):Int) > 0)))=true
      by_cases c:t.Pc=3
      · have:=List.length_pos_iff.2 (h.hd o c)
        rw [decide_eq_true (by omega),show (t.Pc==3)=true by simpa using c];rfl
      · have:t.Hand=[]:=by
         cases e:t.Hand with
         | nil=>rfl
         | cons a l =>
           have:=(hd.hand (by rw [e];simp)).2
           omega
        rw [this,show (t.Pc==3)=false by simpa using c];rfl
    · have:=h.hi _ (List.getElem_mem hj)
      unfold xP rG
      rw [←uL,this.1.2,decide_eq_true (show t.Hand[j].Stamp≥1 from this.1.1),show (t.Hand[j].Stamp != t.Stamp)=false by simp [this.2]];rfl
   rw [e1,show (t.Op==0)=false by rw [o];rfl,e4,o2]
   show Step.get _ (iL t)=true
   rw [e2]
   show Step.get _ (gY t)=true
   rw [e3]
   show (bif jW c3l c3l then true else false)=true
   rw [b8c];rfl
theorem c9i {w:World} {next:Int} {k:Nat} (h:TX next w.Deeds k (w.Tasks[k]?.getD default)) (hd:TD w.Deeds k (w.Tasks[k]?.getD default)) (ho:(w.Tasks[k]?.getD default).Op≠0):mT w ((k:Nat):Int)=true:=by
 have hp:=h.pc
 have ho:(w.Tasks[k]?.getD default).Op=1∨(w.Tasks[k]?.getD default).Op=2:=by have:=h.op;omega
 obtain ⟨d1,d2,d3,d4,d5⟩:=hd.own ho
 have d6:=h.dr ho
 unfold mT sY sX
 rw [Int.toNat_natCast,decide_eq_false (by omega),cond_false,d4,d3,d6]
 rcases ho with o | o
 · rw [h.ds o,b8c,o,d5 (.inl o)]
   simp [Step.get]
 · obtain ⟨t1,t2⟩:=h.dt o
   rw [t1,t2,o]
   by_cases c:(w.Tasks[k]?.getD default).Pc=3
   · have:=h.dl o c
     rw [c]
     simp [Step.get,this]
   · rw [d5 (by omega)]
     simp [Step.get,c]
structure SeV (n:Nat) (T:List Task) (k:Nat) (s:List Int×Int):Prop where
 ln:s.1.length=n
 a1:∀j:Nat,j < k→0≤hS (T[j]?.getD default) n→s.1[(hS (T[j]?.getD default) n).toNat]?.getD default=(j:Int)
 a2:∀i:Nat,i < n→s.1[i]?.getD default=-1∨∃j:Nat,j < k∧s.1[i]?.getD default=(j:Int)∧hS (T[j]?.getD default) n=(i:Int)
 b1:∀j:Nat,j < k→hR (T[j]?.getD default)→s.2=(j:Int)
 b2:s.2=-1∨∃j:Nat,j < k∧s.2=(j:Int)∧hR (T[j]?.getD default)
theorem d1l {w:World} {next:Int} (hT:w.Tasks.length=5) (hn:1≤w.St.length∧w.St.length≤16) (htx:∀k,k < 5→TX next w.Deeds k (w.Tasks[k]?.getD default)) (htd:∀k,k < 5→TD w.Deeds k (w.Tasks[k]?.getD default)) (hlk:LkV w.St.length (fun i=>(w.St[i]?.getD default).Held) w.Tasks w.RuleHeld):qB w=true:=by
 have lt:∀t:Task,hS t w.St.length < ((w.St.length:Nat):Int):=fun t=>by
  have h1:=mF hn t.S.Trace
  have h2:=mF hn t.Trace
  unfold hS
  split
  · omega
  · split <;> omega
 have step:∀(k:Nat) (hk:k < 5) (s:List Int×Int),SeV w.St.length w.Tasks k s→∃s',kZ w k s (w.Tasks[k]?.getD default)=.next s'∧SeV w.St.length w.Tasks (k+1) s':=by
  intro k hk s h
  have e3:∃z,rU (w.Tasks[k]?.getD default) k w=.next z:=by
   unfold rU
   rw [d5j (htx k hk) (htd k hk) hk]
   by_cases c:(w.Tasks[k]?.getD default).Op=0
   · rw [show ((w.Tasks[k]?.getD default).Op != 0)=false by simp [c]]
     exact ⟨_,rfl⟩
   · rw [show ((w.Tasks[k]?.getD default).Op != 0)=true by simpa using c,c9i (htx k hk) (htd k hk) c]
     exact ⟨_,rfl⟩
  obtain ⟨z,e3⟩:=e3
  have e4:∃L,kY (w.Tasks[k]?.getD default) w s k=.next L∧L.length=w.St.length∧(∀j:Nat,j < k+1→0≤hS (w.Tasks[j]?.getD default) w.St.length→L[(hS (w.Tasks[j]?.getD default) w.St.length).toNat]?.getD default=(j:Int))∧(∀i:Nat,i < w.St.length→L[i]?.getD default=-1∨∃j:Nat,j < k+1∧L[i]?.getD default=(j:Int)∧hS (w.Tasks[j]?.getD default) w.St.length=(i:Int)):=by
   unfold kY
   rw [c8x hn.1]
   by_cases c:hS (w.Tasks[k]?.getD default) w.St.length≥0
   · have hl:=lt (w.Tasks[k]?.getD default)
     have hq:s.1[(hS (w.Tasks[k]?.getD default) w.St.length).toNat]?.getD default=-1:=by
      rcases h.a2 (hS (w.Tasks[k]?.getD default) w.St.length).toNat (by omega) with q | ⟨j,hj,q1,q2⟩
      · exact q
      · have r1:=hlk.l1 j (by omega) (by omega)
        have r2:=hlk.l1 k hk c
        rw [q2,Int.toNat_natCast] at r1
        have r1:(w.St[(hS (w.Tasks[k]?.getD default) w.St.length).toNat]?.getD default).Held=(j:Int):=r1
        have r2:(w.St[(hS (w.Tasks[k]?.getD default) w.St.length).toNat]?.getD default).Held=(k:Int):=r2
        omega
     rw [decide_eq_true c,cond_true,hq]
     refine ⟨_,rfl,by rw [List.length_set];exact h.ln,fun j hj hj0=>?_,fun i hi=>?_⟩
     · rw [dT]
       by_cases d:(hS (w.Tasks[k]?.getD default) w.St.length).toNat=(hS (w.Tasks[j]?.getD default) w.St.length).toNat
       · rw [if_pos ⟨d,by rw [h.ln];omega⟩]
         have r1:=hlk.l1 j (by omega) hj0
         have r2:=hlk.l1 k hk c
         rw [d] at r2
         rw [←r1,←r2]
       · rw [if_neg (fun q=>d q.1)]
         by_cases hjk:j=k
         · subst hjk;exact absurd rfl d
         · exact h.a1 j (by omega) hj0
     · rw [dT]
       by_cases d:(hS (w.Tasks[k]?.getD default) w.St.length).toNat=i
       · rw [if_pos ⟨d,by rw [h.ln];omega⟩]
         exact .inr ⟨k,by omega,rfl,by omega⟩
       · rw [if_neg (fun q=>d q.1)]
         rcases h.a2 i hi with q | ⟨j,hj,q1,q2⟩
         · exact .inl q
         · exact .inr ⟨j,by omega,q1,q2⟩
   · rw [decide_eq_false c,cond_false]
     refine ⟨_,rfl,h.ln,fun j hj hj0=>?_,fun i hi=>?_⟩
     · by_cases hjk:j=k
       · subst hjk;exact absurd hj0 c
       · exact h.a1 j (by omega) hj0
     · rcases h.a2 i hi with q | ⟨j,hj,q1,q2⟩
       · exact .inl q
       · exact .inr ⟨j,by omega,q1,q2⟩
  obtain ⟨L,e4,L1,L2,L3⟩:=e4
  unfold kZ
  rw [e3]
  show ∃s',Step.get _ (kY (w.Tasks[k]?.getD default) w s k)=_∧_
  rw [e4]
  show ∃s',(bif kL (w.Tasks[k]?.getD default) then (bif s.2 != -1 then _ else _) else _)=_∧_
  by_cases c:hR (w.Tasks[k]?.getD default)
  · have hq:s.2=-1:=by
     rcases h.b2 with q | ⟨j,hj,q1,q2⟩
     · exact q
     · have r1:=hlk.r1 j (by omega) q2
       have r2:=hlk.r1 k hk c
       omega
    rw [c2q.2 c,hq]
    refine ⟨_,rfl,L1,L2,L3,fun j hj hr=>?_,.inr ⟨k,by omega,rfl,c⟩⟩
    have r1:=hlk.r1 j (by omega) hr
    have r2:=hlk.r1 k hk c
    show ((k:Nat):Int)=_
    omega
  · rw [show kL (w.Tasks[k]?.getD default)=false from (by
     cases q:kL (w.Tasks[k]?.getD default) with
     | true=>exact absurd (c2q.1 q) c
     | false=>rfl)]
    refine ⟨_,rfl,L1,L2,L3,fun j hj hr=>?_,?_⟩
    · by_cases hjk:j=k
      · subst hjk;exact absurd hr c
      · exact h.b1 j (by omega) hr
    · rcases h.b2 with q | ⟨j,hj,q1,q2⟩
      · exact .inl q
      · exact .inr ⟨j,by omega,q1,q2⟩
 have run:∀(T':List Task) (k:Nat) (s:List Int×Int),w.Tasks.drop k=T'→k+T'.length=5→SeV w.St.length w.Tasks k s→∃s',aJ (kZ w) k s T'=.fin s'∧SeV w.St.length w.Tasks 5 s':=by
  intro T'
  induction T' with
  | nil=>intro k s _ hk h;exact ⟨s,rfl,by rw [show (5:Nat)=k by simpa using hk.symm];exact h⟩
  | cons a T' ih =>
    intro k s hd hk h
    have hk5:k < 5:=by rw [List.length_cons] at hk;omega
    have hd2:=List.drop_eq_getElem_cons (show k < w.Tasks.length by omega)
    rw [hd] at hd2
    injection hd2 with e1 e2
    obtain ⟨s',e,h'⟩:=step k hk5 s h
    rw [List.getElem?_eq_getElem (show k < w.Tasks.length by omega)] at e
    have e:kZ w k s w.Tasks[k]=.next s':=e
    rw [←e1] at e
    rw [aJ,e]
    exact ih (k+1) s' e2.symm (by rw [List.length_cons] at hk;omega) h'
 have hset:=b5m w.St [] (List.replicate w.St.length 0) (by simp)
 rw [List.nil_append,List.nil_append] at hset
 obtain ⟨s',e,h⟩:=run w.Tasks 0 (List.replicate w.St.length (-1),-1) rfl (by rw [hT]) ⟨by simp,fun j hj=>absurd hj (Nat.not_lt_zero j),fun i hi=>.inl (by simp [hi]),fun j hj=>absurd hj (Nat.not_lt_zero j),.inl rfl⟩
 unfold qB
 rw [hT,show (((5:Nat):Int) != 5)=false from rfl,cond_false]
 have hset:aJ pD 0 (List.replicate w.St.length 0) w.St=.fin (List.replicate w.St.length (-1)):=hset
 rw [hset]
 show Fin.get _ (aJ (kZ w) 0 (List.replicate w.St.length (-1),-1) w.Tasks)=true
 rw [e]
 show Fin.get _ (aJ (rV s') 0 () w.St)=true
 rw [a2a w.St 0 (fun i hi=>?_)]
 · show (w.RuleHeld==s'.2)=true
   have:w.RuleHeld=s'.2:=by
    rcases h.b2 with q | ⟨j,hj,q1,q2⟩
    · rcases hlk.r2 with r | ⟨k,hk,r1,r2⟩
      · omega
      · have:=h.b1 k hk r2
        omega
    · have:=hlk.r1 j hj q2
      omega
   simpa using this
 · have:w.St[i].Held=s'.1[i]?.getD default:=by
    have hg:(w.St[i]?.getD default).Held=w.St[i].Held:=by rw [List.getElem?_eq_getElem hi];rfl
    rcases h.a2 i hi with q | ⟨j,hj,q1,q2⟩
    · rcases hlk.l2 i hi with r | ⟨k,hk,r1,r2⟩
      · have r:(w.St[i]?.getD default).Held=-1:=r
        omega
      · have:=h.a1 k hk (by omega)
        rw [r2,Int.toNat_natCast] at this
        omega
    · have:=hlk.l1 j hj (by omega)
      rw [q2,Int.toNat_natCast] at this
      have this:(w.St[i]?.getD default).Held=(j:Int):=this
      omega
   unfold rV
   rw [Nat.zero_add,this,show ((s'.1[i]?.getD default) != (s'.1[i]?.getD default))=false by simp,cond_false]
theorem c7w {w:World} {now:Int} (hn:1≤w.Next) (hT:w.Tasks.length=5) (hs:StV now w.Next w.St) (hk:KnV w.Next w.St w.W w.Due w.Tasks) (hc:CaV w.Next w.C.Cache w.Cache) (htx:∀k,k < 5→TX w.Next w.Deeds k (w.Tasks[k]?.getD default)):mZ w=true:=by
 have tg:∀t∈w.Tasks,∃k,k < 5∧w.Tasks[k]?.getD default=t:=fun t ht=>by
  obtain ⟨k,hk,e⟩:=List.getElem_of_mem ht
  exact ⟨k,by omega,by rw [List.getElem?_eq_getElem hk];exact e⟩
 rw [c5r,a7t,←uK,Bool.and_eq_true,Bool.not_eq_true']
 constructor
 · rw [List.all_eq_true]
   intro t ht
   rw [List.any_eq_true]
   rcases hk.kn t ht with ⟨x,hx,h1,h2⟩ | ⟨k,hk,h1,h2,h3,h4⟩
   · exact ⟨x,List.mem_append_left _ hx,by unfold jL;rw [h1,h2];simp⟩
   · have hkl:k < w.Tasks.length:=by omega
     rw [List.getElem?_eq_getElem hkl] at h1 h2 h3 h4
     have h1:w.Tasks[k].Op=2:=h1
     have h2:w.Tasks[k].Pc≠3:=h2
     refine ⟨Timer.mk w.Tasks[k].Stamp w.Tasks[k].Trace 0,List.mem_append_right _ (List.mem_flatMap.2 ⟨w.Tasks[k],List.getElem_mem hkl,?_⟩),?_⟩
     · unfold b7x
       rw [show (w.Tasks[k].Op==2)=true by simpa using h1,show (w.Tasks[k].Pc != 3)=true by simpa using h2]
       exact List.mem_singleton.2 rfl
     · unfold jL
       rw [show (Timer.mk w.Tasks[k].Stamp w.Tasks[k].Trace 0).Id=t.Stamp from h3,show (Timer.mk w.Tasks[k].Stamp w.Tasks[k].Trace 0).Trace=t.Id from h4]
       simp
 · refine a7s (fun x hx=>decide_eq_false ?_)
   rcases List.mem_append.1 hx with hx | hx
   · rcases List.mem_append.1 hx with hx | hx
     · rcases List.mem_append.1 hx with hx | hx
       · obtain ⟨a,ha,rfl⟩:=List.mem_map.1 hx
         have:=hk.ti a ha;omega
       · obtain ⟨a,ha,rfl⟩:=List.mem_map.1 hx
         have:=hc.v a ha;omega
     · obtain ⟨a,ha,rfl⟩:=List.mem_map.1 hx
       obtain ⟨k,hk5,rfl⟩:=tg a ha
       have h:=htx k hk5
       rcases h.op with o | o | o
       · rw [h.no o];show ¬(0:Int)≥_;omega
       · by_cases c:(w.Tasks[k]?.getD default).Pc=3
         · have:=h.o3 o c;omega
         · have:=h.on o c;omega
       · have:=h.ju o;omega
   · obtain ⟨a,ha,rfl⟩:=List.mem_map.1 hx
     have:=(hs.tv a ha).1.st;omega
theorem d6y {c:Conf} {tm:Int} {d:Deed} (h:DeV c tm d):nL d=true∧¬max (max d.Inv d.Lin) d.Res≥tm:=by
 have h1:=h.op
 have h2:=h.nn
 have h3:=h.iv
 have h4:=h.li
 have h5:=h.re
 refine ⟨?_,by omega⟩
 have e1:tW d=.next ():=by
  unfold tW xS
  by_cases c1:d.Op=1
  · by_cases c2:d.Lin=-1
    · rw [show (d.Op==1)=true by simpa using c1,show (d.Lin != (-1))=false by simp [c2],show (d.Code != 0)=false by simp [h.c0 (.inr c2)]];rfl
    · rw [show (d.Op==1)=true by simpa using c1,show (d.Lin != (-1))=true by simpa using c2,jA.2 (h.c1 c1 c2).1];rfl
  · rw [show (d.Op==1)=false by simpa using c1,show (d.Code != 0)=false by simp [h.c0 (.inl c1)]];rfl
 unfold nL
 rw [jA.2 h1,decide_eq_false (by omega:¬d.Inv < 0),decide_eq_false (by omega:¬min (min (min d.Took d.N) d.Forgot) d.Now < 0),e1]
 show (bif d.Lin==(-1) then _ else _)=true
 rcases h4 with q | q
 · rcases h5 with r | r
   · rw [show (d.Lin==(-1))=true by simpa using q,show (d.Res==(-1))=true by simpa using r];rfl
   · exact absurd q r.1
 · have hl:¬d.Lin=-1:=by omega
   rw [show (d.Lin==(-1))=false by simpa using hl,decide_eq_true (by omega:d.Lin≥d.Inv)]
   rcases h5 with r | r
   · rw [show (d.Res==(-1))=true by simpa using r];rfl
   · rw [show (d.Lin != (-1))=true by simpa using hl,decide_eq_true (by omega:d.Res≥d.Lin)]
     cases (d.Res==(-1)) <;> rfl
theorem c5l {w:World} {n:Nat} (hw:WI 751000 w) (hc:CB n 0 w) (h:WV n w.Time w):oE w=true:=by
 have hco:=wH h.c
 have hsn:=h.sn
 have hnow:=h.now
 have hnx:=h.nx
 have htm:=hc.tm
 have hbu:=h.bu
 have hus:=h.us
 rw [c8w,←c1z,←b9e,←uK]
 refine ⟨h.c,by omega,jA.2 ?_,by omega,c5m h.st (by omega) (by omega) (fun i hi=>?_) (fun x hx=>?_),h.sn,yJ.2 ⟨h.kn.wh,h.kn.un⟩,by omega,fun q=>?_,hbu.ok h.c (by omega),hbu.ra,hbu.bu,?_,d4d h.ca,?_,by omega,by have:=h.qu.1;omega,c3b h.qu.2.1,c3b h.qu.2.2,?_,?_,d1l hc.tl h.st.ln h.tx hc.tk h.lk,c7w hnx.1 hc.tl h.st h.kn h.ca h.tx⟩
 · rcases h.lk.r2 with e | ⟨k,hk,e,_⟩ <;> omega
 · rcases h.lk.l2 i hi with e | ⟨k,hk,e,_⟩
   · have e:(w.St[i]?.getD default).Held=-1:=e
     omega
   · have e:(w.St[i]?.getD default).Held=(k:Int):=e
     omega
 · have:=(hw.s.2 x hx).1
   exact Nat.le_trans this (by decide)
 · rw [h.sh q];decide
 · have:=hbu.at';omega
 · rw [d6k h.st (b:=w.Used) (by omega) (by omega)];exact hus.1
 · rw [List.all_eq_true]
   intro x hx
   have:=h.kn.ti x (List.mem_append_right _ hx)
   rw [decide_eq_false (by omega:¬x.Id < 1),jA.2 (by omega)];rfl
 · rw [List.all_eq_true]
   intro x hx
   obtain ⟨e1,e2⟩:=d6y (h.de x hx)
   rw [e1,decide_eq_false e2];rfl
def cdK (k:Int) (d:Deed):Int:=bif d.Op==1 then (bif d.Lin != (-1) then (bif d.Code==k then 1 else 0) else 0) else 0
def cdA (d:Deed):Int:=bif d.Op != 1 then 0 else bif d.Lin==(-1) then 0 else 1
theorem a1e (l:List Deed) (k:Int):jD l k=IntKind.i64.wrap (0+aY (cdK k) l):=by
 unfold jD
 rw [xC (f:=cdK k) (b:=vB k) l 0 0 (Go.Ev.wrap_small (by omega) (by omega)) (fun i s a _ hs=>by
  unfold vB cdK
  cases (a.Op==1) <;> cases (a.Lin != (-1)) <;> cases (a.Code==k) <;> simp only [cond_true,cond_false,Int.add_zero,hs])]
 rfl
theorem c6v {c:Conf} {tm:Int}:∀(l:List Deed),(∀d∈l,DeV c tm d)→aY (cdK 1) l+aY (cdK 2) l+aY (cdK 3) l+aY (cdK 4) l+aY (cdK 5) l=aY cdA l∧(0≤aY (cdK 1) l∧0≤aY (cdK 2) l∧0≤aY (cdK 3) l∧0≤aY (cdK 4) l∧0≤aY (cdK 5) l)∧aY cdA l≤((l.length:Nat):Int)
 | [],_=>⟨rfl,by decide,by decide⟩
 | a :: l,h=>by
   have ih:=c6v l (fun d hd=>h d (List.mem_cons_of_mem _ hd))
   have ha:cdK 1 a+cdK 2 a+cdK 3 a+cdK 4 a+cdK 5 a=cdA a∧(0≤cdK 1 a∧0≤cdK 2 a∧0≤cdK 3 a∧0≤cdK 4 a∧0≤cdK 5 a)∧cdA a≤1:=by
    unfold cdK cdA
    by_cases o:a.Op=1
    · by_cases q:a.Lin=-1
      · rw [o,q];show ((0:Int)+0+0+0+0=0)∧((0:Int)≤0∧(0:Int)≤0∧(0:Int)≤0∧(0:Int)≤0∧(0:Int)≤0)∧(0:Int)≤1;decide
      · have h1:=((h a (List.mem_cons_self ..)).c1 o q).1
        rw [show (a.Op==1)=true by simpa using o,show (a.Lin != (-1))=true by simpa using q,show (a.Op != 1)=false by simp [o],show (a.Lin==(-1))=false by simpa using q]
        have:a.Code=1∨a.Code=2∨a.Code=3∨a.Code=4∨a.Code=5:=by omega
        rcases this with e | e | e | e | e <;> rw [e] <;> decide
    · rw [show (a.Op==1)=false by simpa using o,show (a.Op != 1)=true by simpa using o];show ((0:Int)+0+0+0+0=0)∧((0:Int)≤0∧(0:Int)≤0∧(0:Int)≤0∧(0:Int)≤0∧(0:Int)≤0)∧(0:Int)≤1;decide
   have e:∀f:Deed→Int,aY f (a :: l)=f a+aY f l:=fun _=>rfl
   rw [e,e,e,e,e,e,List.length_cons]
   omega
theorem c7g (p0:List Int):oD p0=true:=by
 unfold oD
 cases hb:xN p0 with
 | true=>rfl
 | false =>
   rw [cond_false]
   obtain ⟨hw,n,_,hc,hv⟩:=d6v (c1d hb)
   have hok:=c5l hw hc hv
   have hl:(aW p0).Deeds.length≤751000:=hw.db.1
   have hde:=hv.de
   obtain ⟨c1,⟨c2,c3,c4,c5,c6⟩,c7⟩:=c6v _ hde
   rw [xC (f:=cdA) (b:=oJ p0) _ 0 0 (Go.Ev.wrap_small (by omega) (by omega)) (fun i s a ha hs=>?_),Go.Ev.wrap_small (by omega) (by omega)]
   · have st:∀(s k:Int),1≤k→k≤5→eM p0 (s,k)=.next (IntKind.i64.wrap (s+jD (aW p0).Deeds k),k+1):=fun s k h1 h2=>by
      unfold eM
      rw [decide_eq_true h2,cond_true,Go.Ev.wrap_small (n:=k+1) (by omega) (by omega)]
     have e6:∀s:Int,eM p0 (s,6)=.stop (s,6):=fun s=>rfl
     have q1:jD (aW p0).Deeds 1=aY (cdK 1) (aW p0).Deeds:=by rw [a1e,Go.Ev.wrap_small (by omega) (by omega)];omega
     have q2:jD (aW p0).Deeds 2=aY (cdK 2) (aW p0).Deeds:=by rw [a1e,Go.Ev.wrap_small (by omega) (by omega)];omega
     have q3:jD (aW p0).Deeds 3=aY (cdK 3) (aW p0).Deeds:=by rw [a1e,Go.Ev.wrap_small (by omega) (by omega)];omega
     have q4:jD (aW p0).Deeds 4=aY (cdK 4) (aW p0).Deeds:=by rw [a1e,Go.Ev.wrap_small (by omega) (by omega)];omega
     have q5:jD (aW p0).Deeds 5=aY (cdK 5) (aW p0).Deeds:=by rw [a1e,Go.Ev.wrap_small (by omega) (by omega)];omega
     rw [Fin.get_fin]
     show Fin.get _ (eP (eM p0) 5 (0,1))=true
     rw [eP,st 0 1 (by omega) (by omega),q1,Go.Ev.wrap_small (by omega) (by omega)]
     show Fin.get _ (eP (eM p0) 4 (_,2))=true
     rw [eP,st _ 2 (by omega) (by omega),q2,Go.Ev.wrap_small (by omega) (by omega)]
     show Fin.get _ (eP (eM p0) 3 (_,3))=true
     rw [eP,st _ 3 (by omega) (by omega),q3,Go.Ev.wrap_small (by omega) (by omega)]
     show Fin.get _ (eP (eM p0) 2 (_,4))=true
     rw [eP,st _ 4 (by omega) (by omega),q4,Go.Ev.wrap_small (by omega) (by omega)]
     show Fin.get _ (eP (eM p0) 1 (_,5))=true
     rw [eP,st _ 5 (by omega) (by omega),q5,Go.Ev.wrap_small (by omega) (by omega)]
     show Fin.get _ (eP (eM p0) 0 (_,6))=true
     rw [eP,e6]
     show (bif oE (aW p0) then (bif _==_ then _ else _) else _)=true
     rw [hok,show (0+aY (cdK 1) (aW p0).Deeds+aY (cdK 2) (aW p0).Deeds+aY (cdK 3) (aW p0).Deeds+aY (cdK 4) (aW p0).Deeds+aY (cdK 5) (aW p0).Deeds)=0+aY cdA (aW p0).Deeds by omega,show ((0+aY cdA (aW p0).Deeds)==(0+aY cdA (aW p0).Deeds))=true by simp]
     rfl
   · unfold oJ cdA
     by_cases o:a.Op=1
     · rw [show (a.Op != 1)=false by simp [o],cond_false,cond_false]
       by_cases q:a.Lin=-1
       · rw [show (a.Lin==(-1))=true by simpa using q,cond_true,cond_true,Int.add_zero,hs]
       · rw [show (a.Lin==(-1))=false by simpa using q,cond_false,cond_false]
         obtain ⟨d1,d2,d3⟩:=(hde a ha).c1 o q
         have hf:wC (aW p0).C a.S=iA (aW p0).C a.S:=by
          unfold wC iA
          rw [uL,a2w]
         have h5:((a.Code==5)==wC (aW p0).C a.S)=false:=by
          rw [hf]
          by_cases c:a.Code=5
          · rw [d2.1 c,show (a.Code==5)=true by simpa using c];rfl
          · cases hq:iA (aW p0).C a.S with
            | true=>rw [show (a.Code==5)=false by simpa using c];rfl
            | false=>exact absurd (d2.2 hq) c
         have e2:∃x1 x2 x3 x4 x5,oI a p0=.next (x1,x2,x3,x4,x5,false):=by
          unfold oI
          rw [h5,cond_false]
          by_cases k1:a.Code=1
          · have:=d3.1 (.inl k1)
            rw [show (a.Code==1)=true by simpa using k1,decide_eq_true (by omega:a.Stamp≥1)]
            exact ⟨_,_,_,_,_,rfl⟩
          · rw [show (a.Code==1)=false by simpa using k1]
            by_cases k2:a.Code=2
            · have:=d3.1 (.inr (.inl k2))
              rw [show (a.Code==2)=true by simpa using k2,decide_eq_true (by omega:a.Stamp≥1)]
              exact ⟨_,_,_,_,_,rfl⟩
            · rw [show (a.Code==2)=false by simpa using k2]
              by_cases k3:a.Code=3
              · have:=d3.1 (.inr (.inr k3))
                rw [show (a.Code==3)=true by simpa using k3,decide_eq_true (by omega:a.Stamp≥1)]
                exact ⟨_,_,_,_,_,rfl⟩
              · have:¬1≤a.Stamp:=fun h=>by have:=d3.2 h;omega
                rw [show (a.Code==3)=false by simpa using k3,decide_eq_false (by omega:¬a.Stamp≥1)]
                exact ⟨_,_,_,_,_,rfl⟩
         obtain ⟨x1,x2,x3,x4,x5,e2⟩:=e2
         rw [e2];rfl
     · rw [show (a.Op != 1)=true by simpa using o,cond_true,cond_true,Int.add_zero,hs]
theorem b6s (p0:List Int):oD p0=true:=c7g p0
theorem c2r {α:Type} (f:α→List T) (W:α→Prop):∀rows:List (List T),(∀r∈rows,∃x,r=f x∧W x)→∃l:List α,rows=l.map f∧∀x∈l,W x
 | [],_=>⟨[],rfl,by simp⟩
 | r :: rows,h=>by
   obtain ⟨x,hx,hw⟩:=h r (by simp)
   obtain ⟨l,hl,hw'⟩:=c2r f W rows (fun r hr=>h r (by simp [hr]))
   exact ⟨x :: l,by simp [hx,hl],fun y hy=>by rcases List.mem_cons.1 hy with rfl | hy;exact hw;exact hw' y hy⟩
theorem c7z {α:Type} (f:α→List T) {P:Nat→α→Prop} (W:α→Prop) (hW:W=P 9223372036854775807) {n t e k:Nat} (ht:prog.underlying t=some (.slice e)) (hk:prog.cellsOf e=k) {y:List T} (h:pG prog (n+1) t y) (hr:∀r,pG prog n e r→∃x,r=f x∧W x) :
 ∃l:List α,y=[.s false k (l.map f)]∧bdS P 9223372036854775807 l:=by
 subst hW
 unfold pG at h
 rw [ht] at h
 obtain ⟨rows,h1,h2,h3⟩:=h
 rw [hk] at h1
 obtain ⟨l,rfl,hw⟩:=c2r f _ rows (fun r hr'=>hr r (h3 r hr').2)
 exact ⟨l,h1,by simpa [maxLen] using h2,hw⟩
theorem d5q (n:Nat) {l:List T} (h:pG prog n 5 l):∃x:Int,l=[.v (.int .u8 x)]∧True:=by
 cases n with
 | zero=>exact (h:False).elim
 | succ n =>
   simp only [pG,underlying5] at h
   obtain ⟨x,hx,_⟩:=h
   exact ⟨x,hx,trivial⟩
theorem d2s (n:Nat) {l:List T} (h:pG prog n 22 l):∃x:(List Int),l=[.s false 1 (List.map cU8 x)]∧bdS (fun _ _=>True) 9223372036854775807 x:=by
 cases n with
 | zero=>exact (h:False).elim
 | succ n =>
   exact c7z cU8 (P:=(fun _ _=>True)) _ rfl underlying22 (by kernel_rfl) h (fun r hr=>d5q n hr)
theorem d7t {n:Nat} {y:T} (h:pG prog n 22 [y]):∃x:(List Int),y=.s false 1 (List.map cU8 x)∧bdS (fun _ _=>True) 9223372036854775807 x:=by
 obtain ⟨x,hx,hw⟩:=d2s n h
 exact ⟨x,by simpa using hx,hw⟩
theorem d7n (p0:(List Int)) (h0:bdS (fun _ _=>True) 9223372036854775807 p0):FnOk prog 3 [.one (.s false 1 (List.map cU8 p0))] ⟨.one (.v (.bool true)),[],[],false⟩ :=
 FnOk.fits ⟨_,func3,by kernel_rfl,by kernel_rfl⟩ (fun hf=>by
  have h:=a7k p0
  rw [b6s p0] at h
  exact h)
end Go.Proofs.Tryz.Ev
