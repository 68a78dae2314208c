import Derived.Test.YtdjlkhhgaaddpaaGreatLToldWalkC
set_option linter.unusedSectionVars false
namespace Go.Proofs.Tryz.Ev
open Go Go.Ev Go.Proofs
set_option maxHeartbeats 4000000
set_option maxRecDepth 100000
set_option linter.unusedSimpArgs false
set_option linter.unusedVariables false
set_option linter.unusedSectionVars false
theorem d3w {n m:Nat} {w:World} {k:Int} (h:WV n w.Time w) (hcb:CB n 0 w) (hw:WI m w) (hm:m≤880000) (hk:k.toNat < 5) (ho:(w.Tasks[k.toNat]?.getD default).Op=1) (hp:(w.Tasks[k.toNat]?.getD default).Pc=3):DR n w (gK w k):=by
 have h':WV (n+1) (w.Time+1) w:=h.later (Nat.le_succ n) (by omega)
 have hnow:=h.now
 have htm:=hcb.tm
 have no0:∀{q:(w.Tasks[k.toNat]?.getD default).Op=0},False:=fun {q}=>by rw [q] at ho;cases ho
 have no2:∀{q:(w.Tasks[k.toNat]?.getD default).Op=2},False:=fun {q}=>by rw [q] at ho;cases ho
 have hhand:(w.Tasks[k.toNat]?.getD default).Hand=[]:=by
  by_cases c:(w.Tasks[k.toNat]?.getD default).Hand=[]
  · exact c
  · exact (no2 (q:=((hcb.tk _ hk).hand c).1)).elim
 unfold gK
 show DR n w (Step.get _ (dZ w k))
 have key:∃s,dZ w k=.next s∧WV (n+1) (w.Time+1) s∧s.Time=w.Time∧s.Due=w.Due∧s.Out=w.Out∧s.Queue=w.Queue∧s.Tasks=w.Tasks∧s.St.length=w.St.length∧s.RuleHeld=w.RuleHeld:=by
  unfold dZ
  refine aH (P:=fun z:Step World World=>∃s,z=.next s∧WV (n+1) (w.Time+1) s∧s.Time=w.Time∧s.Due=w.Due∧s.Out=w.Out∧s.Queue=w.Queue∧s.Tasks=w.Tasks∧s.St.length=w.St.length∧s.RuleHeld=w.RuleHeld) (fun hf=>aH (P:=fun z:Step World World=>∃s,z=.next s∧WV (n+1) (w.Time+1) s∧s.Time=w.Time∧s.Due=w.Due∧s.Out=w.Out∧s.Queue=w.Queue∧s.Tasks=w.Tasks∧s.St.length=w.St.length∧s.RuleHeld=w.RuleHeld) (fun _=>aH (P:=fun z:Step World World=>∃s,z=.next s∧WV (n+1) (w.Time+1) s∧s.Time=w.Time∧s.Due=w.Due∧s.Out=w.Out∧s.Queue=w.Queue∧s.Tasks=w.Tasks∧s.St.length=w.St.length∧s.RuleHeld=w.RuleHeld) (fun _=>?_) (fun _=>⟨_,rfl,h',rfl,rfl,rfl,rfl,rfl,rfl,rfl⟩)) (fun _=>⟨_,rfl,h',rfl,rfl,rfl,rfl,rfl,rfl,rfl⟩)) (fun _=>⟨_,rfl,h',rfl,rfl,rfl,rfl,rfl,rfl,rfl⟩)
  obtain ⟨d1,d2,d3,d4⟩:=c0d h.st hw.s (by omega) hf
  obtain ⟨g1,g2,g3,g4⟩:=b9u (b:=false) h hw hm hf
  have hcw:=b6i (id:=(aC w.St (w.Tasks[k.toNat]?.getD default).Trace).1.Stamp) h.kn.wh h.kn.un
  refine ⟨_,rfl,?_,rfl,rfl,rfl,rfl,rfl,d3,rfl⟩
  refine { h' with sn:=by show (((cE _ _).length:Nat):Int)=_;rw [d3];exact h.sn,st:=?_,us:=⟨g1,by show IntKind.i64.wrap _≤_;rw [g1];exact g2⟩,bu:=?_,ca:=g3,kn:=h.kn.cancel h.st d2,sh:=fun q=>?_,de:=?_,tx:=fun j hj=>(h'.tx j hj).app (hcb.tk j hj),lk:=h.lk.congr d3 d4 }
  · show StV (dI w.W (aC w.St (w.Tasks[k.toNat]?.getD default).Trace).1.Stamp).1.Now w.Next (cE w.St (aC w.St (w.Tasks[k.toNat]?.getD default).Trace).1.Id)
    rw [hcw.2.1];exact d1
  · show BuV w.C (dI w.W (aC w.St (w.Tasks[k.toNat]?.getD default).Trace).1.Stamp).1.Now w.B
    rw [hcw.2.1];exact h.bu
  · show aI (dI w.W (aC w.St (w.Tasks[k.toNat]?.getD default).Trace).1.Stamp).1=[]
    rw [hcw.2.2,h.sh q];rfl
  · intro d hd
    rcases List.mem_append.1 hd with hd | hd
    · exact h'.de d hd
    · obtain rfl:=List.mem_singleton.1 hd
      exact { op:=by show 1≤(3:Int)∧(3:Int)≤4;omega,nn:=⟨Int.le_refl 0,Int.natCast_nonneg _,g4,by show 0≤(dI w.W (aC w.St (w.Tasks[k.toNat]?.getD default).Trace).1.Stamp).1.Now;rw [hcw.2.1];exact hnow.1,htm.1⟩,iv:=by show w.Time < w.Time+1;omega,li:=.inr ⟨Int.le_refl _,by show w.Time < w.Time+1;omega⟩,re:=.inr ⟨by show w.Time≠-1;omega,Int.le_refl _,by show w.Time < w.Time+1;omega⟩,c0:=fun _=>rfl,c1:=fun q=>(by cases q),c2:=fun q=>(by cases q) }
 obtain ⟨s,e,hs,e1,e2,e3,e4,e5,e6,e7⟩:=key
 rw [e]
 have ho':(s.Tasks[k.toNat]?.getD default).Op=1:=by rw [e5];exact ho
 have hp':(s.Tasks[k.toNat]?.getD default).Pc=3:=by rw [e5];exact hp
 have hTl:s.Tasks.length=5:=by rw [e5];exact hcb.tl
 have no0':∀{q:(s.Tasks[k.toNat]?.getD default).Op=0},False:=fun {q}=>by rw [q] at ho';cases ho'
 have no2':∀{q:(s.Tasks[k.toNat]?.getD default).Op=2},False:=fun {q}=>by rw [q] at ho';cases ho'
 have hx:=hs.tx _ hk
 obtain ⟨i1,i2⟩:=mF hs.st.ln (s.Tasks[k.toNat]?.getD default).Trace
 obtain ⟨f1,f2⟩:=vT (a:=-1) (L:=(s.St[(aD (s.Tasks[k.toNat]?.getD default).Trace ((s.St.length:Nat):Int)).toNat]?.getD default).L) i1
 have htr:(w.Tasks[k.toNat]?.getD default).Trace=(s.Tasks[k.toNat]?.getD default).Trace:=by rw [e5]
 show DR n w { s with St:=(List.set s.St ((aD (w.Tasks[(k).toNat]?.getD default).Trace (((s.St).length:Nat):Int))).toNat (Stripe.mk (-1) (s.St[((aD (w.Tasks[(k).toNat]?.getD default).Trace (((s.St).length:Nat):Int))).toNat]?.getD default).L)),Tasks:=(List.set s.Tasks (k).toNat { (s.Tasks[(k).toNat]?.getD default) with Pc:=0,Trace:=0,Stamp:=0 }) }
 rw [htr]
 refine ⟨{ hs with sn:=?_,st:=hs.st.lock,us:=?_,kn:=(hs.kn.lock).task hTl hk (.inl (by rw [ho'];decide)) (by show (s.Tasks[k.toNat]?.getD default).Op≠2;rw [ho'];decide),tx:=?_,lk:=?_ },e1,e2,e3,e4⟩
 · show (((List.length (s.St.set _ _)):Nat):Int)=_
   rw [List.length_set];exact hs.sn
 · show s.Used=aY byT (bW (s.St.set _ _))∧_
   rw [mP];exact hs.us
 · exact pT (fun j hj _=>hs.tx j hj) (fun _=>{ hx with pc:=.inl rfl,no:=fun q=>(no0' (q:=q)).elim,o3:=fun _ q=>(by cases q),on:=fun _ _=>⟨rfl,rfl⟩,ju:=fun q=>(no2' (q:=q)).elim,hi:=fun x (hx':x∈(s.Tasks[k.toNat]?.getD default).Hand)=>(by rw [e5,hhand] at hx';cases hx'),hd:=fun q=>(no2' (q:=q)).elim,dl:=fun q=>(no2' (q:=q)).elim,dt:=fun q=>(no2' (q:=q)).elim }) hTl
 · show LkV (List.length (s.St.set _ _)) _ (s.Tasks.set _ _) s.RuleHeld
   rw [List.length_set]
   refine hs.lk.drop hTl hk (i0:=(aD (s.Tasks[k.toNat]?.getD default).Trace ((s.St.length:Nat):Int)).toNat) ?_ ?_ f1 f2 ?_
   · unfold hS
     rw [if_neg (by rintro ⟨_,q⟩;rw [hp'] at q;cases q),if_pos (.inl ⟨ho',hp'⟩)];exact i2
   · unfold hS
     rw [if_neg (by rintro ⟨_,q⟩;cases q),if_neg (by
      rintro (⟨_,q⟩ | ⟨q,_⟩)
      · cases q
      · exact no2' (q:=q))]
   · unfold hR
     exact ⟨fun q=>(no2' (q:=q.1)).elim,fun q=>(no2' (q:=q.1)).elim⟩
theorem d3e {n:Nat} {w:World} {k:Int} {s:Span} (h:WV n w.Time w) (hcb:CB n 0 w) (hn:n≤1000000) (hk0:0≤k) (hk:k.toNat < 3) (ho:(w.Tasks[k.toNat]?.getD default).Op=0) (he:eH s=true→a2v s.Trace):WV (n+1) (w.Time+1) (dA w k s)∧(dA w k s).Time=w.Time+1:=by
 have h':WV (n+1) (w.Time+1) w:=h.later (Nat.le_succ n) (by omega)
 have hnow:=h.now
 have htm:=hcb.tm
 have hwt:=hcb.time hn
 unfold dA kA jZ
 cases hf:(!iA w.C s) with
 | false =>
   have hfit:iA w.C s=true:=nf hf
   have hsp:eH s=true:=by
    unfold iA at hfit
    cases q:eH s with
    | true=>rfl
    | false=>rw [q] at hfit;cases hfit
   refine ⟨{ h' with kn:=?_,de:=?_,tx:=?_,lk:=?_ },hwt⟩
   · exact h'.kn.task hcb.tl (by omega) (.inl (by rw [ho];decide)) (by show (1:Int)≠2;decide)
   · intro d hd
     rcases List.mem_append.1 hd with hd | hd
     · exact h'.de d hd
     · obtain rfl:=List.mem_singleton.1 hd
       exact { op:=by show 1≤(1:Int)∧(1:Int)≤4;omega,nn:=⟨Int.le_refl 0,Int.le_refl 0,Int.le_refl 0,hnow.1,htm.1⟩,iv:=by show w.Time < w.Time+1;omega,li:=.inl rfl,re:=.inl rfl,c0:=fun _=>rfl,c1:=fun _ q=>absurd rfl q,c2:=fun _ _=>hfit }
   · refine pT (fun j hj _=>(h'.tx j hj).app (hcb.tk j hj)) (fun hj=>?_) hcb.tl
     have e1:((w.Deeds.length:Nat):Int).toNat=w.Deeds.length:=Int.toNat_natCast _
     exact { op:=.inr (.inl rfl),pc:=.inl rfl,no:=fun q=>(by cases q),of:=fun _=>⟨hk,hsp,he hsp⟩,o3:=fun _ q=>(by cases q),on:=fun _ _=>⟨rfl,rfl⟩,ju:=fun q=>(by cases q),hd:=fun q=>(by cases q),hi:=fun x hx=>(by cases hx),hh:=Int.natCast_nonneg _,dr:=fun _=>(by show ((w.Deeds++[_])[((w.Deeds.length:Nat):Int).toNat]?.getD default).Res=-1;rw [e1,yT]),dl:=fun q=>(by cases q),ds:=fun _=>(by show ((w.Deeds++[_])[((w.Deeds.length:Nat):Int).toNat]?.getD default).S=_;rw [e1,yT]),dt:=fun q=>(by cases q) }
   · refine h.lk.same hcb.tl (by omega) ?_ ?_
     · unfold hS
       rw [if_neg (by rintro ⟨_,q⟩;cases q),if_neg (by
        rintro (⟨_,q⟩ | ⟨q,_⟩)
        · cases q
        · cases q),if_neg (by rintro ⟨q,_⟩;rw [ho] at q;cases q),if_neg (by
        rintro (⟨q,_⟩ | ⟨q,_⟩)
        · rw [ho] at q;cases q
        · rw [ho] at q;cases q)]
     · unfold hR
       exact ⟨fun q=>(by cases q.1),fun q=>(by rw [ho] at q;cases q.1)⟩
 | true =>
   have hfit:iA w.C s=false:=by simpa using hf
   refine ⟨{ h' with de:=?_,tx:=fun j hj=>(h'.tx j hj).app (hcb.tk j hj) },hwt⟩
   intro d hd
   rcases List.mem_append.1 hd with hd | hd
   · exact h'.de d hd
   · obtain rfl:=List.mem_singleton.1 hd
     exact { op:=by show 1≤(1:Int)∧(1:Int)≤4;omega,nn:=⟨Int.le_refl 0,Int.le_refl 0,Int.le_refl 0,hnow.1,htm.1⟩,iv:=by show w.Time < w.Time+1;omega,li:=.inr ⟨Int.le_refl _,by show w.Time < w.Time+1;omega⟩,re:=.inr ⟨by show w.Time≠-1;omega,Int.le_refl _,by show w.Time < w.Time+1;omega⟩,c0:=fun q=>(by
      rcases q with q | q
      · exact absurd rfl q
      · have q:w.Time=-1:=q
        omega),c1:=fun _ _=>⟨by show 1≤(5:Int)∧(5:Int)≤5;omega,⟨fun _=>hfit,fun _=>rfl⟩,⟨fun q=>(by rcases q with q | q | q <;> cases q),fun q=>(by have q:1≤(0:Int):=q;omega)⟩⟩,c2:=fun _ q=>(by have q:w.Time=-1:=q;omega) }
theorem d4e {n:Nat} {w:World} {k:Int} (h:WV n w.Time w) (hcb:CB n 0 w) (hn:n≤1000000) (hk3:3≤k) (hk:k.toNat < 5) (ho:(w.Tasks[k.toNat]?.getD default).Op≠1) (ho2:(w.Tasks[k.toNat]?.getD default).Op≠2) (hdu:w.Due≠[]):WV (n+1) (w.Time+1) (jT w k)∧(jT w k).Time=w.Time+1:=by
 have h':WV (n+1) (w.Time+1) w:=h.later (Nat.le_succ n) (by omega)
 have hnow:=h.now
 have htm:=hcb.tm
 have hwt:=hcb.time hn
 obtain ⟨y,du,hdu⟩:∃y du,w.Due=y :: du:=by
  cases e:w.Due with
  | nil=>exact absurd e hdu
  | cons y du=>exact ⟨y,du,rfl⟩
 have e0:w.Due[0]?.getD default=y:=by rw [hdu];rfl
 have e1:List.take (w.Due.length - 1) (List.drop 1 w.Due)=du:=by
  rw [hdu]
  show List.take ((y :: du).length - 1) du=du
  exact List.take_of_length_le (by simp)
 have hy:=h.kn.ti y (List.mem_append.2 (.inr (by rw [hdu];exact List.mem_cons_self ..)))
 unfold jT
 rw [e0,e1]
 have hkn:=h.kn
 rw [hdu] at hkn
 have e2:((w.Deeds.length:Nat):Int).toNat=w.Deeds.length:=Int.toNat_natCast _
 refine ⟨{ h' with kn:=?_,de:=?_,tx:=?_,lk:=?_ },hwt⟩
 · exact hkn.begin hcb.tl hk ho2 rfl rfl rfl (by show (0:Int)≠3;decide)
 · intro d hd
   rcases List.mem_append.1 hd with hd | hd
   · exact h'.de d hd
   · obtain rfl:=List.mem_singleton.1 hd
     exact { op:=by show 1≤(2:Int)∧(2:Int)≤4;omega,nn:=⟨Int.le_refl 0,Int.le_refl 0,Int.le_refl 0,hnow.1,htm.1⟩,iv:=by show w.Time < w.Time+1;omega,li:=.inl rfl,re:=.inl rfl,c0:=fun _=>rfl,c1:=fun q=>(by cases q),c2:=fun q=>(by cases q) }
 · refine pT (fun j hj _=>(h'.tx j hj).app (hcb.tk j hj)) (fun hj=>?_) hcb.tl
   exact { op:=.inr (.inr rfl),pc:=.inl rfl,no:=fun q=>(by cases q),of:=fun q=>(by cases q),o3:=fun q=>(by cases q),on:=fun q=>(by cases q),ju:=fun _=>⟨by omega,rfl,hy.2,hy.1⟩,hd:=fun _ q=>(by cases q),hi:=fun x hx=>(by cases hx),hh:=Int.natCast_nonneg _,dr:=fun _=>(by show ((w.Deeds++[_])[((w.Deeds.length:Nat):Int).toNat]?.getD default).Res=-1;rw [e2,yT]),dl:=fun _ q=>(by cases q),ds:=fun q=>(by cases q),dt:=fun _=>(by show ((w.Deeds++[_])[((w.Deeds.length:Nat):Int).toNat]?.getD default).Trace=_∧((w.Deeds++[_])[((w.Deeds.length:Nat):Int).toNat]?.getD default).Stamp=_;rw [e2,yT];exact ⟨rfl,rfl⟩) }
 · refine h.lk.same hcb.tl hk ?_ ?_
   · unfold hS
     rw [if_neg (by rintro ⟨q,_⟩;cases q),if_neg (by
      rintro (⟨q,_⟩ | ⟨_,q | q⟩)
      · cases q
      · cases q
      · cases q),if_neg (by rintro ⟨q,_⟩;exact ho q),if_neg (by
      rintro (⟨q,_⟩ | ⟨q,_⟩)
      · exact ho q
      · exact ho2 q)]
   · unfold hR
     exact ⟨fun q=>(by cases q.2),fun q=>absurd q.1 ho2⟩
theorem d5y {n:Nat} {w:World} {k:Int} (h:WV n w.Time w) (hcb:CB n 0 w) (hk:k.toNat < 5) (ho:(w.Tasks[k.toNat]?.getD default).Op=2) (hp:(w.Tasks[k.toNat]?.getD default).Pc=3) (hn:(w.Tasks[k.toNat]?.getD default).Hand≠[]):LR n w (cU w k):=by
 have h':WV (n+1) (w.Time+1) w:=h.later (Nat.le_succ n) (by omega)
 have hx:=h'.tx _ hk
 have htm:=hcb.tm
 have ht:=hcb.tk _ hk
 obtain ⟨d1,d2,d3,d4,_⟩:=ht.own (.inr ho)
 rw [ho] at d4
 have hz:=List.length_pos_iff.2 hn
 have hm:=oF d2
 have hdv:=h'.de _ hm
 have hlin:=hx.dl ho hp
 have no1:∀{q:(w.Tasks[k.toNat]?.getD default).Op=1},False:=fun {q}=>by rw [q] at ho;cases ho
 have no0:∀{q:(w.Tasks[k.toNat]?.getD default).Op=0},False:=fun {q}=>by rw [q] at ho;cases ho
 have hq0:uX ((w.Tasks[k.toNat]?.getD default).Hand[0]?.getD default):=(hx.hi _ (by rw [List.getElem?_eq_getElem hz];exact List.getElem_mem hz)).1
 unfold cU
 refine aH (P:=LR n w) (fun _ q=>by cases q) (fun q1=>?_)
 have q1:=of_decide_eq_false q1
 have hqu:((((w.Queue++[((w.Tasks[k.toNat]?.getD default).Hand[0]?.getD default)]).length:Nat):Int)≤w.C.Queue)∧(∀x∈w.Queue++[((w.Tasks[k.toNat]?.getD default).Hand[0]?.getD default)],uX x)∧∀x∈w.Out,uX x:=⟨by rw [jP];omega,fun x hx=>by
  rcases List.mem_append.1 hx with hx | hx
  · exact h.qu.2.1 x hx
  · obtain rfl:=List.mem_singleton.1 hx;exact hq0,h.qu.2.2⟩
 refine aH (P:=LR n w) (fun _ _=>?_) (fun q2 _=>?_)
 · refine ⟨{ h' with qu:=hqu,kn:=h'.kn.task hcb.tl hk (.inr hp) (by show (0:Int)≠2;decide),de:=?_,tx:=pT (fun j hj hne=>(h'.tx j hj).set (hcb.tk j hj) d3 hne) (fun _=>a7w) hcb.tl,lk:=?_ },rfl,rfl,rfl⟩
   · refine a0k h'.de ?_
     refine { hdv with re:=.inr ⟨hlin,?_,by show w.Time < w.Time+1;omega⟩ }
     have:=(h.de _ hm).li
     show (w.Deeds[(w.Tasks[k.toNat]?.getD default).H.toNat]?.getD default).Lin≤w.Time
     omega
   · refine h.lk.same hcb.tl hk ?_ ?_
     · unfold hS
       rw [if_neg (by rintro ⟨q,_⟩;cases q),if_neg (by
        rintro (⟨q,_⟩ | ⟨q,_⟩) <;> cases q),if_neg (by rintro ⟨q,_⟩;exact no1 (q:=q)),if_neg (by
        rintro (⟨q,_⟩ | ⟨_,q | q⟩)
        · exact no1 (q:=q)
        · rw [hp] at q;cases q
        · rw [hp] at q;cases q)]
     · unfold hR
       exact ⟨fun q=>(by cases q.1),fun q=>(by rw [hp] at q;cases q.2)⟩
 · have q2:((((w.Tasks[k.toNat]?.getD default).Hand).length:Nat):Int)≠1:=by simpa using q2
   refine ⟨{ h' with qu:=hqu,kn:=h'.kn.step hcb.tl hk rfl rfl rfl (fun q=>absurd hp q),tx:=?_,lk:=?_ },rfl,rfl,rfl⟩
   · refine pT (fun j hj _=>h'.tx j hj) (fun _=>{ hx with no:=fun q=>(no0 (q:=q)).elim,hd:=fun _ _ q=>?_,hi:=fun x hx'=>hx.hi x (List.mem_of_mem_drop (List.mem_of_mem_take hx')) }) hcb.tl
     have q:=congrArg List.length q
     have q:(List.take ((w.Tasks[k.toNat]?.getD default).Hand.length - 1) (List.drop 1 (w.Tasks[k.toNat]?.getD default).Hand)).length=0:=q
     rw [List.length_take,List.length_drop] at q
     omega
   · exact h.lk.same hcb.tl hk rfl (Iff.rfl)
theorem d7i {n m:Nat} {w:World} {k:Int} (h:WV n w.Time w) (hcb:CB n 0 w) (hw:WI m w) (hm:m≤880000) (hk:k.toNat < 5) (ho:(w.Tasks[k.toNat]?.getD default).Op=2) (hp:(w.Tasks[k.toNat]?.getD default).Pc=2):DR n w (fI w k):=by
 have h':WV (n+1) (w.Time+1) w:=h.later (Nat.le_succ n) (by omega)
 have hx:=h.tx _ hk
 obtain ⟨x1,x2,x3,x4⟩:=hx.ju ho
 have hdt:=hx.dt ho
 have hdr:=hx.dr (.inr ho)
 have hnow:=h.now
 have htm:=hcb.tm
 have ht:=hcb.tk _ hk
 obtain ⟨d1,d2,d3,d4,d5⟩:=ht.own (.inr ho)
 have d5:=d5 (.inr (.inr (.inr hp)))
 rw [ho] at d4
 have hmem:=oF d2
 have hdv:=h.de _ hmem
 have hhand:(w.Tasks[k.toNat]?.getD default).Hand=[]:=by
  by_cases c:(w.Tasks[k.toNat]?.getD default).Hand=[]
  · exact c
  · exact absurd (.inr (.inr hp)) (ht.hand c).2
 have hcode:=hdv.c0 (.inr d5)
 obtain ⟨i1,i2⟩:=mF h.st.ln (w.Tasks[k.toNat]?.getD default).Trace
 have hhs:hS (w.Tasks[k.toNat]?.getD default) w.St.length=(((aD (w.Tasks[k.toNat]?.getD default).Trace ((w.St.length:Nat):Int)).toNat:Nat):Int):=by
  unfold hS
  rw [if_neg (by rintro ⟨q,_⟩;rw [ho] at q;cases q),if_pos (.inr ⟨ho,.inr hp⟩)];exact i2
 have hrr:hR (w.Tasks[k.toNat]?.getD default):=⟨ho,hp⟩
 have fin:∀(s:World×List Item) (d:Deed),cP w k=.next s→s.1.C=w.C→s.1.Time=w.Time→s.1.Shut=w.Shut→s.1.Due=w.Due→s.1.Out=w.Out→s.1.Queue=w.Queue→s.1.Tasks=w.Tasks→s.1.W=w.W→s.1.Next=w.Next→s.1.RuleHeld=w.RuleHeld→s.1.Deeds=w.Deeds.set (w.Tasks[k.toNat]?.getD default).H.toNat d→s.1.St.length=w.St.length→(∀i:Nat,(s.1.St[i]?.getD default).Held=(w.St[i]?.getD default).Held)→StV w.W.Now w.Next s.1.St→(s.1.Used=aY byT (bW s.1.St)∧s.1.Used≤w.C.Budget)→BuV w.C w.W.Now s.1.B→CaV w.Next w.C.Cache s.1.Cache→(∀x:Task,(x.Op=2→x.Stamp=(w.Tasks[k.toNat]?.getD default).Stamp)→KnV w.Next s.1.St w.W w.Due (w.Tasks.set k.toNat x))→d.Op=2→d.Task=((k.toNat:Nat):Int)→d.Trace=(w.Tasks[k.toNat]?.getD default).Trace→d.Stamp=(w.Tasks[k.toNat]?.getD default).Stamp→d.Res=-1→d.Code=0→(0≤d.Took∧0≤d.N∧0≤d.Forgot∧0≤d.Inv)→d.Inv≤w.Time→(∀y∈s.2,uX y∧y.Stamp=(w.Tasks[k.toNat]?.getD default).Stamp)→DR n w (fI w k):=by
  intro s d ej c1 c2 c3 c4 c5 c6 c7 c8 c9 c10 c11 c12 c13 c14 c15 c16 c17 c18 e1 e2 e3 e4 e5 e6 e7 e8 e9
  have hget:s.1.Deeds[(w.Tasks[k.toNat]?.getD default).H.toNat]?.getD default=d:=by rw [c11,dT,if_pos ⟨rfl,d2⟩]
  obtain ⟨f1,f2⟩:=vT (S:=s.1.St) (i0:=(aD (w.Tasks[k.toNat]?.getD default).Trace ((s.1.St.length:Nat):Int)).toNat) (a:=-1) (L:=(s.1.St[(aD (w.Tasks[k.toNat]?.getD default).Trace ((s.1.St.length:Nat):Int)).toNat]?.getD default).L) (by rw [c12];exact i1)
  have hlk:∀x:Task,hS x w.St.length=-1→¬hR x→LkV (s.1.St.set (aD (w.Tasks[k.toNat]?.getD default).Trace ((s.1.St.length:Nat):Int)).toNat (Stripe.mk (-1) (s.1.St[(aD (w.Tasks[k.toNat]?.getD default).Trace ((s.1.St.length:Nat):Int)).toNat]?.getD default).L)).length (fun i=>((s.1.St.set (aD (w.Tasks[k.toNat]?.getD default).Trace ((s.1.St.length:Nat):Int)).toNat (Stripe.mk (-1) (s.1.St[(aD (w.Tasks[k.toNat]?.getD default).Trace ((s.1.St.length:Nat):Int)).toNat]?.getD default).L))[i]?.getD default).Held) (w.Tasks.set k.toNat x) (-1):=by
   intro x hx1 hx2
   rw [List.length_set,c12]
   rw [c12] at f1 f2
   exact h.lk.both hcb.tl hk hhs hx1 f1 (fun i hi=>(f2 i hi).trans (c13 i)) hrr hx2
  have hde:∀r:Int,(r=-1∨r=w.Time)→∀y∈s.1.Deeds.set (w.Tasks[k.toNat]?.getD default).H.toNat { (s.1.Deeds[(w.Tasks[k.toNat]?.getD default).H.toNat]?.getD default) with Now:=s.1.W.Now,Lin:=s.1.Time,Res:=r },DeV w.C (w.Time+1) y:=by
   intro r hr
   rw [hget,c11,List.set_set,c2,c8]
   refine a0k h'.de { op:=by show 1≤d.Op∧d.Op≤4;rw [e1];decide,nn:=⟨e7.1,e7.2.1,e7.2.2.1,hnow.1,e7.2.2.2⟩,iv:=by show d.Inv < w.Time+1;omega,li:=.inr ⟨e8,by show w.Time < w.Time+1;omega⟩,re:=?_,c0:=fun _=>e6,c1:=fun q=>(by rw [show d.Op=1 from q] at e1;cases e1),c2:=fun q=>(by rw [show d.Op=1 from q] at e1;cases e1) }
   rcases hr with hr | hr
   · exact .inl hr
   · refine .inr ⟨by show w.Time≠-1;omega,by show w.Time≤r;omega,by show r < w.Time+1;omega⟩
  have htx:∀(r:Int) (x:Task),TX w.Next (s.1.Deeds.set (w.Tasks[k.toNat]?.getD default).H.toNat { (s.1.Deeds[(w.Tasks[k.toNat]?.getD default).H.toNat]?.getD default) with Now:=s.1.W.Now,Lin:=s.1.Time,Res:=r }) k.toNat x→∀j,j < 5→TX w.Next (s.1.Deeds.set (w.Tasks[k.toNat]?.getD default).H.toNat { (s.1.Deeds[(w.Tasks[k.toNat]?.getD default).H.toNat]?.getD default) with Now:=s.1.W.Now,Lin:=s.1.Time,Res:=r }) j ((w.Tasks.set k.toNat x)[j]?.getD default):=by
   intro r x hx'
   refine pT (fun j hj hne=>?_) (fun _=>hx') hcb.tl
   rw [c11,List.set_set]
   exact (h.tx j hj).set (hcb.tk j hj) d3 hne
  have base:∀(x:Task) (r:Int),(r=-1∨r=w.Time)→(x.Op=2→x.Stamp=(w.Tasks[k.toNat]?.getD default).Stamp)→hS x w.St.length=-1→¬hR x→TX w.Next (s.1.Deeds.set (w.Tasks[k.toNat]?.getD default).H.toNat { (s.1.Deeds[(w.Tasks[k.toNat]?.getD default).H.toNat]?.getD default) with Now:=s.1.W.Now,Lin:=s.1.Time,Res:=r }) k.toNat x→WV (n+1) (w.Time+1) { s.1 with St:=(List.set s.1.St ((aD (w.Tasks[(k).toNat]?.getD default).Trace (((s.1.St).length:Nat):Int))).toNat (Stripe.mk (-1) (s.1.St[((aD (w.Tasks[(k).toNat]?.getD default).Trace (((s.1.St).length:Nat):Int))).toNat]?.getD default).L)),RuleHeld:=(-1),Tasks:=(List.set s.1.Tasks (k).toNat x),Deeds:=(List.set s.1.Deeds ((w.Tasks[(k).toNat]?.getD default).H).toNat { (s.1.Deeds[((w.Tasks[(k).toNat]?.getD default).H).toNat]?.getD default) with Now:=s.1.W.Now,Lin:=s.1.Time,Res:=r }) }:=by
   intro x r hr g1 g2 g3 g4
   have hnx:=h'.nx
   refine { c:=by rw [c1];exact h.c,nx:=by show 1≤s.1.Next∧s.1.Next≤_;rw [c9];exact hnx,sn:=?_,st:=?_,us:=?_,bu:=?_,ca:=?_,kn:=?_,sh:=?_,qu:=?_,de:=?_,tx:=?_,lk:=?_ }
   · show (((List.length (s.1.St.set _ _)):Nat):Int)=s.1.C.Stripes
     rw [List.length_set,c12,c1];exact h.sn
   · show StV s.1.W.Now s.1.Next (s.1.St.set _ _)
     rw [c8,c9];exact c14.lock
   · show s.1.Used=aY byT (bW (s.1.St.set _ _))∧s.1.Used≤s.1.C.Budget
     rw [mP,c1];exact c15
   · show BuV s.1.C s.1.W.Now s.1.B
     rw [c1,c8];exact c16
   · show CaV s.1.Next s.1.C.Cache s.1.Cache
     rw [c9,c1];exact c17
   · show KnV s.1.Next (s.1.St.set _ _) s.1.W s.1.Due (s.1.Tasks.set _ _)
     rw [c9,c8,c4,c7];exact (c18 x g1).lock
   · show s.1.Shut=true→aI s.1.W=[]
     rw [c3,c8];exact h.sh
   · show ((s.1.Queue.length:Nat):Int)≤s.1.C.Queue∧(∀x∈s.1.Queue,uX x)∧∀x∈s.1.Out,uX x
     rw [c6,c1,c5];exact h.qu
   · show ∀y∈s.1.Deeds.set _ _,DeV s.1.C _ y
     rw [c1];exact hde r hr
   · show ∀j,j < 5→TX s.1.Next _ j ((s.1.Tasks.set _ _)[j]?.getD default)
     rw [c9,c7];exact htx r x g4
   · show LkV _ _ (s.1.Tasks.set _ _) (-1)
     rw [c7];exact hlk x g2 g3
  unfold fI
  show DR n w (Step.get _ (cP w k))
  rw [ej]
  refine aH (P:=DR n w) (fun hl=>?_) (fun hl=>?_)
  · refine ⟨base pM s.1.Time (.inr c2) (fun q=>by cases q) ?_ ?_ a7w,c2,c4,c5,c6⟩
    · unfold hS
      rw [if_neg (by rintro ⟨q,_⟩;cases q),if_neg (by rintro (⟨q,_⟩ | ⟨q,_⟩) <;> cases q)]
    · rintro ⟨q,_⟩;cases q
  · have hne:s.2≠[]:=by
     intro q
     rw [q] at hl;cases hl
    have c7':s.1.Tasks[k.toNat]?.getD default=w.Tasks[k.toNat]?.getD default:=by rw [c7]
    show DR n w { s.1 with St:=_,RuleHeld:=(-1),Tasks:=(List.set s.1.Tasks (k).toNat { (s.1.Tasks[(k).toNat]?.getD default) with Pc:=3,Hand:=s.2 }),Deeds:=(List.set s.1.Deeds ((w.Tasks[(k).toNat]?.getD default).H).toNat { (s.1.Deeds[((w.Tasks[(k).toNat]?.getD default).H).toNat]?.getD default) with Now:=s.1.W.Now,Lin:=s.1.Time,Res:=(s.1.Deeds[((w.Tasks[(k).toNat]?.getD default).H).toNat]?.getD default).Res }) }
    rw [c7']
    have hres:(s.1.Deeds[((w.Tasks[(k).toNat]?.getD default).H).toNat]?.getD default).Res=-1:=by rw [hget];exact e5
    refine ⟨base { (w.Tasks[k.toNat]?.getD default) with Pc:=3,Hand:=s.2 } _ (.inl hres) (fun _=>rfl) ?_ ?_ ?_,c2,c4,c5,c6⟩
    · unfold hS
      rw [if_neg (by rintro ⟨_,q⟩;cases q),if_neg (by
       rintro (⟨q,_⟩ | ⟨_,q | q⟩)
       · rw [show (w.Tasks[k.toNat]?.getD default).Op=1 from q] at ho;cases ho
       · cases q
       · cases q)]
    · rintro ⟨_,q⟩;cases q
    · have hnew:(s.1.Deeds.set (w.Tasks[k.toNat]?.getD default).H.toNat { (s.1.Deeds[(w.Tasks[k.toNat]?.getD default).H.toNat]?.getD default) with Now:=s.1.W.Now,Lin:=s.1.Time,Res:=(s.1.Deeds[((w.Tasks[(k).toNat]?.getD default).H).toNat]?.getD default).Res })[(w.Tasks[k.toNat]?.getD default).H.toNat]?.getD default={ d with Now:=s.1.W.Now,Lin:=s.1.Time }:=by
       rw [dT,if_pos ⟨rfl,by rw [c11,List.length_set];exact d2⟩,hget]
      exact { hx with pc:=.inr (.inr (.inr rfl)),no:=fun q=>(by rw [show (w.Tasks[k.toNat]?.getD default).Op=0 from q] at ho;cases ho),o3:=fun q=>(by rw [show (w.Tasks[k.toNat]?.getD default).Op=1 from q] at ho;cases ho),on:=fun q=>(by rw [show (w.Tasks[k.toNat]?.getD default).Op=1 from q] at ho;cases ho),hd:=fun _ _=>hne,hi:=e9,dr:=fun _=>(congrArg Deed.Res hnew).trans e5,dl:=fun _ _ q=>absurd ((congrArg Deed.Lin hnew).symm.trans q) (by show s.1.Time≠-1;rw [c2];omega),ds:=fun q=>(by rw [show (w.Tasks[k.toNat]?.getD default).Op=1 from q] at ho;cases ho),dt:=fun _=>⟨(congrArg Deed.Trace hnew).trans e3,(congrArg Deed.Stamp hnew).trans e4⟩ }
 have knv:∀(S':List Stripe),(∀u∈bW S',u∈bW w.St∧¬((w.Tasks[k.toNat]?.getD default).Stamp=u.Stamp∧(w.Tasks[k.toNat]?.getD default).Trace=u.Id))→(∀u∈bW w.St,u.Stamp≠(w.Tasks[k.toNat]?.getD default).Stamp→u∈bW S')→∀x:Task,(x.Op=2→x.Stamp=(w.Tasks[k.toNat]?.getD default).Stamp)→KnV w.Next S' w.W w.Due (w.Tasks.set k.toNat x):=fun S' h1 h2 x hx'=>h.kn.judge hcb.tl hk ho hx' h1 h2
 have vd:∀s:World×List Item,cP w k=.next s→s=({ w with Deeds:=(List.set w.Deeds ((w.Tasks[k.toNat]?.getD default).H).toNat { (w.Deeds[((w.Tasks[k.toNat]?.getD default).H).toNat]?.getD default) with Void:=true }) },([]:List Item))→(∀u∈bW w.St,¬((w.Tasks[k.toNat]?.getD default).Stamp=u.Stamp∧(w.Tasks[k.toNat]?.getD default).Trace=u.Id))→DR n w (fI w k):=by
  intro s ej hs hno
  subst hs
  exact fin _ { (w.Deeds[((w.Tasks[k.toNat]?.getD default).H).toNat]?.getD default) with Void:=true } ej rfl rfl rfl rfl rfl rfl rfl rfl rfl rfl rfl rfl (fun _=>rfl) h.st h.us h.bu h.ca (knv w.St (fun u hu=>⟨hu,hno u hu⟩) (fun u hu _=>hu)) d4 d3 hdt.1 hdt.2 hdr hcode ⟨hdv.nn.1,hdv.nn.2.1,hdv.nn.2.2.1,hdv.nn.2.2.2.2⟩ (by have:=hdv.iv;show (w.Deeds[(w.Tasks[k.toNat]?.getD default).H.toNat]?.getD default).Inv≤_;omega) (fun y hy=>(by cases hy))
 have jd:cP w k=cP w k:=rfl
 conv at jd=>rhs;unfold cP
 cases q1:(aC w.St (w.Tasks[k.toNat]?.getD default).Trace).2 with
 | false =>
   rw [q1] at jd
   exact vd _ jd rfl (fun u hu hh=>c6p h.st q1 u hu hh.2.symm)
 | true =>
   rw [q1] at jd
   obtain ⟨fm1,fm2⟩:=a9x h.st q1
   cases q2:((aC w.St (w.Tasks[k.toNat]?.getD default).Trace).1.Stamp==(w.Tasks[k.toNat]?.getD default).Stamp) with
   | false =>
     rw [q2] at jd
     refine vd _ jd rfl (fun u hu hh=>?_)
     have:=h.st.one hu fm1 (by rw [fm2];exact hh.2.symm)
     rw [this] at hh
     rw [hh.1] at q2
     simp at q2
   | true =>
     rw [q2] at jd
     have q2:(aC w.St (w.Tasks[k.toNat]?.getD default).Trace).1.Stamp=(w.Tasks[k.toNat]?.getD default).Stamp:=by simpa using q2
     have hit:∀(l:List Span) (i:Nat) (s:List Item),(∀z∈l,eH z=true)→(∀y∈s,uX y∧y.Stamp=(w.Tasks[k.toNat]?.getD default).Stamp)→∃v,aJ (gX w k) i s l=.fin v∧∀y∈v,uX y∧y.Stamp=(w.Tasks[k.toNat]?.getD default).Stamp:=by
      intro l
      induction l with
      | nil=>intro i s _ hs;exact ⟨s,rfl,hs⟩
      | cons a l ih =>
        intro i s hl hs
        have e0:gX w k i s a=bif (bU w.C.Rule (aC w.St (w.Tasks[k.toNat]?.getD default).Trace).1.Spans (bB w.B w.W.Now).Tokens).1 then (.next (s++[(Item.mk (aC w.St (w.Tasks[k.toNat]?.getD default).Trace).1.Stamp (aX a))])) else (.stop s):=rfl
        rw [aJ,e0]
        cases (bU w.C.Rule (aC w.St (w.Tasks[k.toNat]?.getD default).Trace).1.Spans (bB w.B w.W.Now).Tokens).1 with
        | true =>
          exact ih (i+1) (s++[(Item.mk (aC w.St (w.Tasks[k.toNat]?.getD default).Trace).1.Stamp (aX a))]) (fun z hz=>hl z (List.mem_cons_of_mem _ hz)) (fun y hy=>by
           rcases List.mem_append.1 hy with hy | hy
           · exact hs y hy
           · obtain rfl:=List.mem_singleton.1 hy
             exact ⟨⟨by show 1≤(aC w.St (w.Tasks[k.toNat]?.getD default).Trace).1.Stamp;rw [q2];exact x4.1,by show eH (aX a)=true;rw [pV];exact hl a (List.mem_cons_self ..)⟩,q2⟩)
        | false=>exact ⟨s,rfl,hs⟩
     have htv:=(h.st.tv _ fm1).1
     obtain ⟨v,ev,hv⟩:=hit (aC w.St (w.Tasks[k.toNat]?.getD default).Trace).1.Spans 0 [] (fun z hz=>(htv.sp z hz).1) (fun y hy=>(by cases hy))
     rw [ev] at jd
     obtain ⟨g1,g2,g3,g4⟩:=c0d h.st hw.s (by omega) q1
     obtain ⟨r1,r2,r3,r4⟩:=b9u (b:=(bU w.C.Rule (aC w.St (w.Tasks[k.toNat]?.getD default).Trace).1.Spans (bB w.B w.W.Now).Tokens).1) h hw hm q1
     have hnd:=((g2.map Trail.Stamp).nodup_iff).1 h.st.su
     rw [List.map_cons,List.nodup_cons] at hnd
     have hb:=d2r (n:=(bU w.C.Rule (aC w.St (w.Tasks[k.toNat]?.getD default).Trace).1.Spans (bB w.B w.W.Now).Tokens).2) (c8j h.bu h.c (by omega)).1 h.c (by omega)
     refine fin _ { (w.Deeds[((w.Tasks[k.toNat]?.getD default).H).toNat]?.getD default) with Keep:=(bU w.C.Rule (aC w.St (w.Tasks[k.toNat]?.getD default).Trace).1.Spans (bB w.B w.W.Now).Tokens).1,Took:=(bU w.C.Rule (aC w.St (w.Tasks[k.toNat]?.getD default).Trace).1.Spans (bB w.B w.W.Now).Tokens).2,N:=((((aC w.St (w.Tasks[k.toNat]?.getD default).Trace).1.Spans).length:Nat):Int),Forgot:=(eF w.Cache (Verdict.mk (aC w.St (w.Tasks[k.toNat]?.getD default).Trace).1.Id (aC w.St (w.Tasks[k.toNat]?.getD default).Trace).1.Stamp (bU w.C.Rule (aC w.St (w.Tasks[k.toNat]?.getD default).Trace).1.Spans (bB w.B w.W.Now).Tokens).1) w.C.Cache).2 } jd rfl rfl rfl rfl rfl rfl rfl rfl rfl rfl rfl g3 g4 g1 ⟨r1,by show IntKind.i64.wrap _≤_;rw [r1];exact r2⟩ hb r3 (knv _ (fun u hu=>⟨g2.symm.subset (List.mem_cons_of_mem _ hu),fun hh=>hnd.1 (List.mem_map.2 ⟨u,hu,by rw [q2];exact hh.1.symm⟩)⟩) (fun u hu hne=>?_)) d4 d3 hdt.1 hdt.2 hdr hcode ⟨c4o,Int.natCast_nonneg _,r4,hdv.nn.2.2.2.2⟩ (by have:=hdv.iv;show (w.Deeds[(w.Tasks[k.toNat]?.getD default).H.toNat]?.getD default).Inv≤_;omega) hv
     rcases List.mem_cons.1 (g2.subset hu) with e | hu
     · rw [e] at hne;exact absurd q2 hne
     · exact hu
theorem WV.of {n:Nat} {tm:Int} {v w:World} (h:WV n tm v) (e1:w.C=v.C) (e2:w.Shut=v.Shut) (e3:w.St=v.St) (e4:w.RuleHeld=v.RuleHeld) (e5:w.B=v.B) (e6:w.Cache=v.Cache) (e7:w.Used=v.Used) (e8:w.W=v.W) (e9:w.Due=v.Due) (e10:w.Queue=v.Queue) (e11:w.Out=v.Out) (e12:w.Tasks=v.Tasks) (e13:w.Deeds=v.Deeds) (e14:w.Next=v.Next):WV n tm w:=by
 have e:w={ v with Time:=w.Time }:=by
  cases w;cases v
  simp only at e1 e2 e3 e4 e5 e6 e7 e8 e9 e10 e11 e12 e13 e14
  subst e1 e2 e3 e4 e5 e6 e7 e8 e9 e10 e11 e12 e13 e14
  rfl
 rw [e]
 exact h.time
def VR (n:Nat) (w:World) (z:Bool×World):Prop:=z.1=true→WV (n+1) (w.Time+1) z.2∧z.2.Time=w.Time+1
theorem c8b {w:World} {k:Int}:(cL w k).2.Cache=w.Cache∧(cL w k).2.Queue=w.Queue∧(cL w k).2.Deeds=w.Deeds:=by
 show (fun z:Bool×World=>z.2.Cache=w.Cache∧z.2.Queue=w.Queue∧z.2.Deeds=w.Deeds) (cL w k)
 unfold cL
 exact aH (P:=fun z:Bool×World=>z.2.Cache=w.Cache∧z.2.Queue=w.Queue∧z.2.Deeds=w.Deeds) (fun _=>⟨rfl,rfl,rfl⟩) (fun _=>aH (P:=fun z:Bool×World=>z.2.Cache=w.Cache∧z.2.Queue=w.Queue∧z.2.Deeds=w.Deeds) (fun _=>⟨rfl,rfl,rfl⟩) (fun _=>⟨rfl,rfl,rfl⟩))
def LZ (n:Nat) (w:World) (z:Bool×World):Prop:=z.1=true→WV (n+1) (w.Time+1) z.2∧z.2.Time=w.Time+1∧z.2.Due=w.Due∧z.2.Out=w.Out
theorem c7v {n m:Nat} {w:World} {k:Int} (h:WV n w.Time w) (hcb:CB n 0 w) (hw:WI m w) (hm:m≤880000) (hn:n≤1000000) (hk0:0≤k) (hk:k.toNat < 5) (ho:(w.Tasks[k.toNat]?.getD default).Op=1):LZ n w (gJ w k):=by
 have h':WV (n+1) (w.Time+1) w:=h.later (Nat.le_succ n) (by omega)
 have hx:=h'.tx _ hk
 have hwt:=hcb.time hn
 have no0:∀{q:(w.Tasks[k.toNat]?.getD default).Op=0},False:=fun {q}=>by rw [q] at ho;cases ho
 have no2:∀{q:(w.Tasks[k.toNat]?.getD default).Op=2},False:=fun {q}=>by rw [q] at ho;cases ho
 unfold gJ
 refine uU (P:=fun s:Bool×Conf×Int×Bool×Int×Bucket×Int×Wheel×Int×(List Stripe)×(List Verdict)×(List Item)×(List Task)×(List Deed)=>s.1=true→∃v:World,WV (n+1) (w.Time+1) v∧v.Time=w.Time∧v.Due=w.Due∧v.Out=w.Out∧s.2=(v.C,v.Time,v.Shut,v.RuleHeld,v.B,v.Used,v.W,v.Next,v.St,v.Cache,v.Queue,v.Tasks,v.Deeds)) (Q:=LZ n w) ?_ (fun s hs=>?_)
 · unfold oZ
   cases q0:((w.Tasks[k.toNat]?.getD default).Pc==0) with
   | true =>
     have hp:(w.Tasks[k.toNat]?.getD default).Pc=0:=by simpa using q0
     have hon:=hx.on ho (by rw [hp];decide)
     rw [cond_true]
     cases q3:((w.St[((aD (w.Tasks[k.toNat]?.getD default).S.Trace (((w.St).length:Nat):Int))).toNat]?.getD default).Held != (-1)) with
     | true=>rw [cond_true];exact fV (r:=(false,w)) (fun q=>by cases q)
     | false =>
     rw [cond_false]
     refine fV (r:=(true,_)) (fun _=>?_)
     have q2:(w.St[((aD (w.Tasks[k.toNat]?.getD default).S.Trace (((w.St).length:Nat):Int))).toNat]?.getD default).Held=-1:=by simpa using q3
     obtain ⟨i1,i2⟩:=mF h.st.ln (w.Tasks[k.toNat]?.getD default).S.Trace
     obtain ⟨f1,f2⟩:=vT (a:=k) (L:=(w.St[(aD (w.Tasks[k.toNat]?.getD default).S.Trace ((w.St.length:Nat):Int)).toNat]?.getD default).L) i1
     refine ⟨{ h' with sn:=?_,st:=h'.st.lock,us:=?_,kn:=(h'.kn.lock).task hcb.tl hk (.inl (by rw [ho];decide)) (by show (w.Tasks[k.toNat]?.getD default).Op≠2;rw [ho];decide),tx:=?_,lk:=?_ },hwt,rfl,rfl⟩
     · show (((List.length (w.St.set _ _)):Nat):Int)=_
       rw [List.length_set];exact h.sn
     · show w.Used=aY byT (bW (w.St.set _ _))∧_
       rw [mP];exact h.us
     · exact pT (fun j hj _=>h'.tx j hj) (fun _=>{ hx with pc:=.inr (.inl rfl),no:=fun q=>(no0 (q:=q)).elim,o3:=fun _ q=>(by cases q),on:=fun _ _=>hon,hd:=fun q=>(no2 (q:=q)).elim,dl:=fun q=>(no2 (q:=q)).elim }) hcb.tl
     · show LkV (List.length (w.St.set _ _)) _ (w.Tasks.set _ _) w.RuleHeld
       rw [List.length_set]
       refine h.lk.put hcb.tl hk (i0:=(aD (w.Tasks[k.toNat]?.getD default).S.Trace ((w.St.length:Nat):Int)).toNat) i1 ?_ ?_ q2 (f1.trans (xV hk0)) f2 ?_
       · unfold hS
         rw [if_neg (by rintro ⟨_,q⟩;rw [hp] at q;cases q),if_neg (by
          rintro (⟨_,q⟩ | ⟨q,_⟩)
          · rw [hp] at q;cases q
          · exact no2 (q:=q))]
       · unfold hS
         rw [if_pos ⟨ho,rfl⟩]
         exact i2
       · unfold hR
         exact ⟨fun q=>(no2 (q:=q.1)).elim,fun q=>(no2 (q:=q.1)).elim⟩
   | false =>
     cases q1:((w.Tasks[k.toNat]?.getD default).Pc==1) with
     | true =>
       have hp:(w.Tasks[k.toNat]?.getD default).Pc=1:=by simpa using q1
       refine dD (fun q=>?_)
       obtain ⟨a1,a2,a3,a4⟩:=d6h h hcb hw hm hn hk ho hp q
       exact ⟨_,a1,a2,a3,a4,rfl⟩
     | false =>
       cases q2:((w.Tasks[k.toNat]?.getD default).Pc==2) with
       | true =>
         have hp:(w.Tasks[k.toNat]?.getD default).Pc=2:=by simpa using q2
         refine dD (fun q=>?_)
         obtain ⟨a1,a2,a3,a4⟩:=d5t h hcb hk hk0 ho hp q
         obtain ⟨b1,b2,b3⟩:=c8b (w:=w) (k:=k)
         refine ⟨_,a1,a2,a3,a4,?_⟩
         show (_,_,_,_,_,_,_,_,_,w.Cache,w.Queue,_,w.Deeds)=_
         rw [←b1,←b2,←b3]
       | false =>
         have hp:(w.Tasks[k.toNat]?.getD default).Pc=3:=by
          rcases hx.pc with q | q | q | q
          · rw [q] at q0;cases q0
          · rw [q] at q1;cases q1
          · rw [q] at q2;cases q2
          · exact q
         refine fV (r:=(true,_)) (fun _=>?_)
         obtain ⟨a1,a2,a3,a4,a5⟩:=d3w h hcb hw hm hk ho hp
         refine ⟨a1.of rfl rfl rfl rfl rfl rfl rfl rfl a3.symm a5.symm a4.symm rfl rfl rfl,?_,rfl,rfl⟩
         show IntKind.i64.wrap ((gK w k).Time+1)=_
         rw [a2];exact hwt
 · cases q:s.1 with
   | false=>exact fun q=>by cases q
   | true =>
     intro _
     obtain ⟨v,hv,e1,e2,e3,e4⟩:=hs q
     show WV (n+1) (w.Time+1) (World.mk _ _ _ _ _ _ _ _ _ _ _ _ _ _ _)∧_
     rw [e4]
     refine ⟨hv.of rfl rfl rfl rfl rfl rfl rfl rfl e2.symm rfl e3.symm rfl rfl rfl,?_,rfl,rfl⟩
     show IntKind.i64.wrap (v.Time+1)=_
     rw [e1];exact hwt
theorem c7u {n m:Nat} {w:World} {k:Int} (h:WV n w.Time w) (hcb:CB n 0 w) (hw:WI m w) (hm:m≤880000) (hn:n≤1000000) (hk0:0≤k) (hk:k.toNat < 5) (ho:(w.Tasks[k.toNat]?.getD default).Op=2):LZ n w (gI w k):=by
 have h':WV (n+1) (w.Time+1) w:=h.later (Nat.le_succ n) (by omega)
 have hx:=h'.tx _ hk
 have hwt:=hcb.time hn
 have no0:∀{q:(w.Tasks[k.toNat]?.getD default).Op=0},False:=fun {q}=>by rw [q] at ho;cases ho
 have no1:∀{q:(w.Tasks[k.toNat]?.getD default).Op=1},False:=fun {q}=>by rw [q] at ho;cases ho
 unfold gI
 cases q0:((w.Tasks[k.toNat]?.getD default).Pc==0) with
 | true =>
   have hp:(w.Tasks[k.toNat]?.getD default).Pc=0:=by simpa using q0
   rw [cond_true]
   refine aH (P:=LZ n w) (fun _ q=>by cases q) (fun q2 _=>?_)
   have q2:(w.St[((aD (w.Tasks[k.toNat]?.getD default).Trace (((w.St).length:Nat):Int))).toNat]?.getD default).Held=-1:=by simpa using q2
   obtain ⟨i1,i2⟩:=mF h.st.ln (w.Tasks[k.toNat]?.getD default).Trace
   obtain ⟨f1,f2⟩:=vT (a:=k) (L:=(w.St[(aD (w.Tasks[k.toNat]?.getD default).Trace ((w.St.length:Nat):Int)).toNat]?.getD default).L) i1
   refine ⟨{ h' with sn:=?_,st:=h'.st.lock,us:=?_,kn:=(h'.kn.lock).step hcb.tl hk rfl rfl rfl (fun _=>by show (1:Int)≠3;decide),tx:=?_,lk:=?_ },hwt,rfl,rfl⟩
   · show (((List.length (w.St.set _ _)):Nat):Int)=_
     rw [List.length_set];exact h.sn
   · show w.Used=aY byT (bW (w.St.set _ _))∧_
     rw [mP];exact h.us
   · exact pT (fun j hj _=>h'.tx j hj) (fun _=>{ hx with pc:=.inr (.inl rfl),no:=fun q=>(no0 (q:=q)).elim,of:=fun q=>(no1 (q:=q)).elim,o3:=fun q=>(no1 (q:=q)).elim,on:=fun q=>(no1 (q:=q)).elim,hd:=fun _ q=>(by cases q),dl:=fun _ q=>(by cases q),ds:=fun q=>(no1 (q:=q)).elim }) hcb.tl
   · show LkV (List.length (w.St.set _ _)) _ (w.Tasks.set _ _) w.RuleHeld
     rw [List.length_set]
     refine h.lk.put hcb.tl hk (i0:=(aD (w.Tasks[k.toNat]?.getD default).Trace ((w.St.length:Nat):Int)).toNat) i1 ?_ ?_ q2 (f1.trans (xV hk0)) f2 ?_
     · unfold hS
       rw [if_neg (by rintro ⟨q,_⟩;exact no1 (q:=q)),if_neg (by
        rintro (⟨q,_⟩ | ⟨_,q | q⟩)
        · exact no1 (q:=q)
        · rw [hp] at q;cases q
        · rw [hp] at q;cases q)]
     · unfold hS
       rw [if_neg (by rintro ⟨q,_⟩;exact no1 (q:=q)),if_pos (.inr ⟨ho,.inl rfl⟩)]
       exact i2
     · unfold hR
       rw [hp]
       exact ⟨fun q=>(by cases q.2),fun q=>(by cases q.2)⟩
 | false =>
   rw [cond_false]
   cases q1:((w.Tasks[k.toNat]?.getD default).Pc==1) with
   | true =>
     have hp:(w.Tasks[k.toNat]?.getD default).Pc=1:=by simpa using q1
     rw [cond_true]
     refine aH (P:=LZ n w) (fun _ q=>by cases q) (fun q2 _=>?_)
     have q2:w.RuleHeld=-1:=by simpa using q2
     refine ⟨{ h' with kn:=h'.kn.step hcb.tl hk rfl rfl rfl (fun _=>by show (2:Int)≠3;decide),tx:=?_,lk:=?_ },hwt,rfl,rfl⟩
     · exact pT (fun j hj _=>h'.tx j hj) (fun _=>{ hx with pc:=.inr (.inr (.inl rfl)),no:=fun q=>(no0 (q:=q)).elim,of:=fun q=>(no1 (q:=q)).elim,o3:=fun q=>(no1 (q:=q)).elim,on:=fun q=>(no1 (q:=q)).elim,hd:=fun _ q=>(by cases q),dl:=fun _ q=>(by cases q),ds:=fun q=>(no1 (q:=q)).elim }) hcb.tl
     · have hlk:=h.lk
       rw [q2] at hlk
       have:=hlk.rule hcb.tl hk (x:={ (w.Tasks[k.toNat]?.getD default) with Pc:=2 }) (by
        unfold hS
        rw [if_neg (by rintro ⟨q,_⟩;exact no1 (q:=q)),if_pos (.inr ⟨ho,.inr rfl⟩),if_neg (by rintro ⟨q,_⟩;exact no1 (q:=q)),if_pos (.inr ⟨ho,.inl hp⟩)]) ⟨ho,rfl⟩
       rw [←xV hk0] at this
       exact this
   | false =>
     rw [cond_false]
     cases q2:((w.Tasks[k.toNat]?.getD default).Pc==2) with
     | true =>
       have hp:(w.Tasks[k.toNat]?.getD default).Pc=2:=by simpa using q2
       rw [cond_true]
       intro _
       obtain ⟨a1,a2,a3,a4,a5⟩:=d7i h hcb hw hm hk ho hp
       refine ⟨a1.of rfl rfl rfl rfl rfl rfl rfl rfl a3.symm a5.symm a4.symm rfl rfl rfl,?_,rfl,rfl⟩
       show IntKind.i64.wrap ((fI w k).Time+1)=_
       rw [a2];exact hwt
     | false =>
       have hp:(w.Tasks[k.toNat]?.getD default).Pc=3:=by
        rcases hx.pc with q | q | q | q
        · rw [q] at q0;cases q0
        · rw [q] at q1;cases q1
        · rw [q] at q2;cases q2
        · exact q
       have hpush:=d5y h hcb hk ho hp (hx.hd ho hp)
       show LZ n w (bif (!(cU w k).1) then _ else _)
       cases q3:(cU w k).1 with
       | false=>exact fun q=>by cases q
       | true =>
         intro _
         obtain ⟨a1,a2,a3,a4⟩:=hpush q3
         have hf:(cU w k).2.St=w.St∧(cU w k).2.Cache=w.Cache:=by
          show (fun z:Bool×World=>z.2.St=w.St∧z.2.Cache=w.Cache) (cU w k)
          unfold cU
          exact aH (P:=fun z:Bool×World=>z.2.St=w.St∧z.2.Cache=w.Cache) (fun _=>⟨rfl,rfl⟩) (fun _=>aH (P:=fun z:Bool×World=>z.2.St=w.St∧z.2.Cache=w.Cache) (fun _=>⟨rfl,rfl⟩) (fun _=>⟨rfl,rfl⟩))
         refine ⟨a1.of rfl rfl hf.1.symm rfl rfl hf.2.symm rfl rfl a3.symm rfl a4.symm rfl rfl rfl,?_,rfl,rfl⟩
         show IntKind.i64.wrap ((cU w k).2.Time+1)=_
         rw [a2];exact hwt
theorem d6x {n m:Nat} {w:World} {k:Int} (h:WV n w.Time w) (hcb:CB n 0 w) (hw:WI m w) (hm:m≤880000) (hn:n≤1000000) (hk0:0≤k) (hk:k.toNat < 5):VR n w (gC w k)∧((gC w k).1=true→(gC w k).2.Out=w.Out):=by
 show (fun z:Bool×World=>VR n w z∧(z.1=true→z.2.Out=w.Out)) (gC w k)
 unfold gC
 refine aH (P:=fun z:Bool×World=>VR n w z∧(z.1=true→z.2.Out=w.Out)) (fun q=>⟨fun q2=>?_,fun _=>rfl⟩) (fun q=>aH (P:=fun z:Bool×World=>VR n w z∧(z.1=true→z.2.Out=w.Out)) (fun q1=>⟨fun q2=>?_,fun _=>rfl⟩) (fun q1=>aH (P:=fun z:Bool×World=>VR n w z∧(z.1=true→z.2.Out=w.Out)) (fun _=>⟨fun q=>(by cases q),fun _=>rfl⟩) (fun q3=>aH (P:=fun z:Bool×World=>VR n w z∧(z.1=true→z.2.Out=w.Out)) (fun _=>⟨fun q=>(by cases q),fun _=>rfl⟩) (fun q4=>⟨fun _=>?_,fun _=>rfl⟩))))
 · obtain ⟨a1,a2,a3,a4⟩:=c7v h hcb hw hm hn hk0 hk (by simpa using q) q2
   exact ⟨a1.of rfl rfl rfl rfl rfl rfl rfl rfl a3.symm rfl a4.symm rfl rfl rfl,a2⟩
 · obtain ⟨a1,a2,a3,a4⟩:=c7u h hcb hw hm hn hk0 hk (by simpa using q1) q2
   exact ⟨a1.of rfl rfl rfl rfl rfl rfl rfl rfl a3.symm rfl a4.symm rfl rfl rfl,a2⟩
 · have q3:=of_decide_eq_false q3
   have hdu:w.Due≠[]:=by
    intro e
    rw [e] at q4;cases q4
   obtain ⟨a1,a2⟩:=d4e h hcb hn (by omega) hk (by simpa using q) (by simpa using q1) hdu
   exact ⟨a1.of rfl rfl rfl rfl rfl rfl rfl rfl rfl rfl rfl rfl rfl rfl,a2⟩
theorem d6w {n m:Nat} {w:World} {e:Event} (h:WV n w.Time w) (hcb:CB n 0 w) (hw:WI m w) (hm:m≤880000) (hn:n≤1000000) (he:eH e.S=true→a2v e.S.Trace):VR n w (gR w e):=by
 have h':WV (n+1) (w.Time+1) w:=h.later (Nat.le_succ n) (by omega)
 have hwt:=hcb.time hn
 have hnow:=h.now
 unfold gR
 refine aH (P:=VR n w) (fun _=>aH (P:=VR n w) (fun _ q=>by cases q) (fun q1=>aH (P:=VR n w) (fun _ q=>by cases q) (fun q2 _=>?_))) (fun _=>aH (P:=VR n w) (fun _=>aH (P:=VR n w) (fun q1 q2=>?_) (fun _ q=>by cases q)) (fun _=>aH (P:=VR n w) (fun _=>aH (P:=VR n w) (fun _ q=>by cases q) (fun q1=>aH (P:=VR n w) (fun _ q=>by cases q) (fun q2 _=>?_))) (fun _=>aH (P:=VR n w) (fun _=>aH (P:=VR n w) (fun _ q=>by cases q) (fun q1 _=>?_)) (fun _=>aH (P:=VR n w) (fun _=>aH (P:=VR n w) (fun _ q=>by cases q) (fun q1 _=>?_)) (fun _ q=>by cases q)))))
 · have hk:=bD.1 (nf q1)
   have q2:(w.Tasks[e.K.toNat]?.getD default).Op=0:=by simpa using q2
   have hf:(dA w e.K e.S).Out=w.Out∧(dA w e.K e.S).Queue=w.Queue∧(dA w e.K e.S).St=w.St∧(dA w e.K e.S).Cache=w.Cache∧(dA w e.K e.S).Due=w.Due:=by
    unfold dA kA jZ
    cases (!iA w.C e.S) <;> exact ⟨rfl,rfl,rfl,rfl,rfl⟩
   obtain ⟨a1,a2⟩:=d3e (s:=e.S) h hcb hn hk.1 (by omega) q2 he
   exact ⟨a1.of rfl rfl hf.2.2.1.symm rfl rfl hf.2.2.2.1.symm rfl rfl hf.2.2.2.2.symm hf.2.1.symm hf.1.symm rfl rfl rfl,a2⟩
 · have hk:=bD.1 q1
   obtain ⟨a,b⟩:=d6x h hcb hw hm hn hk.1 (k:=e.K) (by omega)
   have q2:(gC w e.K).1=true:=q2
   obtain ⟨a1,a2⟩:=a q2
   exact ⟨a1.of rfl rfl rfl rfl rfl rfl rfl rfl rfl rfl (b q2).symm rfl rfl rfl,a2⟩
 · have hk:=bD.1 (nf q1)
   have q2:=of_decide_eq_false q2
   rw [Go.Ev.wrap_small (by omega) (by omega)] at q2
   obtain ⟨b1,b2,b3,b4⟩:=d7g (k:=e.K) h.kn.wh h.kn.un (by omega) (by omega)
   refine ⟨{ h' with st:=?_,bu:=?_,kn:=?_,sh:=fun q=>?_ },hwt⟩
   · show StV (cV w.W e.K).1.Now w.Next w.St
     rw [b2];exact h.st.mono (by omega) (Int.le_refl _)
   · show BuV w.C (cV w.W e.K).1.Now w.B
     rw [b2]
     exact { h.bu with at':=by have:=h.bu.at';omega }
   · exact h.kn.tick b1 (by show (cV w.W e.K).1.Now≤100000;rw [b2];omega) b3
   · have hz:=h.sh q
     rw [hz] at b3
     have:=List.append_eq_nil_iff.1 b3.eq_nil
     exact this.2
 · have hq:((w.Queue.length:Nat):Int)≠0:=by simpa using q1
   have hz:0 < w.Queue.length:=by omega
   refine ⟨{ h' with qu:=⟨?_,fun x hx=>h.qu.2.1 x (List.mem_of_mem_drop (List.mem_of_mem_take hx)),fun x hx=>?_⟩ },hwt⟩
   · show (((List.length (List.take (w.Queue.length - 1) (List.drop 1 w.Queue))):Nat):Int)≤w.C.Queue
     have:=h.qu.1
     rw [List.length_take,List.length_drop];omega
   · rcases List.mem_append.1 hx with hx | hx
     · exact h.qu.2.2 x hx
     · obtain rfl:=List.mem_singleton.1 hx
       rw [List.getElem?_eq_getElem hz]
       exact h.qu.2.1 _ (List.getElem_mem hz)
 · have htm:=hcb.tm
   obtain ⟨b1,b2⟩:=a8u (n:=w.W.Now) (by omega)
   refine ⟨{ h' with kn:=?_,sh:=fun _=>b2,de:=?_,tx:=fun j hj=>(h'.tx j hj).app (hcb.tk j hj) },hwt⟩
   · refine h.kn.tick b1 (by show w.W.Now≤100000;omega) ?_
     rw [b2,List.append_nil]
   · intro d hd
     rcases List.mem_append.1 hd with hd | hd
     · exact h'.de d hd
     · obtain rfl:=List.mem_singleton.1 hd
       exact { op:=by show 1≤(4:Int)∧(4:Int)≤4;omega,nn:=⟨Int.le_refl 0,Int.le_refl 0,Int.le_refl 0,hnow.1,htm.1⟩,iv:=by show w.Time < w.Time+1;omega,li:=.inr ⟨Int.le_refl _,by show w.Time < w.Time+1;omega⟩,re:=.inr ⟨by show w.Time≠-1;omega,Int.le_refl _,by show w.Time < w.Time+1;omega⟩,c0:=fun _=>rfl,c1:=fun q=>(by cases q),c2:=fun q=>(by cases q) }
theorem d5x {J:Nat→World→Prop} {EV:Event→Prop} (he:∀c w,CurOk c→EV (gH c w).1) (h0:∀c,dH c=true→Conf.bd 1000 c→J 0 (bF c)) (hstep:∀n m w e,n≤150→WI m w→m≤880000→EV e→J n w→(gR w e).1=true→J (n+1) (gR w e).2) {p0:Cur} {p1:Int} (hs:CurOk p0) (hp:0 < p1∧p1≤200) :
 WI 751000 (iG p0 p1).1∧∃n,n≤150∧J n (iG p0 p1).1:=by
 show (fun z:World×(List Event)×World×Cur=>WI 751000 z.2.2.1∧∃n,n≤150∧J n z.2.2.1) (lW p0 p1)
 unfold lW
 have hz:=b1n hs
 have hc:=a6x hs
 have hz2:=bI (n:=p1) hz
 have hb:=iT (eZ p0).2 (n:=p1) hp.1 (by omega)
 show (fun z:World×(List Event)×World×Cur=>WI 751000 z.2.2.1∧∃n,n≤150∧J n z.2.2.1) (Fin.get _ (eP tM _ _))
 refine lF (P:=fun s:Cur×World×List Event×Int=>CurOk s.1∧WI (1000+5000*s.2.2.1.length) s.2.1∧s.2.2.1.length≤150∧0≤s.2.2.2∧s.2.2.2≤300∧∃n,n≤s.2.2.1.length∧J n s.2.1) (Q:=fun z:World×(List Event)×World×Cur=>WI 751000 z.2.2.1∧∃n,n≤150∧J n z.2.2.1) (vZ (P:=fun s:Cur×World×List Event×Int=>CurOk s.1∧WI (1000+5000*s.2.2.1.length) s.2.1∧s.2.2.1.length≤150∧0≤s.2.2.2∧s.2.2.2≤300∧∃n,n≤s.2.2.1.length∧J n s.2.1) (Q:=fun z:World×(List Event)×World×Cur=>WI 751000 z.2.2.1∧∃n,n≤150∧J n z.2.2.1) (fun s hP=>?_) _ _ ?_) (fun v hv=>?_)
 · obtain ⟨a1,a2,a3,a4,a5,n,a6,a7⟩:=hP
   unfold tM
   by_cases hi:s.2.2.2 > 0
   · rw [decide_eq_true hi,cond_true]
     by_cases hl:((s.2.2.1.length:Nat):Int) < 150
     rotate_left
     · rw [decide_eq_false hl,cond_false]
       exact rC ⟨a1,a2,a3,a4,a5,n,a6,a7⟩
     rw [decide_eq_true hl,cond_true]
     have hE:=zY (c:=s.1) (w:=s.2.1) a1
     have hV:=he s.1 s.2.1 a1
     have hC:=b1l (c:=s.1) (w:=s.2.1) a1
     have hw:IntKind.i64.wrap (s.2.2.2 - 1)=s.2.2.2 - 1:=Go.Ev.wrap_small (by omega) (by omega)
     simp only [aZ,tV,hw]
     cases hok:(gR s.2.1 (gH s.1 s.2.1).1).1 with
     | true =>
       rw [cond_true]
       refine dD ⟨hC,?_,?_,?_,?_,n+1,?_,?_⟩
       · show WI (1000+5000*(s.2.2.1++[_]).length) _
         rw [jP]
         exact b9k a2 hE (by omega) (by omega)
       · show (s.2.2.1++[_]).length≤150
         rw [jP];omega
       · show 0≤s.2.2.2 - 1
         omega
       · show s.2.2.2 - 1≤300
         omega
       · show n+1≤(s.2.2.1++[_]).length
         rw [jP];omega
       · exact hstep n _ _ _ (by omega) a2 (by omega) hV a7 hok
     | false =>
       rw [cond_false]
       refine dD ⟨hC,?_,?_,?_,?_,n,?_,a7⟩
       · show WI (1000+5000*(s.2.2.1++[_]).length) _
         rw [jP]
         exact a2.mono (by omega)
       · show (s.2.2.1++[_]).length≤150
         rw [jP];omega
       · show 0≤s.2.2.2 - 1
         omega
       · show s.2.2.2 - 1≤300
         omega
       · show n≤(s.2.2.1++[_]).length
         rw [jP];omega
   · rw [decide_eq_false hi,cond_false]
     exact rC ⟨a1,a2,a3,a4,a5,n,a6,a7⟩
 · have hw:IntKind.i64.wrap (10+(aG (eZ p0).2 p1).1)=10+(aG (eZ p0).2 p1).1:=Go.Ev.wrap_small (by omega) (by omega)
   refine ⟨hz2,?_,Nat.zero_le _,?_,?_,0,Nat.zero_le _,?_⟩
   · show WI 1000 (iH _)
     rw [tV];exact a2p hc.1 hc.2
   · show 0≤IntKind.i64.wrap (10+(aG (eZ p0).2 p1).1)
     rw [hw];omega
   · show IntKind.i64.wrap (10+(aG (eZ p0).2 p1).1)≤300
     rw [hw];omega
   · show J 0 (iH _)
     rw [tV];exact h0 _ hc.1 hc.2
 · obtain ⟨a1,a2,a3,_,_,n,a6,a7⟩:=hv
   exact ⟨a2.mono (by omega),n,by omega,a7⟩
def tF (n:Int):Prop:=n=0∨n=1000∨a2v n
theorem c3g {c:Cur} (h:CurOk c):tF (cF c).1.Trace:=by
 have hb:=iT c (n:=5) (by omega) (by omega)
 have hw:IntKind.i64.wrap (1+(aG c 5).1)=1+(aG c 5).1:=Go.Ev.wrap_small (by omega) (by omega)
 show tF (IntKind.i64.wrap (1+(aG c 5).1))
 rw [hw]
 unfold tF a2v
 omega
theorem d7f {c:Cur} (h:CurOk c):tF (jB c).1.Trace:=by
 have h1:=c3g h
 have h2:=qI h
 have h3:=bI (n:=12) h2
 have hm:tF (bM (aG (cF c).2 12).2 [0,999,1000]).1:=by
  have:=sU (c:=(aG (cF c).2 12).2) (l:=[0,999,1000]) ⟨by decide,by decide⟩
  simp only [List.mem_cons,List.not_mem_nil,or_false] at this
  unfold tF a2v
  omega
 unfold jB
 simp only [aZ]
 refine aH (P:=fun z:Span×Cur=>tF z.1.Trace) (fun _=>hm) (fun _=>aH (P:=fun z:Span×Cur=>tF z.1.Trace) (fun _=>h1) (fun _=>aH (P:=fun z:Span×Cur=>tF z.1.Trace) (fun _=>h1) (fun _=>aH (P:=fun z:Span×Cur=>tF z.1.Trace) (fun _=>h1) (fun _=>aH (P:=fun z:Span×Cur=>tF z.1.Trace) (fun _=>h1) (fun _=>aH (P:=fun z:Span×Cur=>tF z.1.Trace) (fun _=>h1) (fun _=>h1))))))
def a2z (e:Event):Prop:=tF e.S.Trace
theorem d7o {v2:Span×Cur} {v3:List Attr×Cur} (h4:tF v2.1.Trace) (h5:tF (jB (cH v3.2 16).2).1.Trace):∃s,eN v3 v2=.next s∧a2z (Event.mk 1 (aG s.1 3).1 s.2):=by
 unfold eN
 simp only [aZ]
 cases (cH v3.2 16).1
 · exact ⟨_,rfl,h4⟩
 · exact ⟨_,rfl,h5⟩
theorem d3f (c:Cur) (w:World) (h:CurOk c):a2z (gH c w).1:=by
 have z0:tF 0:=.inl rfl
 unfold gH
 refine uU (st:=jJ c) (P:=fun _=>True) (Q:=fun z:Event×Cur=>a2z z.1) ?_ (fun s _=>?_)
 · unfold jJ
   obtain ⟨s,e⟩:=jn2 (v1:=aG c 12)
   show (∀v,Step.get _ (hY (aG c 12))=.next v→True)∧(∀v,Step.get _ (hY (aG c 12))=.stop v→True)∧∀r,Step.get _ (hY (aG c 12))=.done r→a2z r.1
   rw [e]
   have hv:=bI (n:=12) h
   refine cO ?_ (cO (fV (r:=(Event.mk 3 _ _,_)) z0) (cO (fV z0) (cO (cO (fV (r:=(Event.mk 5 _ _,_)) z0) (dD trivial)) (dD trivial))))
   obtain ⟨s3,e3,h3⟩:=d7o (v2:=cF (aG c 12).2) (v3:=cX (cF (aG c 12).2).2) (c3g hv) (d7f (fD (wB (qI hv)).1))
   show (∀v,Step.get _ (eN (cX (cF (aG c 12).2).2) (cF (aG c 12).2))=.next v→True)∧(∀v,Step.get _ (eN (cX (cF (aG c 12).2).2) (cF (aG c 12).2))=.stop v→True)∧∀r,Step.get _ (eN (cX (cF (aG c 12).2).2) (cF (aG c 12).2))=.done r→a2z r.1
   rw [e3]
   exact fV (r:=(Event.mk 1 (aG s3.1 3).1 s3.2,(aG s3.1 3).2)) h3
 · refine lF (P:=fun _=>True) (Q:=fun z:Event×Cur=>a2z z.1) (wP (P:=fun _=>True) (Q:=fun z:Event×Cur=>a2z z.1) (fun i s _=>?_) _ _ _ trivial) (fun v _=>z0)
   unfold mQ
   rcases jn5 (w:=w) (s:=s) with ⟨z,e⟩ | e <;> rw [e]
   · exact dD trivial
   · exact rC trivial
theorem d7p {e:Event} (h:a2z e) (hs:eH e.S=true):a2v e.S.Trace:=by
 have:=(a7z hs).1
 unfold a2z tF at h
 rcases h with h | h | h
 · omega
 · omega
 · exact h
theorem d7k {c:Conf} (h:dH c=true):WV 0 0 (bF c):=by
 obtain ⟨h1,h2,h3,h4,h5,h6,h7,h8,h9,h10,h11,h12,h13,h14,h15,h16⟩:=a2o h
 have hc:=wH h
 obtain ⟨b1,b2⟩:=a8u (n:=0) (by omega)
 have hW:bT={ bT with Now:=0 }:=rfl
 rw [←hW] at b1 b2
 have hL:∀i:Nat,i < (bF c).St.length→(bF c).St[i]?.getD default=Stripe.mk (-1) []:=fun i hi=>h7 _ (oF hi)
 have hall:bW (bF c).St=[]:=by
  cases e:bW (bF c).St with
  | nil=>rfl
  | cons t l =>
    obtain ⟨i,hi,ht⟩:=vO.1 (show t∈bW (bF c).St by rw [e];exact List.mem_cons_self ..)
    rw [hL i hi] at ht;cases ht
 have ht:∀k:Nat,k < 5→(bF c).Tasks[k]?.getD default=pM:=fun k hk=>by rw [h5,List.getElem?_replicate,if_pos hk];rfl
 have hnow:(bF c).W.Now=0:=by rw [h9];rfl
 refine ⟨by rw [h10];exact h,by rw [h11];decide,by rw [h16,h10];omega,⟨by rw [h16];omega,fun i hi t hm=>?_,fun i=>?_,by rw [hall];exact fun t hm=>(by cases hm),by rw [hall];exact List.nodup_nil⟩,⟨by rw [h12,hall];rfl,by rw [h12,h10];omega⟩,?_,⟨by rw [h6];exact fun x hx=>(by cases hx),by rw [h6];exact List.nodup_nil,by rw [h6,h10];show (0:Int)≤_;omega⟩,⟨by rw [h9];exact b1,by rw [h9,b2];exact List.nodup_nil,by rw [hnow];decide,by rw [h9,b2,h8];exact fun x hx=>(by cases hx),by rw [h9,b2];exact fun x hx=>(by cases hx),by rw [h9,b2];exact fun x hx=>(by cases hx),by rw [h9,b2];exact fun x hx=>(by cases hx),by rw [hall];exact fun x hx=>(by cases hx)⟩,by rw [h13];exact fun q=>(by cases q),⟨by rw [h3,h10];show (0:Int)≤_;omega,by rw [h3];exact fun x hx=>(by cases hx),by rw [h2];exact fun x hx=>(by cases hx)⟩,by rw [h1];exact fun x hx=>(by cases hx),fun k hk=>by rw [ht k hk];exact a7w,⟨fun k hk hp=>?_,fun i hi=>.inl (by show ((bF c).St[i]?.getD default).Held=-1;rw [hL i hi]),fun k hk hp=>?_,.inl h14⟩⟩
 · rw [hL i hi] at hm;cases hm
 · by_cases hi:i < (bF c).St.length
   · rw [hL i hi];exact List.Pairwise.nil
   · rw [List.getElem?_eq_none (by omega)];exact List.Pairwise.nil
 · rw [h15,h10,hnow]
   exact ⟨rfl,rfl,⟨by show 0≤c.Burst;omega,Int.le_refl _⟩,⟨Int.le_refl 0,Int.le_refl 0⟩⟩
 · rw [ht k hk] at hp
   have:hS pM (bF c).St.length=-1:=by
    unfold hS
    rw [if_neg (by rintro ⟨q,_⟩;cases q),if_neg (by rintro (⟨q,_⟩ | ⟨q,_⟩) <;> cases q)]
   omega
 · rw [ht k hk] at hp;cases hp.1
theorem d1f {p0:Cur} {p1:Int} (hs:CurOk p0) (hp:0 < p1∧p1≤200):WI 751000 (iG p0 p1).1∧∃n,n≤150∧CB n 0 (iG p0 p1).1∧WV n (iG p0 p1).1.Time (iG p0 p1).1:=by
 refine d5x (J:=fun n w=>CB n 0 w∧WV n w.Time w) (EV:=a2z) d3f (fun c hc _=>⟨d6c hc,?_⟩) (fun n m w e hn hw hm he hJ hok=>⟨d3z hJ.1 (by omega) hw hm,?_⟩) hs hp
 · rw [(a2o hc).2.2.2.1];exact d7k hc
 · obtain ⟨a1,a2⟩:=d6w hJ.2 hJ.1 hw hm (by omega) (fun q=>d7p he q) hok
   rw [a2];exact a1
theorem d6v {p0:List Int} (hl:p0.length≤4611686018427387904):WI 751000 (aW p0)∧∃n,n≤150∧CB n 0 (aW p0)∧WV n (aW p0).Time (aW p0):=d1f (b8y hl) (b5z hl)
theorem d7r {p0:List Int} (hl:p0.length≤4611686018427387904):World.bd 1048576 (aW p0):=(d6v hl).1.world (by omega) (by omega)
def aM (p0:Int) (p1:Int) (p2:Int):Bool :=
 (bif (decide (p0≥p1)) then (decide (p0≤p2)) else false)
theorem bH (p0:Int) (p1:Int) (p2:Int):FnOk prog 30 [.one (.v (.int .i64 p0)),.one (.v (.int .i64 p1)),.one (.v (.int .i64 p2))] ⟨.one (.v (.bool (aM p0 p1 p2))),[],[],false⟩:=by
 refine FnOk.intro (E:=env) aK aS func30 rfl (by kernel_rfl) rfl rfl ?_
 have hg:=aM.eq_1 p0 p1 p2
 have hown:=dP
 exact aA (aA (brD hg (fun hg h1=>aE hown hg) (fun hg h1=>aE hown hg)))
def a3s (p0:ByteArray) (i1:Nat) (s1:Unit):Step (Unit) Bool :=
 (bif (decide ((((p0).data.getD i1 0).toNat:Int) < 97)) then (.done false) else (bif (decide ((((p0).data.getD i1 0).toNat:Int) > 122)) then (.done false) else (.next ())))
def lZ (p0:ByteArray):Bool :=
 (Fin.get (fun s1=>(aM (((p0).size:Nat):Int) 1 8)) (cJ (a3s p0) 0 () (p0).size))
theorem vG (p0:ByteArray):FnOk prog 132 [.one (.v (.string p0))] ⟨.one (.v (.bool (lZ p0))),[],[],false⟩:=by
 refine FnOk.intro (E:=env) aK aS func132 rfl (by kernel_rfl) rfl rfl ?_
 have hg:=lZ.eq_1 p0
 have hown:=dP
 exact aA (aA (aA (a0w hg [0] (fun x1=>[(3,.one (.v (.int .i64 ((x1.i:Nat):Int))))]) (fun x1=>[]) [] ((by repeat' constructor)) (fun x1=>aA (aA (vP fun hN1=>cT (fun hi1=>have hb1:=(x1.bdy hi1).trans (a3s.eq_1 ..);have hw1:=aT hi1 (by assumption);aA (aA (bK (by (omega)) (nC hb1 (fun hb1 h2=>bK (by (omega)) (brD hb1 (fun hb1 h3=>aA (have hg:=cQ hg (x1.outD hi1 hb1);aE hown hg)) (fun hb1 h3=>x1.goE hi1 hb1 [] ⟨rfl,⟨(bA hw1),rfl,trivial⟩,trivial,trivial⟩))) (fun hb1 h2=>aA (have hg:=cQ hg (x1.outD hi1 hb1);aE hown hg)))))) (fun hi1=>have hg:=bZ hg (x1.fin hi1);aA (vP fun hN4=>.inl (⟨_,_,bH (((p0).size:Nat):Int) 1 8,(FzAs.same _),aB (m:=1) rfl (aE hown hg)⟩)))))))))
def sF (p0:ByteArray) (i1:Nat) (s1:Unit):Step (Unit) Bool :=
 (bif (!(aM (IntKind.i64.wrap (((p0).data.getD i1 0).toNat:Int)) 32 126)) then (.done false) else (bif ((((p0).data.getD i1 0).toNat:Int)==34) then (.done false) else (.next ())))
def mK (p0:ByteArray):Bool :=
 (Fin.get (fun s1=>(decide ((((p0).size:Nat):Int)≤20))) (cJ (sF p0) 0 () (p0).size))
theorem a4f (p0:ByteArray):FnOk prog 133 [.one (.v (.string p0))] ⟨.one (.v (.bool (mK p0))),[],[],false⟩:=by
 refine FnOk.intro (E:=env) aK aS func133 rfl (by kernel_rfl) rfl rfl ?_
 have hg:=mK.eq_1 p0
 have hown:=dP
 exact aA (aA (aA (a0w hg [0] (fun x1=>[(3,.one (.v (.int .i64 ((x1.i:Nat):Int))))]) (fun x1=>[]) [] ((by repeat' constructor)) (fun x1=>aA (aA (vP fun hN1=>cT (fun hi1=>have hb1:=(x1.bdy hi1).trans (sF.eq_1 ..);have hw1:=aT hi1 (by assumption);aA (aA (bK (by (omega)) (.inl (⟨_,_,bH (IntKind.i64.wrap (((p0).data.getD x1.i 0).toNat:Int)) 32 126,(FzAs.same _),aB (m:=1) rfl (brF hb1 (fun hb1 h2=>bK (by (omega)) (brQ hb1 (fun hb1 h3=>aA (have hg:=cQ hg (x1.outD hi1 hb1);aE hown hg)) (fun hb1 h3=>x1.goE hi1 hb1 [] ⟨rfl,⟨(bA hw1),rfl,trivial⟩,trivial,trivial⟩))) (fun hb1 h2=>aA (have hg:=cQ hg (x1.outD hi1 hb1);aE hown hg)))⟩))))) (fun hi1=>have hg:=bZ hg (x1.fin hi1);aA (vP fun hN4=>aE hown hg))))))))
def pP (p0:Pol):Step (Bool) Bool :=
 (bif (p0.N==0) then (bif (decide (p0.Key=(ByteArray.mk #[]))) then (.next (decide (p0.Text=(ByteArray.mk #[])))) else (.next false)) else (.next false))
def pO (p0:Pol):Step (Bool) Bool :=
 (bif (p0.Kind==1) then (.next (p0.Kind==1)) else (bif (p0.Kind==2) then (.next (p0.Kind==2)) else (.next (p0.Kind==6))))
def pN (p0:Pol):Step (Bool) Bool :=
 (bif (p0.Kind==7) then (.next (p0.Kind==7)) else (.next (p0.Kind==8)))
def kK (p0:Pol):Bool :=
 (Step.get (fun s1=>(Step.get (fun s2=>(bif s2 then (bif s1 then ((((p0.L).length:Nat):Int)==0) else false) else (bif (p0.Kind==3) then (bif (aM p0.N 0 2147483647) then (bif (decide (p0.Key=(ByteArray.mk #[]))) then (bif (decide (p0.Text=(ByteArray.mk #[]))) then ((((p0.L).length:Nat):Int)==0) else false) else false) else false) else (bif (p0.Kind==4) then (bif (p0.N==0) then (bif (lZ p0.Key) then (bif (mK p0.Text) then ((((p0.L).length:Nat):Int)==0) else false) else false) else false) else (bif (p0.Kind==5) then (bif (aM p0.N 0 2147483647) then (bif (lZ p0.Key) then (bif (decide (p0.Text=(ByteArray.mk #[]))) then ((((p0.L).length:Nat):Int)==0) else false) else false) else false) else (Step.get (fun s3=>(bif s3 then (bif s1 then (aM (((p0.L).length:Nat):Int) 1 4) else false) else (bif (p0.Kind==9) then (bif s1 then ((((p0.L).length:Nat):Int)==1) else false) else false))) (pN p0))))))) (pO p0))) (pP p0))
theorem b0g (p0:Pol):FnOk prog 167 [.agg (Pol.opn false p0)] ⟨.one (.v (.bool (kK p0))),[],[],false⟩:=by
 refine FnOk.intro (E:=env) aK aS func167 rfl (by kernel_rfl) rfl rfl ?_
 have hg:=kK.eq_1 p0
 have hown:=dP
 exact aA (aB (m:=0) rfl (eA hg [1] (fun x1=>[(3,.one (.v (.bool x1.s)))]) (fun x1=>[.keep 0]) (fun hb1=>have hb1:=hb1.trans (pP.eq_1 ..);brQ hb1 (fun hb1 h1=>brD hb1 (fun hb1 h2=>.inl ⟨⟨_,hb1⟩,[some 0],(by repeat' constructor)⟩) (fun hb1 h2=>.inl ⟨⟨_,hb1⟩,[some 0],(by repeat' constructor)⟩)) (fun hb1 h1=>.inl ⟨⟨_,hb1⟩,[some 0],(by repeat' constructor)⟩)) (fun x1 hg=>aA (aA (eA hg [1,3,18] (fun x2=>[(19,.one (.v (.bool x2.s)))]) (fun x2=>[.keep 0]) (fun hb2=>have hb2:=hb2.trans (pO.eq_1 ..);aA (brQ hb2 (fun hb2 h3=>.inl ⟨⟨_,hb2⟩,[some 0],(by repeat' constructor)⟩) (fun hb2 h3=>aA (brQ hb2 (fun hb2 h4=>.inl ⟨⟨_,hb2⟩,[some 0],(by repeat' constructor)⟩) (fun hb2 h4=>.inl ⟨⟨_,hb2⟩,[some 0],(by repeat' constructor)⟩))))) (fun x2 hg=>brE hg (fun hg h5=>aA (brE hg (fun hg h6=>bJ fun hN7=>aE hown hg) (fun hg h6=>aE hown hg))) (fun hg h5=>aA (brQ hg (fun hg h8=>aA (.inl (⟨_,_,bH p0.N 0 2147483647,(FzAs.same _),aB (m:=2) rfl (brE hg (fun hg h9=>brD hg (fun hg h10=>brD hg (fun hg h11=>bJ fun hN12=>aE hown hg) (fun hg h11=>aE hown hg)) (fun hg h10=>aE hown hg)) (fun hg h9=>aE hown hg))⟩))) (fun hg h8=>aA (brQ hg (fun hg h13=>aA (brQ hg (fun hg h14=>.inl (⟨_,_,vG p0.Key,(FzAs.same _),aB (m:=2) rfl (brE hg (fun hg h15=>.inl (⟨_,_,a4f p0.Text,(FzAs.same _),aB (m:=3) rfl (brE hg (fun hg h16=>bJ fun hN17=>aE hown hg) (fun hg h16=>aE hown hg))⟩)) (fun hg h15=>aE hown hg))⟩)) (fun hg h14=>aE hown hg))) (fun hg h13=>aA (brQ hg (fun hg h18=>aA (.inl (⟨_,_,bH p0.N 0 2147483647,(FzAs.same _),aB (m:=2) rfl (brE hg (fun hg h19=>.inl (⟨_,_,vG p0.Key,(FzAs.same _),aB (m:=3) rfl (brE hg (fun hg h20=>brD hg (fun hg h21=>bJ fun hN22=>aE hown hg) (fun hg h21=>aE hown hg)) (fun hg h20=>aE hown hg))⟩)) (fun hg h19=>aE hown hg))⟩))) (fun hg h18=>eA hg [1,3,18] (fun x3=>[(93,.one (.v (.bool x3.s)))]) (fun x3=>[.keep 0]) (fun hb3=>have hb3:=hb3.trans (pN.eq_1 ..);aA (brQ hb3 (fun hb3 h23=>.inl ⟨⟨_,hb3⟩,[some 0],(by repeat' constructor)⟩) (fun hb3 h23=>.inl ⟨⟨_,hb3⟩,[some 0],(by repeat' constructor)⟩))) (fun x3 hg=>brE hg (fun hg h24=>aA (brE hg (fun hg h25=>bJ fun hN26=>.inl (⟨_,_,bH (((p0.L).length:Nat):Int) 1 4,(FzAs.same _),aB (m:=2) rfl (aE hown hg)⟩)) (fun hg h25=>aE hown hg))) (fun hg h24=>aA (brQ hg (fun hg h27=>aA (brE hg (fun hg h28=>bJ fun hN29=>aE hown hg) (fun hg h28=>aE hown hg))) (fun hg h27=>aA (aE hown hg))))))))))))))))))
def gO (r0:(Pol→Int→Int)) (p1:Int) (i1:Nat) (s1:Int) (a1:Pol):Step (Int) Int :=
 (bif (decide ((IntKind.i64.wrap (s1+(r0 a1 (IntKind.i64.wrap (p1+1)))))≥13)) then (.done 13) else (.next (IntKind.i64.wrap (s1+(r0 a1 (IntKind.i64.wrap (p1+1)))))))
def eQ:Nat→Pol→Int→Int
 | 0,_,_=>default
 | n+1,p0,p1=>(bif (decide (p1 > 4)) then 13 else (bif (!(kK p0)) then 13 else (Fin.get (fun s1=>s1) (aJ (gO (eQ n) p1) 0 1 p0.L))))
theorem b0o:∀(n:Nat) (p0:Pol) (p1:Int),Pol.dep p0 < n→FnOk prog 134 [.agg (Pol.opn false p0),.one (.v (.int .i64 p1))] ⟨.one (.v (.int .i64 (eQ n p0 p1))),[],[],false⟩:=by
 intro n
 induction n with
 | zero=>intro p0 p1 hd0;omega
 | succ n ih =>
   intro p0 p1 hd0
   refine FnOk.intro (E:=env) aK aS func134 rfl (by kernel_rfl) rfl rfl ?_
   have hg:eQ (n+1) p0 p1=_:=eQ.eq_2 ..
   have hown:=iN
   refine aA ?_
   refine aB (m:=0) rfl ?_
   refine aA ?_
   refine aA ?_
   refine nC hg (fun hg h1=>?_) (fun hg h1=>?_)
   · refine .inl (⟨_,_,b0g p0,(FzAs.same _),?_⟩)
     refine aB (m:=2) rfl ?_
     refine brE hg (fun hg h2=>?_) (fun hg h2=>?_)
     · refine aA ?_
       exact aE hown hg
     · refine aA ?_
       refine aA ?_
       refine aA ?_
       refine bJ fun hN3=>?_
       refine dW hg [1,16,17] (fun x1=>[(5,.one (.v (.int .i64 x1.s))),(18,.one (.v (.int .i64 ((x1.i:Nat):Int))))]) (fun x1=>[.dead,.dead]) [none,none] ?_ (fun x1=>?_)
       · exact (by repeat' constructor)
       refine aA ?_
       refine aA ?_
       refine cT (fun hi1=>?_) (fun hi1=>?_)
       · have hb1:=(x1.bdy hi1).trans (gO.eq_1 ..)
         have hw1:=aT hi1 (by assumption)
         refine aA ?_
         refine aA ?_
         refine a0y (Pol.cells_eq false) hi1 ?_
         refine aB (m:=2) rfl ?_
         refine aA ?_
         refine .inl (⟨_,_,ih (p0.L[x1.i]'hi1) (IntKind.i64.wrap (p1+1)) (by exact Nat.lt_of_lt_of_le (Pol.dep_lt (List.getElem_mem _)) (Nat.le_of_lt_succ hd0)),(FzAs.same _),?_⟩)
         refine aB (m:=4) rfl ?_
         refine aA ?_
         refine brD hb1 (fun hb1 h4=>?_) (fun hb1 h4=>x1.goE hi1 hb1 [none,none] ⟨rfl,⟨rfl,(bA hw1),rfl,rfl,rfl,trivial⟩,trivial,trivial⟩)
         refine aA ?_
         have hg:=cQ hg (x1.outD hi1 hb1)
         exact aE hown hg
       have hg:=bZ hg (x1.fin hi1)
       refine aA ?_
       exact aE hown hg
   · refine aA ?_
     exact aE hown hg
def uZ (p0:Pol) (p1:Int):Int:=eQ (Pol.dep p0+1) p0 p1
theorem b2w (p0:Pol) (p1:Int):FnOk prog 134 [.agg (Pol.opn false p0),.one (.v (.int .i64 p1))] ⟨.one (.v (.int .i64 (uZ p0 p1))),[],[],false⟩:=b0o _ p0 p1 (Nat.lt_succ_self _)
def wV (p0:Pol):Bool :=
 (decide ((uZ p0 1)≤12))
theorem c1b (p0:Pol):FnOk prog 81 [.agg (Pol.opn false p0)] ⟨.one (.v (.bool (wV p0))),[],[],false⟩:=by
 refine FnOk.intro (E:=env) aK aS func81 rfl (by kernel_rfl) rfl rfl ?_
 have hg:=wV.eq_1 p0
 have hown:=dP
 exact aA (aB (m:=0) rfl (aA (.inl (⟨_,_,b2w p0 1,(FzAs.same _),aB (m:=2) rfl (aE hown hg)⟩))))
def rH (p0:Conf):Bool :=
 (bif (aM p0.Stripes 1 3) then (bif (aM p0.Wait 1 50) then (bif (aM p0.Budget 1 190) then (bif (aM p0.Cache 1 6) then (bif (aM p0.Queue 1 4) then (bif (aM p0.Rate 0 99) then (bif (aM p0.Burst 0 999) then (wV p0.Rule) else false) else false) else false) else false) else false) else false) else false)
theorem b7l (p0:Conf):FnOk prog 49 [.agg ((Conf.cells false) p0)] ⟨.one (.v (.bool (rH p0))),[],[],false⟩:=by
 refine FnOk.intro (E:=env) aK aS func49 rfl (by kernel_rfl) rfl rfl ?_
 have hg:=rH.eq_1 p0
 have hown:=dP
 exact aA (aB (m:=0) rfl (aA (.inl (⟨_,_,bH p0.Stripes 1 3,(FzAs.same _),aB (m:=2) rfl (brE hg (fun hg h1=>.inl (⟨_,_,bH p0.Wait 1 50,(FzAs.same _),aB (m:=3) rfl (brE hg (fun hg h2=>.inl (⟨_,_,bH p0.Budget 1 190,(FzAs.same _),aB (m:=4) rfl (brE hg (fun hg h3=>.inl (⟨_,_,bH p0.Cache 1 6,(FzAs.same _),aB (m:=5) rfl (brE hg (fun hg h4=>.inl (⟨_,_,bH p0.Queue 1 4,(FzAs.same _),aB (m:=6) rfl (brE hg (fun hg h5=>.inl (⟨_,_,bH p0.Rate 0 99,(FzAs.same _),aB (m:=7) rfl (brE hg (fun hg h6=>.inl (⟨_,_,bH p0.Burst 0 999,(FzAs.same _),aB (m:=8) rfl (brE hg (fun hg h7=>.inl (⟨_,_,c1b p0.Rule,(FzAs.same _),aB (m:=9) rfl (aE hown hg)⟩)) (fun hg h7=>aE hown hg))⟩)) (fun hg h6=>aE hown hg))⟩)) (fun hg h5=>aE hown hg))⟩)) (fun hg h4=>aE hown hg))⟩)) (fun hg h3=>aE hown hg))⟩)) (fun hg h2=>aE hown hg))⟩)) (fun hg h1=>aE hown hg))⟩))))
def uP (p0:Attr):Bool :=
 (bif p0.Num then (bif (lZ p0.Key) then (bif (aM p0.N 0 2147483647) then (decide (p0.Text=(ByteArray.mk #[]))) else false) else false) else (bif (lZ p0.Key) then (bif (mK p0.Text) then (p0.N==0) else false) else false))
theorem b7m (p0:Attr):FnOk prog 80 [.agg (Attr.cells p0)] ⟨.one (.v (.bool (uP p0))),[],[],false⟩:=by
 refine FnOk.intro (E:=env) aK aS func80 rfl (by kernel_rfl) rfl rfl ?_
 have hg:=uP.eq_1 p0
 have hown:=dP
 exact aA (aB (m:=0) rfl (aA (aA (brE hg (fun hg h1=>aA (.inl (⟨_,_,vG p0.Key,(FzAs.same _),aB (m:=2) rfl (brE hg (fun hg h2=>.inl (⟨_,_,bH p0.N 0 2147483647,(FzAs.same _),aB (m:=3) rfl (brE hg (fun hg h3=>aE hown hg) (fun hg h3=>aE hown hg))⟩)) (fun hg h2=>aE hown hg))⟩))) (fun hg h1=>aA (.inl (⟨_,_,vG p0.Key,(FzAs.same _),aB (m:=2) rfl (brE hg (fun hg h4=>.inl (⟨_,_,a4f p0.Text,(FzAs.same _),aB (m:=3) rfl (brE hg (fun hg h5=>aE hown hg) (fun hg h5=>aE hown hg))⟩)) (fun hg h4=>aE hown hg))⟩)))))))
def sH (p0:(List Attr)) (i1:Nat) (s1:Unit) (a1:Attr):Step (Unit) Bool :=
 (bif (!(uP a1)) then (.done false) else (bif (decide (((i1:Nat):Int) > 0)) then (bif (!Op.bytesLess ((p0[((IntKind.i64.wrap (((i1:Nat):Int) - 1))).toNat]?.getD default).Key).toList (a1.Key).toList) then (.done false) else (.next ())) else (.next ())))
def tB (p0:(List Attr)):Bool :=
 (Fin.get (fun s1=>(decide ((((p0).length:Nat):Int)≤4))) (aJ (sH p0) 0 () p0))
theorem b5a (p0:(List Attr)):FnOk prog 47 [.one (.s false 4 (List.map Attr.cells p0))] ⟨.one (.v (.bool (tB p0))),[],[],false⟩:=by
 refine FnOk.intro (E:=env) aK aS func47 rfl (by kernel_rfl) rfl rfl ?_
 have hg:=tB.eq_1 p0
 have hown:=dP
 exact aA (aA (aA (bJ fun hN1=>dW hg [0,5,6] (fun x1=>[(7,.one (.v (.int .i64 ((x1.i:Nat):Int))))]) (fun x1=>[]) [] ((by repeat' constructor)) (fun x1=>aA (aA (cT (fun hi1=>have hb1:=(x1.bdy hi1).trans (sH.eq_1 ..);have hw1:=aT hi1 (by assumption);aA (aA (cC hi1 (aB (m:=0) rfl (aA (.inl ⟨by kernel_rfl,⟨_,_,b7m (p0[x1.i]'hi1),(FzAs.same _),brF hb1 (fun hb1 h2=>brD hb1 (fun hb1 h3=>lA (l:=p0) (by ((simp (disch:=omega) only [wrap_small,eS,List.length_map];omega))) (fun hq4=>brE hb1 (fun hb1 h5=>aA (have hg:=cQ hg (x1.outD hi1 hb1);aE hown hg)) (fun hb1 h5=>x1.goE hi1 hb1 [] ⟨rfl,⟨(bA hw1),rfl,rfl,rfl,trivial⟩,trivial,trivial⟩))) (fun hb1 h3=>x1.goE hi1 hb1 [] ⟨rfl,⟨(bA hw1),rfl,rfl,rfl,trivial⟩,trivial,trivial⟩)) (fun hb1 h2=>aA (have hg:=cQ hg (x1.outD hi1 hb1);aE hown hg))⟩⟩)))))) (fun hi1=>have hg:=bZ hg (x1.fin hi1);aA (bJ fun hN6=>aE hown hg))))))))
def zH (p0:Attr):Int :=
 (bif p0.Num then (IntKind.i64.wrap ((((p0.Key).size:Nat):Int)+4)) else (IntKind.i64.wrap ((((p0.Key).size:Nat):Int)+(((p0.Text).size:Nat):Int))))
theorem b3a (p0:Attr):FnOk prog 48 [.agg (Attr.cells p0)] ⟨.one (.v (.int .i64 (zH p0))),[],[],false⟩:=by
 refine FnOk.intro (E:=env) aK aS func48 rfl (by kernel_rfl) rfl rfl ?_
 have hg:=zH.eq_1 p0
 have hown:=iN
 exact aA (aB (m:=0) rfl (aA (aA (brE hg (fun hg h1=>aA (vP fun hN2=>aE hown hg)) (fun hg h1=>aA (vP fun hN3=>vP fun hN4=>aE hown hg))))))
def a3r (i1:Nat) (s1:Int) (a1:Attr):Step (Int) Int :=
 (.next (IntKind.i64.wrap (s1+(zH a1))))
def rF (p0:Span):Int :=
 (Fin.get (fun s1=>s1) (aJ a3r 0 12 p0.Attrs))
theorem zO (p0:Span):FnOk prog 26 [.agg ((Span.cells false) p0)] ⟨.one (.v (.int .i64 (rF p0))),[],[],false⟩:=by
 refine FnOk.intro (E:=env) aK aS func26 rfl (by kernel_rfl) rfl rfl ?_
 have hg:=rF.eq_1 p0
 have hown:=iN
 exact aA (aB (m:=0) rfl (aA (aA (aA (bJ fun hN1=>dW hg [7,8] (fun x1=>[(3,.one (.v (.int .i64 x1.s))),(9,.one (.v (.int .i64 ((x1.i:Nat):Int))))]) (fun x1=>[.dead]) [none] ((by repeat' constructor)) (fun x1=>aA (aA (cT (fun hi1=>have hb1:=(x1.bdy hi1).trans (a3r.eq_1 ..);have hw1:=aT hi1 (by assumption);aA (aA (cC hi1 (aB (m:=1) rfl (.inl (⟨_,_,b3a (p0.Attrs[x1.i]'hi1),(FzAs.same _),aB (m:=3) rfl (x1.goE hi1 hb1 [none] ⟨rfl,⟨rfl,(bA hw1),rfl,rfl,trivial⟩,trivial,trivial⟩)⟩)))))) (fun hi1=>have hg:=bZ hg (x1.fin hi1);aA (aE hown hg))))))))))
def kR (p0:Span):Bool :=
 (bif (aM p0.Trace 1 999) then (bif (aM p0.Id 1 999) then (bif (aM p0.End 0 99999) then (bif (aM p0.Start 0 p0.End) then (bif (tB p0.Attrs) then (decide ((rF p0)≤96)) else false) else false) else false) else false) else false)
theorem vF (p0:Span):FnOk prog 25 [.agg ((Span.cells false) p0)] ⟨.one (.v (.bool (kR p0))),[],[],false⟩:=by
 refine FnOk.intro (E:=env) aK aS func25 rfl (by kernel_rfl) rfl rfl ?_
 have hg:=kR.eq_1 p0
 have hown:=dP
 exact aA (aB (m:=0) rfl (aA (.inl (⟨_,_,bH p0.Trace 1 999,(FzAs.same _),aB (m:=2) rfl (brE hg (fun hg h1=>.inl (⟨_,_,bH p0.Id 1 999,(FzAs.same _),aB (m:=3) rfl (brE hg (fun hg h2=>.inl (⟨_,_,bH p0.End 0 99999,(FzAs.same _),aB (m:=4) rfl (brE hg (fun hg h3=>.inl (⟨_,_,bH p0.Start 0 p0.End,(FzAs.same _),aB (m:=5) rfl (brE hg (fun hg h4=>.inl (⟨_,_,b5a p0.Attrs,(FzAs.same _),aB (m:=6) rfl (brE hg (fun hg h5=>.inl (⟨_,_,zO p0,(FzAs.same _),aB (m:=7) rfl (aE hown hg)⟩)) (fun hg h5=>aE hown hg))⟩)) (fun hg h4=>aE hown hg))⟩)) (fun hg h3=>aE hown hg))⟩)) (fun hg h2=>aE hown hg))⟩)) (fun hg h1=>aE hown hg))⟩))))
def sD (p0:Trail) (i1:Nat) (s1:Unit) (a1:Span):Step (Unit) Bool :=
 (bif (!(kR a1)) then (.done false) else (bif (a1.Trace != p0.Id) then (.done false) else (.next ())))
def sZ (p0:Trail):Bool :=
 (Fin.get (fun s1=>(bif (aM p0.Id 1 999) then (bif (decide (p0.Stamp≥1)) then (bif (aM p0.First 0 2147483647) then (decide ((((p0.Spans).length:Nat):Int) > 0)) else false) else false) else false)) (aJ (sD p0) 0 () p0.Spans))
theorem b4w (p0:Trail):FnOk prog 82 [.agg ((Trail.cells false) p0)] ⟨.one (.v (.bool (sZ p0))),[],[],false⟩:=by
 refine FnOk.intro (E:=env) aK aS func82 rfl (by kernel_rfl) rfl rfl ?_
 have hg:=sZ.eq_1 p0
 have hown:=dP
 exact aA (aB (m:=0) rfl (aA (aA (bJ fun hN1=>dW hg [1,6,7] (fun x1=>[(8,.one (.v (.int .i64 ((x1.i:Nat):Int))))]) (fun x1=>[.keep 0]) [some 0] ((by repeat' constructor)) (fun x1=>aA (aA (cT (fun hi1=>have hb1:=(x1.bdy hi1).trans (sD.eq_1 ..);have hw1:=aT hi1 (by assumption);aA (aA (cC hi1 (aB (m:=1) rfl (aA (.inl (⟨_,_,vF (p0.Spans[x1.i]'hi1),(FzAs.same _),aB (m:=3) rfl (brF hb1 (fun hb1 h2=>brW hb1 (fun hb1 h3=>aA (have hg:=cQ hg (x1.outD hi1 hb1);aE hown hg)) (fun hb1 h3=>x1.goE hi1 hb1 [some 0] ⟨rfl,⟨(bA hw1),⟨rfl,rfl,rfl,rfl⟩,rfl,rfl,trivial⟩,(by repeat' constructor),trivial⟩)) (fun hb1 h2=>aA (have hg:=cQ hg (x1.outD hi1 hb1);aE hown hg)))⟩))))))) (fun hi1=>have hg:=bZ hg (x1.fin hi1);aA (.inl (⟨_,_,bH p0.Id 1 999,(FzAs.same _),aB (m:=2) rfl (brE hg (fun hg h4=>brD hg (fun hg h5=>.inl (⟨_,_,bH p0.First 0 2147483647,(FzAs.same _),aB (m:=3) rfl (brE hg (fun hg h6=>bJ fun hN7=>aE hown hg) (fun hg h6=>aE hown hg))⟩)) (fun hg h5=>aE hown hg)) (fun hg h4=>aE hown hg))⟩))))))))))
def a0x (p0:Int):Int :=
 (rL .i64 (rL .i64 (rL .i64 (iE .i64 p0 65535) (iE .i64 (zI .i64 (iE .i64 p0 65535) 7) 65535)) (wW .i64 (rL .i64 (iE .i64 p0 65535) (iE .i64 (zI .i64 (iE .i64 p0 65535) 7) 65535)) 9)) (iE .i64 (zI .i64 (rL .i64 (rL .i64 (iE .i64 p0 65535) (iE .i64 (zI .i64 (iE .i64 p0 65535) 7) 65535)) (wW .i64 (rL .i64 (iE .i64 p0 65535) (iE .i64 (zI .i64 (iE .i64 p0 65535) 7) 65535)) 9)) 8) 65535))
theorem c5d (p0:Int):FnOk prog 135 [.one (.v (.int .i64 p0))] ⟨.one (.v (.int .i64 (a0x p0))),[],[],false⟩:=by
 refine FnOk.intro (E:=env) aK aS func135 rfl (by kernel_rfl) rfl rfl ?_
 have hg:=a0x.eq_1 p0
 have hown:=iN
 exact aA (aA (aA (bK (by (omega)) (aA (bK (by (omega)) (aA (bK (by (omega)) (aE hown hg))))))))
def eT (p0:Int) (p1:Int):Int :=
 (bif (decide (p1 < 1)) then 0 else (Int.tmod (a0x p0) p1))
theorem wY (p0:Int) (p1:Int):FnOk prog 83 [.one (.v (.int .i64 p0)),.one (.v (.int .i64 p1))] ⟨.one (.v (.int .i64 (eT p0 p1))),[],[],false⟩:=by
 refine FnOk.intro (E:=env) aK aS func83 rfl (by kernel_rfl) rfl rfl ?_
 have hg:=eT.eq_1 p0 p1
 have hown:=iN
 exact aA (aA (aA (brD hg (fun hg h1=>aA (aE hown hg)) (fun hg h1=>aA (.inl (⟨_,_,c5d p0,(FzAs.same _),aB (m:=1) rfl (bK (by (omega)) (aE hown hg))⟩))))))
theorem a9s (a n:Int) (hn:1≤n):eT a n < n:=by
 unfold eT
 rw [show decide (n < 1)=false from decide_eq_false (by omega),cond_false]
 exact Int.tmod_lt_of_pos _ (by omega)
def oA (p1:Int) (i1:Nat) (s1:Unit) (a1:Int):Step (Unit) Int :=
 (bif (p1==a1) then (.done ((i1:Nat):Int)) else (.next ()))
def mS (p0:(List Int)) (p1:Int):Int :=
 (Fin.get (fun s1=>(-1)) (aJ (oA p1) 0 () p0))
theorem a1n (p0:(List Int)) (p1:Int):FnOk prog 136 [.one (.s false 1 (List.map mN p0)),.one (.v (.int .i64 p1))] ⟨.one (.v (.int .i64 (mS p0 p1))),[],[],false⟩:=by
 refine FnOk.intro (E:=env) aK aS func136 rfl (by kernel_rfl) rfl rfl ?_
 have hg:=mS.eq_1 p0 p1
 have hown:=iN
 exact aA (aA (aA (bJ fun hN1=>dW hg [0,1,7] (fun x1=>[(8,.one (.v (.int .i64 ((x1.i:Nat):Int))))]) (fun x1=>[]) [] ((by repeat' constructor)) (fun x1=>aA (aA (cT (fun hi1=>have hb1:=(x1.bdy hi1).trans (oA.eq_1 ..);have hw1:=aT hi1 (by assumption);aA (aA (aA (cC hi1 (brQ hb1 (fun hb1 h2=>aA (have hg:=cQ hg (x1.outD hi1 hb1);aE hown hg)) (fun hb1 h2=>x1.goE hi1 hb1 [] ⟨rfl,⟨(bA hw1),rfl,rfl,rfl,trivial⟩,trivial,trivial⟩)))))) (fun hi1=>have hg:=bZ hg (x1.fin hi1);aA (aE hown hg))))))))
def fC (p0:(List Int)) (p1:Int):Bool :=
 (decide ((mS p0 p1)≥0))
theorem rA (p0:(List Int)) (p1:Int):FnOk prog 84 [.one (.s false 1 (List.map mN p0)),.one (.v (.int .i64 p1))] ⟨.one (.v (.bool (fC p0 p1))),[],[],false⟩:=by
 refine FnOk.intro (E:=env) aK aS func84 rfl (by kernel_rfl) rfl rfl ?_
 have hg:=fC.eq_1 p0 p1
 have hown:=dP
 exact aA (aA (.inl (⟨_,_,a1n p0 p1,(FzAs.same _),aB (m:=1) rfl (aE hown hg)⟩)))
def pR (a2:Trail) (p0:(List Stripe)) (i1:Nat) (i2:Nat) (a1:Stripe):Step (Bool×Bool) (Step ((List Int)) (Step ((List Int)) Bool)) :=
 (bif (!(sZ a2)) then (.done (.done (.done false))) else (bif ((eT a2.Id (((p0).length:Nat):Int)) != ((i1:Nat):Int)) then (.done (.done (.done false))) else (bif (decide (((i2:Nat):Int) > 0)) then (bif (decide ((a1.L[((IntKind.i64.wrap (((i2:Nat):Int) - 1))).toNat]?.getD default).Id≥a2.Id)) then (.done (.done (.done false))) else (.next (true,(decide ((a1.L[((IntKind.i64.wrap (((i2:Nat):Int) - 1))).toNat]?.getD default).Id≥a2.Id))))) else (.next (false,false)))))
def nH (p0:(List Stripe)) (i1:Nat) (a1:Stripe) (i2:Nat) (s2:(List Int)) (a2:Trail):Step ((List Int)) (Step ((List Int)) Bool) :=
 (Step.get (fun s3=>(bif (fC s2 a2.Stamp) then (.done (.done false)) else (.next (s2++[a2.Stamp])))) (pR a2 p0 i1 i2 a1))
def nI (p0:(List Stripe)) (i1:Nat) (s1:(List Int)) (a1:Stripe):Step ((List Int)) Bool :=
 (bif (!(aM a1.Held (-1) 4)) then (.done false) else (Fin.get (fun s2=>(.next s2)) (aJ (nH p0 i1 a1) 0 s1 a1.L)))
def nS (p0:(List Stripe)):Bool :=
 (bif (!(aM (((p0).length:Nat):Int) 1 3)) then false else (Fin.get (fun s1=>true) (aJ (nI p0) 0 ([]:List Int) p0)))
theorem b0k (p0:(List Stripe)) (hs:bdS Stripe.bd 1048576 p0):FnOk prog 50 [.one (.s false 2 (List.map (Stripe.cells false) p0))] ⟨.one (.v (.bool (nS p0))),[],[],false⟩:=by
 refine FnOk.intro (E:=env) aK aS func50 rfl (by kernel_rfl) rfl rfl ?_
 have hg:=nS.eq_1 p0
 have hown:=dP
 refine aA (aA (aA (bJ fun hN1=>.inl (⟨_,_,bH (((p0).length:Nat):Int) 1 3,(FzAs.same _),aB (m:=1) rfl (brE hg (fun hg h2=>aA (aE hown hg)) (fun hg h2=>aA (aA (aA (bJ fun hN3=>gM (fun (i:Nat) (s:List Int)=>s.length≤1048576*i) hg (Nat.zero_le _) [0,12,13] (fun x1=>[(3,.one (.n 1 [] 1 0 (x1.s).length)),(14,.one (.v (.int .i64 ((x1.i:Nat):Int))))]) (fun x1=>[.dead,.new ⟨1,false,List.map mN x1.s,0⟩]) [none,none] ((by repeat' constructor)) (fun x1=>?_))))))⟩))))
 have hI1:=x1.hI
 try dsimp only at hI1
 refine aA (aA (cT (fun hi1=>have hb1:=(x1.bdy hi1).trans (nI.eq_1 ..);have hw1:=aT hi1 (by assumption);aA (aA (cC hi1 (aB (m:=2) rfl (aA (aA (.inl (⟨_,_,bH (p0[x1.i]'hi1).Held (-1) 4,(FzAs.same _),aB (m:=4) rfl (brE hb1 (fun hb1 h4=>aA (have hg:=cQ hg (x1.outD hi1 hb1);aE hown hg)) (fun hb1 h4=>aA (bJ fun hN5=>gM (fun (i:Nat) (s:List Int)=>s.length≤1048576*x1.i+i) hb1 (by have q:=hI1;omega) [0,4,5,12,13,14,24,25] (fun x2=>[(3,.one (.n 1 [] 1 0 (x2.s).length)),(26,.one (.v (.int .i64 ((x2.i:Nat):Int))))]) (fun x2=>[.dead,.new ⟨1,false,List.map mN x2.s,0⟩,.keep 2,.dead]) [none,some 1,some 2,none] ((by repeat' constructor)) (fun x2=>?_))))⟩)))))))) (fun hi1=>have hg:=bZ hg (x1.fin hi1);aA (aE hown hg))))
 have hI2:=x2.hI
 try dsimp only at hI2
 refine aA (aA (cT (fun hi2=>have hb2:=(x2.bdy hi2).trans (nH.eq_1 ..);have hw2:=aT hi2 (by assumption);aA (aA (cC hi2 (aB (m:=4) rfl (aA (eA hb2 [0,3,4,5,7,12,13,14,24,25,26] (fun x3=>[(35,.one (.p 4 [] 0 0 0)),(36,.one (.v (.int .i64 ((p0[x1.i]'hi1).L[x2.i]'hi2).Id))),(37,.one (.s false 2 (List.map (Stripe.cells false) p0))),(38,.one (.v (.int .i64 (((p0).length:Nat):Int)))),(39,.one (.v (.int .i64 (eT ((p0[x1.i]'hi1).L[x2.i]'hi2).Id (((p0).length:Nat):Int))))),(40,.one (.v (.int .i64 ((x1.i:Nat):Int)))),(41,.one (.v (.bool ((eT ((p0[x1.i]'hi1).L[x2.i]'hi2).Id (((p0).length:Nat):Int)) != ((x1.i:Nat):Int))))),(44,.one (.v (.int .i64 ((x2.i:Nat):Int)))),(45,.one (.v (.bool (decide (((x2.i:Nat):Int) > 0))))),(46,.one (.v (.bool x3.s.1))),(57,.one (.v (.bool x3.s.2))),(60,.one (.n 1 [] 1 0 (x2.s).length)),(61,.one (.p 4 [] 0 0 1)),(62,.one (.v (.int .i64 ((p0[x1.i]'hi1).L[x2.i]'hi2).Stamp))),(63,.one (.v (.bool (fC x2.s ((p0[x1.i]'hi1).L[x2.i]'hi2).Stamp)))),(64,.one (.v (.bool (fC x2.s ((p0[x1.i]'hi1).L[x2.i]'hi2).Stamp))))]) (fun x3=>[.dead,.keep 1,.keep 2,.dead,.keep 4]) (fun hb3=>have hb3:=hb3.trans (pR.eq_1 ..);.inl ⟨by kernel_rfl,⟨_,_,b4w ((p0[x1.i]'hi1).L[x2.i]'hi2),(FzAs.same _),brF hb3 (fun hb3 h6=>bJ fun hN7=>⟨_,_,wY ((p0[x1.i]'hi1).L[x2.i]'hi2).Id (((p0).length:Nat):Int),(FzAs.same _),yA hb3 (fun hb3 h8=>brD hb3 (fun hb3 h9=>lA (l:=(p0[x1.i]'hi1).L) (by ((simp (disch:=omega) only [wrap_small,eS,List.length_map];omega))) (fun hq10=>nC hb3 (fun hb3 h11=>⟨_,_,rA x2.s ((p0[x1.i]'hi1).L[x2.i]'hi2).Stamp,(FzAs.same _),.inl ⟨⟨_,hb3⟩,[none,some 1,some 2,none,some 4],(by repeat' constructor)⟩⟩) (fun hb3 h11=>.inr (have hb2:=getD hb2 hb3;aA (have hb1:=cQ hb1 (x2.outD hi2 hb2);have hg:=cQ hg (x1.outD hi1 hb1);aE hown hg))))) (fun hb3 h9=>⟨_,_,rA x2.s ((p0[x1.i]'hi1).L[x2.i]'hi2).Stamp,(FzAs.same _),.inl ⟨⟨_,hb3⟩,[none,some 1,some 2,none,some 4],(by repeat' constructor)⟩⟩)) (fun hb3 h8=>.inr (have hb2:=getD hb2 hb3;aA (have hb1:=cQ hb1 (x2.outD hi2 hb2);have hg:=cQ hg (x1.outD hi1 hb1);aE hown hg)))⟩) (fun hb3 h6=>.inr (have hb2:=getD hb2 hb3;aA (have hb1:=cQ hb1 (x2.outD hi2 hb2);have hg:=cQ hg (x1.outD hi1 hb1);aE hown hg)))⟩⟩) (fun x3 hb2=>brE hb2 (fun hb2 h12=>aA (have hb1:=cQ hb1 (x2.outD hi2 hb2);have hg:=cQ hg (x1.outD hi1 hb1);aE hown hg)) (fun hb2 h12=>.inl (aB (m:=5) rfl (.inl (aV (Y:=List.map mN (x2.s++[((p0[x1.i]'hi1).L[x2.i]'hi2).Stamp])) (by simp [bX,bP,-List.map_take,-List.map_drop,-List.drop_one,aQ,aR,rI,rK,bY rI,fH rK];rfl) (cS (b:=8) (hs:=by have f1:=hs.1;have f2:=hI2;have f3:=hi1;have f4:=hi2;have f5:(p0[x1.i]'hi1).L.length≤1048576:=(hs.get hi1).1;refine ⟨?_,?_⟩;(show List.length _*8≤_);(try simp only [LN]);omega;(try simp only [LN]);omega) ?_)))))))))))) (fun hi2=>have hb1:=bZ hb1 (x2.fin hi2);x1.goE hi1 hb1 (by have f5:(p0[x1.i]'hi1).L.length≤1048576:=(hs.get hi1).1;have f6:=x2.h;have f7:=hI2;omega) [none,some 1] ⟨rfl,⟨⟨rfl,rfl,rfl,rfl,by (rfl)⟩,(bA hw1),rfl,rfl,rfl,trivial⟩,⟨⟨rfl,rfl,rfl⟩,trivial⟩,trivial⟩)))
 exact aB (m:=6) rfl (x2.goE hi2 hb2 (by have q1:=hI2;simp only [LN];omega) [none,some 6,some 2,none] ⟨rfl,⟨⟨rfl,rfl,rfl,rfl,by ((simp [LstSt.init,LstSt.step,LstInv.init,CntSt.init,CntSt.step,CntInv.init,WhlSt.init,WhlSt.step];done))⟩,(bA hw2),rfl,rfl,⟨rfl,rfl,rfl,rfl⟩,rfl,rfl,rfl,rfl,rfl,trivial⟩,(by repeat' constructor),trivial⟩)
def wT (p2:Int) (a1:Timer) (p0:Wheel) (p3:Int):Step (Bool) (Step (Unit) Bool) :=
 (bif (p2==0) then (bif ((IntKind.i64.wrap ((IntKind.i64.wrap (Int.tdiv a1.At 8)) - (IntKind.i64.wrap (Int.tdiv p0.Now 8))))==0) then (.next ((Int.tmod a1.At 8)==p3)) else (.next false)) else (bif (p2==1) then (bif (aM (IntKind.i64.wrap ((IntKind.i64.wrap (Int.tdiv a1.At 8)) - (IntKind.i64.wrap (Int.tdiv p0.Now 8)))) 1 7) then (.next ((Int.tmod (IntKind.i64.wrap (Int.tdiv a1.At 8)) 8)==p3)) else (.next false)) else (.next (decide ((IntKind.i64.wrap ((IntKind.i64.wrap (Int.tdiv a1.At 8)) - (IntKind.i64.wrap (Int.tdiv p0.Now 8))))≥8)))))
def rX (p0:Wheel) (p2:Int) (p3:Int) (i1:Nat) (s1:Unit) (a1:Timer):Step (Unit) Bool :=
 (bif (decide (a1.Id < 1)) then (.done false) else (bif (!(aM a1.Trace 1 999)) then (.done false) else (bif (decide (a1.At≤p0.Now)) then (.done false) else (bif (decide (a1.At > 2147483647)) then (.done false) else (Step.get (fun s2=>(bif (!s2) then (.done false) else (.next ()))) (wT p2 a1 p0 p3))))))
def iY (p0:Wheel) (p1:(List Timer)) (p2:Int) (p3:Int):Bool :=
 (Fin.get (fun s1=>true) (aJ (rX p0 p2 p3) 0 () p1))
theorem xZ (p0:Wheel) (p1:(List Timer)) (p2:Int) (p3:Int):FnOk prog 85 [.agg ((Wheel.cells false) p0),.one (.s false 3 (List.map Timer.cells p1)),.one (.v (.int .i64 p2)),.one (.v (.int .i64 p3))] ⟨.one (.v (.bool (iY p0 p1 p2 p3))),[],[],false⟩:=by
 refine FnOk.intro (E:=env) aK aS func85 rfl (by kernel_rfl) rfl rfl ?_
 have hg:=iY.eq_1 p0 p1 p2 p3
 have hown:=dP
 exact aA (aB (m:=0) rfl (aA (aA (bJ fun hN1=>dW hg [2,3,4,13,14] (fun x1=>[(15,.one (.v (.int .i64 ((x1.i:Nat):Int))))]) (fun x1=>[.keep 0]) [some 0] ((by repeat' constructor)) (fun x1=>aA (aA (cT (fun hi1=>have hb1:=(x1.bdy hi1).trans (rX.eq_1 ..);have hw1:=aT hi1 (by assumption);aA (aA (cC hi1 (aB (m:=1) rfl (aA (aA (nC hb1 (fun hb1 h2=>.inl (⟨_,_,bH (p1[x1.i]'hi1).Trace 1 999,(FzAs.same _),aB (m:=3) rfl (brF hb1 (fun hb1 h3=>nC hb1 (fun hb1 h4=>brD hb1 (fun hb1 h5=>aA (have hg:=cQ hg (x1.outD hi1 hb1);aE hown hg)) (fun hb1 h5=>aA (bK (by (omega)) (bK (by (omega)) (aA (eA hb1 [2,3,4,13,14,15,23,24,25,26,29,30,31,32,33,36,37,38] (fun x2=>[(12,.one (.v (.bool x2.s)))]) (fun x2=>[.keep 0,.keep 1,.dead]) (fun hb2=>have hb2:=hb2.trans (wT.eq_1 ..);aA (aA (brQ hb2 (fun hb2 h6=>brQ hb2 (fun hb2 h7=>bK (by (omega)) (.inl ⟨⟨_,hb2⟩,[some 0,some 1,none],(by repeat' constructor)⟩)) (fun hb2 h7=>.inl ⟨⟨_,hb2⟩,[some 0,some 1,none],(by repeat' constructor)⟩)) (fun hb2 h6=>aA (brQ hb2 (fun hb2 h8=>.inl (⟨_,_,bH (IntKind.i64.wrap ((IntKind.i64.wrap (Int.tdiv (p1[x1.i]'hi1).At 8)) - (IntKind.i64.wrap (Int.tdiv p0.Now 8)))) 1 7,(FzAs.same _),aB (m:=4) rfl (brE hb2 (fun hb2 h9=>bK (by (omega)) (bK (by (omega)) (.inl ⟨⟨_,hb2⟩,[some 0,some 1,none],(by repeat' constructor)⟩))) (fun hb2 h9=>.inl ⟨⟨_,hb2⟩,[some 0,some 1,none],(by repeat' constructor)⟩))⟩)) (fun hb2 h8=>.inl ⟨⟨_,hb2⟩,[some 0,some 1,none],(by repeat' constructor)⟩)))))) (fun x2 hb1=>aA (brE hb1 (fun hb1 h10=>aA (have hg:=cQ hg (x1.outD hi1 hb1);aE hown hg)) (fun hb1 h10=>x1.goE hi1 hb1 [some 0] ⟨rfl,⟨(bA hw1),rfl,rfl,⟨rfl,rfl,rfl,rfl⟩,rfl,rfl,trivial⟩,(by repeat' constructor),trivial⟩))))))))) (fun hb1 h4=>aA (have hg:=cQ hg (x1.outD hi1 hb1);aE hown hg))) (fun hb1 h3=>aA (have hg:=cQ hg (x1.outD hi1 hb1);aE hown hg)))⟩)) (fun hb1 h2=>aA (have hg:=cQ hg (x1.outD hi1 hb1);aE hown hg))))))))) (fun hi1=>have hg:=bZ hg (x1.fin hi1);aA (aE hown hg)))))))))
def xQ (i2:Nat) (s2:(List Timer)) (a2:(List Timer)):Step ((List Timer)) (List Timer) :=
 (.next (s2++a2))
def xR (i1:Nat) (s1:(List Timer)) (a1:(List Timer)):Step ((List Timer)) (List Timer) :=
 (.next (s1++a1))
def bV (p0:Wheel):(List Timer) :=
 (Fin.get (fun s1=>(Fin.get (fun s2=>(s2++p0.Rest)) (aJ xQ 0 s1 p0.Far))) (aJ xR 0 ([]:List Timer) p0.Near))
theorem zN (p0:Wheel) (hs:Wheel.bd 1048576 p0):FnOk prog 52 [.agg ((Wheel.cells false) p0)] ⟨.one (.s true 3 (List.map Timer.cells (bV p0))),[],[],false⟩:=by
 refine FnOk.intro (E:=env) aK aS func52 rfl (by kernel_rfl) rfl rfl ?_
 have hg:=bV.eq_1 p0
 have hown:∀g:(List Timer),AV.Own (AV.one (.s true 3 (List.map Timer.cells g))):=fun g=>fF kJ _
 refine aA (aB (m:=0) rfl (aA (aA (aA (bJ fun hN1=>gM (fun i s=>s.length≤1048576*i) hg (by show 0≤_;omega) [1,9,10] (fun x1=>[(3,.one (.n 1 [] 1 0 (x1.s).length)),(11,.one (.v (.int .i64 ((x1.i:Nat):Int))))]) (fun x1=>[.keep 0,.new ⟨3,false,List.map Timer.cells x1.s,0⟩]) [some 0,none] ((by repeat' constructor)) (fun x1=>?_))))))
 have hI1:List.length x1.s≤1048576*x1.i:=by simpa using x1.hI
 refine aA (aA (cT (fun hi1=>?_) (fun hi1=>?_)))
 · refine have hb1:=(x1.bdy hi1).trans (xR.eq_1 ..);have hw1:=aT hi1 (by assumption);aA (aA (cC hi1 (.inl (aV (Y:=List.map Timer.cells (x1.s++(p0.Near[x1.i]'hi1))) (by simp [bX,bP,-List.map_take,-List.map_drop,-List.drop_one,aQ,aR,bR,bS,bY bR,fH bS];done) (cS (b:=24) (hs:=by have hl:=hs.1.1;have hl2:=hs.2.1.1;have hl3:=hs.2.2.1;(try have hq:=(hs.1.get hi1).1);(try have hq:=(hs.2.1.get hi2).1);(try have hq3:=x2.h);refine ⟨?_,?_⟩;(show List.length _*24≤_);(try simp only [List.length_map,List.length_append,List.length_cons,List.length_nil]);omega;(try simp only [List.length_map,List.length_append,List.length_cons,List.length_nil]);omega) ?_)))))
   exact aB (m:=2) rfl (x1.goE hi1 hb1 (by have hq:=(hs.1.get hi1).1;show List.length (_++_)≤_;rw [List.length_append];omega) [some 0,some 2] ⟨rfl,⟨⟨rfl,rfl,rfl,rfl,by ((simp [LstSt.init,LstSt.step,LstInv.init,CntSt.init,CntSt.step,CntInv.init,WhlSt.init,WhlSt.step];done))⟩,(bA hw1),⟨rfl,rfl,rfl,rfl⟩,rfl,rfl,trivial⟩,(by repeat' constructor),trivial⟩)
 refine have hg:=bZ hg (x1.fin hi1);aA (aA (bJ fun hN2=>gM (fun i s=>s.length≤1099511627776+1048576*i) hg (by have hq:=x1.h;have hq2:=hs.1.1;show List.length x1.s≤_;omega) [1,20,21] (fun x2=>[(3,.one (.n 1 [] 1 0 (x2.s).length)),(22,.one (.v (.int .i64 ((x2.i:Nat):Int))))]) (fun x2=>[.keep 0,.new ⟨3,false,List.map Timer.cells x2.s,0⟩]) [some 0,some 1] ((by repeat' constructor)) (fun x2=>?_)))
 have hI2:List.length x2.s≤1099511627776+1048576*x2.i:=by simpa using x2.hI
 refine aA (aA (cT (fun hi2=>?_) (fun hi2=>?_)))
 · refine have hb2:=(x2.bdy hi2).trans (xQ.eq_1 ..);have hw2:=aT hi2 (by assumption);aA (aA (cC hi2 (.inl (aV (Y:=List.map Timer.cells (x2.s++(p0.Far[x2.i]'hi2))) (by simp [bX,bP,-List.map_take,-List.map_drop,-List.drop_one,aQ,aR,bR,bS,bY bR,fH bS];done) (cS (b:=24) (hs:=by have hl:=hs.1.1;have hl2:=hs.2.1.1;have hl3:=hs.2.2.1;(try have hq:=(hs.1.get hi1).1);(try have hq:=(hs.2.1.get hi2).1);(try have hq3:=x2.h);refine ⟨?_,?_⟩;(show List.length _*24≤_);(try simp only [List.length_map,List.length_append,List.length_cons,List.length_nil]);omega;(try simp only [List.length_map,List.length_append,List.length_cons,List.length_nil]);omega) ?_)))))
   exact aB (m:=2) rfl (x2.goE hi2 hb2 (by have hq:=(hs.2.1.get hi2).1;show List.length (_++_)≤_;rw [List.length_append];omega) [some 0,some 2] ⟨rfl,⟨⟨rfl,rfl,rfl,rfl,by ((simp [LstSt.init,LstSt.step,LstInv.init,CntSt.init,CntSt.step,CntInv.init,WhlSt.init,WhlSt.step];done))⟩,(bA hw2),⟨rfl,rfl,rfl,rfl⟩,rfl,rfl,trivial⟩,(by repeat' constructor),trivial⟩)
 refine have hg:=bZ hg (x2.fin hi2);aA (.inl (aV (Y:=List.map Timer.cells (x2.s++p0.Rest)) (by simp [bX,bP,-List.map_take,-List.map_drop,-List.drop_one,aQ,aR,bR,bS,bY bR,fH bS];done) (cS (b:=24) (hs:=by have hl:=hs.1.1;have hl2:=hs.2.1.1;have hl3:=hs.2.2.1;(try have hq:=(hs.1.get hi1).1);(try have hq:=(hs.2.1.get hi2).1);(try have hq3:=x2.h);refine ⟨?_,?_⟩;(show List.length _*24≤_);(try simp only [List.length_map,List.length_append,List.length_cons,List.length_nil]);omega;(try simp only [List.length_map,List.length_append,List.length_cons,List.length_nil]);omega) ?_)))
 exact aB (m:=2) rfl (aE hown hg)
theorem a3q (w:Wheel):bV w=w.Near.flatMap id++w.Far.flatMap id++w.Rest:=by
 unfold bV
 rw [nD (b:=xR) id (fun _ _ _=>rfl),Fin.get_fin,nD (b:=xQ) id (fun _ _ _=>rfl),Fin.get_fin]
 simp
theorem iR (w:Wheel) (hs:Wheel.bd 1048576 w):(bV w).length≤2199024304128:=by
 rw [a3q]
 have h1:=a2f id 1048576 w.Near (fun a ha=>(hs.1.2 a ha).1)
 have h2:=a2f id 1048576 w.Far (fun a ha=>(hs.2.1.2 a ha).1)
 have h3:w.Near.length≤1048576:=hs.1.1
 have h4:w.Far.length≤1048576:=hs.2.1.1
 have h5:w.Rest.length≤1048576:=hs.2.2.1
 simp only [List.length_append]
 omega
def xO (p0:Timer) (c0:Int):Bool :=
 (p0.Id==c0)
theorem b0f (p0:Timer) (c0:Int):FnOk prog 137 [.agg (Timer.cells p0),.one (.q 1 [[.v (.int .i64 c0)]] 0 0)] ⟨.one (.v (.bool (xO p0 c0))),[],[],false⟩:=by
 refine FnOk.intro (E:=env) aK aS func137 rfl (by kernel_rfl) rfl rfl ?_
 have hg:=xO.eq_1 p0 c0
 have hown:=dP
 exact aA (aB (m:=0) rfl (aA (aE hown hg)))
def fU (p1_0:Int) (i1:Nat) (s1:Unit) (a1:Timer):Step (Unit) Int :=
 (bif (xO a1 p1_0) then (.done ((i1:Nat):Int)) else (.next ()))
def eJ (p0:(List Timer)) (p1_0:Int):Int :=
 (Fin.get (fun s1=>(-1)) (aJ (fU p1_0) 0 () p0))
theorem oG (p0:(List Timer)) (p1_0:Int):FnOk prog 93 [.one (.s false 3 (List.map Timer.cells p0)),.one (.c 137 [.q 1 [[.v (.int .i64 p1_0)]] 0 0])] ⟨.one (.v (.int .i64 (eJ p0 p1_0))),[],[],false⟩:=by
 refine FnOk.intro (E:=env) aK aS func93 rfl (by kernel_rfl) rfl rfl ?_
 have hg:=eJ.eq_1 p0 p1_0
 have hown:=iN
 exact aA (aA (aA (bJ fun hN1=>dW hg [0,1,7] (fun x1=>[(8,.one (.v (.int .i64 ((x1.i:Nat):Int))))]) (fun x1=>[]) [] ((by repeat' constructor)) (fun x1=>aA (aA (cT (fun hi1=>have hb1:=(x1.bdy hi1).trans (fU.eq_1 ..);have hw1:=aT hi1 (by assumption);aA (aA (aA (cC hi1 (.inl (⟨_,_,b0f (p0[x1.i]'hi1) p1_0,(FzAs.same _),aB (m:=1) rfl (brE hb1 (fun hb1 h2=>aA (have hg:=cQ hg (x1.outD hi1 hb1);aE hown hg)) (fun hb1 h2=>x1.goE hi1 hb1 [] ⟨rfl,⟨(bA hw1),rfl,⟨rfl,⟨rfl,trivial⟩⟩,rfl,trivial⟩,trivial,trivial⟩))⟩)))))) (fun hi1=>have hg:=bZ hg (x1.fin hi1);aA (aE hown hg))))))))
def wS (p0:(List Timer)) (p1:Int):Int :=
 (eJ p0 p1)
theorem b4s (p0:(List Timer)) (p1:Int):FnOk prog 86 [.one (.s false 3 (List.map Timer.cells p0)),.one (.v (.int .i64 p1))] ⟨.one (.v (.int .i64 (wS p0 p1))),[],[],false⟩:=by
 refine FnOk.intro (E:=env) aK aS func86 rfl (by kernel_rfl) rfl rfl ?_
 have hg:=wS.eq_1 p0 p1
 have hown:=iN
 exact aA (aB (m:=0) rfl (aA (.inl (⟨_,_,oG p0 p1,(FzAs.same _),aB (m:=2) rfl (aE hown hg)⟩))))
def rY (p0:Wheel) (i2:Nat) (s2:Unit) (a2:Timer):Step (Unit) Bool :=
 (bif ((wS (bV p0) a2.Id) != ((i2:Nat):Int)) then (.done false) else (.next ()))
def rZ (p0:Wheel) (i1:Nat) (s1:Unit):Step (Unit) Bool :=
 (bif (!(iY p0 (p0.Near[i1]?.getD default) 0 ((i1:Nat):Int))) then (.done false) else (bif (!(iY p0 (p0.Far[i1]?.getD default) 1 ((i1:Nat):Int))) then (.done false) else (.next ())))
def qE (p0:Wheel):Bool :=
 (bif (!(aM p0.Now 0 2147483647)) then false else (bif ((((p0.Near).length:Nat):Int) != 8) then false else (bif ((((p0.Far).length:Nat):Int) != 8) then false else (bif (!(iY p0 p0.Rest 2 0)) then false else (Fin.get (fun s1=>(Fin.get (fun s2=>(decide (((((bV p0)).length:Nat):Int)≤16))) (aJ (rY p0) 0 () (bV p0)))) (cJ (rZ p0) 0 () ((8:Int)).toNat))))))
theorem b4v (p0:Wheel) (hs:Wheel.bd 1048576 p0):FnOk prog 51 [.agg ((Wheel.cells false) p0)] ⟨.one (.v (.bool (qE p0))),[],[],false⟩:=by
 refine FnOk.intro (E:=env) aK aS func51 rfl (by kernel_rfl) rfl rfl ?_
 have hg:=qE.eq_1 p0
 have hown:=dP
 exact aA (aB (m:=0) rfl (aA (aA (.inl (⟨_,_,bH p0.Now 0 2147483647,(FzAs.same _),aB (m:=2) rfl (brF hg (fun hg h1=>bJ fun hN2=>yA hg (fun hg h3=>bJ fun hN4=>yA hg (fun hg h5=>.inl (⟨_,_,xZ p0 p0.Rest 2 0,(FzAs.same _),aB (m:=3) rfl (brE hg (fun hg h6=>aA (aE hown hg)) (fun hg h6=>aA (aA (a0w hg [1] (fun x1=>[(3,.one (.v (.int .i64 ((x1.i:Nat):Int))))]) (fun x1=>[.keep 0,.dead,.dead]) [some 0,none,none] ((by repeat' constructor)) (fun x1=>aA (aA (a4j (fun hi1=>have hb1:=(x1.bdy hi1).trans (rZ.eq_1 ..);have hw1:=zQ hi1;aA (aA (.inl ⟨by kernel_rfl,lA (l:=p0.Near) (by (omega)) (fun hq7=>⟨_,_,xZ p0 (p0.Near[x1.i]?.getD default) 0 ((x1.i:Nat):Int),(FzAs.same _),brF hb1 (fun hb1 h8=>lA (l:=p0.Far) (by (omega)) (fun hq9=>⟨_,_,xZ p0 (p0.Far[x1.i]?.getD default) 1 ((x1.i:Nat):Int),(FzAs.same _),brE hb1 (fun hb1 h10=>aA (have hg:=cQ hg (x1.outD hi1 hb1);aE hown hg)) (fun hb1 h10=>x1.goE hi1 hb1 [some 0,none,none] ⟨rfl,⟨(bA hw1),⟨rfl,rfl,rfl,rfl⟩,trivial⟩,(by repeat' constructor),trivial⟩)⟩)) (fun hb1 h8=>aA (have hg:=cQ hg (x1.outD hi1 hb1);aE hown hg))⟩)⟩))) (fun hi1=>have hg:=bZ hg (x1.fin hi1);aA (.inl (⟨_,_,zN p0 (by exact hs),(FzAs.same _),aB (m:=4) rfl (aA (aA (kD (k:=((bV p0)).length) (by simp) (fun hN11=>dW hg [4,56,57] (fun x2=>[(58,.one (.v (.int .i64 ((x2.i:Nat):Int))))]) (fun x2=>[.dead,.dead,.dead,.dead,.keep 4]) [none,none,none,none,some 4] ((by repeat' constructor)) (fun x2=>aA (aA (cT (fun hi2=>have hb2:=(x2.bdy hi2).trans (rY.eq_1 ..);have hw2:=aT hi2 (by assumption);aA (aA (bK (by ((simp (disch:=omega) only [wrap_small,eS,List.length_map];omega))) (a0r (i:=x2.i) (l:=(bV p0)) (by exact Nat.zero_add _) hi2 (aB (m:=5) rfl (aA (.inl (⟨_,_,b4s (bV p0) ((bV p0)[x2.i]'hi2).Id,(FzAs.same _),aB (m:=7) rfl (brW hb2 (fun hb2 h12=>aA (have hg:=cQ hg (x2.outD hi2 hb2);aE hown hg)) (fun hb2 h12=>x2.goE hi2 hb2 [none,none,none,none,some 4] ⟨rfl,⟨(bA hw2),⟨rfl,rfl,rfl,rfl,by (rfl)⟩,⟨rfl,rfl,rfl,rfl,by (rfl)⟩,rfl,trivial⟩,⟨⟨rfl,rfl,rfl⟩,trivial⟩,trivial⟩))⟩)))))))) (fun hi2=>have hg:=bZ hg (x2.fin hi2);aA (kD (k:=((bV p0)).length) (by simp) (fun hN13=>aE hown hg))))))))))⟩))))))))))⟩)) (fun hg h5=>aA (aE hown hg))) (fun hg h3=>aA (aE hown hg))) (fun hg h1=>aA (aE hown hg)))⟩)))))
def qY (p0:Bucket):Bool :=
 (bif (aM p0.Rate 0 99) then (bif (aM p0.Burst 0 999) then (bif (aM p0.Tokens 0 p0.Burst) then (aM p0.At 0 2147483647) else false) else false) else false)
theorem a2l (p0:Bucket):FnOk prog 53 [.agg (Bucket.cells p0)] ⟨.one (.v (.bool (qY p0))),[],[],false⟩:=by
 refine FnOk.intro (E:=env) aK aS func53 rfl (by kernel_rfl) rfl rfl ?_
 have hg:=qY.eq_1 p0
 have hown:=dP
 exact aA (aB (m:=0) rfl (aA (.inl (⟨_,_,bH p0.Rate 0 99,(FzAs.same _),aB (m:=2) rfl (brE hg (fun hg h1=>.inl (⟨_,_,bH p0.Burst 0 999,(FzAs.same _),aB (m:=3) rfl (brE hg (fun hg h2=>.inl (⟨_,_,bH p0.Tokens 0 p0.Burst,(FzAs.same _),aB (m:=4) rfl (brE hg (fun hg h3=>.inl (⟨_,_,bH p0.At 0 2147483647,(FzAs.same _),aB (m:=5) rfl (aE hown hg)⟩)) (fun hg h3=>aE hown hg))⟩)) (fun hg h2=>aE hown hg))⟩)) (fun hg h1=>aE hown hg))⟩))))
def lN (p0:Verdict) (c0:Int):Bool :=
 (p0.Trace==c0)
theorem a7l (p0:Verdict) (c0:Int):FnOk prog 139 [.agg (Verdict.cells p0),.one (.q 1 [[.v (.int .i64 c0)]] 0 0)] ⟨.one (.v (.bool (lN p0 c0))),[],[],false⟩:=by
 refine FnOk.intro (E:=env) aK aS func139 rfl (by kernel_rfl) rfl rfl ?_
 have hg:=lN.eq_1 p0 c0
 have hown:=dP
 exact aA (aB (m:=0) rfl (aA (aE hown hg)))
def eW (p1_0:Int) (i1:Nat) (s1:Unit) (a1:Verdict):Step (Unit) Int :=
 (bif (lN a1 p1_0) then (.done ((i1:Nat):Int)) else (.next ()))
def dJ (p0:(List Verdict)) (p1_0:Int):Int :=
 (Fin.get (fun s1=>(-1)) (aJ (eW p1_0) 0 () p0))
theorem mM (p0:(List Verdict)) (p1_0:Int):FnOk prog 138 [.one (.s false 3 (List.map Verdict.cells p0)),.one (.c 139 [.q 1 [[.v (.int .i64 p1_0)]] 0 0])] ⟨.one (.v (.int .i64 (dJ p0 p1_0))),[],[],false⟩:=by
 refine FnOk.intro (E:=env) aK aS func138 rfl (by kernel_rfl) rfl rfl ?_
 have hg:=dJ.eq_1 p0 p1_0
 have hown:=iN
 exact aA (aA (aA (bJ fun hN1=>dW hg [0,1,7] (fun x1=>[(8,.one (.v (.int .i64 ((x1.i:Nat):Int))))]) (fun x1=>[]) [] ((by repeat' constructor)) (fun x1=>aA (aA (cT (fun hi1=>have hb1:=(x1.bdy hi1).trans (eW.eq_1 ..);have hw1:=aT hi1 (by assumption);aA (aA (aA (cC hi1 (.inl (⟨_,_,a7l (p0[x1.i]'hi1) p1_0,(FzAs.same _),aB (m:=1) rfl (brE hb1 (fun hb1 h2=>aA (have hg:=cQ hg (x1.outD hi1 hb1);aE hown hg)) (fun hb1 h2=>x1.goE hi1 hb1 [] ⟨rfl,⟨(bA hw1),rfl,⟨rfl,⟨rfl,trivial⟩⟩,rfl,trivial⟩,trivial,trivial⟩))⟩)))))) (fun hi1=>have hg:=bZ hg (x1.fin hi1);aA (aE hown hg))))))))
def nQ (p0:(List Verdict)) (p1:Int):Int :=
 (dJ p0 p1)
theorem b0e (p0:(List Verdict)) (p1:Int):FnOk prog 87 [.one (.s false 3 (List.map Verdict.cells p0)),.one (.v (.int .i64 p1))] ⟨.one (.v (.int .i64 (nQ p0 p1))),[],[],false⟩:=by
 refine FnOk.intro (E:=env) aK aS func87 rfl (by kernel_rfl) rfl rfl ?_
 have hg:=nQ.eq_1 p0 p1
 have hown:=iN
 exact aA (aB (m:=0) rfl (aA (.inl (⟨_,_,mM p0 p1,(FzAs.same _),aB (m:=2) rfl (aE hown hg)⟩))))
def sG (p0:(List Verdict)) (i1:Nat) (s1:Unit) (a1:Verdict):Step (Unit) Bool :=
 (bif (!(aM a1.Trace 1 999)) then (.done false) else (bif (decide (a1.Stamp < 1)) then (.done false) else (bif ((nQ p0 a1.Trace) != ((i1:Nat):Int)) then (.done false) else (.next ()))))
def qF (p0:(List Verdict)) (p1:Int):Bool :=
 (Fin.get (fun s1=>(decide ((((p0).length:Nat):Int)≤p1))) (aJ (sG p0) 0 () p0))
theorem b4y (p0:(List Verdict)) (p1:Int):FnOk prog 54 [.one (.s false 3 (List.map Verdict.cells p0)),.one (.v (.int .i64 p1))] ⟨.one (.v (.bool (qF p0 p1))),[],[],false⟩:=by
 refine FnOk.intro (E:=env) aK aS func54 rfl (by kernel_rfl) rfl rfl ?_
 have hg:=qF.eq_1 p0 p1
 have hown:=dP
 exact aA (aA (aA (bJ fun hN1=>dW hg [0,1,7,8] (fun x1=>[(9,.one (.v (.int .i64 ((x1.i:Nat):Int))))]) (fun x1=>[]) [] ((by repeat' constructor)) (fun x1=>aA (aA (cT (fun hi1=>have hb1:=(x1.bdy hi1).trans (sG.eq_1 ..);have hw1:=aT hi1 (by assumption);aA (aA (cC hi1 (aB (m:=0) rfl (aA (.inl (⟨_,_,bH (p0[x1.i]'hi1).Trace 1 999,(FzAs.same _),aB (m:=2) rfl (brF hb1 (fun hb1 h2=>nC hb1 (fun hb1 h3=>.inl (⟨_,_,b0e p0 (p0[x1.i]'hi1).Trace,(FzAs.same _),aB (m:=3) rfl (brW hb1 (fun hb1 h4=>aA (have hg:=cQ hg (x1.outD hi1 hb1);aE hown hg)) (fun hb1 h4=>x1.goE hi1 hb1 [] ⟨rfl,⟨(bA hw1),rfl,rfl,rfl,rfl,trivial⟩,trivial,trivial⟩))⟩)) (fun hb1 h3=>aA (have hg:=cQ hg (x1.outD hi1 hb1);aE hown hg))) (fun hb1 h2=>aA (have hg:=cQ hg (x1.outD hi1 hb1);aE hown hg)))⟩))))))) (fun hi1=>have hg:=bZ hg (x1.fin hi1);aA (bJ fun hN5=>aE hown hg))))))))
def vA (p0:Span):Span :=
 p0
theorem b2x (p0:Span) (hs:Span.bd 1048576 p0):FnOk prog 39 [.agg ((Span.cells false) p0)] ⟨.agg ((Span.cells true) (vA p0)),[],[],false⟩:=by
 refine FnOk.intro (E:=env) aK aS func39 rfl (by kernel_rfl) rfl rfl ?_
 have hg:=vA.eq_1 p0
 have hown:∀g:Span,AV.Own (AV.agg ((Span.cells true) g)):=fun g=>xM _
 refine aA (aB (m:=0) rfl (aB (m:=1) rfl (aA (.inl (aV (Y:=List.map Attr.cells p0.Attrs) (by simp [bX,bP,-List.map_take,-List.map_drop,-List.drop_one,aQ,aR,oR,oT,bY oR,fH oT];done) (cS (b:=48) (hs:=by have hl:=hs.1;refine ⟨?_,?_⟩;(show List.length _*48≤_);(try simp only [List.length_map,List.length_append,List.length_cons,List.length_nil]);omega;(try simp only [List.length_map,List.length_append,List.length_cons,List.length_nil]);omega) ?_))))))
 exact aB (m:=2) rfl (aA (aE hown hg))
def uD (i1:Nat) (s1:(List Span)) (a1:Span):Step ((List Span)) (List Span) :=
 (.next (s1++[(vA a1)]))
def qD (p0:(List Span)):(List Span) :=
 (Fin.get (fun s1=>s1) (aJ uD 0 ([]:List Span) p0))
theorem b0j (p0:(List Span)) (hs:bdS Span.bd 1048576 p0):FnOk prog 144 [.one (.s false 6 (List.map (Span.cells false) p0))] ⟨.one (.s true 6 (List.map (Span.cells true) (qD p0))),[],[],false⟩:=by
 refine FnOk.intro (E:=env) aK aS func144 rfl (by kernel_rfl) rfl rfl ?_
 have hg:=qD.eq_1 p0
 have hown:∀g:(List Span),AV.Own (AV.one (.s true 6 (List.map (Span.cells true) g))):=fun g=>fF xM _
 refine aA (aA (aA (aA (bJ fun hN1=>gM (fun i s=>s.length=i) hg (by rfl) [6,7] (fun x1=>[(3,.one (.n 0 [] 1 0 (x1.s).length)),(8,.one (.v (.int .i64 ((x1.i:Nat):Int))))]) (fun x1=>[.new ⟨6,false,List.map (Span.cells true) x1.s,0⟩]) [none] ((by repeat' constructor)) (fun x1=>?_)))))
 have hI1:List.length x1.s=x1.i:=by simpa using x1.hI
 refine aA (aA (cT (fun hi1=>have hb1:=(x1.bdy hi1).trans (uD.eq_1 ..);have hw1:=aT hi1 (by assumption);aA (aA (cC hi1 (aB (m:=1) rfl (.inl (⟨_,_,b2x (p0[x1.i]'hi1) (by exact hs.get hi1),(FzAs.same _),aB (m:=3) rfl (.inl (aB (m:=4) rfl (.inl (aV (Y:=List.map (Span.cells true) (x1.s++[(vA (p0[x1.i]'hi1))])) (by simp [bX,bP,-List.map_take,-List.map_drop,-List.drop_one,aQ,aR,a0h,bY a0h,iC b3o];rfl) (cS (b:=64) (hs:=by have hl:=hs.1;refine ⟨?_,?_⟩;(show List.length _*64≤_);(try simp only [List.length_map,List.length_append,List.length_cons,List.length_nil]);omega;(try simp only [List.length_map,List.length_append,List.length_cons,List.length_nil]);omega) ?_)))))⟩)))))) (fun hi1=>have hg:=bZ hg (x1.fin hi1);aA (aE hown hg))))
 exact aB (m:=5) rfl (x1.goE hi1 hb1 (by show List.length (_++_)=_;simp only [List.length_append,List.length_cons,List.length_nil];omega) [some 5] ⟨rfl,⟨⟨rfl,rfl,rfl,rfl,by ((simp [LstSt.init,LstSt.step,LstInv.init,CntSt.init,CntSt.step,CntInv.init,WhlSt.init,WhlSt.step];done))⟩,(bA hw1),rfl,rfl,trivial⟩,⟨⟨rfl,rfl,rfl⟩,trivial⟩,trivial⟩)
theorem c0i (l:List Span):qD l=l:=by
 unfold qD
 rw [yC (f:=fun a=>[a]) (b:=uD) (fun _ _ _=>rfl)]
 simp [Fin.get]
def nR (p0:Trail):Trail :=
 { p0 with Spans:=(qD p0.Spans) }
theorem b0i (p0:Trail) (hs:Trail.bd 1048576 p0):FnOk prog 97 [.agg ((Trail.cells false) p0)] ⟨.agg ((Trail.cells true) (nR p0)),[],[],false⟩:=by
 refine FnOk.intro (E:=env) aK aS func97 rfl (by kernel_rfl) rfl rfl ?_
 have hg:=nR.eq_1 p0
 have hown:∀g:Trail,AV.Own (AV.agg ((Trail.cells true) g)):=fun g=>pC _
 exact aA (aB (m:=0) rfl (aB (m:=1) rfl (aA (.inl (⟨_,_,b0j p0.Spans (by exact hs),(FzAs.same _),aB (m:=3) rfl (aA (aE hown hg))⟩)))))
theorem c0h (t:Trail):nR t=t:=by
 unfold nR
 rw [c0i]
def pE (i1:Nat) (s1:(List Trail)) (a1:Trail):Step ((List Trail)) (List Trail) :=
 (.next (s1++[(nR a1)]))
def mU (p0:(List Trail)):(List Trail) :=
 (Fin.get (fun s1=>s1) (aJ pE 0 ([]:List Trail) p0))
theorem a8o (p0:(List Trail)) (hs:bdS Trail.bd 1048576 p0):FnOk prog 66 [.one (.s false 4 (List.map (Trail.cells false) p0))] ⟨.one (.s true 4 (List.map (Trail.cells true) (mU p0))),[],[],false⟩:=by
 refine FnOk.intro (E:=env) aK aS func66 rfl (by kernel_rfl) rfl rfl ?_
 have hg:=mU.eq_1 p0
 have hown:∀g:(List Trail),AV.Own (AV.one (.s true 4 (List.map (Trail.cells true) g))):=fun g=>fF pC _
 refine aA (aA (aA (aA (bJ fun hN1=>gM (fun i s=>s.length=i) hg (by rfl) [6,7] (fun x1=>[(3,.one (.n 0 [] 1 0 (x1.s).length)),(8,.one (.v (.int .i64 ((x1.i:Nat):Int))))]) (fun x1=>[.new ⟨4,false,List.map (Trail.cells true) x1.s,0⟩]) [none] ((by repeat' constructor)) (fun x1=>?_)))))
 have hI1:List.length x1.s=x1.i:=by simpa using x1.hI
 refine aA (aA (cT (fun hi1=>have hb1:=(x1.bdy hi1).trans (pE.eq_1 ..);have hw1:=aT hi1 (by assumption);aA (aA (cC hi1 (aB (m:=1) rfl (.inl (⟨_,_,b0i (p0[x1.i]'hi1) (by exact hs.get hi1),(FzAs.same _),aB (m:=3) rfl (.inl (aB (m:=4) rfl (.inl (aV (Y:=List.map (Trail.cells true) (x1.s++[(nR (p0[x1.i]'hi1))])) (by simp [bX,bP,-List.map_take,-List.map_drop,-List.drop_one,aQ,aR,jH,bY jH,iC sN];rfl) (cS (b:=48) (hs:=by have hl:=hs.1;refine ⟨?_,?_⟩;(show List.length _*48≤_);(try simp only [List.length_map,List.length_append,List.length_cons,List.length_nil]);omega;(try simp only [List.length_map,List.length_append,List.length_cons,List.length_nil]);omega) ?_)))))⟩)))))) (fun hi1=>have hg:=bZ hg (x1.fin hi1);aA (aE hown hg))))
 exact aB (m:=5) rfl (x1.goE hi1 hb1 (by show List.length (_++_)=_;simp only [List.length_append,List.length_cons,List.length_nil];omega) [some 5] ⟨rfl,⟨⟨rfl,rfl,rfl,rfl,by ((simp [LstSt.init,LstSt.step,LstInv.init,CntSt.init,CntSt.step,CntInv.init,WhlSt.init,WhlSt.step];done))⟩,(bA hw1),rfl,rfl,trivial⟩,⟨⟨rfl,rfl,rfl⟩,trivial⟩,trivial⟩)
theorem zJ (l:List Trail):mU l=l:=by
 unfold mU
 rw [yC (f:=fun a=>[a]) (b:=pE) (fun _ s a=>by unfold pE;rw [c0h])]
 simp [Fin.get]
def pQ (i1:Nat) (s1:(List Trail)) (a1:Stripe):Step ((List Trail)) (List Trail) :=
 (.next (s1++(mU a1.L)))
def iK (p0:(List Stripe)):(List Trail) :=
 (Fin.get (fun s1=>s1) (aJ pQ 0 ([]:List Trail) p0))
theorem a1i (p0:(List Stripe)) (hs:bdS Stripe.bd 1048576 p0):FnOk prog 33 [.one (.s false 2 (List.map (Stripe.cells false) p0))] ⟨.one (.s true 4 (List.map (Trail.cells true) (iK p0))),[],[],false⟩:=by
 refine FnOk.intro (E:=env) aK aS func33 rfl (by kernel_rfl) rfl rfl ?_
 have hg:=iK.eq_1 p0
 have hown:∀g:(List Trail),AV.Own (AV.one (.s true 4 (List.map (Trail.cells true) g))):=fun g=>fF pC _
 refine aA (aA (aA (aA (bJ fun hN1=>gM (fun i s=>s.length≤1048576*i) hg (by show 0≤_;omega) [6,7] (fun x1=>[(3,.one (.n 0 [] 1 0 (x1.s).length)),(8,.one (.v (.int .i64 ((x1.i:Nat):Int))))]) (fun x1=>[.new ⟨4,false,List.map (Trail.cells true) x1.s,0⟩]) [none] ((by repeat' constructor)) (fun x1=>?_)))))
 have hI1:List.length x1.s≤1048576*x1.i:=by simpa using x1.hI
 refine aA (aA (cT (fun hi1=>have hb1:=(x1.bdy hi1).trans (pQ.eq_1 ..);have hw1:=aT hi1 (by assumption);aA (aA (cC hi1 (aB (m:=1) rfl (.inl (⟨_,_,a8o (p0[x1.i]'hi1).L (by exact hs.get hi1),(FzAs.same _),aB (m:=3) rfl (.inl (aV (Y:=List.map (Trail.cells true) (x1.s++(mU (p0[x1.i]'hi1).L))) (by simp [bX,bP,-List.map_take,-List.map_drop,-List.drop_one,aQ,aR,jH,bY jH,iC sN];done) (cS (b:=48) (hs:=by have hl:=hs.1;have hq:bdS Trail.bd 1048576 (p0[x1.i]'hi1).L:=hs.get hi1;have hq1:=hq.1;have hq2:=zJ (p0[x1.i]'hi1).L;(try rw [hq2]);refine ⟨?_,?_⟩;(show List.length _*48≤_);(try simp only [List.length_map,List.length_append,List.length_cons,List.length_nil]);omega;(try simp only [List.length_map,List.length_append,List.length_cons,List.length_nil]);omega) ?_)))⟩)))))) (fun hi1=>have hg:=bZ hg (x1.fin hi1);aA (aE hown hg))))
 exact aB (m:=4) rfl (x1.goE hi1 hb1 (by have hq:bdS Trail.bd 1048576 (p0[x1.i]'hi1).L:=hs.get hi1;show List.length (_++_)≤_;rw [List.length_append,zJ];have:=hq.1;omega) [some 4] ⟨rfl,⟨⟨rfl,rfl,rfl,rfl,by ((simp [LstSt.init,LstSt.step,LstInv.init,CntSt.init,CntSt.step,CntInv.init,WhlSt.init,WhlSt.step];done))⟩,(bA hw1),rfl,rfl,trivial⟩,⟨⟨rfl,rfl,rfl⟩,trivial⟩,trivial⟩)
theorem a1m (l:List Stripe):iK l=l.flatMap (fun x=>x.L):=by
 unfold iK
 rw [yC (f:=fun x:Stripe=>x.L) (b:=pQ) (fun _ s a=>by unfold pQ;rw [zJ])]
 simp [Fin.get]
theorem jY (p0:List Stripe) (hs:bdS Stripe.bd 1048576 p0):(iK p0).length≤1099511627776:=by
 rw [a1m]
 have h1:=hs.1
 have:=a2f (fun x:Stripe=>x.L) 1048576 p0 (fun a ha=>(hs.2 a ha).1)
 omega
def sE (i1:Nat) (s1:Int) (a1:Span):Step (Int) Int :=
 (.next (IntKind.i64.wrap (s1+(rF a1))))
def wU (p0:(List Span)):Int :=
 (Fin.get (fun s1=>s1) (aJ sE 0 0 p0))
theorem b4x (p0:(List Span)):FnOk prog 71 [.one (.s false 6 (List.map (Span.cells false) p0))] ⟨.one (.v (.int .i64 (wU p0))),[],[],false⟩:=by
 refine FnOk.intro (E:=env) aK aS func71 rfl (by kernel_rfl) rfl rfl ?_
 have hg:=wU.eq_1 p0
 have hown:=iN
 exact aA (aA (aA (aA (bJ fun hN1=>dW hg [6,7] (fun x1=>[(3,.one (.v (.int .i64 x1.s))),(8,.one (.v (.int .i64 ((x1.i:Nat):Int))))]) (fun x1=>[]) [] ((by repeat' constructor)) (fun x1=>aA (aA (cT (fun hi1=>have hb1:=(x1.bdy hi1).trans (sE.eq_1 ..);have hw1:=aT hi1 (by assumption);aA (aA (cC hi1 (aB (m:=0) rfl (.inl (⟨_,_,zO (p0[x1.i]'hi1),(FzAs.same _),aB (m:=2) rfl (x1.goE hi1 hb1 [] ⟨rfl,⟨rfl,(bA hw1),rfl,rfl,trivial⟩,trivial,trivial⟩)⟩)))))) (fun hi1=>have hg:=bZ hg (x1.fin hi1);aA (aE hown hg)))))))))
def tA (p0:Trail):Int :=
 (wU p0.Spans)
theorem b4z (p0:Trail):FnOk prog 43 [.agg ((Trail.cells false) p0)] ⟨.one (.v (.int .i64 (tA p0))),[],[],false⟩:=by
 refine FnOk.intro (E:=env) aK aS func43 rfl (by kernel_rfl) rfl rfl ?_
 have hg:=tA.eq_1 p0
 have hown:=iN
 exact aA (aB (m:=0) rfl (aA (.inl (⟨_,_,b4x p0.Spans,(FzAs.same _),aB (m:=2) rfl (aE hown hg)⟩))))
def pS (i1:Nat) (s1:Int) (a1:Trail):Step (Int) Int :=
 (.next (IntKind.i64.wrap (s1+(tA a1))))
def nT (p0:(List Stripe)):Int :=
 (Fin.get (fun s1=>s1) (aJ pS 0 0 (iK p0)))
theorem b0m (p0:(List Stripe)) (hs:bdS Stripe.bd 1048576 p0):FnOk prog 20 [.one (.s false 2 (List.map (Stripe.cells false) p0))] ⟨.one (.v (.int .i64 (nT p0))),[],[],false⟩:=by
 refine FnOk.intro (E:=env) aK aS func20 rfl (by kernel_rfl) rfl rfl ?_
 have hg:=nT.eq_1 p0
 have hown:=iN
 exact aA (aA (aA (aA (.inl (⟨_,_,(FnOk.conv (.one (.one (.sl _ _ _ _ (bE kM _))) (fun _ h=>by cases h) (fun _ h=>by cases h)) (a1i p0 (by exact hs))),(FzAs.same _),aB (m:=1) rfl (bJ fun hN1=>dW hg [7,8] (fun x1=>[(3,.one (.v (.int .i64 x1.s))),(9,.one (.v (.int .i64 ((x1.i:Nat):Int))))]) (fun x1=>[.dead]) [none] ((by repeat' constructor)) (fun x1=>aA (aA (cT (fun hi1=>have hb1:=(x1.bdy hi1).trans (pS.eq_1 ..);have hw1:=aT hi1 (by assumption);aA (aA (cC hi1 (aB (m:=1) rfl (.inl (⟨_,_,b4z ((iK p0)[x1.i]'hi1),(FzAs.same _),aB (m:=3) rfl (x1.goE hi1 hb1 [none] ⟨rfl,⟨rfl,(bA hw1),rfl,rfl,trivial⟩,trivial,trivial⟩)⟩)))))) (fun hi1=>have hg:=bZ hg (x1.fin hi1);aA (aE hown hg))))))⟩)))))
def rG (p0:Item):Bool :=
 (bif (decide (p0.Stamp≥1)) then (kR p0.S) else false)
theorem a6b (p0:Item):FnOk prog 90 [.agg ((Item.cells false) p0)] ⟨.one (.v (.bool (rG p0))),[],[],false⟩:=by
 refine FnOk.intro (E:=env) aK aS func90 rfl (by kernel_rfl) rfl rfl ?_
 have hg:=rG.eq_1 p0
 have hown:=dP
 exact aA (aB (m:=0) rfl (aA (brD hg (fun hg h1=>.inl (⟨_,_,vF p0.S,(FzAs.same _),aB (m:=2) rfl (aE hown hg)⟩)) (fun hg h1=>aE hown hg))))
def qC (p0:Item):Bool :=
 (!(rG p0))
theorem b0h (p0:Item):FnOk prog 89 [.agg ((Item.cells false) p0)] ⟨.one (.v (.bool (qC p0))),[],[],false⟩:=by
 refine FnOk.intro (E:=env) aK aS func89 rfl (by kernel_rfl) rfl rfl ?_
 have hg:=qC.eq_1 p0
 have hown:=dP
 exact aA (aB (m:=0) rfl (aA (.inl (⟨_,_,a6b p0,(FzAs.same _),aB (m:=2) rfl (aE hown hg)⟩))))
def gE (i1:Nat) (s1:Unit) (a1:Item):Step (Unit) Int :=
 (bif (qC a1) then (.done ((i1:Nat):Int)) else (.next ()))
def eX (p0:(List Item)):Int :=
 (Fin.get (fun s1=>(-1)) (aJ gE 0 () p0))
theorem oM (p0:(List Item)):FnOk prog 140 [.one (.s false 7 (List.map (Item.cells false) p0)),.one (.c 89 [])] ⟨.one (.v (.int .i64 (eX p0))),[],[],false⟩:=by
 refine FnOk.intro (E:=env) aK aS func140 rfl (by kernel_rfl) rfl rfl ?_
 have hg:=eX.eq_1 p0
 have hown:=iN
 exact aA (aA (aA (bJ fun hN1=>dW hg [0,1,7] (fun x1=>[(8,.one (.v (.int .i64 ((x1.i:Nat):Int))))]) (fun x1=>[]) [] ((by repeat' constructor)) (fun x1=>aA (aA (cT (fun hi1=>have hb1:=(x1.bdy hi1).trans (gE.eq_1 ..);have hw1:=aT hi1 (by assumption);aA (aA (aA (cC hi1 (.inl (⟨_,_,b0h (p0[x1.i]'hi1),(FzAs.same _),aB (m:=1) rfl (brE hb1 (fun hb1 h2=>aA (have hg:=cQ hg (x1.outD hi1 hb1);aE hown hg)) (fun hb1 h2=>x1.goE hi1 hb1 [] ⟨rfl,⟨(bA hw1),rfl,⟨rfl,trivial⟩,rfl,trivial⟩,trivial,trivial⟩))⟩)))))) (fun hi1=>have hg:=bZ hg (x1.fin hi1);aA (aE hown hg))))))))
def eE (p0:(List Item)):Bool :=
 (decide ((eX p0)≥0))
theorem nW (p0:(List Item)):FnOk prog 88 [.one (.s false 7 (List.map (Item.cells false) p0)),.one (.c 89 [])] ⟨.one (.v (.bool (eE p0))),[],[],false⟩:=by
 refine FnOk.intro (E:=env) aK aS func88 rfl (by kernel_rfl) rfl rfl ?_
 have hg:=eE.eq_1 p0
 have hown:=dP
 exact aA (aA (.inl (⟨_,_,oM p0,(FzAs.same _),aB (m:=1) rfl (aE hown hg)⟩)))
def mJ (p0:(List Item)):Bool :=
 (!(eE p0))
theorem a4e (p0:(List Item)):FnOk prog 55 [.one (.s false 7 (List.map (Item.cells false) p0))] ⟨.one (.v (.bool (mJ p0))),[],[],false⟩:=by
 refine FnOk.intro (E:=env) aK aS func55 rfl (by kernel_rfl) rfl rfl ?_
 have hg:=mJ.eq_1 p0
 have hown:=dP
 exact aA (aA (.inl (⟨_,_,nW p0,(FzAs.same _),aB (m:=1) rfl (aE hown hg)⟩)))
def xS (p0:Deed):Step (Bool) (Step (Unit) Bool) :=
 (bif (p0.Op==1) then (.next (p0.Lin != (-1))) else (.next false))
def tW (p0:Deed):Step (Unit) Bool :=
 (Step.get (fun s2=>(bif s2 then (bif (!(aM p0.Code 1 5)) then (.done false) else (.next ())) else (bif (p0.Code != 0) then (.done false) else (.next ())))) (xS p0))
def nL (p0:Deed):Bool :=
 (bif (!(aM p0.Op 1 4)) then false else (bif (decide (p0.Inv < 0)) then false else (bif (decide ((min (min (min p0.Took p0.N) p0.Forgot) p0.Now) < 0)) then false else (Step.get (fun s1=>(bif (p0.Lin==(-1)) then (bif (p0.Res==(-1)) then true else (bif (p0.Lin != (-1)) then (decide (p0.Res≥p0.Lin)) else false)) else (bif (decide (p0.Lin≥p0.Inv)) then (bif (p0.Res==(-1)) then true else (bif (p0.Lin != (-1)) then (decide (p0.Res≥p0.Lin)) else false)) else false))) (tW p0)))))
theorem b7k (p0:Deed):FnOk prog 56 [.agg ((Deed.cells false) p0)] ⟨.one (.v (.bool (nL p0))),[],[],false⟩:=by
 refine FnOk.intro (E:=env) aK aS func56 rfl (by kernel_rfl) rfl rfl ?_
 have hg:=nL.eq_1 p0
 have hown:=dP
 exact aA (aB (m:=0) rfl (aA (aA (.inl (⟨_,_,bH p0.Op 1 4,(FzAs.same _),aB (m:=2) rfl (brF hg (fun hg h1=>nC hg (fun hg h2=>brD hg (fun hg h3=>aA (aE hown hg)) (fun hg h3=>eA hg [1] (fun x1=>[]) (fun x1=>[.keep 0,.dead,.dead]) (fun hb1=>have hb1:=hb1.trans (tW.eq_1 ..);eA hb1 [1] (fun x2=>[(31,.one (.v (.bool x2.s)))]) (fun x2=>[.keep 0,.dead]) (fun hb2=>have hb2:=hb2.trans (xS.eq_1 ..);brQ hb2 (fun hb2 h4=>.inl ⟨⟨_,hb2⟩,[some 0,none],(by repeat' constructor)⟩) (fun hb2 h4=>.inl ⟨⟨_,hb2⟩,[some 0,none],(by repeat' constructor)⟩)) (fun x2 hb1=>brE hb1 (fun hb1 h5=>aA (.inl (⟨_,_,bH p0.Code 1 5,(FzAs.same _),aB (m:=3) rfl (brE hb1 (fun hb1 h6=>aA (have hg:=getD hg hb1;aE hown hg)) (fun hb1 h6=>.inl ⟨⟨_,hb1⟩,[some 0,none,none],(by repeat' constructor)⟩))⟩))) (fun hb1 h5=>aA (brW hb1 (fun hb1 h7=>aA (have hg:=getD hg hb1;aE hown hg)) (fun hb1 h7=>.inl ⟨⟨_,hb1⟩,[some 0,none,none],(by repeat' constructor)⟩))))) (fun x1 hg=>aA (b0p hg (fun hg h8=>brD hg (fun hg h11=>b0p hg (fun hg h12=>brW hg (fun hg h13=>aE hown hg) (fun hg h13=>aE hown hg)) (fun hg h12=>aE hown hg)) (fun hg h11=>aE hown hg)) (fun hg h8=>b0p hg (fun hg h9=>brW hg (fun hg h10=>aE hown hg) (fun hg h10=>aE hown hg)) (fun hg h9=>aE hown hg)))))) (fun hg h2=>aA (aE hown hg))) (fun hg h1=>aA (aE hown hg)))⟩)))))
def vQ (p0:World):Step (Unit) Bool :=
 (bif (!(qE p0.W)) then (.done false) else (bif (decide (p0.W.Now > 100000)) then (.done false) else (bif p0.Shut then (bif (decide (((((bV p0.W)).length:Nat):Int) > 0)) then (.done false) else (bif (!(qY p0.B)) then (.done false) else (bif (p0.B.Rate != p0.C.Rate) then (.done false) else (bif (p0.B.Burst != p0.C.Burst) then (.done false) else (.next ()))))) else (bif (!(qY p0.B)) then (.done false) else (bif (p0.B.Rate != p0.C.Rate) then (.done false) else (bif (p0.B.Burst != p0.C.Burst) then (.done false) else (.next ())))))))
def qO (p0:World) (i3:Nat) (s3:Unit) (a3:Deed):Step (Unit) Bool :=
 (bif (!(nL a3)) then (.done false) else (bif (decide ((max (max a3.Inv a3.Lin) a3.Res)≥p0.Time)) then (.done false) else (.next ())))
def qP (i2:Nat) (s2:Unit) (a2:Timer):Step (Unit) Bool :=
 (bif (decide (a2.Id < 1)) then (.done false) else (bif (!(aM a2.Trace 1 999)) then (.done false) else (.next ())))
def uY (p0:World):Bool :=
 (bif (!(rH p0.C)) then false else (bif (decide (p0.Time < 0)) then false else (bif (!(aM p0.RuleHeld (-1) 4)) then false else (bif (decide (p0.Next < 1)) then false else (bif (!(nS p0.St)) then false else (bif ((((p0.St).length:Nat):Int) != p0.C.Stripes) then false else (Step.get (fun s1=>(bif (decide (p0.B.At > p0.W.Now)) then false else (bif (!(qF p0.Cache p0.C.Cache)) then false else (bif (p0.Used != (nT p0.St)) then false else (bif (decide (p0.Used > p0.C.Budget)) then false else (bif (decide ((((p0.Queue).length:Nat):Int) > p0.C.Queue)) then false else (bif (!(mJ p0.Queue)) then false else (bif (!(mJ p0.Out)) then false else (Fin.get (fun s2=>(Fin.get (fun s3=>true) (aJ (qO p0) 0 () p0.Deeds))) (aJ qP 0 () p0.Due)))))))))) (vQ p0))))))))
theorem b2t (p0:World) (hs:World.bd 1048576 p0):FnOk prog 27 [.agg ((World.cells false) p0)] ⟨.one (.v (.bool (uY p0))),[],[],false⟩:=by
 refine FnOk.intro (E:=env) aK aS func27 rfl (by kernel_rfl) rfl rfl ?_
 have hg:=uY.eq_1 p0
 have hown:=dP
 exact aA (aB (m:=0) rfl (aA (aA (.inl (⟨_,_,b7l p0.C,(FzAs.same _),aB (m:=2) rfl (brF hg (fun hg h1=>nC hg (fun hg h2=>.inl (⟨_,_,bH p0.RuleHeld (-1) 4,(FzAs.same _),aB (m:=3) rfl (brF hg (fun hg h3=>nC hg (fun hg h4=>.inl (⟨_,_,b0k p0.St (by exact hs.2.1),(FzAs.same _),aB (m:=4) rfl (brF hg (fun hg h5=>bJ fun hN6=>brW hg (fun hg h7=>aA (aE hown hg)) (fun hg h7=>aA (eA hg [1] (fun x1=>[(95,.one (.v (.bool (decide (p0.B.At > p0.W.Now)))))]) (fun x1=>[.keep 0,.dead,.dead,.dead,.dead,.dead,.dead,.dead]) (fun hb1=>have hb1:=hb1.trans (vQ.eq_1 ..);.inl (⟨_,_,b4v p0.W (by exact hs.2.2.2.1),(FzAs.same _),aB (m:=5) rfl (brF hb1 (fun hb1 h8=>nC hb1 (fun hb1 h9=>brE hb1 (fun hb1 h10=>.inl (⟨_,_,zN p0.W (by exact hs.2.2.2.1),(FzAs.same _),aB (m:=6) rfl (kD (k:=((bV p0.W)).length) (by simp) (fun hN11=>nC hb1 (fun hb1 h12=>.inl (⟨_,_,a2l p0.B,(FzAs.same _),aB (m:=8) rfl (brF hb1 (fun hb1 h13=>yA hb1 (fun hb1 h14=>yA hb1 (fun hb1 h15=>.inl ⟨⟨_,hb1⟩,[some 0,none,none,none,none,none,none,none],(by repeat' constructor)⟩) (fun hb1 h15=>.inr (have hg:=getD hg hb1;aA (aE hown hg)))) (fun hb1 h14=>.inr (have hg:=getD hg hb1;aA (aE hown hg)))) (fun hb1 h13=>.inr (have hg:=getD hg hb1;aA (aE hown hg))))⟩)) (fun hb1 h12=>.inr (have hg:=getD hg hb1;aA (aE hown hg)))))⟩)) (fun hb1 h10=>.inl (⟨_,_,a2l p0.B,(FzAs.same _),aB (m:=6) rfl (brF hb1 (fun hb1 h16=>yA hb1 (fun hb1 h17=>yA hb1 (fun hb1 h18=>.inl ⟨⟨_,hb1⟩,[some 0,none,none,none,none,none,none,none],(by repeat' constructor)⟩) (fun hb1 h18=>.inr (have hg:=getD hg hb1;aA (aE hown hg)))) (fun hb1 h17=>.inr (have hg:=getD hg hb1;aA (aE hown hg)))) (fun hb1 h16=>.inr (have hg:=getD hg hb1;aA (aE hown hg))))⟩))) (fun hb1 h9=>.inr (have hg:=getD hg hb1;aA (aE hown hg)))) (fun hb1 h8=>.inr (have hg:=getD hg hb1;aA (aE hown hg))))⟩)) (fun x1 hg=>brD hg (fun hg h19=>aA (aE hown hg)) (fun hg h19=>aA (aA (.inl ⟨by kernel_rfl,⟨_,_,b4y p0.Cache p0.C.Cache,(FzAs.same _),brF hg (fun hg h20=>⟨_,_,b0m p0.St (by exact hs.2.1),(FzAs.same _),yA hg (fun hg h21=>nC hg (fun hg h22=>bJ fun hN23=>nC hg (fun hg h24=>⟨_,_,a4e p0.Queue,(FzAs.same _),brF hg (fun hg h25=>⟨_,_,a4e p0.Out,(FzAs.same _),brE hg (fun hg h26=>aA (aE hown hg)) (fun hg h26=>aA (aA (bJ fun hN27=>dW hg [1,141,142] (fun x2=>[(143,.one (.v (.int .i64 ((x2.i:Nat):Int))))]) (fun x2=>[.keep 0,.dead,.dead,.dead,.dead,.dead,.dead,.dead]) [some 0,none,none,none,none,none,none,none] ((by repeat' constructor)) (fun x2=>aA (aA (cT (fun hi2=>have hb2:=(x2.bdy hi2).trans (qP.eq_1 ..);have hw2:=aT hi2 (by assumption);aA (aA (cC hi2 (aB (m:=8) rfl (aA (nC hb2 (fun hb2 h28=>.inl (⟨_,_,bH (p0.Due[x2.i]'hi2).Trace 1 999,(FzAs.same _),aB (m:=10) rfl (brE hb2 (fun hb2 h29=>aA (have hg:=cQ hg (x2.outD hi2 hb2);aE hown hg)) (fun hb2 h29=>x2.goE hi2 hb2 [some 0,none,none,none,none,none,none,none] ⟨rfl,⟨(bA hw2),⟨rfl,rfl,rfl,rfl⟩,rfl,rfl,trivial⟩,(by repeat' constructor),trivial⟩))⟩)) (fun hb2 h28=>aA (have hg:=cQ hg (x2.outD hi2 hb2);aE hown hg)))))))) (fun hi2=>have hg:=bZ hg (x2.fin hi2);aA (aA (bJ fun hN30=>dW hg [1,158,159] (fun x3=>[(160,.one (.v (.int .i64 ((x3.i:Nat):Int))))]) (fun x3=>[.keep 0,.dead,.dead,.dead,.dead,.dead,.dead,.dead]) [some 0,none,none,none,none,none,none,none] ((by repeat' constructor)) (fun x3=>aA (aA (cT (fun hi3=>have hb3:=(x3.bdy hi3).trans (qO.eq_1 ..);have hw3:=aT hi3 (by assumption);aA (aA (cC hi3 (aB (m:=8) rfl (aA (.inl (⟨_,_,b7k (p0.Deeds[x3.i]'hi3),(FzAs.same _),aB (m:=10) rfl (brF hb3 (fun hb3 h31=>brD hb3 (fun hb3 h32=>aA (have hg:=cQ hg (x3.outD hi3 hb3);aE hown hg)) (fun hb3 h32=>x3.goE hi3 hb3 [some 0,none,none,none,none,none,none,none] ⟨rfl,⟨(bA hw3),⟨rfl,rfl,rfl,rfl⟩,rfl,rfl,trivial⟩,(by repeat' constructor),trivial⟩)) (fun hb3 h31=>aA (have hg:=cQ hg (x3.outD hi3 hb3);aE hown hg)))⟩))))))) (fun hi3=>have hg:=bZ hg (x3.fin hi3);aA (aE hown hg))))))))))))))⟩) (fun hg h25=>aA (aE hown hg))⟩) (fun hg h24=>aA (aE hown hg))) (fun hg h22=>aA (aE hown hg))) (fun hg h21=>aA (aE hown hg))⟩) (fun hg h20=>aA (aE hown hg))⟩⟩))))))) (fun hg h5=>aA (aE hown hg)))⟩)) (fun hg h4=>aA (aE hown hg))) (fun hg h3=>aA (aE hown hg)))⟩)) (fun hg h2=>aA (aE hown hg))) (fun hg h1=>aA (aE hown hg)))⟩)))))
def mX (p1:(List Attr)) (i1:Nat) (s1:Unit) (a1:Attr):Step (Unit) Bool :=
 (bif (!((decide (a1.Key=(p1[i1]?.getD default).Key))&&((a1.Num==(p1[i1]?.getD default).Num)&&((a1.N==(p1[i1]?.getD default).N)&&((decide (a1.Text=(p1[i1]?.getD default).Text))&&true))))) then (.done false) else (.next ()))
def jE (p0:(List Attr)) (p1:(List Attr)):Bool :=
 (bif ((((p0).length:Nat):Int) != (((p1).length:Nat):Int)) then false else (Fin.get (fun s1=>true) (aJ (mX p1) 0 () p0)))
theorem a0d (p0:(List Attr)) (p1:(List Attr)):FnOk prog 69 [.one (.s false 4 (List.map Attr.cells p0)),.one (.s false 4 (List.map Attr.cells p1))] ⟨.one (.v (.bool (jE p0 p1))),[],[],false⟩:=by
 refine FnOk.intro (E:=env) aK aS func69 rfl (by kernel_rfl) rfl rfl ?_
 have hg:=jE.eq_1 p0 p1
 have hown:=dP
 exact aA (aA (aA (bJ fun hN1=>bJ fun hN2=>brW hg (fun hg h3=>aA (aE hown hg)) (fun hg h3=>aA (aA (bJ fun hN4=>dW hg [0,1,12] (fun x1=>[(13,.one (.v (.int .i64 ((x1.i:Nat):Int))))]) (fun x1=>[]) [] ((by repeat' constructor)) (fun x1=>aA (aA (cT (fun hi1=>have hb1:=(x1.bdy hi1).trans (mX.eq_1 ..);have hw1:=aT hi1 (by assumption);aA (aA (aA (.inl ⟨by kernel_rfl,cC hi1 (lA (l:=p1) (by (omega)) (fun hq5=>brE hb1 (fun hb1 h6=>aA (have hg:=cQ hg (x1.outD hi1 hb1);aE hown hg)) (fun hb1 h6=>x1.goE hi1 hb1 [] ⟨rfl,⟨(bA hw1),rfl,rfl,rfl,trivial⟩,trivial,trivial⟩)))⟩)))) (fun hi1=>have hg:=bZ hg (x1.fin hi1);aA (aE hown hg)))))))))))
def jW (p0:Span) (p1:Span):Bool :=
 (bif (p0.Trace==p1.Trace) then (bif (p0.Id==p1.Id) then (bif (p0.Start==p1.Start) then (bif (p0.End==p1.End) then (bif (p0.Err==p1.Err) then (jE p0.Attrs p1.Attrs) else false) else false) else false) else false) else false)
theorem sJ (p0:Span) (p1:Span):FnOk prog 37 [.agg ((Span.cells false) p0),.agg ((Span.cells false) p1)] ⟨.one (.v (.bool (jW p0 p1))),[],[],false⟩:=by
 refine FnOk.intro (E:=env) aK aS func37 rfl (by kernel_rfl) rfl rfl ?_
 have hg:=jW.eq_1 p0 p1
 have hown:=dP
 exact aA (aB (m:=0) rfl (aB (m:=1) rfl (aA (brQ hg (fun hg h1=>brQ hg (fun hg h2=>brQ hg (fun hg h3=>brQ hg (fun hg h4=>brE hg (fun hg h5=>.inl (⟨_,_,a0d p0.Attrs p1.Attrs,(FzAs.same _),aB (m:=3) rfl (aE hown hg)⟩)) (fun hg h5=>aE hown hg)) (fun hg h4=>aE hown hg)) (fun hg h3=>aE hown hg)) (fun hg h2=>aE hown hg)) (fun hg h1=>aE hown hg)))))
def zF (p0:Item) (p1:Item):Bool :=
 (bif (p0.Stamp==p1.Stamp) then (jW p0.S p1.S) else false)
theorem b2y (p0:Item) (p1:Item):FnOk prog 142 [.agg ((Item.cells false) p0),.agg ((Item.cells false) p1)] ⟨.one (.v (.bool (zF p0 p1))),[],[],false⟩:=by
 refine FnOk.intro (E:=env) aK aS func142 rfl (by kernel_rfl) rfl rfl ?_
 have hg:=zF.eq_1 p0 p1
 have hown:=dP
 exact aA (aB (m:=0) rfl (aB (m:=1) rfl (aA (brQ hg (fun hg h1=>.inl (⟨_,_,sJ p0.S p1.S,(FzAs.same _),aB (m:=3) rfl (aE hown hg)⟩)) (fun hg h1=>aE hown hg)))))
def gQ (p1:(List Item)) (i1:Nat) (s1:Unit) (a1:Item):Step (Unit) Bool :=
 (bif (!(zF a1 (p1[i1]?.getD default))) then (.done false) else (.next ()))
def fB (p0:(List Item)) (p1:(List Item)):Bool :=
 (bif ((((p0).length:Nat):Int) != (((p1).length:Nat):Int)) then false else (Fin.get (fun s1=>true) (aJ (gQ p1) 0 () p0)))
theorem lS (p0:(List Item)) (p1:(List Item)):FnOk prog 141 [.one (.s false 7 (List.map (Item.cells false) p0)),.one (.s false 7 (List.map (Item.cells false) p1)),.one (.c 142 [])] ⟨.one (.v (.bool (fB p0 p1))),[],[],false⟩:=by
 refine FnOk.intro (E:=env) aK aS func141 rfl (by kernel_rfl) rfl rfl ?_
 have hg:=fB.eq_1 p0 p1
 have hown:=dP
 exact aA (aA (aA (bJ fun hN1=>bJ fun hN2=>brW hg (fun hg h3=>aA (aE hown hg)) (fun hg h3=>aA (aA (bJ fun hN4=>dW hg [1,2,15,16] (fun x1=>[(17,.one (.v (.int .i64 ((x1.i:Nat):Int))))]) (fun x1=>[]) [] ((by repeat' constructor)) (fun x1=>aA (aA (cT (fun hi1=>have hb1:=(x1.bdy hi1).trans (gQ.eq_1 ..);have hw1:=aT hi1 (by assumption);aA (aA (cC hi1 (aB (m:=0) rfl (aA (lA (l:=p1) (by (omega)) (fun hq5=>aB (m:=1) rfl (aA (.inl (⟨_,_,b2y (p0[x1.i]'hi1) (p1[x1.i]?.getD default),(FzAs.same _),aB (m:=3) rfl (brE hb1 (fun hb1 h6=>aA (have hg:=cQ hg (x1.outD hi1 hb1);aE hown hg)) (fun hb1 h6=>x1.goE hi1 hb1 [] ⟨rfl,⟨(bA hw1),rfl,⟨rfl,trivial⟩,rfl,rfl,trivial⟩,trivial,trivial⟩))⟩)))))))))) (fun hi1=>have hg:=bZ hg (x1.fin hi1);aA (aE hown hg)))))))))))
def zE (p0:Task) (p1:Task):Bool :=
 (bif (p0.Op==p1.Op) then (bif (p0.Pc==p1.Pc) then (bif (jW p0.S p1.S) then (bif (p0.Trace==p1.Trace) then (bif (p0.Stamp==p1.Stamp) then (bif (fB p0.Hand p1.Hand) then (p0.H==p1.H) else false) else false) else false) else false) else false) else false)
theorem b2v (p0:Task) (p1:Task):FnOk prog 91 [.agg ((Task.cells false) p0),.agg ((Task.cells false) p1)] ⟨.one (.v (.bool (zE p0 p1))),[],[],false⟩:=by
 refine FnOk.intro (E:=env) aK aS func91 rfl (by kernel_rfl) rfl rfl ?_
 have hg:=zE.eq_1 p0 p1
 have hown:=dP
 exact aA (aB (m:=0) rfl (aB (m:=1) rfl (aA (brQ hg (fun hg h1=>brQ hg (fun hg h2=>.inl (⟨_,_,sJ p0.S p1.S,(FzAs.same _),aB (m:=3) rfl (brE hg (fun hg h3=>brQ hg (fun hg h4=>brQ hg (fun hg h5=>.inl (⟨_,_,lS p0.Hand p1.Hand,(FzAs.same _),aB (m:=4) rfl (brE hg (fun hg h6=>aE hown hg) (fun hg h6=>aE hown hg))⟩)) (fun hg h5=>aE hown hg)) (fun hg h4=>aE hown hg)) (fun hg h3=>aE hown hg))⟩)) (fun hg h2=>aE hown hg)) (fun hg h1=>aE hown hg)))))
def xP (p0:Task) (i1:Nat) (s1:Unit) (a1:Item):Step (Unit) Bool :=
 (bif (!(rG a1)) then (.done false) else (bif (a1.Stamp != p0.Stamp) then (.done false) else (.next ())))
def uO (p0:Task):Bool :=
 (Fin.get (fun s1=>((p0.Pc==3)==(decide ((((p0.Hand).length:Nat):Int) > 0)))) (aJ (xP p0) 0 () p0.Hand))
theorem b7i (p0:Task):FnOk prog 92 [.agg ((Task.cells false) p0)] ⟨.one (.v (.bool (uO p0))),[],[],false⟩:=by
 refine FnOk.intro (E:=env) aK aS func92 rfl (by kernel_rfl) rfl rfl ?_
 have hg:=uO.eq_1 p0
 have hown:=dP
 exact aA (aB (m:=0) rfl (aA (aA (bJ fun hN1=>dW hg [1,6,7] (fun x1=>[(8,.one (.v (.int .i64 ((x1.i:Nat):Int))))]) (fun x1=>[.keep 0]) [some 0] ((by repeat' constructor)) (fun x1=>aA (aA (cT (fun hi1=>have hb1:=(x1.bdy hi1).trans (xP.eq_1 ..);have hw1:=aT hi1 (by assumption);aA (aA (cC hi1 (aB (m:=1) rfl (aA (.inl (⟨_,_,a6b (p0.Hand[x1.i]'hi1),(FzAs.same _),aB (m:=3) rfl (brF hb1 (fun hb1 h2=>brW hb1 (fun hb1 h3=>aA (have hg:=cQ hg (x1.outD hi1 hb1);aE hown hg)) (fun hb1 h3=>x1.goE hi1 hb1 [some 0] ⟨rfl,⟨(bA hw1),⟨rfl,rfl,rfl,rfl⟩,rfl,rfl,trivial⟩,(by repeat' constructor),trivial⟩)) (fun hb1 h2=>aA (have hg:=cQ hg (x1.outD hi1 hb1);aE hown hg)))⟩))))))) (fun hi1=>have hg:=bZ hg (x1.fin hi1);aA (bJ fun hN4=>aE hown hg)))))))))
def lO (p0:Task) (p1:Int):Step (Bool×Bool) Bool :=
 (bif (p0.Op==1) then (bif (p0.Op==2) then (.next ((decide (p1 < 3)),(decide (p1≥3)))) else (.next ((decide (p1 < 3)),false))) else (bif (p0.Op==2) then (.next (false,(decide (p1≥3)))) else (.next (false,false))))
def iL (p0:Task):Step (Bool) Bool :=
 (bif (p0.Trace==0) then (.next (p0.Stamp==0)) else (.next false))
def gY (p0:Task):Step (Bool) Bool :=
 (bif (aM p0.Trace 1 999) then (.next (decide (p0.Stamp≥1))) else (.next false))
def pK (p0:Task) (p1:Int):Bool :=
 (bif (!(aM p1 0 4)) then false else (bif (!(aM p0.Pc 0 3)) then false else (bif (decide (p0.H < 0)) then false else (Step.get (fun s1=>(Step.get (fun s2=>(Step.get (fun s3=>(bif (p0.Op==0) then (zE p0 (Task.mk 0 0 (Span.mk 0 0 0 0 false ([]:List Attr)) 0 0 ([]:List Item) 0)) else (bif s1.1 then (bif (kR p0.S) then (bif (p0.Pc==3) then (bif s3 then ((((p0.Hand).length:Nat):Int)==0) else (bif (p0.Pc != 3) then (bif s2 then ((((p0.Hand).length:Nat):Int)==0) else false) else false)) else (bif (p0.Pc != 3) then (bif s2 then ((((p0.Hand).length:Nat):Int)==0) else false) else false)) else false) else (bif s1.2 then (bif s3 then (bif (jW p0.S (Span.mk 0 0 0 0 false ([]:List Attr))) then (uO p0) else false) else false) else false)))) (gY p0))) (iL p0))) (lO p0 p1)))))
theorem b7j (p0:Task) (p1:Int):FnOk prog 57 [.agg ((Task.cells false) p0),.one (.v (.int .i64 p1))] ⟨.one (.v (.bool (pK p0 p1))),[],[],false⟩:=by
 refine FnOk.intro (E:=env) aK aS func57 rfl (by kernel_rfl) rfl rfl ?_
 have hg:=pK.eq_1 p0 p1
 have hown:=dP
 exact aA (aB (m:=0) rfl (aA (aA (.inl (⟨_,_,bH p1 0 4,(FzAs.same _),aB (m:=2) rfl (brF hg (fun hg h1=>.inl (⟨_,_,bH p0.Pc 0 3,(FzAs.same _),aB (m:=3) rfl (brF hg (fun hg h2=>brD hg (fun hg h3=>aA (aE hown hg)) (fun hg h3=>eA hg [2] (fun x1=>[(5,.one (.v (.bool x1.s.1))),(6,.one (.v (.bool x1.s.2)))]) (fun x1=>[.keep 0,.dead,.dead]) (fun hb1=>have hb1:=hb1.trans (lO.eq_1 ..);brQ hb1 (fun hb1 h4=>brQ hb1 (fun hb1 h5=>.inl ⟨⟨_,hb1⟩,[some 0,none,none],(by repeat' constructor)⟩) (fun hb1 h5=>.inl ⟨⟨_,hb1⟩,[some 0,none,none],(by repeat' constructor)⟩)) (fun hb1 h4=>brQ hb1 (fun hb1 h6=>.inl ⟨⟨_,hb1⟩,[some 0,none,none],(by repeat' constructor)⟩) (fun hb1 h6=>.inl ⟨⟨_,hb1⟩,[some 0,none,none],(by repeat' constructor)⟩))) (fun x1 hg=>eA hg [2,5,6] (fun x2=>[(7,.one (.v (.bool x2.s)))]) (fun x2=>[.keep 0,.dead,.dead]) (fun hb2=>have hb2:=hb2.trans (iL.eq_1 ..);brQ hb2 (fun hb2 h7=>.inl ⟨⟨_,hb2⟩,[some 0,none,none],(by repeat' constructor)⟩) (fun hb2 h7=>.inl ⟨⟨_,hb2⟩,[some 0,none,none],(by repeat' constructor)⟩)) (fun x2 hg=>eA hg [2,5,6,7] (fun x3=>[(8,.one (.v (.bool x3.s)))]) (fun x3=>[.keep 0,.dead,.dead,.dead]) (fun hb3=>have hb3:=hb3.trans (gY.eq_1 ..);.inl (⟨_,_,bH p0.Trace 1 999,(FzAs.same _),aB (m:=4) rfl (brE hb3 (fun hb3 h8=>.inl ⟨⟨_,hb3⟩,[some 0,none,none,none],(by repeat' constructor)⟩) (fun hb3 h8=>.inl ⟨⟨_,hb3⟩,[some 0,none,none,none],(by repeat' constructor)⟩))⟩)) (fun x3 hg=>aA (aA (brQ hg (fun hg h9=>aA (.inl (⟨_,_,b2v p0 (Task.mk 0 0 (Span.mk 0 0 0 0 false ([]:List Attr)) 0 0 ([]:List Item) 0),(.cons (.same _) (.cons (.agg (.cons (.same _) (.cons (.same _) (.cons (.same _) (.cons (.same _) (.cons (.same _) (.cons (.same _) (.cons (.same _) (.cons (.same _) (.cons (.same _) (.cons (.same _) (.cons (.sl _ _ _ _ (bE (f:=(Item.cells true)) jI [])) (.cons (.same _) .nil))))))))))))) (.same _))),aB (m:=5) rfl (aE hown hg)⟩))) (fun hg h9=>aA (brE hg (fun hg h10=>aA (.inl (⟨_,_,vF p0.S,(FzAs.same _),aB (m:=5) rfl (brE hg (fun hg h11=>brQ hg (fun hg h12=>brF hg (fun hg h13=>brW hg (fun hg h15=>brE hg (fun hg h16=>bJ fun hN17=>aE hown hg) (fun hg h16=>aE hown hg)) (fun hg h15=>aE hown hg)) (fun hg h13=>bJ fun hN14=>aE hown hg)) (fun hg h12=>brW hg (fun hg h18=>brE hg (fun hg h19=>bJ fun hN20=>aE hown hg) (fun hg h19=>aE hown hg)) (fun hg h18=>aE hown hg))) (fun hg h11=>aE hown hg))⟩))) (fun hg h10=>aA (brE hg (fun hg h21=>aA (brE hg (fun hg h22=>.inl (⟨_,_,sJ p0.S (Span.mk 0 0 0 0 false ([]:List Attr)),(FzAs.same _),aB (m:=5) rfl (brE hg (fun hg h23=>.inl (⟨_,_,b7i p0,(FzAs.same _),aB (m:=6) rfl (aE hown hg)⟩)) (fun hg h23=>aE hown hg))⟩)) (fun hg h22=>aE hown hg))) (fun hg h21=>aA (aE hown hg))))))))))))) (fun hg h2=>aA (aE hown hg)))⟩)) (fun hg h1=>aA (aE hown hg)))⟩)))))
theorem b6u {t:Task} {k:Int} (h:pK t k=true):0≤t.H:=by
 by_cases hq:t.H < 0
 · unfold pK at h
   rw [decide_eq_true hq] at h
   cases h1:aM k 0 4 <;> rw [h1] at h
   · cases h
   · cases h2:aM t.Pc 0 3 <;> rw [h2] at h <;> cases h
 · omega
def sY (p0:World) (p1:Int):Step (Bool) Bool :=
 (bif ((p0.Deeds[((p0.Tasks[(p1).toNat]?.getD default).H).toNat]?.getD default).Op==1) then (.next (jW (p0.Deeds[((p0.Tasks[(p1).toNat]?.getD default).H).toNat]?.getD default).S (p0.Tasks[(p1).toNat]?.getD default).S)) else (.next false))
def sX (p0:World) (p1:Int) (s1:Bool):Step (Bool) Bool :=
 (bif ((p0.Tasks[(p1).toNat]?.getD default).Op==2) then (bif ((p0.Deeds[((p0.Tasks[(p1).toNat]?.getD default).H).toNat]?.getD default).Op==2) then (bif ((p0.Deeds[((p0.Tasks[(p1).toNat]?.getD default).H).toNat]?.getD default).Trace==(p0.Tasks[(p1).toNat]?.getD default).Trace) then (.next ((p0.Deeds[((p0.Tasks[(p1).toNat]?.getD default).H).toNat]?.getD default).Stamp==(p0.Tasks[(p1).toNat]?.getD default).Stamp)) else (.done false)) else (.done false)) else (.next s1))
def mT (p0:World) (p1:Int):Bool :=
 (bif (decide ((p0.Tasks[(p1).toNat]?.getD default).H≥(((p0.Deeds).length:Nat):Int))) then false else (Step.get (fun s1=>(Step.get (fun s2=>(bif s2 then (bif ((p0.Deeds[((p0.Tasks[(p1).toNat]?.getD default).H).toNat]?.getD default).Task==p1) then (bif ((p0.Deeds[((p0.Tasks[(p1).toNat]?.getD default).H).toNat]?.getD default).Res==(-1)) then (bif ((p0.Tasks[(p1).toNat]?.getD default).Op==2) then (((p0.Deeds[((p0.Tasks[(p1).toNat]?.getD default).H).toNat]?.getD default).Lin != (-1))==((p0.Tasks[(p1).toNat]?.getD default).Pc==3)) else (((p0.Deeds[((p0.Tasks[(p1).toNat]?.getD default).H).toNat]?.getD default).Lin != (-1))==false)) else false) else false) else false)) (sX p0 p1 s1))) (sY p0 p1)))
theorem a8n (p0:World) (p1:Int) (hk:0≤p1∧p1 < ((p0.Tasks.length:Nat):Int)) (hH:0≤(p0.Tasks[(p1).toNat]?.getD default).H):FnOk prog 58 [.agg ((World.cells false) p0),.one (.v (.int .i64 p1))] ⟨.one (.v (.bool (mT p0 p1))),[],[],false⟩:=by
 refine FnOk.intro (E:=env) aK aS func58 rfl (by kernel_rfl) rfl rfl ?_
 have hg:=mT.eq_1 p0 p1
 have hown:=dP
 exact aA (aB (m:=0) rfl (aA (lA (l:=p0.Tasks) (by omega) (fun hq1=>aB (m:=1) rfl (aA (aA (bJ fun hN2=>brD hg (fun hg h3=>aA (aE hown hg)) (fun hg h3=>aA (lA (l:=p0.Deeds) (by omega) (fun hq4=>aB (m:=2) rfl (eA hg [1,5,6] (fun x1=>[(7,.one (.v (.bool x1.s)))]) (fun x1=>[.dead,.keep 1,.keep 2,.dead]) (fun hb1=>have hb1:=hb1.trans (sY.eq_1 ..);brQ hb1 (fun hb1 h5=>.inl (⟨_,_,sJ (p0.Deeds[((p0.Tasks[(p1).toNat]?.getD default).H).toNat]?.getD default).S (p0.Tasks[(p1).toNat]?.getD default).S,(FzAs.same _),aB (m:=4) rfl (.inl ⟨⟨_,hb1⟩,[none,some 1,some 2,none],(by repeat' constructor)⟩)⟩)) (fun hb1 h5=>.inl ⟨⟨_,hb1⟩,[none,some 1,some 2,none],(by repeat' constructor)⟩)) (fun x1 hg=>eA hg [1,5,6] (fun x2=>[(7,.one (.v (.bool x2.s)))]) (fun x2=>[.dead,.keep 1,.keep 2,.dead]) (fun hb2=>have hb2:=hb2.trans (sX.eq_1 ..);aA (brQ hb2 (fun hb2 h6=>brQ hb2 (fun hb2 h7=>brQ hb2 (fun hb2 h8=>.inl ⟨⟨_,hb2⟩,[none,some 1,some 2,none],(by repeat' constructor)⟩) (fun hb2 h8=>.inr (have hg:=getD hg hb2;aA (aE hown hg)))) (fun hb2 h7=>.inr (have hg:=getD hg hb2;aA (aE hown hg)))) (fun hb2 h6=>.inl ⟨⟨_,hb2⟩,[none,some 1,some 2,none],(by repeat' constructor)⟩))) (fun x2 hg=>aA (brE hg (fun hg h9=>brQ hg (fun hg h10=>brQ hg (fun hg h11=>brQ hg (fun hg h12=>aE hown hg) (fun hg h12=>aE hown hg)) (fun hg h11=>aE hown hg)) (fun hg h10=>aE hown hg)) (fun hg h9=>aE hown hg)))))))))))))))
def oL (p0:Task):Step (Bool) Int :=
 (bif (p0.Op==1) then (.next (p0.Pc==1)) else (.next false))
def oK (p0:Task):Step (Bool) (Step (Bool) Int) :=
 (bif (p0.Op==1) then (.next (p0.Pc==3)) else (.next false))
def jN (p0:Task):Step (Bool) Int :=
 (Step.get (fun s3=>(bif s3 then (.next s3) else (bif (p0.Op==2) then (bif (p0.Pc==1) then (.next true) else (.next (p0.Pc==2))) else (.done (-1))))) (oK p0))
def fK (p0:Task) (p1:Int):Int :=
 (bif (decide (p1 < 1)) then (-1) else (Step.get (fun s1=>(bif s1 then (eT p0.S.Trace p1) else (Step.get (fun s2=>(bif s2 then (eT p0.Trace p1) else (-1))) (jN p0)))) (oL p0)))
theorem a7m (p0:Task) (p1:Int):FnOk prog 59 [.agg ((Task.cells false) p0),.one (.v (.int .i64 p1))] ⟨.one (.v (.int .i64 (fK p0 p1))),[],[],false⟩:=by
 refine FnOk.intro (E:=env) aK aS func59 rfl (by kernel_rfl) rfl rfl ?_
 have hg:=fK.eq_1 p0 p1
 have hown:=iN
 exact aA (aB (m:=0) rfl (aA (aA (brD hg (fun hg h1=>aA (aE hown hg)) (fun hg h1=>eA hg [1,2] (fun x1=>[(8,.one (.v (.bool x1.s)))]) (fun x1=>[.keep 0]) (fun hb1=>have hb1:=hb1.trans (oL.eq_1 ..);brQ hb1 (fun hb1 h2=>.inl ⟨⟨_,hb1⟩,[some 0],(by repeat' constructor)⟩) (fun hb1 h2=>.inl ⟨⟨_,hb1⟩,[some 0],(by repeat' constructor)⟩)) (fun x1 hg=>brE hg (fun hg h3=>aA (.inl (⟨_,_,wY p0.S.Trace p1,(FzAs.same _),aB (m:=2) rfl (aE hown hg)⟩))) (fun hg h3=>eA hg [1,2] (fun x2=>[(22,.one (.v (.bool x2.s)))]) (fun x2=>[.keep 0]) (fun hb2=>have hb2:=hb2.trans (jN.eq_1 ..);eA hb2 [1,2] (fun x3=>[(22,.one (.v (.bool x3.s)))]) (fun x3=>[.keep 0]) (fun hb3=>have hb3:=hb3.trans (oK.eq_1 ..);brQ hb3 (fun hb3 h4=>.inl ⟨⟨_,hb3⟩,[some 0],(by repeat' constructor)⟩) (fun hb3 h4=>.inl ⟨⟨_,hb3⟩,[some 0],(by repeat' constructor)⟩)) (fun x3 hb2=>brE hb2 (fun hb2 h5=>.inl ⟨⟨_,hb2⟩,[some 0],(by repeat' constructor)⟩) (fun hb2 h5=>brQ hb2 (fun hb2 h6=>b0p hb2 (fun hb2 h7=>.inl ⟨⟨_,hb2⟩,[some 0],(by repeat' constructor)⟩) (fun hb2 h7=>.inl ⟨⟨_,hb2⟩,[some 0],(by repeat' constructor)⟩)) (fun hb2 h6=>.inr (have hg:=getD hg hb2;aA (aE hown hg)))))) (fun x2 hg=>brE hg (fun hg h8=>aA (.inl (⟨_,_,wY p0.Trace p1,(FzAs.same _),aB (m:=2) rfl (aE hown hg)⟩))) (fun hg h8=>aA (aE hown hg))))))))))
theorem a6c (t:Task) (n:Int):fK t n≥0→fK t n < n:=by
 unfold fK
 by_cases hn:n < 1
 · rw [decide_eq_true hn,cond_true];intro h;omega
 · rw [decide_eq_false hn,cond_false]
   have h1:=fun a=>a9s a n (by omega)
   intro _
   have h2:∀b:Bool,(bif b then (eT t.Trace n) else (-1)) < n:=fun b=>by cases b;(show (-1:Int) < n;omega);exact h1 _
   have h3:∀z:Step Bool Int,(∀r,z=.done r→r < n)→Step.get (fun s2=>bif s2 then (eT t.Trace n) else (-1)) z < n:=fun z hz=>by cases z with
    | next s=>exact h2 s
    | stop s=>exact h2 s
    | done r=>exact hz r rfl
   have h4:∀r,jN t=.done r→r < n:=by
    intro r h
    unfold jN oK at h
    cases ha:(t.Op==1) <;> cases hb:(t.Pc==3) <;> cases hc:(t.Op==2) <;> cases hd:(t.Pc==1) <;> rw [ha,hc,hd] at h <;> (try rw [hb] at h) <;> cases h <;> omega
   have h5:∀b:Bool,(bif b then (eT t.S.Trace n) else Step.get (fun s2=>bif s2 then (eT t.Trace n) else (-1)) (jN t)) < n:=fun b=>by cases b;exact h3 _ h4;exact h1 _
   unfold oL
   cases ha:(t.Op==1)
   · exact h5 false
   · exact h5 (t.Pc==1)
def kL (p0:Task):Bool :=
 (bif (p0.Op==2) then (p0.Pc==2) else false)
theorem b0l (p0:Task):FnOk prog 60 [.agg ((Task.cells false) p0)] ⟨.one (.v (.bool (kL p0))),[],[],false⟩:=by
 refine FnOk.intro (E:=env) aK aS func60 rfl (by kernel_rfl) rfl rfl ?_
 have hg:=kL.eq_1 p0
 have hown:=dP
 exact aA (aB (m:=0) rfl (aA (brQ hg (fun hg h1=>aE hown hg) (fun hg h1=>aE hown hg))))
def rU (a2:Task) (i2:Nat) (p0:World):Step (Bool×Bool) (Step ((List Int)×Int) Bool) :=
 (bif (!(pK a2 ((i2:Nat):Int))) then (.done (.done false)) else (bif (a2.Op != 0) then (bif (!(mT p0 ((i2:Nat):Int))) then (.done (.done false)) else (.next (true,(!(mT p0 ((i2:Nat):Int)))))) else (.next (false,false))))
def kY (a2:Task) (p0:World) (s2:(List Int)×Int) (i2:Nat):Step ((List Int)) (Step ((List Int)×Int) Bool) :=
 (bif (decide ((fK a2 (((p0.St).length:Nat):Int))≥0)) then (bif ((s2.1[((fK a2 (((p0.St).length:Nat):Int))).toNat]?.getD default) != (-1)) then (.done (.done false)) else (.next (List.set s2.1 ((fK a2 (((p0.St).length:Nat):Int))).toNat ((i2:Nat):Int)))) else (.next s2.1))
def rV (s2:(List Int)×Int) (i5:Nat) (s5:Unit) (a5:Stripe):Step (Unit) Bool :=
 (bif (a5.Held != (s2.1[i5]?.getD default)) then (.done false) else (.next ()))
def kZ (p0:World) (i2:Nat) (s2:(List Int)×Int) (a2:Task):Step ((List Int)×Int) Bool :=
 (Step.get (fun s3=>(Step.get (fun s4=>(bif (kL a2) then (bif (s2.2 != (-1)) then (.done false) else (.next (s4,((i2:Nat):Int)))) else (.next (s4,s2.2)))) (kY a2 p0 s2 i2))) (rU a2 i2 p0))
def pD (i1:Nat) (s1:(List Int)) (a1:Stripe):Step ((List Int)) Bool :=
 (.next (List.set s1 i1 (-1)))
def qB (p0:World):Bool :=
 (bif ((((p0.Tasks).length:Nat):Int) != 5) then false else (Fin.get (fun s1=>(Fin.get (fun s2=>(Fin.get (fun s5=>(p0.RuleHeld==s2.2)) (aJ (rV s2) 0 () p0.St))) (aJ (kZ p0) 0 (s1,(-1)) p0.Tasks))) (aJ pD 0 (List.replicate (p0.St).length 0) p0.St)))
theorem a9r {a2:Task} {p0:World} {s2:List Int×Int} {i2:Nat} {v:List Int} (h:kY a2 p0 s2 i2=.next v):v.length=s2.1.length:=by
 unfold kY at h
 simp only [Bool.cond_eq_ite] at h
 split at h
 · split at h
   · cases h
   · cases h;simp
 · cases h;rfl
theorem b4t (p0:World) (hs:World.bd 1048576 p0):FnOk prog 28 [.agg ((World.cells false) p0)] ⟨.one (.v (.bool (qB p0))),[],[],false⟩:=by
 refine FnOk.intro (E:=env) aK aS func28 rfl (by kernel_rfl) rfl rfl ?_
 have hg:=qB.eq_1 p0
 have hown:=dP
 refine aA (aB (m:=0) rfl (aA (aA (bJ fun hN1=>brW hg (fun hg h2=>aA (aE hown hg)) (fun hg h2=>aA (bJ fun hN3=>And.intro (by have q2:p0.St.length≤1048576:=hs.2.1.1;exact ⟨rfl,by omega,by show ((8:Nat):Int)*_≤_;omega,by omega⟩) (aV (Y:=List.map mN (List.replicate (p0.St).length 0)) (by rw [List.map_replicate];rfl) (aB (m:=1) rfl (aA (aA (kD (k:=(p0.St).length) (by simp) (fun hN4=>gM (fun _ s=>(s).length=(p0.St).length) hg (by simp) [1,3,20] (fun x1=>[(21,.one (.v (.int .i64 ((x1.i:Nat):Int))))]) (fun x1=>[.keep 0,.new ⟨1,false,List.map mN x1.s,0⟩]) [some 0,some 1] ((by repeat' constructor)) (fun x1=>?_)))))))))))))
 have hI1:(x1.s).length=(p0.St).length:=by simpa using x1.hI
 refine aA (aA (cT (fun hi1=>?_) (fun hi1=>?_)))
 · refine have hb1:=(x1.bdy hi1).trans (pD.eq_1 ..);have hw1:=aT hi1 (by assumption);aA (aA (bK (by simp only [List.length_map,List.length_replicate];omega) (.inl (aV (Y:=List.map mN (List.set x1.s x1.i (-1))) (by exact dC (by simp) (fun a ha=>by rfl)) ?_))))
   exact x1.goE hi1 hb1 (by simpa using x1.hI) [some 0,some 1] ⟨rfl,⟨(bA hw1),⟨rfl,rfl,rfl,rfl⟩,⟨rfl,rfl,rfl,rfl,by (rfl)⟩,rfl,trivial⟩,(by repeat' constructor),trivial⟩
 refine have hg:=bZ hg (x1.fin hi1);aA (aA (aA (bJ fun hN5=>gM (fun (_:Nat) (s:List Int×Int)=>s.1.length=p0.St.length) hg (by have q:=hI1;show List.length x1.s=_;simpa using q) [1,3,29,30] (fun x2=>[(5,.one (.v (.int .i64 x2.s.2))),(31,.one (.v (.int .i64 ((x2.i:Nat):Int))))]) (fun x2=>[.keep 0,.new ⟨1,false,List.map mN x2.s.1,0⟩]) [some 0,some 1] ((by repeat' constructor)) (fun x2=>?_))))
 have hI2:=x2.hI
 try dsimp only at hI2
 refine aA (aA (cT (fun hi2=>have hb2:=(x2.bdy hi2).trans (kZ.eq_1 ..);have hw2:=aT hi2 (by assumption);aA (aA (cC hi2 (aB (m:=2) rfl (eA hb2 [1,3,5,6,7,29,30,31] (fun x3=>[(41,.one (.p 2 [] 0 0 0)),(42,.one (.v (.int .i64 (p0.Tasks[x2.i]'hi2).Op))),(43,.one (.v (.bool ((p0.Tasks[x2.i]'hi2).Op != 0)))),(44,.one (.v (.bool x3.s.1))),(49,.one (.v (.bool x3.s.2)))]) (fun x3=>[.keep 0,.keep 1,.keep 2,.dead,.dead]) (fun hb3=>?_) (fun x3 hb2=>?_)))))) (fun hi2=>have hg:=bZ hg (x2.fin hi2);aA (aA (bJ fun hN15=>dW hg [1,3,5,74,75] (fun x5=>[(76,.one (.v (.int .i64 ((x5.i:Nat):Int))))]) (fun x5=>[.keep 0,.keep 1]) [some 0,some 1] ((by repeat' constructor)) (fun x5=>aA (aA (cT (fun hi5=>have hb5:=(x5.bdy hi5).trans (rV.eq_1 ..);have hw5:=aT hi5 (by assumption);aA (aA (cC hi5 (aB (m:=2) rfl (aA (.inl ⟨by kernel_rfl,bK (by simp only [List.length_map,List.length_replicate];omega) (cZ (i:=x5.i) (l:=x2.s.1) (by exact Nat.zero_add _) (fun hq16=>brW hb5 (fun hb5 h17=>aA (have hg:=cQ hg (x5.outD hi5 hb5);aE hown hg)) (fun hb5 h17=>x5.goE hi5 hb5 [some 0,some 1] ⟨rfl,⟨(bA hw5),⟨rfl,rfl,rfl,rfl⟩,⟨rfl,rfl,rfl,rfl,by (rfl)⟩,rfl,rfl,rfl,trivial⟩,(by repeat' constructor),trivial⟩)))⟩)))))) (fun hi5=>have hg:=bZ hg (x5.fin hi5);aA (aE hown hg))))))))))
 · refine have hb3:=hb3.trans (rU.eq_1 ..);aA (.inl (⟨_,_,b7j (p0.Tasks[x2.i]'hi2) ((x2.i:Nat):Int),(FzAs.same _),aB (m:=4) rfl (brF hb3 (fun hb3 h6=>brW hb3 (fun hb3 h7=>.inl (⟨_,_,a8n p0 ((x2.i:Nat):Int) (by exact ⟨by omega,by omega⟩) (by rw [Int.toNat_natCast,List.getElem?_eq_getElem hi2];exact b6u (nf (by assumption))),(FzAs.same _),?_⟩)) (fun hb3 h7=>.inl ⟨⟨_,hb3⟩,[some 0,some 1,some 2,none,none],(by repeat' constructor)⟩)) (fun hb3 h6=>aA (have hb2:=getD hb2 hb3;have hg:=cQ hg (x2.outD hi2 hb2);aE hown hg)))⟩))
   exact aB (m:=5) rfl (brE hb3 (fun hb3 h8=>aA (have hb2:=getD hb2 hb3;have hg:=cQ hg (x2.outD hi2 hb2);aE hown hg)) (fun hb3 h8=>.inl ⟨⟨_,hb3⟩,[some 0,some 1,some 2,none,none],(by repeat' constructor)⟩))
 refine eA hb2 [1,5,6,7,29,30,31,41,42,43,44,49] (fun x4=>[(3,.one (.n 1 [] 1 0 (x4.s).length))]) (fun x4=>[.keep 0,.new ⟨1,false,List.map mN x4.s,0⟩,.keep 2,.dead,.dead,.dead]) (fun hb4=>have hb4:=hb4.trans (kY.eq_1 ..);aA (bJ fun hN9=>.inl (⟨_,_,a7m (p0.Tasks[x2.i]'hi2) (((p0.St).length:Nat):Int),(FzAs.same _),aB (m:=6) rfl (aA (brD hb4 (fun hb4 h10=>aA (aA (bK (by have q:=a6c (p0.Tasks[x2.i]'hi2) ((p0.St.length:Nat):Int) (by assumption);have q5:=hI2;(try dsimp only at q5);(try simp only [List.length_map,List.length_replicate]);omega) (cZ (i:=((fK (p0.Tasks[x2.i]'hi2) (((p0.St).length:Nat):Int))).toNat) (l:=x2.s.1) (by exact Nat.zero_add _) (fun hq11=>brW hb4 (fun hb4 h12=>aA (have hb2:=getD hb2 hb4;have hg:=cQ hg (x2.outD hi2 hb2);aE hown hg)) (fun hb4 h12=>bK (by simp only [List.length_map,List.length_replicate];omega) (.inl (aV (Y:=List.map mN (List.set x2.s.1 ((fK (p0.Tasks[x2.i]'hi2) (((p0.St).length:Nat):Int))).toNat ((x2.i:Nat):Int))) (by exact dC (by simp) (fun a ha=>by rfl)) ?_)))))))) (fun hb4 h10=>.inl ⟨⟨_,hb4⟩,[some 0,some 1,some 2,none,none,none],⟨rfl,⟨⟨rfl,rfl,rfl,rfl,by ((simp;omega))⟩,⟨rfl,rfl,rfl,rfl⟩,rfl,rfl,⟨rfl,rfl,rfl,rfl⟩,rfl,rfl,rfl,⟨rfl,rfl,rfl,rfl⟩,rfl,rfl,rfl,rfl,trivial⟩,(by repeat' constructor),trivial⟩⟩)))⟩))) (fun x4 hb2=>have q3:=a9r x4.e;aA (.inl (⟨_,_,b0l (p0.Tasks[x2.i]'hi2),(FzAs.same _),aB (m:=7) rfl (brE hb2 (fun hb2 h13=>aA (aA (brW hb2 (fun hb2 h14=>aA (have hg:=cQ hg (x2.outD hi2 hb2);aE hown hg)) (fun hb2 h14=>x2.goE hi2 hb2 (by have q:=hI2;have q4:=q3;show List.length x4.s=_;omega) [some 0,some 1] ⟨rfl,⟨rfl,(bA hw2),⟨rfl,rfl,rfl,rfl⟩,⟨rfl,rfl,rfl,rfl,by ((simp;omega))⟩,rfl,rfl,trivial⟩,(by repeat' constructor),trivial⟩)))) (fun hb2 h13=>x2.goE hi2 hb2 (by have q:=hI2;have q4:=q3;show List.length x4.s=_;omega) [some 0,some 1] ⟨rfl,⟨rfl,(bA hw2),⟨rfl,rfl,rfl,rfl⟩,⟨rfl,rfl,rfl,rfl,by ((simp;omega))⟩,rfl,rfl,trivial⟩,(by repeat' constructor),trivial⟩))⟩)))
 exact .inl ⟨⟨_,hb4⟩,[some 0,some 1,some 2,none,none,none],⟨rfl,⟨⟨rfl,rfl,rfl,rfl,by ((simp;omega))⟩,⟨rfl,rfl,rfl,rfl⟩,rfl,rfl,⟨rfl,rfl,rfl,rfl⟩,rfl,rfl,rfl,⟨rfl,rfl,rfl,rfl⟩,rfl,rfl,rfl,rfl,trivial⟩,(by repeat' constructor),trivial⟩⟩
def jL (p0:Timer) (c0:Trail):Bool :=
 (bif (p0.Id==c0.Stamp) then (p0.Trace==c0.Id) else false)
theorem a8m (p0:Timer) (c0:Trail):FnOk prog 62 [.agg (Timer.cells p0),.one (.q 4 [(Trail.cells false) c0] 0 0)] ⟨.one (.v (.bool (jL p0 c0))),[],[],false⟩:=by
 refine FnOk.intro (E:=env) aK aS func62 rfl (by kernel_rfl) rfl rfl ?_
 have hg:=jL.eq_1 p0 c0
 have hown:=dP
 exact aA (aB (m:=0) rfl (aA (brQ hg (fun hg h1=>aE hown hg) (fun hg h1=>aE hown hg))))
def fR (p1_0:Trail) (i1:Nat) (s1:Unit) (a1:Timer):Step (Unit) Int :=
 (bif (jL a1 p1_0) then (.done ((i1:Nat):Int)) else (.next ()))
def eD (p0:(List Timer)) (p1_0:Trail):Int :=
 (Fin.get (fun s1=>(-1)) (aJ (fR p1_0) 0 () p0))
theorem nV (p0:(List Timer)) (p1_0:Trail):FnOk prog 93 [.one (.s false 3 (List.map Timer.cells p0)),.one (.c 62 [.q 4 [(Trail.cells false) p1_0] 0 0])] ⟨.one (.v (.int .i64 (eD p0 p1_0))),[],[],false⟩:=by
 refine FnOk.intro (E:=env) aK aS func93 rfl (by kernel_rfl) rfl rfl ?_
 have hg:=eD.eq_1 p0 p1_0
 have hown:=iN
 exact aA (aA (aA (bJ fun hN1=>dW hg [0,1,7] (fun x1=>[(8,.one (.v (.int .i64 ((x1.i:Nat):Int))))]) (fun x1=>[]) [] ((by repeat' constructor)) (fun x1=>aA (aA (cT (fun hi1=>have hb1:=(x1.bdy hi1).trans (fR.eq_1 ..);have hw1:=aT hi1 (by assumption);aA (aA (aA (cC hi1 (.inl (⟨_,_,a8m (p0[x1.i]'hi1) p1_0,(FzAs.same _),aB (m:=1) rfl (brE hb1 (fun hb1 h2=>aA (have hg:=cQ hg (x1.outD hi1 hb1);aE hown hg)) (fun hb1 h2=>x1.goE hi1 hb1 [] ⟨rfl,⟨(bA hw1),rfl,⟨rfl,⟨rfl,trivial⟩⟩,rfl,trivial⟩,trivial,trivial⟩))⟩)))))) (fun hi1=>have hg:=bZ hg (x1.fin hi1);aA (aE hown hg))))))))
def dS (p0:(List Timer)) (p1_0:Trail):Bool :=
 (decide ((eD p0 p1_0)≥0))
theorem nB (p0:(List Timer)) (p1_0:Trail):FnOk prog 61 [.one (.s false 3 (List.map Timer.cells p0)),.one (.c 62 [.q 4 [(Trail.cells false) p1_0] 0 0])] ⟨.one (.v (.bool (dS p0 p1_0))),[],[],false⟩:=by
 refine FnOk.intro (E:=env) aK aS func61 rfl (by kernel_rfl) rfl rfl ?_
 have hg:=dS.eq_1 p0 p1_0
 have hown:=dP
 exact aA (aA (.inl (⟨_,_,nV p0 p1_0,(FzAs.same _),aB (m:=1) rfl (aE hown hg)⟩)))
def rW (p0:Int) (c0:World):Bool :=
 (decide (p0≥c0.Next))
theorem a8l (p0:Int) (c0:World):FnOk prog 64 [.one (.v (.int .i64 p0)),.one (.q 32 [(World.cells false) c0] 0 0)] ⟨.one (.v (.bool (rW p0 c0))),[],[],false⟩:=by
 refine FnOk.intro (E:=env) aK aS func64 rfl (by kernel_rfl) rfl rfl ?_
 have hg:=rW.eq_1 p0 c0
 have hown:=dP
 exact aA (aA (aE hown hg))
def gF (p1_0:World) (i1:Nat) (s1:Unit) (a1:Int):Step (Unit) Int :=
 (bif (rW a1 p1_0) then (.done ((i1:Nat):Int)) else (.next ()))
def fE (p0:(List Int)) (p1_0:World):Int :=
 (Fin.get (fun s1=>(-1)) (aJ (gF p1_0) 0 () p0))
theorem pF (p0:(List Int)) (p1_0:World):FnOk prog 94 [.one (.s false 1 (List.map mN p0)),.one (.c 64 [.q 32 [(World.cells false) p1_0] 0 0])] ⟨.one (.v (.int .i64 (fE p0 p1_0))),[],[],false⟩:=by
 refine FnOk.intro (E:=env) aK aS func94 rfl (by kernel_rfl) rfl rfl ?_
 have hg:=fE.eq_1 p0 p1_0
 have hown:=iN
 exact aA (aA (aA (bJ fun hN1=>dW hg [0,1,7] (fun x1=>[(8,.one (.v (.int .i64 ((x1.i:Nat):Int))))]) (fun x1=>[]) [] ((by repeat' constructor)) (fun x1=>aA (aA (cT (fun hi1=>have hb1:=(x1.bdy hi1).trans (gF.eq_1 ..);have hw1:=aT hi1 (by assumption);aA (aA (aA (cC hi1 (.inl (⟨_,_,a8l (p0[x1.i]'hi1) p1_0,(FzAs.same _),aB (m:=1) rfl (brE hb1 (fun hb1 h2=>aA (have hg:=cQ hg (x1.outD hi1 hb1);aE hown hg)) (fun hb1 h2=>x1.goE hi1 hb1 [] ⟨rfl,⟨(bA hw1),rfl,⟨rfl,⟨rfl,trivial⟩⟩,rfl,trivial⟩,trivial,trivial⟩))⟩)))))) (fun hi1=>have hg:=bZ hg (x1.fin hi1);aA (aE hown hg))))))))
def eK (p0:(List Int)) (p1_0:World):Bool :=
 (decide ((fE p0 p1_0)≥0))
theorem oH (p0:(List Int)) (p1_0:World):FnOk prog 63 [.one (.s false 1 (List.map mN p0)),.one (.c 64 [.q 32 [(World.cells false) p1_0] 0 0])] ⟨.one (.v (.bool (eK p0 p1_0))),[],[],false⟩:=by
 refine FnOk.intro (E:=env) aK aS func63 rfl (by kernel_rfl) rfl rfl ?_
 have hg:=eK.eq_1 p0 p1_0
 have hown:=dP
 exact aA (aA (.inl (⟨_,_,pF p0 p1_0,(FzAs.same _),aB (m:=1) rfl (aE hown hg)⟩)))
def qQ (s3:(List Timer)×(List Int)) (i4:Nat) (s4:(List Int)) (a4:Trail):Step ((List Int)) Bool :=
 (bif (!(dS s3.1 a4)) then (.done false) else (.next (s4++[a4.Stamp])))
def qR (i3:Nat) (s3:(List Timer)×(List Int)) (a3:Task):Step ((List Timer)×(List Int)) Bool :=
 (bif (a3.Op==2) then (bif (a3.Pc != 3) then (.next ((s3.1++[(Timer.mk a3.Stamp a3.Trace 0)]),(s3.2++[a3.Stamp]))) else (.next (s3.1,(s3.2++[a3.Stamp])))) else (.next (s3.1,(s3.2++[a3.Stamp]))))
def vR (i2:Nat) (s2:(List Int)) (a2:Verdict):Step ((List Int)) Bool :=
 (.next (s2++[a2.Stamp]))
def vS (i1:Nat) (s1:(List Int)) (a1:Timer):Step ((List Int)) Bool :=
 (.next (s1++[a1.Id]))
def mZ (p0:World):Bool :=
 (Fin.get (fun s1=>(Fin.get (fun s2=>(Fin.get (fun s3=>(Fin.get (fun s4=>(!(eK s4 p0))) (aJ (qQ s3) 0 s3.2 (iK p0.St)))) (aJ qR 0 (((bV p0.W)++p0.Due),s2) p0.Tasks))) (aJ vR 0 s1 p0.Cache))) (aJ vS 0 ([]:List Int) ((bV p0.W)++p0.Due)))
theorem b2u (p0:World) (hs:World.bd 1048576 p0):FnOk prog 29 [.agg ((World.cells false) p0)] ⟨.one (.v (.bool (mZ p0))),[],[],false⟩:=by
 refine FnOk.intro (E:=env) aK aS func29 rfl (by kernel_rfl) rfl rfl ?_
 have hg:=mZ.eq_1 p0
 have hown:=dP
 refine aA ?_
 refine aB (m:=0) rfl ?_
 refine aA ?_
 refine aA ?_
 refine .inr (.inl ⟨(.seg 5 5 (.q 0 (.q 1 (.q 3 (.q 4 (.o 2 .leaf))))) (.tail 5)),by kernel_rfl,?_⟩)
 refine ⟨_,_,zN p0.W (by exact hs.2.2.2.1),(FzAs.same _),?_⟩
 refine aB (m:=2) rfl ?_
 refine .inl ?_
 refine aV (Y:=List.map Timer.cells ((bV p0.W)++p0.Due)) (by simp [bX,bP,-List.map_take,-List.map_drop,-List.drop_one,aQ,aR,bR,bS,bY bR,fH bS];done) ?_
 refine cS (b:=24) (hs:=by have t1:=iR p0.W hs.2.2.2.1;have t2:p0.Due.length≤1048576:=hs.2.2.2.2.1.1;have t3:p0.Cache.length≤1048576:=hs.2.2.1.1;have t4:p0.Tasks.length≤1048576:=hs.2.2.2.2.2.2.2.1.1;have t5:=jY p0.St hs.2.1;(try have q1:=hI1);(try have q2:=hI2);(try have q3:=hI3.1);(try have q7:=hI3.2);(try have q4:=hI4);(try have y1:=x1.h);(try have y2:=x2.h);(try have y3:=x3.h);(try have y4:=x4.h);(try simp only [List.length_append] at y1);refine ⟨?_,?_⟩;(show List.length _*24≤_);(try simp only [LN]);omega;(try simp only [LN]);omega) ?_
 refine aB (m:=3) rfl ?_
 refine aA ?_
 refine aA ?_
 refine kD (k:=(((bV p0.W)++p0.Due)).length) (by simp) (fun hN1=>?_)
 refine gM (fun (i:Nat) (s:List Int)=>s.length≤i) hg (Nat.le_refl _) [1,4,19,20] (fun x1=>[(3,.one (.n 4 [] 1 0 (x1.s).length)),(21,.one (.v (.int .i64 ((x1.i:Nat):Int))))]) (fun x1=>[.keep 0,.dead,.dead,.keep 3,.new ⟨1,false,List.map mN x1.s,0⟩]) [some 0,none,none,some 3,none] ?_ (fun x1=>?_)
 · exact (by repeat' constructor)
 have hI1:=x1.hI
 try dsimp only at hI1
 refine aA ?_
 refine aA ?_
 refine cT (fun hi1=>?_) (fun hi1=>?_)
 · have hb1:=(x1.bdy hi1).trans (vS.eq_1 ..)
   have hw1:=aT hi1 (by assumption)
   refine aA ?_
   refine aA ?_
   refine bK (by ((simp (disch:=omega) only [wrap_small,eS,List.length_map];omega))) ?_
   refine a0r (i:=x1.i) (l:=((bV p0.W)++p0.Due)) (by exact Nat.zero_add _) hi1 ?_
   refine aB (m:=5) rfl ?_
   refine .inl (aB (m:=6) rfl ?_)
   refine .inl ?_
   refine aV (Y:=List.map mN (x1.s++[(((bV p0.W)++p0.Due)[x1.i]'hi1).Id])) (by simp [bX,bP,-List.map_take,-List.map_drop,-List.drop_one,aQ,aR,rI,rK,bY rI,fH rK];rfl) ?_
   refine cS (b:=8) (hs:=by have t1:=iR p0.W hs.2.2.2.1;have t2:p0.Due.length≤1048576:=hs.2.2.2.2.1.1;have t3:p0.Cache.length≤1048576:=hs.2.2.1.1;have t4:p0.Tasks.length≤1048576:=hs.2.2.2.2.2.2.2.1.1;have t5:=jY p0.St hs.2.1;(try have q1:=hI1);(try have q2:=hI2);(try have q3:=hI3.1);(try have q7:=hI3.2);(try have q4:=hI4);(try have y1:=x1.h);(try have y2:=x2.h);(try have y3:=x3.h);(try have y4:=x4.h);(try simp only [List.length_append] at y1);refine ⟨?_,?_⟩;(show List.length _*8≤_);(try simp only [LN]);omega;(try simp only [LN]);omega) ?_
   refine aB (m:=7) rfl ?_
   exact x1.goE hi1 hb1 (by have q1:=hI1;simp only [LN];omega) [some 0,none,none,some 3,some 7] ⟨rfl,⟨⟨rfl,rfl,rfl,rfl,by ((simp [LstSt.init,LstSt.step,LstInv.init,CntSt.init,CntSt.step,CntInv.init,WhlSt.init,WhlSt.step];done))⟩,(bA hw1),⟨rfl,rfl,rfl,rfl⟩,⟨rfl,rfl,rfl,rfl,by (rfl)⟩,⟨rfl,rfl,rfl,rfl,by (rfl)⟩,rfl,trivial⟩,(by repeat' constructor),trivial⟩
 have hg:=bZ hg (x1.fin hi1)
 refine aA ?_
 refine aA ?_
 refine bJ fun hN2=>?_
 refine gM (fun (i:Nat) (s:List Int)=>s.length≤2199025352704+i) hg (by have t1:=iR p0.W hs.2.2.2.1;have t2:p0.Due.length≤1048576:=hs.2.2.2.2.1.1;have t3:p0.Cache.length≤1048576:=hs.2.2.1.1;have t4:p0.Tasks.length≤1048576:=hs.2.2.2.2.2.2.2.1.1;have t5:=jY p0.St hs.2.1;have q:=hI1;have q2:=x1.h;simp only [List.length_append] at q2;show List.length x1.s≤_;omega) [1,4,32,33] (fun x2=>[(3,.one (.n 4 [] 1 0 (x2.s).length)),(34,.one (.v (.int .i64 ((x2.i:Nat):Int))))]) (fun x2=>[.keep 0,.dead,.dead,.keep 3,.new ⟨1,false,List.map mN x2.s,0⟩]) [some 0,none,none,some 3,some 4] ?_ (fun x2=>?_)
 · exact (by repeat' constructor)
 have hI2:=x2.hI
 try dsimp only at hI2
 refine aA ?_
 refine aA ?_
 refine cT (fun hi2=>?_) (fun hi2=>?_)
 · have hb2:=(x2.bdy hi2).trans (vR.eq_1 ..)
   have hw2:=aT hi2 (by assumption)
   refine aA ?_
   refine aA ?_
   refine cC hi2 ?_
   refine aB (m:=5) rfl ?_
   refine .inl (aB (m:=6) rfl ?_)
   refine .inl ?_
   refine aV (Y:=List.map mN (x2.s++[(p0.Cache[x2.i]'hi2).Stamp])) (by simp [bX,bP,-List.map_take,-List.map_drop,-List.drop_one,aQ,aR,rI,rK,bY rI,fH rK];rfl) ?_
   refine cS (b:=8) (hs:=by have t1:=iR p0.W hs.2.2.2.1;have t2:p0.Due.length≤1048576:=hs.2.2.2.2.1.1;have t3:p0.Cache.length≤1048576:=hs.2.2.1.1;have t4:p0.Tasks.length≤1048576:=hs.2.2.2.2.2.2.2.1.1;have t5:=jY p0.St hs.2.1;(try have q1:=hI1);(try have q2:=hI2);(try have q3:=hI3.1);(try have q7:=hI3.2);(try have q4:=hI4);(try have y1:=x1.h);(try have y2:=x2.h);(try have y3:=x3.h);(try have y4:=x4.h);(try simp only [List.length_append] at y1);refine ⟨?_,?_⟩;(show List.length _*8≤_);(try simp only [LN]);omega;(try simp only [LN]);omega) ?_
   refine aB (m:=7) rfl ?_
   exact x2.goE hi2 hb2 (by have q1:=hI2;simp only [LN];omega) [some 0,none,none,some 3,some 7] ⟨rfl,⟨⟨rfl,rfl,rfl,rfl,by ((simp [LstSt.init,LstSt.step,LstInv.init,CntSt.init,CntSt.step,CntInv.init,WhlSt.init,WhlSt.step];done))⟩,(bA hw2),⟨rfl,rfl,rfl,rfl⟩,⟨rfl,rfl,rfl,rfl,by (rfl)⟩,rfl,rfl,trivial⟩,(by repeat' constructor),trivial⟩
 have hg:=bZ hg (x2.fin hi2)
 refine aA ?_
 refine aA ?_
 refine bJ fun hN3=>?_
 refine gM (fun (i:Nat) (s:List Timer×List Int)=>s.1.length≤2199025352704+i∧s.2.length≤2199026401280+i) hg (by have t1:=iR p0.W hs.2.2.2.1;have t2:p0.Due.length≤1048576:=hs.2.2.2.2.1.1;have t3:p0.Cache.length≤1048576:=hs.2.2.1.1;have t4:p0.Tasks.length≤1048576:=hs.2.2.2.2.2.2.2.1.1;have t5:=jY p0.St hs.2.1;have q:=hI2;have q2:=x2.h;refine ⟨?_,?_⟩;(show List.length (_++_)≤_;rw [List.length_append];omega);(show List.length x2.s≤_;omega)) [1,45,46] (fun x3=>[(3,.one (.n 4 [] 1 0 (x3.s.2).length)),(4,.one (.n 3 [] 1 0 (x3.s.1).length)),(47,.one (.v (.int .i64 ((x3.i:Nat):Int))))]) (fun x3=>[.keep 0,.dead,.dead,.new ⟨3,false,List.map Timer.cells x3.s.1,0⟩,.new ⟨1,false,List.map mN x3.s.2,0⟩]) [some 0,none,none,some 3,some 4] ?_ (fun x3=>?_)
 · exact (by repeat' first|constructor|(simp [LstSt.init,LstSt.step,LstInv.init,CntSt.init,CntSt.step,CntInv.init,WhlSt.init,WhlSt.step];done))
 have hI3:=x3.hI
 try dsimp only at hI3
 refine aA ?_
 refine aA ?_
 refine cT (fun hi3=>?_) (fun hi3=>?_)
 · have hb3:=(x3.bdy hi3).trans (qR.eq_1 ..)
   have hw3:=aT hi3 (by assumption)
   refine aA ?_
   refine aA ?_
   refine cC hi3 ?_
   refine aB (m:=5) rfl ?_
   refine aA ?_
   refine .inl (aB (m:=6) rfl ?_)
   refine .inl ?_
   refine aV (Y:=List.map mN (x3.s.2++[(p0.Tasks[x3.i]'hi3).Stamp])) (by simp [bX,bP,-List.map_take,-List.map_drop,-List.drop_one,aQ,aR,rI,rK,bY rI,fH rK];rfl) ?_
   refine cS (b:=8) (hs:=by have t1:=iR p0.W hs.2.2.2.1;have t2:p0.Due.length≤1048576:=hs.2.2.2.2.1.1;have t3:p0.Cache.length≤1048576:=hs.2.2.1.1;have t4:p0.Tasks.length≤1048576:=hs.2.2.2.2.2.2.2.1.1;have t5:=jY p0.St hs.2.1;(try have q1:=hI1);(try have q2:=hI2);(try have q3:=hI3.1);(try have q7:=hI3.2);(try have q4:=hI4);(try have y1:=x1.h);(try have y2:=x2.h);(try have y3:=x3.h);(try have y4:=x4.h);(try simp only [List.length_append] at y1);refine ⟨?_,?_⟩;(show List.length _*8≤_);(try simp only [LN]);omega;(try simp only [LN]);omega) ?_
   refine aB (m:=7) rfl ?_
   refine aA ?_
   refine brQ hb3 (fun hb3 h4=>?_) (fun hb3 h4=>x3.goE hi3 hb3 (by have q1:=hI3.1;have q2:=hI3.2;refine ⟨?_,?_⟩;(simp only [LN];omega);(simp only [LN];omega)) [some 0,none,none,some 3,some 7] ⟨rfl,⟨⟨rfl,rfl,rfl,rfl,by ((simp [LstSt.init,LstSt.step,LstInv.init,CntSt.init,CntSt.step,CntInv.init,WhlSt.init,WhlSt.step];done))⟩,⟨rfl,rfl,rfl,rfl,by (rfl)⟩,(bA hw3),⟨rfl,rfl,rfl,rfl⟩,rfl,rfl,trivial⟩,(by repeat' constructor),trivial⟩)
   refine brW hb3 (fun hb3 h5=>?_) (fun hb3 h5=>x3.goE hi3 hb3 (by have q1:=hI3.1;have q2:=hI3.2;refine ⟨?_,?_⟩;(simp only [LN];omega);(simp only [LN];omega)) [some 0,none,none,some 3,some 7] ⟨rfl,⟨⟨rfl,rfl,rfl,rfl,by ((simp [LstSt.init,LstSt.step,LstInv.init,CntSt.init,CntSt.step,CntInv.init,WhlSt.init,WhlSt.step];done))⟩,⟨rfl,rfl,rfl,rfl,by (rfl)⟩,(bA hw3),⟨rfl,rfl,rfl,rfl⟩,rfl,rfl,trivial⟩,(by repeat' constructor),trivial⟩)
   refine .inl (aB (m:=8) rfl ?_)
   refine .inl ?_
   refine aV (Y:=List.map Timer.cells (x3.s.1++[(Timer.mk (p0.Tasks[x3.i]'hi3).Stamp (p0.Tasks[x3.i]'hi3).Trace 0)])) (by simp [bX,bP,-List.map_take,-List.map_drop,-List.drop_one,aQ,aR,bR,bS,bY bR,fH bS];rfl) ?_
   refine cS (b:=24) (hs:=by have t1:=iR p0.W hs.2.2.2.1;have t2:p0.Due.length≤1048576:=hs.2.2.2.2.1.1;have t3:p0.Cache.length≤1048576:=hs.2.2.1.1;have t4:p0.Tasks.length≤1048576:=hs.2.2.2.2.2.2.2.1.1;have t5:=jY p0.St hs.2.1;(try have q1:=hI1);(try have q2:=hI2);(try have q3:=hI3.1);(try have q7:=hI3.2);(try have q4:=hI4);(try have y1:=x1.h);(try have y2:=x2.h);(try have y3:=x3.h);(try have y4:=x4.h);(try simp only [List.length_append] at y1);refine ⟨?_,?_⟩;(show List.length _*24≤_);(try simp only [LN]);omega;(try simp only [LN]);omega) ?_
   refine aB (m:=9) rfl ?_
   exact x3.goE hi3 hb3 (by have q1:=hI3.1;have q2:=hI3.2;refine ⟨?_,?_⟩;(simp only [LN];omega);(simp only [LN];omega)) [some 0,none,none,some 9,some 7] ⟨rfl,⟨⟨rfl,rfl,rfl,rfl,by ((simp [LstSt.init,LstSt.step,LstInv.init,CntSt.init,CntSt.step,CntInv.init,WhlSt.init,WhlSt.step];done))⟩,⟨rfl,rfl,rfl,rfl,by ((simp [LstSt.init,LstSt.step,LstInv.init,CntSt.init,CntSt.step,CntInv.init,WhlSt.init,WhlSt.step];done))⟩,(bA hw3),⟨rfl,rfl,rfl,rfl⟩,rfl,rfl,trivial⟩,(by repeat' constructor),trivial⟩
 have hg:=bZ hg (x3.fin hi3)
 refine aA ?_
 refine aA ?_
 refine .inl (⟨_,_,(FnOk.conv (.one (.one (.sl _ _ _ _ (bE kM _))) (fun _ h=>by cases h) (fun _ h=>by cases h)) (a1i p0.St (by exact hs.2.1))),(FzAs.same _),?_⟩)
 refine aB (m:=6) rfl ?_
 refine bJ fun hN6=>?_
 refine gM (fun (i:Nat) (s:List Int)=>s.length≤2199027449856+i) hg (by have t1:=iR p0.W hs.2.2.2.1;have t2:p0.Due.length≤1048576:=hs.2.2.2.2.1.1;have t3:p0.Cache.length≤1048576:=hs.2.2.1.1;have t4:p0.Tasks.length≤1048576:=hs.2.2.2.2.2.2.2.1.1;have t5:=jY p0.St hs.2.1;have q:=hI3.2;have q2:=x3.h;show List.length x3.s.2≤_;omega) [1,4,75,76] (fun x4=>[(3,.one (.n 4 [] 1 0 (x4.s).length)),(77,.one (.v (.int .i64 ((x4.i:Nat):Int))))]) (fun x4=>[.keep 0,.dead,.dead,.keep 3,.new ⟨1,false,List.map mN x4.s,0⟩,.dead]) [some 0,none,none,some 3,some 4,none] ?_ (fun x4=>?_)
 · exact (by repeat' constructor)
 have hI4:=x4.hI
 try dsimp only at hI4
 refine aA ?_
 refine aA ?_
 refine cT (fun hi4=>?_) (fun hi4=>?_)
 · have hb4:=(x4.bdy hi4).trans (qQ.eq_1 ..)
   have hw4:=aT hi4 (by assumption)
   refine aA ?_
   refine aA ?_
   refine cC hi4 ?_
   refine aB (m:=6) rfl ?_
   refine aA ?_
   refine .inl (aB (m:=7) rfl ?_)
   refine .inl ?_
   refine aV (Y:=List.map mN (x4.s++[((iK p0.St)[x4.i]'hi4).Stamp])) (by simp [bX,bP,-List.map_take,-List.map_drop,-List.drop_one,aQ,aR,rI,rK,bY rI,fH rK];rfl) ?_
   refine cS (b:=8) (hs:=by have t1:=iR p0.W hs.2.2.2.1;have t2:p0.Due.length≤1048576:=hs.2.2.2.2.1.1;have t3:p0.Cache.length≤1048576:=hs.2.2.1.1;have t4:p0.Tasks.length≤1048576:=hs.2.2.2.2.2.2.2.1.1;have t5:=jY p0.St hs.2.1;(try have q1:=hI1);(try have q2:=hI2);(try have q3:=hI3.1);(try have q7:=hI3.2);(try have q4:=hI4);(try have y1:=x1.h);(try have y2:=x2.h);(try have y3:=x3.h);(try have y4:=x4.h);(try simp only [List.length_append] at y1);refine ⟨?_,?_⟩;(show List.length _*8≤_);(try simp only [LN]);omega;(try simp only [LN]);omega) ?_
   refine aB (m:=8) rfl ?_
   refine aA ?_
   refine .inl (⟨_,_,nB x3.s.1 ((iK p0.St)[x4.i]'hi4),(FzAs.same _),?_⟩)
   refine aB (m:=10) rfl ?_
   refine brE hb4 (fun hb4 h7=>?_) (fun hb4 h7=>x4.goE hi4 hb4 (by have q1:=hI4;simp only [LN];omega) [some 0,none,none,some 3,some 8,none] ⟨rfl,⟨⟨rfl,rfl,rfl,rfl,by ((simp [LstSt.init,LstSt.step,LstInv.init,CntSt.init,CntSt.step,CntInv.init,WhlSt.init,WhlSt.step];done))⟩,(bA hw4),⟨rfl,rfl,rfl,rfl⟩,⟨rfl,rfl,rfl,rfl,by (rfl)⟩,rfl,rfl,trivial⟩,(by repeat' constructor),trivial⟩)
   refine aA ?_
   have hg:=cQ hg (x4.outD hi4 hb4)
   exact aE hown hg
 have hg:=bZ hg (x4.fin hi4)
 refine aA ?_
 refine .inl (⟨_,_,oH x4.s p0,(FzAs.same _),?_⟩)
 refine aB (m:=7) rfl ?_
 exact aE hown hg
def oE (p0:World):Bool :=
 (bif (uY p0) then (bif (qB p0) then (mZ p0) else false) else false)
theorem b4u (p0:World) (hs:World.bd 1048576 p0):FnOk prog 11 [.agg ((World.cells false) p0)] ⟨.one (.v (.bool (oE p0))),[],[],false⟩:=by
 refine FnOk.intro (E:=env) aK aS func11 rfl (by kernel_rfl) rfl rfl ?_
 have hg:=oE.eq_1 p0
 have hown:=dP
 exact aA (aB (m:=0) rfl (aA (.inl (⟨_,_,b2t p0 (by exact hs),(FzAs.same _),aB (m:=2) rfl (brE hg (fun hg h1=>.inl (⟨_,_,b4t p0 (by exact hs),(FzAs.same _),aB (m:=3) rfl (brE hg (fun hg h2=>.inl (⟨_,_,b2u p0 (by exact hs),(FzAs.same _),aB (m:=4) rfl (aE hown hg)⟩)) (fun hg h2=>aE hown hg))⟩)) (fun hg h1=>aE hown hg))⟩))))
def xN (p0:(List Int)):Bool :=
 (decide ((((p0).length:Nat):Int) > 1048576))
theorem c5c (p0:(List Int)):FnOk prog 7 [.one (.s false 1 (List.map cU8 p0))] ⟨.one (.v (.bool (xN p0))),[],[],false⟩:=by
 refine FnOk.intro (E:=env) aK aS func7 rfl (by kernel_rfl) rfl rfl ?_
 have hg:=xN.eq_1 p0
 have hown:=dP
 exact aA (aA (bJ fun hN1=>aE hown hg))
theorem c1d {l:List Int} (h:xN l=false):l.length≤4611686018427387904:=by
 unfold xN at h;have:=of_decide_eq_false h;omega
def wC (p0:Conf) (p1:Span):Bool :=
 (bif (kR p1) then (decide ((rF p1)≤p0.Budget)) else false)
theorem c2h (p0:Conf) (p1:Span):FnOk prog 9 [.agg ((Conf.cells false) p0),.agg ((Span.cells false) p1)] ⟨.one (.v (.bool (wC p0 p1))),[],[],false⟩:=by
 refine FnOk.intro (E:=env) aK aS func9 rfl (by kernel_rfl) rfl rfl ?_
 have hg:=wC.eq_1 p0 p1
 have hown:=dP
 exact aA (aB (m:=0) rfl (aB (m:=1) rfl (aA (.inl ⟨by kernel_rfl,⟨_,_,vF p1,(FzAs.same _),brE hg (fun hg h1=>⟨_,_,zO p1,(FzAs.same _),aE hown hg⟩) (fun hg h1=>aE hown hg)⟩⟩))))
def vB (p1:Int) (i1:Nat) (s1:Int) (a1:Deed):Step (Int) Int :=
 (bif (a1.Op==1) then (bif (a1.Lin != (-1)) then (bif (a1.Code==p1) then (.next (IntKind.i64.wrap (s1+1))) else (.next s1)) else (.next s1)) else (.next s1))
def jD (p0:(List Deed)) (p1:Int):Int :=
 (Fin.get (fun s1=>s1) (aJ (vB p1) 0 0 p0))
theorem c1c (p0:(List Deed)) (p1:Int):FnOk prog 10 [.one (.s false 20 (List.map (Deed.cells false) p0)),.one (.v (.int .i64 p1))] ⟨.one (.v (.int .i64 (jD p0 p1))),[],[],false⟩:=by
 refine FnOk.intro (E:=env) aK aS func10 rfl (by kernel_rfl) rfl rfl ?_
 have hg:=jD.eq_1 p0 p1
 have hown:=iN
 exact aA (aA (aA (aA (bJ fun hN1=>dW hg [1,8,9] (fun x1=>[(5,.one (.v (.int .i64 x1.s))),(10,.one (.v (.int .i64 ((x1.i:Nat):Int))))]) (fun x1=>[]) [] ((by repeat' constructor)) (fun x1=>aA (aA (cT (fun hi1=>have hb1:=(x1.bdy hi1).trans (vB.eq_1 ..);have hw1:=aT hi1 (by assumption);aA (aA (cC hi1 (aB (m:=0) rfl (aA (brQ hb1 (fun hb1 h2=>brW hb1 (fun hb1 h3=>brQ hb1 (fun hb1 h4=>x1.goE hi1 hb1 [] ⟨rfl,⟨rfl,(bA hw1),rfl,rfl,rfl,trivial⟩,trivial,trivial⟩) (fun hb1 h4=>x1.goE hi1 hb1 [] ⟨rfl,⟨rfl,(bA hw1),rfl,rfl,rfl,trivial⟩,trivial,trivial⟩)) (fun hb1 h3=>x1.goE hi1 hb1 [] ⟨rfl,⟨rfl,(bA hw1),rfl,rfl,rfl,trivial⟩,trivial,trivial⟩)) (fun hb1 h2=>x1.goE hi1 hb1 [] ⟨rfl,⟨rfl,(bA hw1),rfl,rfl,rfl,trivial⟩,trivial,trivial⟩))))))) (fun hi1=>have hg:=bZ hg (x1.fin hi1);aA (aE hown hg)))))))))
def zG (p0:Int):ByteArray :=
 (bif (!(aM p0 1 5)) then (ByteArray.mk #[]) else ([(ByteArray.mk #[104,101,108,100]),(ByteArray.mk #[108,97,116,101]),(ByteArray.mk #[103,111,110,101]),(ByteArray.mk #[115,104,117,116]),(ByteArray.mk #[98,97,100])][((IntKind.i64.wrap (p0 - 1))).toNat]?.getD default))
theorem b2z (p0:Int):FnOk prog 12 [.one (.v (.int .i64 p0))] ⟨.one (.v (.string (zG p0))),[],[],false⟩:=by
 refine FnOk.intro (E:=env) aK aS func12 rfl (by kernel_rfl) rfl rfl ?_
 have hg:=zG.eq_1 p0
 have hown:∀g:ByteArray,AV.Own (AV.one (.v (.string g))):=fun g=>.v _
 exact aA (aA (aA (.inl (⟨_,_,bH p0 1 5,(FzAs.same _),aB (m:=1) rfl (brE hg (fun hg h1=>aA (aE hown hg)) (fun hg h1=>aA (.inl (aB (m:=1) rfl (bK (by have h9:aM p0 1 5=true:=(by simpa using h1);have ha:1≤p0∧p0≤5:=(by simp [aM,Bool.cond_eq_ite] at h9;omega);rw [Go.Ev.wrap_small (n:=p0 - 1) (by omega) (by omega)];(constructor <;> (try simp) <;> omega)) (cZ (enc:=c9n) (i:=((IntKind.i64.wrap (p0 - 1))).toNat) (l:=[(ByteArray.mk #[104,101,108,100]),(ByteArray.mk #[108,97,116,101]),(ByteArray.mk #[103,111,110,101]),(ByteArray.mk #[115,104,117,116]),(ByteArray.mk #[98,97,100])]) (by exact Nat.zero_add _) (fun hq2=>aE hown hg)))))))⟩))))
def oI (a1:Deed) (p0:(List Int)):Step (Bool×Bool×Bool×Bool×Bool×Bool) (Step (Int) Bool) :=
 (bif ((a1.Code==5)==(wC (aW p0).C a1.S)) then (.done (.done false)) else (bif (a1.Code==1) then (.next (true,true,true,true,(!(true==(decide (a1.Stamp≥1)))),(!(true==(decide (a1.Stamp≥1)))))) else (bif (a1.Code==2) then (.next (false,(a1.Code==2),true,true,(!(true==(decide (a1.Stamp≥1)))),(!(true==(decide (a1.Stamp≥1)))))) else (.next (false,(a1.Code==2),false,(a1.Code==3),(!((a1.Code==3)==(decide (a1.Stamp≥1)))),(!((a1.Code==3)==(decide (a1.Stamp≥1)))))))))
def eM (p0:(List Int)) (s3:Int×Int):Step (Int×Int) Bool :=
 (bif (decide (s3.2≤5)) then (.next ((IntKind.i64.wrap (s3.1+(jD (aW p0).Deeds s3.2))),(IntKind.i64.wrap (s3.2+1)))) else (.stop (s3.1,s3.2)))
def oJ (p0:(List Int)) (i1:Nat) (s1:Int) (a1:Deed):Step (Int) Bool :=
 (bif (a1.Op != 1) then (.next s1) else (bif (a1.Lin==(-1)) then (.next s1) else (Step.get (fun s2=>(bif s2.2.2.2.2.2 then (.done false) else (.next (IntKind.i64.wrap (s1+1))))) (oI a1 p0))))
def oD (p0:(List Int)):Bool :=
 (bif (xN p0) then true else (Fin.get (fun s1=>(Fin.get (fun s3=>(bif (oE (aW p0)) then (bif (s3.1==s1) then (((((zG 1)).size:Nat):Int)==4) else false) else false)) (eP (eM p0) ((fun s:Int×Int=>(6 - s.2).toNat) (0,1)) (0,1)))) (aJ (oJ p0) 0 0 (aW p0).Deeds)))
theorem a7k (p0:(List Int)):FnOk prog 3 [.one (.s false 1 (List.map cU8 p0))] ⟨.one (.v (.bool (oD p0))),[],[],false⟩:=by
 refine FnOk.intro (E:=env) aK aS func3 rfl (by kernel_rfl) rfl rfl ?_
 have hg:=oD.eq_1 p0
 have hown:=dP
 refine aA (aA (aA (.inl (⟨_,_,c5c p0,(FzAs.same _),aB (m:=1) rfl (brE hg (fun hg h1=>aA (aE hown hg)) (fun hg h1=>aA (.inl (⟨_,_,b0d p0 (by exact c1d h1),(FzAs.same _),aB (m:=2) rfl (aB (m:=2) rfl (aA (aA (aA (dW hg [3] (fun x1=>[(4,.one (.v (.int .i64 x1.s))),(5,.one (.v (.int .i64 ((x1.i:Nat):Int))))]) (fun x1=>[.dead,.dead,.keep 2]) [none,none,some 2] ((by repeat' constructor)) (fun x1=>aA (aA (bJ fun hN2=>cT (fun hi1=>have hb1:=(x1.bdy hi1).trans (oJ.eq_1 ..);have hw1:=aT hi1 (by assumption);aA (aA (cC hi1 (aB (m:=3) rfl (aA (aA (yA hb1 (fun hb1 h3=>brQ hb1 (fun hb1 h4=>x1.goE hi1 hb1 [none,none,some 2] ⟨rfl,⟨rfl,(bA hw1),⟨rfl,rfl,rfl,rfl⟩,trivial⟩,(by repeat' constructor),trivial⟩) (fun hb1 h4=>aA (eA hb1 [3,4,5,29,30,31] (fun x2=>[(45,.one (.p 3 [] 0 0 10)),(46,.one (.v (.int .i64 ((aW p0).Deeds[x1.i]'hi1).Code))),(47,.one (.v (.bool (((aW p0).Deeds[x1.i]'hi1).Code==1)))),(48,.one (.v (.bool x2.s.1))),(52,.one (.v (.bool x2.s.2.1))),(53,.one (.v (.bool x2.s.2.2.1))),(57,.one (.v (.bool x2.s.2.2.2.1))),(58,.one (.p 3 [] 0 0 9)),(59,.one (.v (.int .i64 ((aW p0).Deeds[x1.i]'hi1).Stamp))),(60,.one (.v (.bool (decide (((aW p0).Deeds[x1.i]'hi1).Stamp≥1))))),(61,.one (.v (.bool x2.s.2.2.2.2.1))),(62,.one (.v (.bool x2.s.2.2.2.2.2)))]) (fun x2=>[.dead,.dead,.keep 2,.keep 3]) (fun hb2=>have hb2:=hb2.trans (oI.eq_1 ..);.inl ⟨by kernel_rfl,⟨_,_,c2h (aW p0).C ((aW p0).Deeds[x1.i]'hi1).S,(FzAs.same _),brF hb2 (fun hb2 h5=>b0p hb2 (fun hb2 h6=>b0p hb2 (fun hb2 h7=>.inl ⟨⟨_,hb2⟩,[none,none,some 2,some 3],(by repeat' constructor)⟩) (fun hb2 h7=>.inl ⟨⟨_,hb2⟩,[none,none,some 2,some 3],(by repeat' constructor)⟩)) (fun hb2 h6=>.inl ⟨⟨_,hb2⟩,[none,none,some 2,some 3],(by repeat' constructor)⟩)) (fun hb2 h5=>.inr (have hb1:=getD hb1 hb2;aA (have hg:=cQ hg (x1.outD hi1 hb1);aE hown hg)))⟩⟩) (fun x2 hb1=>brE hb1 (fun hb1 h8=>aA (have hg:=cQ hg (x1.outD hi1 hb1);aE hown hg)) (fun hb1 h8=>x1.goE hi1 hb1 [none,none,some 2] ⟨rfl,⟨rfl,(bA hw1),⟨rfl,rfl,rfl,rfl⟩,trivial⟩,(by repeat' constructor),trivial⟩))))) (fun hb1 h3=>x1.goE hi1 hb1 [none,none,some 2] ⟨rfl,⟨rfl,(bA hw1),⟨rfl,rfl,rfl,rfl⟩,trivial⟩,(by repeat' constructor),trivial⟩)))))))) (fun hi1=>have hg:=bZ hg (x1.fin hi1);aA (aA (aA (a6s (m:=(fun s:Int×Int=>(6 - s.2).toNat)) (s0:=(0,1)) (fun s:Int×Int=>1≤s.2∧s.2≤6) hg (by exact ⟨by decide,by decide⟩) [3,4] (fun x3=>[(7,.one (.v (.int .i64 x3.s.1))),(8,.one (.v (.int .i64 x3.s.2)))]) (fun x3=>[.dead,.dead,.keep 2]) [none,none,some 2] ((by repeat' constructor)) (fun x3=>?_)))))))))))))⟩))))⟩))))
 have hI3:=x3.hI
 try dsimp only at hI3
 exact have hb3:=x3.bdy.trans (eM.eq_1 ..);aA (aA (brD hb3 (fun hb3 h9=>aA (.inl (⟨_,_,c1c (aW p0).Deeds x3.s.2,(FzAs.same _),aB (m:=4) rfl (x3.goE hb3 (show (fun s:Int×Int=>1≤s.2∧s.2≤6) ((IntKind.i64.wrap (x3.s.1+(jD (aW p0).Deeds x3.s.2))),(IntKind.i64.wrap (x3.s.2+1)))∧(fun s:Int×Int=>(6 - s.2).toNat) ((IntKind.i64.wrap (x3.s.1+(jD (aW p0).Deeds x3.s.2))),(IntKind.i64.wrap (x3.s.2+1))) < (fun s:Int×Int=>(6 - s.2).toNat) x3.s by have f1:=hI3;exact ⟨⟨by ((simp (disch:=omega) only [wrap_small,eS,eY,fP,fO,List.length_map,List.length_set] <;> omega)),by ((simp (disch:=omega) only [wrap_small,eS,eY,fP,fO,List.length_map,List.length_set] <;> omega))⟩,by ((simp (disch:=omega) only [wrap_small,eS,eY,fP,fO,List.length_map,List.length_set] <;> omega))⟩) [none,none,some 2] (by repeat' constructor))⟩))) (fun hb3 h9=>have hg:=bZ hg (x3.outS hb3);aA (.inl (⟨_,_,b4u (aW p0) (by exact d7r (c1d h1)),(FzAs.same _),aB (m:=4) rfl (brE hg (fun hg h10=>brQ hg (fun hg h11=>.inl (⟨_,_,b2z 1,(FzAs.same _),aB (m:=5) rfl (vP fun hN12=>aE hown hg)⟩)) (fun hg h11=>aE hown hg)) (fun hg h10=>aE hown hg))⟩)))))
theorem a8v (s:ByteArray):lY s=lZ s:=rfl
theorem a6r (s:ByteArray):kT s=mK s:=by
 have e:mR s=sF s:=by
  funext i u
  unfold mR sF aM
  have h:=(s.data.getD i 0).toNat_lt
  generalize (s.data.getD i 0).toNat=n at h ⊢
  rw [Go.Ev.wrap_small (n:=(n:Int)) (by omega) (by omega)]
  by_cases h1:(n:Int) < 32
  · have h2:¬(n:Int)≥32:=by omega
    simp [h1,h2]
  · have h2:(n:Int)≥32:=by omega
    by_cases h3:(n:Int) > 126
    · have h4:¬(n:Int)≤126:=by omega
      simp [h1,h2,h3,h4]
    · have h4:(n:Int)≤126:=by omega
      simp [h1,h2,h3,h4]
 unfold kT mK
 rw [e]
theorem c2a (a:Attr):jO a=uP a:=by
 unfold jO uP
 rw [a8v,a6r,show aO a.N 0 2147483647=aM a.N 0 2147483647 from rfl]
 cases lZ a.Key <;> cases a.Num <;> cases (a.N==0) <;> cases mK a.Text <;> rfl
theorem b9f (l:List Attr):nZ l=tB l:=by
 unfold nZ tB
 rw [show kV l=sH l from by funext i s a;unfold kV sH;rw [c2a]]
theorem a2w (s:Span):cY s=rF s:=by
 rfl
theorem uL (s:Span):eH s=kR s:=by
 unfold eH kR
 rw [b9f,a2w,show aO s.Trace 1 999=aM s.Trace 1 999 from rfl,show aO s.Id 1 999=aM s.Id 1 999 from rfl]
 have e:(bif aO s.Start 0 99999 then aO s.End s.Start 99999 else false)=(bif aM s.End 0 99999 then aM s.Start 0 s.End else false):=by
  unfold aO aM
  rw [Bool.eq_iff_iff]
  simp only [Bool.cond_eq_ite]
  repeat' split
  all_goals simp_all
  all_goals omega
 cases aM s.Trace 1 999 <;> cases aM s.Id 1 999 <;> simp only [cond_true,cond_false]
 revert e
 cases aO s.Start 0 99999 <;> cases aO s.End s.Start 99999 <;> cases aM s.End 0 99999 <;> cases aM s.Start 0 s.End <;> simp
theorem a5h {α ρ:Type} {p:α→Bool} {r:Nat→ρ} {b:Nat→Unit→α→Step Unit ρ} (hb:∀i s a,b i s a=bif p a then .done (r i) else .next ()):∀(l:List α) (i:Nat),aJ b i () l=match l.findIdx? p with | some j=>.done (r (i+j)) | none=>.fin ()
 | [],i=>rfl
 | a :: l,i=>by
   unfold aJ
   rw [hb,List.findIdx?_cons]
   cases p a with
   | true=>rfl
   | false =>
     simp only [cond_false,Bool.false_eq_true,if_false]
     rw [a5h hb l (i+1)]
     cases l.findIdx? p with
     | none=>rfl
     | some j=>simp only [Option.map_some];congr 2;omega
theorem b0y {ρ:Type} {p:Nat→Bool} {r:ρ} {b:Nat→Unit→Step Unit ρ} (hb:∀i s,b i s=bif p i then .done r else .next ()):∀(n i:Nat),((∃k,k < n∧p (i+k)=true)∧cJ b i () n=.done r)∨((∀k,k < n→p (i+k)=false)∧cJ b i () n=.fin ())
 | 0,i=>.inr ⟨fun k hk=>absurd hk (by omega),rfl⟩
 | n+1,i=>by
   cases hp:p i with
   | true =>
     refine .inl ⟨⟨0,by omega,hp⟩,?_⟩
     unfold cJ
     rw [hb,hp]
     rfl
   | false =>
     have hs:cJ b i () (n+1)=cJ b (i+1) () n:=by
      conv=>lhs;unfold cJ
      rw [hb,hp]
      rfl
     rw [hs]
     rcases b0y hb n (i+1) with ⟨⟨k,hk,h⟩,e⟩ | ⟨h,e⟩
     · exact .inl ⟨⟨k+1,by omega,by rw [←h];congr 1;omega⟩,e⟩
     · refine .inr ⟨fun k hk=>?_,e⟩
       cases k with
       | zero=>exact hp
       | succ k=>rw [←h k (by omega)];congr 1;omega
theorem b9g {α σ ρ:Type} {f g:Nat→σ→α→Step σ ρ}:∀(l:List α) (i:Nat) (s:σ),(∀k (hk:k < l.length) s,f (i+k) s l[k]=g (i+k) s l[k])→aJ f i s l=aJ g i s l
 | [],i,s,_=>rfl
 | a :: l,i,s,h=>by
   unfold aJ
   rw [show f i s a=g i s a from h 0 (by simp) s]
   cases g i s a with
   | next s' =>
     refine b9g l (i+1) s' (fun k hk s=>?_)
     have:=h (k+1) (by simpa using hk) s
     rw [show i+(k+1)=i+1+k by omega] at this
     simpa using this
   | _=>rfl
theorem a0u (p:Pol):iB p=kK p:=by
 unfold iB kK zB zA pP pO pN
 rw [a8v,a6r,show aO p.N 0 2147483647=aM p.N 0 2147483647 from rfl,show aO ((p.L.length:Nat):Int) 1 4=aM ((p.L.length:Nat):Int) 1 4 from rfl]
 generalize (p.N==0)=a
 generalize decide (p.Key=ByteArray.mk #[])=b
 generalize decide (p.Text=ByteArray.mk #[])=c
 generalize aM p.N 0 2147483647=d
 generalize lZ p.Key=e
 generalize mK p.Text=f
 generalize (((p.L.length:Nat):Int)==0)=g
 generalize aM ((p.L.length:Nat):Int) 1 4=h
 generalize (((p.L.length:Nat):Int)==1)=k
 by_cases h1:p.Kind=1
 · simp only [h1];revert a b c d e f g h k;decide
 by_cases h2:p.Kind=2
 · simp only [h2];revert a b c d e f g h k;decide
 by_cases h3:p.Kind=3
 · simp only [h3];revert a b c d e f g h k;decide
 by_cases h4:p.Kind=4
 · simp only [h4];revert a b c d e f g h k;decide
 by_cases h5:p.Kind=5
 · simp only [h5];revert a b c d e f g h k;decide
 by_cases h6:p.Kind=6
 · simp only [h6];revert a b c d e f g h k;decide
 by_cases h7:p.Kind=7
 · simp only [h7];revert a b c d e f g h k;decide
 by_cases h8:p.Kind=8
 · simp only [h8];revert a b c d e f g h k;decide
 by_cases h9:p.Kind=9
 · simp only [h9];revert a b c d e f g h k;decide
 have g1:(p.Kind==1)=false:=by simpa using h1
 have g2:(p.Kind==2)=false:=by simpa using h2
 have g3:(p.Kind==3)=false:=by simpa using h3
 have g4:(p.Kind==4)=false:=by simpa using h4
 have g5:(p.Kind==5)=false:=by simpa using h5
 have g6:(p.Kind==6)=false:=by simpa using h6
 have g7:(p.Kind==7)=false:=by simpa using h7
 have g8:(p.Kind==8)=false:=by simpa using h8
 have g9:(p.Kind==9)=false:=by simpa using h9
 simp only [g1,g2,g3,g4,g5,g6,g7,g8,g9,cond_false,Step.get]
 revert a b c;decide
theorem c1x {p:Pol} (h:kK p=true):p.L.length≤4:=by
 rcases Nat.lt_or_ge 4 p.L.length with hl | hl
 · exfalso
   unfold kK pP pO pN at h
   rw [show aM ((p.L.length:Nat):Int) 1 4=false from by unfold aM;simp;omega,show (((p.L.length:Nat):Int)==0)=false from by simp;intro e;rw [e] at hl;simp at hl,show (((p.L.length:Nat):Int)==1)=false from by simp;omega] at h
   have e1:∀(z:Step Bool Bool) (a b c:Bool),Step.get (fun s3=>bif s3 then (bif a then false else false) else (bif b then (bif c then false else false) else false)) z=true→∃r,z=.done r:=fun z a b c hz=>by
    cases z with
    | done r=>exact ⟨r,rfl⟩
    | next s=>cases s <;> cases a <;> cases b <;> cases c <;> cases hz
    | stop s=>cases s <;> cases a <;> cases b <;> cases c <;> cases hz
   simp only [Bool.cond_eq_ite] at h
   repeat' split at h
   all_goals (simp only [Step.get] at h;repeat' split at h)
   all_goals simp_all
 · exact hl
def d1d (n:Nat) (B:Nat) (d:Int) (p:Pol):Prop :=
 (dY n p d=true∧∃c:Nat,1≤c∧c≤B∧cD n p=((c:Nat):Int)∧eQ n p d=((min c 13:Nat):Int)) ∨
 (dY n p d=false∧eQ n p d=13)
theorem a9n {n B:Nat} {d:Int} (hB:B≤1000):∀(l:List Pol) (i:Nat),(∀x∈l,d1d n B (IntKind.i64.wrap (d+1)) x)→∀s:Nat,s < 13 →
 (aJ (gW (dY n) d) i () l=.fin ()∧∃c:Nat,c≤l.length*B∧(∀t:Nat,t+l.length*B≤1000000000→aJ (lL (cD n)) i ((t:Nat):Int) l=.fin (((t+c:Nat):Nat):Int))∧Fin.get (fun x=>x) (aJ (gO (eQ n) d) i ((s:Nat):Int) l)=((min (s+c) 13:Nat):Int)) ∨
 (aJ (gW (dY n) d) i () l=.done false∧Fin.get (fun x=>x) (aJ (gO (eQ n) d) i ((s:Nat):Int) l)=13)
 | [],i,_,s,hs=>.inl ⟨rfl,0,by simp,fun t _=>rfl,by show ((s:Nat):Int)=_;congr 1;omega⟩
 | a :: l,i,h,s,hs=>by
   have hK:∀c:Nat,c≤B→cD n a=((c:Nat):Int)→∀t:Nat,t+(a :: l).length*B≤1000000000→aJ (lL (cD n)) i ((t:Nat):Int) (a :: l)=aJ (lL (cD n)) (i+1) (((t+c:Nat):Nat):Int) l:=by
    intro c hc hn t ht
    rw [List.length_cons,Nat.succ_mul] at ht
    conv=>lhs;unfold aJ
    simp only [lL,hn]
    rw [Go.Ev.wrap_small (n:=((t:Nat):Int)+((c:Nat):Int)) (by omega) (by omega)]
    congr 1
   rcases h a (by simp) with ⟨hd,c,hc1,hcB,hn,hp⟩ | ⟨hd,hp⟩
   · have hD:aJ (gW (dY n) d) i () (a :: l)=aJ (gW (dY n) d) (i+1) () l:=by
      conv=>lhs;unfold aJ
      simp only [gW,hd,Bool.not_true,cond_false]
     rw [hD]
     rcases Nat.lt_or_ge (s+min c 13) 13 with hlt | hge
     · have hP:aJ (gO (eQ n) d) i ((s:Nat):Int) (a :: l)=aJ (gO (eQ n) d) (i+1) (((s+c:Nat):Nat):Int) l:=by
        conv=>lhs;unfold aJ
        simp only [gO,hp]
        rw [Go.Ev.wrap_small (n:=((s:Nat):Int)+((min c 13:Nat):Int)) (by omega) (by omega),show decide (((s:Nat):Int)+((min c 13:Nat):Int)≥13)=false from by simp;omega]
        simp only [cond_false]
        congr 1
        omega
       rw [hP]
       rcases a9n hB l (i+1) (fun x hx=>h x (by simp [hx])) (s+c) (by omega) with ⟨e1,c2,b2,e2,e3⟩ | ⟨e1,e3⟩
       · refine .inl ⟨e1,c+c2,by rw [List.length_cons,Nat.succ_mul];omega,fun t ht=>?_,?_⟩
         · rw [hK c hcB hn t ht,e2 (t+c) (by rw [List.length_cons,Nat.succ_mul] at ht;omega),Nat.add_assoc]
         · rw [e3,Nat.add_assoc]
       · exact .inr ⟨e1,e3⟩
     · have hP:aJ (gO (eQ n) d) i ((s:Nat):Int) (a :: l)=.done 13:=by
        conv=>lhs;unfold aJ
        simp only [gO,hp]
        rw [Go.Ev.wrap_small (n:=((s:Nat):Int)+((min c 13:Nat):Int)) (by omega) (by omega),show decide (((s:Nat):Int)+((min c 13:Nat):Int)≥13)=true from by simp;omega]
        rfl
       rw [hP]
       rcases a9n hB l (i+1) (fun x hx=>h x (by simp [hx])) 0 (by omega) with ⟨e1,c2,b2,e2,e3⟩ | ⟨e1,e3⟩
       · refine .inl ⟨e1,c+c2,by rw [List.length_cons,Nat.succ_mul];omega,fun t ht=>?_,?_⟩
         · rw [hK c hcB hn t ht,e2 (t+c) (by rw [List.length_cons,Nat.succ_mul] at ht;omega),Nat.add_assoc]
         · show (13:Int)=_
           omega
       · exact .inr ⟨e1,rfl⟩
   · refine .inr ⟨?_,?_⟩
     · unfold aJ
       simp only [gW,hd,Bool.not_false,cond_true]
       rfl
     · unfold aJ
       simp only [gO,hp]
       rw [Go.Ev.wrap_small (n:=((s:Nat):Int)+13) (by omega) (by omega),show decide (((s:Nat):Int)+13≥13)=true from by simp;omega]
       rfl
theorem c5w:∀(k n:Nat) (p:Pol),k≤4→Pol.dep p < n→d1d n (5 ^ k) (5 - ((k:Nat):Int)) p
 | k,0,p,_,h=>absurd h (by omega)
 | 0,n+1,p,hk,h=>.inr ⟨rfl,rfl⟩
 | k+1,n+1,p,hk,h=>by
   have hd:decide ((5 - ((k+1:Nat):Int)) > 4)=false:=by simp;omega
   cases ho:kK p with
   | false =>
     refine .inr ⟨?_,?_⟩
     · simp only [dY,hd,a0u,ho,Bool.not_false,cond_true,cond_false]
     · simp only [eQ,hd,ho,Bool.not_false,cond_true,cond_false]
   | true =>
     have hl:=c1x ho
     have hB:5 ^ k≤1000:=by
      have:5 ^ k≤5 ^ 3:=Nat.pow_le_pow_right (by omega) (by omega)
      omega
     have ew:IntKind.i64.wrap (5 - ((k+1:Nat):Int)+1)=5 - ((k:Nat):Int):=by rw [Go.Ev.wrap_small] <;> omega
     have hm:p.L.length*5 ^ k≤4*5 ^ k:=Nat.mul_le_mul_right _ hl
     have hp5:5 ^ (k+1)=5*5 ^ k:=by rw [Nat.pow_succ,Nat.mul_comm]
     have h1:1≤5 ^ k:=Nat.pos_of_ne_zero (by simp)
     rcases a9n (n:=n) (B:=5 ^ k) (d:=5 - ((k+1:Nat):Int)) hB p.L 0 (fun x hx=>by rw [ew];exact c5w k n x (by omega) (Nat.lt_of_lt_of_le (Pol.dep_lt hx) (Nat.le_of_lt_succ h))) 1 (by omega) with ⟨e1,c,b,e2,e3⟩ | ⟨e1,e3⟩
     · refine .inl ⟨?_,1+c,by omega,by omega,?_,?_⟩
       · simp only [dY,hd,a0u,ho,Bool.not_true,cond_false,e1,Fin.get]
       · simp only [cD]
         rw [show (1:Int)=((1:Nat):Int) from rfl,e2 1 (by omega)]
         rfl
       · simp only [eQ,hd,ho,Bool.not_true,cond_false]
         exact e3
     · refine .inr ⟨?_,?_⟩
       · simp only [dY,hd,a0u,ho,Bool.not_true,cond_false,e1,Fin.get]
       · simp only [eQ,hd,ho,Bool.not_true,cond_false]
         exact e3
theorem c4c (p:Pol):qN p=wV p:=by
 unfold qN wV
 rcases (c5w 4 (Pol.dep p+1) p (by omega) (Nat.lt_succ_self _)) with ⟨hd,c,_,hc,hn,hp⟩ | ⟨hd,hp⟩
 · rw [show qV p=((c:Nat):Int) from hn,show uF p 1=true from hd,show uZ p 1=((min c 13:Nat):Int) from hp]
   by_cases h:c≤12
   · rw [show decide (((c:Nat):Int)≤12)=true from by simp;omega,show decide (((min c 13:Nat):Int)≤12)=true from by simp;omega];rfl
   · rw [show decide (((c:Nat):Int)≤12)=false from by simp;omega,show decide (((min c 13:Nat):Int)≤12)=false from by simp;omega];rfl
 · rw [show uF p 1=false from hd,show uZ p 1=13 from hp]
   cases decide (qV p≤12) <;> rfl
theorem c1z (c:Conf):dH c=rH c:=by
 unfold dH rH
 rw [c4c]
 rfl
theorem c1l {α ρ:Type} {p:α→Bool} {r:ρ} {b:Nat→Unit→α→Step Unit ρ} (hb:∀i s a,b i s a=bif p a then .next () else .done r):∀(l:List α) (i:Nat),aJ b i () l=bif l.all p then .fin () else .done r
 | [],i=>rfl
 | a :: l,i=>by
   unfold aJ
   rw [hb,List.all_cons]
   cases p a with
   | true=>simp only [cond_true,Bool.true_and];exact c1l hb l (i+1)
   | false=>rfl
theorem c3i {α:Type} {p:α→Bool} {b:Nat→Unit→α→Step Unit Bool} (hb:∀i s a,b i s a=bif p a then .next () else .done false) (l:List α) (K:Unit→Bool):Fin.get K (aJ b 0 () l)=(l.all p&&K ()):=by
 rw [c1l hb]
 cases l.all p <;> rfl
theorem bft (a b:Bool):(bif a then b else false)=(a&&b):=by cases a <;> rfl
theorem bff (a b:Bool):(bif a then false else b)=(!a&&b):=by cases a <;> rfl
theorem d3p {σ ρ:Type} (k:σ→ρ) (a:Bool) (x y:Step σ ρ):Step.get k (bif a then x else y)=bif a then Step.get k x else Step.get k y:=by cases a <;> rfl
theorem a2g {α:Type} {p:α→Bool} {b:Nat→Unit→α→Step Unit Int} (hb:∀i s a,b i s a=bif p a then .done ((i:Nat):Int) else .next ()) (l:List α):decide (Fin.get (fun _=>(-1:Int)) (aJ b 0 () l)≥0)=l.any p:=by
 rw [a5h hb]
 cases h:l.findIdx? p with
 | none =>
   rw [List.findIdx?_eq_none_iff] at h
   have:l.any p=false:=by
    rw [←Bool.not_eq_true,List.any_eq_true]
    rintro ⟨x,hx,hp⟩
    rw [h x hx] at hp;cases hp
   rw [this];rfl
 | some j =>
   rw [List.findIdx?_eq_some_iff_getElem] at h
   obtain ⟨hj,h1,_⟩:=h
   have:l.any p=true:=List.any_eq_true.2 ⟨_,List.getElem_mem hj,h1⟩
   rw [this]
   simp [Fin.get]
theorem a8g (a b:Nat) (ha:a < 9223372036854775808) (hb:b < 9223372036854775808):iE .i64 (a:Int) (b:Int)=((a &&& b:Nat):Int):=by
 unfold iE
 have h1:(BitVec.ofInt IntKind.i64.bits (a:Int)).toNat=a:=by
  show (BitVec.ofInt 64 (a:Int)).toNat=a
  rw [BitVec.ofInt_natCast,BitVec.toNat_ofNat];omega
 have h2:(BitVec.ofInt IntKind.i64.bits (b:Int)).toNat=b:=by
  show (BitVec.ofInt 64 (b:Int)).toNat=b
  rw [BitVec.ofInt_natCast,BitVec.toNat_ofNat];omega
 rw [BitVec.toNat_and,h1,h2]
 have:=Nat.and_le_left (n:=a) (m:=b)
 exact Go.Ev.wrap_small (by omega) (by omega)
theorem a3p (a b:Nat) (ha:a < 4294967296) (hb:b < 4294967296):rL .i64 (a:Int) (b:Int)=((a ^^^ b:Nat):Int):=by
 unfold rL
 have h1:(BitVec.ofInt IntKind.i64.bits (a:Int)).toNat=a:=by
  show (BitVec.ofInt 64 (a:Int)).toNat=a
  rw [BitVec.ofInt_natCast,BitVec.toNat_ofNat];omega
 have h2:(BitVec.ofInt IntKind.i64.bits (b:Int)).toNat=b:=by
  show (BitVec.ofInt 64 (b:Int)).toNat=b
  rw [BitVec.ofInt_natCast,BitVec.toNat_ofNat];omega
 rw [BitVec.toNat_xor,h1,h2]
 have:a ^^^ b < 2 ^ 32:=Nat.xor_lt_two_pow (by omega) (by omega)
 exact Go.Ev.wrap_small (by omega) (by omega)
theorem c3a (a:Nat) (k:Nat) (ha:a < 16777216) (hk:k≤8):zI .i64 (a:Int) (k:Int)=((a*2 ^ k:Nat):Int):=by
 unfold zI
 have h1:min ((k:Int)).toNat IntKind.i64.bits=k:=by
  have:IntKind.i64.bits=64:=rfl
  omega
 rw [h1]
 have h2:(2:Nat) ^ k≤2 ^ 8:=Nat.pow_le_pow_right (by omega) hk
 have h3:a*2 ^ k≤16777216*2 ^ 8:=Nat.mul_le_mul (by omega) h2
 have h4:((a:Int)*2 ^ k)=((a*2 ^ k:Nat):Int):=by simp
 rw [h4]
 exact Go.Ev.wrap_small (by omega) (by omega)
theorem d3g (a:Nat):wW .i64 (a:Int) 9=((a >>> 9:Nat):Int):=by
 unfold wW
 have h1:min ((9:Int)).toNat IntKind.i64.bits=9:=rfl
 rw [h1,Int.fdiv_eq_ediv_of_nonneg _ (by omega),Nat.shiftRight_eq_div_pow]
 simp
theorem c8s (n:Int):xI n=a0x n:=by
 unfold xI a0x
 obtain ⟨x,hx,hxl⟩:∃x:Nat,iE .i64 n 65535=((x:Nat):Int)∧x < 65536:=by
  unfold iE
  refine ⟨_,Go.Ev.wrap_small (n:=(((BitVec.ofInt IntKind.i64.bits n &&& BitVec.ofInt IntKind.i64.bits 65535).toNat:Nat):Int)) ?_ ?_,?_⟩
  · omega
  · rw [BitVec.toNat_and]
    have:=Nat.and_le_right (n:=(BitVec.ofInt IntKind.i64.bits n).toNat) (m:=(BitVec.ofInt IntKind.i64.bits 65535).toNat)
    have h2:(BitVec.ofInt IntKind.i64.bits 65535).toNat=65535:=rfl
    omega
  · rw [BitVec.toNat_and]
    have:=Nat.and_le_right (n:=(BitVec.ofInt IntKind.i64.bits n).toNat) (m:=(BitVec.ofInt IntKind.i64.bits 65535).toNat)
    have h2:(BitVec.ofInt IntKind.i64.bits 65535).toNat=65535:=rfl
    omega
 rw [hx]
 have e65:(65535:Int)=((65535:Nat):Int):=rfl
 have e7:(7:Int)=((7:Nat):Int):=rfl
 have e8:(8:Int)=((8:Nat):Int):=rfl
 rw [e65,e7,e8,c3a x 7 (by omega) (by omega),a8g (x*2 ^ 7) 65535 (by omega) (by omega),a3p x (x*2 ^ 7) (by omega) (by omega)]
 have b1:x ^^^ x*2 ^ 7 < 2 ^ 32:=Nat.xor_lt_two_pow (by omega) (by omega)
 rw [a8g (x ^^^ x*2 ^ 7) 65535 (by omega) (by omega)]
 have hm:∀y:Nat,y < 65536→y &&& 65535=y:=fun y hy=>by
  have:=Nat.and_two_pow_sub_one_eq_mod y 16
  rw [show (2:Nat) ^ 16 - 1=65535 from rfl] at this
  rw [this];omega
 have hd:∀y:Nat,(y &&& 65535) < 65536:=fun y=>by have:=Nat.and_le_right (n:=y) (m:=65535);omega
 rw [Nat.and_xor_distrib_right,hm x hxl]
 have hy:x ^^^ (x*2 ^ 7 &&& 65535) < 2 ^ 16:=Nat.xor_lt_two_pow (by omega) (hd _)
 rw [a3p x (x*2 ^ 7 &&& 65535) (by omega) (by have:=hd (x*2 ^ 7);omega)]
 generalize x ^^^ (x*2 ^ 7 &&& 65535)=y at hy ⊢
 rw [d3g y]
 have hs:y >>> 9 < 2 ^ 16:=by rw [Nat.shiftRight_eq_div_pow];omega
 rw [a3p y (y >>> 9) (by omega) (by omega)]
 have hz:y ^^^ (y >>> 9) < 2 ^ 16:=Nat.xor_lt_two_pow hy hs
 generalize y ^^^ (y >>> 9)=z at hz ⊢
 rw [c3a z 8 (by omega) (by omega),a3p z (z*2 ^ 8) (by omega) (by omega)]
 have hz2:z ^^^ z*2 ^ 8 < 2 ^ 32:=Nat.xor_lt_two_pow (by omega) (by omega)
 rw [a8g (z ^^^ z*2 ^ 8) 65535 (by omega) (by omega),a8g (z*2 ^ 8) 65535 (by omega) (by omega)]
 rw [a3p z (z*2 ^ 8 &&& 65535) (by omega) (by have:=hd (z*2 ^ 8);omega),Nat.and_xor_distrib_right,hm z hz]
theorem zD (a n:Int):aD a n=eT a n:=by
 unfold aD eT;rw [c8s]
theorem uK (w:Wheel):aI w=bV w:=by rw [eB,a3q]
theorem d0n {a:Int} (h0:0≤a) (h1:a≤2147483647):IntKind.i64.wrap (Int.tdiv a 8)=a / 8:=by
 rw [Int.tdiv_eq_ediv_of_nonneg h0]
 exact Go.Ev.wrap_small (by omega) (by omega)
theorem d8f (a b:Int):(a==b)=decide (a=b):=by by_cases h:a=b <;> simp [h]
theorem d7b (a b:Int):(a != b)=!decide (a=b):=by by_cases h:a=b <;> simp [h,bne]
theorem b3n (w:Wheel) (h0:0≤w.Now) (h1:w.Now≤2147483647) (p q k:Int) (hpq:(p=1∧q=0)∨(p=2∧q=1)∨(p=3∧q=2∧k=0)):lI w p k=rX w q k:=by
 funext i s a
 unfold lI rX
 rw [Go.Ev.wrap_small (n:=w.Now+1) (by omega) (by omega),show aO a.Trace 1 999=aM a.Trace 1 999 from rfl]
 by_cases ha:a.At≤w.Now
 · rw [show aO a.At (w.Now+1) 2147483647=false from by unfold aO;rw [decide_eq_false (by omega)];rfl,decide_eq_true ha]
   rfl
 by_cases hb:a.At > 2147483647
 · rw [show aO a.At (w.Now+1) 2147483647=false from by unfold aO;rw [decide_eq_true (by omega),decide_eq_false (by omega)];rfl,decide_eq_true hb,decide_eq_false ha]
   rfl
 rw [show aO a.At (w.Now+1) 2147483647=true from by unfold aO;rw [decide_eq_true (by omega),decide_eq_true (by omega)];rfl,decide_eq_false ha,decide_eq_false hb]
 simp only [Bool.not_true,cond_false]
 congr 2
 unfold bC wT
 rw [d0n (by omega) (by omega),d0n h0 h1,Go.Ev.wrap_small (n:=a.At / 8 - w.Now / 8) (by omega) (by omega),Int.tmod_eq_emod_of_nonneg (by omega),Int.tmod_eq_emod_of_nonneg (by omega)]
 simp only [d8f,d7b]
 unfold aM
 by_cases hr:a.At / 8=w.Now / 8
 · rw [decide_eq_true hr]
   rcases hpq with ⟨rfl,rfl⟩ | ⟨rfl,rfl⟩ | ⟨rfl,rfl,rfl⟩
   · rw [show decide (a.At / 8 - w.Now / 8=0)=true from decide_eq_true (by omega)]
     simp [Step.get]
   · rw [show decide (a.At / 8 - w.Now / 8≥1)=false from decide_eq_false (by omega)]
     simp [Step.get]
   · rw [show decide (a.At / 8 - w.Now / 8≥8)=false from decide_eq_false (by omega)]
     simp [Step.get]
 · rw [decide_eq_false hr]
   by_cases h8:a.At / 8 - w.Now / 8 < 8
   · rw [decide_eq_true h8]
     rcases hpq with ⟨rfl,rfl⟩ | ⟨rfl,rfl⟩ | ⟨rfl,rfl,rfl⟩
     · rw [show decide (a.At / 8 - w.Now / 8=0)=false from decide_eq_false (by omega)]
       simp [Step.get]
     · rw [show decide (a.At / 8 - w.Now / 8≥1)=true from decide_eq_true (by omega),show decide (a.At / 8 - w.Now / 8≤7)=true from decide_eq_true (by omega)]
       simp [Step.get]
     · rw [show decide (a.At / 8 - w.Now / 8≥8)=false from decide_eq_false (by omega)]
       simp [Step.get]
   · rw [decide_eq_false h8]
     rcases hpq with ⟨rfl,rfl⟩ | ⟨rfl,rfl⟩ | ⟨rfl,rfl,rfl⟩
     · rw [show decide (a.At / 8 - w.Now / 8=0)=false from decide_eq_false (by omega)]
       simp [Step.get]
     · rw [show decide (a.At / 8 - w.Now / 8≤7)=false from decide_eq_false (by omega)]
       simp [Step.get]
     · rw [show decide (a.At / 8 - w.Now / 8≥8)=true from decide_eq_true (by omega)]
       simp [Step.get]
theorem d1h {α:Type} [Inhabited α] (key:α→Int) (l:List α) (i:Nat) (hi:i < l.length) {b3:Nat→Unit→Step Unit (Step Unit Bool)} (h3:∀k s,b3 k s=bif (key (l[k]?.getD default)==key l[i]) then .done (.done false) else .next ())
 {b:Nat→Unit→α→Step Unit Int} (hb:∀k s a,b k s a=bif (key a==key l[i]) then .done ((k:Nat):Int) else .next ()) :
 Fin.get (fun _=>(.next ():Step Unit Bool)) (cJ b3 0 () i)=bif (Fin.get (fun _=>(-1:Int)) (aJ b 0 () l) != ((i:Nat):Int)) then .done false else .next ():=by
 rw [a5h (p:=fun a:α=>key a==key l[i]) (r:=fun i=>((i:Nat):Int)) (b:=b) hb]
 cases hf:l.findIdx? (fun a:α=>key a==key l[i]) with
 | none =>
   rw [List.findIdx?_eq_none_iff] at hf
   have:=hf l[i] (List.getElem_mem hi)
   simp at this
 | some j =>
   rw [List.findIdx?_eq_some_iff_getElem] at hf
   obtain ⟨hj,h1,h2⟩:=hf
   rcases b0y (p:=fun k=>key (l[k]?.getD default)==key l[i]) (r:=(Step.done false:Step Unit Bool)) (b:=b3) h3 i 0 with ⟨⟨k,hk,e⟩,h⟩ | ⟨e,h⟩
   · rw [h]
     have hne:j≠i:=by
      intro hji
      rw [Nat.zero_add,List.getElem?_eq_getElem (by omega),Option.getD_some] at e
      exact h2 k (by omega) e
     have hb:((((0+j:Nat):Nat):Int) != ((i:Nat):Int))=true:=by simp;omega
     simp only [Fin.get]
     rw [hb]
     rfl
   · rw [h]
     have he:j=i:=by
      rcases Nat.lt_trichotomy j i with h | h | h
      · have:=e j h
        rw [Nat.zero_add,List.getElem?_eq_getElem hj,Option.getD_some] at this
        rw [this] at h1
        cases h1
      · exact h
      · have:=h2 i h
        simp at this
     have hb:((((0+j:Nat):Nat):Int) != ((i:Nat):Int))=false:=by simp;omega
     simp only [Fin.get]
     rw [hb]
     rfl
theorem b9e (w:Wheel):cM w=qE w:=by
 unfold cM qE
 rw [show aO w.Now 0 2147483647=aM w.Now 0 2147483647 from rfl]
 cases hn:aM w.Now 0 2147483647 with
 | false=>cases (((w.Near.length:Nat):Int) != 8) <;> cases (((w.Far.length:Nat):Int) != 8) <;> rfl
 | true =>
   have hn2:0≤w.Now∧w.Now≤2147483647:=by
    unfold aM at hn
    by_cases h1:w.Now≥0
    · rw [decide_eq_true h1,cond_true] at hn
      exact ⟨h1,of_decide_eq_true hn⟩
    · rw [decide_eq_false h1] at hn;cases hn
   have e1:∀l k,cW w l 1 k=iY w l 0 k:=fun l k=>by unfold cW iY;rw [b3n w hn2.1 hn2.2 1 0 k (.inl ⟨rfl,rfl⟩)]
   have e2:∀l k,cW w l 2 k=iY w l 1 k:=fun l k=>by unfold cW iY;rw [b3n w hn2.1 hn2.2 2 1 k (.inr (.inl ⟨rfl,rfl⟩))]
   have e3:∀l,cW w l 3 0=iY w l 2 0:=fun l=>by unfold cW iY;rw [b3n w hn2.1 hn2.2 3 2 0 (.inr (.inr ⟨rfl,rfl,rfl⟩))]
   have eb:gL w=rZ w:=by
    funext i s
    unfold gL rZ
    rw [e1,e2]
   rw [e3,eb]
   have e4:aJ (iO w) 0 () (aI w)=aJ (rY w) 0 () (bV w):=by
    rw [uK]
    refine b9g _ 0 () fun i hi s=>?_
    rw [Nat.zero_add]
    unfold iO rY wS eJ
    exact d1h Timer.Id (bV w) i hi (b3:=dE w (bV w)[i]) (fun k s=>by unfold dE;rw [uK]) (b:=fU (bV w)[i].Id) (fun _ _ _=>rfl)
   rw [e4,uK]
   rfl
theorem b5m:∀(l:List Stripe) (d e:List Int),e.length=l.length→aJ pD d.length (d++e) l=.fin (d++List.replicate l.length (-1))
 | [],d,e,h=>by
   have:e=[]:=List.eq_nil_of_length_eq_zero h
   subst this
   simp [aJ]
 | a :: l,d,[],h=>by simp at h
 | a :: l,d,x :: e,h=>by
   unfold aJ
   simp only [pD]
   have h1:(d++x :: e).set d.length (-1)=(d++[-1])++e:=by simp
   rw [h1]
   have:=b5m l (d++[-1]) e (by simpa using h)
   simp only [List.length_append,List.length_cons,List.length_nil,Nat.zero_add] at this
   rw [this]
   simp [List.replicate_succ]
theorem b6k {α β γ ρ:Type} {f:α→List β} {g:α→List γ} {b:Nat→List β×List γ→α→Step (List β×List γ) ρ} (hb:∀i s a,b i s a=.next (s.1++f a,s.2++g a)):∀(l:List α) (i:Nat) (s:List β×List γ),aJ b i s l=.fin (s.1++l.flatMap f,s.2++l.flatMap g)
 | [],i,s=>by simp [aJ]
 | a :: l,i,s=>by
   unfold aJ
   rw [hb]
   simp only
   rw [b6k hb l (i+1),List.flatMap_cons,List.flatMap_cons,List.append_assoc,List.append_assoc]
theorem b5j {α β ρ:Type} {p:α→Bool} {r:ρ} {f:α→List β} {b:Nat→List β→α→Step (List β) ρ} (hb:∀i s a,b i s a=bif p a then .next (s++f a) else .done r):∀(l:List α) (i:Nat) (s:List β),aJ b i s l=bif l.all p then .fin (s++l.flatMap f) else .done r
 | [],i,s=>by simp [aJ]
 | a :: l,i,s=>by
   unfold aJ
   rw [hb,List.all_cons]
   cases p a with
   | false=>rfl
   | true =>
     simp only [cond_true,Bool.true_and]
     rw [b5j hb l (i+1),List.flatMap_cons,List.append_assoc]
theorem c8z {α β:Type} (f:α→β) (l:List α):l.flatMap (fun a=>[f a])=l.map f:=by
 induction l with
 | nil=>rfl
 | cons a l ih=>rw [List.flatMap_cons,ih];rfl
def b7x (a:Task):List Timer:=bif (a.Op==2) then (bif (a.Pc != 3) then [Timer.mk a.Stamp a.Trace 0] else []) else []
theorem c5r (w:World):mZ w=((w.St.flatMap (fun x=>x.L)).all (fun t=>((bV w.W++w.Due)++w.Tasks.flatMap b7x).any (fun a=>jL a t)) &&
 !(((bV w.W++w.Due).map Timer.Id++w.Cache.map Verdict.Stamp++w.Tasks.map Task.Stamp++(w.St.flatMap (fun x=>x.L)).map Trail.Stamp).any (fun n=>decide (n≥w.Next)))):=by
 unfold mZ
 rw [yC (f:=fun a:Timer=>[a.Id]) (b:=vS) (fun _ _ _=>rfl)]
 simp only [Fin.get]
 rw [yC (f:=fun a:Verdict=>[a.Stamp]) (b:=vR) (fun _ _ _=>rfl)]
 simp only [Fin.get]
 rw [b6k (f:=b7x) (g:=fun a:Task=>[a.Stamp]) (b:=qR) (fun i s a=>by
  unfold qR b7x
  cases (a.Op==2) <;> cases (a.Pc != 3) <;> simp)]
 simp only [Fin.get]
 rw [b5j (p:=fun t:Trail=>((bV w.W++w.Due)++w.Tasks.flatMap b7x).any (fun a=>jL a t)) (r:=false) (f:=fun a:Trail=>[a.Stamp]) (b:=qQ _) (fun i s a=>by
  unfold qQ dS eD
  rw [a2g (p:=fun x=>jL x a) (b:=fR a) (fun _ _ _=>rfl)]
  cases List.any _ _ <;> rfl),a1m]
 simp only [c8z,List.nil_append]
 cases List.all (w.St.flatMap fun x=>x.L) _ with
 | false=>rfl
 | true =>
   simp only [cond_true,Fin.get,Bool.true_and]
   unfold eK fE
   rw [a2g (p:=fun x=>rW x w) (b:=gF w) (fun _ _ _=>rfl)]
   rfl
theorem c8y {σ ρ:Type} (k:σ→ρ) (s:σ):Step.get k (.next s)=k s:=rfl
theorem get_done {σ ρ:Type} (k:σ→ρ) (r:ρ):Step.get k (.done r)=r:=rfl
theorem c8w (w:World):oE w=true↔rH w.C=true∧¬w.Time < 0∧aM w.RuleHeld (-1) 4=true∧¬w.Next < 1∧nS w.St=true∧((w.St.length:Nat):Int)=w.C.Stripes ∧
 qE w.W=true∧¬w.W.Now > 100000∧(w.Shut=true→¬(((bV w.W).length:Nat):Int) > 0)∧qY w.B=true∧w.B.Rate=w.C.Rate∧w.B.Burst=w.C.Burst∧¬w.B.At > w.W.Now ∧
 qF w.Cache w.C.Cache=true∧w.Used=nT w.St∧¬w.Used > w.C.Budget∧¬((w.Queue.length:Nat):Int) > w.C.Queue∧mJ w.Queue=true∧mJ w.Out=true ∧
 w.Due.all (fun a=>!decide (a.Id < 1)&&aM a.Trace 1 999)=true∧w.Deeds.all (fun a=>nL a&&!decide (max (max a.Inv a.Lin) a.Res≥w.Time))=true∧qB w=true∧mZ w=true:=by
 unfold oE uY vQ
 rw [c3i (p:=fun a:Timer=>!decide (a.Id < 1)&&aM a.Trace 1 999) (b:=qP) (fun i s a=>by unfold qP;cases decide (a.Id < 1) <;> cases aM a.Trace 1 999 <;> rfl),
  c3i (p:=fun a:Deed=>nL a&&!decide (max (max a.Inv a.Lin) a.Res≥w.Time)) (b:=qO w) (fun i s a=>by unfold qO;cases nL a <;> cases decide (max (max a.Inv a.Lin) a.Res≥w.Time) <;> rfl)]
 simp only [d3p,c8y,get_done,bft,bff,d7b,Bool.not_not,Bool.and_true]
 have hs:∀X:Bool,(bif w.Shut then (!decide ((((bV w.W).length:Nat):Int) > 0)&&X) else X)=((!w.Shut||!decide ((((bV w.W).length:Nat):Int) > 0))&&X):=fun X=>by cases w.Shut <;> cases X <;> simp
 rw [hs]
 simp only [Bool.and_eq_true,Bool.or_eq_true,Bool.not_eq_true',decide_eq_true_eq,decide_eq_false_iff_not,and_assoc]
 have hs2:(w.Shut=false∨¬(((bV w.W).length:Nat):Int) > 0)↔(w.Shut=true→¬(((bV w.W).length:Nat):Int) > 0):=by cases w.Shut <;> simp
 rw [hs2]
theorem jA {a b c:Int}:aM a b c=true↔b≤a∧a≤c:=bD (n:=a)
theorem a7s {α:Type} {p:α→Bool} {l:List α} (h:∀x∈l,p x=false):l.any p=false:=by
 rw [List.any_eq_false]
 intro x hx
 rw [h x hx];decide
theorem c3b {l:List Item} (h:∀x∈l,uX x):mJ l=true:=by
 unfold mJ eE eX
 rw [a2g (p:=qC) (b:=gE) (fun _ _ _=>rfl),a7s (fun x hx=>?_)]
 · rfl
 · have:=h x hx
   unfold qC rG
   rw [decide_eq_true (show x.Stamp≥1 from this.1),cond_true,←uL,this.2];rfl
theorem b9y {α:Type} {p:α→Bool} {b:Nat→Unit→α→Step Unit Int} (hb:∀i s a,b i s a=bif p a then .done ((i:Nat):Int) else .next ()):∀(l:List α) (k i:Nat) (hi:i < l.length),(∀j (hj:j < i),p (l[j]'(by omega))=false)→p l[i]=true→aJ b k () l=.done (((k+i:Nat)):Int)
 | a :: l,k,0,_,_,h=>by
   have h:p a=true:=h
   rw [aJ,hb,h];rfl
 | a :: l,k,i+1,hi,hj,h=>by
   have h0:p a=false:=hj 0 (Nat.zero_lt_succ _)
   have:=b9y hb l (k+1) i (Nat.lt_of_succ_lt_succ hi) (fun j hj'=>hj (j+1) (Nat.succ_lt_succ hj')) h
   rw [aJ,hb,h0]
   show aJ b (k+1) () l=_
   rw [this,show k+1+i=k+(i+1) by omega]
theorem d4d {next most:Int} {l:List Verdict} (h:CaV next most l):qF l most=true:=by
 unfold qF
 rw [wA (P:=fun i a=>(aM a.Trace 1 999=true∧1≤a.Stamp)∧nQ l a.Trace=((i:Nat):Int)) (fun i a ha=>?_) (fun i a ha=>?_)]
 · refine ⟨fun j hj=>?_,decide_eq_true h.n⟩
   have hv:=h.v _ (List.getElem_mem hj)
   refine ⟨⟨jA.2 hv.1,hv.2.1⟩,?_⟩
   unfold nQ dJ
   rw [b9y (p:=fun x=>lN x l[j].Trace) (b:=eW l[j].Trace) (fun _ _ _=>rfl) l 0 j hj (fun k hk=>?_) (by unfold lN;simp)]
   · rfl
   · have hp:=List.pairwise_iff_getElem.1 (List.nodup_iff_pairwise_ne.1 h.u) k j (by simp;omega) (by simpa using hj) hk
     unfold lN
     simpa using hp
 · unfold sG
   rw [ha.1.1,Bool.not_true,cond_false,decide_eq_false (by omega),cond_false,ha.2,show ((((i:Nat):Int)) != ((i:Nat):Int))=false by simp,cond_false]
 · unfold sG
   cases h1:aM a.Trace 1 999 with
   | false=>rfl
   | true =>
     by_cases h2:a.Stamp < 1
     · rw [decide_eq_true h2];rfl
     · rw [decide_eq_false h2]
       cases h3:(nQ l a.Trace != ((i:Nat):Int)) with
       | true=>rfl
       | false=>exact absurd ⟨⟨h1,by omega⟩,by simpa using h3⟩ ha
theorem a7t (S:List Stripe):S.flatMap (fun x=>x.L)=bW S:=by
 unfold bW
 induction S with
 | nil=>rfl
 | cons a l ih=>rw [List.flatMap_cons,List.map_cons,List.flatMap_cons,ih];rfl
theorem d6k {now next b:Int} {S:List Stripe} (h:StV now next S) (hb:aY byT (bW S)≤b) (hb2:b≤190):nT S=aY byT (bW S):=by
 have nn:∀t∈bW S,0≤byT t:=fun t ht=>b3d (h.tv t ht).1
 have hs:=a0g nn
 unfold nT
 rw [a1m,a7t]
 have hby:∀t∈bW S,tA t=byT t:=fun t ht=>by
  have:=c3c nn ht
  have n0:=nn t ht
  rw [←b3c (t:=t) (by omega)]
  unfold tA wU kU sL
  have e:sE=pA:=by
   funext i s a
   unfold sE pA
   rw [a2w]
  rw [e]
 rw [xC (f:=byT) (b:=pS) (bW S) 0 0 (Go.Ev.wrap_small (by omega) (by omega)) (fun i s a ha _=>by unfold pS;rw [hby a ha])]
 show IntKind.i64.wrap (0+aY byT (bW S))=_
 rw [Go.Ev.wrap_small (by omega) (by omega)];omega
theorem d1i {now next:Int} {t:Trail} (h:TrV now next t) (hn:now≤2147483647):sZ t=true:=by
 unfold sZ
 rw [wA (P:=fun _ a=>kR a=true∧a.Trace=t.Id) (fun i a ha=>?_) (fun i a ha=>?_)]
 · refine ⟨fun j hj=>?_,?_⟩
   · have:=h.sp _ (List.getElem_mem hj)
     rw [←uL];exact this
   · have h1:=h.fi
     have h2:=List.length_pos_iff.2 h.ne
     rw [jA.2 h.id,cond_true,decide_eq_true (show t.Stamp≥1 from h.st.1),cond_true,jA.2 (by omega),cond_true]
     exact decide_eq_true (by omega)
 · unfold sD
   rw [ha.1,Bool.not_true,cond_false,show (a.Trace != t.Id)=false by simp [ha.2],cond_false]
 · unfold sD
   cases h1:kR a with
   | false=>rfl
   | true =>
     cases h2:(a.Trace != t.Id) with
     | true=>rfl
     | false=>exact absurd ⟨h1,by simpa using h2⟩ ha
theorem c4x {l:List Int} {x:Int} (h:x ∉ l):fC l x=false:=by
 unfold fC mS
 rw [a2g (p:=fun a=>x==a) (b:=oA x) (fun _ _ _=>rfl)]
 refine a7s (fun y hy=>?_)
 have:x≠y:=fun e=>h (by rw [e];exact hy)
 simpa using this
end Go.Proofs.Tryz.Ev
