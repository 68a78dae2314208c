import Derived.Test.YtdjlkhhgaaddpaaGreatLToldWalk
set_option linter.unusedSectionVars false
namespace Go.Proofs.Tryz.Ev
open Go Go.Ev Go.Proofs
set_option maxHeartbeats 4000000
set_option maxRecDepth 100000
set_option linter.unusedSimpArgs false
set_option linter.unusedVariables false
set_option linter.unusedSectionVars false
theorem tZ (p0:Wheel) (hs:Wheel.bd 1024 p0):FnOk prog 186 [.agg ((Wheel.cells false) p0)] ⟨.one (.v (.bool (cM p0))),[],[],false⟩:=by
 refine FnOk.intro (E:=env) aK aS func186 rfl (by kernel_rfl) rfl rfl ?_
 have hg:=cM.eq_1 p0
 have hown:=dP
 exact aA (aB (m:=0) rfl (aA (aA (bJ fun hN1=>yA hg (fun hg h2=>bJ fun hN3=>yA hg (fun hg h4=>.inl (⟨_,_,cR p0.Now 0 2147483647,(FzAs.same _),aB (m:=2) rfl (brF hg (fun hg h5=>.inl (⟨_,_,zK p0 p0.Rest 3 0,(FzAs.same _),aB (m:=3) rfl (brE hg (fun hg h6=>aA (aE hown hg)) (fun hg h6=>aA (aA (a0w hg [1] (fun x1=>[(3,.one (.v (.int .i64 ((x1.i:Nat):Int))))]) (fun x1=>[.keep 0,.dead,.dead]) [some 0,none,none] ((by repeat' constructor)) (fun x1=>aA (aA (a4j (fun hi1=>have hb1:=(x1.bdy hi1).trans (gL.eq_1 ..);have hw1:=zQ hi1;aA (aA (.inl ⟨by kernel_rfl,lA (l:=p0.Near) (by (omega)) (fun hq7=>⟨_,_,zK p0 (p0.Near[x1.i]?.getD default) 1 ((x1.i:Nat):Int),(FzAs.same _),brF hb1 (fun hb1 h8=>lA (l:=p0.Far) (by (omega)) (fun hq9=>⟨_,_,zK p0 (p0.Far[x1.i]?.getD default) 2 ((x1.i:Nat):Int),(FzAs.same _),brE hb1 (fun hb1 h10=>aA (have hg:=cQ hg (x1.outD hi1 hb1);aE hown hg)) (fun hb1 h10=>x1.goE hi1 hb1 [some 0,none,none] ⟨rfl,⟨(bA hw1),⟨rfl,rfl,rfl,rfl⟩,trivial⟩,(by repeat' constructor),trivial⟩)⟩)) (fun hb1 h8=>aA (have hg:=cQ hg (x1.outD hi1 hb1);aE hown hg))⟩)⟩))) (fun hi1=>have hg:=bZ hg (x1.fin hi1);aA (.inl (⟨_,_,vE p0 (by exact hs),(FzAs.same _),aB (m:=4) rfl (aA (aA (dW hg [4] (fun x2=>[(5,.one (.v (.int .i64 ((x2.i:Nat):Int))))]) (fun x2=>[.dead,.dead,.dead,.dead,.keep 4]) [none,none,none,none,some 4] ((by repeat' constructor)) (fun x2=>aA (aA (kD (k:=((aI p0)).length) (by simp) (fun hN11=>cT (fun hi2=>have hb2:=(x2.bdy hi2).trans (iO.eq_1 ..);have hw2:=aT hi2 (by assumption);aA (aA (a0w hb2 [4,5] (fun x3=>[(6,.one (.v (.int .i64 ((x3.i:Nat):Int))))]) (fun x3=>[.dead,.dead,.dead,.dead,.keep 4]) [none,none,none,none,some 4] ((by repeat' constructor)) (fun x3=>aA (aA (cT (fun hi3=>have hb3:=(x3.bdy hi3).trans (dE.eq_1 ..);have hw3:=aT hi3 (by omega);aA (aA (.inl ⟨by kernel_rfl,bK (by ((simp (disch:=omega) only [wrap_small,eS,List.length_map];omega))) (cZ (i:=x3.i) (l:=(aI p0)) (by exact Nat.zero_add _) (fun hq12=>bK (by ((simp (disch:=omega) only [wrap_small,eS,List.length_map];omega))) (a0r (i:=x2.i) (l:=(aI p0)) (by exact Nat.zero_add _) hi2 (brQ hb3 (fun hb3 h13=>aA (have hb2:=cQ hb2 (x3.outD hi3 hb3);have hg:=cQ hg (x2.outD hi2 hb2);aE hown hg)) (fun hb3 h13=>x3.goE hi3 hb3 [none,none,none,none,some 4] ⟨rfl,⟨(bA hw3),⟨rfl,rfl,rfl,rfl,by (rfl)⟩,rfl,trivial⟩,⟨⟨rfl,rfl,rfl⟩,trivial⟩,trivial⟩)))))⟩))) (fun hi3=>have hb2:=bZ hb2 (x3.fin hi3);x2.goE hi2 hb2 [none,none,none,none,some 4] ⟨rfl,⟨(bA hw2),⟨rfl,rfl,rfl,rfl,by (rfl)⟩,trivial⟩,⟨⟨rfl,rfl,rfl⟩,trivial⟩,trivial⟩))))))) (fun hi2=>have hg:=bZ hg (x2.fin hi2);aA (kD (k:=((aI p0)).length) (by simp) (fun hN14=>aE hown hg))))))))))⟩))))))))))⟩)) (fun hg h5=>aA (aE hown hg)))⟩)) (fun hg h4=>aA (aE hown hg))) (fun hg h2=>aA (aE hown hg))))))
theorem pH {w:Wheel} (h:cM w=true):w.Near.length=8∧w.Far.length=8∧0≤w.Now∧w.Now≤2147483647:=by
 unfold cM at h
 cases k1:((((w.Near).length:Nat):Int) != 8) with
 | true=>rw [k1,cond_true] at h;cases h
 | false =>
   rw [k1,cond_false] at h
   cases k2:((((w.Far).length:Nat):Int) != 8) with
   | true=>rw [k2,cond_true] at h;cases h
   | false =>
     rw [k2,cond_false] at h
     cases k3:aO w.Now 0 2147483647 with
     | false=>rw [k3,Bool.not_false,cond_true] at h;cases h
     | true =>
       have e1:(((w.Near).length:Nat):Int)=8:=by simpa using k1
       have e2:(((w.Far).length:Nat):Int)=8:=by simpa using k2
       have e3:0≤w.Now∧w.Now≤2147483647:=by
        unfold aO at k3
        simpa using k3
       exact ⟨by omega,by omega,e3.1,e3.2⟩
structure WhOk (w:Wheel):Prop where
 nl:w.Near.length=8
 fl:w.Far.length=8
 now:0≤w.Now∧w.Now≤2147483647
 near:∀j:Nat,j < 8→∀t∈w.Near[j]?.getD default,SlotT w.Now 1 (j:Int) t
 far:∀j:Nat,j < 8→∀t∈w.Far[j]?.getD default,SlotT w.Now 2 (j:Int) t
 rest:∀t∈w.Rest,SlotT w.Now 3 0 t
 len:(aI w).length≤16
theorem gZ {w:Wheel} (h:cM w=true):WhOk w:=by
 obtain ⟨k1,k2,k3,k4⟩:=pH h
 unfold cM at h
 rw [show ((((w.Near).length:Nat):Int) != 8)=false by simp;omega,cond_false,show ((((w.Far).length:Nat):Int) != 8)=false by simp;omega,cond_false,bD.2 ⟨k3,k4⟩,Bool.not_true,cond_false] at h
 cases hr:cW w w.Rest 3 0 with
 | false=>rw [hr] at h;cases h
 | true =>
   rw [hr,Bool.not_true,cond_false] at h
   obtain ⟨q1,v,_,q2⟩:=zW (P:=fun j=>cW w (w.Near[j]?.getD default) 1 (j:Int)=true∧cW w (w.Far[j]?.getD default) 2 (j:Int)=true) (fun i s r=>by
    unfold gL
    exact dO (fun _ e=>by cases e;rfl) (fun _=>dO (fun _ e=>by cases e;rfl) (fun _ e=>by cases e))) (fun i s v=>by
    unfold gL
    exact dO (fun _ e=>by cases e) (fun _=>dO (fun _ e=>by cases e) (fun _ e=>by cases e))) (fun i s v=>by
    unfold gL
    exact dO (fun _ e=>by cases e) (fun h1=>dO (fun _ e=>by cases e) (fun h2 _=>⟨by simpa using h1,by simpa using h2⟩))) _ _ _ h
   have q3:(aI w).length≤16:=by
    obtain ⟨_,v2,_,q4⟩:=zV (P:=fun _=>True) (fun i s a r=>by
     unfold iO
     intro e
     have key:∀(n i:Nat),(∃u,cJ (dE w a) i () n=.fin u)∨cJ (dE w a) i () n=.done (.done false):=by
      intro n
      induction n with
      | zero=>intro i;exact .inl ⟨(),rfl⟩
      | succ n ih =>
        intro i
        unfold cJ
        have:dE w a i ()=.next ()∨dE w a i ()=.done (.done false):=by unfold dE;exact aH (P:=fun z:Step Unit (Step Unit Bool)=>z=Step.next ()∨z=Step.done (Step.done false)) (fun _=>.inr rfl) (fun _=>.inl rfl)
        rcases this with e | e <;> rw [e]
        · exact ih (i+1)
        · exact .inr rfl
     rcases key i 0 with ⟨u,e'⟩ | e' <;> rw [e'] at e <;> cases e
     rfl) (fun i s a v=>by
     unfold iO
     intro e
     have key:∀(n i:Nat),(∃u,cJ (dE w a) i () n=.fin u)∨cJ (dE w a) i () n=.done (.done false):=by
      intro n
      induction n with
      | zero=>intro i;exact .inl ⟨(),rfl⟩
      | succ n ih =>
        intro i
        unfold cJ
        have:dE w a i ()=.next ()∨dE w a i ()=.done (.done false):=by unfold dE;exact aH (P:=fun z:Step Unit (Step Unit Bool)=>z=Step.next ()∨z=Step.done (Step.done false)) (fun _=>.inr rfl) (fun _=>.inl rfl)
        rcases this with e | e <;> rw [e]
        · exact ih (i+1)
        · exact .inr rfl
     rcases key i 0 with ⟨u,e'⟩ | e' <;> rw [e'] at e <;> cases e) (fun _ _ _ _ _=>trivial) _ _ _ q2
    rw [decide_eq_true_eq] at q4
    omega
   exact ⟨k1,k2,⟨k3,k4⟩,fun j hj=>a9g (q1 j (Nat.zero_le _) (by show j < 0+8;omega)).1,fun j hj=>a9g (q1 j (Nat.zero_le _) (by show j < 0+8;omega)).2,a9g hr,q3⟩
theorem nO {w:Wheel} (h:WhOk w):Wheel.bd 16 w:=by
 have hl:=h.len
 rw [eB,List.length_append,List.length_append] at hl
 refine ⟨⟨by have:=h.nl;omega,fun l hm=>⟨by have:=wQ hm;omega,fun _ _=>trivial⟩⟩,⟨by have:=h.fl;omega,fun l hm=>⟨by have:=wQ hm;omega,fun _ _=>trivial⟩⟩,⟨by omega,fun _ _=>trivial⟩⟩
theorem t8 {x:Int} (h:0≤x):0≤Int.tmod x 8∧Int.tmod x 8 < 8:=⟨Int.tmod_nonneg 8 h,Int.tmod_lt_of_pos x (by omega)⟩
theorem sK {n:Int} (h0:0≤n) (h1:n≤2147483647):(0≤Int.tmod (IntKind.i64.wrap (n+1)) 8∧Int.tmod (IntKind.i64.wrap (n+1)) 8 < 8)∧0≤Int.tmod (IntKind.i64.wrap (Int.tdiv (IntKind.i64.wrap (n+1)) 8)) 8∧Int.tmod (IntKind.i64.wrap (Int.tdiv (IntKind.i64.wrap (n+1)) 8)) 8 < 8:=by
 rw [wrap_small (n:=n+1) (by omega) (by omega)]
 have td:0≤Int.tdiv (n+1) 8:=Int.tdiv_nonneg (by omega) (by omega)
 have te:Int.tdiv (n+1) 8≤n+1:=by rw [Int.tdiv_eq_ediv_of_nonneg (by omega)];omega
 rw [wrap_small (n:=Int.tdiv (n+1) 8) (by omega) (by omega)]
 exact ⟨t8 (by omega),t8 td⟩
theorem d1g {w:Wheel} (h:WhOk w) (k:Nat):∀t∈(w.Far[k]?.getD default)++w.Rest,0≤t.At∧t.At≤2147483647:=by
 have hn:=h.now
 have key:∀{p q:Int} {t:Timer},SlotT w.Now p q t→0≤t.At∧t.At≤2147483647:=fun s=>by
  have:=s.at'
  rw [wrap_small (n:=w.Now+1) (by omega) (by omega)] at this
  omega
 intro t ht
 rcases List.mem_append.1 ht with ht | ht
 · by_cases hk:k < 8
   · exact key (h.far k hk t ht)
   · have:w.Far[k]?=none:=List.getElem?_eq_none (by have:=h.fl;omega)
     rw [this] at ht;cases ht
 · exact key (h.rest t ht)
def fG (p0:Wheel) (p1:Timer):Wheel :=
 (bif ((bC p0.Now p1.At).1==1) then { p0 with Near:=(List.set p0.Near ((bC p0.Now p1.At).2).toNat ((p0.Near[((bC p0.Now p1.At).2).toNat]?.getD default)++[p1])) } else (bif ((bC p0.Now p1.At).1==2) then { p0 with Far:=(List.set p0.Far ((bC p0.Now p1.At).2).toNat ((p0.Far[((bC p0.Now p1.At).2).toNat]?.getD default)++[p1])) } else { p0 with Rest:=(p0.Rest++[p1]) }))
theorem gP {n:Nat} {l:List (List Timer)} (h:bdS (bdS Timer.bd) n l) (k:Nat):(l[k]?.getD default).length≤n:=by
 cases hk:l[k]? with
 | none=>exact Nat.zero_le _
 | some x=>exact (h.2 x (List.mem_of_getElem? hk)).1
theorem a7i (p0:Wheel) (p1:Timer) (hs:Wheel.bd 1048576 p0∧p0.Near.length=8∧p0.Far.length=8∧0≤p1.At∧p1.At≤9223372036854775807):FnOk prog 187 [.tup [.one (.b (Wheel.cv none none none p0))],.agg (Timer.cells p1)] ⟨.tup [],[.one (.b (Wheel.cv none none none (fG p0 p1)))],[],false⟩:=by
 refine FnOk.introV (E:=env) aK aS func187 rfl (by kernel_rfl) rfl ?_
 have hg:=fG.eq_1 p0 p1
 have hown:(false=false→∀g:Wheel,AV.Own (AV.tup []))∧(fun g:Wheel=>Wheel.cv none none none g)=_∧(fun g:Wheel=>AV.tup [])=_:=⟨fun _ g=>trivial,rfl,rfl⟩
 refine aA (aB (m:=5) rfl (aA (.inr (.inl ⟨(.seg 12 12 (.q 0 (.q 1 (.q 2 (.q 3 (.q 4 (.q 5 (.o 6 (.o 7 (.s 8 (.s 9 (.o 10 (.o 11 .leaf)))))))))))) .done),by kernel_rfl,⟨_,_,a3y p0.Now p1.At,(FzAs.same _),aB (m:=7) rfl (aA (aA (brQ hg (fun hg h1=>?_) (fun hg h1=>?_))))⟩⟩))))
 · refine .inr (.inr ⟨(.q 0 (.q 4 (.q 5 (.q 9 (.z 1 (.z 2 (.z 3 (.z 6 (.z 7 (.z 8 (.z 10 (.z 11 (.m 12 [1,2,3,6,7,8,10,11] (.m 13 [1,2,3,6,7,8,10,11] (.m 14 [1,2,3] (.m 15 [] (.m 16 [] .leaf))))))))))))))))),by kernel_rfl,bK (by have k1:=hs.2.1;have k2:=hs.2.2.1;have k3:=iX (now:=p0.Now) hs.2.2.2.1 hs.2.2.2.2;(simp only [List.length_map,List.length_set];omega)) (cZ (i:=((bC p0.Now p1.At).2).toNat) (l:=p0.Near) (by exact Nat.zero_add _) (fun hq2=>And.intro (And.intro (⟨rfl,rfl⟩) (And.intro (⟨rfl,rfl⟩) (And.intro (⟨rfl,rfl⟩) (And.intro (⟨rfl,rfl⟩) (And.intro (⟨rfl,rfl⟩) (And.intro (⟨rfl,rfl⟩) (And.intro (bK (by have k1:=hs.2.1;have k2:=hs.2.2.1;have k3:=iX (now:=p0.Now) hs.2.2.2.1 hs.2.2.2.2;(simp only [List.length_map,List.length_set];omega)) (⟨rfl,rfl⟩)) (And.intro (cZ (i:=((bC p0.Now p1.At).2).toNat) (l:=p0.Near) (by exact Nat.zero_add _) (fun hq3=>⟨rfl,rfl⟩)) trivial)))))))) (.inl (aB (m:=7) rfl (And.intro (And.intro (⟨rfl,rfl⟩) (And.intro (⟨rfl,rfl⟩) (And.intro (⟨rfl,rfl⟩) (And.intro (⟨rfl,rfl⟩) (And.intro (⟨rfl,rfl⟩) (And.intro (⟨rfl,rfl⟩) (And.intro (bK (by have k1:=hs.2.1;have k2:=hs.2.2.1;have k3:=iX (now:=p0.Now) hs.2.2.2.1 hs.2.2.2.2;(simp only [List.length_map,List.length_set];omega)) (⟨rfl,rfl⟩)) (And.intro (cZ (i:=((bC p0.Now p1.At).2).toNat) (l:=p0.Near) (by exact Nat.zero_add _) (fun hq3=>⟨rfl,rfl⟩)) trivial)))))))) (.inr (.inr (.inr (cZ (i:=((bC p0.Now p1.At).2).toNat) (l:=p0.Near) (by exact Nat.zero_add _) (fun hq3=>aB (m:=9) rfl (.inl (aV (Y:=List.map Timer.cells ((p0.Near[((bC p0.Now p1.At).2).toNat]?.getD default)++[p1])) (by simp [bX,bP,-List.map_take,-List.map_drop,-List.drop_one,aQ,aR,bR,bS,bY bR,fH bS];rfl) (cS (b:=24) (hs:=by have k1:=hs.2.1;have k2:=hs.2.2.1;have k3:=iX (now:=p0.Now) hs.2.2.2.1 hs.2.2.2.2;have k4:=hs.1.2.2.1;(try have k5:=gP hs.1.1 (bC p0.Now p1.At).2.toNat);(try have k6:=gP hs.1.2.1 (bC p0.Now p1.At).2.toNat);refine ⟨?_,?_⟩;(show List.length _*24≤_);(try simp only [LN]);omega;(try simp only [LN]);omega) ?_)))))))))))))⟩)
   refine aB (m:=10) rfl (And.intro (And.intro (⟨rfl,rfl⟩) (And.intro (⟨rfl,rfl⟩) (And.intro (⟨rfl,rfl⟩) trivial))) (bK (by have k1:=hs.2.1;have k2:=hs.2.2.1;have k3:=iX (now:=p0.Now) hs.2.2.2.1 hs.2.2.2.2;(simp only [List.length_map,List.length_set];omega)) (And.intro trivial (.inl (aV (Y:=List.map (cSl true 3 Timer.cells) (List.set p0.Near ((bC p0.Now p1.At).2).toNat ((p0.Near[((bC p0.Now p1.At).2).toNat]?.getD default)++[p1]))) (by exact (a0e (f:=(cSl true 3 Timer.cells)) (fun _=>(by decide:0 < 1))).trans (dC (by simp) (fun a ha=>by rfl))) ?_)))))
   exact And.intro trivial (bO hown hg)
 · refine aA (brQ hg (fun hg h4=>?_) (fun hg h4=>?_))
   · refine .inr (.inr ⟨(.q 0 (.q 4 (.q 5 (.q 9 (.z 1 (.z 2 (.z 3 (.z 6 (.z 7 (.z 8 (.z 10 (.z 11 (.m 12 [1,2,3,6,7,8,10,11] (.m 13 [1,2,3,6,7,8,10,11] (.m 14 [1,2,3] (.m 15 [] (.m 16 [] .leaf))))))))))))))))),by kernel_rfl,bK (by have k1:=hs.2.1;have k2:=hs.2.2.1;have k3:=iX (now:=p0.Now) hs.2.2.2.1 hs.2.2.2.2;(simp only [List.length_map,List.length_set];omega)) (cZ (i:=((bC p0.Now p1.At).2).toNat) (l:=p0.Far) (by exact Nat.zero_add _) (fun hq5=>And.intro (And.intro (⟨rfl,rfl⟩) (And.intro (⟨rfl,rfl⟩) (And.intro (⟨rfl,rfl⟩) (And.intro (⟨rfl,rfl⟩) (And.intro (⟨rfl,rfl⟩) (And.intro (⟨rfl,rfl⟩) (And.intro (bK (by have k1:=hs.2.1;have k2:=hs.2.2.1;have k3:=iX (now:=p0.Now) hs.2.2.2.1 hs.2.2.2.2;(simp only [List.length_map,List.length_set];omega)) (⟨rfl,rfl⟩)) (And.intro (cZ (i:=((bC p0.Now p1.At).2).toNat) (l:=p0.Far) (by exact Nat.zero_add _) (fun hq6=>⟨rfl,rfl⟩)) trivial)))))))) (.inl (aB (m:=7) rfl (And.intro (And.intro (⟨rfl,rfl⟩) (And.intro (⟨rfl,rfl⟩) (And.intro (⟨rfl,rfl⟩) (And.intro (⟨rfl,rfl⟩) (And.intro (⟨rfl,rfl⟩) (And.intro (⟨rfl,rfl⟩) (And.intro (bK (by have k1:=hs.2.1;have k2:=hs.2.2.1;have k3:=iX (now:=p0.Now) hs.2.2.2.1 hs.2.2.2.2;(simp only [List.length_map,List.length_set];omega)) (⟨rfl,rfl⟩)) (And.intro (cZ (i:=((bC p0.Now p1.At).2).toNat) (l:=p0.Far) (by exact Nat.zero_add _) (fun hq6=>⟨rfl,rfl⟩)) trivial)))))))) (.inr (.inr (.inr (cZ (i:=((bC p0.Now p1.At).2).toNat) (l:=p0.Far) (by exact Nat.zero_add _) (fun hq6=>aB (m:=9) rfl (.inl (aV (Y:=List.map Timer.cells ((p0.Far[((bC p0.Now p1.At).2).toNat]?.getD default)++[p1])) (by simp [bX,bP,-List.map_take,-List.map_drop,-List.drop_one,aQ,aR,bR,bS,bY bR,fH bS];rfl) (cS (b:=24) (hs:=by have k1:=hs.2.1;have k2:=hs.2.2.1;have k3:=iX (now:=p0.Now) hs.2.2.2.1 hs.2.2.2.2;have k4:=hs.1.2.2.1;(try have k5:=gP hs.1.1 (bC p0.Now p1.At).2.toNat);(try have k6:=gP hs.1.2.1 (bC p0.Now p1.At).2.toNat);refine ⟨?_,?_⟩;(show List.length _*24≤_);(try simp only [LN]);omega;(try simp only [LN]);omega) ?_)))))))))))))⟩)
     refine aB (m:=10) rfl (And.intro (And.intro (⟨rfl,rfl⟩) (And.intro (⟨rfl,rfl⟩) (And.intro (⟨rfl,rfl⟩) trivial))) (bK (by have k1:=hs.2.1;have k2:=hs.2.2.1;have k3:=iX (now:=p0.Now) hs.2.2.2.1 hs.2.2.2.2;(simp only [List.length_map,List.length_set];omega)) (And.intro trivial (.inl (aV (Y:=List.map (cSl true 3 Timer.cells) (List.set p0.Far ((bC p0.Now p1.At).2).toNat ((p0.Far[((bC p0.Now p1.At).2).toNat]?.getD default)++[p1]))) (by exact (a0e (f:=(cSl true 3 Timer.cells)) (fun _=>(by decide:0 < 1))).trans (dC (by simp) (fun a ha=>by rfl))) ?_)))))
     exact And.intro trivial (bO hown hg)
   · refine .inr (.inl ⟨(.pre 0 (.pre 1 (.seg 7 5 (.q 2 (.q 3 (.q 4 (.q 5 (.o 6 .leaf))))) (.tail 7)))),by kernel_rfl,.inl (aB (m:=7) rfl (.inl (aV (Y:=List.map Timer.cells (p0.Rest++[p1])) (by simp [bX,bP,-List.map_take,-List.map_drop,-List.drop_one,aQ,aR,bR,bS,bY bR,fH bS];rfl) (cS (b:=24) (hs:=by have k1:=hs.2.1;have k2:=hs.2.2.1;have k3:=iX (now:=p0.Now) hs.2.2.2.1 hs.2.2.2.2;have k4:=hs.1.2.2.1;(try have k5:=gP hs.1.1 (bC p0.Now p1.At).2.toNat);(try have k6:=gP hs.1.2.1 (bC p0.Now p1.At).2.toNat);refine ⟨?_,?_⟩;(show List.length _*24≤_);(try simp only [LN]);omega;(try simp only [LN]);omega) ?_))))⟩)
     exact aB (m:=8) rfl (bO hown hg)
theorem c1e {n:Nat} {l:List (List Timer)} {k:Nat} {x:List Timer} (h:bdS (bdS Timer.bd) n l) (hx:x.length≤n+1):bdS (bdS Timer.bd) (n+1) (l.set k x) :=
 ⟨by have:=h.1;simp;omega,fun y hy=>by
   rcases List.mem_or_eq_of_mem_set hy with hy | rfl
   · exact yI (Nat.le_succ n) _ (h.2 y hy)
   · exact ⟨hx,fun _ _=>trivial⟩⟩
theorem a4z {n:Nat} {w:Wheel} {t:Timer} (h:Wheel.bd n w):Wheel.bd (n+1) (fG w t):=by
 have hm:=dL (Nat.le_succ n) h
 have q:=gP h.1 (bC w.Now t.At).2.toNat
 have q2:=gP h.2.1 (bC w.Now t.At).2.toNat
 unfold fG
 refine aH (P:=fun z:Wheel=>Wheel.bd (n+1) z) (fun _=>⟨c1e h.1 (by simp only [List.length_append,List.length_cons,List.length_nil];omega),hm.2.1,hm.2.2⟩) (fun _=>aH (P:=fun z:Wheel=>Wheel.bd (n+1) z) (fun _=>⟨hm.1,c1e h.2.1 (by simp only [List.length_append,List.length_cons,List.length_nil];omega),hm.2.2⟩) (fun _=>⟨hm.1,hm.2.1,?_⟩))
 exact ⟨by have:=h.2.2.1;show (w.Rest++[t]).length≤n+1;simp only [List.length_append,List.length_cons,List.length_nil];omega,fun _ _=>trivial⟩
theorem c6e (w:Wheel) (t:Timer):(fG w t).Near.length=w.Near.length∧(fG w t).Far.length=w.Far.length:=by
 unfold fG
 refine aH (P:=fun z:Wheel=>z.Near.length=w.Near.length∧z.Far.length=w.Far.length) (fun _=>⟨by simp,rfl⟩) (fun _=>aH (P:=fun z:Wheel=>z.Near.length=w.Near.length∧z.Far.length=w.Far.length) (fun _=>⟨rfl,by simp⟩) (fun _=>⟨rfl,rfl⟩))
def iW (p0:Wheel) (p1:Timer):(Wheel×Bool) :=
 (bif (!(cM p0)) then ((aP p0),false) else (bif (decide (p1.At≤p0.Now)) then ((aP p0),false) else (bif (decide (p1.At > 2147483647)) then ((aP p0),false) else (aZ (fG (aP p0) p1) fun (v1:Wheel)=>(bif (!(cM v1)) then ((aP p0),false) else (v1,true))))))
theorem b2n (p0:Wheel) (p1:Timer) (hs:Wheel.bd 512 p0):FnOk prog 197 [.agg ((Wheel.cells false) p0),.agg (Timer.cells p1)] ⟨.tup [.agg ((Wheel.cells true) (iW p0 p1).1),.one (.v (.bool (iW p0 p1).2))],[],[],false⟩:=by
 refine FnOk.intro (E:=env) aK aS func197 rfl (by kernel_rfl) rfl rfl ?_
 have hg:=iW.eq_1 p0 p1
 have hown:∀g:(Wheel×Bool),AV.Own (AV.tup [.agg ((Wheel.cells true) g.1),.one (.v (.bool g.2))]):=fun g=>⟨vX _,.v _,trivial⟩
 exact aA (aB (m:=0) rfl (aB (m:=1) rfl (aB (m:=2) rfl (aA (.inl (⟨_,_,(FnOk.conv (.one (.agg (Wheel.cvo _)) (fun _ h=>by cases h) (fun _ h=>by cases h)) (oU p0 (by exact dL (by omega) hs))),(FzAs.same _),aB (m:=4) rfl (aB (m:=7) rfl (aA (aA (.inl (⟨_,_,tZ p0 (by exact dL (by omega) hs),(FzAs.same _),aB (m:=9) rfl (brF hg (fun hg h1=>nC hg (fun hg h2=>brD hg (fun hg h3=>aA (aE hown hg)) (fun hg h3=>aA (.inr ⟨0,[],fun us4 hu4=>⟨_,(.same _),_,_,_,_,_,a7i (aP p0) p1 (by have k:=pH (w:=p0) (by simp_all);rw [cG];exact ⟨dL (by omega) hs,k.1,k.2.1,by have:=k.2.2.1;omega,by omega⟩),(FzAs.same _),(.same _),trivial,Wheel,(fG (aP p0) p1),(fun g=>Wheel.cv none none none g),(fun g=>.tup []),rfl,rfl,fun v1 hvv1=>aB (m:=10) rfl (aB (m:=13) rfl (have hg:=bG hvv1 hg;aA (aA (.inl (⟨_,_,tZ v1 (by rw [hvv1,cG];exact dL (by omega) (a4z hs)),(.cons (.agg (.cons (.same _) (.cons (.sl _ _ _ _ (bE (oS gD) _)) (.cons (.sl _ _ _ _ (bE (oS gD) _)) (.cons (.same _) .nil))))) (.same _)),aB (m:=14) rfl (brE hg (fun hg h5=>aA (.inl (⟨_,_,(FnOk.conv (.one (.agg (Wheel.cvo _)) (fun _ h=>by cases h) (fun _ h=>by cases h)) (oU p0 (by exact dL (by omega) hs))),(FzAs.same _),aB (m:=15) rfl (aE hown hg)⟩))) (fun hg h5=>aA (aE hown hg)))⟩)))))⟩⟩))) (fun hg h2=>aA (aE hown hg))) (fun hg h1=>aA (aE hown hg)))⟩)))))⟩))))))
theorem b8h {w:Wheel} {t:Timer} (h:Wheel.bd 48 w):Wheel.bd 48 (iW w t).1:=by
 unfold iW
 rw [cG]
 refine aH (P:=fun z:Wheel×Bool=>Wheel.bd 48 z.1) (fun _=>h) (fun h1=>aH (P:=fun z:Wheel×Bool=>Wheel.bd 48 z.1) (fun _=>h) (fun _=>aH (P:=fun z:Wheel×Bool=>Wheel.bd 48 z.1) (fun _=>h) (fun _=>?_)))
 exact aH (P:=fun z:Wheel×Bool=>Wheel.bd 48 z.1) (fun _=>h) (fun _=>dL (by omega) (a4z (nO (gZ (nf h1)))))
def kI (i1:Nat) (s1:Wheel×(List Timer)) (a1:Timer):Step (Wheel×(List Timer)) (Wheel×(List Timer)) :=
 (bif (decide (a1.At≤s1.1.Now)) then (.next (s1.1,(s1.2++[a1]))) else (aZ (fG s1.1 a1) fun (v1:Wheel)=>(.next (v1,s1.2))))
def eV (p0:Wheel):(Wheel×(List Timer)) :=
 (bif (!(cM p0)) then ((aP p0),([]:List Timer)) else (bif (p0.Now==2147483647) then ((aP p0),([]:List Timer)) else (bif ((Int.tmod (IntKind.i64.wrap (p0.Now+1)) 8) != 0) then ({ (aP p0) with Now:=(IntKind.i64.wrap (p0.Now+1)),Near:=(List.set (aP p0).Near ((Int.tmod (IntKind.i64.wrap (p0.Now+1)) 8)).toNat ([]:List Timer)) },((aP p0).Near[((Int.tmod (IntKind.i64.wrap (p0.Now+1)) 8)).toNat]?.getD default)) else (Fin.get (fun s1=>(s1.1,s1.2)) (aJ kI 0 ((Wheel.mk (IntKind.i64.wrap (p0.Now+1)) (List.set (aP p0).Near ((Int.tmod (IntKind.i64.wrap (p0.Now+1)) 8)).toNat ([]:List Timer)) (List.set (aP p0).Far ((Int.tmod (IntKind.i64.wrap (Int.tdiv (IntKind.i64.wrap (p0.Now+1)) 8)) 8)).toNat ([]:List Timer)) ([]:List Timer)),((aP p0).Near[((Int.tmod (IntKind.i64.wrap (p0.Now+1)) 8)).toNat]?.getD default)) (((aP p0).Far[((Int.tmod (IntKind.i64.wrap (Int.tdiv (IntKind.i64.wrap (p0.Now+1)) 8)) 8)).toNat]?.getD default)++(aP p0).Rest))))))
theorem b7d (p0:Wheel) (hs:Wheel.bd 64 p0):FnOk prog 166 [.agg ((Wheel.cells false) p0)] ⟨.tup [.agg ((Wheel.cells true) (eV p0).1),.one (.s true 3 (List.map Timer.cells (eV p0).2))],[],[],false⟩:=by
 refine FnOk.intro (E:=env) aK aS func166 rfl (by kernel_rfl) rfl rfl ?_
 have hg:=eV.eq_1 p0
 have hown:∀g:(Wheel×(List Timer)),AV.Own (AV.tup [.agg ((Wheel.cells true) g.1),.one (.s true 3 (List.map Timer.cells g.2))]):=fun g=>⟨vX _,fF kJ _,trivial⟩
 refine aA (aB (m:=0) rfl (aB (m:=1) rfl (aA (.inl (⟨_,_,(FnOk.conv (.one (.agg (Wheel.cvo _)) (fun _ h=>by cases h) (fun _ h=>by cases h)) (oU p0 (by exact dL (by omega) hs))),(FzAs.same _),aB (m:=3) rfl (aB (m:=6) rfl (aA (.inl (aB (m:=7) rfl (aA (aA (.inl (⟨_,_,tZ p0 (by exact dL (by omega) hs),(FzAs.same _),aB (m:=9) rfl (brF hg (fun hg h1=>brQ hg (fun hg h2=>aA (aE hown hg)) (fun hg h2=>aA (aA (bK (by (omega)) (aA (bK (by have kk:=gZ (w:=p0) (nf ‹(!cM p0)=false›);have k1:=kk.nl;have k2:=kk.fl;have k3:=kk.now;have kb:=nO kk;have ki:=sK k3.1 k3.2;(try rw [cG]);(try simp only [List.length_map,List.length_set]);(try simp only [cG]);omega) (cZ (i:=((Int.tmod (IntKind.i64.wrap (p0.Now+1)) 8)).toNat) (l:=(aP p0).Near) (by exact Nat.zero_add _) (fun hq3=>.inr (.inr (.inr (cZ (i:=((Int.tmod (IntKind.i64.wrap (p0.Now+1)) 8)).toNat) (l:=(aP p0).Near) (by exact Nat.zero_add _) (fun hq4=>aB (m:=10) rfl (.inl (aV (Y:=List.map Timer.cells ((aP p0).Near[((Int.tmod (IntKind.i64.wrap (p0.Now+1)) 8)).toNat]?.getD default)) (by simp [bX,bP,-List.map_take,-List.map_drop,-List.drop_one,aQ,aR,bR,bS,bY bR,fH bS];done) (cS (b:=24) (hs:=by have kk:=gZ (w:=p0) (nf ‹(!cM p0)=false›);have k1:=kk.nl;have k2:=kk.fl;have k3:=kk.now;have kb:=nO kk;have ki:=sK k3.1 k3.2;have ba:=gP kb.1 (Int.tmod (IntKind.i64.wrap (p0.Now+1)) 8).toNat;have bb:=gP kb.2.1 (Int.tmod (IntKind.i64.wrap (Int.tdiv (IntKind.i64.wrap (p0.Now+1)) 8)) 8).toNat;have bc:=kb.2.2.1;(try have q4:=hI1.2.2.2);(try have q5:=hi1);(try simp only [cG,List.length_append] at q5);(try simp only [cG]);refine ⟨?_,?_⟩;(show List.length _*24≤_);(try simp only [LN]);omega;(try simp only [LN]);omega) ?_))))))))))))))) (fun hg h1=>aA (aE hown hg)))⟩))))))))⟩)))))
 refine aB (m:=11) rfl (aA (.inl (aB (m:=12) rfl (bK (by have kk:=gZ (w:=p0) (nf ‹(!cM p0)=false›);have k1:=kk.nl;have k2:=kk.fl;have k3:=kk.now;have kb:=nO kk;have ki:=sK k3.1 k3.2;(try rw [cG]);(try simp only [List.length_map,List.length_set]);(try simp only [cG]);omega) (.inl (aV (Y:=List.map (cSl true 3 Timer.cells) (List.set (aP p0).Near ((Int.tmod (IntKind.i64.wrap (p0.Now+1)) 8)).toNat ([]:List Timer))) (by exact (a0e (f:=(cSl true 3 Timer.cells)) (fun _=>(by decide:0 < 1))).trans (dC (by simp) (fun a ha=>by rfl))) ?_))))))
 refine aA (aA (brW hg (fun hg h5=>aA (aE hown hg)) (fun hg h5=>aA (bK (by (omega)) (bK (by (omega)) (aA (.inr (.inr ⟨(.q 1 (.q 3 (.q 7 (.z 2 (.z 4 (.z 5 (.z 8 (.m 0 [2,4,5,8] (.m 6 [8] (.m 9 [] (.m 10 [] .leaf))))))))))),by kernel_rfl,bK (by have kk:=gZ (w:=p0) (nf ‹(!cM p0)=false›);have k1:=kk.nl;have k2:=kk.fl;have k3:=kk.now;have kb:=nO kk;have ki:=sK k3.1 k3.2;(try rw [cG]);(try simp only [List.length_map,List.length_set]);(try simp only [cG]);omega) (cZ (i:=((Int.tmod (IntKind.i64.wrap (Int.tdiv (IntKind.i64.wrap (p0.Now+1)) 8)) 8)).toNat) (l:=(aP p0).Far) (by exact Nat.zero_add _) (fun hq6=>.inl (aB (m:=13) rfl (And.intro (And.intro (⟨rfl,rfl⟩) (And.intro (bK (by have kk:=gZ (w:=p0) (nf ‹(!cM p0)=false›);have k1:=kk.nl;have k2:=kk.fl;have k3:=kk.now;have kb:=nO kk;have ki:=sK k3.1 k3.2;(try rw [cG]);(try simp only [List.length_map,List.length_set]);(try simp only [cG]);omega) (⟨rfl,rfl⟩)) (And.intro (cZ (i:=((Int.tmod (IntKind.i64.wrap (Int.tdiv (IntKind.i64.wrap (p0.Now+1)) 8)) 8)).toNat) (l:=(aP p0).Far) (by exact Nat.zero_add _) (fun hq7=>⟨rfl,rfl⟩)) (And.intro (⟨rfl,rfl⟩) trivial)))) (.inr (.inr (.inr (cZ (i:=((Int.tmod (IntKind.i64.wrap (Int.tdiv (IntKind.i64.wrap (p0.Now+1)) 8)) 8)).toNat) (l:=(aP p0).Far) (by exact Nat.zero_add _) (fun hq7=>aB (m:=15) rfl (.inl (aV (Y:=List.map Timer.cells ((aP p0).Far[((Int.tmod (IntKind.i64.wrap (Int.tdiv (IntKind.i64.wrap (p0.Now+1)) 8)) 8)).toNat]?.getD default)) (by simp [bX,bP,-List.map_take,-List.map_drop,-List.drop_one,aQ,aR,bR,bS,bY bR,fH bS];done) (cS (b:=24) (hs:=by have kk:=gZ (w:=p0) (nf ‹(!cM p0)=false›);have k1:=kk.nl;have k2:=kk.fl;have k3:=kk.now;have kb:=nO kk;have ki:=sK k3.1 k3.2;have ba:=gP kb.1 (Int.tmod (IntKind.i64.wrap (p0.Now+1)) 8).toNat;have bb:=gP kb.2.1 (Int.tmod (IntKind.i64.wrap (Int.tdiv (IntKind.i64.wrap (p0.Now+1)) 8)) 8).toNat;have bc:=kb.2.2.1;(try have q4:=hI1.2.2.2);(try have q5:=hi1);(try simp only [cG,List.length_append] at q5);(try simp only [cG]);refine ⟨?_,?_⟩;(show List.length _*24≤_);(try simp only [LN]);omega;(try simp only [LN]);omega) ?_))))))))))))⟩))))))))
 refine aB (m:=16) rfl (And.intro (And.intro (⟨rfl,rfl⟩) trivial) (.inl (aV (Y:=List.map Timer.cells (((aP p0).Far[((Int.tmod (IntKind.i64.wrap (Int.tdiv (IntKind.i64.wrap (p0.Now+1)) 8)) 8)).toNat]?.getD default)++(aP p0).Rest)) (by simp [bX,bP,-List.map_take,-List.map_drop,-List.drop_one,aQ,aR,bR,bS,bY bR,fH bS];done) (cS (b:=24) (hs:=by have kk:=gZ (w:=p0) (nf ‹(!cM p0)=false›);have k1:=kk.nl;have k2:=kk.fl;have k3:=kk.now;have kb:=nO kk;have ki:=sK k3.1 k3.2;have ba:=gP kb.1 (Int.tmod (IntKind.i64.wrap (p0.Now+1)) 8).toNat;have bb:=gP kb.2.1 (Int.tmod (IntKind.i64.wrap (Int.tdiv (IntKind.i64.wrap (p0.Now+1)) 8)) 8).toNat;have bc:=kb.2.2.1;(try have q4:=hI1.2.2.2);(try have q5:=hi1);(try simp only [cG,List.length_append] at q5);(try simp only [cG]);refine ⟨?_,?_⟩;(show List.length _*24≤_);(try simp only [LN]);omega;(try simp only [LN]);omega) ?_))))
 refine aB (m:=17) rfl (And.intro trivial (And.intro trivial (aA (.inl (aB (m:=18) rfl (bK (by have kk:=gZ (w:=p0) (nf ‹(!cM p0)=false›);have k1:=kk.nl;have k2:=kk.fl;have k3:=kk.now;have kb:=nO kk;have ki:=sK k3.1 k3.2;(try rw [cG]);(try simp only [List.length_map,List.length_set]);(try simp only [cG]);omega) (.inl (aV (Y:=List.map (cSl true 3 Timer.cells) (List.set (aP p0).Far ((Int.tmod (IntKind.i64.wrap (Int.tdiv (IntKind.i64.wrap (p0.Now+1)) 8)) 8)).toNat ([]:List Timer))) (by exact (a0e (f:=(cSl true 3 Timer.cells)) (fun _=>(by decide:0 < 1))).trans (dC (by simp) (fun a ha=>by rfl))) ?_))))))))
 refine aA (.inl (aB (m:=19) rfl (aA (aA (gM (fun (i:Nat) (s:Wheel×List Timer)=>s.1.Near.length=8∧s.1.Far.length=8∧Wheel.bd (16+i) s.1∧s.2.length≤16+i) hg (by have kk:=gZ (w:=p0) (nf ‹(!cM p0)=false›);have k1:=kk.nl;have k2:=kk.fl;have k3:=kk.now;have kb:=nO kk;have ki:=sK k3.1 k3.2;have ba:=gP kb.1 (Int.tmod (IntKind.i64.wrap (p0.Now+1)) 8).toNat;have bb:=gP kb.2.1 (Int.tmod (IntKind.i64.wrap (Int.tdiv (IntKind.i64.wrap (p0.Now+1)) 8)) 8).toNat;have bc:=kb.2.2.1;rw [cG];exact ⟨by simp [k1],by simp [k2],⟨qT kb.1 (Nat.zero_le _),qT kb.2.1 (Nat.zero_le _),⟨Nat.zero_le _,fun _ _=>trivial⟩⟩,ba⟩) [2,4,8] (fun x1=>[(5,.one (.n 11 [] 1 0 (x1.s.2).length)),(9,.one (.v (.int .i64 ((x1.i:Nat):Int))))]) (fun x1=>[.dead,.keep 1,.dead,.new ⟨1,false,List.map (cSl true 3 Timer.cells) x1.s.1.Near,0⟩,.new ⟨1,false,List.map (cSl true 3 Timer.cells) x1.s.1.Far,0⟩,.dead,.new ⟨4,true,[[.v (.int .i64 x1.s.1.Now),.n 3 [] 1 0 (x1.s.1.Near).length,.n 4 [] 1 0 (x1.s.1.Far).length,.n 19 [] 1 0 (x1.s.1.Rest).length]],0⟩,.dead,.dead,.dead,.dead,.new ⟨3,false,List.map Timer.cells x1.s.2,0⟩,.dead,.dead,.dead,.dead,.dead,.keep 17,.dead,.new ⟨3,false,List.map Timer.cells x1.s.1.Rest,0⟩]) [none,some 1,none,some 3,some 4,none,some 6,none,none,none,none,some 11,none,none,none,none,none,some 17,none,some 19] ((by repeat' first|constructor|(simp [LstSt.init,LstSt.step,LstInv.init,CntSt.init,CntSt.step,CntInv.init,WhlSt.init,WhlSt.step];done))) (fun x1=>?_))))))
 have hI1:=x1.hI
 try dsimp only at hI1
 refine aA (aA (kD (k:=((((aP p0).Far[((Int.tmod (IntKind.i64.wrap (Int.tdiv (IntKind.i64.wrap (p0.Now+1)) 8)) 8)).toNat]?.getD default)++(aP p0).Rest)).length) (by simp) (fun hN8=>cT (fun hi1=>have hb1:=(x1.bdy hi1).trans (kI.eq_1 ..);have hw1:=aT hi1 (by assumption);aA (aA (.inl ⟨by kernel_rfl,bK (by simp only [List.length_map];omega) (a0r (i:=x1.i) (l:=(((aP p0).Far[((Int.tmod (IntKind.i64.wrap (Int.tdiv (IntKind.i64.wrap (p0.Now+1)) 8)) 8)).toNat]?.getD default)++(aP p0).Rest)) (by exact Nat.zero_add _) hi1 (brD hb1 (fun hb1 h9=>bK (by simp only [List.length_map];omega) (a0r (i:=x1.i) (l:=(((aP p0).Far[((Int.tmod (IntKind.i64.wrap (Int.tdiv (IntKind.i64.wrap (p0.Now+1)) 8)) 8)).toNat]?.getD default)++(aP p0).Rest)) (by exact Nat.zero_add _) hi1 (.inl (aB (m:=20) rfl (.inl (aV (Y:=List.map Timer.cells (x1.s.2++[((((aP p0).Far[((Int.tmod (IntKind.i64.wrap (Int.tdiv (IntKind.i64.wrap (p0.Now+1)) 8)) 8)).toNat]?.getD default)++(aP p0).Rest)[x1.i]'hi1)])) (by simp [bX,bP,-List.map_take,-List.map_drop,-List.drop_one,aQ,aR,bR,bS,bY bR,fH bS];rfl) (cS (b:=24) (hs:=by have kk:=gZ (w:=p0) (nf ‹(!cM p0)=false›);have k1:=kk.nl;have k2:=kk.fl;have k3:=kk.now;have kb:=nO kk;have ki:=sK k3.1 k3.2;have ba:=gP kb.1 (Int.tmod (IntKind.i64.wrap (p0.Now+1)) 8).toNat;have bb:=gP kb.2.1 (Int.tmod (IntKind.i64.wrap (Int.tdiv (IntKind.i64.wrap (p0.Now+1)) 8)) 8).toNat;have bc:=kb.2.2.1;(try have q4:=hI1.2.2.2);(try have q5:=hi1);(try simp only [cG,List.length_append] at q5);(try simp only [cG]);refine ⟨?_,?_⟩;(show List.length _*24≤_);(try simp only [LN]);omega;(try simp only [LN]);omega) ?_))))))) (fun hb1 h9=>bK (by simp only [List.length_map];omega) (a0r (i:=x1.i) (l:=(((aP p0).Far[((Int.tmod (IntKind.i64.wrap (Int.tdiv (IntKind.i64.wrap (p0.Now+1)) 8)) 8)).toNat]?.getD default)++(aP p0).Rest)) (by exact Nat.zero_add _) hi1 (.inr ⟨0,[],fun us10 hu10=>⟨_,(.same _),_,_,_,_,_,a7i x1.s.1 ((((aP p0).Far[((Int.tmod (IntKind.i64.wrap (Int.tdiv (IntKind.i64.wrap (p0.Now+1)) 8)) 8)).toNat]?.getD default)++(aP p0).Rest)[x1.i]'hi1) (by have kk:=gZ (w:=p0) (nf ‹(!cM p0)=false›);have k1:=kk.nl;have k2:=kk.fl;have k3:=kk.now;have kb:=nO kk;have ki:=sK k3.1 k3.2;have ba:=gP kb.1 (Int.tmod (IntKind.i64.wrap (p0.Now+1)) 8).toNat;have bb:=gP kb.2.1 (Int.tmod (IntKind.i64.wrap (Int.tdiv (IntKind.i64.wrap (p0.Now+1)) 8)) 8).toNat;have bc:=kb.2.2.1;have hm:=hi1;rw [List.length_append] at hm;simp only [cG] at hm;have hA:=d1g (w:=aP p0) (by rw [cG];exact kk) (Int.tmod (IntKind.i64.wrap (Int.tdiv (IntKind.i64.wrap (p0.Now+1)) 8)) 8).toNat _ (List.getElem_mem hi1);exact ⟨dL (by omega) hI1.2.2.1,hI1.1,hI1.2.1,hA.1,by omega⟩),(FzAs.same _),(.same _),trivial,Wheel,(fG x1.s.1 ((((aP p0).Far[((Int.tmod (IntKind.i64.wrap (Int.tdiv (IntKind.i64.wrap (p0.Now+1)) 8)) 8)).toNat]?.getD default)++(aP p0).Rest)[x1.i]'hi1)),(fun g=>Wheel.cv none none none g),(fun g=>.tup []),rfl,rfl,fun v1 hvv1=>aB (m:=21) rfl (aB (m:=24) rfl (have hb1:=bG hvv1 hb1;x1.goE hi1 hb1 (by have e:=c6e x1.s.1 (((aP p0).Far[((Int.tmod (IntKind.i64.wrap (Int.tdiv (IntKind.i64.wrap (p0.Now+1)) 8)) 8)).toNat]?.getD default)++(aP p0).Rest)[x1.i];rw [hvv1];exact ⟨e.1.trans hI1.1,e.2.trans hI1.2.1,a4z hI1.2.2.1,Nat.le_succ_of_le hI1.2.2.2⟩) [none,some 1,none,some 21,some 22,none,some 6,none,none,none,none,some 11,none,none,none,none,none,some 17,none,some 23] ⟨rfl,⟨⟨rfl,rfl,rfl,rfl,by (rfl)⟩,(bA hw1),⟨rfl,rfl,rfl,rfl⟩,⟨rfl,rfl,rfl,rfl⟩,⟨rfl,rfl,rfl,rfl,by (rfl)⟩,trivial⟩,(by repeat' first|constructor|(simp [LstSt.init,LstSt.step,LstInv.init,CntSt.init,CntSt.step,CntInv.init,WhlSt.init,WhlSt.step];done)),trivial⟩))⟩⟩)))))⟩))) (fun hi1=>have hg:=bZ hg (x1.fin hi1);aA (aE hown hg)))))
 exact aB (m:=21) rfl (x1.goE hi1 hb1 (by exact ⟨hI1.1,hI1.2.1,dL (by omega) hI1.2.2.1,by have q:=hI1.2.2.2;simp only [List.length_append,List.length_cons,List.length_nil];omega⟩) [none,some 1,none,some 3,some 4,none,some 6,none,none,none,none,some 21,none,none,none,none,none,some 17,none,some 19] ⟨rfl,⟨⟨rfl,rfl,rfl,rfl,by ((simp [LstSt.init,LstSt.step,LstInv.init,CntSt.init,CntSt.step,CntInv.init,WhlSt.init,WhlSt.step];done))⟩,(bA hw1),⟨rfl,rfl,rfl,rfl⟩,⟨rfl,rfl,rfl,rfl⟩,⟨rfl,rfl,rfl,rfl,by (rfl)⟩,trivial⟩,(by repeat' constructor),trivial⟩)
theorem a6h {w:Wheel} (hs:Wheel.bd 48 w):Wheel.bd 48 (eV w).1∧(eV w).2.length≤48:=by
 unfold eV
 rw [cG]
 refine aH (P:=fun z:Wheel×List Timer=>Wheel.bd 48 z.1∧z.2.length≤48) (fun _=>⟨hs,Nat.zero_le _⟩) (fun h1=>aH (P:=fun z:Wheel×List Timer=>Wheel.bd 48 z.1∧z.2.length≤48) (fun _=>⟨hs,Nat.zero_le _⟩) (fun h2=>?_))
 have kk:=gZ (w:=w) (by simpa using h1)
 have kb:=nO kk
 have ba:=gP kb.1 (Int.tmod (IntKind.i64.wrap (w.Now+1)) 8).toNat
 have bb:=gP kb.2.1 (Int.tmod (IntKind.i64.wrap (Int.tdiv (IntKind.i64.wrap (w.Now+1)) 8)) 8).toNat
 have bc:=kb.2.2.1
 refine aH (P:=fun z:Wheel×List Timer=>Wheel.bd 48 z.1∧z.2.length≤48) (fun _=>⟨⟨qT hs.1 (Nat.zero_le _),hs.2.1,hs.2.2⟩,Nat.le_trans ba (by omega)⟩) (fun _=>?_)
 have hlen:(((w.Far[((Int.tmod (IntKind.i64.wrap (Int.tdiv (IntKind.i64.wrap (w.Now+1)) 8)) 8)).toNat]?.getD default)++w.Rest)).length≤32:=by rw [List.length_append];omega
 refine lF (P:=fun s:Wheel×List Timer=>Wheel.bd 48 s.1∧s.2.length≤48) (Q:=fun z:Wheel×List Timer=>Wheel.bd 48 z.1∧z.2.length≤48) (nK (P:=fun (i:Nat) (s:Wheel×List Timer)=>Wheel.bd (16+i) s.1∧s.2.length≤16+i) ⟨⟨qT kb.1 (Nat.zero_le _),qT kb.2.1 (Nat.zero_le _),⟨Nat.zero_le _,fun _ _=>trivial⟩⟩,ba⟩ (fun i s hi hI=>?_) (fun s hI=>⟨dL (by omega) hI.1,by have:=hI.2;omega⟩)) (fun v hv=>hv)
 unfold kI
 exact yB (tT ⟨dL (Nat.le_succ _) hI.1,by have:=hI.2;show (s.2++[_]).length≤_;rw [List.length_append];simp only [List.length_cons,List.length_nil];omega⟩) (tT ⟨a4z hI.1,Nat.le_succ_of_le hI.2⟩)
def rT (i1:Nat) (s1:Wheel×(List Timer)):Step (Wheel×(List Timer)) (Wheel×(List Timer)) :=
 (.next ((eV s1.1).1,(s1.2++(eV s1.1).2)))
def cV (p0:Wheel) (p1:Int):(Wheel×(List Timer)) :=
 (bif (!(aO p1 0 200)) then ((aP p0),([]:List Timer)) else (Fin.get (fun s1=>(s1.1,s1.2)) (cJ rT 0 ((aP p0),([]:List Timer)) (p1).toNat)))
theorem a4d (p0:Wheel) (p1:Int) (hs:Wheel.bd 48 p0):FnOk prog 130 [.agg ((Wheel.cells false) p0),.one (.v (.int .i64 p1))] ⟨.tup [.agg ((Wheel.cells true) (cV p0 p1).1),.one (.s true 3 (List.map Timer.cells (cV p0 p1).2))],[],[],false⟩:=by
 refine FnOk.intro (E:=env) aK aS func130 rfl (by kernel_rfl) rfl rfl ?_
 have hg:=cV.eq_1 p0 p1
 have hown:∀g:(Wheel×(List Timer)),AV.Own (AV.tup [.agg ((Wheel.cells true) g.1),.one (.s true 3 (List.map Timer.cells g.2))]):=fun g=>⟨vX _,fF kJ _,trivial⟩
 refine aA (aB (m:=0) rfl (aB (m:=1) rfl (aA (.inl (⟨_,_,oU p0 (by exact dL (by omega) hs),(FzAs.same _),aB (m:=3) rfl (aB (m:=6) rfl (aA (.inl (aB (m:=7) rfl (aA (aA (.inl (⟨_,_,cR p1 0 200,(FzAs.same _),aB (m:=9) rfl (brE hg (fun hg h1=>aA (aE hown hg)) (fun hg h1=>aA (aA (a0v (fun (i:Nat) (s:Wheel×List Timer)=>Wheel.bd 48 s.1∧s.2.length≤48*i) hg (by rw [cG];exact ⟨hs,Nat.zero_le _⟩) [1,4,6] (fun x1=>[(7,.one (.n 7 [] 1 0 (x1.s.2).length)),(8,.one (.v (.int .i64 ((x1.i:Nat):Int))))]) (fun x1=>[.dead,.keep 1,.dead,.new ⟨1,false,List.map (cSl true 3 Timer.cells) x1.s.1.Near,0⟩,.new ⟨1,false,List.map (cSl true 3 Timer.cells) x1.s.1.Far,0⟩,.new ⟨3,false,List.map Timer.cells x1.s.1.Rest,0⟩,.new ⟨4,true,[[.v (.int .i64 x1.s.1.Now),.n 3 [] 1 0 (x1.s.1.Near).length,.n 4 [] 1 0 (x1.s.1.Far).length,.n 5 [] 1 0 (x1.s.1.Rest).length]],0⟩,.new ⟨3,false,List.map Timer.cells x1.s.2,0⟩,.dead]) [none,some 1,none,some 3,some 4,some 5,some 6,some 7,none] ((by repeat' first|constructor|(simp [LstSt.init,LstSt.step,LstInv.init,CntSt.init,CntSt.step,CntInv.init,WhlSt.init,WhlSt.step];done))) (fun x1=>?_)))))⟩))))))))⟩)))))
 have hI1:=x1.hI
 try dsimp only at hI1
 refine aA (aA (a4j (fun hi1=>have hb1:=(x1.bdy hi1).trans (rT.eq_1 ..);have hw1:=zQ hi1 (by have hl:=bD.1 (nf ‹(!aO p1 0 200)=false›);omega);aA (aA (.inl (⟨_,_,b7d x1.s.1 (by exact dL (by omega) hI1.1),(.cons (.agg (.cons (.same _) (.cons (.sl _ _ _ _ (bE (oS gD) _)) (.cons (.sl _ _ _ _ (bE (oS gD) _)) (.cons (.same _) .nil))))) (.same _)),aB (m:=10) rfl (aB (m:=14) rfl (aA (.inl (aV (Y:=List.map Timer.cells (x1.s.2++(eV x1.s.1).2)) (by simp [bX,bP,-List.map_take,-List.map_drop,-List.drop_one,aQ,aR,bR,bS,bY bR,fH bS];done) (cS (b:=24) (hs:=by have hl:=bD.1 (nf ‹(!aO p1 0 200)=false›);have k:=a6h hI1.1;have k2:=k.2;have k3:=hI1.2;have k4:=hi1;refine ⟨?_,?_⟩;(show List.length _*24≤_);(try simp only [LN]);omega;(try simp only [LN]);omega) ?_)))))⟩)))) (fun hi1=>have hg:=bZ hg (x1.fin hi1);aA (aE hown hg))))
 exact aB (m:=15) rfl (x1.goE hi1 hb1 (by have k:=a6h hI1.1;exact ⟨k.1,by have k2:=k.2;have k3:=hI1.2;rw [List.length_append];omega⟩) [none,some 1,none,some 10,some 11,some 12,some 6,some 15,none] ⟨rfl,⟨⟨rfl,rfl,rfl,rfl,by ((simp [LstSt.init,LstSt.step,LstInv.init,CntSt.init,CntSt.step,CntInv.init,WhlSt.init,WhlSt.step];done))⟩,(bA hw1),rfl,⟨rfl,rfl,rfl,rfl⟩,⟨rfl,rfl,rfl,rfl⟩,trivial⟩,(by repeat' first|constructor|(simp [LstSt.init,LstSt.step,LstInv.init,CntSt.init,CntSt.step,CntInv.init,WhlSt.init,WhlSt.step];done)),trivial⟩)
theorem uA {w:Wheel} {k:Int} (hs:Wheel.bd 48 w) (hk:k≤20):Wheel.bd 48 (cV w k).1∧(cV w k).2.length≤960:=by
 unfold cV
 rw [cG]
 refine aH (P:=fun z:Wheel×List Timer=>Wheel.bd 48 z.1∧z.2.length≤960) (fun _=>⟨hs,Nat.zero_le _⟩) (fun _=>?_)
 obtain ⟨v,e,hv⟩:=sT (b:=rT) (P:=fun i (s:Wheel×List Timer)=>Wheel.bd 48 s.1∧s.2.length≤48*i) (fun i s h=>by
  have k:=a6h h.1
  exact ⟨_,rfl,k.1,by have k2:=k.2;have k3:=h.2;show (s.2++(eV s.1).2).length≤_;rw [List.length_append];omega⟩) k.toNat 0 (w,[]) ⟨hs,Nat.zero_le _⟩
 rw [e]
 exact ⟨hv.1,by have:=hv.2;show v.2.length≤960;omega⟩
def lE (p1:Int) (i1:Nat) (s1:(List Timer)) (a1:Timer):Step ((List Timer)) (List Timer) :=
 (bif (a1.Id != p1) then (.next (s1++[a1])) else (.next s1))
def dF (p0:(List Timer)) (p1:Int):(List Timer) :=
 (Fin.get (fun s1=>s1) (aJ (lE p1) 0 ([]:List Timer) p0))
theorem vU (p0:(List Timer)) (p1:Int) (hs:p0.length≤1048576):FnOk prog 218 [.one (.s false 3 (List.map Timer.cells p0)),.one (.v (.int .i64 p1))] ⟨.one (.s true 3 (List.map Timer.cells (dF p0 p1))),[],[],false⟩:=by
 refine FnOk.intro (E:=env) aK aS func218 rfl (by kernel_rfl) rfl rfl ?_
 have hg:=dF.eq_1 p0 p1
 have hown:∀g:(List Timer),AV.Own (AV.one (.s true 3 (List.map Timer.cells g))):=fun g=>fF kJ _
 refine aA (aA (.inl (aB (m:=0) rfl (aA (aA (gM (fun (i:Nat) (s:List Timer)=>s.length≤i) hg (Nat.zero_le _) [0,1] (fun x1=>[(5,.one (.n 0 [] 1 0 (x1.s).length)),(6,.one (.v (.int .i64 ((x1.i:Nat):Int))))]) (fun x1=>[.new ⟨3,false,List.map Timer.cells x1.s,0⟩]) [some 0] ((by repeat' constructor)) (fun x1=>?_)))))))
 have hI1:=x1.hI
 try dsimp only at hI1
 refine aA (aA (bJ fun hN1=>cT (fun hi1=>have hb1:=(x1.bdy hi1).trans (lE.eq_1 ..);have hw1:=aT hi1 (by assumption);aA (aA (cC hi1 (brW hb1 (fun hb1 h2=>cC hi1 (.inl (aB (m:=1) rfl (.inl (aV (Y:=List.map Timer.cells (x1.s++[(p0[x1.i]'hi1)])) (by simp [bX,bP,-List.map_take,-List.map_drop,-List.drop_one,aQ,aR,bR,bS,bY bR,fH bS];rfl) (cS (b:=24) (hs:=by have q0:=hs;have q1:=hI1;have q2:=hi1;refine ⟨?_,?_⟩;(show List.length _*24≤_);(try simp only [LN]);omega;(try simp only [LN]);omega) ?_)))))) (fun hb1 h2=>x1.goE hi1 hb1 (by have q1:=hI1;(try simp only [LN]);omega) [some 0] ⟨rfl,⟨⟨rfl,rfl,rfl,rfl,by (rfl)⟩,(bA hw1),rfl,rfl,trivial⟩,⟨⟨rfl,rfl,rfl⟩,trivial⟩,trivial⟩))))) (fun hi1=>have hg:=bZ hg (x1.fin hi1);aA (aE hown hg))))
 exact aB (m:=2) rfl (x1.goE hi1 hb1 (by have q1:=hI1;(try simp only [LN]);omega) [some 2] ⟨rfl,⟨⟨rfl,rfl,rfl,rfl,by ((simp [LstSt.init,LstSt.step,LstInv.init,CntSt.init,CntSt.step,CntInv.init,WhlSt.init,WhlSt.step];done))⟩,(bA hw1),rfl,rfl,trivial⟩,⟨⟨rfl,rfl,rfl⟩,trivial⟩,trivial⟩)
theorem oP {l:List Timer} {k:Int}:(dF l k).length≤l.length:=by
 unfold dF
 refine lF (P:=fun s:List Timer=>s.length≤l.length) (Q:=fun s:List Timer=>s.length≤l.length) (nK (P:=fun i (s:List Timer)=>s.length≤i) (Nat.le_refl _) (fun i s hi hs=>?_) (fun s hs=>hs)) (fun _ h=>h)
 unfold lE
 cases l[i].Id != k
 · exact ⟨fun v e=>by cases e;omega,fun v e=>(by cases e),fun r e=>(by cases e)⟩
 · exact ⟨fun v e=>by cases e;simp only [List.length_append,List.length_cons,List.length_nil];omega,fun v e=>(by cases e),fun r e=>(by cases e)⟩
def tQ (p0:Wheel) (p1:Int) (i1:Nat) (s1:(List (List Timer))×(List (List Timer))):Step ((List (List Timer))×(List (List Timer))) (Wheel×Bool) :=
 (.next ((List.set s1.1 i1 (dF (p0.Near[i1]?.getD default) p1)),(List.set s1.2 i1 (dF (p0.Far[i1]?.getD default) p1))))
def dI (p0:Wheel) (p1:Int):(Wheel×Bool) :=
 (bif (!(cM p0)) then ((aP p0),false) else (Fin.get (fun s1=>((Wheel.mk (aP p0).Now s1.1 s1.2 (dF p0.Rest p1)),(decide (((((aI (Wheel.mk (aP p0).Now s1.1 s1.2 (dF p0.Rest p1)))).length:Nat):Int) < ((((aI p0)).length:Nat):Int))))) (cJ (tQ p0 p1) 0 ((aP p0).Near,(aP p0).Far) ((8:Int)).toNat)))
theorem a6a (p0:Wheel) (p1:Int) (hs:Wheel.bd 512 p0):FnOk prog 202 [.agg ((Wheel.cells false) p0),.one (.v (.int .i64 p1))] ⟨.tup [.agg ((Wheel.cells true) (dI p0 p1).1),.one (.v (.bool (dI p0 p1).2))],[],[],false⟩:=by
 refine FnOk.intro (E:=env) aK aS func202 rfl (by kernel_rfl) rfl rfl ?_
 have hg:=dI.eq_1 p0 p1
 have hown:∀g:(Wheel×Bool),AV.Own (AV.tup [.agg ((Wheel.cells true) g.1),.one (.v (.bool g.2))]):=fun g=>⟨vX _,.v _,trivial⟩
 refine aA (aB (m:=0) rfl (aB (m:=1) rfl (aA (.inl (⟨_,_,(FnOk.conv (.one (.agg (Wheel.cvo _)) (fun _ h=>by cases h) (fun _ h=>by cases h)) (oU p0 (by exact dL (by omega) hs))),(FzAs.same _),aB (m:=3) rfl (aB (m:=6) rfl (aA (aA (.inl (⟨_,_,tZ p0 (by exact dL (by omega) hs),(FzAs.same _),aB (m:=8) rfl (brE hg (fun hg h1=>aA (aE hown hg)) (fun hg h1=>aA (aA (a0v (fun (i:Nat) (s:List (List Timer)×List (List Timer))=>(bdS (bdS Timer.bd) 512 s.1∧s.1.length=8)∧bdS (bdS Timer.bd) 512 s.2∧s.2.length=8) hg (by have k:=pH (w:=p0) (by simp_all);have k1:=k.1;have k2:=k.2.1;rw [cG];exact ⟨⟨hs.1,k1⟩,hs.2.1,k2⟩) [1,2,4,6] (fun x1=>[(7,.one (.v (.int .i64 ((x1.i:Nat):Int))))]) (fun x1=>[.keep 0,.keep 1,.dead,.new ⟨1,false,List.map (cSl true 3 Timer.cells) x1.s.1,0⟩,.new ⟨1,false,List.map (cSl true 3 Timer.cells) x1.s.2,0⟩,.keep 5,.keep 6,.dead]) [some 0,some 1,none,some 3,some 4,some 5,some 6,none] ((by repeat' constructor)) (fun x1=>?_)))))⟩)))))⟩)))))
 have hI1:=x1.hI
 try dsimp only at hI1
 refine aA (aA (a4j (fun hi1=>have hb1:=(x1.bdy hi1).trans (tQ.eq_1 ..);have hw1:=zQ hi1;aA (aA (.inr (.inl ⟨(.seg 11 11 (.q 0 (.q 1 (.q 2 (.q 3 (.q 4 (.q 5 (.q 6 (.q 7 (.q 8 (.o 9 (.o 10 .leaf))))))))))) (.tail 11)),by kernel_rfl,lA (l:=p0.Near) (by have k:=pH (w:=p0) (by simp_all);have k1:=k.1;have k2:=k.2.1;have q:=hI1.1.2;have q2:=hI1.2.2;have q3:=hi1;omega) (fun hq2=>?_)⟩)))) (fun hi1=>have hg:=bZ hg (x1.fin hi1);aA (.inl (⟨_,_,vU p0.Rest p1 (by exact Nat.le_trans hs.2.2.1 (by omega)),(FzAs.same _),aB (m:=9) rfl (aA (.inr (.inr ⟨(.z 0 (.z 1 (.z 4 (.m 2 [0,4] (.z 3 (.m 5 [0,3] (.z 6 (.z 7 (.m 8 [3,6,7] (.m 9 [] .leaf)))))))))),by kernel_rfl,.inl (⟨_,_,vE (Wheel.mk (aP p0).Now x1.s.1 x1.s.2 (dF p0.Rest p1)) (by exact dL (n:=512) (by omega) ⟨hI1.1.1,hI1.2.1,⟨Nat.le_trans oP hs.2.2.1,fun _ _=>trivial⟩⟩),(.cons (.agg (.cons (.same _) (.cons (.sl _ _ _ _ (bE (oS gD) _)) (.cons (.sl _ _ _ _ (bE (oS gD) _)) (.cons (.same _) .nil))))) (.same _)),aB (m:=11) rfl (And.intro (And.intro (⟨rfl,rfl⟩) (And.intro (⟨rfl,rfl⟩) trivial)) (kD (k:=((aI (Wheel.mk (aP p0).Now x1.s.1 x1.s.2 (dF p0.Rest p1)))).length) (by simp) (fun hN4=>.inl (⟨_,_,vE p0 (by exact dL (by omega) hs),(FzAs.same _),aB (m:=13) rfl (And.intro (And.intro (⟨rfl,rfl⟩) (And.intro (kD (k:=((aI (Wheel.mk (aP p0).Now x1.s.1 x1.s.2 (dF p0.Rest p1)))).length) (by simp) (fun hN5=>⟨rfl,rfl⟩)) trivial)) (kD (k:=((aI p0)).length) (by simp) (fun hN5=>And.intro (And.intro (kD (k:=((aI (Wheel.mk (aP p0).Now x1.s.1 x1.s.2 (dF p0.Rest p1)))).length) (by simp) (fun hN6=>⟨rfl,rfl⟩)) (And.intro (kD (k:=((aI p0)).length) (by simp) (fun hN6=>⟨rfl,rfl⟩)) (And.intro (⟨rfl,rfl⟩) trivial))) (And.intro trivial (aE hown hg)))))⟩))))⟩)⟩)))⟩)))))
 refine ⟨_,_,vU (p0.Near[x1.i]?.getD default) p1 (by exact Nat.le_trans (gP hs.1 _) (by omega)),(FzAs.same _),aB (m:=9) rfl (bK (by have k:=pH (w:=p0) (by simp_all);have k1:=k.1;have k2:=k.2.1;have q:=hI1.1.2;have q2:=hI1.2.2;have q3:=hi1;(simp only [List.length_map,cG];omega)) ?_)⟩
 refine .inl (aV (Y:=List.map (cSl true 3 Timer.cells) (List.set x1.s.1 x1.i (dF (p0.Near[x1.i]?.getD default) p1))) (by exact dC (by simp) (fun a ha=>by rfl)) ?_)
 refine .inr (.inl ⟨(.seg 11 11 (.q 0 (.q 1 (.q 2 (.q 3 (.q 4 (.q 5 (.q 6 (.q 7 (.q 8 (.o 9 (.o 10 .leaf))))))))))) (.tail 11)),by kernel_rfl,lA (l:=p0.Far) (by have k:=pH (w:=p0) (by simp_all);have k1:=k.1;have k2:=k.2.1;have q:=hI1.1.2;have q2:=hI1.2.2;have q3:=hi1;omega) (fun hq3=>?_)⟩)
 refine ⟨_,_,vU (p0.Far[x1.i]?.getD default) p1 (by exact Nat.le_trans (gP hs.2.1 _) (by omega)),(FzAs.same _),aB (m:=11) rfl (bK (by have k:=pH (w:=p0) (by simp_all);have k1:=k.1;have k2:=k.2.1;have q:=hI1.1.2;have q2:=hI1.2.2;have q3:=hi1;(simp only [List.length_map,cG];omega)) ?_)⟩
 refine .inl (aV (Y:=List.map (cSl true 3 Timer.cells) (List.set x1.s.2 x1.i (dF (p0.Far[x1.i]?.getD default) p1))) (by exact dC (by simp) (fun a ha=>by rfl)) ?_)
 exact x1.goE hi1 hb1 (by exact ⟨⟨qT hI1.1.1 (Nat.le_trans oP (gP hs.1 _)),by simp [hI1.1.2]⟩,qT hI1.2.1 (Nat.le_trans oP (gP hs.2.1 _)),by simp [hI1.2.2]⟩) [some 0,some 1,none,some 3,some 4,some 5,some 6,none] ⟨rfl,⟨(bA hw1),rfl,⟨rfl,rfl,rfl,rfl⟩,⟨rfl,rfl,rfl,rfl⟩,⟨rfl,rfl,rfl,rfl⟩,trivial⟩,(by repeat' constructor),trivial⟩
theorem c6x {w:Wheel} {k:Int} (h:Wheel.bd 48 w):Wheel.bd 48 (dI w k).1:=by
 unfold dI
 rw [cG]
 refine aH (P:=fun z:Wheel×Bool=>Wheel.bd 48 z.1) (fun _=>h) (fun _=>?_)
 refine lF (P:=fun s:List (List Timer)×List (List Timer)=>bdS (bdS Timer.bd) 48 s.1∧bdS (bdS Timer.bd) 48 s.2) (Q:=fun z:Wheel×Bool=>Wheel.bd 48 z.1) (wP (P:=fun s:List (List Timer)×List (List Timer)=>bdS (bdS Timer.bd) 48 s.1∧bdS (bdS Timer.bd) 48 s.2) (Q:=fun z:Wheel×Bool=>Wheel.bd 48 z.1) (fun i s hs=>?_) _ _ _ ⟨h.1,h.2.1⟩) (fun v hv=>⟨hv.1,hv.2,⟨Nat.le_trans oP h.2.2.1,fun _ _=>trivial⟩⟩)
 unfold tQ
 exact dD ⟨qT hs.1 (Nat.le_trans oP (gP h.1 _)),qT hs.2 (Nat.le_trans oP (gP h.2.1 _))⟩
def zC (i1:Nat) (s1:Int) (a1:Int):Step (Int) Cur :=
 (bif (decide (((i1:Nat):Int) < 4000)) then (.next (iE .i64 (IntKind.i64.wrap ((IntKind.i64.wrap ((IntKind.i64.wrap (s1*137))+(IntKind.i64.wrap a1)))+11)) 1073741823)) else (.stop s1))
def qK (p0:(List Int)):Cur :=
 (Fin.get (fun s1=>(Cur.mk p0 0 s1)) (aJ zC 0 (IntKind.i64.wrap (140371+(((p0).length:Nat):Int))) p0))
theorem c0t (p0:(List Int)):FnOk prog 22 [.one (.s false 1 (List.map cU8 p0))] ⟨.one (.b ((Cur.cells false) (qK p0))),[],[],true⟩:=by
 refine FnOk.introP (E:=env) aK aS func22 rfl (by kernel_rfl) rfl ?_
 have hg:=qK.eq_1 p0
 have hown:(fun g:Cur=>(Cur.cells false) g)=_∧∀g:Cur,((Cur.cells false) g).all T.flatB=true:=⟨rfl,fun _=>rfl⟩
 exact aA (aA (bJ fun hN1=>aA (aA (dW hg [0] (fun x1=>[(3,.one (.v (.int .i64 x1.s))),(4,.one (.v (.int .i64 ((x1.i:Nat):Int))))]) (fun x1=>[]) [] ((by repeat' constructor)) (fun x1=>aA (aA (bJ fun hN2=>cT (fun hi1=>have hb1:=(x1.bdy hi1).trans (zC.eq_1 ..);have hw1:=aT hi1 (by assumption);brD hb1 (fun hb1 h3=>aA (cC hi1 (x1.goE hi1 hb1 [] ⟨rfl,⟨rfl,(bA hw1),rfl,trivial⟩,trivial,trivial⟩))) (fun hb1 h3=>have hg:=bZ hg (x1.outS hi1 hb1);aA (aB (m:=0) rfl (d0t hown hg)))) (fun hi1=>have hg:=bZ hg (x1.fin hi1);aA (aB (m:=0) rfl (d0t hown hg))))))))))
theorem b8y {l:List Int} (h:l.length≤4611686018427387904):CurOk (qK l):=by
 unfold qK
 refine lF (P:=fun _=>True) (Q:=CurOk) (nK (P:=fun _ _=>True) (Q:=CurOk) trivial (fun i s hi _=>?_) (fun _ _=>trivial)) (fun v _=>⟨Int.le_refl 0,Int.natCast_nonneg _,h⟩)
 unfold zC
 exact yB (tT trivial) (c2n trivial)
def kQ (p0:(List Int)) (p1:Int):Int :=
 (bif (decide ((IntKind.i64.wrap (3+(IntKind.i64.wrap (Int.tdiv (((p0).length:Nat):Int) 12)))) > p1)) then p1 else (IntKind.i64.wrap (3+(IntKind.i64.wrap (Int.tdiv (((p0).length:Nat):Int) 12)))))
theorem b7a (p0:(List Int)) (p1:Int):FnOk prog 24 [.one (.s false 1 (List.map cU8 p0)),.one (.v (.int .i64 p1))] ⟨.one (.v (.int .i64 (kQ p0 p1))),[],[],false⟩:=by
 refine FnOk.intro (E:=env) aK aS func24 rfl (by kernel_rfl) rfl rfl ?_
 have hg:=kQ.eq_1 p0 p1
 have hown:=iN
 exact aA (aA (bJ fun hN1=>bK (by (omega)) (aA (aA (brD hg (fun hg h2=>aA (aE hown hg)) (fun hg h2=>aA (aE hown hg)))))))
theorem b5z {l:List Int} (h:l.length≤4611686018427387904):0 < IntKind.i64.wrap (40+kQ l 90)∧IntKind.i64.wrap (40+kQ l 90)≤200:=by
 have q:3≤kQ l 90∧kQ l 90≤90:=by
  unfold kQ
  have td:0≤Int.tdiv ((l.length:Nat):Int) 12:=Int.tdiv_nonneg (by omega) (by omega)
  have te:Int.tdiv ((l.length:Nat):Int) 12≤((l.length:Nat):Int):=by rw [Int.tdiv_eq_ediv_of_nonneg (by omega)];omega
  rw [wrap_small (n:=Int.tdiv ((l.length:Nat):Int) 12) (by omega) (by omega),wrap_small (by omega) (by omega)]
  exact aH (P:=fun z:Int=>3≤z∧z≤90) (fun _=>by omega) (fun e=>by have e:=of_decide_eq_false e;omega)
 rw [wrap_small (by omega) (by omega)]
 omega
def hY (v1:(Int×Cur)):Step (Bool) (Step (Cur) (Event×Cur)) :=
 (bif (v1.1==0) then (.next (v1.1==0)) else (bif (v1.1==1) then (.next (v1.1==1)) else (.next (v1.1==2))))
def eN (v3:((List Attr)×Cur)) (v2:(Span×Cur)):Step (Cur×Span) (Step (Cur) (Event×Cur)) :=
 (aZ (cH v3.2 16) fun (v4:(Bool×Cur))=>(bif v4.1 then (aZ (jB v4.2) fun (v5:(Span×Cur))=>(.next (v5.2,v5.1))) else (.next (v4.2,{ v2.1 with Attrs:=v3.1 }))))
def jJ (p0:Cur):Step (Cur) (Event×Cur) :=
 (aZ (aG p0 12) fun (v1:(Int×Cur))=>(Step.get (fun s2=>(bif s2 then (aZ (cF v1.2) fun (v2:(Span×Cur))=>(aZ (cX v2.2) fun (v3:((List Attr)×Cur))=>(Step.get (fun s3=>(aZ (aG s3.1 3) fun (v6:(Int×Cur))=>(.done ((Event.mk 1 v6.1 s3.2),v6.2)))) (eN v3 v2)))) else (bif (v1.1==3) then (aZ (bM v1.2 [1,1,2,5,9]) fun (v7:(Int×Cur))=>(.done ((Event.mk 3 v7.1 (Span.mk 0 0 0 0 false ([]:List Attr))),v7.2))) else (bif (v1.1==4) then (.done ((Event.mk 4 0 (Span.mk 0 0 0 0 false ([]:List Attr))),v1.2)) else (bif (v1.1==5) then (aZ (cH v1.2 10) fun (v8:(Bool×Cur))=>(bif v8.1 then (.done ((Event.mk 5 0 (Span.mk 0 0 0 0 false ([]:List Attr))),v8.2)) else (.next v8.2))) else (.next v1.2)))))) (hY v1)))
def oX (p1:World) (s4:Cur×Int):Step (Bool×Bool) (Step (Cur×Int) (Event×Cur)) :=
 (bif ((p1.Tasks[(s4.2).toNat]?.getD default).Op != 0) then (.done (.stop (s4.1,s4.2))) else (bif (decide (s4.2≥3)) then (bif (decide ((((p1.Due).length:Nat):Int) > 0)) then (.done (.stop (s4.1,s4.2))) else (.next (true,(decide ((((p1.Due).length:Nat):Int) > 0))))) else (.next (false,false))))
def mQ (p1:World) (i4:Nat) (s4:Cur×Int):Step (Cur×Int) (Event×Cur) :=
 (Step.get (fun s5=>(aZ (aG s4.1 5) fun (v10:(Int×Cur))=>(.next (v10.2,v10.1)))) (oX p1 s4))
def gH (p0:Cur) (p1:World):(Event×Cur) :=
 (Step.get (fun s1=>(aZ (aG s1 5) fun (v9:(Int×Cur))=>(Fin.get (fun s4=>((Event.mk 2 s4.2 (Span.mk 0 0 0 0 false ([]:List Attr))),s4.1)) (cJ (mQ p1) 0 (v9.2,v9.1) ((3:Int)).toNat)))) (jJ p0))
theorem jn3 {v3:List Attr×Cur} {v2:Span×Cur} (h:CurOk v3.2):∃s,eN v3 v2=.next s∧CurOk s.1:=by
 unfold eN
 simp only [aZ]
 cases (cH v3.2 16).1
 · exact ⟨_,rfl,fD h⟩
 · exact ⟨_,rfl,b8v (fD h)⟩
theorem d7z {v3:List Attr×Cur} {v2:Span×Cur} {s:Cur×Span} (e:eN v3 v2=.next s) (h:CurOk v3.2):CurOk s.1:=by
 obtain ⟨s',e',h'⟩:=jn3 (v2:=v2) h
 rw [e'] at e;cases e;exact h'
theorem jn2 {v1:Int×Cur}:∃s,hY v1=.next s:=by
 unfold hY
 cases v1.1==0
 · cases v1.1==1 <;> exact ⟨_,rfl⟩
 · exact ⟨_,rfl⟩
theorem jn1 {c:Cur} (h:CurOk c):StC CurOk (jJ c):=by
 unfold jJ
 refine StC.bind (bI h) (fun v hv=>?_)
 obtain ⟨s,e⟩:=jn2 (v1:=v)
 rw [e]
 refine StC.bif (StC.bind (qI hv) (fun v2 hv2=>StC.bind (vY hv2) (fun v3 hv3=>?_))) (StC.bif (StC.bind (eG hv) (fun _ h=>StC.dn h)) (StC.bif (StC.dn hv) (StC.bif (StC.bind (fD hv) (fun _ h=>StC.bif (StC.dn h) (StC.nx h))) (StC.nx hv))))
 obtain ⟨s3,e3,h3⟩:=jn3 (v2:=v2) hv3
 rw [e3]
 exact StC.bind (bI h3) (fun _ h=>StC.dn h)
theorem jn5 {w:World} {s:Cur×Int}:(∃z,oX w s=.next z)∨oX w s=.done (.stop (s.1,s.2)):=by
 unfold oX
 cases ((w.Tasks[(s.2).toNat]?.getD default).Op != 0)
 · cases decide (s.2≥3)
   · exact .inl ⟨_,rfl⟩
   · cases decide ((((w.Due).length:Nat):Int) > 0)
     · exact .inl ⟨_,rfl⟩
     · exact .inr rfl
 · exact .inr rfl
theorem jn4 {w:World} {i:Nat} {s:Cur×Int} (h:CurOk s.1):StC (fun s=>CurOk s.1) (mQ w i s):=by
 unfold mQ
 rcases jn5 (w:=w) (s:=s) with ⟨z,e⟩ | e <;> rw [e]
 · exact StC.bind (bI h) (fun v hv=>StC.nx (P:=fun s:Cur×Int=>CurOk s.1) (v:=(v.2,v.1)) hv)
 · exact StC.st (P:=fun s:Cur×Int=>CurOk s.1) h
theorem b4c (p0:Cur) (p1:World) (hs:CurOk p0) (hw:p1.Tasks.length=5):FnOk prog 78 [.tup [.one (.b ((Cur.cells false) p0))],.agg ((World.cells false) p1)] ⟨.agg ((Event.cells false) (gH p0 p1).1),[.one (.b ((Cur.cells false) (gH p0 p1).2))],[],true⟩:=by
 refine FnOk.introV (E:=env) aK aS func78 rfl (by kernel_rfl) rfl ?_
 have hg:=gH.eq_1 p0 p1
 have hown:(true=false→∀g:(Event×Cur),AV.Own (AV.agg ((Event.cells false) g.1)))∧(fun g:(Event×Cur)=>(Cur.cells false) g.2)=_∧(fun g:(Event×Cur)=>AV.agg ((Event.cells false) g.1))=_:=⟨(fun h=>by cases h),rfl,rfl⟩
 refine aA ?_
 refine aB (m:=2) rfl ?_
 refine aB (m:=3) rfl ?_
 refine eA hg [0,3,4] (fun x1=>[]) (fun x1=>[.new ⟨3,true,[[.s false 1 (List.map cU8 x1.s.f_b),.v (.int .i64 x1.s.f_i),.v (.int .i64 x1.s.f_h)]],0⟩,.dead,.keep 2,.keep 3,.dead,.dead]) (fun hb1=>?_) (fun x1 hg=>?_)
 · have hb1:=hb1.trans (jJ.eq_1 ..)
   refine aA ?_
   refine .inr ⟨0,[],fun us1 hu1=>⟨_,(.same _),_,_,_,_,_,dB p0 12 (by assumption),(FzAs.same _),(.same _),trivial,(Int×Cur),(aG p0 12),(fun g=>(Cur.cells false) g.2),(fun g=>.one (.v (.int .i64 g.1))),rfl,rfl,fun v1 hvv1=>?_⟩⟩
   refine aB (m:=5) rfl ?_
   have hz2:=okE hvv1 (bI (by assumption));have hlB:=fS hvv1
   refine aB (m:=5) rfl ?_
   have hb1:=bG hvv1 hb1
   refine eA hb1 [0,3,4,9] (fun x2=>[(10,.one (.v (.bool x2.s)))]) (fun x2=>[.keep 0,.dead,.keep 2,.keep 3,.dead]) (fun hb2=>?_) (fun x2 hb1=>?_)
   · have hb2:=hb2.trans (hY.eq_1 ..)
     refine aA ?_
     refine brQ hb2 (fun hb2 h3=>.inl ⟨⟨_,hb2⟩,[some 0,none,some 2,some 3,none],(by repeat' constructor)⟩) (fun hb2 h3=>?_)
     refine aA ?_
     exact brQ hb2 (fun hb2 h4=>.inl ⟨⟨_,hb2⟩,[some 0,none,some 2,some 3,none],(by repeat' constructor)⟩) (fun hb2 h4=>.inl ⟨⟨_,hb2⟩,[some 0,none,some 2,some 3,none],(by repeat' constructor)⟩)
   refine brE hb1 (fun hb1 h5=>?_) (fun hb1 h5=>?_)
   · refine aA ?_
     refine .inr ⟨0,[],fun us6 hu6=>⟨_,(.same _),_,_,_,_,_,(FnOk.conv (.one (FzR.frzA (tD _)) (fun _ h=>by cases h) (fun _ h=>by cases h)) (a5y v1.2 (by assumption))),(FzAs.same _),(.same _),trivial,(Span×Cur),(cF v1.2),(fun g=>(Cur.cells false) g.2),(fun g=>.agg ((Span.cells false) g.1)),rfl,rfl,fun v2 hvv2=>?_⟩⟩
     refine aB (m:=6) rfl ?_
     have hz7:=okE hvv2 (qI (by assumption))
     refine aB (m:=6) rfl ?_
     have hb1:=bG hvv2 hb1
     refine aB (m:=6) rfl ?_
     refine aA ?_
     refine .inr ⟨0,[],fun us8 hu8=>⟨_,(.same _),_,_,_,_,_,(FnOk.conv (.one (.one (.sl _ _ _ _ (bE gG _))) (fun _ h=>by cases h) (fun _ h=>by cases h)) (zL v2.2 (by assumption))),(FzAs.same _),(.same _),trivial,((List Attr)×Cur),(cX v2.2),(fun g=>(Cur.cells false) g.2),(fun g=>.one (.s false 4 (List.map Attr.cells g.1))),rfl,rfl,fun v3 hvv3=>?_⟩⟩
     refine aB (m:=8) rfl ?_
     have hz9:=okE hvv3 (vY (by assumption));have hlA:=a6u hvv3 (by assumption)
     refine aB (m:=8) rfl ?_
     have hb1:=bG hvv3 hb1
     refine eA hb1 [0,4,5] (fun x3=>[]) (fun x3=>[.new ⟨3,true,[[.s false 1 (List.map cU8 x3.s.1.f_b),.v (.int .i64 x3.s.1.f_i),.v (.int .i64 x3.s.1.f_h)]],0⟩,.dead,.dead,.keep 3,.dead,.dead,.new ⟨6,true,[[.v (.int .i64 x3.s.2.Trace),.v (.int .i64 x3.s.2.Id),.v (.int .i64 x3.s.2.Start),.v (.int .i64 x3.s.2.End),.v (.bool x3.s.2.Err),.s false 4 (List.map Attr.cells x3.s.2.Attrs)]],0⟩,.dead,.dead,.dead]) (fun hb3=>?_) (fun x3 hb1=>?_)
     · have hb3:=hb3.trans (eN.eq_1 ..)
       refine aA ?_
       refine .inr ⟨0,[],fun us10 hu10=>⟨_,(.same _),_,_,_,_,_,jX v3.2 16 (by assumption),(FzAs.same _),(.same _),trivial,(Bool×Cur),(cH v3.2 16),(fun g=>(Cur.cells false) g.2),(fun g=>.one (.v (.bool g.1))),rfl,rfl,fun v4 hvv4=>?_⟩⟩
       refine aB (m:=9) rfl ?_
       have hz11:=okE hvv4 (fD (by assumption))
       refine aB (m:=9) rfl ?_
       have hb3:=bG hvv4 hb3
       refine brE hb3 (fun hb3 h12=>?_) (fun hb3 h12=>.inl ⟨⟨_,hb3⟩,[some 0,none,none,some 3,none,none,some 6,none,none,none],(by repeat' constructor)⟩)
       refine .inr ⟨0,[],fun us13 hu13=>⟨_,(.same _),_,_,_,_,_,c0o v4.2 (by assumption),(FzAs.same _),(.same _),trivial,(Span×Cur),(jB v4.2),(fun g=>(Cur.cells false) g.2),(fun g=>.agg ((Span.cells false) g.1)),rfl,rfl,fun v5 hvv5=>?_⟩⟩
       refine aB (m:=10) rfl ?_
       have hz14:=okE hvv5 (b8v (by assumption))
       refine aB (m:=10) rfl ?_
       have hb3:=bG hvv5 hb3
       exact .inl ⟨⟨_,hb3⟩,[some 0,none,none,some 3,none,none,some 6,none,none,none],(by repeat' constructor)⟩
     have hj3:CurOk x3.s.1:=d7z x3.e (by assumption)
     refine aA ?_
     refine .inr (.inr ⟨(.q 0 (.z 2 (.m 1 [2] (.m 3 [] (.m 4 [] .leaf))))),by kernel_rfl,?_⟩)
     refine .inr ⟨0,[],fun us15 hu15=>⟨_,(.same _),_,_,_,_,_,dB x3.s.1 3 (by assumption),(FzAs.same _),(.same _),trivial,(Int×Cur),(aG x3.s.1 3),(fun g=>(Cur.cells false) g.2),(fun g=>.one (.v (.int .i64 g.1))),rfl,rfl,fun v6 hvv6=>?_⟩⟩
     refine aB (m:=11) rfl ?_
     have hz16:=okE hvv6 (bI (by assumption));have hlB:=fS hvv6
     refine aB (m:=11) rfl ?_
     have hb1:=bG hvv6 hb1
     refine And.intro ?_ ?_
     · refine And.intro ?_ ?_
       · exact ⟨rfl,rfl⟩
       exact trivial
     refine And.intro ?_ ?_
     · exact trivial
     refine And.intro ?_ ?_
     · exact trivial
     have hg:=getD hg hb1
     exact nG hown hg (by rfl) (.one (.same _) (fun _ h=>by cases h) (fun _ h=>by cases h))
   · refine aA ?_
     refine brQ hb1 (fun hb1 h17=>?_) (fun hb1 h17=>?_)
     · refine aA ?_
       refine .inr ?_
       refine .inr ⟨0,[],fun us18 hu18=>⟨_,(.same _),_,_,_,_,_,gN v1.2 [1,1,2,5,9] (by exact ⟨by assumption,by simp,by simp⟩),(FzAs.same _),(.same _),trivial,(Int×Cur),(bM v1.2 [1,1,2,5,9]),(fun g=>(Cur.cells false) g.2),(fun g=>.one (.v (.int .i64 g.1))),rfl,rfl,fun v7 hvv7=>?_⟩⟩
       refine aB (m:=6) rfl ?_
       have hz19:=okE hvv7 (eG (by assumption))
       refine aB (m:=6) rfl ?_
       have hb1:=bG hvv7 hb1
       have hg:=getD hg hb1
       exact nG hown hg (by rfl) (FzQ.ag (.cons (.same _) (.cons (.same _) (.cons (.same _) (.cons (.same _) (.cons (.same _) (.cons (.same _) (.cons (.same _) (.cons (.sl _ _ _ _ rfl) (.same _))))))))))
     · refine aA ?_
       refine brQ hb1 (fun hb1 h20=>?_) (fun hb1 h20=>?_)
       · refine aA ?_
         have hg:=getD hg hb1
         exact nG hown hg (by rfl) (FzQ.ag (.cons (.same _) (.cons (.same _) (.cons (.same _) (.cons (.same _) (.cons (.same _) (.cons (.same _) (.cons (.same _) (.cons (.sl _ _ _ _ rfl) (.same _))))))))))
       · refine aA ?_
         refine brQ hb1 (fun hb1 h21=>?_) (fun hb1 h21=>.inl ⟨⟨_,hb1⟩,[some 0,none,some 2,some 3,none,none],(by repeat' constructor)⟩)
         refine aA ?_
         refine .inr ⟨0,[],fun us22 hu22=>⟨_,(.same _),_,_,_,_,_,jX v1.2 10 (by assumption),(FzAs.same _),(.same _),trivial,(Bool×Cur),(cH v1.2 10),(fun g=>(Cur.cells false) g.2),(fun g=>.one (.v (.bool g.1))),rfl,rfl,fun v8 hvv8=>?_⟩⟩
         refine aB (m:=6) rfl ?_
         have hz23:=okE hvv8 (fD (by assumption))
         refine aB (m:=6) rfl ?_
         have hb1:=bG hvv8 hb1
         refine brE hb1 (fun hb1 h24=>?_) (fun hb1 h24=>.inl ⟨⟨_,hb1⟩,[some 0,none,some 2,some 3,none,none],(by repeat' constructor)⟩)
         refine aA ?_
         have hg:=getD hg hb1
         exact nG hown hg (by rfl) (FzQ.ag (.cons (.same _) (.cons (.same _) (.cons (.same _) (.cons (.same _) (.cons (.same _) (.cons (.same _) (.cons (.same _) (.cons (.sl _ _ _ _ rfl) (.same _))))))))))
 have hj1:CurOk x1.s:=(jn1 hs).1 _ x1.e
 refine aA ?_
 refine .inr ⟨0,[],fun us25 hu25=>⟨_,(.same _),_,_,_,_,_,dB x1.s 5 (by assumption),(FzAs.same _),(.same _),trivial,(Int×Cur),(aG x1.s 5),(fun g=>(Cur.cells false) g.2),(fun g=>.one (.v (.int .i64 g.1))),rfl,rfl,fun v9 hvv9=>?_⟩⟩
 refine aB (m:=7) rfl ?_
 have hz26:=okE hvv9 (bI (by assumption));have hlB:=fS hvv9
 refine aB (m:=7) rfl ?_
 have hg:=bG hvv9 hg
 refine aA ?_
 refine aA ?_
 refine a0v (fun (i:Nat) (s:Cur×Int)=>CurOk s.1∧0≤s.2∧s.2 < 5) hg (by exact ⟨by assumption,by omega⟩) [0,3,4] (fun x4=>[(6,.one (.v (.int .i64 x4.s.2))),(7,.one (.v (.int .i64 ((x4.i:Nat):Int))))]) (fun x4=>[.new ⟨3,true,[[.s false 1 (List.map cU8 x4.s.1.f_b),.v (.int .i64 x4.s.1.f_i),.v (.int .i64 x4.s.1.f_h)]],0⟩,.dead,.keep 2,.keep 3,.dead,.dead,.dead]) [some 0,none,some 2,some 3,none,none,none] ?_ (fun x4=>?_)
 · exact (by repeat' constructor)
 have hI4:=x4.hI
 try dsimp only at hI4
 refine aA ?_
 refine aA ?_
 refine a4j (fun hi4=>?_) (fun hi4=>?_)
 · have hb4:=(x4.bdy hi4).trans (mQ.eq_1 ..)
   have hw4:=zQ hi4
   refine aA ?_
   refine eA hb4 [0,3,4,7] (fun x5=>[(55,.one (.v (.int .i64 x4.s.2))),(56,.one (.v (.bool (decide (x4.s.2≥3))))),(57,.one (.v (.bool x5.s.1))),(62,.one (.v (.bool x5.s.2)))]) (fun x5=>[.keep 0,.dead,.keep 2,.keep 3,.dead,.dead,.dead]) (fun hb5=>?_) (fun x5 hb4=>?_)
   · have hb5:=hb5.trans (oX.eq_1 ..)
     refine aA ?_
     refine lA (l:=p1.Tasks) (by have q:=hI4.2;omega) (fun hq27=>?_)
     refine yA hb5 (fun hb5 h28=>?_) (fun hb5 h28=>?_)
     · refine brD hb5 (fun hb5 h29=>?_) (fun hb5 h29=>.inl ⟨⟨_,hb5⟩,[some 0,none,some 2,some 3,none,none,none],(by repeat' constructor)⟩)
       refine bJ fun hN30=>?_
       refine brD hb5 (fun hb5 h31=>?_) (fun hb5 h31=>.inl ⟨⟨_,hb5⟩,[some 0,none,some 2,some 3,none,none,none],(by repeat' constructor)⟩)
       have hb4:=getD hb4 hb5
       have hg:=bZ hg (x4.outS hi4 hb4)
       refine aA ?_
       exact nG hown hg (by rfl) (FzQ.ag (.cons (.same _) (.cons (.same _) (.cons (.same _) (.cons (.same _) (.cons (.same _) (.cons (.same _) (.cons (.same _) (.cons (.sl _ _ _ _ rfl) (.same _))))))))))
     · have hb4:=getD hb4 hb5
       have hg:=bZ hg (x4.outS hi4 hb4)
       refine aA ?_
       exact nG hown hg (by rfl) (FzQ.ag (.cons (.same _) (.cons (.same _) (.cons (.same _) (.cons (.same _) (.cons (.same _) (.cons (.same _) (.cons (.same _) (.cons (.sl _ _ _ _ rfl) (.same _))))))))))
   refine .inr ⟨0,[],fun us32 hu32=>⟨_,(.same _),_,_,_,_,_,dB x4.s.1 5 (by exact hI4.1),(FzAs.same _),(.same _),trivial,(Int×Cur),(aG x4.s.1 5),(fun g=>(Cur.cells false) g.2),(fun g=>.one (.v (.int .i64 g.1))),rfl,rfl,fun v10 hvv10=>?_⟩⟩
   refine aB (m:=8) rfl ?_
   have hz33:=okE hvv10 (bI (by exact hI4.1));have hlB:=fS hvv10
   refine aB (m:=8) rfl ?_
   have hb4:=bG hvv10 hb4
   exact x4.goE hi4 hb4 (by refine ⟨by assumption,?_⟩;omega) [some 0,none,some 2,some 3,none,none,none] ⟨rfl,⟨rfl,(bA hw4),⟨rfl,rfl,rfl,rfl⟩,⟨rfl,rfl,rfl,rfl⟩,⟨rfl,rfl,rfl,rfl⟩,trivial⟩,(by repeat' constructor),⟨⟨rfl,rfl,rfl,rfl⟩,trivial⟩⟩
 have hg:=bZ hg (x4.fin hi4)
 refine aA ?_
 exact nG hown hg (by rfl) (FzQ.ag (.cons (.same _) (.cons (.same _) (.cons (.same _) (.cons (.same _) (.cons (.same _) (.cons (.same _) (.cons (.same _) (.cons (.sl _ _ _ _ rfl) (.same _))))))))))
theorem b1l {c:Cur} {w:World} (h:CurOk c):CurOk (gH c w).2:=by
 show kP (gH c w)
 unfold gH
 refine c3o (jn1 h) (fun v hv=>lG (bI hv) (fun v2 hv2=>?_))
 exact d6o (P:=fun s:Cur×Int=>CurOk s.1) (wP (P:=fun s:Cur×Int=>CurOk s.1) (Q:=fun z:Event×Cur=>kP z) (fun i s hs=>jn4 hs) _ 0 (v2.2,v2.1) hv2) (fun _ h=>h)
theorem c6h {c:Cur} (h:CurOk c):(jB c).1.Attrs.length≤9:=by
 have h0:(cF c).1.Attrs.length≤9:=by
  unfold cF
  exact Nat.le_trans (wB (fD (bI (bI (bI h))))).2 (by omega)
 have k0:=qI h
 have h1:∀c,CurOk c→(lV c).1.length≤9:=fun c h=>by
  have q:=(wB h).2
  unfold lV
  refine aH (P:=fun z:List Attr×Cur=>z.1.length≤9) (fun _=>?_) (fun _=>aH (P:=fun z:List Attr×Cur=>z.1.length≤9) (fun _=>?_) (fun _=>aH (P:=fun z:List Attr×Cur=>z.1.length≤9) (fun _=>?_) (fun _=>?_)))
  · show ((cX c).1++[_]).length≤9;rw [jP];omega
  · show ((cX c).1++[_]).length≤9;rw [jP];omega
  · show ((cX c).1++[_,_,_,_]).length≤9;rw [List.length_append];simp only [List.length_cons,List.length_nil];omega
  · show (cX c).1.length≤9;omega
 unfold jB
 have B:∀{c:Bool} {a b:Span×Cur},a.1.Attrs.length≤9→b.1.Attrs.length≤9→(bif c then a else b).1.Attrs.length≤9:=fun {c a b} ha hb=>by
  cases c
  · exact hb
  · exact ha
 exact B h0 (B h0 (B h0 (B h0 (B (h1 _ (bI k0)) (B (Nat.le_of_ble_eq_true rfl) h0)))))
theorem zY {c:Cur} {w:World} (h:CurOk c):Span.bd 1000 (gH c w).1.S:=by
 have A:∀l:List Attr,l.length≤9→bdS Attr.bd 1000 l:=fun l h=>⟨by omega,fun _ _=>⟨trivial,trivial⟩⟩
 unfold gH
 refine uU (st:=jJ c) (P:=fun _=>True) (Q:=fun z:Event×Cur=>Span.bd 1000 z.1.S) ?_ (fun s _=>?_)
 · unfold jJ
   obtain ⟨s,e⟩:=jn2 (v1:=aG c 12)
   show (∀v,Step.get _ (hY (aG c 12))=.next v→True)∧(∀v,Step.get _ (hY (aG c 12))=.stop v→True)∧∀r,Step.get _ (hY (aG c 12))=.done r→Span.bd 1000 r.1.S
   rw [e]
   have hv:=bI (n:=12) h
   refine cO ?_ (cO (fV (r:=(Event.mk 3 _ _,_)) fN) (cO (fV fN) (cO (cO (fV (r:=(Event.mk 5 _ _,_)) fN) (dD trivial)) (dD trivial))))
   have h3:=qI hv
   have h2:=wB h3
   show (∀v,Step.get _ (eN (cX (cF (aG c 12).2).2) (cF (aG c 12).2))=.next v→True)∧(∀v,Step.get _ (eN (cX (cF (aG c 12).2).2) (cF (aG c 12).2))=.stop v→True)∧∀r,Step.get _ (eN (cX (cF (aG c 12).2).2) (cF (aG c 12).2))=.done r→Span.bd 1000 r.1.S
   unfold eN
   simp only [aZ]
   cases (cH (cX (cF (aG c 12).2).2).2 16).1
   · exact fV (r:=(Event.mk 1 _ _,_)) (A _ (Nat.le_trans h2.2 (by omega)))
   · exact fV (r:=(Event.mk 1 _ _,_)) (A _ (c6h (fD h2.1)))
 · refine lF (P:=fun _=>True) (Q:=fun z:Event×Cur=>Span.bd 1000 z.1.S) (wP (P:=fun _=>True) (Q:=fun z:Event×Cur=>Span.bd 1000 z.1.S) (fun i s _=>?_) _ _ _ trivial) (fun v _=>fN)
   unfold mQ
   rcases jn5 (w:=w) (s:=s) with ⟨z,e⟩ | e <;> rw [e]
   · exact dD trivial
   · exact rC trivial
def jO (p0:Attr):Bool :=
 (bif (!(lY p0.Key)) then false else (bif p0.Num then (bif (aO p0.N 0 2147483647) then (decide (p0.Text=(ByteArray.mk #[]))) else false) else (bif (p0.N==0) then (kT p0.Text) else false)))
theorem b7h (p0:Attr):FnOk prog 211 [.agg (Attr.cells p0)] ⟨.one (.v (.bool (jO p0))),[],[],false⟩:=by
 refine FnOk.intro (E:=env) aK aS func211 rfl (by kernel_rfl) rfl rfl ?_
 have hg:=jO.eq_1 p0
 have hown:=dP
 exact aA (aB (m:=0) rfl (aA (aA (.inl (⟨_,_,zM p0.Key,(FzAs.same _),aB (m:=2) rfl (brE hg (fun hg h1=>aA (aE hown hg)) (fun hg h1=>aA (aA (brE hg (fun hg h2=>aA (.inl (⟨_,_,cR p0.N 0 2147483647,(FzAs.same _),aB (m:=3) rfl (brE hg (fun hg h3=>aE hown hg) (fun hg h3=>aE hown hg))⟩))) (fun hg h2=>aA (brQ hg (fun hg h4=>.inl (⟨_,_,a4c p0.Text,(FzAs.same _),aB (m:=3) rfl (aE hown hg)⟩)) (fun hg h4=>aE hown hg)))))))⟩)))))
def kV (p0:(List Attr)) (i1:Nat) (s1:Unit) (a1:Attr):Step (Unit) Bool :=
 (bif (!(jO a1)) then (.done false) else (bif (decide (((i1:Nat):Int) > 0)) then (bif (!Op.bytesLess ((p0[((IntKind.i64.wrap (((i1:Nat):Int) - 1))).toNat]?.getD default).Key).toList (a1.Key).toList) then (.done false) else (.next ())) else (.next ())))
def nZ (p0:(List Attr)):Bool :=
 (Fin.get (fun s1=>(decide ((((p0).length:Nat):Int)≤4))) (aJ (kV p0) 0 () p0))
theorem b4r (p0:(List Attr)):FnOk prog 191 [.one (.s false 4 (List.map Attr.cells p0))] ⟨.one (.v (.bool (nZ p0))),[],[],false⟩:=by
 refine FnOk.intro (E:=env) aK aS func191 rfl (by kernel_rfl) rfl rfl ?_
 have hg:=nZ.eq_1 p0
 have hown:=dP
 exact aA (aA (aA (dW hg [0] (fun x1=>[(3,.one (.v (.int .i64 ((x1.i:Nat):Int))))]) (fun x1=>[]) [] ((by repeat' constructor)) (fun x1=>aA (aA (bJ fun hN1=>cT (fun hi1=>have hb1:=(x1.bdy hi1).trans (kV.eq_1 ..);have hw1:=aT hi1 (by assumption);aA (aA (.inl ⟨by kernel_rfl,cC hi1 (⟨_,_,b7h (p0[x1.i]'hi1),(FzAs.same _),brF hb1 (fun hb1 h2=>brD hb1 (fun hb1 h3=>lA (l:=p0) (by ((simp (disch:=omega) only [wrap_small,eS,List.length_map];omega))) (fun hq4=>cC hi1 (brE hb1 (fun hb1 h5=>aA (have hg:=cQ hg (x1.outD hi1 hb1);aE hown hg)) (fun hb1 h5=>x1.goE hi1 hb1 [] ⟨rfl,⟨(bA hw1),rfl,trivial⟩,trivial,trivial⟩)))) (fun hb1 h3=>x1.goE hi1 hb1 [] ⟨rfl,⟨(bA hw1),rfl,trivial⟩,trivial,trivial⟩)) (fun hb1 h2=>aA (have hg:=cQ hg (x1.outD hi1 hb1);aE hown hg))⟩)⟩))) (fun hi1=>have hg:=bZ hg (x1.fin hi1);aA (bJ fun hN6=>aE hown hg))))))))
def dV (p0:Attr):Int :=
 (bif p0.Num then (IntKind.i64.wrap ((((p0.Key).size:Nat):Int)+4)) else (IntKind.i64.wrap ((((p0.Key).size:Nat):Int)+(((p0.Text).size:Nat):Int))))
theorem b2r (p0:Attr):FnOk prog 192 [.agg (Attr.cells p0)] ⟨.one (.v (.int .i64 (dV p0))),[],[],false⟩:=by
 refine FnOk.intro (E:=env) aK aS func192 rfl (by kernel_rfl) rfl rfl ?_
 have hg:=dV.eq_1 p0
 have hown:=iN
 exact aA (aB (m:=0) rfl (aA (aA (brE hg (fun hg h1=>aA (vP fun hN2=>aE hown hg)) (fun hg h1=>aA (vP fun hN3=>vP fun hN4=>aE hown hg))))))
def xG (i1:Nat) (s1:Int) (a1:Attr):Step (Int) Int :=
 (.next (IntKind.i64.wrap (s1+(dV a1))))
def cY (p0:Span):Int :=
 (Fin.get (fun s1=>s1) (aJ xG 0 12 p0.Attrs))
theorem oW (p0:Span):FnOk prog 179 [.agg ((Span.cells false) p0)] ⟨.one (.v (.int .i64 (cY p0))),[],[],false⟩:=by
 refine FnOk.intro (E:=env) aK aS func179 rfl (by kernel_rfl) rfl rfl ?_
 have hg:=cY.eq_1 p0
 have hown:=iN
 exact aA (aB (m:=0) rfl (aA (aA (aA (dW hg [1] (fun x1=>[(3,.one (.v (.int .i64 x1.s))),(4,.one (.v (.int .i64 ((x1.i:Nat):Int))))]) (fun x1=>[.keep 0]) [some 0] ((by repeat' constructor)) (fun x1=>aA (aA (bJ fun hN1=>cT (fun hi1=>have hb1:=(x1.bdy hi1).trans (xG.eq_1 ..);have hw1:=aT hi1 (by assumption);aA (cC hi1 (.inl (⟨_,_,b2r (p0.Attrs[x1.i]'hi1),(FzAs.same _),aB (m:=2) rfl (x1.goE hi1 hb1 [some 0] ⟨rfl,⟨rfl,(bA hw1),⟨rfl,rfl,rfl,rfl⟩,trivial⟩,(by repeat' constructor),trivial⟩)⟩)))) (fun hi1=>have hg:=bZ hg (x1.fin hi1);aA (aE hown hg))))))))))
def eH (p0:Span):Bool :=
 (bif (aO p0.Trace 1 999) then (bif (aO p0.Id 1 999) then (bif (aO p0.Start 0 99999) then (bif (aO p0.End p0.Start 99999) then (bif (nZ p0.Attrs) then (decide ((cY p0)≤96)) else false) else false) else false) else false) else false)
theorem b7e (p0:Span):FnOk prog 178 [.agg ((Span.cells false) p0)] ⟨.one (.v (.bool (eH p0))),[],[],false⟩:=by
 refine FnOk.intro (E:=env) aK aS func178 rfl (by kernel_rfl) rfl rfl ?_
 have hg:=eH.eq_1 p0
 have hown:=dP
 exact aA (aB (m:=0) rfl (aA (.inl (⟨_,_,cR p0.Trace 1 999,(FzAs.same _),aB (m:=2) rfl (brE hg (fun hg h1=>.inl (⟨_,_,cR p0.Id 1 999,(FzAs.same _),aB (m:=3) rfl (brE hg (fun hg h2=>.inl (⟨_,_,cR p0.Start 0 99999,(FzAs.same _),aB (m:=4) rfl (brE hg (fun hg h3=>.inl (⟨_,_,cR p0.End p0.Start 99999,(FzAs.same _),aB (m:=5) rfl (brE hg (fun hg h4=>.inl (⟨_,_,b4r p0.Attrs,(FzAs.same _),aB (m:=6) rfl (brE hg (fun hg h5=>.inl (⟨_,_,oW p0,(FzAs.same _),aB (m:=7) rfl (aE hown hg)⟩)) (fun hg h5=>aE hown hg))⟩)) (fun hg h4=>aE hown hg))⟩)) (fun hg h3=>aE hown hg))⟩)) (fun hg h2=>aE hown hg))⟩)) (fun hg h1=>aE hown hg))⟩))))
def iA (p0:Conf) (p1:Span):Bool :=
 (bif (eH p1) then (decide ((cY p1)≤p0.Budget)) else false)
theorem c2g (p0:Conf) (p1:Span):FnOk prog 162 [.agg ((Conf.cells false) p0),.agg ((Span.cells false) p1)] ⟨.one (.v (.bool (iA p0 p1))),[],[],false⟩:=by
 refine FnOk.intro (E:=env) aK aS func162 rfl (by kernel_rfl) rfl rfl ?_
 have hg:=iA.eq_1 p0 p1
 have hown:=dP
 exact aA (aB (m:=0) rfl (aB (m:=1) rfl (aA (.inl ⟨by kernel_rfl,⟨_,_,b7e p1,(FzAs.same _),brE hg (fun hg h1=>⟨_,_,oW p1,(FzAs.same _),aE hown hg⟩) (fun hg h1=>aE hown hg)⟩⟩))))
def kA:Step (Unit) World :=
 (.next ())
def jZ (p0:World) (p2:Span) (p1:Int):Step (Int×Int×Int×(List Task)) World :=
 (bif (!(iA p0.C p2)) then (.next (5,p0.Time,p0.Time,p0.Tasks)) else (.next (0,(-1),(-1),(List.set p0.Tasks (p1).toNat (Task.mk 1 0 (aX p2) 0 0 ([]:List Item) (((p0.Deeds).length:Nat):Int))))))
def dA (p0:World) (p1:Int) (p2:Span):World :=
 (Step.get (fun s1=>(Step.get (fun s2=>{ p0 with Time:=(IntKind.i64.wrap (p0.Time+1)),Tasks:=s2.2.2.2,Deeds:=(p0.Deeds++[(Deed.mk 1 p1 (aX p2) 0 0 s2.1 false false 0 0 0 p0.W.Now p0.Time s2.2.1 s2.2.2.1)]) }) (jZ p0 p2 p1))) (kA))
theorem b2j (p0:World) (p1:Int) (p2:Span) (u0:Value) (u1:Value) (u2:Value) (u3:Value) (u4:Value) (hu0:fit u0=true) (hu1:fit u1=true) (hu2:fit u2=true) (hu3:fit u3=true) (hu4:fit u4=true) (hw:WI 830000 p0) (hi:0≤p1∧p1 < 5) (hq:Span.bd 830000 p2):FnOk prog 128 [.tup [.one (.b (World.cv (some u0) (some u1) (some u2) (some u3) (some u4) none none p0))],.one (.v (.int .i64 p1)),.agg ((Span.cells false) p2)] ⟨.tup [],[.one (.b (World.cv (some u0) (some u1) (some u2) (some u3) (some u4) none none (dA p0 p1 p2)))],[],false⟩:=by
 refine FnOk.introV (E:=env) aK aS func128 rfl (by kernel_rfl) rfl ?_
 have hg:=dA.eq_1 p0 p1 p2
 have hown:(false=false→∀g:World,AV.Own (AV.tup []))∧(fun g:World=>World.cv (some u0) (some u1) (some u2) (some u3) (some u4) none none g)=_∧(fun g:World=>AV.tup [])=_:=⟨fun _ g=>trivial,rfl,rfl⟩
 refine aA (aB (m:=4) rfl (eA hg [0,1,5] (fun x1=>[(6,.one (.p 6 [] 0 0 0))]) (fun x1=>[.keep 0,.dead,.keep 2,.keep 3,.keep 4,.dead,.new ⟨20,true,[[.v (.int .i64 1),.v (.int .i64 p1),.v (.int .i64 (aX p2).Trace),.v (.int .i64 (aX p2).Id),.v (.int .i64 (aX p2).Start),.v (.int .i64 (aX p2).End),.v (.bool (aX p2).Err),.s false 4 (List.map Attr.cells (aX p2).Attrs),.v (.int .i64 0),.v (.int .i64 0),.v (.int .i64 0),.v (.bool false),.v (.bool false),.v (.int .i64 0),.v (.int .i64 0),.v (.int .i64 0),.v (.int .i64 p0.W.Now),.v (.int .i64 p0.Time),.v (.int .i64 (-1)),.v (.int .i64 (-1))]],0⟩]) (fun hb1=>have hb1:=hb1.trans (kA.eq_1 ..);.inr (.inl ⟨(.seg 15 15 (.q 0 (.q 1 (.q 3 (.q 4 (.q 5 (.q 6 (.q 7 (.q 8 (.q 9 (.q 10 (.q 11 (.b 2 (.b 12 (.o 13 (.w 14 .leaf)) 13 (.o 12 (.w 14 .leaf))) 13 (.o 2 (.o 12 (.w 14 .leaf))))))))))))))) .done),by kernel_rfl,And.intro (⟨_,_,(FnOk.conv (.one (FzR.frzA (tD _)) (fun _ h=>by cases h) (fun _ h=>by cases h)) (gV p2 (by exact Nat.le_trans hq.1 (by omega)))),(FzAs.same _),aB (m:=6) rfl (And.intro (aB (m:=6) rfl (.inl ⟨⟨_,hb1⟩,[some 0,none,some 2,some 3,some 4,none,some 6],(by repeat' constructor)⟩)) (aB (m:=6) rfl (.inl ⟨⟨_,hb1⟩,[some 0,none,some 2,some 3,some 4,none,some 6],(by repeat' constructor)⟩)))⟩) (aB (m:=5) rfl (⟨_,_,(FnOk.conv (.one (FzR.frzA (tD _)) (fun _ h=>by cases h) (fun _ h=>by cases h)) (gV p2 (by exact Nat.le_trans hq.1 (by omega)))),(FzAs.same _),aB (m:=7) rfl (.inl ⟨⟨_,hb1⟩,[some 0,none,some 2,some 3,some 4,none,some 5],(by repeat' constructor)⟩)⟩))⟩)) (fun x1 hg=>eA hg [0,6] (fun x2=>[]) (fun x2=>[.new ⟨32,true,[[.v (.int .i64 p0.C.Stripes),.v (.int .i64 p0.C.Wait),.v (.int .i64 p0.C.Budget),.v (.int .i64 p0.C.Cache),.v (.int .i64 p0.C.Queue),.v (.int .i64 p0.C.Rate),.v (.int .i64 p0.C.Burst),.v (.int .i64 p0.C.Rule.Kind),.v (.int .i64 p0.C.Rule.N),.v (.string p0.C.Rule.Key),.v (.string p0.C.Rule.Text),.s false 5 (List.map (Pol.cells false) p0.C.Rule.L),.v (.int .i64 p0.Time),.v (.bool p0.Shut),.v u0,.v (.int .i64 p0.RuleHeld),.v (.int .i64 p0.B.Rate),.v (.int .i64 p0.B.Burst),.v (.int .i64 p0.B.Tokens),.v (.int .i64 p0.B.At),.v u1,.v (.int .i64 p0.Used),.v (.int .i64 p0.W.Now),.s false 1 (List.map (cSl false 3 Timer.cells) p0.W.Near),.s false 1 (List.map (cSl false 3 Timer.cells) p0.W.Far),.s false 3 (List.map Timer.cells p0.W.Rest),.v u2,.v u3,.v u4,.n 2 [] 1 0 (x2.s.2.2.2).length,.n 3 [] 1 0 (p0.Deeds).length,.v (.int .i64 p0.Next)]],0⟩,.dead,.new ⟨12,false,List.map (Task.cells false) x2.s.2.2.2,0⟩,.keep 3,.dead,.dead,.new ⟨20,true,[[.v (.int .i64 1),.v (.int .i64 p1),.v (.int .i64 (aX p2).Trace),.v (.int .i64 (aX p2).Id),.v (.int .i64 (aX p2).Start),.v (.int .i64 (aX p2).End),.v (.bool (aX p2).Err),.s false 4 (List.map Attr.cells (aX p2).Attrs),.v (.int .i64 0),.v (.int .i64 0),.v (.int .i64 x2.s.1),.v (.bool false),.v (.bool false),.v (.int .i64 0),.v (.int .i64 0),.v (.int .i64 0),.v (.int .i64 p0.W.Now),.v (.int .i64 p0.Time),.v (.int .i64 x2.s.2.1),.v (.int .i64 x2.s.2.2.1)]],0⟩]) (fun hb2=>?_) (fun x2 hg=>?_))))
 · refine have hb2:=hb2.trans (jZ.eq_1 ..);aA (.inl ⟨by kernel_rfl,⟨_,_,c2g p0.C p2,(FzAs.same _),brE hb2 (fun hb2 h1=>aA (aA (.inl ⟨⟨_,hb2⟩,[some 0,none,some 2,some 3,none,none,some 6],(by repeat' first|constructor|(simp;done))⟩))) (fun hb2 h1=>.inr (.inl ⟨(.seg 14 14 (.q 0 (.q 1 (.q 2 (.q 3 (.q 4 (.q 5 (.q 7 (.q 8 (.q 9 (.q 10 (.q 11 (.o 6 (.o 12 (.o 13 .leaf)))))))))))))) (.tail 14)),by kernel_rfl,kD (k:=(p0.Deeds).length) (by simp) (fun hN2=>⟨_,_,(FnOk.conv (.one (FzR.frzA (tD _)) (fun _ h=>by cases h) (fun _ h=>by cases h)) (gV p2 (by exact Nat.le_trans hq.1 (by omega)))),(FzAs.same _),aB (m:=8) rfl (bK (by have qt:=hw.tl;(try have qd:=hw.at p1.toNat ho);(simp only [List.length_map,List.length_set];omega)) (.inr (aV (Y:=List.map (Task.cells false) (List.set p0.Tasks (p1).toNat (Task.mk 1 0 (aX p2) 0 0 ([]:List Item) (((p0.Deeds).length:Nat):Int)))) (by exact dC (by simp) (fun a ha=>by (try simp only [rM,T.fzT,cK,bP,bE gG,bE jI]);rfl)) ?_)))⟩)⟩))⟩⟩)
   exact .inl ⟨⟨_,hb2⟩,[some 0,none,some 2,some 3,none,none,some 6],(by repeat' first|constructor|(simp;done))⟩
 refine aA (.inr (.inl ⟨(.pre 0 (.pre 1 (.seg 7 5 (.q 2 (.q 3 (.q 4 (.q 5 (.o 6 .leaf))))) (.tail 7)))),by kernel_rfl,.inl (aB (m:=7) rfl (.inr (.inl (aV (Y:=List.map (Deed.cells false) (p0.Deeds++[(Deed.mk 1 p1 (aX p2) 0 0 x2.s.1 false false 0 0 0 p0.W.Now p0.Time x2.s.2.1 x2.s.2.2.1)])) (by simp [bX,bP,-List.map_take,-List.map_drop,-List.drop_one,aQ,aR,rJ,bY rJ,iC a3i];rfl) (cS (b:=168) (hs:=by have a1:=hw.db.1;have a2:=hw.q.1;have a3:=hw.o.1;have a4:=hw.d.1;have a5:=hw.s.1;refine ⟨?_,?_⟩;(show List.length _*168≤_);(try simp only [LN]);omega;(try simp only [LN]);omega) ?_)))))⟩))
 exact aB (m:=8) rfl (bO hown hg)
theorem c2c {n m:Nat} {w:World} {k:Int} {s:Span} (h:WI n w) (hm:n+1≤m) (hs:Span.bd m s):WI m (dA w k s):=by
 unfold dA kA jZ
 cases (!iA w.C s)
 · exact ((h.da hm (by exact hs)).tk (x:=Task.mk 1 0 s 0 0 [] ((w.Deeds.length:Nat):Int)) ⟨hs,fN⟩ (fun _=>⟨Int.natCast_nonneg _,by show ((w.Deeds.length:Nat):Int) < ((List.length (w.Deeds++[_]):Nat):Int);rw [jP];omega⟩) (fun h=>absurd h (by show ¬(1:Int)=2;decide))).free
 · exact (h.da hm (by exact hs)).free
def xI (p0:Int):Int :=
 (iE .i64 (rL .i64 (rL .i64 (iE .i64 (rL .i64 (iE .i64 p0 65535) (zI .i64 (iE .i64 p0 65535) 7)) 65535) (wW .i64 (iE .i64 (rL .i64 (iE .i64 p0 65535) (zI .i64 (iE .i64 p0 65535) 7)) 65535) 9)) (zI .i64 (rL .i64 (iE .i64 (rL .i64 (iE .i64 p0 65535) (zI .i64 (iE .i64 p0 65535) 7)) 65535) (wW .i64 (iE .i64 (rL .i64 (iE .i64 p0 65535) (zI .i64 (iE .i64 p0 65535) 7)) 65535) 9)) 8)) 65535)
theorem c5b (p0:Int):FnOk prog 193 [.one (.v (.int .i64 p0))] ⟨.one (.v (.int .i64 (xI p0))),[],[],false⟩:=by
 refine FnOk.intro (E:=env) aK aS func193 rfl (by kernel_rfl) rfl rfl ?_
 have hg:=xI.eq_1 p0
 have hown:=iN
 exact aA (aA (aA (bK (by (omega)) (aA (bK (by (omega)) (aA (bK (by (omega)) (aE hown hg))))))))
def aD (p0:Int) (p1:Int):Int :=
 (bif (decide (p1 < 1)) then 0 else (Int.tmod (xI p0) p1))
theorem iS (p0:Int) (p1:Int):FnOk prog 180 [.one (.v (.int .i64 p0)),.one (.v (.int .i64 p1))] ⟨.one (.v (.int .i64 (aD p0 p1))),[],[],false⟩:=by
 refine FnOk.intro (E:=env) aK aS func180 rfl (by kernel_rfl) rfl rfl ?_
 have hg:=aD.eq_1 p0 p1
 have hown:=iN
 exact aA (aA (aA (brD hg (fun hg h1=>aA (aE hown hg)) (fun hg h1=>aA (.inl (⟨_,_,c5b p0,(FzAs.same _),aB (m:=1) rfl (bK (by (omega)) (aE hown hg))⟩))))))
theorem c6l (a:Int):0≤iE .i64 a 65535:=by
 unfold iE
 have h:(BitVec.toNat (BitVec.ofInt IntKind.i64.bits a &&& BitVec.ofInt IntKind.i64.bits 65535))≤65535:=by
  rw [BitVec.toNat_and]
  exact Nat.le_trans Nat.and_le_right (by decide)
 generalize BitVec.toNat (BitVec.ofInt IntKind.i64.bits a &&& BitVec.ofInt IntKind.i64.bits 65535)=n at h
 rw [wrap_small (n:=(n:Int)) (by omega) (by omega)]
 omega
theorem stO {t:Int} {l:List Stripe} (h:1≤l.length∧l.length≤16):0≤aD t ((l.length:Nat):Int)∧aD t ((l.length:Nat):Int) < ((l.length:Nat):Int):=by
 unfold aD
 rw [decide_eq_false (by omega),cond_false]
 exact ⟨Int.tmod_nonneg _ (by unfold xI;exact c6l _),Int.tmod_lt_of_pos _ (by omega)⟩
def fT (p0:World) (p1:Int) (p2:Int) (p3:Int):World :=
 { p0 with St:=(List.set p0.St ((aD (p0.Tasks[(p1).toNat]?.getD default).S.Trace (((p0.St).length:Nat):Int))).toNat (Stripe.mk (-1) (p0.St[((aD (p0.Tasks[(p1).toNat]?.getD default).S.Trace (((p0.St).length:Nat):Int))).toNat]?.getD default).L)),Tasks:=(List.set p0.Tasks (p1).toNat (Task.mk 0 0 (Span.mk 0 0 0 0 false ([]:List Attr)) 0 0 ([]:List Item) 0)),Deeds:=(List.set p0.Deeds ((p0.Tasks[(p1).toNat]?.getD default).H).toNat { (p0.Deeds[((p0.Tasks[(p1).toNat]?.getD default).H).toNat]?.getD default) with Stamp:=p3,Code:=p2,Now:=p0.W.Now,Lin:=p0.Time,Res:=p0.Time }) }
theorem vD (p0:World) (p1:Int) (p2:Int) (p3:Int) (u1:Value) (u2:Value) (u3:Value) (u4:Value) (hu1:fit u1=true) (hu2:fit u2=true) (hu3:fit u3=true) (hu4:fit u4=true) (hw:WI 890000 p0) (hi:0≤p1∧p1 < 5) (ho:(p0.Tasks[p1.toNat]?.getD default).Op≠0):FnOk prog 194 [.tup [.one (.b (World.cv none (some u1) (some u2) (some u3) (some u4) none none p0))],.one (.v (.int .i64 p1)),.one (.v (.int .i64 p2)),.one (.v (.int .i64 p3))] ⟨.tup [],[.one (.b (World.cv none (some u1) (some u2) (some u3) (some u4) none none (fT p0 p1 p2 p3)))],[],false⟩:=by
 refine FnOk.introV (E:=env) aK aS func194 rfl (by kernel_rfl) rfl ?_
 have hg:=fT.eq_1 p0 p1 p2 p3
 have hown:(false=false→∀g:World,AV.Own (AV.tup []))∧(fun g:World=>World.cv none (some u1) (some u2) (some u3) (some u4) none none g)=_∧(fun g:World=>AV.tup [])=_:=⟨fun _ g=>trivial,rfl,rfl⟩
 refine aA (bK (by have qt:=hw.tl;(try have qd:=hw.at p1.toNat ho);(simp only [List.length_map,List.length_set];omega)) (cZ (i:=(p1).toNat) (l:=p0.Tasks) (by exact Nat.zero_add _) (fun hq1=>aB (m:=5) rfl (aA (.inl ⟨by kernel_rfl,bK (by have qt:=hw.tl;(try have qd:=hw.at p1.toNat ho);(simp only [List.length_map,List.length_set];omega)) (aA (.inl (aV (Y:=List.map (Deed.cells false) (List.set p0.Deeds ((p0.Tasks[(p1).toNat]?.getD default).H).toNat { (p0.Deeds[((p0.Tasks[(p1).toNat]?.getD default).H).toNat]?.getD default) with Code:=p2 })) (by exact dC (by simp) (fun a ha=>by simp only [ha,Option.getD_some];rfl)) ?_)))⟩)))))
 refine aA (.inl (aV (Y:=List.map (Deed.cells false) (List.set p0.Deeds ((p0.Tasks[(p1).toNat]?.getD default).H).toNat { (p0.Deeds[((p0.Tasks[(p1).toNat]?.getD default).H).toNat]?.getD default) with Stamp:=p3,Code:=p2 })) (by exact lM (by simp) (by rfl)) ?_))
 refine aA (.inl (aV (Y:=List.map (Deed.cells false) (List.set p0.Deeds ((p0.Tasks[(p1).toNat]?.getD default).H).toNat { (p0.Deeds[((p0.Tasks[(p1).toNat]?.getD default).H).toNat]?.getD default) with Stamp:=p3,Code:=p2,Lin:=p0.Time })) (by exact lM (by simp) (by rfl)) ?_))
 refine aA (.inl (aV (Y:=List.map (Deed.cells false) (List.set p0.Deeds ((p0.Tasks[(p1).toNat]?.getD default).H).toNat { (p0.Deeds[((p0.Tasks[(p1).toNat]?.getD default).H).toNat]?.getD default) with Stamp:=p3,Code:=p2,Lin:=p0.Time,Res:=p0.Time })) (by exact lM (by simp) (by rfl)) ?_))
 refine aA (.inl (aV (Y:=List.map (Deed.cells false) (List.set p0.Deeds ((p0.Tasks[(p1).toNat]?.getD default).H).toNat { (p0.Deeds[((p0.Tasks[(p1).toNat]?.getD default).H).toNat]?.getD default) with Stamp:=p3,Code:=p2,Now:=p0.W.Now,Lin:=p0.Time,Res:=p0.Time })) (by exact lM (by simp) (by rfl)) ?_))
 refine aA (.inr (.inl ⟨(.seg 15 15 (.q 0 (.q 1 (.q 2 (.q 3 (.q 4 (.q 5 (.q 6 (.q 7 (.q 8 (.q 9 (.q 10 (.q 11 (.q 12 (.q 13 (.q 14 .leaf))))))))))))))) (.tail 15)),by kernel_rfl,kD (k:=(p0.St).length) (by simp) (fun hN2=>⟨_,_,iS (p0.Tasks[(p1).toNat]?.getD default).S.Trace (((p0.St).length:Nat):Int),(FzAs.same _),bK (by have qt:=hw.tl;(try have qd:=hw.at p1.toNat ho);(simp only [List.length_map,List.length_set];exact stO hw.sl)) (.inl (aV (Y:=List.map (Stripe.cells false) (List.set p0.St ((aD (p0.Tasks[(p1).toNat]?.getD default).S.Trace (((p0.St).length:Nat):Int))).toNat (Stripe.mk (-1) (p0.St[((aD (p0.Tasks[(p1).toNat]?.getD default).S.Trace (((p0.St).length:Nat):Int))).toNat]?.getD default).L))) (by exact dC (by simp) (fun a ha=>by simp only [ha,Option.getD_some];rfl)) ?_))⟩)⟩))
 refine bK (by have qt:=hw.tl;(try have qd:=hw.at p1.toNat ho);(simp only [List.length_map,List.length_set];omega)) (.inr (aV (Y:=List.map (Task.cells false) (List.set p0.Tasks (p1).toNat (Task.mk 0 0 (Span.mk 0 0 0 0 false ([]:List Attr)) 0 0 ([]:List Item) 0))) (by exact dC (by simp) (fun a ha=>by (try simp only [rM,T.fzT,cK,bP,bE gG,bE jI]);rfl)) ?_))
 exact bO hown hg
theorem sV {n:Nat} {w:World} {k c s:Int} (h:WI n w):WI n (fT w k c s):=((h.sk (by exact h.str _)).tz).dd (by exact h.deed _)
def nE (p1:Int) (i1:Nat) (s1:Unit) (a1:Verdict):Step (Unit) (Verdict×Bool) :=
 (bif (a1.Trace==p1) then (.done (a1,true)) else (.next ()))
def bQ (p0:(List Verdict)) (p1:Int):(Verdict×Bool) :=
 (Fin.get (fun s1=>((Verdict.mk 0 0 false),false)) (aJ (nE p1) 0 () p0))
theorem a1g (p0:(List Verdict)) (p1:Int):FnOk prog 195 [.one (.s false 3 (List.map Verdict.cells p0)),.one (.v (.int .i64 p1))] ⟨.tup [.agg (Verdict.cells (bQ p0 p1).1),.one (.v (.bool (bQ p0 p1).2))],[],[],false⟩:=by
 refine FnOk.intro (E:=env) aK aS func195 rfl (by kernel_rfl) rfl rfl ?_
 have hg:=bQ.eq_1 p0 p1
 have hown:∀g:(Verdict×Bool),AV.Own (AV.tup [.agg (Verdict.cells g.1),.one (.v (.bool g.2))]):=fun g=>⟨a2u _,.v _,trivial⟩
 exact aA (aB (m:=0) rfl (aA (aA (dW hg [0,1,4] (fun x1=>[(6,.one (.v (.int .i64 ((x1.i:Nat):Int))))]) (fun x1=>[.keep 0]) [some 0] ((by repeat' constructor)) (fun x1=>aA (aA (bJ fun hN1=>cT (fun hi1=>have hb1:=(x1.bdy hi1).trans (nE.eq_1 ..);have hw1:=aT hi1 (by assumption);aA (aA (cC hi1 (brQ hb1 (fun hb1 h2=>aA (cC hi1 (have hg:=cQ hg (x1.outD hi1 hb1);aE hown hg))) (fun hb1 h2=>x1.goE hi1 hb1 [some 0] ⟨rfl,⟨(bA hw1),rfl,rfl,⟨rfl,rfl,rfl,rfl⟩,trivial⟩,(by repeat' constructor),trivial⟩))))) (fun hi1=>have hg:=bZ hg (x1.fin hi1);aA (aE hown hg)))))))))
def kS (p1:Int) (i1:Nat) (s1:Unit) (a1:Trail):Step (Unit) Int :=
 (bif (a1.Id==p1) then (.done ((i1:Nat):Int)) else (.next ()))
def aL (p0:(List Trail)) (p1:Int):Int :=
 (Fin.get (fun s1=>(-1)) (aJ (kS p1) 0 () p0))
theorem xY (p0:(List Trail)) (p1:Int):FnOk prog 212 [.one (.s false 4 (List.map (Trail.cells false) p0)),.one (.v (.int .i64 p1))] ⟨.one (.v (.int .i64 (aL p0 p1))),[],[],false⟩:=by
 refine FnOk.intro (E:=env) aK aS func212 rfl (by kernel_rfl) rfl rfl ?_
 have hg:=aL.eq_1 p0 p1
 have hown:=iN
 exact aA (aA (aA (dW hg [0,1] (fun x1=>[(5,.one (.v (.int .i64 ((x1.i:Nat):Int))))]) (fun x1=>[]) [] ((by repeat' constructor)) (fun x1=>aA (aA (bJ fun hN1=>cT (fun hi1=>have hb1:=(x1.bdy hi1).trans (kS.eq_1 ..);have hw1:=aT hi1 (by assumption);aA (aA (cC hi1 (brQ hb1 (fun hb1 h2=>aA (have hg:=cQ hg (x1.outD hi1 hb1);aE hown hg)) (fun hb1 h2=>x1.goE hi1 hb1 [] ⟨rfl,⟨(bA hw1),rfl,rfl,trivial⟩,trivial,trivial⟩))))) (fun hi1=>have hg:=bZ hg (x1.fin hi1);aA (aE hown hg))))))))
theorem bN {l:List Trail} {k:Int}:-1≤aL l k∧(aL l k < (l.length:Int)):=by
 unfold aL
 refine lF (P:=fun _=>True) (Q:=fun v:Int=>-1≤v∧v < (l.length:Int)) (nK (P:=fun _ _=>True) trivial (fun i s hi _=>?_) (fun _ _=>trivial)) (fun _ _=>⟨by omega,by omega⟩)
 unfold kS
 exact cO (fV ⟨by omega,by omega⟩) (dD trivial)
def aC (p0:(List Stripe)) (p1:Int):(Trail×Bool) :=
 (bif ((((p0).length:Nat):Int)==0) then ((Trail.mk 0 0 0 ([]:List Span)),false) else (bif (decide ((aL (p0[((aD p1 (((p0).length:Nat):Int))).toNat]?.getD default).L p1) < 0)) then ((Trail.mk 0 0 0 ([]:List Span)),false) else ((mH ((p0[((aD p1 (((p0).length:Nat):Int))).toNat]?.getD default).L[((aL (p0[((aD p1 (((p0).length:Nat):Int))).toNat]?.getD default).L p1)).toNat]?.getD default)),true)))
theorem lR (p0:(List Stripe)) (p1:Int) (hs:bdS Stripe.bd 1000000 p0∧p0.length≤16):FnOk prog 196 [.one (.s false 2 (List.map (Stripe.cells false) p0)),.one (.v (.int .i64 p1))] ⟨.tup [.agg ((Trail.cells true) (aC p0 p1).1),.one (.v (.bool (aC p0 p1).2))],[],[],false⟩:=by
 refine FnOk.intro (E:=env) aK aS func196 rfl (by kernel_rfl) rfl rfl ?_
 have hg:=aC.eq_1 p0 p1
 have hown:∀g:(Trail×Bool),AV.Own (AV.tup [.agg ((Trail.cells true) g.1),.one (.v (.bool g.2))]):=fun g=>⟨pC _,.v _,trivial⟩
 exact aA (aB (m:=0) rfl (aA (aA (bJ fun hN1=>brQ hg (fun hg h2=>aA (aE hown hg)) (fun hg h2=>aA (bJ fun hN3=>.inl (⟨_,_,iS p1 (((p0).length:Nat):Int),(FzAs.same _),aB (m:=2) rfl (lA (l:=p0) (by have ql:=hs.2;(have q:=stO (t:=p1) (l:=p0) ⟨by omega,by omega⟩;exact q)) (fun hq4=>aB (m:=2) rfl (aA (.inl (⟨_,_,xY (p0[((aD p1 (((p0).length:Nat):Int))).toNat]?.getD default).L p1,(FzAs.same _),aB (m:=4) rfl (aA (aA (brD hg (fun hg h5=>aA (aE hown hg)) (fun hg h5=>aA (lA (l:=(p0[((aD p1 (((p0).length:Nat):Int))).toNat]?.getD default).L) (by have ql:=hs.2;(have q:=bN (l:=(p0[(aD p1 ((p0.length:Nat):Int)).toNat]?.getD default).L) (k:=p1);omega)) (fun hq6=>.inl (⟨_,_,xX ((p0[((aD p1 (((p0).length:Nat):Int))).toNat]?.getD default).L[((aL (p0[((aD p1 (((p0).length:Nat):Int))).toNat]?.getD default).L p1)).toNat]?.getD default) (by exact mC (by omega) _ (iM (iM hs.1 fN _) fN _)),(FzAs.same _),aB (m:=5) rfl (aE hown hg)⟩)))))))⟩)))))⟩)))))))
theorem a1a {n:Nat} {l:List Stripe} {k:Int} (h:bdS Stripe.bd n l):Trail.bd n (aC l k).1:=by
 unfold aC
 refine aH (P:=fun z:Trail×Bool=>Trail.bd n z.1) (fun _=>fN) (fun _=>aH (P:=fun z:Trail×Bool=>Trail.bd n z.1) (fun _=>fN) (fun _=>?_))
 rw [rS]
 have hS:Stripe.bd n (l[(aD k ((l.length:Nat):Int)).toNat]?.getD default):=iM h fN _
 exact iM hS fN _
def fA (p0:Int):Int :=
 (bif (decide (p0 < 0)) then 0 else (bif (decide (p0 > 2147483647)) then 2147483647 else p0))
theorem lC (p0:Int):FnOk prog 224 [.one (.v (.int .i64 p0))] ⟨.one (.v (.int .i64 (fA p0))),[],[],false⟩:=by
 refine FnOk.intro (E:=env) aK aS func224 rfl (by kernel_rfl) rfl rfl ?_
 have hg:=fA.eq_1 p0
 have hown:=iN
 exact aA (aA (aA (brD hg (fun hg h1=>aA (aE hown hg)) (fun hg h1=>aA (aA (brD hg (fun hg h2=>aA (aE hown hg)) (fun hg h2=>aA (aE hown hg))))))))
def vL (p0:Int) (p1:Int):Int :=
 (fA (IntKind.i64.wrap ((fA p0)+(fA p1))))
theorem b2s (p0:Int) (p1:Int):FnOk prog 213 [.one (.v (.int .i64 p0)),.one (.v (.int .i64 p1))] ⟨.one (.v (.int .i64 (vL p0 p1))),[],[],false⟩:=by
 refine FnOk.intro (E:=env) aK aS func213 rfl (by kernel_rfl) rfl rfl ?_
 have hg:=vL.eq_1 p0 p1
 have hown:=iN
 exact aA (aA (.inl (⟨_,_,lC p0,(FzAs.same _),aB (m:=1) rfl (.inl (⟨_,_,lC p1,(FzAs.same _),aB (m:=2) rfl (.inl (⟨_,_,lC (IntKind.i64.wrap ((fA p0)+(fA p1))),(FzAs.same _),aB (m:=3) rfl (aE hown hg)⟩))⟩))⟩)))
def gU (p0:Conf) (p1:Int):Int :=
 (vL p1 p0.Wait)
theorem b2q (p0:Conf) (p1:Int):FnOk prog 198 [.agg ((Conf.cells false) p0),.one (.v (.int .i64 p1))] ⟨.one (.v (.int .i64 (gU p0 p1))),[],[],false⟩:=by
 refine FnOk.intro (E:=env) aK aS func198 rfl (by kernel_rfl) rfl rfl ?_
 have hg:=gU.eq_1 p0 p1
 have hown:=iN
 exact aA (aB (m:=0) rfl (aA (.inl (⟨_,_,b2s p1 p0.Wait,(FzAs.same _),aB (m:=2) rfl (aE hown hg)⟩))))
def iI (p0:(List Trail)) (p1:Span) (s2:Int):Step (Int) (Step (Int) (List Trail)) :=
 (bif (decide (s2 < (((p0).length:Nat):Int))) then (bif (decide ((p0[(s2).toNat]?.getD default).Id≤p1.Trace)) then (.next (IntKind.i64.wrap (s2+1))) else (.stop s2)) else (.stop s2))
def jV (p0:(List Trail)) (p1:Span):Step (Int) (List Trail) :=
 (Fin.get (fun s2=>(.next s2)) (eP (iI p0 p1) ((fun k:Int=>((p0.length:Nat):Int).toNat - k.toNat) 0) 0))
def a5w:Step (Unit) (List Trail) :=
 (.next ())
def eI (p0:(List Trail)) (p1:Span) (p2:Int) (p3:Int):(List Trail) :=
 (bif (decide ((aL p0 p1.Trace)≥0)) then (List.set (cI p0) ((aL p0 p1.Trace)).toNat { ((cI p0)[((aL p0 p1.Trace)).toNat]?.getD default) with Spans:=(((cI p0)[((aL p0 p1.Trace)).toNat]?.getD default).Spans++[(aX p1)]) }) else (Step.get (fun s1=>(Step.get (fun s3=>(((cI (List.take ((s1).toNat - 0) (List.drop 0 p0)))++[(Trail.mk p1.Trace p2 p3 [(aX p1)])])++(cI (List.take ((p0).length - (s1).toNat) (List.drop (s1).toNat p0))))) (a5w))) (jV p0 p1)))
theorem d7h {p0:List Trail} {p1:Span} {v:Int} (hs:bdS Trail.bd 1048576 p0) (h:jV p0 p1=.next v):0≤v∧v≤((p0.length:Nat):Int):=by
 have q0:=hs.1
 have key:∀v,jV p0 p1=.next v→0≤v∧v≤((p0.length:Nat):Int):=by
  unfold jV
  refine lF (P:=fun k:Int=>0≤k∧k≤((p0.length:Nat):Int)) (Q:=fun z:Step Int (List Trail)=>∀v,z=.next v→0≤v∧v≤((p0.length:Nat):Int)) (vZ (P:=fun k:Int=>0≤k∧k≤((p0.length:Nat):Int)) (fun s hs=>?_) _ _ ⟨by omega,by omega⟩) (fun v hv w hw=>by cases hw;exact hv)
  unfold iI
  by_cases hp:s < ((p0.length:Nat):Int)
  · have hd:decide (s < ((p0.length:Nat):Int))=true:=by simpa using hp
    rw [hd,cond_true,wrap_small (by omega) (by omega)]
    exact cO (dD (by omega)) (rC hs)
  · have hd:decide (s < ((p0.length:Nat):Int))=false:=by simpa using hp
    rw [hd,cond_false]
    exact rC hs
 exact key v h
theorem c1a (p0:(List Trail)) (p1:Span) (p2:Int) (p3:Int) (hs:bdS Trail.bd 1048576 p0) (hs2:p1.Attrs.length≤1048576):FnOk prog 199 [.one (.s false 4 (List.map (Trail.cells false) p0)),.agg ((Span.cells false) p1),.one (.v (.int .i64 p2)),.one (.v (.int .i64 p3))] ⟨.one (.s true 4 (List.map (Trail.cells true) (eI p0 p1 p2 p3))),[],[],false⟩:=by
 refine FnOk.intro (E:=env) aK aS func199 rfl (by kernel_rfl) rfl rfl ?_
 have hg:=eI.eq_1 p0 p1 p2 p3
 have hown:∀g:(List Trail),AV.Own (AV.one (.s true 4 (List.map (Trail.cells true) g))):=fun g=>fF pC _
 refine aA (aB (m:=0) rfl (aA (.inl (⟨_,_,oV p0 (by have q0:=hs.1;have q1:=(bN (l:=p0) (k:=p1.Trace));exact bdS.mono hs (by omega) (mC (by omega))),(FzAs.same _),aB (m:=2) rfl (aA (.inl (⟨_,_,xY p0 p1.Trace,(FzAs.same _),aB (m:=4) rfl (aA (aA (brD hg (fun hg h1=>?_) (fun hg h1=>?_))))⟩)))⟩))))
 · refine aA (.inr (.inl ⟨(.pre 0 (.pre 1 (.pre 2 (.pre 3 (.pre 4 (.pre 5 (.seg 10 4 (.q 6 (.q 7 (.o 8 (.o 9 .leaf)))) (.tail 10)))))))),by kernel_rfl,bK (by have q0:=hs.1;have q1:=(bN (l:=p0) (k:=p1.Trace));(try simp only [dG] at *);(try simp only [List.length_map]);(try have q7:=hI2);(omega)) (cZ (i:=((aL p0 p1.Trace)).toNat) (l:=(cI p0)) (by exact Nat.zero_add _) (fun hq2=>⟨_,_,gV p1 (by have q0:=hs.1;have q1:=(bN (l:=p0) (k:=p1.Trace));omega),(FzAs.same _),aB (m:=5) rfl (.inl (aB (m:=6) rfl (.inr (.inr (.inr (cZ (i:=((aL p0 p1.Trace)).toNat) (l:=(cI p0)) (by exact Nat.zero_add _) (fun hq3=>aB (m:=8) rfl (.inl (aV (Y:=List.map (Span.cells true) (((cI p0)[((aL p0 p1.Trace)).toNat]?.getD default).Spans++[(aX p1)])) (by simp [bX,bP,-List.map_take,-List.map_drop,-List.drop_one,aQ,aR,a0h,bY a0h,iC b3o];rfl) (cS (b:=64) (hs:=by have q0:=hs.1;have q1:=(bN (l:=p0) (k:=p1.Trace));(try simp only [dG] at *);have q8:=yX hs (aL p0 p1.Trace).toNat;(try have q9:=q3);refine ⟨?_,?_⟩;(show List.length _*64≤_);(try simp only [LN]);omega;(try simp only [LN]);omega) ?_))))))))))⟩))⟩))
   refine aB (m:=9) rfl (bK (by have q0:=hs.1;have q1:=(bN (l:=p0) (k:=p1.Trace));(try simp only [dG] at *);(try simp only [List.length_map]);(try have q7:=hI2);(omega)) (.inl (aV (Y:=List.map (Trail.cells true) (List.set (cI p0) ((aL p0 p1.Trace)).toNat { ((cI p0)[((aL p0 p1.Trace)).toNat]?.getD default) with Spans:=(((cI p0)[((aL p0 p1.Trace)).toNat]?.getD default).Spans++[(aX p1)]) })) (by exact (a0e (f:=(Trail.cells true)) (fun _=>(by decide:3 < 4))).trans (dC (by simp) (fun a ha=>by simp only [ha,Option.getD_some];rfl))) ?_)))
   exact aA (aE hown hg)
 · refine aA (eA hg [0,2,3,5] (fun x1=>[(10,.one (.v (.int .i64 x1.s)))]) (fun x1=>[.keep 0,.dead,.dead,.dead]) (fun hb1=>?_) (fun x1 hg=>?_))
   · refine have hb1:=hb1.trans (jV.eq_1 ..);a6s (m:=(fun k:Int=>((p0.length:Nat):Int).toNat - k.toNat)) (s0:=0) (fun k:Int=>0≤k∧k≤((p0.length:Nat):Int)) hb1 (by have q0:=hs.1;exact ⟨by omega,by omega⟩) [0,2,3,5] (fun x2=>[(10,.one (.v (.int .i64 x2.s)))]) (fun x2=>[.keep 0,.dead,.dead,.dead]) [some 0,none,none,none] ((by repeat' constructor)) (fun x2=>?_)
     have hI2:=x2.hI
     try dsimp only at hI2
     exact have hb2:=x2.bdy.trans (iI.eq_1 ..);aA (aA (.inl ⟨by kernel_rfl,bJ fun hN4=>brD hb2 (fun hb2 h5=>lA (l:=p0) (by have q0:=hs.1;have q1:=(bN (l:=p0) (k:=p1.Trace));(try simp only [dG] at *);(try simp only [List.length_map]);(try have q7:=hI2);(omega)) (fun hq6=>brD hb2 (fun hb2 h7=>x2.goE hb2 (show (fun k:Int=>0≤k∧k≤((p0.length:Nat):Int)) (IntKind.i64.wrap (x2.s+1))∧(fun k:Int=>((p0.length:Nat):Int).toNat - k.toNat) (IntKind.i64.wrap (x2.s+1)) < (fun k:Int=>((p0.length:Nat):Int).toNat - k.toNat) x2.s by have q0:=hs.1;have q1:=(bN (l:=p0) (k:=p1.Trace));exact ⟨⟨by ((simp (disch:=omega) only [wrap_small,eS,eY,fP,fO,List.length_map,List.length_set] <;> omega)),by ((simp (disch:=omega) only [wrap_small,eS,eY,fP,fO,List.length_map,List.length_set] <;> omega))⟩,by ((simp (disch:=omega) only [wrap_small,eS,eY,fP,fO,List.length_map,List.length_set] <;> omega))⟩) [some 0,none,none,none] (by repeat' constructor)) (fun hb2 h7=>have hb1:=bZ hb1 (x2.outS hb2);.inl ⟨⟨_,hb1⟩,[some 0,none,none,none],(by repeat' constructor)⟩))) (fun hb2 h5=>have hb1:=bZ hb1 (x2.outS hb2);.inl ⟨⟨_,hb1⟩,[some 0,none,none,none],(by repeat' constructor)⟩)⟩))
   refine have q3:=d7h hs x1.e;eA hg [0,10] (fun x3=>[(11,.one (.p 7 [] 0 0 0))]) (fun x3=>[.dead,.dead,.dead,.dead,.dead,.dead,.new ⟨6,false,List.map (Span.cells true) [(aX p1)],0⟩,.new ⟨4,true,[[.v (.int .i64 p1.Trace),.v (.int .i64 p2),.v (.int .i64 p3),.n 6 [] 1 0 1]],0⟩]) (fun hb3=>have hb3:=hb3.trans (a5w.eq_1 ..);.inr (.inl ⟨(.seg 10 10 (.q 0 (.q 1 (.q 2 (.q 3 (.q 4 (.b 5 (.b 6 (.b 7 (.o 8 (.w 9 .leaf)) 8 (.o 7 (.w 9 .leaf))) 8 (.o 6 (.o 7 (.w 9 .leaf)))) 8 (.o 5 (.o 6 (.o 7 (.w 9 .leaf)))))))))) .done),by kernel_rfl,And.intro (⟨_,_,gV p1 (by have q0:=hs.1;have q1:=(bN (l:=p0) (k:=p1.Trace));omega),(FzAs.same _),aB (m:=5) rfl (And.intro (.inl (aB (m:=6) rfl (And.intro (aB (m:=7) rfl (.inl ⟨⟨_,hb3⟩,[none,none,none,none,none,none,some 6,some 7],(by repeat' constructor)⟩)) (aB (m:=7) rfl (.inl ⟨⟨_,hb3⟩,[none,none,none,none,none,none,some 6,some 7],(by repeat' constructor)⟩))))) (aB (m:=6) rfl (.inl (aB (m:=7) rfl (.inl ⟨⟨_,hb3⟩,[none,none,none,none,none,none,some 7,some 6],(by repeat' constructor)⟩)))))⟩) (aB (m:=4) rfl (⟨_,_,gV p1 (by have q0:=hs.1;have q1:=(bN (l:=p0) (k:=p1.Trace));omega),(FzAs.same _),aB (m:=6) rfl (.inl (aB (m:=7) rfl (.inl ⟨⟨_,hb3⟩,[none,none,none,none,none,none,some 7,some 4],(by repeat' constructor)⟩)))⟩))⟩)) (fun x3 hg=>aA (.inr (.inr ⟨(.q 0 (.q 1 (.q 2 (.q 7 (.q 8 (.q 9 (.z 4 (.b 3 [4] (.m 5 [] (.m 6 [] (.m 10 [] (.m 11 [] (.m 12 [] .leaf))))) 5 [] (.m 3 [] (.m 6 [] (.m 10 [] (.m 11 [] (.m 12 [] .leaf))))))))))))),by kernel_rfl,And.intro (by have q0:=hs.1;have q1:=(bN (l:=p0) (k:=p1.Trace));have q9:=q3;exact ⟨by omega,by omega,by (simp only [List.length_map];omega)⟩) (aV (Y:=List.map (Trail.cells false) (List.take ((x1.s).toNat - 0) (List.drop 0 p0))) (by simp only [aQ,aR];rfl) (And.intro (by have q0:=hs.1;have q1:=(bN (l:=p0) (k:=p1.Trace));have q9:=q3;exact ⟨by omega,by (simp only [List.length_map];omega),by omega⟩) (aV (Y:=List.map (Trail.cells false) (List.take ((p0).length - (x1.s).toNat) (List.drop (x1.s).toNat p0))) (by simp only [aQ,aR,List.length_map,Int.toNat_natCast];done) (And.intro ?_ ?_))))⟩)))
   · refine .inl (⟨_,_,oV (List.take ((x1.s).toNat - 0) (List.drop 0 p0)) (by have q0:=hs.1;have q1:=(bN (l:=p0) (k:=p1.Trace));exact bdS.mono (bdS.take hs _) (by omega) (mC (by omega))),(FzAs.same _),aB (m:=9) rfl (And.intro (And.intro (⟨rfl,rfl⟩) trivial) (.inl (aB (m:=10) rfl (And.intro trivial (.inl (aV (Y:=List.map (Trail.cells true) ((cI (List.take ((x1.s).toNat - 0) (List.drop 0 p0)))++[(Trail.mk p1.Trace p2 p3 [(aX p1)])])) (by simp [bX,bP,-List.map_take,-List.map_drop,-List.drop_one,aQ,aR,jH,bY jH,iC sN];rfl) (cS (b:=48) (hs:=by have q0:=hs.1;have q1:=(bN (l:=p0) (k:=p1.Trace));(try simp only [dG] at *);have q8:=yX hs (aL p0 p1.Trace).toNat;(try have q9:=q3);refine ⟨?_,?_⟩;(show List.length _*48≤_);(try simp only [LN]);omega;(try simp only [LN]);omega) ?_)))))))⟩)
     refine aB (m:=11) rfl (And.intro trivial (.inl (⟨_,_,oV (List.take ((p0).length - (x1.s).toNat) (List.drop (x1.s).toNat p0)) (by have q0:=hs.1;have q1:=(bN (l:=p0) (k:=p1.Trace));exact bdS.mono (bdS.take (bdS.drop hs _) _) (by omega) (mC (by omega))),(FzAs.same _),aB (m:=13) rfl (And.intro trivial (.inl (aV (Y:=List.map (Trail.cells true) (((cI (List.take ((x1.s).toNat - 0) (List.drop 0 p0)))++[(Trail.mk p1.Trace p2 p3 [(aX p1)])])++(cI (List.take ((p0).length - (x1.s).toNat) (List.drop (x1.s).toNat p0))))) (by simp [bX,bP,-List.map_take,-List.map_drop,-List.drop_one,aQ,aR,jH,bY jH,iC sN];done) (cS (b:=48) (hs:=by have q0:=hs.1;have q1:=(bN (l:=p0) (k:=p1.Trace));(try simp only [dG] at *);have q8:=yX hs (aL p0 p1.Trace).toNat;(try have q9:=q3);refine ⟨?_,?_⟩;(show List.length _*48≤_);(try simp only [LN]);omega;(try simp only [LN]);omega) ?_))))⟩)))
     exact aB (m:=14) rfl (And.intro trivial (And.intro trivial (aE hown hg)))
   refine .inl (aB (m:=8) rfl (And.intro trivial (.inl (⟨_,_,oV (List.take ((x1.s).toNat - 0) (List.drop 0 p0)) (by have q0:=hs.1;have q1:=(bN (l:=p0) (k:=p1.Trace));exact bdS.mono (bdS.take hs _) (by omega) (mC (by omega))),(FzAs.same _),aB (m:=10) rfl (And.intro trivial (.inl (aV (Y:=List.map (Trail.cells true) ((cI (List.take ((x1.s).toNat - 0) (List.drop 0 p0)))++[(Trail.mk p1.Trace p2 p3 [(aX p1)])])) (by simp [bX,bP,-List.map_take,-List.map_drop,-List.drop_one,aQ,aR,jH,bY jH,iC sN];rfl) (cS (b:=48) (hs:=by have q0:=hs.1;have q1:=(bN (l:=p0) (k:=p1.Trace));(try simp only [dG] at *);have q8:=yX hs (aL p0 p1.Trace).toNat;(try have q9:=q3);refine ⟨?_,?_⟩;(show List.length _*48≤_);(try simp only [LN]);omega;(try simp only [LN]);omega) ?_))))⟩))))
   refine aB (m:=11) rfl (And.intro trivial (.inl (⟨_,_,oV (List.take ((p0).length - (x1.s).toNat) (List.drop (x1.s).toNat p0)) (by have q0:=hs.1;have q1:=(bN (l:=p0) (k:=p1.Trace));exact bdS.mono (bdS.take (bdS.drop hs _) _) (by omega) (mC (by omega))),(FzAs.same _),aB (m:=13) rfl (And.intro trivial (.inl (aV (Y:=List.map (Trail.cells true) (((cI (List.take ((x1.s).toNat - 0) (List.drop 0 p0)))++[(Trail.mk p1.Trace p2 p3 [(aX p1)])])++(cI (List.take ((p0).length - (x1.s).toNat) (List.drop (x1.s).toNat p0))))) (by simp [bX,bP,-List.map_take,-List.map_drop,-List.drop_one,aQ,aR,jH,bY jH,iC sN];done) (cS (b:=48) (hs:=by have q0:=hs.1;have q1:=(bN (l:=p0) (k:=p1.Trace));(try simp only [dG] at *);have q8:=yX hs (aL p0 p1.Trace).toNat;(try have q9:=q3);refine ⟨?_,?_⟩;(show List.length _*48≤_);(try simp only [LN]);omega;(try simp only [LN]);omega) ?_))))⟩)))
   exact aB (m:=14) rfl (And.intro trivial (And.intro trivial (aE hown hg)))
theorem c7b {p0:List Trail} {p1:Span} (q0:p0.length≤1048576):∃v,jV p0 p1=.next v∧0≤v∧v≤((p0.length:Nat):Int):=by
 unfold jV
 refine lF (P:=fun k:Int=>0≤k∧k≤((p0.length:Nat):Int)) (Q:=fun z:Step Int (List Trail)=>∃v,z=.next v∧0≤v∧v≤((p0.length:Nat):Int)) (vZ (P:=fun k:Int=>0≤k∧k≤((p0.length:Nat):Int)) (fun s hs=>?_) _ _ ⟨by omega,by omega⟩) (fun v hv=>⟨v,rfl,hv⟩)
 unfold iI
 by_cases hp:s < ((p0.length:Nat):Int)
 · have hd:decide (s < ((p0.length:Nat):Int))=true:=by simpa using hp
   rw [hd,cond_true,wrap_small (by omega) (by omega)]
   exact cO (dD (by omega)) (rC hs)
 · have hd:decide (s < ((p0.length:Nat):Int))=false:=by simpa using hp
   rw [hd,cond_false]
   exact rC hs
theorem c1n {n:Nat} {l:List Trail} {s:Span} {a b:Int} (h:bdS Trail.bd n l) (hs:Span.bd (n+1) s) (hn:n≤1000000):bdS Trail.bd (n+1) (eI l s a b):=by
 have hm:bdS Trail.bd (n+1) l:=bdS.mono h (Nat.le_succ n) (mC (Nat.le_succ n))
 unfold eI
 refine aH (P:=bdS Trail.bd (n+1)) (fun _=>?_) (fun _=>?_)
 · rw [dG]
   have hk:Trail.bd n (l[(aL l s.Trace).toNat]?.getD default):=iM h fN _
   exact a0j hm (a8k hk (Nat.le_refl _) (nM (Nat.le_succ n)) hs)
 · obtain ⟨v,e,h0,h1⟩:=c7b (p0:=l) (p1:=s) (by have:=h.1;omega)
   rw [e]
   show bdS Trail.bd (n+1) (((cI (List.take (v.toNat - 0) (List.drop 0 l)))++[(Trail.mk s.Trace a b [(aX s)])])++(cI (List.take (l.length - v.toNat) (List.drop v.toNat l))))
   rw [dG,dG]
   refine ⟨by have:=h.1;simp only [List.length_append,List.length_cons,List.length_nil,List.length_take,List.length_drop];omega,fun x hx=>?_⟩
   rcases List.mem_append.1 hx with hx | hx
   · rcases List.mem_append.1 hx with hx | hx
     · exact hm.2 x (List.mem_of_mem_drop (List.mem_of_mem_take hx))
     · obtain rfl:=List.mem_singleton.1 hx
       exact ⟨Nat.succ_le_succ (Nat.zero_le n),fun y hy=>by obtain rfl:=List.mem_singleton.1 hy;exact hs⟩
   · exact hm.2 x (List.mem_of_mem_drop (List.mem_of_mem_take hx))
def a1s:Step (Unit) (Bool×World) :=
 (.next ())
def fX (p0:World) (p1:Int):Step (Unit) (Bool×World) :=
 (bif (bQ p0.Cache (p0.Tasks[(p1).toNat]?.getD default).S.Trace).2 then (bif (bQ p0.Cache (p0.Tasks[(p1).toNat]?.getD default).S.Trace).1.Keep then (bif (decide ((((p0.Queue).length:Nat):Int)≥p0.C.Queue)) then (.done (false,p0)) else (aZ (fT { p0 with Queue:=(p0.Queue++[(Item.mk (bQ p0.Cache (p0.Tasks[(p1).toNat]?.getD default).S.Trace).1.Stamp (aX (p0.Tasks[(p1).toNat]?.getD default).S))]) } p1 2 (bQ p0.Cache (p0.Tasks[(p1).toNat]?.getD default).S.Trace).1.Stamp) fun (v2:World)=>(.done (true,{ v2 with Cache:=p0.Cache,Due:=p0.Due,Queue:=(p0.Queue++[(Item.mk (bQ p0.Cache (p0.Tasks[(p1).toNat]?.getD default).S.Trace).1.Stamp (aX (p0.Tasks[(p1).toNat]?.getD default).S))]),Out:=p0.Out })))) else (.next ())) else (.next ()))
def a1r:Step (Unit) (Bool×World) :=
 (.next ())
def fW (p0:World) (p1:Int):Step (World×Int) (Bool×World) :=
 (bif (!(aC p0.St (p0.Tasks[(p1).toNat]?.getD default).S.Trace).2) then (.next ({ p0 with W:=(iW p0.W (Timer.mk p0.Next (p0.Tasks[(p1).toNat]?.getD default).S.Trace (gU p0.C p0.W.Now))).1,Next:=(IntKind.i64.wrap (p0.Next+1)) },p0.Next)) else (.next (p0,(aC p0.St (p0.Tasks[(p1).toNat]?.getD default).S.Trace).1.Stamp)))
def fM (p0:World) (p1:Int):(Bool×World) :=
 (bif p0.Shut then (aZ (fT p0 p1 4 0) fun (v1:World)=>(true,{ v1 with Cache:=p0.Cache,Due:=p0.Due,Queue:=p0.Queue,Out:=p0.Out })) else (Step.get (fun s1=>(Step.get (fun s2=>(bif (bQ p0.Cache (p0.Tasks[(p1).toNat]?.getD default).S.Trace).2 then (aZ (fT p0 p1 3 (bQ p0.Cache (p0.Tasks[(p1).toNat]?.getD default).S.Trace).1.Stamp) fun (v3:World)=>(true,{ v3 with Cache:=p0.Cache,Due:=p0.Due,Queue:=p0.Queue,Out:=p0.Out })) else (bif (decide ((IntKind.i64.wrap (p0.Used+(cY (p0.Tasks[(p1).toNat]?.getD default).S))) > p0.C.Budget)) then (true,{ p0 with St:=(List.set p0.St ((aD (p0.Tasks[(p1).toNat]?.getD default).S.Trace (((p0.St).length:Nat):Int))).toNat (Stripe.mk (-1) (p0.St[((aD (p0.Tasks[(p1).toNat]?.getD default).S.Trace (((p0.St).length:Nat):Int))).toNat]?.getD default).L)),Tasks:=(List.set p0.Tasks (p1).toNat { (p0.Tasks[(p1).toNat]?.getD default) with Pc:=2 }) }) else (Step.get (fun s3=>(Step.get (fun s4=>(aZ (fT { s4.1 with St:=(List.set s4.1.St ((aD (p0.Tasks[(p1).toNat]?.getD default).S.Trace (((p0.St).length:Nat):Int))).toNat (Stripe.mk (s4.1.St[((aD (p0.Tasks[(p1).toNat]?.getD default).S.Trace (((p0.St).length:Nat):Int))).toNat]?.getD default).Held (eI (s4.1.St[((aD (p0.Tasks[(p1).toNat]?.getD default).S.Trace (((p0.St).length:Nat):Int))).toNat]?.getD default).L (p0.Tasks[(p1).toNat]?.getD default).S s4.2 s4.1.W.Now))),Used:=(IntKind.i64.wrap (s4.1.Used+(cY (p0.Tasks[(p1).toNat]?.getD default).S))) } p1 1 s4.2) fun (v4:World)=>(true,{ v4 with Cache:=s4.1.Cache,Due:=s4.1.Due,Queue:=s4.1.Queue,Out:=s4.1.Out }))) (fW p0 p1))) (a1r))))) (fX p0 p1))) (a1s)))
theorem c8u {n m:Nat} {w:World} {k:Int} (h:WI n w) (hm:n≤m) {s:World×Int} (e:fW w k=.next s):WI m s.1∧s.1.Tasks=w.Tasks∧s.1.St=w.St:=by
 unfold fW at e
 exact dO (Q:=WI m s.1∧s.1.Tasks=w.Tasks∧s.1.St=w.St) (fun _ e=>by cases e;exact ⟨((h.mono hm).ww (b8h h.wb)).free,rfl,rfl⟩) (fun _ e=>by cases e;exact ⟨h.mono hm,rfl,rfl⟩) e
theorem b4i (p0:World) (p1:Int) (u2:Value) (u4:Value) (hu2:fit u2=true) (hu4:fit u4=true) (hw:WI 830000 p0) (hi:0≤p1∧p1 < 5) (ho:(p0.Tasks[p1.toNat]?.getD default).Op≠0):FnOk prog 181 [.tup [.one (.b (World.cv none none (some u2) none (some u4) none none p0))],.one (.v (.int .i64 p1))] ⟨.one (.v (.bool (fM p0 p1).1)),[.one (.b (World.cv none none (some u2) none (some u4) none none (fM p0 p1).2))],[],false⟩:=by
 refine FnOk.introV (E:=env) aK aS func181 rfl (by kernel_rfl) rfl ?_
 have hg:=fM.eq_1 p0 p1
 have hown:(false=false→∀g:(Bool×World),AV.Own (AV.one (.v (.bool g.1))))∧(fun g:(Bool×World)=>World.cv none none (some u2) none (some u4) none none g.2)=_∧(fun g:(Bool×World)=>AV.one (.v (.bool g.1)))=_:=⟨fun _ g=>.v _,rfl,rfl⟩
 refine aA (aA (bK (by have qt:=hw.tl;have qd:=hw.at p1.toNat ho;(try have q3:=congrArg List.length hJ.2.2);(simp only [List.length_map,List.length_set];omega)) (cZ (i:=(p1).toNat) (l:=p0.Tasks) (by exact Nat.zero_add _) (fun hq1=>aB (m:=7) rfl (aA (.inl ⟨by kernel_rfl,kD (k:=(p0.St).length) (by simp) (fun hN2=>⟨_,_,iS (p0.Tasks[(p1).toNat]?.getD default).S.Trace (((p0.St).length:Nat):Int),(FzAs.same _),aA (aA (brE hg (fun hg h3=>aA (.inr ⟨0,[false,false,false,false,false,false,false,false,false,false,false,false,false,false,false,false,false,false,false,false,true,false,false,false,false,false,true,true,true],fun us4 hu4=>⟨_,(.same _),_,_,_,_,_,vD p0 p1 4 0 (us4 20) (us4 26) (us4 27) (us4 28) (hu4 20) (hu4 26) (hu4 27) (hu4 28) (by exact hw.mono (by omega)) (by exact hi) (by exact ho),(FzAs.same _),(.same _),⟨rfl,rfl,rfl,rfl,trivial⟩,World,(fT p0 p1 4 0),(fun g=>World.cv none (some (us4 20)) (some (us4 26)) (some (us4 27)) (some (us4 28)) none none g),(fun g=>.tup []),rfl,rfl,fun v1 hvv1=>aB (m:=9) rfl (aB (m:=12) rfl (have hg:=bG hvv1 hg;aA (bO hown hg)))⟩⟩)) (fun hg h3=>eA hg [0,1,5,6] (fun x1=>[(7,.one (.p 9 [] 0 0 0)),(8,.one (.v (.bool (bQ p0.Cache (p0.Tasks[(p1).toNat]?.getD default).S.Trace).2)))]) (fun x1=>[.keep 0,.dead,.keep 2,.keep 3,.keep 4,.keep 5,.keep 6,.keep 7,.dead,.new ⟨3,true,[[.v (.int .i64 (bQ p0.Cache (p0.Tasks[(p1).toNat]?.getD default).S.Trace).1.Trace),.v (.int .i64 (bQ p0.Cache (p0.Tasks[(p1).toNat]?.getD default).S.Trace).1.Stamp),.v (.bool (bQ p0.Cache (p0.Tasks[(p1).toNat]?.getD default).S.Trace).1.Keep)]],0⟩]) (fun hb1=>have hb1:=hb1.trans (a1s.eq_1 ..);.inr (.inl ⟨(.seg 14 14 (.q 0 (.q 1 (.q 2 (.q 3 (.q 4 (.q 5 (.q 6 (.b 7 (.s 8 (.s 9 (.s 10 (.o 11 (.w 12 (.o 13 .leaf)))))) 11 (.o 7 (.o 8 (.s 9 (.s 10 (.w 12 (.o 13 .leaf)))))))))))))) .done),by kernel_rfl,And.intro (⟨_,_,a1g p0.Cache (p0.Tasks[(p1).toNat]?.getD default).S.Trace,(FzAs.same _),aB (m:=9) rfl (aB (m:=9) rfl (.inl ⟨⟨_,hb1⟩,[some 0,none,some 2,some 3,some 4,some 5,some 6,some 7,none,some 9],(by repeat' constructor)⟩))⟩) (aB (m:=8) rfl (⟨_,_,a1g p0.Cache (p0.Tasks[(p1).toNat]?.getD default).S.Trace,(FzAs.same _),aB (m:=10) rfl (.inl ⟨⟨_,hb1⟩,[some 0,none,some 2,some 3,some 4,some 5,some 6,some 7,none,some 8],(by repeat' constructor)⟩)⟩))⟩)) (fun x1 hg=>eA hg [0,1,5,6,7,8] (fun x2=>[]) (fun x2=>[.keep 0,.dead,.keep 2,.keep 3,.keep 4,.keep 5,.keep 6,.keep 7,.dead,.keep 9]) (fun hb2=>?_) (fun x2 hg=>?_)))))⟩)⟩))))))
 · refine have hb2:=hb2.trans (fX.eq_1 ..);aA (brE hb2 (fun hb2 h5=>brE hb2 (fun hb2 h6=>aA (aA (.inl ⟨by kernel_rfl,kD (k:=(p0.Queue).length) (by simp) (fun hN7=>brD hb2 (fun hb2 h8=>aA (have hg:=getD hg hb2;bO hown hg)) (fun hb2 h8=>aA (.inr (.inl ⟨(.pre 0 (.pre 1 (.pre 5 (.pre 7 (.seg 12 8 (.q 2 (.q 3 (.q 4 (.q 6 (.q 8 (.o 9 (.o 10 (.o 11 .leaf)))))))) (.tail 12)))))),by kernel_rfl,⟨_,_,(FnOk.conv (.one (FzR.frzA (tD _)) (fun _ h=>by cases h) (fun _ h=>by cases h)) (gV (p0.Tasks[(p1).toNat]?.getD default).S (by exact Nat.le_trans (hw.task _).1.1 (by omega)))),(FzAs.same _),aB (m:=11) rfl (.inl (aB (m:=11) rfl (.inr (.inl (aV (Y:=List.map (Item.cells false) (p0.Queue++[(Item.mk (bQ p0.Cache (p0.Tasks[(p1).toNat]?.getD default).S.Trace).1.Stamp (aX (p0.Tasks[(p1).toNat]?.getD default).S))])) (by simp [bX,bP,-List.map_take,-List.map_drop,-List.drop_one,aQ,aR,mV,bY mV,iC xK];rfl) (cS (b:=72) (hs:=by have a1:=hw.db.1;have a2:=hw.q.1;have a3:=hw.o.1;have a4:=hw.d.1;have a5:=hw.s.1;refine ⟨?_,?_⟩;(show List.length _*72≤_);(try simp only [LN]);omega;(try simp only [LN]);omega) ?_))))))⟩⟩))))⟩))) (fun hb2 h6=>.inl ⟨⟨_,hb2⟩,[some 0,none,some 2,some 3,some 4,some 5,some 6,some 7,none,some 9],(by repeat' constructor)⟩)) (fun hb2 h5=>.inl ⟨⟨_,hb2⟩,[some 0,none,some 2,some 3,some 4,some 5,some 6,some 7,none,some 9],(by repeat' constructor)⟩))
   exact aB (m:=12) rfl (aA (.inr ⟨0,[false,false,false,false,false,false,false,false,false,false,false,false,false,false,false,false,false,false,false,false,true,false,false,false,false,false,true,true,true],fun us9 hu9=>⟨_,(.same _),_,_,_,_,_,vD { p0 with Queue:=(p0.Queue++[(Item.mk (bQ p0.Cache (p0.Tasks[(p1).toNat]?.getD default).S.Trace).1.Stamp (aX (p0.Tasks[(p1).toNat]?.getD default).S))]) } p1 2 (bQ p0.Cache (p0.Tasks[(p1).toNat]?.getD default).S.Trace).1.Stamp (us9 20) (us9 26) (us9 27) (us9 28) (hu9 20) (hu9 26) (hu9 27) (hu9 28) (by exact (hw.mono (by omega)).qs (by exact a9m hw (by omega) (hw.task _).1)) (by exact hi) (by exact ho),(FzAs.same _),(.same _),⟨rfl,rfl,rfl,rfl,trivial⟩,World,(fT { p0 with Queue:=(p0.Queue++[(Item.mk (bQ p0.Cache (p0.Tasks[(p1).toNat]?.getD default).S.Trace).1.Stamp (aX (p0.Tasks[(p1).toNat]?.getD default).S))]) } p1 2 (bQ p0.Cache (p0.Tasks[(p1).toNat]?.getD default).S.Trace).1.Stamp),(fun g=>World.cv none (some (us9 20)) (some (us9 26)) (some (us9 27)) (some (us9 28)) none none g),(fun g=>.tup []),rfl,rfl,fun v2 hvv2=>aB (m:=14) rfl (aB (m:=17) rfl (have hb2:=bG hvv2 hb2;aA (have hg:=getD hg hb2;bO hown hg)))⟩⟩))
 refine aA (aA (brE hg (fun hg h10=>aA (.inr ⟨0,[false,false,false,false,false,false,false,false,false,false,false,false,false,false,false,false,false,false,false,false,true,false,false,false,false,false,true,true,true],fun us11 hu11=>⟨_,(.same _),_,_,_,_,_,vD p0 p1 3 (bQ p0.Cache (p0.Tasks[(p1).toNat]?.getD default).S.Trace).1.Stamp (us11 20) (us11 26) (us11 27) (us11 28) (hu11 20) (hu11 26) (hu11 27) (hu11 28) (by exact hw.mono (by omega)) (by exact hi) (by exact ho),(FzAs.same _),(.same _),⟨rfl,rfl,rfl,rfl,trivial⟩,World,(fT p0 p1 3 (bQ p0.Cache (p0.Tasks[(p1).toNat]?.getD default).S.Trace).1.Stamp),(fun g=>World.cv none (some (us11 20)) (some (us11 26)) (some (us11 27)) (some (us11 28)) none none g),(fun g=>.tup []),rfl,rfl,fun v3 hvv3=>aB (m:=11) rfl (aB (m:=14) rfl (have hg:=bG hvv3 hg;aA (bO hown hg)))⟩⟩)) (fun hg h10=>aA (aA (.inl ⟨by kernel_rfl,⟨_,_,oW (p0.Tasks[(p1).toNat]?.getD default).S,(FzAs.same _),brD hg (fun hg h12=>?_) (fun hg h12=>?_)⟩⟩)))))
 · refine aA (bK (by have qt:=hw.tl;have qd:=hw.at p1.toNat ho;(try have q3:=congrArg List.length hJ.2.2);(simp only [List.length_map,List.length_set];exact stO hw.sl)) (.inl (aV (Y:=List.map (Stripe.cells false) (List.set p0.St ((aD (p0.Tasks[(p1).toNat]?.getD default).S.Trace (((p0.St).length:Nat):Int))).toNat (Stripe.mk (-1) (p0.St[((aD (p0.Tasks[(p1).toNat]?.getD default).S.Trace (((p0.St).length:Nat):Int))).toNat]?.getD default).L))) (by exact dC (by simp) (fun a ha=>by simp only [ha,Option.getD_some];rfl)) ?_)))
   refine aA (bK (by have qt:=hw.tl;have qd:=hw.at p1.toNat ho;(try have q3:=congrArg List.length hJ.2.2);(simp only [List.length_map,List.length_set];omega)) (.inl (aV (Y:=List.map (Task.cells false) (List.set p0.Tasks (p1).toNat { (p0.Tasks[(p1).toNat]?.getD default) with Pc:=2 })) (by exact dC (by simp) (fun a ha=>by simp only [ha,Option.getD_some];rfl)) ?_)))
   exact aA (bO hown hg)
 · refine eA hg [0,1,5,6] (fun x3=>[(9,.one (.p 11 [] 0 0 0)),(10,.one (.v (.bool (aC p0.St (p0.Tasks[(p1).toNat]?.getD default).S.Trace).2)))]) (fun x3=>[.keep 0,.dead,.keep 2,.keep 3,.keep 4,.keep 5,.keep 6,.keep 7,.dead,.dead,.dead,.new ⟨4,true,[[.v (.int .i64 (aC p0.St (p0.Tasks[(p1).toNat]?.getD default).S.Trace).1.Id),.v (.int .i64 (aC p0.St (p0.Tasks[(p1).toNat]?.getD default).S.Trace).1.Stamp),.v (.int .i64 (aC p0.St (p0.Tasks[(p1).toNat]?.getD default).S.Trace).1.First),.s false 6 (List.map (Span.cells false) (aC p0.St (p0.Tasks[(p1).toNat]?.getD default).S.Trace).1.Spans)]],0⟩]) (fun hb3=>have hb3:=hb3.trans (a1r.eq_1 ..);.inr (.inl ⟨(.seg 14 14 (.q 0 (.q 1 (.q 2 (.q 3 (.q 4 (.q 5 (.q 6 (.b 7 (.s 8 (.s 9 (.s 10 (.o 11 (.w 12 (.o 13 .leaf)))))) 11 (.o 7 (.o 8 (.s 9 (.s 10 (.w 12 (.o 13 .leaf)))))))))))))) .done),by kernel_rfl,And.intro (⟨_,_,(FnOk.conv (.tup (.cons (FzR.frzA (kM _)) (.cons (.same _) (.same _)))) (lR p0.St (p0.Tasks[(p1).toNat]?.getD default).S.Trace (by exact ⟨bdS.mono hw.s (by omega) (jS (by omega)),hw.sl.2⟩))),(FzAs.same _),aB (m:=11) rfl (aB (m:=11) rfl (.inl ⟨⟨_,hb3⟩,[some 0,none,some 2,some 3,some 4,some 5,some 6,some 7,none,none,none,some 11],(by repeat' constructor)⟩))⟩) (aB (m:=10) rfl (⟨_,_,(FnOk.conv (.tup (.cons (FzR.frzA (kM _)) (.cons (.same _) (.same _)))) (lR p0.St (p0.Tasks[(p1).toNat]?.getD default).S.Trace (by exact ⟨bdS.mono hw.s (by omega) (jS (by omega)),hw.sl.2⟩))),(FzAs.same _),aB (m:=12) rfl (.inl ⟨⟨_,hb3⟩,[some 0,none,some 2,some 3,some 4,some 5,some 6,some 7,none,none,none,some 10],(by repeat' constructor)⟩)⟩))⟩)) (fun x3 hg=>aA (eA hg [0,1,5,6] (fun x4=>[(11,.one (.v (.int .i64 x4.s.2)))]) (fun x4=>[.new ⟨32,true,[[.v (.int .i64 x4.s.1.C.Stripes),.v (.int .i64 x4.s.1.C.Wait),.v (.int .i64 x4.s.1.C.Budget),.v (.int .i64 x4.s.1.C.Cache),.v (.int .i64 x4.s.1.C.Queue),.v (.int .i64 x4.s.1.C.Rate),.v (.int .i64 x4.s.1.C.Burst),.v (.int .i64 x4.s.1.C.Rule.Kind),.v (.int .i64 x4.s.1.C.Rule.N),.v (.string x4.s.1.C.Rule.Key),.v (.string x4.s.1.C.Rule.Text),.s false 5 (List.map (Pol.cells false) x4.s.1.C.Rule.L),.v (.int .i64 x4.s.1.Time),.v (.bool x4.s.1.Shut),.n 2 [] 1 0 (x4.s.1.St).length,.v (.int .i64 x4.s.1.RuleHeld),.v (.int .i64 x4.s.1.B.Rate),.v (.int .i64 x4.s.1.B.Burst),.v (.int .i64 x4.s.1.B.Tokens),.v (.int .i64 x4.s.1.B.At),.n 3 [] 1 0 (x4.s.1.Cache).length,.v (.int .i64 x4.s.1.Used),.v (.int .i64 x4.s.1.W.Now),.s false 1 (List.map (cSl false 3 Timer.cells) x4.s.1.W.Near),.s false 1 (List.map (cSl false 3 Timer.cells) x4.s.1.W.Far),.s false 3 (List.map Timer.cells x4.s.1.W.Rest),.v u2,.n 4 [] 1 0 (x4.s.1.Queue).length,.v u4,.n 5 [] 1 0 (x4.s.1.Tasks).length,.n 6 [] 1 0 (x4.s.1.Deeds).length,.v (.int .i64 x4.s.1.Next)]],0⟩,.dead,.new ⟨2,false,List.map (Stripe.cells false) x4.s.1.St,0⟩,.new ⟨3,false,List.map Verdict.cells x4.s.1.Cache,0⟩,.new ⟨7,false,List.map (Item.cells false) x4.s.1.Queue,0⟩,.new ⟨12,false,List.map (Task.cells false) x4.s.1.Tasks,0⟩,.new ⟨20,false,List.map (Deed.cells false) x4.s.1.Deeds,0⟩,.keep 7,.dead,.dead,.dead,.dead,.dead,.dead]) (fun hb4=>have hb4:=hb4.trans (fW.eq_1 ..);aA (brE hb4 (fun hb4 h13=>aA (aA (aA (.inr (.inl ⟨(.seg 26 26 (.q 0 (.q 1 (.q 2 (.q 3 (.q 4 (.q 5 (.q 6 (.q 7 (.q 8 (.q 9 (.q 10 (.q 11 (.q 12 (.q 13 (.q 14 (.q 15 (.q 16 (.q 17 (.q 18 (.b 19 (.s 20 (.s 21 (.s 22 (.o 23 (.w 24 (.o 25 .leaf)))))) 23 (.o 19 (.o 20 (.s 21 (.s 22 (.w 24 (.o 25 .leaf)))))))))))))))))))))))))) .done),by kernel_rfl,⟨_,_,b2q p0.C p0.W.Now,(FzAs.same _),And.intro (⟨_,_,(FnOk.conv (.tup (.cons (FzR.frzA (tC _)) (.cons (.same _) (.same _)))) (b2n p0.W (Timer.mk p0.Next (p0.Tasks[(p1).toNat]?.getD default).S.Trace (gU p0.C p0.W.Now)) (by exact dL (by omega) hw.wb))),(FzAs.same _),aB (m:=13) rfl (aB (m:=13) rfl (.inl ⟨⟨_,hb4⟩,[some 0,none,some 2,some 3,some 4,some 5,some 6,some 7,none,none,none,none,none,none],(by repeat' first|constructor|(simp;done))⟩))⟩) (aB (m:=12) rfl (⟨_,_,(FnOk.conv (.tup (.cons (FzR.frzA (tC _)) (.cons (.same _) (.same _)))) (b2n p0.W (Timer.mk p0.Next (p0.Tasks[(p1).toNat]?.getD default).S.Trace (gU p0.C p0.W.Now)) (by exact dL (by omega) hw.wb))),(FzAs.same _),aB (m:=14) rfl (.inl ⟨⟨_,hb4⟩,[some 0,none,some 2,some 3,some 4,some 5,some 6,some 7,none,none,none,none,none,none],(by repeat' first|constructor|(simp;done))⟩)⟩))⟩⟩))))) (fun hb4 h13=>.inl ⟨⟨_,hb4⟩,[some 0,none,some 2,some 3,some 4,some 5,some 6,some 7,none,none,none,none,none,none],(by repeat' first|constructor|(simp;done))⟩))) (fun x4 hg=>have hJ:=c8u hw (m:=830001) (by omega) x4.e;aA (.inr (.inl ⟨(.seg 24 24 (.q 0 (.q 1 (.q 2 (.q 3 (.q 4 (.q 5 (.q 6 (.q 7 (.q 8 (.q 9 (.q 10 (.q 11 (.q 12 (.q 13 (.q 14 (.q 15 (.q 16 (.q 17 (.q 18 (.q 19 (.q 20 (.o 21 (.o 22 (.o 23 .leaf)))))))))))))))))))))))) (.tail 24)),by kernel_rfl,bK (by have qt:=hw.tl;have qd:=hw.at p1.toNat ho;(try have q3:=congrArg List.length hJ.2.2);(rw [hJ.2.2];exact stO hw.sl)) (cZ (i:=((aD (p0.Tasks[(p1).toNat]?.getD default).S.Trace (((p0.St).length:Nat):Int))).toNat) (l:=x4.s.1.St) (by exact Nat.zero_add _) (fun hq14=>⟨_,_,(FnOk.conv (.one (.one (.inn _ _ _ (bE kM _))) (fun _ h=>by cases h) (fun _ h=>by cases h)) (c1a (x4.s.1.St[((aD (p0.Tasks[(p1).toNat]?.getD default).S.Trace (((p0.St).length:Nat):Int))).toNat]?.getD default).L (p0.Tasks[(p1).toNat]?.getD default).S x4.s.2 x4.s.1.W.Now (by exact bdS.mono (hJ.1.str _) (by omega) (mC (by omega))) (by exact Nat.le_trans (hw.task _).1.1 (by omega)))),(FzAs.same _),aB (m:=15) rfl (bK (by have qt:=hw.tl;have qd:=hw.at p1.toNat ho;(try have q3:=congrArg List.length hJ.2.2);(rw [hJ.2.2];exact stO hw.sl)) (.inr (aV (Y:=List.map (Stripe.cells false) (List.set x4.s.1.St ((aD (p0.Tasks[(p1).toNat]?.getD default).S.Trace (((p0.St).length:Nat):Int))).toNat (Stripe.mk (x4.s.1.St[((aD (p0.Tasks[(p1).toNat]?.getD default).S.Trace (((p0.St).length:Nat):Int))).toNat]?.getD default).Held (eI (x4.s.1.St[((aD (p0.Tasks[(p1).toNat]?.getD default).S.Trace (((p0.St).length:Nat):Int))).toNat]?.getD default).L (p0.Tasks[(p1).toNat]?.getD default).S x4.s.2 x4.s.1.W.Now)))) (by exact dC (by simp) (fun a ha=>by (try simp only [rM,T.fzT,cK,bP,bE kM]);(simp only [ha,Option.getD_some];rfl))) ?_)))⟩))⟩)))))
   exact aA (.inr (.inl ⟨(.seg 11 11 (.q 0 (.q 1 (.q 2 (.q 3 (.q 4 (.q 5 (.q 6 (.q 7 (.q 8 (.q 9 (.q 10 .leaf))))))))))) (.tail 11)),by kernel_rfl,⟨_,_,oW (p0.Tasks[(p1).toNat]?.getD default).S,(FzAs.same _),aA (.inr ⟨0,[false,false,false,false,false,false,false,false,false,false,false,false,false,false,false,false,false,false,false,false,true,false,false,false,false,false,true,true,true],fun us15 hu15=>⟨_,(.same _),_,_,_,_,_,vD { x4.s.1 with St:=(List.set x4.s.1.St ((aD (p0.Tasks[(p1).toNat]?.getD default).S.Trace (((p0.St).length:Nat):Int))).toNat (Stripe.mk (x4.s.1.St[((aD (p0.Tasks[(p1).toNat]?.getD default).S.Trace (((p0.St).length:Nat):Int))).toNat]?.getD default).Held (eI (x4.s.1.St[((aD (p0.Tasks[(p1).toNat]?.getD default).S.Trace (((p0.St).length:Nat):Int))).toNat]?.getD default).L (p0.Tasks[(p1).toNat]?.getD default).S x4.s.2 x4.s.1.W.Now))),Used:=(IntKind.i64.wrap (x4.s.1.Used+(cY (p0.Tasks[(p1).toNat]?.getD default).S))) } p1 1 x4.s.2 (us15 20) (us15 26) (us15 27) (us15 28) (hu15 20) (hu15 26) (hu15 27) (hu15 28) (by exact (((hJ.1.mono (m:=830002) (by omega)).sk (by exact c1n (hJ.1.str _) (nM (by omega) _ (hw.task _).1) (by omega))).free).mono (by omega)) (by exact hi) (by rw [hJ.2.1];exact ho),(FzAs.same _),(.same _),⟨rfl,rfl,rfl,rfl,trivial⟩,World,(fT { x4.s.1 with St:=(List.set x4.s.1.St ((aD (p0.Tasks[(p1).toNat]?.getD default).S.Trace (((p0.St).length:Nat):Int))).toNat (Stripe.mk (x4.s.1.St[((aD (p0.Tasks[(p1).toNat]?.getD default).S.Trace (((p0.St).length:Nat):Int))).toNat]?.getD default).Held (eI (x4.s.1.St[((aD (p0.Tasks[(p1).toNat]?.getD default).S.Trace (((p0.St).length:Nat):Int))).toNat]?.getD default).L (p0.Tasks[(p1).toNat]?.getD default).S x4.s.2 x4.s.1.W.Now))),Used:=(IntKind.i64.wrap (x4.s.1.Used+(cY (p0.Tasks[(p1).toNat]?.getD default).S))) } p1 1 x4.s.2),(fun g=>World.cv none (some (us15 20)) (some (us15 26)) (some (us15 27)) (some (us15 28)) none none g),(fun g=>.tup []),rfl,rfl,fun v4 hvv4=>aB (m:=17) rfl (aB (m:=20) rfl (have hg:=bG hvv4 hg;aA (bO hown hg)))⟩⟩)⟩⟩))
theorem c4j {n m:Nat} {w:World} {k:Int} (h:WI n w) (hm:n+3≤m) (hx:m≤890000):WI m (fM w k).2:=by
 have h':WI m w:=h.mono (by omega)
 show WR m (fM w k)
 unfold fM
 refine aH (P:=WR m) (fun _=>(sV h').mix (sV h') h' h' h' h') (fun _=>?_)
 show WR m (Step.get _ (fX w k))
 refine uU (P:=fun _=>True) (Q:=WR m) ?_ (fun s2 _=>?_)
 · unfold fX
   have hq:=h'.qs (a9m (m:=m) h (by omega) (x:=Item.mk (bQ w.Cache (w.Tasks[k.toNat]?.getD default).S.Trace).1.Stamp (aX (w.Tasks[k.toNat]?.getD default).S)) (h.task _).1)
   exact cO (cO (cO (fV h') (fV (r:=(true,_)) ((sV (k:=k) (c:=2) hq).mix (sV hq) h' h' hq h'))) (dD trivial)) (dD trivial)
 · refine aH (P:=WR m) (fun _=>(sV h').mix (sV h') h' h' h' h') (fun _=>aH (P:=WR m) (fun _=>?_) (fun _=>?_))
   · exact (h'.sk (by exact h'.str _)).pc (by exact h'.task k.toNat) (by exact h'.at k.toNat) (by exact .inr (.inr (.inr rfl)))
   · refine uU (st:=fW w k) (P:=fun s=>WI (n+1) s.1) (Q:=WR m) ?_ (fun s4 hs=>?_)
     · unfold fW
       exact cO (dD (((h.mono (Nat.le_succ n)).ww (b8h h.wb)).free)) (dD (h.mono (Nat.le_succ n)))
     · have hs':=hs.mono (m:=m) (by omega)
       refine WI.mixE (sV ?_) hs'
       exact (((hs.mono (Nat.le_succ (n+1))).sk (by exact c1n (hs.str _) (nM (by omega) _ (h.task k.toNat).1) (by omega))).free).mono (by omega)
def a4l (p0:Trail) (p1:Trail):Bool :=
 (bif (decide (p0.First < p1.First)) then true else (bif (p0.First==p1.First) then (decide (p0.Stamp < p1.Stamp)) else false))
theorem c0y (p0:Trail) (p1:Trail):FnOk prog 214 [.agg ((Trail.cells false) p0),.agg ((Trail.cells false) p1)] ⟨.one (.v (.bool (a4l p0 p1))),[],[],false⟩:=by
 refine FnOk.intro (E:=env) aK aS func214 rfl (by kernel_rfl) rfl rfl ?_
 have hg:=a4l.eq_1 p0 p1
 have hown:=dP
 exact aA (aB (m:=0) rfl (aB (m:=1) rfl (aA (nC hg (fun hg h1=>brQ hg (fun hg h2=>aE hown hg) (fun hg h2=>aE hown hg)) (fun hg h1=>aE hown hg)))))
def vJ (i2:Nat) (s2:Trail×Bool) (a2:Trail):Step (Trail×Bool) (Step (Trail×Bool) (Trail×Bool)) :=
 (bif (!s2.2) then (.next (a2,true)) else (bif (a4l a2 s2.1) then (.next (a2,true)) else (.next (s2.1,s2.2))))
def vK (i1:Nat) (s1:Trail×Bool) (a1:Stripe):Step (Trail×Bool) (Trail×Bool) :=
 (Fin.get (fun s2=>(.next (s2.1,s2.2))) (aJ vJ 0 (s1.1,s1.2) a1.L))
def cN (p0:(List Stripe)):(Trail×Bool) :=
 (Fin.get (fun s1=>((mH s1.1),s1.2)) (aJ vK 0 ((Trail.mk 0 0 0 ([]:List Span)),false) p0))
theorem b2p (p0:(List Stripe)) (hs:bdS Stripe.bd 1000000 p0):FnOk prog 200 [.one (.s false 2 (List.map (Stripe.cells false) p0))] ⟨.tup [.agg ((Trail.cells true) (cN p0).1),.one (.v (.bool (cN p0).2))],[],[],false⟩:=by
 refine FnOk.intro (E:=env) aK aS func200 rfl (by kernel_rfl) rfl rfl ?_
 have hg:=cN.eq_1 p0
 have hown:∀g:(Trail×Bool),AV.Own (AV.tup [.agg ((Trail.cells true) g.1),.one (.v (.bool g.2))]):=fun g=>⟨pC _,.v _,trivial⟩
 refine aA (aB (m:=0) rfl (aA (aB (m:=1) rfl (aA (aA (aA (gM (fun (i:Nat) (s:Trail×Bool)=>Trail.bd 1000000 s.1) hg (by exact fN) [0,2,4] (fun x1=>[(5,.one (.v (.bool x1.s.2))),(6,.one (.v (.int .i64 ((x1.i:Nat):Int))))]) (fun x1=>[.keep 0,.new ⟨4,true,[[.v (.int .i64 x1.s.1.Id),.v (.int .i64 x1.s.1.Stamp),.v (.int .i64 x1.s.1.First),.s false 6 (List.map (Span.cells false) x1.s.1.Spans)]],0⟩]) [some 0,some 1] ((by repeat' constructor)) (fun x1=>?_))))))))
 have hI1:=x1.hI
 try dsimp only at hI1
 refine aA (aA (bJ fun hN1=>cT (fun hi1=>have hb1:=(x1.bdy hi1).trans (vK.eq_1 ..);have hw1:=aT hi1 (by assumption);aA (aA (gM (fun (i:Nat) (s:Trail×Bool)=>Trail.bd 1000000 s.1) hb1 (by exact hI1) [0,2,4,6] (fun x2=>[(5,.one (.v (.bool x2.s.2))),(7,.one (.v (.int .i64 ((x2.i:Nat):Int))))]) (fun x2=>[.keep 0,.new ⟨4,true,[[.v (.int .i64 x2.s.1.Id),.v (.int .i64 x2.s.1.Stamp),.v (.int .i64 x2.s.1.First),.s false 6 (List.map (Span.cells false) x2.s.1.Spans)]],0⟩]) [some 0,some 1] ((by repeat' constructor)) (fun x2=>?_)))) (fun hi1=>have hg:=bZ hg (x1.fin hi1);aA (.inl (⟨_,_,xX x1.s.1 (by exact mC (by omega) _ x1.hI),(FzAs.same _),aB (m:=3) rfl (aE hown hg)⟩)))))
 have hI2:=x2.hI
 try dsimp only at hI2
 exact aA (aA (cC hi1 (bJ fun hN2=>cT (fun hi2=>have hb2:=(x2.bdy hi2).trans (vJ.eq_1 ..);have hw2:=aT hi2 (by assumption);aA (aA (.inl ⟨by kernel_rfl,brF hb2 (fun hb2 h3=>cC hi1 (cC hi2 (⟨_,_,c0y ((p0[x1.i]'hi1).L[x2.i]'hi2) x2.s.1,(FzAs.same _),brE hb2 (fun hb2 h4=>aA (cC hi1 (cC hi2 (x2.goE hi2 hb2 (by exact bdS.get (hs.get hi1) hi2) [some 0,some 1] ⟨rfl,⟨rfl,(bA hw2),rfl,⟨rfl,rfl,rfl,rfl⟩,⟨rfl,rfl,rfl,rfl⟩,rfl,trivial⟩,(by repeat' constructor),trivial⟩)))) (fun hb2 h4=>x2.goE hi2 hb2 (by exact hI2) [some 0,some 1] ⟨rfl,⟨rfl,(bA hw2),rfl,⟨rfl,rfl,rfl,rfl⟩,⟨rfl,rfl,rfl,rfl⟩,rfl,trivial⟩,(by repeat' constructor),trivial⟩)⟩))) (fun hb2 h3=>aA (cC hi1 (cC hi2 (x2.goE hi2 hb2 (by exact bdS.get (hs.get hi1) hi2) [some 0,some 1] ⟨rfl,⟨rfl,(bA hw2),rfl,⟨rfl,rfl,rfl,rfl⟩,⟨rfl,rfl,rfl,rfl⟩,rfl,trivial⟩,(by repeat' constructor),trivial⟩))))⟩))) (fun hi2=>have hb1:=bZ hb1 (x2.fin hi2);x1.goE hi1 hb1 (by exact x2.hI) [some 0,some 1] ⟨rfl,⟨rfl,(bA hw1),rfl,⟨rfl,rfl,rfl,rfl⟩,⟨rfl,rfl,rfl,rfl⟩,trivial⟩,(by repeat' constructor),trivial⟩))))
def cL (p0:World) (p1:Int):(Bool×World) :=
 (bif (!(cN p0.St).2) then (true,{ p0 with Tasks:=(List.set p0.Tasks (p1).toNat { (p0.Tasks[(p1).toNat]?.getD default) with Pc:=0 }) }) else (bif ((p0.St[((aD (cN p0.St).1.Id (((p0.St).length:Nat):Int))).toNat]?.getD default).Held != (-1)) then (false,p0) else (true,{ p0 with St:=(List.set p0.St ((aD (cN p0.St).1.Id (((p0.St).length:Nat):Int))).toNat (Stripe.mk p1 (p0.St[((aD (cN p0.St).1.Id (((p0.St).length:Nat):Int))).toNat]?.getD default).L)),Tasks:=(List.set p0.Tasks (p1).toNat { (p0.Tasks[(p1).toNat]?.getD default) with Pc:=3,Trace:=(cN p0.St).1.Id,Stamp:=(cN p0.St).1.Stamp }) })))
theorem b4h (p0:World) (p1:Int) (u1:Value) (u2:Value) (u3:Value) (u4:Value) (u6:Value) (hu1:fit u1=true) (hu2:fit u2=true) (hu3:fit u3=true) (hu4:fit u4=true) (hu6:fit u6=true) (hw:WI 830000 p0) (hi:0≤p1∧p1 < 5) (ho:(p0.Tasks[p1.toNat]?.getD default).Op≠0):FnOk prog 182 [.tup [.one (.b (World.cv none (some u1) (some u2) (some u3) (some u4) none (some u6) p0))],.one (.v (.int .i64 p1))] ⟨.one (.v (.bool (cL p0 p1).1)),[.one (.b (World.cv none (some u1) (some u2) (some u3) (some u4) none (some u6) (cL p0 p1).2))],[],false⟩:=by
 refine FnOk.introV (E:=env) aK aS func182 rfl (by kernel_rfl) rfl ?_
 have hg:=cL.eq_1 p0 p1
 have hown:(false=false→∀g:(Bool×World),AV.Own (AV.one (.v (.bool g.1))))∧(fun g:(Bool×World)=>World.cv none (some u1) (some u2) (some u3) (some u4) none (some u6) g.2)=_∧(fun g:(Bool×World)=>AV.one (.v (.bool g.1)))=_:=⟨fun _ g=>.v _,rfl,rfl⟩
 refine aA (aA (.inl (⟨_,_,(FnOk.conv (.tup (.cons (FzR.frzA (kM _)) (.cons (.same _) (.same _)))) (b2p p0.St (by exact bdS.mono hw.s (by omega) (jS (by omega))))),(FzAs.same _),aB (m:=5) rfl (aB (m:=5) rfl (aA (aA (brE hg (fun hg h1=>?_) (fun hg h1=>?_)))))⟩)))
 · refine aA (bK (by have qt:=hw.tl;(try have qd:=hw.at p1.toNat ho);(simp only [List.length_map,List.length_set];omega)) (.inl (aV (Y:=List.map (Task.cells false) (List.set p0.Tasks (p1).toNat { (p0.Tasks[(p1).toNat]?.getD default) with Pc:=0 })) (by exact dC (by simp) (fun a ha=>by simp only [ha,Option.getD_some];rfl)) ?_)))
   exact aA (bO hown hg)
 · refine aA (.inl ⟨by kernel_rfl,kD (k:=(p0.St).length) (by simp) (fun hN2=>⟨_,_,iS (cN p0.St).1.Id (((p0.St).length:Nat):Int),(FzAs.same _),aA (aA (bK (by have qt:=hw.tl;(try have qd:=hw.at p1.toNat ho);(simp only [List.length_map,List.length_set];exact stO hw.sl)) (cZ (i:=((aD (cN p0.St).1.Id (((p0.St).length:Nat):Int))).toNat) (l:=p0.St) (by exact Nat.zero_add _) (fun hq3=>brW hg (fun hg h4=>aA (bO hown hg)) (fun hg h4=>aA (bK (by have qt:=hw.tl;(try have qd:=hw.at p1.toNat ho);(simp only [List.length_map,List.length_set];exact stO hw.sl)) (.inl (aV (Y:=List.map (Stripe.cells false) (List.set p0.St ((aD (cN p0.St).1.Id (((p0.St).length:Nat):Int))).toNat (Stripe.mk p1 (p0.St[((aD (cN p0.St).1.Id (((p0.St).length:Nat):Int))).toNat]?.getD default).L))) (by exact dC (by simp) (fun a ha=>by simp only [ha,Option.getD_some];rfl)) ?_))))))))⟩)⟩)
   refine aA (bK (by have qt:=hw.tl;(try have qd:=hw.at p1.toNat ho);(simp only [List.length_map,List.length_set];omega)) (.inl (aV (Y:=List.map (Task.cells false) (List.set p0.Tasks (p1).toNat { (p0.Tasks[(p1).toNat]?.getD default) with Pc:=3 })) (by exact dC (by simp) (fun a ha=>by simp only [ha,Option.getD_some];rfl)) ?_)))
   refine aA (.inr (.inl ⟨(.seg 9 9 (.q 0 (.q 1 (.q 2 (.q 3 (.q 4 (.q 5 (.q 6 (.q 7 (.q 8 .leaf))))))))) (.tail 9)),by kernel_rfl,bK (by have qt:=hw.tl;(try have qd:=hw.at p1.toNat ho);(simp only [List.length_map,List.length_set];omega)) (.inl (aV (Y:=List.map (Task.cells false) (List.set p0.Tasks (p1).toNat { (p0.Tasks[(p1).toNat]?.getD default) with Pc:=3,Trace:=(cN p0.St).1.Id })) (by exact lM (by simp) (by rfl)) ?_))⟩))
   refine aA (.inr (.inl ⟨(.seg 9 9 (.q 0 (.q 1 (.q 2 (.q 3 (.q 4 (.q 5 (.q 6 (.q 7 (.q 8 .leaf))))))))) (.tail 9)),by kernel_rfl,bK (by have qt:=hw.tl;(try have qd:=hw.at p1.toNat ho);(simp only [List.length_map,List.length_set];omega)) (.inl (aV (Y:=List.map (Task.cells false) (List.set p0.Tasks (p1).toNat { (p0.Tasks[(p1).toNat]?.getD default) with Pc:=3,Trace:=(cN p0.St).1.Id,Stamp:=(cN p0.St).1.Stamp })) (by exact lM (by simp) (by rfl)) ?_))⟩))
   exact aA (bO hown hg)
theorem zZ {n:Nat} {w:World} {k:Int} (h:WI n w) (h1:(w.Tasks[k.toNat]?.getD default).Op=1):WI n (cL w k).2:=by
 have hp:(w.Tasks[k.toNat]?.getD default).Op≠2:=by rw [h1];decide
 show WR n (cL w k)
 unfold cL
 refine aH (P:=WR n) (fun _=>?_) (fun _=>aH (P:=WR n) (fun _=>h) (fun _=>?_))
 · exact h.pc (by exact h.task k.toNat) (by exact h.at k.toNat) (by exact .inl hp)
 · exact (h.sk (by exact h.str _)).pc (by exact h.task k.toNat) (by exact h.at k.toNat) (by exact .inl hp)
theorem b6t {w:World} {k:Int}:(cL w k).2.Deeds=w.Deeds:=by
 unfold cL
 exact aH (P:=fun z:Bool×World=>z.2.Deeds=w.Deeds) (fun _=>rfl) (fun _=>aH (P:=fun z:Bool×World=>z.2.Deeds=w.Deeds) (fun _=>rfl) (fun _=>rfl))
def cE (p0:(List Stripe)) (p1:Int):(List Stripe) :=
 (bif ((((p0).length:Nat):Int)==0) then (cA p0) else (bif (decide ((aL (p0[((aD p1 (((p0).length:Nat):Int))).toNat]?.getD default).L p1)≥0)) then (List.set (cA p0) ((aD p1 (((p0).length:Nat):Int))).toNat (Stripe.mk ((cA p0)[((aD p1 (((p0).length:Nat):Int))).toNat]?.getD default).Held ((List.take (((aL (p0[((aD p1 (((p0).length:Nat):Int))).toNat]?.getD default).L p1)).toNat - 0) (List.drop 0 ((cA p0)[((aD p1 (((p0).length:Nat):Int))).toNat]?.getD default).L))++(List.take ((((cA p0)[((aD p1 (((p0).length:Nat):Int))).toNat]?.getD default).L).length - ((IntKind.i64.wrap ((aL (p0[((aD p1 (((p0).length:Nat):Int))).toNat]?.getD default).L p1)+1))).toNat) (List.drop ((IntKind.i64.wrap ((aL (p0[((aD p1 (((p0).length:Nat):Int))).toNat]?.getD default).L p1)+1))).toNat ((cA p0)[((aD p1 (((p0).length:Nat):Int))).toNat]?.getD default).L))))) else (cA p0)))
theorem b0c (p0:(List Stripe)) (p1:Int) (hs:bdS Stripe.bd 1000000 p0∧p0.length≤16):FnOk prog 215 [.one (.s false 2 (List.map (Stripe.cells false) p0)),.one (.v (.int .i64 p1))] ⟨.one (.s true 2 (List.map (Stripe.cells true) (cE p0 p1))),[],[],false⟩:=by
 refine FnOk.intro (E:=env) aK aS func215 rfl (by kernel_rfl) rfl rfl ?_
 have hg:=cE.eq_1 p0 p1
 have hown:∀g:(List Stripe),AV.Own (AV.one (.s true 2 (List.map (Stripe.cells true) g))):=fun g=>fF a4q _
 refine aA (aA (.inl (⟨_,_,a4b p0 (by exact bdS.mono hs.1 (by omega) (jS (by omega))),(FzAs.same _),aB (m:=1) rfl (aA (aA (bJ fun hN1=>brQ hg (fun hg h2=>aA (aE hown hg)) (fun hg h2=>aA (bJ fun hN3=>.inl (⟨_,_,iS p1 (((p0).length:Nat):Int),(FzAs.same _),aB (m:=3) rfl (aA (lA (l:=p0) (by have ql:=hs.2;(try simp only [List.length_map,eO]);(have q:=stO (t:=p1) (l:=p0) ⟨by omega,by omega⟩;exact q)) (fun hq4=>.inl (⟨_,_,xY (p0[((aD p1 (((p0).length:Nat):Int))).toNat]?.getD default).L p1,(FzAs.same _),aB (m:=4) rfl (aA (aA (brD hg (fun hg h5=>.inr (.inr ⟨(.q 0 (.q 1 (.q 2 (.q 3 (.q 4 (.q 5 (.q 7 (.q 9 (.q 10 (.q 11 (.q 12 (.q 14 (.q 15 (.z 6 (.z 8 (.m 13 [6,8] (.m 16 [6,8] (.m 17 [] (.m 18 [] (.m 19 [] (.m 20 [] .leaf))))))))))))))))))))),by kernel_rfl,bK (by have ql:=hs.2;(try simp only [List.length_map,eO]);(have q:=stO (t:=p1) (l:=p0) ⟨by omega,by omega⟩;exact q)) (bK (by have ql:=hs.2;(try simp only [List.length_map,eO]);(have q:=stO (t:=p1) (l:=p0) ⟨by omega,by omega⟩;exact q)) (cZ (i:=((aD p1 (((p0).length:Nat):Int))).toNat) (l:=(cA p0)) (by exact Nat.zero_add _) (fun hq6=>cZ (i:=((aD p1 (((p0).length:Nat):Int))).toNat) (l:=(cA p0)) (by exact Nat.zero_add _) (fun hq7=>And.intro (by have ql:=hs.2;have q5:=bN (l:=(p0[(aD p1 ((p0.length:Nat):Int)).toNat]?.getD default).L) (k:=p1);have q6:=(iM hs.1 fN (aD p1 ((p0.length:Nat):Int)).toNat).1;(try simp only [eO]);exact ⟨by omega,by omega,by (simp only [List.length_map];omega)⟩) (cZ (i:=((aD p1 (((p0).length:Nat):Int))).toNat) (l:=(cA p0)) (by exact Nat.zero_add _) (fun hq8=>And.intro (And.intro (cZ (i:=((aD p1 (((p0).length:Nat):Int))).toNat) (l:=(cA p0)) (by exact Nat.zero_add _) (fun hq9=>⟨rfl,rfl⟩)) (And.intro (cZ (i:=((aD p1 (((p0).length:Nat):Int))).toNat) (l:=(cA p0)) (by exact Nat.zero_add _) (fun hq9=>And.intro (by have ql:=hs.2;have q5:=bN (l:=(p0[(aD p1 ((p0.length:Nat):Int)).toNat]?.getD default).L) (k:=p1);have q6:=(iM hs.1 fN (aD p1 ((p0.length:Nat):Int)).toNat).1;(try simp only [eO]);exact ⟨by omega,by omega,by (simp only [List.length_map];omega)⟩) (⟨rfl,rfl⟩))) trivial)) (cZ (i:=((aD p1 (((p0).length:Nat):Int))).toNat) (l:=(cA p0)) (by exact Nat.zero_add _) (fun hq9=>And.intro (by have ql:=hs.2;have q5:=bN (l:=(p0[(aD p1 ((p0.length:Nat):Int)).toNat]?.getD default).L) (k:=p1);have q6:=(iM hs.1 fN (aD p1 ((p0.length:Nat):Int)).toNat).1;(try simp only [eO]);exact ⟨by ((simp (disch:=omega) only [wrap_small,eS,eY,fP,fO,List.length_map,List.length_set] <;> omega)),by ((simp (disch:=omega) only [wrap_small,eS,eY,fP,fO,List.length_map,List.length_set] <;> omega)),by omega⟩) (And.intro (And.intro (cZ (i:=((aD p1 (((p0).length:Nat):Int))).toNat) (l:=(cA p0)) (by exact Nat.zero_add _) (fun hq10=>⟨rfl,rfl⟩)) (And.intro (cZ (i:=((aD p1 (((p0).length:Nat):Int))).toNat) (l:=(cA p0)) (by exact Nat.zero_add _) (fun hq10=>And.intro (by have ql:=hs.2;have q5:=bN (l:=(p0[(aD p1 ((p0.length:Nat):Int)).toNat]?.getD default).L) (k:=p1);have q6:=(iM hs.1 fN (aD p1 ((p0.length:Nat):Int)).toNat).1;(try simp only [eO]);exact ⟨by omega,by omega,by (simp only [List.length_map];omega)⟩) (⟨rfl,rfl⟩))) trivial)) (.inr (.inr (.inr (cZ (i:=((aD p1 (((p0).length:Nat):Int))).toNat) (l:=(cA p0)) (by exact Nat.zero_add _) (fun hq10=>aB (m:=5) rfl (And.intro rfl (.inr (.inr (And.intro (by have ql:=hs.2;have q5:=bN (l:=(p0[(aD p1 ((p0.length:Nat):Int)).toNat]?.getD default).L) (k:=p1);have q6:=(iM hs.1 fN (aD p1 ((p0.length:Nat):Int)).toNat).1;(try simp only [eO]);(try simp only [List.length_map]);((simp (disch:=omega) only [wrap_small,eS,eY,fP,fO,List.length_map,List.length_set] <;> omega))) (aV (Y:=List.map (Trail.cells true) ((List.take (((aL (p0[((aD p1 (((p0).length:Nat):Int))).toNat]?.getD default).L p1)).toNat - 0) (List.drop 0 ((cA p0)[((aD p1 (((p0).length:Nat):Int))).toNat]?.getD default).L))++(List.take ((((cA p0)[((aD p1 (((p0).length:Nat):Int))).toNat]?.getD default).L).length - ((IntKind.i64.wrap ((aL (p0[((aD p1 (((p0).length:Nat):Int))).toNat]?.getD default).L p1)+1))).toNat) (List.drop ((IntKind.i64.wrap ((aL (p0[((aD p1 (((p0).length:Nat):Int))).toNat]?.getD default).L p1)+1))).toNat ((cA p0)[((aD p1 (((p0).length:Nat):Int))).toNat]?.getD default).L)))) (by simp [bX,bP,-List.map_take,-List.map_drop,-List.drop_one,aQ,aR,jH,bY jH,iC sN];done) (cS (b:=48) (hs:=by have ql:=hs.2;have q5:=bN (l:=(p0[(aD p1 ((p0.length:Nat):Int)).toNat]?.getD default).L) (k:=p1);have q6:=(iM hs.1 fN (aD p1 ((p0.length:Nat):Int)).toNat).1;(try simp only [eO] at *);refine ⟨?_,?_⟩;(show List.length _*48≤_);(try simp only [LN]);omega;(try simp only [LN]);omega) ?_))))))))))))))))))))⟩)) (fun hg h5=>aA (aE hown hg)))))⟩))))⟩))))))⟩)))
 refine aB (m:=6) rfl (And.intro trivial (bK (by have ql:=hs.2;(try simp only [List.length_map,eO]);(have q:=stO (t:=p1) (l:=p0) ⟨by omega,by omega⟩;exact q)) (And.intro trivial (And.intro trivial (.inl (aV (Y:=List.map (Stripe.cells true) (List.set (cA p0) ((aD p1 (((p0).length:Nat):Int))).toNat (Stripe.mk ((cA p0)[((aD p1 (((p0).length:Nat):Int))).toNat]?.getD default).Held ((List.take (((aL (p0[((aD p1 (((p0).length:Nat):Int))).toNat]?.getD default).L p1)).toNat - 0) (List.drop 0 ((cA p0)[((aD p1 (((p0).length:Nat):Int))).toNat]?.getD default).L))++(List.take ((((cA p0)[((aD p1 (((p0).length:Nat):Int))).toNat]?.getD default).L).length - ((IntKind.i64.wrap ((aL (p0[((aD p1 (((p0).length:Nat):Int))).toNat]?.getD default).L p1)+1))).toNat) (List.drop ((IntKind.i64.wrap ((aL (p0[((aD p1 (((p0).length:Nat):Int))).toNat]?.getD default).L p1)+1))).toNat ((cA p0)[((aD p1 (((p0).length:Nat):Int))).toNat]?.getD default).L)))))) (by exact (a0e (f:=(Stripe.cells true)) (fun _=>(by decide:1 < 2))).trans (dC (by simp) (fun a ha=>by simp only [ha,Option.getD_some];rfl))) ?_))))))
 exact And.intro trivial (aA (aE hown hg))
theorem c0e {n:Nat} {l:List Stripe} {k:Int} (h:bdS Stripe.bd n l) (hn:n≤1000000):bdS Stripe.bd n (cE l k)∧(cE l k).length=l.length:=by
 unfold cE
 rw [eO]
 refine aH (P:=fun z:List Stripe=>bdS Stripe.bd n z∧z.length=l.length) (fun _=>⟨h,rfl⟩) (fun _=>aH (P:=fun z:List Stripe=>bdS Stripe.bd n z∧z.length=l.length) (fun hb=>?_) (fun _=>⟨h,rfl⟩))
 have hb:=of_decide_eq_true hb
 have hS:Stripe.bd n (l[(aD k ((l.length:Nat):Int)).toNat]?.getD default):=iM h fN _
 generalize l[(aD k ((l.length:Nat):Int)).toNat]?.getD default=S at *
 have hT:=bN (l:=S.L) (k:=k)
 have hl:S.L.length≤n:=hS.1
 refine ⟨a0j h ⟨?_,fun x hx=>?_⟩,List.length_set ..⟩
 · rw [wrap_small (by omega) (by omega)]
   simp only [List.length_append,List.length_take,List.length_drop]
   omega
 · rcases List.mem_append.1 hx with hx | hx <;> exact hS.2 x (List.mem_of_mem_drop (List.mem_of_mem_take hx))
def pA (i1:Nat) (s1:Int) (a1:Span):Step (Int) Int :=
 (.next (IntKind.i64.wrap (s1+(cY a1))))
def sL (p0:(List Span)):Int :=
 (Fin.get (fun s1=>s1) (aJ pA 0 0 p0))
theorem b4n (p0:(List Span)):FnOk prog 225 [.one (.s false 6 (List.map (Span.cells false) p0))] ⟨.one (.v (.int .i64 (sL p0))),[],[],false⟩:=by
 refine FnOk.intro (E:=env) aK aS func225 rfl (by kernel_rfl) rfl rfl ?_
 have hg:=sL.eq_1 p0
 have hown:=iN
 exact aA (aA (aA (aA (dW hg [0] (fun x1=>[(3,.one (.v (.int .i64 x1.s))),(4,.one (.v (.int .i64 ((x1.i:Nat):Int))))]) (fun x1=>[]) [] ((by repeat' constructor)) (fun x1=>aA (aA (bJ fun hN1=>cT (fun hi1=>have hb1:=(x1.bdy hi1).trans (pA.eq_1 ..);have hw1:=aT hi1 (by assumption);aA (cC hi1 (.inl (⟨_,_,oW (p0[x1.i]'hi1),(FzAs.same _),aB (m:=1) rfl (x1.goE hi1 hb1 [] ⟨rfl,⟨rfl,(bA hw1),rfl,trivial⟩,trivial,trivial⟩)⟩)))) (fun hi1=>have hg:=bZ hg (x1.fin hi1);aA (aE hown hg)))))))))
def kU (p0:Trail):Int :=
 (sL p0.Spans)
theorem b4q (p0:Trail):FnOk prog 216 [.agg ((Trail.cells false) p0)] ⟨.one (.v (.int .i64 (kU p0))),[],[],false⟩:=by
 refine FnOk.intro (E:=env) aK aS func216 rfl (by kernel_rfl) rfl rfl ?_
 have hg:=kU.eq_1 p0
 have hown:=iN
 exact aA (aB (m:=0) rfl (aA (.inl (⟨_,_,b4n p0.Spans,(FzAs.same _),aB (m:=2) rfl (aE hown hg)⟩))))
def fJ (p2:Int) (s2:(List Verdict)×Int):Step ((List Verdict)×Int) ((List Verdict)×Int) :=
 (bif (decide ((((s2.1).length:Nat):Int) > p2)) then (.next ((List.take ((s2.1).length - 1) (List.drop 1 s2.1)),(s2.1[0]?.getD default).Trace)) else (.stop (s2.1,s2.2)))
def lK (p1:Verdict) (i1:Nat) (s1:(List Verdict)) (a1:Verdict):Step ((List Verdict)) ((List Verdict)×Int) :=
 (bif (a1.Trace != p1.Trace) then (.next (s1++[a1])) else (.next s1))
def eF (p0:(List Verdict)) (p1:Verdict) (p2:Int):((List Verdict)×Int) :=
 (bif (decide (p2 < 1)) then (p0,0) else (Fin.get (fun s1=>(Fin.get (fun s2=>(s2.1,s2.2)) (eP (fJ p2) ((fun s:List Verdict×Int=>s.1.length) ((s1++[p1]),0)) ((s1++[p1]),0)))) (aJ (lK p1) 0 ([]:List Verdict) p0)))
theorem b2m (p0:(List Verdict)) (p1:Verdict) (p2:Int) (hs:p0.length≤1048576):FnOk prog 217 [.one (.s false 3 (List.map Verdict.cells p0)),.agg (Verdict.cells p1),.one (.v (.int .i64 p2))] ⟨.tup [.one (.s true 3 (List.map Verdict.cells (eF p0 p1 p2).1)),.one (.v (.int .i64 (eF p0 p1 p2).2))],[],[],false⟩:=by
 refine FnOk.intro (E:=env) aK aS func217 rfl (by kernel_rfl) rfl rfl ?_
 have hg:=eF.eq_1 p0 p1 p2
 have hown:∀g:((List Verdict)×Int),AV.Own (AV.tup [.one (.s true 3 (List.map Verdict.cells g.1)),.one (.v (.int .i64 g.2))]):=fun g=>⟨fF a2u _,.v _,trivial⟩
 refine aA (aB (m:=0) rfl (aA (aA (brD hg (fun hg h1=>?_) (fun hg h1=>?_)))))
 · refine aA (.inl (aB (m:=1) rfl (.inl (aV (Y:=List.map Verdict.cells p0) (by simp [bX,bP,-List.map_take,-List.map_drop,-List.drop_one,aQ,aR,mA,mB,bY mA,fH mB];done) (cS (b:=24) (hs:=by have q0:=hs;(try have q1:=hI1);(try have q2:=hi1);(try have q3:=x1.h);(try have q4:=hI2);refine ⟨?_,?_⟩;(show List.length _*24≤_);(try simp only [LN]);omega;(try simp only [LN]);omega) ?_)))))
   exact aB (m:=2) rfl (aE hown hg)
 · refine aA (.inl (aB (m:=1) rfl (aA (aA (gM (fun (i:Nat) (s:List Verdict)=>s.length≤i) hg (Nat.le_refl _) [0,2,4] (fun x1=>[(8,.one (.n 1 [] 1 0 (x1.s).length)),(9,.one (.v (.int .i64 ((x1.i:Nat):Int))))]) (fun x1=>[.keep 0,.new ⟨3,false,List.map Verdict.cells x1.s,0⟩]) [some 0,some 1] ((by repeat' constructor)) (fun x1=>?_))))))
   have hI1:=x1.hI
   try dsimp only at hI1
   refine aA (aA (bJ fun hN2=>cT (fun hi1=>?_) (fun hi1=>?_)))
   · refine have hb1:=(x1.bdy hi1).trans (lK.eq_1 ..);have hw1:=aT hi1 (by assumption);aA (aA (.inl ⟨by kernel_rfl,cC hi1 (brW hb1 (fun hb1 h3=>cC hi1 (.inl (aB (m:=2) rfl (.inl (aV (Y:=List.map Verdict.cells (x1.s++[(p0[x1.i]'hi1)])) (by simp [bX,bP,-List.map_take,-List.map_drop,-List.drop_one,aQ,aR,mA,mB,bY mA,fH mB];rfl) (cS (b:=24) (hs:=by have q0:=hs;(try have q1:=hI1);(try have q2:=hi1);(try have q3:=x1.h);(try have q4:=hI2);refine ⟨?_,?_⟩;(show List.length _*24≤_);(try simp only [LN]);omega;(try simp only [LN]);omega) ?_)))))) (fun hb1 h3=>x1.goE hi1 hb1 (by have q1:=hI1;(try simp only [List.length_append,List.length_cons,List.length_nil]);omega) [some 0,some 1] ⟨rfl,⟨⟨rfl,rfl,rfl,rfl,by (rfl)⟩,(bA hw1),rfl,rfl,⟨rfl,rfl,rfl,rfl⟩,trivial⟩,(by repeat' constructor),trivial⟩))⟩))
     exact aB (m:=3) rfl (x1.goE hi1 hb1 (by have q1:=hI1;(try simp only [List.length_append,List.length_cons,List.length_nil]);omega) [some 0,some 3] ⟨rfl,⟨⟨rfl,rfl,rfl,rfl,by ((simp [LstSt.init,LstSt.step,LstInv.init,CntSt.init,CntSt.step,CntInv.init,WhlSt.init,WhlSt.step];done))⟩,(bA hw1),rfl,rfl,⟨rfl,rfl,rfl,rfl⟩,trivial⟩,(by repeat' constructor),trivial⟩)
   refine have hg:=bZ hg (x1.fin hi1);aA (.inl (aB (m:=2) rfl (.inl (aV (Y:=List.map Verdict.cells (x1.s++[p1])) (by simp [bX,bP,-List.map_take,-List.map_drop,-List.drop_one,aQ,aR,mA,mB,bY mA,fH mB];rfl) (cS (b:=24) (hs:=by have q0:=hs;(try have q1:=hI1);(try have q2:=hi1);(try have q3:=x1.h);(try have q4:=hI2);refine ⟨?_,?_⟩;(show List.length _*24≤_);(try simp only [LN]);omega;(try simp only [LN]);omega) ?_)))))
   refine aB (m:=3) rfl (aA (aA (a6s (m:=(fun s:List Verdict×Int=>s.1.length)) (s0:=((x1.s++[p1]),0)) (fun s:List Verdict×Int=>s.1.length≤1048577) hg (by have q3:=x1.h;have q0:=hs;show List.length _≤_;simp only [List.length_append,List.length_cons,List.length_nil,List.length_take,List.length_drop];omega) [2] (fun x2=>[(8,.one (.n 3 [] 1 0 (x2.s.1).length)),(10,.one (.v (.int .i64 x2.s.2)))]) (fun x2=>[.dead,.dead,.dead,.new ⟨3,false,List.map Verdict.cells x2.s.1,0⟩]) [none,none,none,some 3] ((by repeat' first|constructor|(simp [LstSt.init,LstSt.step,LstInv.init,CntSt.init,CntSt.step,CntInv.init,WhlSt.init,WhlSt.step];done))) (fun x2=>?_))))
   have hI2:=x2.hI
   try dsimp only at hI2
   refine have hb2:=x2.bdy.trans (fJ.eq_1 ..);aA (aA (kD (k:=(x2.s.1).length) (by simp) (fun hN4=>brD hb2 (fun hb2 h5=>aA (bK (by have q4:=hI2;(omega)) (cZ (i:=0) (l:=x2.s.1) (by rfl) (fun hq6=>.inl (aB (m:=4) rfl (And.intro (by have q4:=hI2;refine ⟨by omega,?_,?_⟩ <;> (omega)) ?_)))))) (fun hb2 h5=>have hg:=bZ hg (x2.outS hb2);aA (aE hown hg)))))
   refine .inl (aV (Y:=List.map Verdict.cells (List.take ((x2.s.1).length - 1) (List.drop 1 x2.s.1))) (by simp [bX,bP,-List.map_take,-List.map_drop,-List.drop_one,aQ,aR,mA,mB,bY mA,fH mB];done) (cS (b:=24) (hs:=by have q0:=hs;(try have q1:=hI1);(try have q2:=hi1);(try have q3:=x1.h);(try have q4:=hI2);refine ⟨?_,?_⟩;(show List.length _*24≤_);(try simp only [LN]);omega;(try simp only [LN]);omega) ?_))
   exact aB (m:=5) rfl (x2.goE hb2 (show (fun s:List Verdict×Int=>s.1.length≤1048577) ((List.take ((x2.s.1).length - 1) (List.drop 1 x2.s.1)),(x2.s.1[0]?.getD default).Trace)∧(fun s:List Verdict×Int=>s.1.length) ((List.take ((x2.s.1).length - 1) (List.drop 1 x2.s.1)),(x2.s.1[0]?.getD default).Trace) < (fun s:List Verdict×Int=>s.1.length) x2.s by have q1:=hI2;have q5:x2.s.1.length > 0:=(by simp_all;done);exact ⟨by show List.length _≤_;simp only [List.length_append,List.length_cons,List.length_nil,List.length_take,List.length_drop];omega,by show List.length _ < _;simp only [List.length_append,List.length_cons,List.length_nil,List.length_take,List.length_drop];omega⟩) [none,none,none,some 5] (by repeat' first|constructor|(simp [LstSt.init,LstSt.step,LstInv.init,CntSt.init,CntSt.step,CntInv.init,WhlSt.init,WhlSt.step];done)))
theorem b8g {l:List Verdict} {v:Verdict} {k:Int}:(eF l v k).1.length≤l.length+1:=by
 unfold eF
 refine aH (P:=fun z:List Verdict×Int=>z.1.length≤l.length+1) (fun _=>Nat.le_succ _) (fun _=>?_)
 refine lF (P:=fun s:List Verdict=>s.length≤l.length) (Q:=fun z:List Verdict×Int=>z.1.length≤l.length+1) (nK (P:=fun i (s:List Verdict)=>s.length≤i) (Nat.le_refl _) (fun i s hi hs=>?_) (fun s hs=>hs)) (fun v hv=>?_)
 · unfold lK
   exact yB (tT (P:=fun s:List Verdict=>s.length≤i+1) (by rw [jP];omega)) (tT (P:=fun s:List Verdict=>s.length≤i+1) (Nat.le_succ_of_le hs))
 · refine lF (P:=fun s:List Verdict×Int=>s.1.length≤l.length+1) (Q:=fun z:List Verdict×Int=>z.1.length≤l.length+1) (vZ (P:=fun s:List Verdict×Int=>s.1.length≤l.length+1) (fun s hs=>?_) _ _ (by show (_++[_]).length≤_;rw [jP];omega)) (fun v hv=>hv)
   unfold fJ
   exact cO (dD (by show (List.take _ (List.drop 1 s.1)).length≤_;rw [List.length_take,List.length_drop];omega)) (rC hs)
def kH (p0:World) (p1:Trail) (p2:Bool):(Int×World) :=
 ((eF p0.Cache (Verdict.mk p1.Id p1.Stamp p2) p0.C.Cache).2,{ p0 with St:=(cE p0.St p1.Id),Cache:=(eF p0.Cache (Verdict.mk p1.Id p1.Stamp p2) p0.C.Cache).1,Used:=(IntKind.i64.wrap (p0.Used - (kU p1))) })
theorem a1f (p0:World) (p1:Trail) (p2:Bool) (u2:Value) (u3:Value) (u4:Value) (u5:Value) (u6:Value) (hu2:fit u2=true) (hu3:fit u3=true) (hu4:fit u4=true) (hu5:fit u5=true) (hu6:fit u6=true) (hw:WI 880000 p0):FnOk prog 201 [.tup [.one (.b (World.cv none none (some u2) (some u3) (some u4) (some u5) (some u6) p0))],.agg ((Trail.cells false) p1),.one (.v (.bool p2))] ⟨.one (.v (.int .i64 (kH p0 p1 p2).1)),[.one (.b (World.cv none none (some u2) (some u3) (some u4) (some u5) (some u6) (kH p0 p1 p2).2))],[],false⟩:=by
 refine FnOk.introV (E:=env) aK aS func201 rfl (by kernel_rfl) rfl ?_
 have hg:=kH.eq_1 p0 p1 p2
 have hown:(false=false→∀g:(Int×World),AV.Own (AV.one (.v (.int .i64 g.1))))∧(fun g:(Int×World)=>World.cv none none (some u2) (some u3) (some u4) (some u5) (some u6) g.2)=_∧(fun g:(Int×World)=>AV.one (.v (.int .i64 g.1)))=_:=⟨fun _ g=>.v _,rfl,rfl⟩
 exact aA (aB (m:=4) rfl (aA (.inr (.inl ⟨(.seg 10 10 (.q 0 (.q 1 (.q 2 (.q 3 (.q 4 (.q 5 (.q 6 (.o 7 (.o 8 (.o 9 .leaf)))))))))) (.tail 10)),by kernel_rfl,⟨_,_,(FnOk.conv (.one (.one (.inn _ _ _ (bE a0b _))) (fun _ h=>by cases h) (fun _ h=>by cases h)) (b0c p0.St p1.Id (by exact ⟨bdS.mono hw.s (by omega) (jS (by omega)),hw.sl.2⟩))),(FzAs.same _),aB (m:=6) rfl (aA (.inr (.inl ⟨(.seg 10 10 (.q 0 (.q 1 (.q 2 (.q 3 (.q 4 (.q 5 (.q 6 (.q 7 (.q 8 (.q 9 .leaf)))))))))) (.tail 10)),by kernel_rfl,⟨_,_,b4q p1,(FzAs.same _),aA (.inr (.inl ⟨(.seg 21 21 (.q 0 (.q 1 (.q 2 (.q 3 (.q 4 (.q 5 (.q 6 (.q 7 (.q 8 (.q 9 (.q 10 (.q 11 (.q 12 (.q 13 (.q 14 (.o 15 (.o 16 (.s 17 (.s 18 (.o 19 (.o 20 .leaf))))))))))))))))))))) .done),by kernel_rfl,⟨_,_,b2m p0.Cache (Verdict.mk p1.Id p1.Stamp p2) p0.C.Cache (by exact Nat.le_trans hw.v.1 (by omega)),(FzAs.same _),aB (m:=8) rfl (aA (aA (bO hown hg)))⟩⟩))⟩⟩)))⟩⟩))))
theorem a6w {n m:Nat} {w:World} {t:Trail} {b:Bool} (h:WI n w) (hm:n+1≤m) (hx:m≤1000000):WI m (kH w t b).2:=by
 have h':WI m w:=h.mono (by omega)
 have hd:=c0e (k:=t.Id) h'.s hx
 exact ((h'.sts hd.2 hd.1).cs (Nat.le_trans b8g (by have:=h.v.1;omega))).free
def a1u:Step (Unit) World :=
 (.next ())
def a1t:Step (Unit) (Step (World) World) :=
 (.next ())
def dZ (p0:World) (p1:Int):Step (World) World :=
 (bif (aC p0.St (p0.Tasks[(p1).toNat]?.getD default).Trace).2 then (bif ((aC p0.St (p0.Tasks[(p1).toNat]?.getD default).Trace).1.Stamp==(p0.Tasks[(p1).toNat]?.getD default).Stamp) then (bif (decide ((IntKind.i64.wrap (p0.Used+(cY (p0.Tasks[(p1).toNat]?.getD default).S))) > p0.C.Budget)) then (aZ (kH p0 (aC p0.St (p0.Tasks[(p1).toNat]?.getD default).Trace).1 false) fun (v1:(Int×World))=>(Step.get (fun s3=>(.next { v1.2 with W:=(dI v1.2.W (aC p0.St (p0.Tasks[(p1).toNat]?.getD default).Trace).1.Stamp).1,Due:=p0.Due,Queue:=p0.Queue,Out:=p0.Out,Tasks:=p0.Tasks,Deeds:=(p0.Deeds++[(Deed.mk 3 p1 (Span.mk 0 0 0 0 false ([]:List Attr)) (aC p0.St (p0.Tasks[(p1).toNat]?.getD default).Trace).1.Id (aC p0.St (p0.Tasks[(p1).toNat]?.getD default).Trace).1.Stamp 0 false false 0 ((((aC p0.St (p0.Tasks[(p1).toNat]?.getD default).Trace).1.Spans).length:Nat):Int) v1.1 (dI v1.2.W (aC p0.St (p0.Tasks[(p1).toNat]?.getD default).Trace).1.Stamp).1.Now v1.2.Time v1.2.Time v1.2.Time)]) })) (a1t))) else (.next p0)) else (.next p0)) else (.next p0))
def gK (p0:World) (p1:Int):World :=
 (Step.get (fun s1=>(Step.get (fun s2=>{ s2 with St:=(List.set s2.St ((aD (p0.Tasks[(p1).toNat]?.getD default).Trace (((s2.St).length:Nat):Int))).toNat (Stripe.mk (-1) (s2.St[((aD (p0.Tasks[(p1).toNat]?.getD default).Trace (((s2.St).length:Nat):Int))).toNat]?.getD default).L)),Tasks:=(List.set s2.Tasks (p1).toNat { (s2.Tasks[(p1).toNat]?.getD default) with Pc:=0,Trace:=0,Stamp:=0 }) }) (dZ p0 p1))) (a1u))
theorem b9l {n m:Nat} {w:World} {k:Int} (h:WI n w) (hm:n+2≤m) (hx:m≤1000000) {s:World} (e:dZ w k=.next s):WI m s∧s.Tasks=w.Tasks:=by
 unfold dZ at e
 refine dO (Q:=WI m s∧s.Tasks=w.Tasks) (fun _=>dO (fun _=>dO (fun _ e=>?_) (fun _ e=>?_)) (fun _ e=>?_)) (fun _ e=>?_) e
 · have hf:=a6w (m:=n+1) (t:=(aC w.St (w.Tasks[k.toNat]?.getD default).Trace).1) (b:=false) h (Nat.le_refl _) (by omega)
   cases (show Step.next _=Step.next s from e)
   exact ⟨(hf.ww (c6x hf.wb)).da hm (by exact fN),rfl⟩
 · cases e;exact ⟨h.mono (by omega),rfl⟩
 · cases e;exact ⟨h.mono (by omega),rfl⟩
 · cases e;exact ⟨h.mono (by omega),rfl⟩
theorem b4j (p0:World) (p1:Int) (u2:Value) (u3:Value) (u4:Value) (hu2:fit u2=true) (hu3:fit u3=true) (hu4:fit u4=true) (hw:WI 830000 p0) (hi:0≤p1∧p1 < 5) (h1p:(p0.Tasks[p1.toNat]?.getD default).Op=1):FnOk prog 183 [.tup [.one (.b (World.cv none none (some u2) (some u3) (some u4) none none p0))],.one (.v (.int .i64 p1))] ⟨.tup [],[.one (.b (World.cv none none (some u2) (some u3) (some u4) none none (gK p0 p1)))],[],false⟩:=by
 refine FnOk.introV (E:=env) aK aS func183 rfl (by kernel_rfl) rfl ?_
 have hg:=gK.eq_1 p0 p1
 have hown:(false=false→∀g:World,AV.Own (AV.tup []))∧(fun g:World=>World.cv none none (some u2) (some u3) (some u4) none none g)=_∧(fun g:World=>AV.tup [])=_:=⟨fun _ g=>trivial,rfl,rfl⟩
 refine aA (bK (by have ho:(p0.Tasks[p1.toNat]?.getD default).Op≠0:=(by rw [h1p];decide);have qt:=hw.tl;have qd:=hw.at p1.toNat ho;(simp only [List.length_map,List.length_set];omega)) (cZ (i:=(p1).toNat) (l:=p0.Tasks) (by exact Nat.zero_add _) (fun hq1=>aB (m:=6) rfl (eA hg [0,1,4] (fun x1=>[(5,.one (.p 8 [] 0 0 0)),(6,.one (.v (.bool (aC p0.St (p0.Tasks[(p1).toNat]?.getD default).Trace).2)))]) (fun x1=>[.keep 0,.dead,.keep 2,.keep 3,.keep 4,.keep 5,.keep 6,.dead,.new ⟨4,true,[[.v (.int .i64 (aC p0.St (p0.Tasks[(p1).toNat]?.getD default).Trace).1.Id),.v (.int .i64 (aC p0.St (p0.Tasks[(p1).toNat]?.getD default).Trace).1.Stamp),.v (.int .i64 (aC p0.St (p0.Tasks[(p1).toNat]?.getD default).Trace).1.First),.s false 6 (List.map (Span.cells false) (aC p0.St (p0.Tasks[(p1).toNat]?.getD default).Trace).1.Spans)]],0⟩]) (fun hb1=>have hb1:=hb1.trans (a1u.eq_1 ..);.inr (.inl ⟨(.seg 13 13 (.q 0 (.q 1 (.q 2 (.q 3 (.q 4 (.q 5 (.b 6 (.s 7 (.s 8 (.s 9 (.o 10 (.w 11 (.o 12 .leaf)))))) 10 (.o 6 (.o 7 (.s 8 (.s 9 (.w 11 (.o 12 .leaf))))))))))))) .done),by kernel_rfl,And.intro (⟨_,_,(FnOk.conv (.tup (.cons (FzR.frzA (kM _)) (.cons (.same _) (.same _)))) (lR p0.St (p0.Tasks[(p1).toNat]?.getD default).Trace (by exact ⟨bdS.mono hw.s (by omega) (jS (by omega)),hw.sl.2⟩))),(FzAs.same _),aB (m:=8) rfl (aB (m:=8) rfl (.inl ⟨⟨_,hb1⟩,[some 0,none,some 2,some 3,some 4,some 5,some 6,none,some 8],(by repeat' constructor)⟩))⟩) (aB (m:=7) rfl (⟨_,_,(FnOk.conv (.tup (.cons (FzR.frzA (kM _)) (.cons (.same _) (.same _)))) (lR p0.St (p0.Tasks[(p1).toNat]?.getD default).Trace (by exact ⟨bdS.mono hw.s (by omega) (jS (by omega)),hw.sl.2⟩))),(FzAs.same _),aB (m:=9) rfl (.inl ⟨⟨_,hb1⟩,[some 0,none,some 2,some 3,some 4,some 5,some 6,none,some 7],(by repeat' constructor)⟩)⟩))⟩)) (fun x1 hg=>eA hg [0,1,4] (fun x2=>[]) (fun x2=>[.new ⟨32,true,[[.v (.int .i64 x2.s.C.Stripes),.v (.int .i64 x2.s.C.Wait),.v (.int .i64 x2.s.C.Budget),.v (.int .i64 x2.s.C.Cache),.v (.int .i64 x2.s.C.Queue),.v (.int .i64 x2.s.C.Rate),.v (.int .i64 x2.s.C.Burst),.v (.int .i64 x2.s.C.Rule.Kind),.v (.int .i64 x2.s.C.Rule.N),.v (.string x2.s.C.Rule.Key),.v (.string x2.s.C.Rule.Text),.s false 5 (List.map (Pol.cells false) x2.s.C.Rule.L),.v (.int .i64 x2.s.Time),.v (.bool x2.s.Shut),.n 10 [] 1 0 (x2.s.St).length,.v (.int .i64 x2.s.RuleHeld),.v (.int .i64 x2.s.B.Rate),.v (.int .i64 x2.s.B.Burst),.v (.int .i64 x2.s.B.Tokens),.v (.int .i64 x2.s.B.At),.n 11 [] 1 0 (x2.s.Cache).length,.v (.int .i64 x2.s.Used),.v (.int .i64 x2.s.W.Now),.s false 1 (List.map (cSl false 3 Timer.cells) x2.s.W.Near),.s false 1 (List.map (cSl false 3 Timer.cells) x2.s.W.Far),.s false 3 (List.map Timer.cells x2.s.W.Rest),.v u2,.v u3,.v u4,.n 4 [] 1 0 (x2.s.Tasks).length,.n 15 [] 1 0 (x2.s.Deeds).length,.v (.int .i64 x2.s.Next)]],0⟩,.dead,.dead,.dead,.new ⟨12,false,List.map (Task.cells false) x2.s.Tasks,0⟩,.dead,.keep 6,.dead,.dead,.dead,.new ⟨2,false,List.map (Stripe.cells false) x2.s.St,0⟩,.new ⟨3,false,List.map Verdict.cells x2.s.Cache,0⟩,.dead,.dead,.dead,.new ⟨20,false,List.map (Deed.cells false) x2.s.Deeds,0⟩]) (fun hb2=>?_) (fun x2 hg=>?_))))))
 · refine have hb2:=hb2.trans (dZ.eq_1 ..);aA (.inl ⟨by kernel_rfl,brE hb2 (fun hb2 h2=>brQ hb2 (fun hb2 h3=>⟨_,_,oW (p0.Tasks[(p1).toNat]?.getD default).S,(FzAs.same _),brD hb2 (fun hb2 h4=>aA (.inr ⟨0,[false,false,false,false,false,false,false,false,false,false,false,false,false,false,false,false,false,false,false,false,false,false,false,false,false,false,true,true,true,true,true],fun us5 hu5=>⟨_,(.same _),_,_,_,_,_,a1f p0 (aC p0.St (p0.Tasks[(p1).toNat]?.getD default).Trace).1 false (us5 26) (us5 27) (us5 28) (us5 29) (us5 30) (hu5 26) (hu5 27) (hu5 28) (hu5 29) (hu5 30) (by exact hw.mono (by omega)),(FzAs.same _),(.same _),(by repeat' constructor),(Int×World),(kH p0 (aC p0.St (p0.Tasks[(p1).toNat]?.getD default).Trace).1 false),(fun g=>World.cv none none (some (us5 26)) (some (us5 27)) (some (us5 28)) (some (us5 29)) (some (us5 30)) g.2),(fun g=>.one (.v (.int .i64 g.1))),rfl,rfl,fun v1 hvv1=>aB (m:=10) rfl (aB (m:=12) rfl (have hb2:=bG hvv1 hb2;eA hb2 [0,1,4,5,7] (fun x3=>[(8,.one (.p 13 [] 0 0 0))]) (fun x3=>[.keep 0,.dead,.dead,.dead,.keep 4,.keep 5,.keep 6,.dead,.keep 8,.dead,.keep 10,.keep 11,.dead,.new ⟨4,true,[[.v (.int .i64 (dI v1.2.W (aC p0.St (p0.Tasks[(p1).toNat]?.getD default).Trace).1.Stamp).1.Now),.s false 1 (List.map (cSl false 3 Timer.cells) (dI v1.2.W (aC p0.St (p0.Tasks[(p1).toNat]?.getD default).Trace).1.Stamp).1.Near),.s false 1 (List.map (cSl false 3 Timer.cells) (dI v1.2.W (aC p0.St (p0.Tasks[(p1).toNat]?.getD default).Trace).1.Stamp).1.Far),.s false 3 (List.map Timer.cells (dI v1.2.W (aC p0.St (p0.Tasks[(p1).toNat]?.getD default).Trace).1.Stamp).1.Rest)]],0⟩]) (fun hb3=>have hb3:=hb3.trans (a1t.eq_1 ..);.inr (.inl ⟨(.seg 13 13 (.q 0 (.q 1 (.q 2 (.q 3 (.q 4 (.q 5 (.b 6 (.s 7 (.s 8 (.s 9 (.o 10 (.w 11 (.o 12 .leaf)))))) 10 (.o 6 (.o 7 (.s 8 (.s 9 (.w 11 (.o 12 .leaf))))))))))))) .done),by kernel_rfl,And.intro (⟨_,_,(FnOk.conv (.tup (.cons (FzR.frzA (tC _)) (.cons (.same _) (.same _)))) (a6a v1.2.W (aC p0.St (p0.Tasks[(p1).toNat]?.getD default).Trace).1.Stamp (by rw [hvv1];exact dL (by omega) hw.wb))),(FzAs.same _),aB (m:=13) rfl (aB (m:=13) rfl (.inl ⟨⟨_,hb3⟩,[some 0,none,none,none,some 4,some 5,some 6,none,some 8,none,some 10,some 11,none,some 13],(by repeat' constructor)⟩))⟩) (aB (m:=12) rfl (⟨_,_,(FnOk.conv (.tup (.cons (FzR.frzA (tC _)) (.cons (.same _) (.same _)))) (a6a v1.2.W (aC p0.St (p0.Tasks[(p1).toNat]?.getD default).Trace).1.Stamp (by rw [hvv1];exact dL (by omega) hw.wb))),(FzAs.same _),aB (m:=14) rfl (.inl ⟨⟨_,hb3⟩,[some 0,none,none,none,some 4,some 5,some 6,none,some 8,none,some 10,some 11,none,some 12],(by repeat' constructor)⟩)⟩))⟩)) (fun x3 hb2=>aA (.inr (.inl ⟨(.pre 0 (.pre 1 (.pre 5 (.pre 6 (.pre 8 (.pre 10 (.pre 13 (.pre 14 (.pre 19 (.pre 23 (.pre 27 (.seg 33 22 (.q 2 (.q 3 (.q 4 (.q 7 (.q 9 (.q 11 (.q 12 (.q 15 (.q 16 (.q 17 (.q 18 (.q 20 (.q 21 (.q 22 (.q 24 (.q 25 (.q 26 (.q 28 (.q 29 (.q 30 (.q 31 (.o 32 .leaf)))))))))))))))))))))) (.tail 33))))))))))))),by kernel_rfl,bJ fun hN6=>.inl (aB (m:=14) rfl (.inr (.inr (.inl (aV (Y:=List.map (Deed.cells false) (p0.Deeds++[(Deed.mk 3 p1 (Span.mk 0 0 0 0 false ([]:List Attr)) (aC p0.St (p0.Tasks[(p1).toNat]?.getD default).Trace).1.Id (aC p0.St (p0.Tasks[(p1).toNat]?.getD default).Trace).1.Stamp 0 false false 0 ((((aC p0.St (p0.Tasks[(p1).toNat]?.getD default).Trace).1.Spans).length:Nat):Int) v1.1 (dI v1.2.W (aC p0.St (p0.Tasks[(p1).toNat]?.getD default).Trace).1.Stamp).1.Now v1.2.Time v1.2.Time v1.2.Time)])) (by simp [bX,bP,-List.map_take,-List.map_drop,-List.drop_one,aQ,aR,rJ,bY rJ,iC a3i,bE xT];rfl) (cS (b:=168) (hs:=by have a1:=hw.db.1;have a2:=hw.q.1;have a3:=hw.o.1;have a4:=hw.d.1;have a5:=hw.s.1;refine ⟨?_,?_⟩;(show List.length _*168≤_);(try simp only [LN]);omega;(try simp only [LN]);omega) ?_))))))⟩)))))⟩⟩)) (fun hb2 h4=>.inl ⟨⟨_,hb2⟩,[some 0,none,none,none,some 4,none,some 6,none,none,none,some 2,some 3,none,none,none,some 5],(by repeat' first|constructor|(simp;done))⟩)⟩) (fun hb2 h3=>.inl ⟨⟨_,hb2⟩,[some 0,none,none,none,some 4,none,some 6,none,none,none,some 2,some 3,none,none,none,some 5],(by repeat' first|constructor|(simp;done))⟩)) (fun hb2 h2=>.inl ⟨⟨_,hb2⟩,[some 0,none,none,none,some 4,none,some 6,none,none,none,some 2,some 3,none,none,none,some 5],(by repeat' first|constructor|(simp;done))⟩)⟩)
   exact aB (m:=15) rfl (.inl ⟨⟨_,hb2⟩,[some 0,none,none,none,some 4,none,some 6,none,none,none,some 10,some 11,none,none,none,some 15],(by repeat' first|constructor|(simp;done))⟩)
 refine have hJ:=b9l (m:=830002) hw (by omega) (by omega) x2.e;aA (.inr (.inl ⟨(.seg 14 14 (.q 0 (.q 1 (.q 2 (.q 3 (.q 4 (.q 5 (.q 6 (.q 7 (.q 8 (.q 9 (.q 10 (.q 11 (.q 12 (.q 13 .leaf)))))))))))))) (.tail 14)),by kernel_rfl,kD (k:=(x2.s.St).length) (by simp) (fun hN7=>⟨_,_,iS (p0.Tasks[(p1).toNat]?.getD default).Trace (((x2.s.St).length:Nat):Int),(FzAs.same _),bK (by have ho:(p0.Tasks[p1.toNat]?.getD default).Op≠0:=(by rw [h1p];decide);have qt:=hw.tl;have qd:=hw.at p1.toNat ho;exact stO hJ.1.sl) (.inl (aV (Y:=List.map (Stripe.cells false) (List.set x2.s.St ((aD (p0.Tasks[(p1).toNat]?.getD default).Trace (((x2.s.St).length:Nat):Int))).toNat (Stripe.mk (-1) (x2.s.St[((aD (p0.Tasks[(p1).toNat]?.getD default).Trace (((x2.s.St).length:Nat):Int))).toNat]?.getD default).L))) (by exact dC (by simp) (fun a ha=>by simp only [ha,Option.getD_some];rfl)) ?_))⟩)⟩))
 refine aA (bK (by have ho:(p0.Tasks[p1.toNat]?.getD default).Op≠0:=(by rw [h1p];decide);have qt:=hw.tl;have qd:=hw.at p1.toNat ho;(rw [hJ.2];omega)) (.inl (aV (Y:=List.map (Task.cells false) (List.set x2.s.Tasks (p1).toNat { (x2.s.Tasks[(p1).toNat]?.getD default) with Pc:=0 })) (by exact dC (by simp) (fun a ha=>by simp only [ha,Option.getD_some];rfl)) ?_)))
 refine aA (bK (by have ho:(p0.Tasks[p1.toNat]?.getD default).Op≠0:=(by rw [h1p];decide);have qt:=hw.tl;have qd:=hw.at p1.toNat ho;(rw [hJ.2];omega)) (.inl (aV (Y:=List.map (Task.cells false) (List.set x2.s.Tasks (p1).toNat { (x2.s.Tasks[(p1).toNat]?.getD default) with Pc:=0,Trace:=0 })) (by exact lM (by simp) (by rfl)) ?_)))
 refine bK (by have ho:(p0.Tasks[p1.toNat]?.getD default).Op≠0:=(by rw [h1p];decide);have qt:=hw.tl;have qd:=hw.at p1.toNat ho;(rw [hJ.2];omega)) (.inl (aV (Y:=List.map (Task.cells false) (List.set x2.s.Tasks (p1).toNat { (x2.s.Tasks[(p1).toNat]?.getD default) with Pc:=0,Trace:=0,Stamp:=0 })) (by exact lM (by simp) (by rfl)) ?_))
 exact bO hown hg
theorem c4k {w:World} {k:Int}:∃s,dZ w k=.next s:=by
 unfold dZ
 exact aH (P:=fun z:Step World World=>∃s,z=.next s) (fun _=>aH (P:=fun z:Step World World=>∃s,z=.next s) (fun _=>aH (P:=fun z:Step World World=>∃s,z=.next s) (fun _=>⟨_,rfl⟩) (fun _=>⟨_,rfl⟩)) (fun _=>⟨_,rfl⟩)) (fun _=>⟨_,rfl⟩)
theorem c4l {n m:Nat} {w:World} {k:Int} (h:WI n w) (h1:(w.Tasks[k.toNat]?.getD default).Op=1) (hm:n+2≤m) (hx:m≤1000000):WI m (gK w k):=by
 have hp:(w.Tasks[k.toNat]?.getD default).Op≠2:=by rw [h1];decide
 unfold gK
 obtain ⟨s,e⟩:=c4k (w:=w) (k:=k)
 have hJ:=b9l h hm hx e
 show WI m (Step.get _ (dZ w k))
 rw [e]
 exact (hJ.1.sk (by exact hJ.1.str _)).pc (by exact hJ.1.task k.toNat) (by exact hJ.1.at k.toNat) (by refine .inl ?_;show (s.Tasks[k.toNat]?.getD default).Op≠2;rw [hJ.2];exact hp)
def oZ (p0:World) (p1:Int):Step (Bool×Conf×Int×Bool×Int×Bucket×Int×Wheel×Int×(List Stripe)×(List Verdict)×(List Item)×(List Task)×(List Deed)) (Bool×World) :=
 (bif ((p0.Tasks[(p1).toNat]?.getD default).Pc==0) then (bif ((p0.St[((aD (p0.Tasks[(p1).toNat]?.getD default).S.Trace (((p0.St).length:Nat):Int))).toNat]?.getD default).Held != (-1)) then (.done (false,p0)) else (.done (true,{ p0 with Time:=(IntKind.i64.wrap (p0.Time+1)),St:=(List.set p0.St ((aD (p0.Tasks[(p1).toNat]?.getD default).S.Trace (((p0.St).length:Nat):Int))).toNat (Stripe.mk p1 (p0.St[((aD (p0.Tasks[(p1).toNat]?.getD default).S.Trace (((p0.St).length:Nat):Int))).toNat]?.getD default).L)),Tasks:=(List.set p0.Tasks (p1).toNat { (p0.Tasks[(p1).toNat]?.getD default) with Pc:=1 }) }))) else (bif ((p0.Tasks[(p1).toNat]?.getD default).Pc==1) then (aZ (fM p0 p1) fun (v1:(Bool×World))=>(.next (v1.1,v1.2.C,v1.2.Time,v1.2.Shut,v1.2.RuleHeld,v1.2.B,v1.2.Used,v1.2.W,v1.2.Next,v1.2.St,v1.2.Cache,v1.2.Queue,v1.2.Tasks,v1.2.Deeds))) else (bif ((p0.Tasks[(p1).toNat]?.getD default).Pc==2) then (aZ (cL p0 p1) fun (v2:(Bool×World))=>(.next (v2.1,v2.2.C,v2.2.Time,v2.2.Shut,v2.2.RuleHeld,v2.2.B,v2.2.Used,v2.2.W,v2.2.Next,v2.2.St,p0.Cache,p0.Queue,v2.2.Tasks,p0.Deeds))) else (aZ (gK p0 p1) fun (v3:World)=>(.done (true,{ v3 with Time:=(IntKind.i64.wrap (v3.Time+1)),Due:=p0.Due,Queue:=p0.Queue,Out:=p0.Out }))))))
def gJ (p0:World) (p1:Int):(Bool×World) :=
 (Step.get (fun s1=>(bif s1.1 then (s1.1,(World.mk s1.2.1 (IntKind.i64.wrap (s1.2.2.1+1)) s1.2.2.2.1 s1.2.2.2.2.2.2.2.2.2.1 s1.2.2.2.2.1 s1.2.2.2.2.2.1 s1.2.2.2.2.2.2.2.2.2.2.1 s1.2.2.2.2.2.2.1 s1.2.2.2.2.2.2.2.1 p0.Due s1.2.2.2.2.2.2.2.2.2.2.2.1 p0.Out s1.2.2.2.2.2.2.2.2.2.2.2.2.1 s1.2.2.2.2.2.2.2.2.2.2.2.2.2 s1.2.2.2.2.2.2.2.2.1)) else (s1.1,(World.mk s1.2.1 s1.2.2.1 s1.2.2.2.1 s1.2.2.2.2.2.2.2.2.2.1 s1.2.2.2.2.1 s1.2.2.2.2.2.1 s1.2.2.2.2.2.2.2.2.2.2.1 s1.2.2.2.2.2.2.1 s1.2.2.2.2.2.2.2.1 p0.Due s1.2.2.2.2.2.2.2.2.2.2.2.1 p0.Out s1.2.2.2.2.2.2.2.2.2.2.2.2.1 s1.2.2.2.2.2.2.2.2.2.2.2.2.2 s1.2.2.2.2.2.2.2.2.1)))) (oZ p0 p1))
theorem b4g (p0:World) (p1:Int) (u2:Value) (u4:Value) (hu2:fit u2=true) (hu4:fit u4=true) (hw:WI 820000 p0) (hi:0≤p1∧p1 < 5) (h1p:(p0.Tasks[p1.toNat]?.getD default).Op=1):FnOk prog 163 [.tup [.one (.b (World.cv none none (some u2) none (some u4) none none p0))],.one (.v (.int .i64 p1))] ⟨.one (.v (.bool (gJ p0 p1).1)),[.one (.b (World.cv none none (some u2) none (some u4) none none (gJ p0 p1).2))],[],false⟩:=by
 refine FnOk.introV (E:=env) aK aS func163 rfl (by kernel_rfl) rfl ?_
 have hg:=gJ.eq_1 p0 p1
 have hown:(false=false→∀g:(Bool×World),AV.Own (AV.one (.v (.bool g.1))))∧(fun g:(Bool×World)=>World.cv none none (some u2) none (some u4) none none g.2)=_∧(fun g:(Bool×World)=>AV.one (.v (.bool g.1)))=_:=⟨fun _ g=>.v _,rfl,rfl⟩
 refine aA (aA (eA hg [0] (fun x1=>[(5,.one (.v (.bool x1.s.1)))]) (fun x1=>[.new ⟨32,true,[[.v (.int .i64 x1.s.2.1.Stripes),.v (.int .i64 x1.s.2.1.Wait),.v (.int .i64 x1.s.2.1.Budget),.v (.int .i64 x1.s.2.1.Cache),.v (.int .i64 x1.s.2.1.Queue),.v (.int .i64 x1.s.2.1.Rate),.v (.int .i64 x1.s.2.1.Burst),.v (.int .i64 x1.s.2.1.Rule.Kind),.v (.int .i64 x1.s.2.1.Rule.N),.v (.string x1.s.2.1.Rule.Key),.v (.string x1.s.2.1.Rule.Text),.s false 5 (List.map (Pol.cells false) x1.s.2.1.Rule.L),.v (.int .i64 x1.s.2.2.1),.v (.bool x1.s.2.2.2.1),.n 8 [] 1 0 (x1.s.2.2.2.2.2.2.2.2.2.1).length,.v (.int .i64 x1.s.2.2.2.2.1),.v (.int .i64 x1.s.2.2.2.2.2.1.Rate),.v (.int .i64 x1.s.2.2.2.2.2.1.Burst),.v (.int .i64 x1.s.2.2.2.2.2.1.Tokens),.v (.int .i64 x1.s.2.2.2.2.2.1.At),.n 9 [] 1 0 (x1.s.2.2.2.2.2.2.2.2.2.2.1).length,.v (.int .i64 x1.s.2.2.2.2.2.2.1),.v (.int .i64 x1.s.2.2.2.2.2.2.2.1.Now),.s false 1 (List.map (cSl false 3 Timer.cells) x1.s.2.2.2.2.2.2.2.1.Near),.s false 1 (List.map (cSl false 3 Timer.cells) x1.s.2.2.2.2.2.2.2.1.Far),.s false 3 (List.map Timer.cells x1.s.2.2.2.2.2.2.2.1.Rest),.v u2,.n 10 [] 1 0 (x1.s.2.2.2.2.2.2.2.2.2.2.2.1).length,.v u4,.n 11 [] 1 0 (x1.s.2.2.2.2.2.2.2.2.2.2.2.2.1).length,.n 12 [] 1 0 (x1.s.2.2.2.2.2.2.2.2.2.2.2.2.2).length,.v (.int .i64 x1.s.2.2.2.2.2.2.2.2.1)]],0⟩,.dead,.dead,.dead,.dead,.dead,.dead,.dead,.new ⟨2,false,List.map (Stripe.cells false) x1.s.2.2.2.2.2.2.2.2.2.1,0⟩,.new ⟨3,false,List.map Verdict.cells x1.s.2.2.2.2.2.2.2.2.2.2.1,0⟩,.new ⟨7,false,List.map (Item.cells false) x1.s.2.2.2.2.2.2.2.2.2.2.2.1,0⟩,.new ⟨12,false,List.map (Task.cells false) x1.s.2.2.2.2.2.2.2.2.2.2.2.2.1,0⟩,.new ⟨20,false,List.map (Deed.cells false) x1.s.2.2.2.2.2.2.2.2.2.2.2.2.2,0⟩]) (fun hb1=>have hb1:=hb1.trans (oZ.eq_1 ..);aA (bK (by have ho:(p0.Tasks[p1.toNat]?.getD default).Op≠0:=(by rw [h1p];decide);have qt:=hw.tl;(try have qd:=hw.at p1.toNat ho);(simp only [List.length_map,List.length_set];omega)) (cZ (i:=(p1).toNat) (l:=p0.Tasks) (by exact Nat.zero_add _) (fun hq1=>aA (brQ hb1 (fun hb1 h2=>aA (.inl ⟨by kernel_rfl,bK (by have ho:(p0.Tasks[p1.toNat]?.getD default).Op≠0:=(by rw [h1p];decide);have qt:=hw.tl;(try have qd:=hw.at p1.toNat ho);(simp only [List.length_map,List.length_set];omega)) (cZ (i:=(p1).toNat) (l:=p0.Tasks) (by exact Nat.zero_add _) (fun hq3=>kD (k:=(p0.St).length) (by simp) (fun hN4=>⟨_,_,iS (p0.Tasks[(p1).toNat]?.getD default).S.Trace (((p0.St).length:Nat):Int),(FzAs.same _),aA (aA (bK (by have ho:(p0.Tasks[p1.toNat]?.getD default).Op≠0:=(by rw [h1p];decide);have qt:=hw.tl;(try have qd:=hw.at p1.toNat ho);(simp only [List.length_map,List.length_set];exact stO hw.sl)) (cZ (i:=((aD (p0.Tasks[(p1).toNat]?.getD default).S.Trace (((p0.St).length:Nat):Int))).toNat) (l:=p0.St) (by exact Nat.zero_add _) (fun hq5=>brW hb1 (fun hb1 h6=>aA (have hg:=getD hg hb1;bO hown hg)) (fun hb1 h6=>aA (bK (by have ho:(p0.Tasks[p1.toNat]?.getD default).Op≠0:=(by rw [h1p];decide);have qt:=hw.tl;(try have qd:=hw.at p1.toNat ho);(simp only [List.length_map,List.length_set];exact stO hw.sl)) (.inl (aV (Y:=List.map (Stripe.cells false) (List.set p0.St ((aD (p0.Tasks[(p1).toNat]?.getD default).S.Trace (((p0.St).length:Nat):Int))).toNat (Stripe.mk p1 (p0.St[((aD (p0.Tasks[(p1).toNat]?.getD default).S.Trace (((p0.St).length:Nat):Int))).toNat]?.getD default).L))) (by exact dC (by simp) (fun a ha=>by simp only [ha,Option.getD_some];rfl)) ?_))))))))⟩)))⟩)) (fun hb1 h2=>aA (brQ hb1 (fun hb1 h7=>.inr ⟨0,[false,false,false,false,false,false,false,false,false,false,false,false,false,false,false,false,false,false,false,false,false,false,false,false,false,false,true,false,true],fun us8 hu8=>⟨_,(.same _),_,_,_,_,_,b4i p0 p1 (us8 26) (us8 28) (hu8 26) (hu8 28) (by have ho:(p0.Tasks[p1.toNat]?.getD default).Op≠0:=(by rw [h1p];decide);exact hw.mono (by omega)) (by have ho:(p0.Tasks[p1.toNat]?.getD default).Op≠0:=(by rw [h1p];decide);exact hi) (by have ho:(p0.Tasks[p1.toNat]?.getD default).Op≠0:=(by rw [h1p];decide);exact ho),(FzAs.same _),(.same _),⟨rfl,rfl,trivial⟩,(Bool×World),(fM p0 p1),(fun g=>World.cv none none (some (us8 26)) none (some (us8 28)) none none g.2),(fun g=>.one (.v (.bool g.1))),rfl,rfl,fun v1 hvv1=>aB (m:=8) rfl (aB (m:=13) rfl (have hb1:=bG hvv1 hb1;.inl ⟨⟨_,hb1⟩,[some 0,none,none,none,none,none,none,none,some 8,some 9,some 10,some 11,some 12],(by repeat' first|constructor|(simp;done))⟩))⟩⟩) (fun hb1 h7=>aA (brQ hb1 (fun hb1 h9=>.inr ⟨0,[false,false,false,false,false,false,false,false,false,false,false,false,false,false,false,false,false,false,false,false,true,false,false,false,false,false,true,true,true,false,true],fun us10 hu10=>⟨_,(.same _),_,_,_,_,_,b4h p0 p1 (us10 20) (us10 26) (us10 27) (us10 28) (us10 30) (hu10 20) (hu10 26) (hu10 27) (hu10 28) (hu10 30) (by have ho:(p0.Tasks[p1.toNat]?.getD default).Op≠0:=(by rw [h1p];decide);exact hw.mono (by omega)) (by have ho:(p0.Tasks[p1.toNat]?.getD default).Op≠0:=(by rw [h1p];decide);exact hi) (by have ho:(p0.Tasks[p1.toNat]?.getD default).Op≠0:=(by rw [h1p];decide);exact ho),(FzAs.same _),(.same _),(by repeat' constructor),(Bool×World),(cL p0 p1),(fun g=>World.cv none (some (us10 20)) (some (us10 26)) (some (us10 27)) (some (us10 28)) none (some (us10 30)) g.2),(fun g=>.one (.v (.bool g.1))),rfl,rfl,fun v2 hvv2=>aB (m:=8) rfl (aB (m:=10) rfl (have hb1:=bG hvv2 hb1;.inl ⟨⟨_,hb1⟩,[some 0,none,none,none,none,none,none,none,some 8,some 3,some 4,some 9,some 6],(by repeat' first|constructor|(simp;done))⟩))⟩⟩) (fun hb1 h9=>.inr ⟨0,[false,false,false,false,false,false,false,false,false,false,false,false,false,false,false,false,false,false,false,false,false,false,false,false,false,false,true,true,true],fun us11 hu11=>⟨_,(.same _),_,_,_,_,_,b4j p0 p1 (us11 26) (us11 27) (us11 28) (hu11 26) (hu11 27) (hu11 28) (by have ho:(p0.Tasks[p1.toNat]?.getD default).Op≠0:=(by rw [h1p];decide);exact hw.mono (by omega)) (by have ho:(p0.Tasks[p1.toNat]?.getD default).Op≠0:=(by rw [h1p];decide);exact hi) (by have ho:(p0.Tasks[p1.toNat]?.getD default).Op≠0:=(by rw [h1p];decide);exact h1p),(FzAs.same _),(.same _),⟨rfl,rfl,rfl,trivial⟩,World,(gK p0 p1),(fun g=>World.cv none none (some (us11 26)) (some (us11 27)) (some (us11 28)) none none g),(fun g=>.tup []),rfl,rfl,fun v3 hvv3=>aB (m:=8) rfl (aB (m:=12) rfl (have hb1:=bG hvv3 hb1;.inr (have hg:=getD hg hb1;aA (aA (aA (bO hown hg))))))⟩⟩)))))))))) (fun x1 hg=>aA (aA (brE hg (fun hg h12=>aA (bO hown hg)) (fun hg h12=>aA (bO hown hg)))))))
 refine bK (by have ho:(p0.Tasks[p1.toNat]?.getD default).Op≠0:=(by rw [h1p];decide);have qt:=hw.tl;(try have qd:=hw.at p1.toNat ho);(simp only [List.length_map,List.length_set];omega)) (.inl (aV (Y:=List.map (Task.cells false) (List.set p0.Tasks (p1).toNat { (p0.Tasks[(p1).toNat]?.getD default) with Pc:=1 })) (by exact dC (by simp) (fun a ha=>by simp only [ha,Option.getD_some];rfl)) ?_))
 exact .inr (have hg:=getD hg hb1;aA (aA (aA (bO hown hg))))
theorem c4i {n m:Nat} {w:World} {k:Int} (h:WI n w) (h1:(w.Tasks[k.toNat]?.getD default).Op=1) (hm:n+5≤m) (hx:m≤890000):WI m (gJ w k).2:=by
 have hp:(w.Tasks[k.toNat]?.getD default).Op≠2:=by rw [h1];decide
 have h':WI m w:=h.mono (by omega)
 show WR m (gJ w k)
 unfold gJ
 refine uU (P:=fun s:Bool×Conf×Int×Bool×Int×Bucket×Int×Wheel×Int×(List Stripe)×(List Verdict)×(List Item)×(List Task)×(List Deed)=>∃v:World,WI m v∧s.2.1=v.C∧s.2.2.2.2.2.2.2.1=v.W∧s.2.2.2.2.2.2.2.2.2.1=v.St∧s.2.2.2.2.2.2.2.2.2.2.1=v.Cache∧s.2.2.2.2.2.2.2.2.2.2.2.1=v.Queue∧s.2.2.2.2.2.2.2.2.2.2.2.2.1=v.Tasks∧s.2.2.2.2.2.2.2.2.2.2.2.2.2=v.Deeds) (Q:=WR m) ?_ (fun s hs=>?_)
 · unfold oZ
   refine cO (cO (fV h') (fV (r:=(true,_)) ((h'.sk (by exact h'.str _)).pc (by exact h'.task k.toNat) (by exact h'.at k.toNat) (by exact .inl hp)).free)) (cO (dD ?_) (cO (dD ?_) (fV (r:=(true,_)) ?_)))
   · exact ⟨_,c4j h (by omega) hx,rfl,rfl,rfl,rfl,rfl,rfl,rfl⟩
   · exact ⟨{ (cL w k).2 with Cache:=w.Cache,Queue:=w.Queue },((zZ h' h1).mix (zZ h' h1) h' (zZ h' h1) h' (zZ h' h1)),rfl,rfl,rfl,rfl,rfl,rfl,b6t.symm⟩
   · have hd:=c4l h h1 (m:=m) (by omega) (by omega)
     exact (hd.mix hd hd h' h' h').free
 · obtain ⟨v,hv,e1,e2,e3,e4,e5,e6,e7⟩:=hs
   refine aH (P:=WR m) (fun _=>?_) (fun _=>?_)
   · show WI m (World.mk _ _ _ _ _ _ _ _ _ _ _ _ _ _ _)
     rw [e1,e2,e3,e4,e5,e6,e7]
     exact (hv.mix hv hv h' hv h').free
   · show WI m (World.mk _ _ _ _ _ _ _ _ _ _ _ _ _ _ _)
     rw [e1,e2,e3,e4,e5,e6,e7]
     exact (hv.mix hv hv h' hv h').free
def oO (p0:Bucket):Bool :=
 (bif (aO p0.Rate 0 99) then (bif (aO p0.Burst 0 999) then (bif (aO p0.Tokens 0 p0.Burst) then (aO p0.At 0 2147483647) else false) else false) else false)
theorem a2k (p0:Bucket):FnOk prog 219 [.agg (Bucket.cells p0)] ⟨.one (.v (.bool (oO p0))),[],[],false⟩:=by
 refine FnOk.intro (E:=env) aK aS func219 rfl (by kernel_rfl) rfl rfl ?_
 have hg:=oO.eq_1 p0
 have hown:=dP
 exact aA (aB (m:=0) rfl (aA (.inl (⟨_,_,cR p0.Rate 0 99,(FzAs.same _),aB (m:=2) rfl (brE hg (fun hg h1=>.inl (⟨_,_,cR p0.Burst 0 999,(FzAs.same _),aB (m:=3) rfl (brE hg (fun hg h2=>.inl (⟨_,_,cR p0.Tokens 0 p0.Burst,(FzAs.same _),aB (m:=4) rfl (brE hg (fun hg h3=>.inl (⟨_,_,cR p0.At 0 2147483647,(FzAs.same _),aB (m:=5) rfl (aE hown hg)⟩)) (fun hg h3=>aE hown hg))⟩)) (fun hg h2=>aE hown hg))⟩)) (fun hg h1=>aE hown hg))⟩))))
def sM (p0:Int) (p1:Int):Int :=
 (fA (IntKind.i64.wrap ((fA p0) - (fA p1))))
theorem b2l (p0:Int) (p1:Int):FnOk prog 221 [.one (.v (.int .i64 p0)),.one (.v (.int .i64 p1))] ⟨.one (.v (.int .i64 (sM p0 p1))),[],[],false⟩:=by
 refine FnOk.intro (E:=env) aK aS func221 rfl (by kernel_rfl) rfl rfl ?_
 have hg:=sM.eq_1 p0 p1
 have hown:=iN
 exact aA (aA (.inl (⟨_,_,lC p0,(FzAs.same _),aB (m:=1) rfl (.inl (⟨_,_,lC p1,(FzAs.same _),aB (m:=2) rfl (.inl (⟨_,_,lC (IntKind.i64.wrap ((fA p0) - (fA p1))),(FzAs.same _),aB (m:=3) rfl (aE hown hg)⟩))⟩))⟩)))
def xH (p0:Int) (p1:Int):Int :=
 (fA (IntKind.i64.wrap ((fA p0)*(fA p1))))
theorem c5a (p0:Int) (p1:Int):FnOk prog 220 [.one (.v (.int .i64 p0)),.one (.v (.int .i64 p1))] ⟨.one (.v (.int .i64 (xH p0 p1))),[],[],false⟩:=by
 refine FnOk.intro (E:=env) aK aS func220 rfl (by kernel_rfl) rfl rfl ?_
 have hg:=xH.eq_1 p0 p1
 have hown:=iN
 exact aA (aA (.inl (⟨_,_,lC p0,(FzAs.same _),aB (m:=1) rfl (.inl (⟨_,_,lC p1,(FzAs.same _),aB (m:=2) rfl (.inl (⟨_,_,lC (IntKind.i64.wrap ((fA p0)*(fA p1))),(FzAs.same _),aB (m:=3) rfl (aE hown hg)⟩))⟩))⟩)))
def bB (p0:Bucket) (p1:Int):Bucket :=
 (bif (!(oO p0)) then p0 else (bif (decide (p1 < p0.At)) then p0 else (bif (decide (p1 > 2147483647)) then p0 else (bif (decide ((vL p0.Tokens (xH p0.Rate (sM p1 p0.At))) > p0.Burst)) then { p0 with Tokens:=p0.Burst,At:=p1 } else { p0 with Tokens:=(vL p0.Tokens (xH p0.Rate (sM p1 p0.At))),At:=p1 }))))
theorem a5z (p0:Bucket) (p1:Int):FnOk prog 203 [.agg (Bucket.cells p0),.one (.v (.int .i64 p1))] ⟨.agg (Bucket.cells (bB p0 p1)),[],[],false⟩:=by
 refine FnOk.intro (E:=env) aK aS func203 rfl (by kernel_rfl) rfl rfl ?_
 have hg:=bB.eq_1 p0 p1
 have hown:∀g:Bucket,AV.Own (AV.agg (Bucket.cells g)):=fun g=>a4s _
 exact aA (aB (m:=0) rfl (aB (m:=1) rfl (aA (aA (.inl (⟨_,_,a2k p0,(FzAs.same _),aB (m:=3) rfl (brF hg (fun hg h1=>nC hg (fun hg h2=>brD hg (fun hg h3=>aA (aE hown hg)) (fun hg h3=>aA (.inl ⟨by kernel_rfl,⟨_,_,b2l p1 p0.At,(FzAs.same _),⟨_,_,c5a p0.Rate (sM p1 p0.At),(FzAs.same _),⟨_,_,b2s p0.Tokens (xH p0.Rate (sM p1 p0.At)),(FzAs.same _),aA (aA (brD hg (fun hg h4=>aA (aA (aA (aE hown hg)))) (fun hg h4=>aA (aA (aA (aE hown hg))))))⟩⟩⟩⟩))) (fun hg h2=>aA (aE hown hg))) (fun hg h1=>aA (aE hown hg)))⟩))))))
def a3h (i1:Nat) (s1:Int) (a1:Span):Step (Int) Int :=
 (bif a1.Err then (.next (IntKind.i64.wrap (s1+1))) else (.next s1))
def a2t (p0:(List Span)):Int :=
 (Fin.get (fun s1=>s1) (aJ a3h 0 0 p0))
theorem b7f (p0:(List Span)):FnOk prog 226 [.one (.s false 6 (List.map (Span.cells false) p0))] ⟨.one (.v (.int .i64 (a2t p0))),[],[],false⟩:=by
 refine FnOk.intro (E:=env) aK aS func226 rfl (by kernel_rfl) rfl rfl ?_
 have hg:=a2t.eq_1 p0
 have hown:=iN
 exact aA (aA (aA (aA (dW hg [0] (fun x1=>[(3,.one (.v (.int .i64 x1.s))),(4,.one (.v (.int .i64 ((x1.i:Nat):Int))))]) (fun x1=>[]) [] ((by repeat' constructor)) (fun x1=>aA (aA (bJ fun hN1=>cT (fun hi1=>have hb1:=(x1.bdy hi1).trans (a3h.eq_1 ..);have hw1:=aT hi1 (by assumption);aA (aA (cC hi1 (brE hb1 (fun hb1 h2=>x1.goE hi1 hb1 [] ⟨rfl,⟨rfl,(bA hw1),rfl,trivial⟩,trivial,trivial⟩) (fun hb1 h2=>x1.goE hi1 hb1 [] ⟨rfl,⟨rfl,(bA hw1),rfl,trivial⟩,trivial,trivial⟩))))) (fun hi1=>have hg:=bZ hg (x1.fin hi1);aA (aE hown hg)))))))))
def uW (p0:Span):Int :=
 (sM p0.End p0.Start)
theorem a2i (p0:Span):FnOk prog 229 [.agg ((Span.cells false) p0)] ⟨.one (.v (.int .i64 (uW p0))),[],[],false⟩:=by
 refine FnOk.intro (E:=env) aK aS func229 rfl (by kernel_rfl) rfl rfl ?_
 have hg:=uW.eq_1 p0
 have hown:=iN
 exact aA (aB (m:=0) rfl (aA (.inl (⟨_,_,b2l p0.End p0.Start,(FzAs.same _),aB (m:=2) rfl (aE hown hg)⟩))))
def a1v (i1:Nat) (s1:Int) (a1:Span):Step (Int) Int :=
 (bif (decide ((uW a1) > s1)) then (.next (uW a1)) else (.next s1))
def a0o (p0:(List Span)):Int :=
 (Fin.get (fun s1=>s1) (aJ a1v 0 0 p0))
theorem b4o (p0:(List Span)):FnOk prog 227 [.one (.s false 6 (List.map (Span.cells false) p0))] ⟨.one (.v (.int .i64 (a0o p0))),[],[],false⟩:=by
 refine FnOk.intro (E:=env) aK aS func227 rfl (by kernel_rfl) rfl rfl ?_
 have hg:=a0o.eq_1 p0
 have hown:=iN
 exact aA (aA (aA (aA (dW hg [0] (fun x1=>[(3,.one (.v (.int .i64 x1.s))),(4,.one (.v (.int .i64 ((x1.i:Nat):Int))))]) (fun x1=>[]) [] ((by repeat' constructor)) (fun x1=>aA (aA (bJ fun hN1=>cT (fun hi1=>have hb1:=(x1.bdy hi1).trans (a1v.eq_1 ..);have hw1:=aT hi1 (by assumption);aA (aA (cC hi1 (.inl (⟨_,_,a2i (p0[x1.i]'hi1),(FzAs.same _),aB (m:=1) rfl (brD hb1 (fun hb1 h2=>cC hi1 (.inl (⟨_,_,a2i (p0[x1.i]'hi1),(FzAs.same _),aB (m:=2) rfl (x1.goE hi1 hb1 [] ⟨rfl,⟨rfl,(bA hw1),rfl,trivial⟩,trivial,trivial⟩)⟩))) (fun hb1 h2=>x1.goE hi1 hb1 [] ⟨rfl,⟨rfl,(bA hw1),rfl,trivial⟩,trivial,trivial⟩))⟩))))) (fun hi1=>have hg:=bZ hg (x1.fin hi1);aA (aE hown hg)))))))))
def a0p (p1:ByteArray) (i1:Nat) (s1:Unit) (a1:Attr):Step (Unit) (Attr×Bool) :=
 (bif (decide (a1.Key=p1)) then (.done (a1,true)) else (.next ()))
def cB (p0:(List Attr)) (p1:ByteArray):(Attr×Bool) :=
 (Fin.get (fun s1=>((Attr.mk (ByteArray.mk #[]) false 0 (ByteArray.mk #[])),false)) (aJ (a0p p1) 0 () p0))
theorem a2j (p0:(List Attr)) (p1:ByteArray):FnOk prog 230 [.one (.s false 4 (List.map Attr.cells p0)),.one (.v (.string p1))] ⟨.tup [.agg (Attr.cells (cB p0 p1).1),.one (.v (.bool (cB p0 p1).2))],[],[],false⟩:=by
 refine FnOk.intro (E:=env) aK aS func230 rfl (by kernel_rfl) rfl rfl ?_
 have hg:=cB.eq_1 p0 p1
 have hown:∀g:(Attr×Bool),AV.Own (AV.tup [.agg (Attr.cells g.1),.one (.v (.bool g.2))]):=fun g=>⟨sQ _,.v _,trivial⟩
 exact aA (aB (m:=0) rfl (aA (aA (dW hg [0,1,4] (fun x1=>[(6,.one (.v (.int .i64 ((x1.i:Nat):Int))))]) (fun x1=>[.keep 0]) [some 0] ((by repeat' constructor)) (fun x1=>aA (aA (bJ fun hN1=>cT (fun hi1=>have hb1:=(x1.bdy hi1).trans (a0p.eq_1 ..);have hw1:=aT hi1 (by assumption);aA (aA (cC hi1 (brD hb1 (fun hb1 h2=>aA (cC hi1 (have hg:=cQ hg (x1.outD hi1 hb1);aE hown hg))) (fun hb1 h2=>x1.goE hi1 hb1 [some 0] ⟨rfl,⟨(bA hw1),rfl,rfl,⟨rfl,rfl,rfl,rfl⟩,trivial⟩,(by repeat' constructor),trivial⟩))))) (fun hi1=>have hg:=bZ hg (x1.fin hi1);aA (aE hown hg)))))))))
def a3d:Step (Unit) (Step (Unit) Bool) :=
 (.next ())
def a3c (a1:Span) (p0:Pol):Step (Unit) (Step (Unit) Bool) :=
 (bif (cB a1.Attrs p0.Key).2 then (bif (p0.Kind==4) then (bif (!(cB a1.Attrs p0.Key).1.Num) then (bif (decide ((cB a1.Attrs p0.Key).1.Text=p0.Text)) then (.done (.done true)) else (bif (cB a1.Attrs p0.Key).2 then (bif (p0.Kind==5) then (bif (cB a1.Attrs p0.Key).1.Num then (.next ()) else (.done (.next ()))) else (.done (.next ()))) else (.done (.next ())))) else (bif (cB a1.Attrs p0.Key).2 then (bif (p0.Kind==5) then (bif (cB a1.Attrs p0.Key).1.Num then (.next ()) else (.done (.next ()))) else (.done (.next ()))) else (.done (.next ())))) else (bif (cB a1.Attrs p0.Key).2 then (bif (p0.Kind==5) then (bif (cB a1.Attrs p0.Key).1.Num then (.next ()) else (.done (.next ()))) else (.done (.next ()))) else (.done (.next ())))) else (bif (cB a1.Attrs p0.Key).2 then (bif (p0.Kind==5) then (bif (cB a1.Attrs p0.Key).1.Num then (.next ()) else (.done (.next ()))) else (.done (.next ()))) else (.done (.next ()))))
def a3e (p0:Pol) (i1:Nat) (s1:Unit) (a1:Span):Step (Unit) Bool :=
 (Step.get (fun s2=>(Step.get (fun s3=>(bif (decide ((cB a1.Attrs p0.Key).1.N≥p0.N)) then (.done true) else (.next ()))) (a3c a1 p0))) (a3d))
def a2r (p0:Pol) (p1:(List Span)):Bool :=
 (Fin.get (fun s1=>false) (aJ (a3e p0) 0 () p1))
theorem b6v (p0:Pol) (p1:(List Span)):FnOk prog 228 [.agg (Pol.opn false p0),.one (.s false 6 (List.map (Span.cells false) p1))] ⟨.one (.v (.bool (a2r p0 p1))),[],[],false⟩:=by
 refine FnOk.intro (E:=env) aK aS func228 rfl (by kernel_rfl) rfl rfl ?_
 have hg:=a2r.eq_1 p0 p1
 have hown:=dP
 exact aA (aB (m:=0) rfl (aA (aA (dW hg [1,2] (fun x1=>[(5,.one (.v (.int .i64 ((x1.i:Nat):Int))))]) (fun x1=>[.keep 0]) [some 0] ((by repeat' constructor)) (fun x1=>aA (aA (bJ fun hN1=>cT (fun hi1=>have hb1:=(x1.bdy hi1).trans (a3e.eq_1 ..);have hw1:=aT hi1 (by assumption);aA (eA hb1 [1,2,5] (fun x2=>[(6,.one (.p 2 [] 0 0 0)),(7,.one (.v (.bool (cB (p1[x1.i]'hi1).Attrs p0.Key).2)))]) (fun x2=>[.keep 0,.dead,.new ⟨4,true,[[.v (.string (cB (p1[x1.i]'hi1).Attrs p0.Key).1.Key),.v (.bool (cB (p1[x1.i]'hi1).Attrs p0.Key).1.Num),.v (.int .i64 (cB (p1[x1.i]'hi1).Attrs p0.Key).1.N),.v (.string (cB (p1[x1.i]'hi1).Attrs p0.Key).1.Text)]],0⟩]) (fun hb2=>have hb2:=hb2.trans (a3d.eq_1 ..);.inr (.inl ⟨(.seg 14 14 (.q 0 (.q 1 (.q 2 (.q 3 (.q 4 (.q 5 (.q 6 (.b 7 (.s 8 (.s 9 (.s 10 (.o 11 (.w 12 (.o 13 .leaf)))))) 11 (.o 7 (.o 8 (.s 9 (.s 10 (.w 12 (.o 13 .leaf)))))))))))))) .done),by kernel_rfl,cC hi1 (And.intro (⟨_,_,a2j (p1[x1.i]'hi1).Attrs p0.Key,(FzAs.same _),aB (m:=2) rfl (aB (m:=2) rfl (.inl ⟨⟨_,hb2⟩,[some 0,none,some 2],(by repeat' constructor)⟩))⟩) (aB (m:=1) rfl (⟨_,_,a2j (p1[x1.i]'hi1).Attrs p0.Key,(FzAs.same _),aB (m:=3) rfl (.inl ⟨⟨_,hb2⟩,[some 0,none,some 1],(by repeat' constructor)⟩)⟩)))⟩)) (fun x2 hb1=>eA hb1 [1,2,5] (fun x3=>[(44,.one (.v (.bool (cB (p1[x1.i]'hi1).Attrs p0.Key).2))),(45,.one (.v (.bool true))),(46,.one (.p 0 [] 0 0 0)),(47,.one (.v (.int .i64 p0.Kind))),(48,.one (.v (.bool (p0.Kind==5)))),(49,.one (.v (.bool (p0.Kind==5)))),(50,.one (.v (.bool true))),(51,.one (.p 2 [] 0 0 1)),(52,.one (.v (.bool (cB (p1[x1.i]'hi1).Attrs p0.Key).1.Num))),(53,.one (.v (.bool (cB (p1[x1.i]'hi1).Attrs p0.Key).1.Num))),(54,.one (.v (.bool true))),(55,.one (.p 2 [] 0 0 2)),(56,.one (.v (.int .i64 (cB (p1[x1.i]'hi1).Attrs p0.Key).1.N))),(57,.one (.p 0 [] 0 0 1)),(58,.one (.v (.int .i64 p0.N))),(59,.one (.v (.bool (decide ((cB (p1[x1.i]'hi1).Attrs p0.Key).1.N≥p0.N))))),(60,.one (.v (.bool (decide ((cB (p1[x1.i]'hi1).Attrs p0.Key).1.N≥p0.N))))),(61,.one (.v (.bool (decide ((cB (p1[x1.i]'hi1).Attrs p0.Key).1.N≥p0.N)))))]) (fun x3=>[.keep 0,.dead,.keep 2]) (fun hb3=>have hb3:=hb3.trans (a3c.eq_1 ..);brE hb3 (fun hb3 h2=>brQ hb3 (fun hb3 h3=>brE hb3 (fun hb3 h4=>nC hb3 (fun hb3 h5=>brE hb3 (fun hb3 h6=>brQ hb3 (fun hb3 h7=>brE hb3 (fun hb3 h8=>.inl ⟨⟨_,hb3⟩,[some 0,none,some 2],(by repeat' constructor)⟩) (fun hb3 h8=>.inr (have hb1:=getD hb1 hb3;x1.goE hi1 hb1 [some 0] ⟨rfl,⟨(bA hw1),rfl,⟨rfl,rfl,rfl,rfl⟩,trivial⟩,(by repeat' constructor),trivial⟩))) (fun hb3 h7=>.inr (have hb1:=getD hb1 hb3;x1.goE hi1 hb1 [some 0] ⟨rfl,⟨(bA hw1),rfl,⟨rfl,rfl,rfl,rfl⟩,trivial⟩,(by repeat' constructor),trivial⟩))) (fun hb3 h6=>.inr (have hb1:=getD hb1 hb3;x1.goE hi1 hb1 [some 0] ⟨rfl,⟨(bA hw1),rfl,⟨rfl,rfl,rfl,rfl⟩,trivial⟩,(by repeat' constructor),trivial⟩))) (fun hb3 h5=>.inr (have hb1:=getD hb1 hb3;aA (have hg:=cQ hg (x1.outD hi1 hb1);aE hown hg)))) (fun hb3 h4=>brE hb3 (fun hb3 h9=>brQ hb3 (fun hb3 h10=>brE hb3 (fun hb3 h11=>.inl ⟨⟨_,hb3⟩,[some 0,none,some 2],(by repeat' constructor)⟩) (fun hb3 h11=>.inr (have hb1:=getD hb1 hb3;x1.goE hi1 hb1 [some 0] ⟨rfl,⟨(bA hw1),rfl,⟨rfl,rfl,rfl,rfl⟩,trivial⟩,(by repeat' constructor),trivial⟩))) (fun hb3 h10=>.inr (have hb1:=getD hb1 hb3;x1.goE hi1 hb1 [some 0] ⟨rfl,⟨(bA hw1),rfl,⟨rfl,rfl,rfl,rfl⟩,trivial⟩,(by repeat' constructor),trivial⟩))) (fun hb3 h9=>.inr (have hb1:=getD hb1 hb3;x1.goE hi1 hb1 [some 0] ⟨rfl,⟨(bA hw1),rfl,⟨rfl,rfl,rfl,rfl⟩,trivial⟩,(by repeat' constructor),trivial⟩)))) (fun hb3 h3=>brE hb3 (fun hb3 h12=>brQ hb3 (fun hb3 h13=>brE hb3 (fun hb3 h14=>.inl ⟨⟨_,hb3⟩,[some 0,none,some 2],(by repeat' constructor)⟩) (fun hb3 h14=>.inr (have hb1:=getD hb1 hb3;x1.goE hi1 hb1 [some 0] ⟨rfl,⟨(bA hw1),rfl,⟨rfl,rfl,rfl,rfl⟩,trivial⟩,(by repeat' constructor),trivial⟩))) (fun hb3 h13=>.inr (have hb1:=getD hb1 hb3;x1.goE hi1 hb1 [some 0] ⟨rfl,⟨(bA hw1),rfl,⟨rfl,rfl,rfl,rfl⟩,trivial⟩,(by repeat' constructor),trivial⟩))) (fun hb3 h12=>.inr (have hb1:=getD hb1 hb3;x1.goE hi1 hb1 [some 0] ⟨rfl,⟨(bA hw1),rfl,⟨rfl,rfl,rfl,rfl⟩,trivial⟩,(by repeat' constructor),trivial⟩)))) (fun hb3 h2=>brE hb3 (fun hb3 h15=>brQ hb3 (fun hb3 h16=>brE hb3 (fun hb3 h17=>.inl ⟨⟨_,hb3⟩,[some 0,none,some 2],(by repeat' constructor)⟩) (fun hb3 h17=>.inr (have hb1:=getD hb1 hb3;x1.goE hi1 hb1 [some 0] ⟨rfl,⟨(bA hw1),rfl,⟨rfl,rfl,rfl,rfl⟩,trivial⟩,(by repeat' constructor),trivial⟩))) (fun hb3 h16=>.inr (have hb1:=getD hb1 hb3;x1.goE hi1 hb1 [some 0] ⟨rfl,⟨(bA hw1),rfl,⟨rfl,rfl,rfl,rfl⟩,trivial⟩,(by repeat' constructor),trivial⟩))) (fun hb3 h15=>.inr (have hb1:=getD hb1 hb3;x1.goE hi1 hb1 [some 0] ⟨rfl,⟨(bA hw1),rfl,⟨rfl,rfl,rfl,rfl⟩,trivial⟩,(by repeat' constructor),trivial⟩)))) (fun x3 hb1=>brD hb1 (fun hb1 h18=>aA (have hg:=cQ hg (x1.outD hi1 hb1);aE hown hg)) (fun hb1 h18=>x1.goE hi1 hb1 [some 0] ⟨rfl,⟨(bA hw1),rfl,⟨rfl,rfl,rfl,rfl⟩,trivial⟩,(by repeat' constructor),trivial⟩))))) (fun hi1=>have hg:=bZ hg (x1.fin hi1);aA (aE hown hg)))))))))
def a5t (p0:Pol):Step (Bool) Bool :=
 (bif (p0.Kind==4) then (.next (p0.Kind==4)) else (.next (p0.Kind==5)))
def a5v (r0:(Pol→(List Span)→Int→Bool)) (p1:(List Span)) (p2:Int) (i2:Nat) (s2:Unit) (a2:Pol):Step (Unit) Bool :=
 (bif (!(r0 a2 p1 p2)) then (.done false) else (.next ()))
def a5u (r0:(Pol→(List Span)→Int→Bool)) (p1:(List Span)) (p2:Int) (i3:Nat) (s3:Unit) (a3:Pol):Step (Unit) Bool :=
 (bif (r0 a3 p1 p2) then (.done true) else (.next ()))
def pI:Nat→Pol→(List Span)→Int→Bool
 | 0,_,_,_=>default
 | n+1,p0,p1,p2=>(bif (p0.Kind==1) then true else (bif (p0.Kind==2) then (decide ((a2t p1) > 0)) else (bif (p0.Kind==3) then (bif (decide ((((p1).length:Nat):Int) > 0)) then (decide ((a0o p1)≥p0.N)) else false) else (Step.get (fun s1=>(bif s1 then (a2r p0 p1) else (bif (p0.Kind==6) then (decide (p2≥(((p1).length:Nat):Int))) else (bif (p0.Kind==7) then (Fin.get (fun s2=>true) (aJ (a5v (pI n) p1 p2) 0 () p0.L)) else (bif (p0.Kind==8) then (Fin.get (fun s3=>false) (aJ (a5u (pI n) p1 p2) 0 () p0.L)) else (bif (p0.Kind==9) then (bif ((((p0.L).length:Nat):Int)==0) then true else (!((pI n) (p0.L[0]?.getD default) p1 p2))) else false)))))) (a5t p0)))))
theorem b7n:∀(n:Nat) (p0:Pol) (p1:(List Span)) (p2:Int),Pol.dep p0 < n→FnOk prog 222 [.agg (Pol.opn false p0),.one (.s false 6 (List.map (Span.cells false) p1)),.one (.v (.int .i64 p2))] ⟨.one (.v (.bool (pI n p0 p1 p2))),[],[],false⟩:=by
 intro n
 induction n with
 | zero=>intro p0 p1 p2 hd0;omega
 | succ n ih =>
   intro p0 p1 p2 hd0
   refine FnOk.intro (E:=env) aK aS func222 rfl (by kernel_rfl) rfl rfl ?_
   have hg:pI (n+1) p0 p1 p2=_:=pI.eq_2 ..
   have hown:=dP
   refine aA ?_
   refine aB (m:=0) rfl ?_
   refine aA ?_
   refine aA ?_
   refine aA ?_
   refine brQ hg (fun hg h1=>?_) (fun hg h1=>?_)
   · refine aA ?_
     exact aE hown hg
   · refine aA ?_
     refine brQ hg (fun hg h2=>?_) (fun hg h2=>?_)
     · refine aA ?_
       refine .inl (⟨_,_,b7f p1,(FzAs.same _),?_⟩)
       refine aB (m:=2) rfl ?_
       exact aE hown hg
     · refine aA ?_
       refine brQ hg (fun hg h3=>?_) (fun hg h3=>?_)
       · refine aA ?_
         refine .inl ⟨by kernel_rfl,?_⟩
         refine bJ fun hN4=>?_
         refine brD hg (fun hg h5=>?_) (fun hg h5=>aE hown hg)
         refine ⟨_,_,b4o p1,(FzAs.same _),?_⟩
         exact aE hown hg
       · refine eA hg [1,2,3,10] (fun x1=>[(30,.one (.v (.bool x1.s)))]) (fun x1=>[.keep 0]) (fun hb1=>?_) (fun x1 hg=>?_)
         · have hb1:=hb1.trans (a5t.eq_1 ..)
           refine aA ?_
           exact brQ hb1 (fun hb1 h6=>.inl ⟨⟨_,hb1⟩,[some 0],(by repeat' constructor)⟩) (fun hb1 h6=>.inl ⟨⟨_,hb1⟩,[some 0],(by repeat' constructor)⟩)
         refine brE hg (fun hg h7=>?_) (fun hg h7=>?_)
         · refine aA ?_
           refine .inl (⟨_,_,b6v p0 p1,(FzAs.same _),?_⟩)
           refine aB (m:=2) rfl ?_
           exact aE hown hg
         · refine aA ?_
           refine brQ hg (fun hg h8=>?_) (fun hg h8=>?_)
           · refine aA ?_
             refine bJ fun hN9=>?_
             exact aE hown hg
           · refine aA ?_
             refine brQ hg (fun hg h10=>?_) (fun hg h10=>?_)
             · refine aA ?_
               refine aA ?_
               refine dW hg [1,2,3] (fun x2=>[(7,.one (.v (.int .i64 ((x2.i:Nat):Int))))]) (fun x2=>[.keep 0]) [some 0] ?_ (fun x2=>?_)
               · exact (by repeat' constructor)
               refine aA ?_
               refine aA ?_
               refine bJ fun hN11=>?_
               refine cT (fun hi2=>?_) (fun hi2=>?_)
               · have hb2:=(x2.bdy hi2).trans (a5v.eq_1 ..)
                 have hw2:=aT hi2 (by assumption)
                 refine aA ?_
                 refine aA ?_
                 refine a0y (Pol.cells_eq false) hi2 ?_
                 refine .inl (⟨_,_,ih (p0.L[x2.i]'hi2) p1 p2 (by exact Nat.lt_of_lt_of_le (Pol.dep_lt (List.getElem_mem _)) (Nat.le_of_lt_succ hd0)),(FzAs.same _),?_⟩)
                 refine aB (m:=2) rfl ?_
                 refine brE hb2 (fun hb2 h12=>?_) (fun hb2 h12=>x2.goE hi2 hb2 [some 0] ⟨rfl,⟨(bA hw2),rfl,rfl,⟨rfl,rfl,rfl,rfl⟩,trivial⟩,(by repeat' constructor),trivial⟩)
                 refine aA ?_
                 have hg:=cQ hg (x2.outD hi2 hb2)
                 exact aE hown hg
               have hg:=bZ hg (x2.fin hi2)
               refine aA ?_
               exact aE hown hg
             · refine aA ?_
               refine brQ hg (fun hg h13=>?_) (fun hg h13=>?_)
               · refine aA ?_
                 refine aA ?_
                 refine dW hg [1,2,3] (fun x3=>[(8,.one (.v (.int .i64 ((x3.i:Nat):Int))))]) (fun x3=>[.keep 0]) [some 0] ?_ (fun x3=>?_)
                 · exact (by repeat' constructor)
                 refine aA ?_
                 refine aA ?_
                 refine bJ fun hN14=>?_
                 refine cT (fun hi3=>?_) (fun hi3=>?_)
                 · have hb3:=(x3.bdy hi3).trans (a5u.eq_1 ..)
                   have hw3:=aT hi3 (by assumption)
                   refine aA ?_
                   refine aA ?_
                   refine a0y (Pol.cells_eq false) hi3 ?_
                   refine .inl (⟨_,_,ih (p0.L[x3.i]'hi3) p1 p2 (by exact Nat.lt_of_lt_of_le (Pol.dep_lt (List.getElem_mem _)) (Nat.le_of_lt_succ hd0)),(FzAs.same _),?_⟩)
                   refine aB (m:=2) rfl ?_
                   refine brE hb3 (fun hb3 h15=>?_) (fun hb3 h15=>x3.goE hi3 hb3 [some 0] ⟨rfl,⟨(bA hw3),rfl,rfl,⟨rfl,rfl,rfl,rfl⟩,trivial⟩,(by repeat' constructor),trivial⟩)
                   refine aA ?_
                   have hg:=cQ hg (x3.outD hi3 hb3)
                   exact aE hown hg
                 have hg:=bZ hg (x3.fin hi3)
                 refine aA ?_
                 exact aE hown hg
               · refine aA ?_
                 refine brQ hg (fun hg h16=>?_) (fun hg h16=>?_)
                 · refine aA ?_
                   refine bJ fun hN17=>?_
                   refine b0p hg (fun hg h18=>?_) (fun hg h18=>aE hown hg)
                   refine d6j (Pol.cells_eq false) (l:=p0.L) (by (omega)) (fun hq19=>?_)
                   refine .inl (⟨_,_,ih (p0.L[0]?.getD default) p1 p2 (by exact Nat.lt_of_lt_of_le (Pol.dep_lt (oF (by omega))) (Nat.le_of_lt_succ hd0)),(FzAs.same _),?_⟩)
                   refine aB (m:=2) rfl ?_
                   exact aE hown hg
                 · refine aA ?_
                   exact aE hown hg
def b0x (p0:Pol) (p1:(List Span)) (p2:Int):Bool:=pI (Pol.dep p0+1) p0 p1 p2
theorem c0v (p0:Pol) (p1:(List Span)) (p2:Int):FnOk prog 222 [.agg (Pol.opn false p0),.one (.s false 6 (List.map (Span.cells false) p1)),.one (.v (.int .i64 p2))] ⟨.one (.v (.bool (b0x p0 p1 p2))),[],[],false⟩:=b7n _ p0 p1 p2 (Nat.lt_succ_self _)
def a1w (r0:(Pol→Bool)) (i1:Nat) (s1:Unit) (a1:Pol):Step (Unit) Bool :=
 (bif (r0 a1) then (.done true) else (.next ()))
def qW:Nat→Pol→Bool
 | 0,_=>default
 | n+1,p0=>(bif (p0.Kind==6) then true else (Fin.get (fun s1=>false) (aJ (a1w (qW n)) 0 () p0.L)))
theorem b3b:∀(n:Nat) (p0:Pol),Pol.dep p0 < n→FnOk prog 223 [.agg (Pol.opn false p0)] ⟨.one (.v (.bool (qW n p0))),[],[],false⟩:=by
 intro n
 induction n with
 | zero=>intro p0 hd0;omega
 | succ n ih =>
   intro p0 hd0
   refine FnOk.intro (E:=env) aK aS func223 rfl (by kernel_rfl) rfl rfl ?_
   have hg:qW (n+1) p0=_:=qW.eq_2 ..
   have hown:=dP
   refine aA ?_
   refine aB (m:=0) rfl ?_
   refine aA ?_
   refine aA ?_
   refine brQ hg (fun hg h1=>?_) (fun hg h1=>?_)
   · refine aA ?_
     exact aE hown hg
   · refine aA ?_
     refine aA ?_
     refine dW hg [1] (fun x1=>[(3,.one (.v (.int .i64 ((x1.i:Nat):Int))))]) (fun x1=>[.keep 0]) [some 0] ?_ (fun x1=>?_)
     · exact (by repeat' constructor)
     refine aA ?_
     refine aA ?_
     refine bJ fun hN2=>?_
     refine cT (fun hi1=>?_) (fun hi1=>?_)
     · have hb1:=(x1.bdy hi1).trans (a1w.eq_1 ..)
       have hw1:=aT hi1 (by assumption)
       refine aA ?_
       refine aA ?_
       refine a0y (Pol.cells_eq false) hi1 ?_
       refine .inl (⟨_,_,ih (p0.L[x1.i]'hi1) (by exact Nat.lt_of_lt_of_le (Pol.dep_lt (List.getElem_mem _)) (Nat.le_of_lt_succ hd0)),(FzAs.same _),?_⟩)
       refine aB (m:=2) rfl ?_
       refine brE hb1 (fun hb1 h3=>?_) (fun hb1 h3=>x1.goE hi1 hb1 [some 0] ⟨rfl,⟨(bA hw1),⟨rfl,rfl,rfl,rfl⟩,trivial⟩,(by repeat' constructor),trivial⟩)
       refine aA ?_
       have hg:=cQ hg (x1.outD hi1 hb1)
       exact aE hown hg
     have hg:=bZ hg (x1.fin hi1)
     refine aA ?_
     exact aE hown hg
def a6j (p0:Pol):Bool:=qW (Pol.dep p0+1) p0
theorem b4p (p0:Pol):FnOk prog 223 [.agg (Pol.opn false p0)] ⟨.one (.v (.bool (a6j p0))),[],[],false⟩:=b3b _ p0 (Nat.lt_succ_self _)
def bU (p0:Pol) (p1:(List Span)) (p2:Int):(Bool×Int) :=
 (bif (!(b0x p0 p1 p2)) then (false,0) else (bif (!(a6j p0)) then (true,0) else (bif (decide ((((p1).length:Nat):Int) > (fA p2))) then (true,(fA p2)) else (true,(((p1).length:Nat):Int)))))
theorem c0z (p0:Pol) (p1:(List Span)) (p2:Int):FnOk prog 204 [.agg (Pol.opn false p0),.one (.s false 6 (List.map (Span.cells false) p1)),.one (.v (.int .i64 p2))] ⟨.tup [.one (.v (.bool (bU p0 p1 p2).1)),.one (.v (.int .i64 (bU p0 p1 p2).2))],[],[],false⟩:=by
 refine FnOk.intro (E:=env) aK aS func204 rfl (by kernel_rfl) rfl rfl ?_
 have hg:=bU.eq_1 p0 p1 p2
 have hown:∀g:(Bool×Int),AV.Own (AV.tup [.one (.v (.bool g.1)),.one (.v (.int .i64 g.2))]):=fun g=>⟨.v _,.v _,trivial⟩
 exact aA (aB (m:=0) rfl (aA (aA (.inl (⟨_,_,c0v p0 p1 p2,(FzAs.same _),aB (m:=2) rfl (brE hg (fun hg h1=>aA (aE hown hg)) (fun hg h1=>aA (aA (.inl (⟨_,_,b4p p0,(FzAs.same _),aB (m:=3) rfl (brE hg (fun hg h2=>aA (aE hown hg)) (fun hg h2=>aA (bJ fun hN3=>aA (aA (.inl (⟨_,_,lC p2,(FzAs.same _),aB (m:=4) rfl (brD hg (fun hg h4=>.inl (⟨_,_,lC p2,(FzAs.same _),aB (m:=5) rfl (aA (aE hown hg))⟩)) (fun hg h4=>aA (aE hown hg)))⟩))))))⟩)))))⟩)))))
def nJ (p0:Bucket) (p1:Int):(Bucket×Bool) :=
 (bif (!(oO p0)) then (p0,false) else (bif (decide (p1 < 0)) then (p0,false) else (bif (decide (p1 > p0.Tokens)) then (p0,false) else ({ p0 with Tokens:=(IntKind.i64.wrap (p0.Tokens - p1)) },true))))
theorem c0w (p0:Bucket) (p1:Int):FnOk prog 205 [.agg (Bucket.cells p0),.one (.v (.int .i64 p1))] ⟨.tup [.agg (Bucket.cells (nJ p0 p1).1),.one (.v (.bool (nJ p0 p1).2))],[],[],false⟩:=by
 refine FnOk.intro (E:=env) aK aS func205 rfl (by kernel_rfl) rfl rfl ?_
 have hg:=nJ.eq_1 p0 p1
 have hown:∀g:(Bucket×Bool),AV.Own (AV.tup [.agg (Bucket.cells g.1),.one (.v (.bool g.2))]):=fun g=>⟨a4s _,.v _,trivial⟩
 exact aA (aB (m:=0) rfl (aB (m:=1) rfl (aA (aA (.inl (⟨_,_,a2k p0,(FzAs.same _),aB (m:=3) rfl (brF hg (fun hg h1=>nC hg (fun hg h2=>brD hg (fun hg h3=>aA (aE hown hg)) (fun hg h3=>aA (aA (aE hown hg)))) (fun hg h2=>aA (aE hown hg))) (fun hg h1=>aA (aE hown hg)))⟩))))))
def a3g:Step (Unit) World :=
 (.next ())
def a3f:Step (Unit) (Step (World×(List Item)) World) :=
 (.next ())
def gX (p0:World) (p1:Int) (i4:Nat) (s4:(List Item)) (a4:Span):Step ((List Item)) (Step (World×(List Item)) World) :=
 (bif (bU p0.C.Rule (aC p0.St (p0.Tasks[(p1).toNat]?.getD default).Trace).1.Spans (bB p0.B p0.W.Now).Tokens).1 then (.next (s4++[(Item.mk (aC p0.St (p0.Tasks[(p1).toNat]?.getD default).Trace).1.Stamp (aX a4))])) else (.stop s4))
def cP (p0:World) (p1:Int):Step (World×(List Item)) World :=
 (bif (aC p0.St (p0.Tasks[(p1).toNat]?.getD default).Trace).2 then (bif ((aC p0.St (p0.Tasks[(p1).toNat]?.getD default).Trace).1.Stamp==(p0.Tasks[(p1).toNat]?.getD default).Stamp) then (Step.get (fun s3=>(aZ (kH { p0 with B:=(nJ (bB p0.B p0.W.Now) (bU p0.C.Rule (aC p0.St (p0.Tasks[(p1).toNat]?.getD default).Trace).1.Spans (bB p0.B p0.W.Now).Tokens).2).1 } (aC p0.St (p0.Tasks[(p1).toNat]?.getD default).Trace).1 (bU p0.C.Rule (aC p0.St (p0.Tasks[(p1).toNat]?.getD default).Trace).1.Spans (bB p0.B p0.W.Now).Tokens).1) fun (v1:(Int×World))=>(Fin.get (fun s4=>(.next ({ v1.2 with Due:=p0.Due,Queue:=p0.Queue,Out:=p0.Out,Tasks:=p0.Tasks,Deeds:=(List.set p0.Deeds ((p0.Tasks[(p1).toNat]?.getD default).H).toNat { (p0.Deeds[((p0.Tasks[(p1).toNat]?.getD default).H).toNat]?.getD default) with Keep:=(bU p0.C.Rule (aC p0.St (p0.Tasks[(p1).toNat]?.getD default).Trace).1.Spans (bB p0.B p0.W.Now).Tokens).1,Took:=(bU p0.C.Rule (aC p0.St (p0.Tasks[(p1).toNat]?.getD default).Trace).1.Spans (bB p0.B p0.W.Now).Tokens).2,N:=((((aC p0.St (p0.Tasks[(p1).toNat]?.getD default).Trace).1.Spans).length:Nat):Int),Forgot:=v1.1 }) },s4))) (aJ (gX p0 p1) 0 ([]:List Item) (aC p0.St (p0.Tasks[(p1).toNat]?.getD default).Trace).1.Spans)))) (a3f)) else (.next ({ p0 with Deeds:=(List.set p0.Deeds ((p0.Tasks[(p1).toNat]?.getD default).H).toNat { (p0.Deeds[((p0.Tasks[(p1).toNat]?.getD default).H).toNat]?.getD default) with Void:=true }) },([]:List Item)))) else (.next ({ p0 with Deeds:=(List.set p0.Deeds ((p0.Tasks[(p1).toNat]?.getD default).H).toNat { (p0.Deeds[((p0.Tasks[(p1).toNat]?.getD default).H).toNat]?.getD default) with Void:=true }) },([]:List Item))))
def fI (p0:World) (p1:Int):World :=
 (Step.get (fun s1=>(Step.get (fun s2=>(bif ((((s2.2).length:Nat):Int)==0) then { s2.1 with St:=(List.set s2.1.St ((aD (p0.Tasks[(p1).toNat]?.getD default).Trace (((s2.1.St).length:Nat):Int))).toNat (Stripe.mk (-1) (s2.1.St[((aD (p0.Tasks[(p1).toNat]?.getD default).Trace (((s2.1.St).length:Nat):Int))).toNat]?.getD default).L)),RuleHeld:=(-1),Tasks:=(List.set s2.1.Tasks (p1).toNat (Task.mk 0 0 (Span.mk 0 0 0 0 false ([]:List Attr)) 0 0 ([]:List Item) 0)),Deeds:=(List.set s2.1.Deeds ((p0.Tasks[(p1).toNat]?.getD default).H).toNat { (s2.1.Deeds[((p0.Tasks[(p1).toNat]?.getD default).H).toNat]?.getD default) with Now:=s2.1.W.Now,Lin:=s2.1.Time,Res:=s2.1.Time }) } else { s2.1 with St:=(List.set s2.1.St ((aD (p0.Tasks[(p1).toNat]?.getD default).Trace (((s2.1.St).length:Nat):Int))).toNat (Stripe.mk (-1) (s2.1.St[((aD (p0.Tasks[(p1).toNat]?.getD default).Trace (((s2.1.St).length:Nat):Int))).toNat]?.getD default).L)),RuleHeld:=(-1),Tasks:=(List.set s2.1.Tasks (p1).toNat { (s2.1.Tasks[(p1).toNat]?.getD default) with Pc:=3,Hand:=s2.2 }),Deeds:=(List.set s2.1.Deeds ((p0.Tasks[(p1).toNat]?.getD default).H).toNat { (s2.1.Deeds[((p0.Tasks[(p1).toNat]?.getD default).H).toNat]?.getD default) with Now:=s2.1.W.Now,Lin:=s2.1.Time }) })) (cP p0 p1))) (a3g))
theorem c5t {n:Nat} {w:World} {k:Int} (h:WI n w):∃v,aJ (gX w k) 0 ([]:List Item) (aC w.St (w.Tasks[k.toNat]?.getD default).Trace).1.Spans=.fin v∧bdS Item.bd n v:=by
 have ht:=a1a (k:=(w.Tasks[k.toNat]?.getD default).Trace) h.s
 have hz:=nK (b:=gX w k) (l:=(aC w.St (w.Tasks[k.toNat]?.getD default).Trace).1.Spans) (s:=([]:List Item)) (P:=fun i (s:List Item)=>s.length≤i∧∀x∈s,Item.bd n x) (R:=fun s=>bdS Item.bd n s) (Q:=fun _=>False) ⟨Nat.le_refl _,fun _ h=>(by cases h)⟩ (fun i s hi hs=>by
  unfold gX
  refine yB (tT (P:=fun s:List Item=>s.length≤i+1∧∀x∈s,Item.bd n x) ⟨by rw [jP];have:=hs.1;omega,fun x hx=>?_⟩) (c2n ⟨by have:=hs.1;have:=ht.1;omega,hs.2⟩)
  rcases List.mem_append.1 hx with hx | hx
  · exact hs.2 x hx
  · obtain rfl:=List.mem_singleton.1 hx;exact bdS.get ht hi) (fun s hs=>⟨Nat.le_trans hs.1 ht.1,hs.2⟩)
 cases e:aJ (gX w k) 0 ([]:List Item) (aC w.St (w.Tasks[k.toNat]?.getD default).Trace).1.Spans with
 | fin v=>exact ⟨v,rfl,hz.1 v e⟩
 | done r=>exact absurd (hz.2 r e) id
def c9y (m:Nat) (w:World) (z:Step (World×List Item) World):Prop:=∃s,z=.next s∧WI m s.1∧s.1.Tasks=w.Tasks∧bdS Item.bd m s.2
theorem b6a {n m:Nat} {w:World} {k:Int} (h:WI n w) (hm:n+2≤m) (hx:m≤1000000):c9y m w (cP w k):=by
 have h':WI m w:=h.mono (by omega)
 have hv:WI m { w with Deeds:=(List.set w.Deeds ((w.Tasks[k.toNat]?.getD default).H).toNat { (w.Deeds[((w.Tasks[k.toNat]?.getD default).H).toNat]?.getD default) with Void:=true }) }:=h'.dd (by exact h'.deed _)
 unfold cP
 refine aH (P:=c9y m w) (fun _=>aH (P:=c9y m w) (fun _=>?_) (fun _=>⟨_,rfl,hv,rfl,fN⟩)) (fun _=>⟨_,rfl,hv,rfl,fN⟩)
 obtain ⟨v,e,hb⟩:=c5t (k:=k) h
 rw [e]
 refine ⟨_,rfl,?_,rfl,bdS.mono hb (by omega) (nN (by omega))⟩
 exact (a6w (m:=m) (h.free) (by omega) hx).dd (by exact h'.deed _)
theorem d3l {n m:Nat} {w:World} {k:Int} (h:WI n w) (hm:n+2≤m) (hx:m≤1000000) {s:World×List Item} (e:cP w k=.next s):WI m s.1∧s.1.Tasks=w.Tasks∧bdS Item.bd m s.2:=by
 obtain ⟨s',e',q⟩:=b6a (k:=k) h hm hx
 rw [e'] at e;cases e;exact q
end Go.Proofs.Tryz.Ev
