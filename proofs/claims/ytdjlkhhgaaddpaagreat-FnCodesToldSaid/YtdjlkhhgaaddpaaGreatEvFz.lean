/- What a function gives, frozen, or frozen below the top. -/
import Derived.Test.YtdjlkhhgaaddpaaGreatEvQ
set_option linter.unusedSectionVars false
set_option linter.unusedVariables false
set_option linter.unusedSimpArgs false
namespace Go.Ev
open Go
open Classical
variable {E:Env} {w w' w0:World} {A0:Fix} {g g':Gh} {st st':St} {N:Nat} {pv:List Value} {a:Act}
theorem eR.conv {A S:Nat→Prop} {x x':AV} {v:Value} (hx:FzR x x') (h:eR w A S x v):∃S':Nat→Prop,(∀b,S' b→S b)∧eR w (fun b=>A b∨(S b∧¬S' b)) S' x' v:=by
 cases hx with
 | same=>exact ⟨S,fun _ h=>h,h.monoA (fun b hb=>.inl hb)⟩
 | one hx =>
   rename_i t t'
   cases hx with
   | same=>exact ⟨S,fun _ h=>h,h.monoA (fun b hb=>.inl hb)⟩
   | sl o k rows rows' e=>exact FzX.ow (.sl o k rows rows' e) h
   | inn k rows rows' e=>exact FzX.ow (.inn k rows rows' e) h
 | agg hx =>
   obtain ⟨cs,rfl,hl,Sub,h1,h2,h3⟩:=h
   obtain ⟨q1,Sub',q2,q3⟩:=hx.ow (us:=cs.toList) (by simpa using hl) (fun j t u hj hu=>h1 j t u hj (by simpa using hu))
   refine ⟨fun b=>∃j,Sub' j b,fun b ⟨j,hb⟩=>h3 j b (q2 j b hb),cs,rfl,by rw [q1];exact hl,Sub',fun j t u hj hu=>(q3 j t u hj (by simpa using hu)).mono (fun b hb _=>⟨hb.imp (fun h=>h) (fun ⟨i,p1,p2⟩=>⟨h3 i b p1,fun ⟨j,hj⟩=>?_⟩),rfl⟩) (fun b hb _=>⟨hb,rfl⟩),fun j j' x hx hx'=>h2 j j' x (q2 j x hx) (q2 j' x hx'),fun j x hx=>⟨j,hx⟩⟩
   have:=h2 _ _ _ p1 (q2 j b hj)
   subst this
   exact p2 hj
theorem FzRs.conv {A:Nat→Prop}:∀{l l':List AV} {us:List Value} {Sub:Nat→Nat→Prop},FzRs l l'→us.length=l.length→(∀(j:Nat) x u,l[j]?=some x→us[j]?=some u→eR w A (Sub j) x u) →
 l'.length=l.length∧∃Sub':Nat→Nat→Prop,(∀j b,Sub' j b→Sub j b)∧∀(j:Nat) x u,l'[j]?=some x→us[j]?=some u→eR w (fun b=>A b∨∃i,Sub i b∧¬Sub' i b) (Sub' j) x u
 | l,_,us,Sub,.same _,_,h=>⟨rfl,Sub,fun _ _ h=>h,fun j x u hx hu=>(h j x u hx hu).monoA (fun b hb=>.inl hb)⟩
 | _,_,[],Sub,.cons x xs,hl,h=>by simp at hl
 | _,_,u :: us,Sub,.cons x xs,hl,h=>by
   obtain ⟨S',q1,q2⟩:=(h 0 _ u rfl rfl).conv x
   obtain ⟨e,Sub',q3,q4⟩:=FzRs.conv (us:=us) (Sub:=fun j=>Sub (j+1)) xs (by simpa using hl) (fun j x u hx hu=>h (j+1) x u (by simpa using hx) (by simpa using hu))
   refine ⟨by simp [e],fun j=>match j with | 0=>S' | j+1=>Sub' j,fun j b hb=>?_,fun j x v hx hv=>?_⟩
   · cases j with
     | zero=>exact q1 b hb
     | succ j=>exact q3 j b hb
   · cases j with
     | zero =>
       simp at hx hv
       subst hx hv
       exact q2.monoA (fun b hb=>hb.imp (fun h=>h) (fun hh=>⟨0,hh⟩))
     | succ j=>exact (q4 j x v (by simpa using hx) (by simpa using hv)).monoA (fun b hb=>hb.imp (fun h=>h) (fun ⟨i,hh⟩=>⟨i+1,hh⟩))
theorem iU.conv {A S:Nat→Prop} {x x':AV} {v:Value} (hx:FzQ x x') (h:iU w A S x v):∃S':Nat→Prop,(∀b,S' b→S b)∧iU w (fun b=>A b∨(S b∧¬S' b)) S' x' v:=by
 cases hx with
 | one hx hp hp' =>
   have h1:eR w A S x v:=by
    cases x with
    | tup l=>exact absurd rfl (hp l)
    | _=>exact h
   obtain ⟨S',q1,q2⟩:=h1.conv hx
   exact ⟨S',q1,q2.res⟩
 | tup hx =>
   obtain ⟨vs,Sub,rfl,hl,h1,h2,h3⟩:=h
   obtain ⟨q1,Sub',q2,q3⟩:=hx.conv (us:=vs.toList) (by simpa using hl) (fun j x u hj hu=>h1 j x u hj (by simpa using hu))
   refine ⟨fun b=>∃j,Sub' j b,fun b ⟨j,hb⟩=>h3 j b (q2 j b hb),vs,Sub',rfl,by rw [q1];exact hl,fun j x u hj hu=>(q3 j x u hj (by simpa using hu)).monoA (fun b hb=>hb.imp (fun h=>h) (fun ⟨i,p1,p2⟩=>⟨h3 i b p1,fun ⟨j,hj⟩=>?_⟩)),fun j j' x hx hx'=>h2 j j' x (q2 j x hx) (q2 j' x hx'),fun j x hx=>⟨j,hx⟩⟩
   have:=h2 _ _ _ p1 (q2 j b hj)
   subst this
   exact p2 hj
theorem iU.weak {A S S':Nat→Prop} {x:AV} {v:Value} (h:iU w A S x v) (hS:∀b,S b→S' b):iU w A S' x v:=by
 cases x with
 | tup l =>
   obtain ⟨vs,Sub,h1,h2,h3,h4,h5⟩:=h
   exact ⟨vs,Sub,h1,h2,h3,h4,fun j x hx=>hS x (h5 j x hx)⟩
 | one t=>exact (eR.weak (x:=.one t) h hS).res
 | agg t=>exact (eR.weak (x:=.agg t) h hS).res
 | _=>exact h.elim
theorem iU.monoA {A A' S:Nat→Prop} {x:AV} {v:Value} (hA:∀b,A b→A' b) (h:iU w A S x v):iU w A' S x v:=by
 cases x with
 | tup l =>
   obtain ⟨vs,Sub,rfl,hl,h1,h2,h3⟩:=h
   exact ⟨vs,Sub,rfl,hl,fun j x u hj hu=>(h1 j x u hj hu).monoA hA,h2,h3⟩
 | one t=>exact eR.monoA (x:=.one t) hA h
 | agg l=>exact eR.monoA (x:=.agg l) hA h
 | _=>exact h.elim
theorem uB.weak {A S S':Nat→Prop} {l:List T} {v:Value} (h:uB w A S l v) (hS:∀b,S b→S' b):uB w A S' l v:=by
 obtain ⟨b,cs,e,q1,q2,q3,q4,Sub,q5,q6,q7⟩:=h
 exact ⟨b,cs,e,q1,q2,hS b q3,q4,Sub,q5,q6,fun j x hx=>⟨hS x (q7 j x hx).1,(q7 j x hx).2⟩⟩
theorem fQ.conv {A A':Nat→Prop} {lab' lab2:Nat→Option Nat} (hA:∀b,A b→A' b):∀{k:Nat} {l:List AV} {vs:List Value} {os:List AV} {kps:List (List Nat)},(∀b i,i < k+l.length→lab' b=some i→lab2 b=some i)→fQ w w' A lab' k l vs os kps→fQ w w' A' lab2 k l vs os kps
 | k,[],[],[],kps,_,_=>trivial
 | k,[],[],_ :: _,kps,_,h=>h.elim
 | k,[],_ :: _,_,kps,_,h=>by exact h.elim
 | k,x :: l,[],os,kps,_,h=>by
   cases x with
   | one t=>cases t <;> exact h.elim
   | tup m=>rcases m with _ | ⟨x,_ | ⟨y,m⟩⟩ <;> exact h.elim
   | _=>exact h.elim
 | k,x :: l,v :: vs,os,kps,hl,h=>by
   have h1:∀b i,i < (k+1)+l.length→lab' b=some i→lab2 b=some i:=fun b i hi=>hl b i (by simp;omega)
   have h2:∀b i,i < k+l.length→lab' b=some i→lab2 b=some i:=fun b i hi=>hl b i (by simp;omega)
   have h0:∀b,lab' b=some k→lab2 b=some k:=fun b=>hl b k (by simp)
   cases x with
   | one t =>
     cases t with
     | b row =>
       cases os with
       | nil=>exact h.elim
       | cons o os =>
         cases o with
         | one t=>cases t with
           | b row2=>exact ⟨⟨(h.1.1.monoA hA).weak h0,h.1.2⟩,fQ.conv hA h1 h.2⟩
           | _=>exact h.elim
         | _=>exact h.elim
     | _=>exact fQ.conv (l:=l) hA h2 h
   | tup m =>
     rcases m with _ | ⟨x,_ | ⟨y,m⟩⟩
     · exact fQ.conv (l:=l) hA h2 h
     · cases os with
       | nil=>exact h.elim
       | cons o os=>exact ⟨(h.1.monoA hA).weak h0,fQ.conv hA h1 h.2⟩
     · exact fQ.conv (l:=l) hA h2 h
   | _=>exact fQ.conv (l:=l) hA h2 h
theorem a9y {A:Nat→Prop} {lab lab':Nat→Option Nat} {args:List AV} {vals:List Value} {res res':AV} {outs:List AV} {kp:List (List Nat)} {al:Bool} {v:Value} (x:FzQ res res') (hAft:Aft w lab w' lab')
 (hRes:iU w' (Out.A ⟨res,outs,kp,al⟩ w.heap.size A lab lab') (fun b=>lab' b=some args.length) res v) (hOut:fQ w w' (fun b=>A b∨vV w.heap.size lab lab' b) lab' 0 args vals outs kp) :
 ∃lab2,Aft w lab w' lab2∧iU w' (Out.A ⟨res',outs,kp,al⟩ w.heap.size A lab lab2) (fun b=>lab2 b=some args.length) res' v∧fQ w w' (fun b=>A b∨vV w.heap.size lab lab2 b) lab2 0 args vals outs kp:=by
 obtain ⟨S',q1,q2⟩:=hRes.conv x
 obtain ⟨lab2,l1,l2⟩:∃lab2:Nat→Option Nat,(∀b,(lab' b=some args.length∧¬S' b)→lab2 b=none)∧∀b,¬(lab' b=some args.length∧¬S' b)→lab2 b=lab' b :=
  ⟨fun b=>if lab' b=some args.length∧¬S' b then none else lab' b,fun b h=>if_pos h,fun b h=>if_neg h⟩
 have n2:∀b,lab' b=none→lab2 b=none:=fun b hb=>by rw [l2 b (fun h=>by rw [hb] at h;cases h.1)];exact hb
 have nf:∀b,vV w.heap.size lab lab' b→vV w.heap.size lab lab2 b:=fun b hb=>⟨hb.1,n2 b hb.2⟩
 refine ⟨lab2,⟨hAft.os,hAft.tape,hAft.output,hAft.size,fun b hb hn=>⟨(hAft.blk b hb hn).1,n2 b (hAft.blk b hb hn).2⟩,fun b i hb=>?_,hAft.bs⟩,?_,?_⟩
 · by_cases hh:lab' b=some args.length∧¬S' b
   · rw [l1 b hh] at hb;cases hb
   · rw [l2 b hh] at hb;exact hAft.lt b i hb
 · have q3:iU w' (Out.A ⟨res',outs,kp,al⟩ w.heap.size A lab lab2) S' res' v:=by
    refine q2.monoA (fun b hb=>?_)
    rcases hb with (⟨ha,hb⟩ | hb) | ⟨hb,hb2⟩
    · exact .inl ⟨ha,hb⟩
    · exact .inr (nf b hb)
    · refine .inr ⟨?_,l1 b ⟨hb,hb2⟩⟩
      by_cases hlt:b < w.heap.size
      · refine .inr fun hn=>?_
        have h9:=(hAft.blk b hlt hn).2
        have hb:lab' b=some args.length:=hb
        rw [hb] at h9;cases h9
      · exact .inl (by omega)
   refine q3.weak (fun b hb=>?_)
   rw [l2 b (fun h=>h.2 hb)]
   exact q1 b hb
 · refine fQ.conv (fun b hb=>hb.imp (fun h=>h) (nf b)) (fun b i hi hb=>?_) hOut
   rw [l2 b (fun h=>by rw [hb] at h;have:=h.1;simp at this;omega)]
   exact hb
theorem FnOk.conv {P:Program} {f:Nat} {args:List AV} {res res':AV} {outs:List AV} {kp:List (List Nat)} {al:Bool} (x:FzQ res res') (h:FnOk P f args ⟨res,outs,kp,al⟩):FnOk P f args ⟨res',outs,kp,al⟩:=by
 refine ⟨h.fn,fun w A lab vals hA hAl hl hG=>(h.run w A lab vals hA hAl hl hG).mono ?_⟩
 rintro e w' ⟨v,lab',rfl,hAft,hRes,hOut⟩
 obtain ⟨lab2,p1,p2,p3⟩:=a9y x hAft hRes hOut
 exact ⟨v,lab2,rfl,p1,p2,p3⟩
theorem FzXs.frz:∀l:List T,FzXs l (jQ l)
 | []=>.same _
 | t :: l=>by
   cases t with
   | s o k rows=>exact .cons (.sl o k rows _ rfl) (FzXs.frz l)
   | _=>exact .cons (.same _) (FzXs.frz l)
theorem FzR.frzA {l l':List T} (e:jQ l=l'):FzR (.agg l) (.agg l'):=.agg (e ▸ FzXs.frz l)
end Go.Ev
