/- What an input reads as, of types that hold themselves. -/
import Derived.Test.YtdjlkhhgaaddpaaGreatEvY
import Derived.Test.YtdjlkhhgaaddpaaGreatEvFz
set_option linter.unusedSectionVars false
set_option linter.unusedVariables false
set_option linter.unusedSimpArgs false
namespace Go.Ev
open Go
open Classical Go.ChangeShapes Go.WideShapes Go.RowKit
variable {H:Type} {enc:TypeId×Value→H} {P:Program} {w:World} {sp:Nat→Bool} {held:Bool}
def okS (P:Program) (S:List Nat) (t:Nat):Bool:=match P.underlying t with
 | some .bool=>true
 | some (.int _)=>true
 | some .string=>true
 | some (.slice e)=>S.contains e&&Nat.ble 1 (P.cellsOf e)
 | some (.struct fs)=>a3l P fs.toList 0 (P.cellsOf t)&&fs.toList.all fun f=>S.contains f.type
 | _=>false
theorem c2z {P:Program} {S:List Nat} (h:S.all (okS P S)=true):∀t,S.contains t=true→okS P S t=true:=fun t ht=>List.all_eq_true.1 h t (by simpa using ht)
theorem xJ {S:List Nat} (hS:∀t,S.contains t=true→okS P S t=true):∀(fuel t:Nat) (cs:List Value) (y:DataW H×List MemPlace),S.contains t=true→DataW.trod enc P w 0 sp held fuel t cs=some y →
 ∃l,l.length=cs.length∧pG P fuel t l∧∀(j:Nat) x u,l[j]?=some x→cs[j]?=some u→Fz w (InW w) u x
 | 0,t,cs,y,_,h=>by cases h
 | fuel+1,t,cs,y,hot,h=>by
   have ho:=hS t hot
   have one:∀{v:Value} {x:T},Fz w (InW w) v x→∀(j:Nat) x' u,[x][j]?=some x'→[v][j]?=some u→Fz w (InW w) u x':=by
    intro v x hf j x' u hj hu
    cases j with
    | zero=>simp at hj hu;subst hj hu;exact hf
    | succ j=>simp at hj
   unfold okS at ho
   unfold pG
   cases hu:P.underlying t with
   | none=>rw [hu] at ho;cases ho
   | some d =>
     rw [hu] at ho
     cases d with
     | bool =>
       rcases cs with _ | ⟨v,_ | ⟨v2,cs⟩⟩
       · simp [DataW.trod,hu] at h
       · cases v <;> simp [DataW.trod,hu] at h
         rename_i b
         exact ⟨[.v (.bool b)],rfl,⟨b,rfl⟩,one (.v _ rfl)⟩
       · simp [DataW.trod,hu] at h
     | int k =>
       rcases cs with _ | ⟨v,_ | ⟨v2,cs⟩⟩
       · simp [DataW.trod,hu] at h
       · cases v <;> simp [DataW.trod,hu] at h
         rename_i k' x
         obtain ⟨⟨rfl,hw⟩,_⟩:=h
         exact ⟨[.v (.int k' x)],rfl,⟨x,rfl,hw⟩,one (.v _ (d3r hw))⟩
       · simp [DataW.trod,hu] at h
     | string =>
       rcases cs with _ | ⟨v,_ | ⟨v2,cs⟩⟩
       · simp [DataW.trod,hu] at h
       · cases v <;> simp [DataW.trod,hu] at h
         rename_i s
         have h1:=h.1
         exact ⟨[.v (.string s)],rfl,⟨s,rfl,h.1⟩,one (.v _ (Nat.ble_eq_true_of_le (by simp only [maxLen] at h1;omega)))⟩
       · simp [DataW.trod,hu] at h
     | slice e =>
       simp only [Bool.and_eq_true,Nat.ble_eq] at ho
       rcases cs with _ | ⟨v,_ | ⟨v2,cs⟩⟩
       · simp [DataW.trod,hu] at h
       · cases v with
         | slice ad len cap =>
           cases ad with
           | none =>
             have:len=0∧cap=0:=by
              rcases len with _ | len <;> rcases cap with _ | cap <;> simp [DataW.trod,hu] at h
              exact ⟨rfl,rfl⟩
             obtain ⟨rfl,rfl⟩:=this
             exact ⟨[.s false (P.cellsOf e) []],rfl,⟨[],rfl,by simp,by simp⟩,one (.nil _ _ _ _)⟩
           | some ad =>
             simp only [DataW.trod,hu] at h
             split at h
             rotate_left
             · cases h
             rename_i hb
             cases hm:(List.range len).mapM fun i=>(w.cells? 0 (ad.add (i*P.cellsOf e)) (P.cellsOf e)).bind (DataW.trod enc P w 0 sp held fuel e) with
             | none=>rw [hm] at h;cases h
             | some els =>
               obtain ⟨_,hat⟩:=b3w hm
               have H:∀i,i < len→∃us l,w.cells? 0 (ad.add (i*P.cellsOf e)) (P.cellsOf e)=some us∧l.length=P.cellsOf e∧pG P fuel e l∧∀(j:Nat) x u,l[j]?=some x→us[j]?=some u→Fz w (InW w) u x:=by
                intro i hi
                obtain ⟨y',_,hy⟩:=hat i i (by simp [hi])
                cases hc:w.cells? 0 (ad.add (i*P.cellsOf e)) (P.cellsOf e) with
                | none=>rw [hc] at hy;cases hy
                | some us =>
                  rw [hc] at hy
                  obtain ⟨l,p1,p2,p3⟩:=xJ hS fuel e us y' ho.1 hy
                  exact ⟨us,l,rfl,by rw [p1];exact (a2h hc).1,p2,p3⟩
               by_cases hl:len=0
               · subst hl
                 exact ⟨[.s false (P.cellsOf e) []],rfl,⟨[],rfl,by simp,by simp⟩,one (.nil _ _ _ _)⟩
               · let rows:List (List T):=(List.range len).map fun i=>if h:i < len then Classical.choose (Classical.choose_spec (H i h)) else []
                 have hrl:rows.length=len:=by simp [rows]
                 have hrow:∀(i:Nat) r,rows[i]?=some r→i < len∧∃us,w.cells? 0 (ad.add (i*P.cellsOf e)) (P.cellsOf e)=some us∧r.length=P.cellsOf e∧pG P fuel e r∧∀(j:Nat) x u,r[j]?=some x→us[j]?=some u→Fz w (InW w) u x:=by
                  intro i r hr
                  have hi:i < len:=by have:=(List.getElem?_eq_some_iff.1 hr).1;omega
                  refine ⟨hi,Classical.choose (H i hi),?_⟩
                  have:r=Classical.choose (Classical.choose_spec (H i hi)):=by
                   have hr':((List.range len).map fun i=>if h:i < len then Classical.choose (Classical.choose_spec (H i h)) else [])[i]?=some r:=hr
                   rw [List.getElem?_map,List.getElem?_range hi] at hr'
                   simp only [Option.map_some,Option.some.injEq] at hr'
                   rw [dif_pos hi] at hr'
                   exact hr'.symm
                  rw [this]
                  exact Classical.choose_spec (Classical.choose_spec (H i hi))
                 have hspot:ad.spot=none∧ad.block < w.heap.size:=by
                  obtain ⟨us,l,hc,_⟩:=H 0 (by omega)
                  obtain ⟨_,q⟩:=a2h hc
                  obtain ⟨u,_,hq⟩:=q 0 (by omega)
                  have e1:(ad.add (0*P.cellsOf e)).add 0=ad:=by simp [Addr.add]
                  rw [e1] at hq
                  refine ⟨?_,block_lt_of_cell hq⟩
                  unfold World.cell? at hq
                  split at hq
                  · split at hq
                    · cases hq
                    · rename_i hs;simpa using hs
                  · cases hq
                 obtain ⟨b,f,sp'⟩:=ad
                 obtain ⟨rfl,hblk⟩:=hspot
                 have hadd:∀i j,((⟨b,f,none⟩:Addr).add i).add j=⟨b,f+i+j,none⟩:=fun i j=>by rw [lT,lT]
                 refine ⟨[.s false (P.cellsOf e) rows],rfl,⟨rows,rfl,by rw [hrl];omega,fun r hr=>?_⟩,one ?_⟩
                 · obtain ⟨i,hi⟩:=List.getElem?_of_mem hr
                   obtain ⟨_,us,_,q1,q2,_⟩:=hrow i r hi
                   exact ⟨q1,q2⟩
                 · have:=Fz.s (w:=w) (A:=InW w) b f cap false (P.cellsOf e) rows (fun i j=>(w.cell? ⟨b,f+i*P.cellsOf e+j,none⟩).getD undef) hblk hblk (by rw [hrl];exact hb.2.1) (by rw [hrl];exact Nat.ble_eq_true_of_le (by simp only [maxLen] at hb;omega)) (fun r hr=>?_) (fun i j hi hj=>?_) (fun i j r x hr hx=>?_)
                   · rw [hrl] at this;exact this
                   · obtain ⟨i,hi⟩:=List.getElem?_of_mem hr
                     obtain ⟨_,us,_,q1,q2,_⟩:=hrow i r hi
                     exact q1
                   · rw [hrl] at hi
                     obtain ⟨us,l,hc,_⟩:=H i hi
                     obtain ⟨u,_,hq⟩:=(a2h hc).2 j hj
                     rw [hadd] at hq
                     rw [hq];rfl
                   · obtain ⟨hi,us,hc,q1,_,q3⟩:=hrow i r hr
                     have hj:j < P.cellsOf e:=by have:=(List.getElem?_eq_some_iff.1 hx).1;omega
                     obtain ⟨u,hus,hq⟩:=(a2h hc).2 j hj
                     rw [hadd] at hq
                     rw [hq]
                     exact q3 j x u hx hus
         | _=>simp [DataW.trod,hu] at h
       · simp [DataW.trod,hu] at h
     | struct fs =>
       simp only [Bool.and_eq_true,List.all_eq_true] at ho
       have h':(if cs.length=P.cellsOf t then (fs.toList.mapM fun f=>DataW.trod enc P w 0 sp held fuel f.type ((cs.drop f.offset).take (P.cellsOf f.type))).map fun xs=>(DataW.agg (xs.map (·.1)),xs.flatMap (·.2)) else none)=some y:=by
        rw [←h]
        simp only [DataW.trod,hu]
       split at h'
       · rename_i hl
         cases hm:fs.toList.mapM fun f=>DataW.trod enc P w 0 sp held fuel f.type ((cs.drop f.offset).take (P.cellsOf f.type)) with
         | none=>rw [hm] at h';cases h'
         | some xs =>
           obtain ⟨_,l,q1,q2,q3⟩:=a6k (P:=P) (n:=fuel) (F:=fun t cs=>DataW.trod enc P w 0 sp held fuel t cs) hl fs.toList 0 xs ho.1 hm (fun f hf cs y hy=>xJ hS fuel f.type cs y (ho.2 f hf) hy)
           exact ⟨l,by rw [q1,hl];simp,q2,fun j x u hj hu=>q3 j x u hj (by simpa using hu)⟩
       · cases h'
     | _=>cases ho
section
variable {W:World} {base:Nat} {r:Reach} {t:TypeId} {v:Value} {d:DataW H} {p:List MemPlace}
theorem c1i (S:List Nat) (hS:S.all (okS P S)=true) (ht:S.contains t=true) (hv:Value.okWide P W r base t v) (h:DataW.Trod enc P W 0 sp held t v d p):∃n x,d1e P W n t v x:=by
 obtain ⟨n,h⟩:=h
 refine ⟨n,?_⟩
 obtain ⟨l,q1,q2,q3⟩:=xJ (c2z hS) n t _ _ ht h
 have ho:=c2z hS t ht
 have plain:v.cells=#[v]→(∀fs,P.underlying t≠some (.struct fs))→∃x,d1e P W n t v x:=by
  intro hc hs
  rw [hc] at q1 q3
  rcases l with _ | ⟨y,_ | ⟨z,l⟩⟩
  · simp at q1
  · exact ⟨.one y,q3 0 y v rfl rfl,.inr ⟨y,rfl,q2,hs⟩⟩
  · simp at q1
 · unfold okS at ho
   cases hu:P.underlying t with
   | none=>rw [hu] at ho;cases ho
   | some dd =>
     rw [hu] at ho
     cases dd with
     | bool=>obtain ⟨b,rfl⟩:=okWide_bool hu hv;exact plain rfl (by simp [hu])
     | int k=>obtain ⟨b,rfl⟩:=okWide_int hu hv;exact plain rfl (by simp [hu])
     | string=>obtain ⟨b,rfl⟩:=okWide_string hu hv;exact plain rfl (by simp [hu])
     | slice e=>obtain ⟨_,_,_,rfl⟩:=okWide_slice hu hv;exact plain rfl (by simp [hu])
     | struct fs =>
       simp only [Value.okWide,hu] at hv
       obtain ⟨cs,rfl,h1,_⟩:=hv
       exact ⟨.agg l,⟨cs,rfl,by simpa [Value.cells] using q1.symm,fun j x u hj hu=>q3 j x u hj (by simpa [Value.cells] using hu)⟩,.inl ⟨l,rfl,q2,fs,hu⟩⟩
     | _=>cases ho
end
end Go.Ev
namespace Go.Ev
open Go
theorem d5z {α:Type} {k:Nat} {enc:α→List T} {l:List α} (h:∀x∈l,lU (enc x)):OwnT (.s true k (l.map enc)):=by
 cases l with
 | nil=>exact .nil _ _
 | cons a l =>
   refine .s _ _ fun r hr t ht=>?_
   obtain ⟨x,hx,rfl⟩:=List.mem_map.1 hr
   obtain ⟨j,hj⟩:=List.getElem?_of_mem ht
   exact lU.get (h x hx) j t hj
theorem d3q {α:Type} {f g:α→List T} {l:List α} (h:∀x∈l,jQ (f x)=g x):cK (l.map f)=l.map g:=by
 rw [b6f]
 exact List.map_congr_left h
theorem iF {a b:Bool} (h:a=true) (k:b=true):(a&&b)=true:=by rw [h,k];rfl
end Go.Ev
namespace Go.Ev
open Go
theorem d2v {α:Type} {enc:α→List T} {l:List α} {i j:Nat} {x:α} {K:List T→Prop} (hj:j=i) (h:i < l.length→K (enc x)):∀r,(true=true→((l.set i x).map enc)[j]?=some r)→K r:=by
 intro r hr
 have hr:=hr rfl
 subst hj
 rw [List.getElem?_map] at hr
 have hlt:j < l.length:=by
  rcases Nat.lt_or_ge j l.length with h | h
  · exact h
  · rw [List.getElem?_eq_none (by simpa using h)] at hr;cases hr
 rw [List.getElem?_set_self hlt] at hr
 cases hr
 exact h hlt
theorem lM {α:Type} {f:α→List T} {l:List α} {i j off:Nat} {cs:List T} {x b:α} (hj:j=i) (h:eC (f x) off cs=f b):((l.set i x).map f).set j (eC (dK ((l.set i x).map f) j) off cs)=(l.set i b).map f:=by
 rw [dC (i:=i) (b:=b) hj (fun a ha=>?_),List.set_set]
 have hlt:i < l.length:=by
  rcases Nat.lt_or_ge i l.length with h | h
  · exact h
  · rw [List.getElem?_eq_none (by simpa using h)] at ha;cases ha
 rw [List.getElem?_set_self hlt] at ha
 cases ha
 exact h
theorem bX {lo len:Nat} {rows:List (List T)}:vH 0 lo len rows=(rows.drop lo).take len:=rfl
theorem bP {lo len:Nat} {rows:List (List T)}:vH 1 lo len rows=rows:=rfl
end Go.Ev
