/- append. -/
import Derived.Test.YtdjlkhhgaaddpaaGreatEvI
set_option linter.unusedSectionVars false
set_option linter.unusedVariables false
set_option linter.unusedSimpArgs false
namespace Go.Ev
open Go
open Classical
variable {E:Env} {w w' w0:World} {A0:Fix} {g g':Gh} {st st':St} {N:Nat} {pv:List Value} {a:Act}
structure SrcR (E:Env) (w:World) (g:Gh) (st st':St) (size:Nat) (tx:TypeId) (v:Value) (ys:List (List T)):Prop where
 kills:Kills st st'
 ex:∃(news:List Value) (Sub:Nat→Nat→Nat→Prop),Src E.P size tx v ys.length news w∧(∀r∈ys,r.length=size) ∧
  (∀(i j:Nat) r t,ys[i]?=some r→r[j]?=some t→∃u,news[i*size+j]?=some u∧Ow w g.A (Sub i j) u t) ∧
  (∀i j i' j' x,Sub i j x→Sub i' j' x→i=i'∧j=j')∧∀i j x,Sub i j x→iZ g st st' x
theorem b2f {w:World} {b f n:Nat} (h:∀p,p < n→∃u,w.cell? ⟨b,f+p,none⟩=some u):∃news:List Value,news.length=n∧∀(p:Nat) u,news[p]?=some u→w.cell? ⟨b,f+p,none⟩=some u:=by
 refine ⟨(List.range n).map fun p=>(w.cell? ⟨b,f+p,none⟩).getD undef,by simp,fun p u hp=>?_⟩
 have hlt:p < n:=by have:=(List.getElem?_eq_some_iff.1 hp).1;simpa using this
 obtain ⟨u',hu⟩:=h p hlt
 simp [hlt,hu] at hp
 rw [hu,hp]
theorem c6s {p k n:Nat} (hk:0 < k) (hp:p < n*k):p / k < n∧p % k < k∧p / k*k+p % k=p:=by
 refine ⟨Nat.div_lt_of_lt_mul (by rw [Nat.mul_comm];exact hp),Nat.mod_lt _ hk,?_⟩
 rw [Nat.mul_comm];exact Nat.div_add_mod p k
theorem a1p {size:Nat} {tx e':TypeId} (hk:E.P.underlying tx=some (.slice e')) (hs:0 < size) {b f n c:Nat} {vals:Nat→Nat→Value} (hc:∀i j,i < n→j < size→w.cell? ⟨b,f+i*size+j,none⟩=some (vals i j)) (h1:∀i j,i < n→j < size→(vals i j).oneCell'=true) :
 ∃news,Src E.P size tx (.slice (some ⟨b,f,none⟩) n c) n news w∧∀i j,i < n→j < size→news[i*size+j]?=some (vals i j):=by
 have hall:∀p,p < n*size→w.cell? ⟨b,f+p,none⟩=some (vals (p / size) (p % size)):=by
  intro p hp
  obtain ⟨q1,q2,q3⟩:=c6s hs hp
  have:=hc _ _ q1 q2
  rw [Nat.add_assoc,q3] at this
  exact this
 obtain ⟨news,hl,hn⟩:=b2f (w:=w) (b:=b) (f:=f) (n:=n*size) (fun p hp=>⟨_,hall p hp⟩)
 have hget:∀p,p < n*size→news[p]?=some (vals (p / size) (p % size)):=by
  intro p hp
  have hx:news[p]?=some news[p]:=by simp [hl,hp]
  have:=hn p _ hx
  rw [hall p hp] at this
  rw [hx];exact this.symm
 refine ⟨news,Src.ofSlice w hk _ n c news hl (fun p u hp=>by rw [lT];exact hn p u hp) (fun u hu=>?_),fun i j hi hj=>?_⟩
 · obtain ⟨p,hp⟩:=List.getElem?_of_mem hu
   have hlt:p < n*size:=by have:=(List.getElem?_eq_some_iff.1 hp).1;omega
   rw [hget p hlt] at hp
   cases hp
   obtain ⟨q1,q2,_⟩:=c6s hs hlt
   exact h1 _ _ q1 q2
 · have hlt:i*size+j < n*size:=by
    have:=Nat.mul_le_mul_right size (show i+1≤n from hi)
    rw [Nat.add_mul] at this;omega
   rw [hget _ hlt]
   have e1:(i*size+j) / size=i:=by
    rw [Nat.add_comm,Nat.add_mul_div_right _ _ hs,Nat.div_eq_of_lt hj,Nat.zero_add]
   rw [e1,c6d hj]
theorem yK {size:Nat} {tx e':TypeId} (hk:E.P.underlying tx=some (.slice e')) (ad:Option Addr) (c:Nat):Src E.P size tx (.slice ad 0 c) 0 [] w:=by
 cases ad with
 | none=>exact Src.ofNil w hk c
 | some x=>exact Src.ofSlice w hk x 0 c [] (by simp) (fun j u h=>by simp at h) (fun u h=>by cases h)
theorem a4k (h:RepSt w g st N pv a) {te:TI} {tx e':TypeId} (hk:E.P.underlying tx=some (.slice e')) (hs:0 < te.size) {y:T} {v:Value} (hr:dU w g st y v) {k:Nat} {ys:List (List T)} (he:yE st te y=some (k,ys,st')) (hke:k=te.size) :
 SrcR E w g st st' te.size tx v ys:=by
 subst hke
 obtain ⟨hr1,hr⟩:=hr
 cases y with
 | s o k rows =>
   simp only [yE,Option.some.injEq,Prod.mk.injEq] at he
   obtain ⟨rfl,rfl,rfl⟩:=he
   refine ⟨.refl st,?_⟩
   have hfz:∀{u t},Fz w g.A u t→Ow w g.A (fun _=>False) u (T.fz t):=by
    intro u t hf
    cases t with
    | v x=>cases hf with | v _ h1=>exact .v _ _ h1
    | s o k rows =>
      exact .f _ _ _ _ hf.frz
    | h=>exact .h _ _ hf.one
    | q _ _ _ _=>exact .h _ _ hf.one
    | c _ _=>exact .h _ _ hf.one
    | n=>exact .h _ _ hf.one
    | p=>exact .h _ _ hf.one
    | b=>exact .h _ _ hf.one
   have hF:rows=[]∧(∃ad c,v=.slice ad 0 c)∨Fz w g.A v (.s o te.size rows):=by
    cases o with
    | true=>obtain ⟨rfl,ad,rfl⟩:=hr;exact .inl ⟨rfl,ad,0,rfl⟩
    | false=>exact .inr hr
   rcases hF with ⟨rfl,ad,c,rfl⟩ | hF
   · exact ⟨[],fun _ _ _=>False,yK hk ad c,by simp [uI],fun i j r t hi=>by simp [uI] at hi,fun _ _ _ _ _ h=>h.elim,fun _ _ _ h=>h.elim⟩
   · cases hF with
     | nil ad c=>exact ⟨[],fun _ _ _=>False,yK hk ad c,by simp [uI],fun i j r t hi=>by simp [uI] at hi,fun _ _ _ _ _ h=>h.elim,fun _ _ _ h=>h.elim⟩
     | s b f c _ _ _ vals g1 g2 g2' gl g3 g4 g5 =>
       have hone:∀i j,i < rows.length→j < te.size→(vals i j).oneCell'=true:=by
        intro i j hi hj
        have hrow:rows[i]?=some rows[i]:=by simp [hi]
        have hl:rows[i].length=te.size:=g3 _ (List.getElem_mem hi)
        exact xU (g5 i j _ _ hrow (List.getElem?_eq_getElem (by omega))).one
       obtain ⟨news,hS,hn⟩:=a1p (w:=w) (c:=c) hk hs g4 hone
       refine ⟨news,fun _ _ _=>False,by simpa [uI] using hS,fun r hr=>?_,fun i j r t hi hj=>?_,fun _ _ _ _ _ h=>h.elim,fun _ _ _ h=>h.elim⟩
       · simp only [uI,List.mem_map] at hr
         obtain ⟨r',hr',rfl⟩:=hr
         simpa using g3 r' hr'
       · simp only [uI,List.getElem?_map] at hi
         cases hi':rows[i]? with
         | none=>simp [hi'] at hi
         | some r' =>
           simp only [hi',Option.map_some,Option.some.injEq] at hi
           subst hi
           rw [List.getElem?_map] at hj
           cases hj':r'[j]? with
           | none=>simp [hj'] at hj
           | some t' =>
             simp only [hj',Option.map_some,Option.some.injEq] at hj
             subst hj
             have h1:=(List.getElem?_eq_some_iff.1 hi').1
             have h2:=(List.getElem?_eq_some_iff.1 hj').1
             rw [g3 r' (List.mem_of_getElem? hi')] at h2
             exact ⟨_,hn i j h1 h2,hfz (g5 i j r' t' hi' hj')⟩
 | n id path ep lo len =>
   cases path with
   | cons _ _=>simp [yE] at he
   | nil =>
     cases ho:st.obj id with
     | none=>simp [yE,ho] at he
     | some ob =>
       obtain ⟨hid,hr⟩:=(show dM w g st (.n id [] ep lo len) v from hr)
       obtain ⟨hbox,hwh,ad,c,rfl,hlc,hlr,hcc⟩:=hr ob ho
       simp only [yE,ho,hbox,cond_false,rB hwh] at he
       have hrows:((ob.rows.drop lo).take len).length=len:=by simp;omega
       by_cases hz:len=0
       · subst hz
         have:ys=[]∧Kills st st':=by
          cases hf:te.zero.all T.isV with
          | true=>rw [hf] at he;simp only [cond_true,Option.some.injEq,Prod.mk.injEq] at he;obtain ⟨_,rfl,rfl⟩:=he;exact ⟨by simp [vM],.refl st⟩
          | false=>rw [hf] at he;simp only [cond_false,Option.some.injEq,Prod.mk.injEq] at he;obtain ⟨_,rfl,rfl⟩:=he;exact ⟨by simp,.kill st id⟩
         obtain ⟨rfl,hkl⟩:=this
         exact ⟨hkl,[],fun _ _ _=>False,yK hk ad c,by simp,fun i j r t hi=>by simp at hi,fun _ _ _ _ _ h=>h.elim,fun _ _ _ h=>h.elim⟩
       · rcases hcc with rfl | ⟨rfl,hl,hs'⟩
         · omega
         · have hO:=h.ob id ob ho
           unfold fY at hO
           rw [hbox] at hO
           rcases hO with ⟨_,hn⟩ | ⟨cs,e,vals,Sub,r1,r2,r3,r4,hM⟩
           · exact absurd hl hn
           · have hkk:ob.k=te.size:=by
              cases hf:te.zero.all T.isV with
              | true=>rw [hf] at he;simp only [cond_true,Option.some.injEq,Prod.mk.injEq] at he;exact he.1
              | false=>rw [hf] at he;simp only [cond_false,Option.some.injEq,Prod.mk.injEq] at he;exact he.1
             have hcell:∀i j,i < len→j < te.size→w.cell? ⟨g.β id,g.ω id+lo*ob.k+i*te.size+j,none⟩=some (vals (lo+i) j):=by
              intro i j hi hj
              have:=hM.hv (lo+i) j (by omega) (by omega)
              have e1:g.ω id+lo*ob.k+i*te.size+j=g.ω id+(lo+i)*ob.k+j:=by rw [Nat.add_mul,hkk];omega
              rw [e1]
              simp [World.cell?,r1,this]
             have hone:∀i j,i < len→j < te.size→(vals (lo+i) j).oneCell'=true:=by
              intro i j hi hj
              have hrow:ob.rows[lo+i]?=some ob.rows[lo+i]:=by simp [show lo+i < ob.rows.length by omega]
              have hl':ob.rows[lo+i].length=ob.k:=hM.hk _ (List.getElem_mem (by omega))
              exact xU (hM.ht _ j _ _ hrow (List.getElem?_eq_getElem (by omega))).one
             obtain ⟨news,hS,hn⟩:=a1p (w:=w) (c:=c) (n:=len) hk hs hcell hone
             have hget:∀i,i < len→((ob.rows.drop lo).take len)[i]?=ob.rows[lo+i]?:=by
              intro i hi
              rw [List.getElem?_take,if_pos hi,List.getElem?_drop]
             cases hf:te.zero.all T.isV with
             | true =>
               rw [hf] at he
               simp only [cond_true,Option.some.injEq,Prod.mk.injEq] at he
               obtain ⟨_,rfl,rfl⟩:=he
               refine ⟨.refl st,news,fun _ _ _=>False,by rw [vM,List.length_map,hrows];exact hS,fun r hr=>?_,fun i j r t hi hj=>?_,fun _ _ _ _ _ h=>h.elim,fun _ _ _ h=>h.elim⟩
               · simp only [vM,List.mem_map] at hr
                 obtain ⟨r',hr',rfl⟩:=hr
                 rw [List.length_map,hM.hk r' (List.mem_of_mem_drop (List.mem_of_mem_take hr')),hkk]
               · simp only [vM,List.getElem?_map] at hi
                 cases hi':((ob.rows.drop lo).take len)[i]? with
                 | none=>simp [hi'] at hi
                 | some r' =>
                   simp only [hi',Option.map_some,Option.some.injEq] at hi
                   subst hi
                   have hil:i < len:=by have:=(List.getElem?_eq_some_iff.1 hi').1;omega
                   rw [hget i hil] at hi'
                   rw [List.getElem?_map] at hj
                   cases hj':r'[j]? with
                   | none=>simp [hj'] at hj
                   | some t' =>
                     simp only [hj',Option.map_some,Option.some.injEq] at hj
                     subst hj
                     have h2:=(List.getElem?_eq_some_iff.1 hj').1
                     rw [hM.hk r' (List.mem_of_getElem? hi'),hkk] at h2
                     refine ⟨_,hn i j hil h2,?_⟩
                     have hO:=hM.ht _ j r' t' hi' hj'
                     generalize vals (lo+i) j=u at hO
                     generalize Sub (lo+i) j=S at hO
                     cases t' with
                     | v x =>
                       have h1:=hO.one
                       cases hO
                       exact .v _ _ h1
                     | _=>exact .h _ _ hO.one
             | false =>
               rw [hf] at he
               simp only [cond_false,Option.some.injEq,Prod.mk.injEq] at he
               obtain ⟨_,rfl,rfl⟩:=he
               refine ⟨.kill st id,news,fun i j=>Sub (lo+i) j,by rw [hrows];exact hS,fun r hr=>?_,fun i j r t hi hj=>?_,fun i j i' j' x hx hx'=>?_,fun i j x hx=>?_⟩
               · rw [hM.hk r (List.mem_of_mem_drop (List.mem_of_mem_take hr)),hkk]
               · have hil:i < len:=by have:=(List.getElem?_eq_some_iff.1 hi).1;omega
                 rw [hget i hil] at hi
                 have h2:=(List.getElem?_eq_some_iff.1 hj).1
                 rw [hM.hk r (List.mem_of_getElem? hi),hkk] at h2
                 exact ⟨_,hn i j hil h2,hM.ht _ j r t hi hj⟩
               · have:=hM.hd _ _ _ _ _ hx hx'
                 exact ⟨by omega,this.2⟩
               · exact ⟨id,(hM.hs _ _ _ hx).1,⟨ob,ho⟩,by rw [St.kill,kW hid]⟩
 | _=>simp [yE] at he
theorem a9f (h:RepSt w g st N pv a) {te:TI} {tx e':TypeId} (hk:E.P.underlying tx=some (.slice e')) (hs:0 < te.size) {y:T} {v:Value} (hr:dU w g st y v) {k:Nat} {ys:List (List T)} (he:a1q st y=some (k,ys,st')) (hkk:k=te.size):SrcR E w g st st' te.size tx v ys:=by
 have hr:=hr.2
 cases y with
 | n id path ep lo len =>
   cases path with
   | cons _ _=>simp [a1q] at he
   | nil =>
     cases ho:st.obj id with
     | none=>simp [a1q,ho] at he
     | some ob =>
       obtain ⟨hid,hr⟩:=(show dM w g st (.n id [] ep lo len) v from hr)
       obtain ⟨hbox,hwh,ad,c,rfl,hlc,hlr,hcc⟩:=hr ob ho
       simp only [a1q,ho,hbox,cond_false,rB hwh,Option.some.injEq,Prod.mk.injEq] at he
       obtain ⟨hkeq,rfl,rfl⟩:=he
       have hkk:ob.k=te.size:=hkeq.trans hkk
       have hrows:((ob.rows.drop lo).take len).length=len:=by simp;omega
       by_cases hz:len=0
       · subst hz
         exact ⟨.refl st,[],fun _ _ _=>False,by simpa [wN] using yK hk ad c,by simp [wN],fun i j r t hi=>by simp [wN] at hi,fun _ _ _ _ _ h=>h.elim,fun _ _ _ h=>h.elim⟩
       · rcases hcc with rfl | ⟨rfl,hl,hs'⟩
         · omega
         · have hO:=h.ob id ob ho
           unfold fY at hO
           rw [hbox] at hO
           rcases hO with ⟨_,hn⟩ | ⟨cs,e,vals,Sub,r1,r2,r3,r4,hM⟩
           · exact absurd hl hn
           · have hcell:∀i j,i < len→j < te.size→w.cell? ⟨g.β id,g.ω id+lo*ob.k+i*te.size+j,none⟩=some (vals (lo+i) j):=by
              intro i j hi hj
              have:=hM.hv (lo+i) j (by omega) (by omega)
              have e1:g.ω id+lo*ob.k+i*te.size+j=g.ω id+(lo+i)*ob.k+j:=by rw [Nat.add_mul,hkk];omega
              rw [e1]
              simp [World.cell?,r1,this]
             have hone:∀i j,i < len→j < te.size→(vals (lo+i) j).oneCell'=true:=by
              intro i j hi hj
              have hrow:ob.rows[lo+i]?=some ob.rows[lo+i]:=by simp [show lo+i < ob.rows.length by omega]
              have hl':ob.rows[lo+i].length=ob.k:=hM.hk _ (List.getElem_mem (by omega))
              exact xU (hM.ht _ j _ _ hrow (List.getElem?_eq_getElem (by omega))).one
             obtain ⟨news,hS,hn⟩:=a1p (w:=w) (c:=c) (n:=len) hk hs hcell hone
             have hget:∀i,i < len→((ob.rows.drop lo).take len)[i]?=ob.rows[lo+i]?:=by
              intro i hi
              rw [List.getElem?_take,if_pos hi,List.getElem?_drop]
             refine ⟨.refl st,news,fun _ _ _=>False,by rw [wN,List.length_map,hrows];exact hS,fun r hr=>?_,fun i j r t hi hj=>?_,fun _ _ _ _ _ h=>h.elim,fun _ _ _ h=>h.elim⟩
             · simp only [wN,List.mem_map] at hr
               obtain ⟨r',hr',rfl⟩:=hr
               rw [List.length_map,hM.hk r' (List.mem_of_mem_drop (List.mem_of_mem_take hr')),hkk]
             · simp only [wN,List.getElem?_map] at hi
               cases hi':((ob.rows.drop lo).take len)[i]? with
               | none=>simp [hi'] at hi
               | some r' =>
                 simp only [hi',Option.map_some,Option.some.injEq] at hi
                 subst hi
                 have hil:i < len:=by have:=(List.getElem?_eq_some_iff.1 hi').1;omega
                 rw [hget i hil] at hi'
                 rw [List.getElem?_map] at hj
                 cases hj':r'[j]? with
                 | none=>simp [hj'] at hj
                 | some t' =>
                   simp only [hj',Option.map_some,Option.some.injEq] at hj
                   subst hj
                   have h2:=(List.getElem?_eq_some_iff.1 hj').1
                   rw [hM.hk r' (List.mem_of_getElem? hi'),hkk] at h2
                   refine ⟨_,hn i j hil h2,?_⟩
                   have hO:=hM.ht _ j r' t' hi' hj'
                   generalize vals (lo+i) j=u at hO
                   generalize Sub (lo+i) j=S at hO
                   cases t' with
                   | v x =>
                     have h1:=hO.one
                     cases hO
                     exact .v _ _ h1
                   | s o k2 rows2 =>
                     cases o with
                     | true=>exact .h _ _ hO.one
                     | false =>
                       cases hO with
                       | f _ _ _ _ hf=>exact .f _ _ _ _ hf
                   | _=>exact .h _ _ hO.one
 | _=>simp [a1q] at he
theorem RepSt.addAt (h:RepSt w g st N pv a) {b f k:Nat} {cc:Array Value} {e:TypeId} {rows:List (List T)} {S:Nat→Prop} (hb:w'.heap[b]?=some (.cells cc e (0,0))) (hw:∀x,x≠b→w'.heap[x]?=w.heap[x]?) (hsz:w'.heap.size=w.heap.size)
 (hS:∀x,S x→∃i,g.lab x=some i∧st.obj i=none) (hSb:S b) (hlen:f+rows.length*k≤cc.size) {vals:Nat→Nat→Value} {Sub:Nat→Nat→Nat→Prop}
 (hk:∀r∈rows,r.length=k) (hv:∀i j,i < rows.length→j < k→cc[f+i*k+j]?=some (vals i j))
 (ht:∀(i j:Nat) r t,rows[i]?=some r→r[j]?=some t→Ow w g.A (Sub i j) (vals i j) t) (hd:∀i j i' j' x,Sub i j x→Sub i' j' x→i=i'∧j=j') (hs:∀i j x,Sub i j x→S x∧x≠b) :
 ∃g',RepSt w' g' (st.add ⟨k,false,rows,0⟩) N pv a∧g'.β st.ob.length=b∧g'.ω st.ob.length=f∧g'.sz st.ob.length=cc.size∧g'.lab b=some st.ob.length∧(∀x,g.lab x=none→g'.lab x=none)∧(∀x,S x→g'.lab x=some st.ob.length)∧(∀x,¬S x→g'.lab x=g.lab x)∧Keeps w g st w' g' (st.add ⟨k,false,rows,0⟩)∧g'.X=g.X:=by
 let id:=st.ob.length
 let g':Gh:={ β:=fun i=>if i=id then b else g.β i,ω:=fun i=>if i=id then f else g.ω i,sz:=fun i=>if i=id then cc.size else g.sz i,lab:=fun x=>if S x then some id else g.lab x,X:=g.X }
 have hnone:∀x,g.lab x=none→g'.lab x=none:=by
  intro x hx
  show (if S x then some id else g.lab x)=none
  rw [if_neg]
  · exact hx
  · intro hs'
    obtain ⟨i,h1,_⟩:=hS x hs'
    rw [hx] at h1;cases h1
 have hlb:g'.lab b=some id:=by
  show (if S b then some id else g.lab b)=some id
  rw [if_pos hSb]
 have fz:∀x,g.A x→x < w.heap.size→g'.A x∧w'.heap[x]?=w.heap[x]?:=by
  intro x hx _
  refine ⟨⟨hnone x hx.1,hx.2⟩,hw x ?_⟩
  intro he;subst he
  obtain ⟨i,h1,_⟩:=hS _ hSb
  have:g.lab x=none:=hx.1
  rw [this] at h1;cases h1
 have alive:∀x j ob,g.lab x=some j→st.obj j=some ob→¬S x:=by
  intro x j ob hx ho hs'
  obtain ⟨i,h1,h2⟩:=hS x hs'
  rw [hx] at h1;cases h1
  rw [ho] at h2;cases h2
 have hK:Keeps w g st w' g' (st.add ⟨k,false,rows,0⟩):=by
  refine ⟨fz,by simp [St.add],fun j ob' hj ho=>?_,fun j ob' hj ho ob1 h1=>?_,fun j ob' hj ho=>?_⟩
  · rw [dX hj] at ho
    exact ⟨ob',ho,rfl,rfl,rfl⟩
  · rw [dX hj,h1] at ho
    cases ho
    refine ⟨Nat.le_refl _,fun _ _ hl=>hw _ (fun he=>?_)⟩
    exact alive _ _ _ hl h1 (by rw [he];exact hSb)
  · rw [dX hj] at ho
    have hne:j≠id:=by show j≠st.ob.length;omega
    refine ⟨by simp [g',hne],by simp [g',hne],by simp [g',hne],fun hl=>?_⟩
    show (if S (g.β j) then some id else g.lab (g.β j))=some j
    rw [if_neg (alive _ _ _ hl ho)];exact hl
 refine ⟨g',⟨h.size,h.defers,fun i=>(h.tm i).keeps hK,fun j ob ho=>?_,fun x i hx=>?_,h.pr.1,fun i t u hi hu=>(h.pr.2 i t u hi hu).keeps hK⟩,by simp [g',id],by simp [g',id],by simp [g',id],hlb,hnone,fun x hx=>if_pos hx,fun x hx=>if_neg hx,hK,rfl⟩
 · have hj:=nF ho
   simp only [St.add,List.length_append,List.length_cons,List.length_nil] at hj
   by_cases he:j=st.ob.length
   · subst he
     rw [iJ] at ho
     cases ho
     refine .inr ⟨cc,e,vals,fun i j x=>Sub i j x∧x < w.heap.size,by simp [g',id,hb],by simp only [g',id,if_true];exact hlb,by simp [g',id],by simp [g',id];exact hlen,hk,fun i j hi hj=>?_,fun i j r t hr ht'=>?_,fun i j i' j' x hx hx'=>hd i j i' j' x hx.1 hx'.1,fun i j x hx=>⟨?_,?_⟩⟩
     · have:=hv i j hi hj
       simpa [g',id] using this
     · exact (ht i j r t hr ht').mono fz (fun x hx hlt=>⟨⟨hx,hlt⟩,hw x (hs i j x hx).2⟩)
     · show (if S x then some id else _)=some id
       rw [if_pos (hs i j x hx.1).1]
     · simp only [g',id,if_true]
       exact (hs i j x hx.1).2
   · have hj':j < st.ob.length:=by omega
     have ho':=ho
     rw [dX hj'] at ho'
     have hne:j≠id:=he
     refine (h.ob j ob ho').keeps hK ⟨by simp [g',hne],by simp [g',hne],by simp [g',hne]⟩ (fun x hx hlt=>⟨?_,hw x ?_⟩) (fun hn=>?_)
     · show (if S x then some id else g.lab x)=some j
       rw [if_neg (alive _ _ _ hx ho')];exact hx
     · intro hxe;subst hxe
       exact alive _ _ _ hx ho' hSb
     · show (if S _ then some id else g.lab _)≠some j
       split
       · intro hh;cases hh;exact hne rfl
       · exact hn
 · have hx:(if S x then some id else g.lab x)=some i:=hx
   split at hx
   · rename_i hs'
     cases hx
     obtain ⟨j,h1,_⟩:=hS x hs'
     have:=h.lab x j h1
     exact ⟨by rw [hsz];exact this.1,by simp [St.add,id]⟩
   · have:=h.lab x i hx
     exact ⟨by rw [hsz];exact this.1,by simp [St.add];omega⟩
theorem a9k {P:Program} {t tx ty e:TypeId} {i:TypeInfo} (ht:P.underlying t=some (.slice e)) (hi:P.info? e=some i) {b off sLen sCap:Nat} {x:Value} {n:Nat} {news:List Value} (hs:Src P i.size tx x n news w)
 (hroom:sLen+n≤sCap) {cc:Array Value} {ee:TypeId} (hb:w.heap[b]?=some (.cells cc ee (0,0))) (hfit:off+sLen*i.size+news.length≤cc.size) :
 (Builtin.append_ #[t,tx] ty #[.slice (some ⟨b,off,none⟩) sLen sCap,x]).run P w=.ok (.slice (some ⟨b,off,none⟩) (sLen+n) sCap) (w.setRow b (cc.toList.take (off+sLen*i.size)++news++cc.toList.drop (off+sLen*i.size+news.length)).toArray):=by
 have hst:=run_storeCells_at P b (off+sLen*i.size) ee news 0 cc w hb (by simpa using hfit) hs.one
 simp only [Nat.add_zero] at hst
 rcases hs.kind with ⟨e',hk⟩ | hk <;> simp [Builtin.append_,run_underlying ht,run_underlying hk,sizeOf,typeInfo,hi,hs.len,hroom,hs.cells,lT,hst]
theorem a2b {α:Type} {xs ys:List α} {p:Nat}:(xs++ys)[p]?=if p < xs.length then xs[p]? else ys[p - xs.length]?:=by
 split
 · rename_i h;rw [List.getElem?_append_left h]
 · rename_i h;rw [List.getElem?_append_right (by omega)]
end Go.Ev
