/- Structs and slices out of parts; stores. -/
import Derived.Test.YtdjlkhhgaaddpaaGreatEvG
set_option linter.unusedSectionVars false
set_option linter.unusedVariables false
set_option linter.unusedSimpArgs false
namespace Go.Ev
open Go
open Classical
variable {E:Env} {w w' w0:World} {A0:Fix} {g g':Gh} {st st':St} {N:Nat} {pv:List Value} {a:Act}
theorem b1w (off:Nat):∀(vs:List Value) (n:Nat) (cs:Array Value),off+n+vs.length≤cs.size →
 ((vs.zipIdx n).foldl (fun cs (x:Value×Nat)=>cs.setIfInBounds (off+x.2) x.1) cs).size=cs.size ∧
 ∀p,((vs.zipIdx n).foldl (fun cs (x:Value×Nat)=>cs.setIfInBounds (off+x.2) x.1) cs)[p]?=if off+n≤p∧p < off+n+vs.length then vs[p - off - n]? else cs[p]?
 | [],n,cs,h=>by
   simp
   intro p h1 h2;omega
 | v :: vs,n,cs,h=>by
   simp only [List.zipIdx_cons,List.foldl_cons]
   have h':off+(n+1)+vs.length≤(cs.setIfInBounds (off+n) v).size:=by simp;simp at h;omega
   obtain ⟨h1,h2⟩:=b1w off vs (n+1) (cs.setIfInBounds (off+n) v) h'
   refine ⟨by rw [h1];simp,fun p=>?_⟩
   rw [h2 p]
   simp only [List.length_cons] at h ⊢
   by_cases hp:p=off+n
   · subst hp
     rw [if_neg (by omega),if_pos (by omega)]
     have:off+n - off - n=0:=by omega
     rw [this]
     simp [show off+n < cs.size by omega]
   · by_cases hq:off+(n+1)≤p∧p < off+(n+1)+vs.length
     · rw [if_pos hq,if_pos (by omega)]
       have:p - off - n=(p - off - (n+1))+1:=by omega
       rw [this];simp
     · rw [if_neg hq,if_neg (by omega)]
       rw [Array.getElem?_setIfInBounds,if_neg (by omega)]
theorem b6g {place:Nat→Option (Nat×Nat)} {cells:Array Value} {i off sz:Nat} {v:Value} {rest:List (Nat×Value)} (hp:place i=some (off,sz)) (hs:v.cells.size=sz) (hb:off+sz≤cells.size) :
 ∃cells',Instr.fill place cells ((i,v) :: rest)=Instr.fill place cells' rest∧cells'.size=cells.size∧∀p,cells'[p]?=if off≤p∧p < off+sz then v.cells[p - off]? else cells[p]?:=by
 obtain ⟨h1,h2⟩:=b1w off v.cells.toList 0 cells (by simp [hs];omega)
 refine ⟨_,?_,h1,fun p=>?_⟩
 · rw [Instr.fill]
   simp only [hp]
   rw [if_neg (by simp [hs];omega)]
   congr 1
   have hz:v.cells.zipIdx.toList=v.cells.toList.zipIdx:=by simp
   rw [←hz,Array.foldl_toList]
 · rw [h2 p]
   simp [hs]
theorem uR {row cs:List T} {off:Nat} (h:off+cs.length≤row.length) (p:Nat):(eC row off cs)[p]?=if off≤p∧p < off+cs.length then cs[p - off]? else row[p]?:=by
 rw [a0c]
 have h1:(row.take off).length=off:=by simp;omega
 by_cases hp:p < off
 · rw [if_neg (by omega),List.append_assoc,List.getElem?_append_left (by omega),List.getElem?_take,if_pos hp]
 · by_cases hq:p < off+cs.length
   · rw [if_pos (by omega),List.append_assoc,List.getElem?_append_right (by omega),h1,List.getElem?_append_left (by omega)]
   · rw [if_neg (by omega),List.getElem?_append_right (by simp;omega),List.getElem?_drop]
     congr 1
     simp;omega
theorem uQ {row cs:List T} {off:Nat} (h:off+cs.length≤row.length):(eC row off cs).length=row.length:=by
 simp [a0c];omega
theorem a1b {ti:TI} {K:List T→Prop} (h:RepSt w g st N pv a):∀(parts:List (Nat×Operand)) (row:List T) (cells:Array Value),rO w g st row cells→wF ti row (a3k st parts) K →
 ∃row' cells',K row'∧Instr.fill (fun x=>(ti.offs.zip ti.fsz)[x]?) cells (parts.map fun p=>(p.1,a.eval p.2))=some cells'∧rO w g st row' cells'
 | [],row,cells,hr,hK=>⟨row,cells,hK,by simp [Instr.fill],hr⟩
 | (i,x) :: parts,row,cells,hr,hK=>by
   simp only [a3k,wF] at hK
   split at hK
   rotate_left
   · exact hK.elim
   rename_i cs hcs
   obtain ⟨h1,hK⟩:=hK.get
   simp only [Bool.and_eq_true,Nat.beq_eq,Nat.blt_eq,Nat.ble_eq] at h1
   obtain ⟨h1,h2,h3,h4⟩:=h1
   obtain ⟨q1,q2⟩:=uT hcs (jM h x)
   have hp:(ti.offs.zip ti.fsz)[i]?=some (ti.offs.getD i 0,ti.fsz.getD i 0):=by
    rw [List.getElem?_zip_eq_some]
    simp [h2,h3]
   obtain ⟨cells',e1,e2,e3⟩:=b6g (place:=fun x=>(ti.offs.zip ti.fsz)[x]?) (cells:=cells) (rest:=parts.map fun p=>(p.1,a.eval p.2)) hp (by rw [q1,h1]) (by rw [←h1,hr.1];exact h4)
   have hr':rO w g st (eC row (ti.offs.getD i 0) cs) cells':=by
    refine ⟨by rw [e2,hr.1,uQ h4],fun j t u hj hu=>?_⟩
    rw [uR h4] at hj
    rw [e3,←h1] at hu
    split at hj
    · rename_i hc
      rw [if_pos hc] at hu
      exact q2 _ t u hj hu
    · rename_i hc
      rw [if_neg hc] at hu
      exact hr.2 j t u hj hu
   obtain ⟨row',cells'',k1,k2,k3⟩:=a1b h parts _ cells' hr' (by rw [yU] at hK;exact hK)
   exact ⟨row',cells'',k1,by rw [List.map_cons,e1,k2],k3⟩
theorem c9o (hE:EnvOk E) (h:RepSt w g st N pv a) (hF:Fr w0 A0 w g) {t:TypeId} {parts:Array (Nat×Operand)} {ty:TypeId} {K:St→AV→Prop} {F:Nat→List AV→Out→Prop} {o:Oper} (ho:o.op=.build t parts)
 (hK:opS E F (.build t parts) ty st K):SOk E w0 A0 N pv a (execOp a.eval o) w K:=by
 simp only [opS] at hK
 unfold Env.ti at hK
 split at hK
 rotate_left
 · exact hK.elim
 rename_i ti hti
 obtain ⟨hkind,hK⟩:=hK.get
 have hkind:=Nat.eq_of_beq_eq_true hkind
 have hT:=hE.ti t ti hti
 obtain ⟨fs,hu,hfs,hpl,_⟩:=hT.struct hkind
 obtain ⟨z,hz1,hz2,hz3,hz4⟩:=hT.zero
 obtain ⟨it,hi1,_,_,z',hi2⟩:=hT.info
 have hzz:z'=z:=by
  have:=hz1 w
  simp [zeroValue,typeInfo,hi1,hi2] at this
  exact this
 subst hzz
 have hr0:rO w g st ti.zero z'.cells:=⟨by omega,fun j t u hj hu=>by
  obtain ⟨q1,q2⟩:=hz4 j u t hu hj
  rcases q2 with rfl | ⟨k,rfl,rfl⟩
  · exact ⟨q1,rfl⟩
  · exact ⟨rfl,rfl,none,rfl⟩⟩
 obtain ⟨row',cells',hK,hf,hr⟩:=a1b h parts.toList ti.zero z'.cells hr0 hK
 refine rE h hF hK (v:=.agg cells') ?_ ⟨cells',rfl,by rw [qA];exact hr.1,fun j t u hj hu=>sS _ _ cells'.toList (fun j t u hj hu=>hr.2 j t u hj (by simpa using hu)) j t u hj (by simpa using hu)⟩
 have hb:E.P.built t (parts.map fun (i,x)=>(i,a.eval x)).toList=some cells':=by
  unfold Program.built
  simp only [hi1,hu,hi2,hpl]
  rw [←hf]
  congr 1
  · funext x;simp
  · simp
 have:=run_build w t _ cells' hb
 simp [execOp,ho,this]
theorem b9z {k:Nat}:∀(vs:List Value) (i0:Nat) (parts:List (Nat×Value)) (cells:Array Value),parts.map (·.2)=vs→(∀(i:Nat) p,parts[i]?=some p→p.1=i0+i)→(∀v∈vs,v.cells.size=k)→(i0+vs.length)*k≤cells.size →
 ∃cells',Instr.fill (fun i=>some (i*k,k)) cells parts=some cells'∧cells'.size=cells.size∧(∀p,p < i0*k→cells'[p]?=cells[p]?) ∧
  ∀(i j:Nat) v,vs[i]?=some v→j < k→cells'[(i0+i)*k+j]?=v.cells[j]?
 | [],i0,parts,cells,hp,_,_,_=>by
   have:parts=[]:=by simpa using hp
   subst this
   exact ⟨cells,by simp [Instr.fill],rfl,fun _ _=>rfl,fun i j v h=>by simp at h⟩
 | v :: vs,i0,parts,cells,hp,hi,hk,hsz=>by
   cases parts with
   | nil=>simp at hp
   | cons p parts =>
     simp only [List.map_cons,List.cons.injEq] at hp
     obtain ⟨rfl,hp⟩:=hp
     have h0:p.1=i0:=by simpa using hi 0 p rfl
     have hk0:p.2.cells.size=k:=hk _ (by simp)
     have hmul:(i0+1+vs.length)*k≤cells.size:=by
      have:i0+(p.2 :: vs).length=i0+1+vs.length:=by simp;omega
      rw [this] at hsz;exact hsz
     have hb:i0*k+k≤cells.size:=by
      have h1:(i0+1)*k≤(i0+1+vs.length)*k:=Nat.mul_le_mul_right k (by omega)
      rw [Nat.add_mul,Nat.one_mul] at h1
      omega
     obtain ⟨c1,e1,e2,e3⟩:=b6g (place:=fun i=>some (i*k,k)) (cells:=cells) (i:=i0) (rest:=parts) rfl hk0 hb
     obtain ⟨c2,f1,f2,f3,f4⟩:=b9z vs (i0+1) parts c1 hp (fun i q hq=>by have:=hi (i+1) q (by simpa using hq);omega) (fun v hv=>hk v (by simp [hv])) (by rw [e2];exact hmul)
     refine ⟨c2,?_,by rw [f2,e2],fun q hq=>?_,fun i j v hv hj=>?_⟩
     · rw [show p=(i0,p.2) by rw [←h0]]
       rw [e1,f1]
     · rw [f3 q (by rw [Nat.add_mul];omega),e3,if_neg (by omega)]
     · cases i with
       | zero =>
         simp at hv
         subst hv
         rw [Nat.add_zero,f3 _ (by rw [Nat.add_mul];omega),e3,if_pos (by omega)]
         congr 1;omega
       | succ i =>
         have:=f4 i j v (by simpa using hv) hj
         rw [show i0+(i+1)=i0+1+i by omega]
         exact this
theorem a7n {z:List T} {k:Nat}:∀(avs:List AV) (vs:List Value) {st st':St} {rows:List (List T)},RepSt w g st N pv a→(∀(i:Nat) av v,avs[i]?=some av→vs[i]?=some v→bL w g st av v)→vs.length=avs.length →
 a2m st z avs=some (rows,st')→(∀r∈rows,r.length=k)→Kills st st'∧rows.length=avs.length∧(∀v∈vs,v.cells.size=k) ∧
  ∃Sub:Nat→Nat→Nat→Prop,(∀(i j:Nat) r t v u,rows[i]?=some r→r[j]?=some t→vs[i]?=some v→v.cells[j]?=some u→Ow w g.A (Sub i j) u t) ∧
   (∀i j i' j' x,Sub i j x→Sub i' j' x→i=i'∧j=j')∧∀i j x,Sub i j x→iZ g st st' x
 | [],vs,st,st',rows,h,hr,hl,hb,hk=>by
   have:vs=[]:=by simpa using hl
   subst this
   cases hb
   exact ⟨.refl st,rfl,by simp,fun _ _ _=>False,fun i j r t v u h=>by simp at h,fun _ _ _ _ _ h=>h.elim,fun _ _ _ h=>h.elim⟩
 | av :: avs,[],st,st',rows,h,hr,hl,hb,hk=>by simp at hl
 | av :: avs,v :: vs,st,st',rows,h,hr,hl,hb,hk=>by
   simp only [a2m] at hb
   split at hb
   rotate_left
   · cases hb
   rename_i cs hcs
   split at hb
   rotate_left
   · cases hb
   rename_i r st1 hx
   split at hb
   rotate_left
   · cases hb
   rename_i rs st2 hrs
   cases hb
   obtain ⟨q1,q2⟩:=uT hcs (hr 0 av v rfl rfl)
   obtain ⟨k1,hlen,Sub0,hO,hd,hS⟩:=pL (us:=v.cells.toList) h hx (by rw [qA];simpa using q1) (fun j t u hj hu=>sS _ _ v.cells.toList (fun j t u hj hu=>q2 j t u hj (by simpa using hu)) j t u hj hu)
   obtain ⟨k2,hlen2,hcs2,Sub,hO2,hd2,hS2⟩:=a7n avs vs (h.kills k1) (fun i av v hi hv=>(hr (i+1) av v (by simpa using hi) (by simpa using hv)).keeps (Keeps.kills k1)) (by simpa using hl) hrs (fun r hr=>hk r (by simp [hr]))
   have hrk:r.length=k:=hk r (by simp)
   have cross:∀i j j' x,Sub i j x→Sub0 j' x→False:=by
    intro i j j' x h1 h2
    obtain ⟨i1,p1,⟨ob,p2⟩,p3⟩:=hS2 _ _ _ h1
    obtain ⟨i2,p4,_,p5⟩:=hS _ _ h2
    rw [p1] at p4;cases p4
    rw [p2] at p5;cases p5
   refine ⟨k1.trans k2,by simp [hlen2],fun u hu=>?_,fun i j=>match i with | 0=>Sub0 j | i+1=>Sub i j,fun i j r' t v' u hi hj hv hu=>?_,fun i j i' j' x hx hx'=>?_,fun i j x hx=>?_⟩
   · rcases List.mem_cons.1 hu with rfl | hu
     · rw [q1,←qA z cs,←hlen];exact hrk
     · exact hcs2 u hu
   · cases i with
     | zero =>
       simp at hi hv
       subst hi hv
       exact hO j t u hj (by simpa using hu)
     | succ i=>exact hO2 i j r' t v' u (by simpa using hi) hj (by simpa using hv) hu
   · cases i with
     | zero =>
       cases i' with
       | zero=>exact ⟨rfl,hd j j' x hx hx'⟩
       | succ i'=>exact (cross _ _ _ _ hx' hx).elim
     | succ i =>
       cases i' with
       | zero=>exact (cross _ _ _ _ hx hx').elim
       | succ i'=>have:=hd2 _ _ _ _ _ hx hx';exact ⟨by omega,this.2⟩
   · cases i with
     | zero=>exact (hS j x hx).mono1 k2
     | succ i=>exact (hS2 i j x hx).mono2 k1
theorem b6j:∀(parts:List (Nat×Operand)) (i:Nat),(a2n st parts)[i]?=(parts[i]?).map fun p=>st.evn p.2
 | [],i=>by simp [a2n]
 | (j,x) :: parts,0=>rfl
 | (j,x) :: parts,i+1=>by simpa [a2n] using b6j parts i
theorem a7r:∀(parts:List (Nat×Operand)),(a2n st parts).length=parts.length
 | []=>rfl
 | (j,x) :: parts=>by simp [a2n,a7r parts]
theorem a8r:∀(parts:List (Nat×Operand)) (j:Nat),a8a j parts=true→∀(i:Nat) p,parts[i]?=some p→p.1=j+i
 | [],j,_,i,p,h=>by simp at h
 | (k,x) :: parts,j,h,i,p,hp=>by
   simp only [a8a,Bool.and_eq_true,beq_iff_eq] at h
   cases i with
   | zero=>simp at hp;subst hp;exact h.1
   | succ i=>have:=a8r parts (j+1) h.2 i p (by simpa using hp);omega
theorem c9w (h:RepSt w g st N pv a) (hF:Fr w0 A0 w g) {cs:Array Value} {e:TypeId} {k:Nat} {rows:List (List T)} (hw:w'.heap=w.heap.push (.cells cs e (0,0))) (hwo:w'.os=w.os) (hwt:w'.tape=w.tape) (hwp:w'.output=w.output)
 {vals:Nat→Nat→Value} (hk:∀r∈rows,r.length=k) {c:Nat} (hc:rows.length≤c) (hln:rows.length≤9223372036854775807) (hv:∀i j,i < rows.length→j < k→cs[i*k+j]?=some (vals i j))
 (ht:∀(i j:Nat) r t,rows[i]?=some r→r[j]?=some t→Fz w' g.A (vals i j) t)
 {K:St→AV→Prop} (hK:K st (.one (.s false k rows))) {s:Sem Next} (hrun:s.run E.P w=.ok (.value (.slice (some ⟨w.heap.size,0,none⟩) rows.length c)) w') :
 SOk E w0 A0 N pv a s w K:=by
 have hold:∀b,b < w.heap.size→w'.heap[b]?=w.heap[b]?:=fun b hb=>by
  rw [hw,Array.getElem?_push,if_neg (by omega)]
 have hsz:w'.heap.size=w.heap.size+1:=by rw [hw];simp
 have hKp:Keeps w g st w' g st:=⟨fun b hb hlt=>⟨hb,hold b hlt⟩,Nat.le_refl _,fun id ob' _ ho=>⟨ob',ho,rfl,rfl,rfl⟩,fun id ob' _ ho ob1 h1=>by
  rw [h1] at ho;cases ho;exact ⟨Nat.le_refl _,fun _ _ hl=>hold _ (h.lab _ _ hl).1⟩,fun _ _ _ _=>⟨rfl,rfl,rfl,fun h=>h⟩⟩
 have hst:RepSt w' g st N pv a:=⟨h.size,h.defers,fun k=>(h.tm k).keeps hKp,fun id ob ho=>(h.ob id ob ho).keeps hKp ⟨rfl,rfl,rfl⟩ (fun x hx hlt=>⟨hx,hold x hlt⟩) (fun hn=>hn),fun b i hb=>⟨by have:=(h.lab b i hb).1;omega,(h.lab b i hb).2⟩,h.pr.1,fun i t u hi hu=>(h.pr.2 i t u hi hu).keeps hKp⟩
 have hA:g.A w.heap.size:=by
  refine ⟨?_,fun hX=>?_⟩
  · cases hl:g.lab w.heap.size with
    | none=>rfl
    | some i=>have:=(h.lab _ i hl).1;omega
  · have:=(hF.x.2 _ (by rw [←hF.x.1];exact hX)).1
    have:=hF.size
    omega
 have hbk:w'.heap[w.heap.size]?=some (.cells cs e (0,0)):=by rw [hw];simp
 refine ⟨st,.one (.s false k rows),hK,_,_,w',g,hrun,.inl rfl,hst,⟨Nat.ble_eq_true_of_le hln,?_⟩,⟨hwo.trans hF.os,hwt.trans hF.tape,hwp.trans hF.output,by have:=hF.size;omega,hF.x,fun b hb hu=>?_,fun b hb=>?_⟩⟩
 · show Fz w' g.A _ (.s false k rows)
   refine .s w.heap.size 0 c false k rows vals hA (by omega) hc (Nat.ble_eq_true_of_le hln) hk (fun i j hi hj=>?_) ht
   have:=hv i j hi hj
   simp [World.cell?,hbk,this]
 · obtain ⟨q1,q2⟩:=hF.blk b hb hu
   exact ⟨(hold b (by have:=hF.size;omega)).trans q1,q2⟩
 · exact (a7o (hold b (by have:=hF.size;omega))).trans (hF.bs b hb)
theorem a4g (hE:EnvOk E) (h:RepSt w g st N pv a) (hF:Fr w0 A0 w g) {t n:Nat} {parts:Array (Nat×Operand)} {ty:TypeId} {K:St→AV→Prop} {F:Nat→List AV→Out→Prop} {o:Oper} (ho:o.op=.buildSlice t n parts)
 (hK:opS E F (.buildSlice t n parts) ty st K):SOk E w0 A0 N pv a (execOp a.eval o) w K∧∃v u,(execOp a.eval o).run E.P w=.ok (.value v) u∧Up w u:=by
 simp only [opS] at hK
 unfold Env.ti at hK
 split at hK
 rotate_left
 · exact hK.elim
 rename_i ti hti
 split at hK
 rotate_left
 · exact hK.elim
 rename_i te hte
 split at hK
 rotate_left
 · exact hK.elim
 rename_i rows st1 hb
 replace hK:=hK.get
 obtain ⟨hkk,hK⟩:=hK
 simp only [Bool.and_eq_true,Nat.beq_eq,Nat.ble_eq,List.all_eq_true] at hkk
 obtain ⟨hkind,hn,hseq,hbig1,hbig2,hrk⟩:=hkk
 have hbig:n*te.size≤16777216∧n≤9223372036854775807:=⟨hbig1,by omega⟩
 have hT:=hE.ti t ti hti
 have hTe:=hE.ti _ te hte
 obtain ⟨hu,_⟩:=hT.slice hkind
 have hsz:=hTe.size
 obtain ⟨z,hz1,hz2,hz3,hz4⟩:=hTe.zero
 let vs:=parts.toList.map fun p=>a.eval p.2
 obtain ⟨k1,hlen,hcs,Sub,hO,hd,hS⟩:=a7n (k:=te.size) (a2n st parts.toList) vs h (fun i av v hi hv=>by
  rw [b6j] at hi
  cases hp:parts.toList[i]? with
  | none=>simp [hp] at hi
  | some p =>
    simp only [hp,Option.map_some,Option.some.injEq] at hi
    subst hi
    have:vs[i]?=some (a.eval p.2):=by simp [vs,List.getElem?_map,hp]
    rw [this] at hv
    cases hv
    exact jM h p.2) (by simp [vs,a7r]) hb hrk
 rw [a7r] at hlen
 have hpn:parts.toList.length=n:=by omega
 have hvl:vs.length=parts.toList.length:=by simp [vs]
 let zero:Array Value:=if n*te.size=0 then #[] else z.cells
 obtain ⟨cells',f1,f2,_,f4⟩:=b9z (k:=te.size) vs 0 (parts.toList.map fun p=>(p.1,a.eval p.2)) ((Array.range (n*te.size)).map fun i=>zero[i % zero.size]!) (by simp [vs,Function.comp_def])
  (fun i p hp=>by
    rw [List.getElem?_map] at hp
    cases hq:parts.toList[i]? with
    | none=>simp [hq] at hp
    | some q =>
      simp only [hq,Option.map_some,Option.some.injEq] at hp
      subst hp
      exact a8r _ 0 hseq i q hq) hcs (by simp [vs];rw [←Array.length_toList,hpn];exact Nat.le_refl _)
 have run:(execOp a.eval o).run E.P w=.ok (.value (.slice (some ⟨w.heap.size,0,none⟩) rows.length n)) { w with heap:=w.heap.push (.cells cells' ti.elem) }:=by
  have hnb:¬(16777216 < n*te.size):=by omega
  have hfill:=f1
  by_cases hz0:n*te.size=0
  · have hzero:zero=#[]:=by simp [zero,hz0]
    rw [hzero] at hfill
    simp [execOp,ho,Instr.buildSlice,run_underlying hu,hsz,hz0,hn]
    simp [hz0] at hfill
    rw [hfill]
    simp [pB]
  · have hzero:zero=z.cells:=by simp [zero,hz0]
    rw [hzero] at hfill
    simp [execOp,ho,Instr.buildSlice,run_underlying hu,hsz,hz0,hnb,hz1,hn]
    rw [hfill]
    simp [pB]
 refine ⟨?_,_,_,run,fun b hb=>by simp [Array.getElem?_push,Nat.ne_of_lt hb]⟩
 have hvals:∀i j,i < rows.length→j < te.size→cells'[i*te.size+j]?=some (((vs[i]?).map fun v=>v.cells.getD j undef).getD undef):=by
  intro i j hi hj
  have hi':i < vs.length:=by omega
  have hv:vs[i]?=some vs[i]:=by simp [hi']
  have hvk:(vs[i]).cells.size=te.size:=hcs _ (List.getElem_mem _)
  have:=f4 i j _ hv hj
  rw [Nat.zero_add] at this
  rw [this,hv]
  simp [Array.getD,hvk,hj]
 have hOw:∀(i j:Nat) r x,rows[i]?=some r→r[j]?=some x→Ow w g.A (Sub i j) (((vs[i]?).map fun v=>v.cells.getD j undef).getD undef) x:=by
  intro i j r x hr hx
  have hi:i < vs.length:=by
   have:=(List.getElem?_eq_some_iff.1 hr).1
   omega
  have hv:vs[i]?=some vs[i]:=by simp [hi]
  have hvk:(vs[i]).cells.size=te.size:=hcs _ (List.getElem_mem _)
  have hj:j < te.size:=by have:=(List.getElem?_eq_some_iff.1 hx).1;rw [hrk r (List.mem_of_getElem? hr)] at this;exact this
  refine hO i j r x _ _ hr hx hv ?_
  rw [hv]
  simp [Array.getD,hvk,hj]
 rcases hK with hK | hK
 · refine a5o (w':={ w with heap:=w.heap.push (.cells cells' ti.elem) }) (cs:=cells') (k:=te.size) (rows:=rows) (c:=n) (S:=fun x=>iZ g st st1 x) (vals:=fun i j=>(((vs[i]?).map fun v=>v.cells.getD j undef).getD undef)) (Sub:=Sub) (h.kills k1) hF rfl rfl rfl rfl
    (fun x hx=>?_) hrk (by omega) (by omega) (by rw [f2];simp) hvals hOw hd hS (hK _ rfl) run
   obtain ⟨i,q1,_,q2⟩:=hx;exact ⟨i,q1,q2⟩
 · obtain ⟨hfl,hK⟩:=hK.get
   simp only [List.all_eq_true] at hfl
   refine c9w (w':={ w with heap:=w.heap.push (.cells cells' ti.elem) }) (cs:=cells') (k:=te.size) (rows:=rows) (c:=n) (vals:=fun i j=>(((vs[i]?).map fun v=>v.cells.getD j undef).getD undef)) (h.kills k1) hF rfl rfl rfl rfl
    hrk (by omega) (by omega) hvals (fun i j r t hr ht=>?_) hK run
   have hv:=hfl r (List.mem_of_getElem? hr) t (List.mem_of_getElem? ht)
   have ho:=hOw i j r t hr ht
   cases t with
   | v x =>
     generalize (((vs[i]?).map fun v=>v.cells.getD j undef).getD undef)=y at ho
     cases ho with
     | v _ _ h1=>exact .v _ h1
   | _=>cases hv
theorem b7o (hE:EnvOk E) (h:RepSt w g st N pv a) (hF:Fr w0 A0 w g) {t n:Nat} {parts:Array (Nat×Operand)} {ty:TypeId} {K:St→AV→Prop} {F:Nat→List AV→Out→Prop} {o:Oper} (ho:o.op=.buildSlice t n parts)
 (hK:opS E F (.buildSlice t n parts) ty st K):SOk E w0 A0 N pv a (execOp a.eval o) w K:=(a4g hE h hF ho hK).1
end Go.Ev
