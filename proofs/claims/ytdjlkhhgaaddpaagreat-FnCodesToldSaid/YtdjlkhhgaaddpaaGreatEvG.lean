/- Slices that are made, written, appended to. -/
import Derived.Test.YtdjlkhhgaaddpaaGreatEvF
set_option linter.unusedSectionVars false
set_option linter.unusedVariables false
set_option linter.unusedSimpArgs false
namespace Go.Ev
open Go
open Classical
variable {E:Env} {w w' w0:World} {A0:Fix} {g g':Gh} {st st':St} {N:Nat} {pv:List Value} {a:Act}
noncomputable def Gh.take (g:Gh) (S:Nat→Prop) (id:Nat):Gh:={ g with lab:=fun x=>if S x then some id else g.lab x }
theorem Keeps.take {S:Nat→Prop} {id:Nat} (hS:∀x,S x→∃i,g.lab x=some i∧st.obj i=none):Keeps w g st w (g.take S id) st:=by
 refine ⟨fun b hb _=>⟨⟨?_,hb.2⟩,rfl⟩,Nat.le_refl _,fun _ ob' _ h=>⟨ob',h,rfl,rfl,rfl⟩,fun _ ob' _ h ob h'=>by rw [h'] at h;cases h;exact ⟨Nat.le_refl _,fun _ _ _=>rfl⟩,fun j ob' _ ho=>⟨rfl,rfl,rfl,fun hl=>?_⟩⟩
 · show (if S b then some id else g.lab b)=none
   rw [if_neg]
   · exact hb.1
   · intro hs
     obtain ⟨i,h1,_⟩:=hS b hs
     have:g.lab b=none:=hb.1
     rw [this] at h1;cases h1
 · show (if S (g.β j) then some id else g.lab (g.β j))=some j
   rw [if_neg]
   · exact hl
   · intro hs
     obtain ⟨i,h1,h2⟩:=hS _ hs
     rw [hl] at h1;cases h1
     rw [ho] at h2;cases h2
theorem RepSt.take (h:RepSt w g st N pv a) {S:Nat→Prop} {id:Nat} (hid:id < st.ob.length) (hS:∀x,S x→∃i,g.lab x=some i∧st.obj i=none) (hb:g.lab (g.β id)=some id):RepSt w (g.take S id) st N pv a:=by
 have hK:=Keeps.take (w:=w) (id:=id) hS
 refine ⟨h.size,h.defers,fun k=>(h.tm k).keeps hK,fun j ob ho=>?_,fun x i hx=>?_,h.pr.1,fun i t u hi hu=>(h.pr.2 i t u hi hu).keeps hK⟩
 · refine (h.ob j ob ho).keeps hK ⟨rfl,rfl,rfl⟩ (fun x hx _=>⟨?_,rfl⟩) (fun hn=>?_)
   · show (if S x then some id else g.lab x)=some j
     rw [if_neg]
     · exact hx
     · intro hs
       obtain ⟨i,h1,h2⟩:=hS x hs
       rw [hx] at h1;cases h1
       rw [ho] at h2;cases h2
   · show (if S (g.β j) then some id else g.lab (g.β j))≠some j
     split
     · rename_i hs
       intro he;cases he
       exact hn hb
     · exact hn
 · have hx:(if S x then some id else g.lab x)=some i:=hx
   split at hx
   · rename_i hs
     cases hx
     obtain ⟨i,h1,_⟩:=hS x hs
     exact ⟨(h.lab x i h1).1,hid⟩
   · exact h.lab x i hx
theorem Fr.take (h:Fr w0 A0 w g) {S:Nat→Prop} {id:Nat} (hS:∀x,S x→∃i,g.lab x=some i):Fr w0 A0 w (g.take S id) :=
 ⟨h.os,h.tape,h.output,h.size,h.x,fun b hb hA=>⟨(h.blk b hb hA).1,by
   show (if S b then some id else g.lab b)=none
   rw [if_neg]
   · exact (h.blk b hb hA).2
   · intro hs
     obtain ⟨i,h1⟩:=hS b hs
     rw [(h.blk b hb hA).2] at h1;cases h1⟩,h.bs⟩
theorem RepSt.turn (h:RepSt w g st N pv a) {id:Nat} {ob ob':Ob} (ho:st.obj id=some ob) (h1:ob'.box=ob.box) (h2:ob'.k=ob.k) (h3:ob'.rows.length=ob.rows.length) (h4:ob.ep≤ob'.ep∧(ob'.ep=ob.ep→ob'.box=true))
 (hl:g.lab (g.β id)=some id) (hw:∀x,x≠g.β id→w'.heap[x]?=w.heap[x]?) (hsz:w'.heap.size=w.heap.size)
 (hob:Keeps w g st w' g { st with ob:=st.ob.set id (some ob') }→fY w' g { st with ob:=st.ob.set id (some ob') } id ob'):RepSt w' g { st with ob:=st.ob.set id (some ob') } N pv a:=by
 have hid:=nF ho
 have hK:Keeps w g st w' g { st with ob:=st.ob.set id (some ob') }:=by
  refine ⟨fun b hb _=>⟨hb,hw b ?_⟩,by simp,fun j ob2 _ hj=>?_,fun j ob2 _ hj ob3 ho3=>?_,fun _ _ _ _=>⟨rfl,rfl,rfl,fun h=>h⟩⟩
  · intro he;subst he
    have:g.lab (g.β id)=none:=hb.1
    rw [this] at hl;cases hl
  · by_cases he:j=id
    · subst he
      rw [kW hid] at hj
      cases hj
      exact ⟨ob,ho,h1,h2,h3⟩
    · rw [qX he] at hj
      exact ⟨ob2,hj,rfl,rfl,rfl⟩
  · by_cases he:j=id
    · subst he
      rw [kW hid] at hj
      cases hj
      rw [ho] at ho3
      cases ho3
      exact ⟨h4.1,fun e1 e2=>by rw [h4.2 e1] at e2;cases e2⟩
    · rw [qX he,ho3] at hj
      cases hj
      refine ⟨Nat.le_refl _,fun _ _ hl2=>hw _ ?_⟩
      intro hxe
      rw [hxe] at hl2
      rw [hl2] at hl
      cases hl
      exact he rfl
 refine ⟨h.size,h.defers,fun k=>(h.tm k).keeps hK,fun j ob2 hj=>?_,fun x i hx=>?_,h.pr.1,fun i t u hi hu=>(h.pr.2 i t u hi hu).keeps hK⟩
 · by_cases he:j=id
   · subst he
     rw [kW hid] at hj
     cases hj
     exact hob hK
   · rw [qX he] at hj
     refine (h.ob j ob2 hj).keeps hK ⟨rfl,rfl,rfl⟩ (fun x hx _=>⟨hx,hw x ?_⟩) (fun hn=>hn)
     intro hxe;subst hxe
     rw [hx] at hl;cases hl;exact he rfl
 · have:=h.lab x i hx
   exact ⟨by rw [hsz];exact this.1,by simpa using this.2⟩
theorem RepSt.addSl (h:RepSt w g st N pv a) {cs:Array Value} {e:TypeId} {k:Nat} {rows:List (List T)} (hw:w'.heap=w.heap.push (.cells cs e (0,0))) {S:Nat→Prop}
 (hS:∀x,S x→∃i,g.lab x=some i∧st.obj i=none) {vals:Nat→Nat→Value} {Sub:Nat→Nat→Nat→Prop}
 (hk:∀r∈rows,r.length=k) (hlen:rows.length*k≤cs.size) (hv:∀i j,i < rows.length→j < k→cs[i*k+j]?=some (vals i j))
 (ht:∀(i j:Nat) r t,rows[i]?=some r→r[j]?=some t→Ow w g.A (Sub i j) (vals i j) t) (hd:∀i j i' j' x,Sub i j x→Sub i' j' x→i=i'∧j=j') (hs:∀i j x,Sub i j x→S x) :
 RepSt w' ((g.new st.ob.length w.heap.size cs.size).take S st.ob.length) (st.add ⟨k,false,rows,0⟩) N pv a:=by
 have hK1:=Keeps.add (n:=cs.size) (ob:=⟨k,false,rows,0⟩) h hw
 have hS':∀x,S x→∃i,(g.new st.ob.length w.heap.size cs.size).lab x=some i∧(st.add ⟨k,false,rows,0⟩).obj i=none:=by
  intro x hx
  obtain ⟨i,h1,h2⟩:=hS x hx
  have hl:=h.lab x i h1
  refine ⟨i,?_,by rw [dX hl.2];exact h2⟩
  show (if x=w.heap.size then some st.ob.length else g.lab x)=some i
  rw [if_neg (by omega)];exact h1
 have hK2:=Keeps.take (w:=w') (id:=st.ob.length) hS'
 have hself:((g.new st.ob.length w.heap.size cs.size).take S st.ob.length).lab w.heap.size=some st.ob.length:=by
  show (if S w.heap.size then some st.ob.length else if w.heap.size=w.heap.size then some st.ob.length else g.lab w.heap.size)=some st.ob.length
  split <;> simp
 have hSlt:∀x,S x→x < w.heap.size:=by
  intro x hx
  obtain ⟨i,h1,_⟩:=hS x hx
  exact (h.lab x i h1).1
 have fzK:∀b,g.A b→b < w.heap.size→((g.new st.ob.length w.heap.size cs.size).take S st.ob.length).A b∧w'.heap[b]?=w.heap[b]?:=by
  intro b hb hlt
  obtain ⟨q1,q2⟩:=hK1.fz b hb hlt
  have hlt':b < w'.heap.size:=by rw [hw];simp;omega
  exact ⟨(hK2.fz b q1 hlt').1,q2⟩
 refine ⟨h.size,h.defers,fun i=>((h.tm i).keeps hK1).keeps hK2,fun j ob ho=>?_,fun x i hx=>?_,h.pr.1,fun i t u hi hu=>((h.pr.2 i t u hi hu).keeps hK1).keeps hK2⟩
 · have hid:=nF ho
   simp only [St.add,List.length_append,List.length_cons,List.length_nil] at hid
   by_cases he:j=st.ob.length
   · subst he
     rw [iJ] at ho
     cases ho
     refine .inr ⟨cs,e,vals,fun i j x=>Sub i j x∧x < w.heap.size,by simp [Gh.take,Gh.new,hw],?_,by simp [Gh.take,Gh.new],by simp [Gh.take,Gh.new];exact hlen,hk,fun i j hi hj=>?_,fun i j r t hr ht'=>?_,fun i j i' j' x hx hx'=>hd i j i' j' x hx.1 hx'.1,fun i j x hx=>⟨?_,?_⟩⟩
     · have e2:((g.new st.ob.length w.heap.size cs.size).take S st.ob.length).β st.ob.length=w.heap.size:=by simp [Gh.take,Gh.new]
       rw [e2]
       exact hself
     · have:=hv i j hi hj
       simpa [Gh.take,Gh.new] using this
     · exact (ht i j r t hr ht').mono fzK (fun x hx hlt=>⟨⟨hx,hlt⟩,nA hw hlt⟩)
     · show (if S x then some st.ob.length else _)=some st.ob.length
       rw [if_pos (hs i j x hx.1)]
     · simp only [Gh.take,Gh.new,if_true]
       omega
   · have hid':j < st.ob.length:=by omega
     have ho':=ho
     rw [dX hid'] at ho'
     have q1:fY w' (g.new st.ob.length w.heap.size cs.size) (st.add ⟨k,false,rows,0⟩) j ob:=by
      refine (h.ob j ob ho').keeps hK1 ⟨by simp [Gh.new,he],by simp [Gh.new,he],by simp [Gh.new,he]⟩ (fun x hx hlt=>⟨?_,nA hw hlt⟩) (fun hx=>?_)
      · show (if x=w.heap.size then some st.ob.length else g.lab x)=some j
        rw [if_neg (by omega)];exact hx
      · show (if g.β j=w.heap.size then some st.ob.length else g.lab (g.β j))≠some j
        split
        · intro hh;cases hh;exact he rfl
        · exact hx
     refine q1.keeps hK2 ⟨rfl,rfl,rfl⟩ (fun x hx _=>⟨?_,rfl⟩) (fun hn=>?_)
     · show (if S x then some st.ob.length else _)=some j
       rw [if_neg]
       · exact hx
       · intro hs'
         obtain ⟨i,h1,h2⟩:=hS' x hs'
         rw [hx] at h1;cases h1
         rw [ho] at h2;cases h2
     · show (if S _ then some st.ob.length else _)≠some j
       split
       · intro hh;cases hh;exact he rfl
       · exact hn
 · have hx:(if S x then some st.ob.length else if x=w.heap.size then some st.ob.length else g.lab x)=some i:=hx
   split at hx
   · rename_i hs'
     cases hx
     have:=hSlt x hs'
     exact ⟨by rw [hw];simp;omega,by simp [St.add]⟩
   · split at hx
     · cases hx;subst_vars;exact ⟨by rw [hw];simp,by simp [St.add]⟩
     · have:=h.lab x i hx
       exact ⟨by rw [hw];simp;omega,by simp [St.add];omega⟩
theorem a5o (h:RepSt w g st N pv a) (hF:Fr w0 A0 w g) {cs:Array Value} {e:TypeId} {k:Nat} {rows:List (List T)} (hw:w'.heap=w.heap.push (.cells cs e (0,0))) (hwo:w'.os=w.os) (hwt:w'.tape=w.tape) (hwp:w'.output=w.output) {S:Nat→Prop}
 (hS:∀x,S x→∃i,g.lab x=some i∧st.obj i=none) {vals:Nat→Nat→Value} {Sub:Nat→Nat→Nat→Prop}
 (hk:∀r∈rows,r.length=k) {c:Nat} (hc:rows.length≤c) (hln:rows.length≤9223372036854775807) (hlen:c*k≤cs.size) (hv:∀i j,i < rows.length→j < k→cs[i*k+j]?=some (vals i j))
 (ht:∀(i j:Nat) r t,rows[i]?=some r→r[j]?=some t→Ow w g.A (Sub i j) (vals i j) t) (hd:∀i j i' j' x,Sub i j x→Sub i' j' x→i=i'∧j=j') (hs:∀i j x,Sub i j x→S x)
 {K:St→AV→Prop} (hK:K (st.add ⟨k,false,rows,0⟩) (.one (.n st.ob.length [] 1 0 rows.length))) {s:Sem Next} (hrun:s.run E.P w=.ok (.value (.slice (some ⟨w.heap.size,0,none⟩) rows.length c)) w') :
 SOk E w0 A0 N pv a s w K:=by
 have hst:=h.addSl hw hS hk (Nat.le_trans (Nat.mul_le_mul_right k hc) hlen) hv ht hd hs
 refine ⟨_,_,hK,_,_,w',_,hrun,.inl rfl,hst,⟨Nat.ble_eq_true_of_le hln,by simp [St.add],fun ob ho=>?_⟩,(hF.add hw hwo hwt hwp).take (fun x hx=>?_)⟩
 · rw [iJ] at ho
   cases ho
   refine ⟨rfl,(fun _=>⟨rfl,rfl⟩),_,c,rfl,hc,by simp,.inr ⟨by simp [Gh.take,Gh.new],?_,by simp [Gh.take,Gh.new];exact hlen⟩⟩
   show (if S _ then some st.ob.length else if _=w.heap.size then some st.ob.length else _)=some st.ob.length
   have:(g.new st.ob.length w.heap.size cs.size).β st.ob.length=w.heap.size:=by simp [Gh.new]
   have e2:((g.new st.ob.length w.heap.size cs.size).take S st.ob.length).β st.ob.length=w.heap.size:=this
   rw [e2]
   split <;> simp
 · obtain ⟨i,h1,_⟩:=hS x hx
   have:=h.lab x i h1
   refine ⟨i,?_⟩
   show (if x=w.heap.size then some st.ob.length else g.lab x)=some i
   rw [if_neg (by omega)];exact h1
theorem c7f {P:Program} {t:Nat} {ti:TI} (hT:TIok P t ti) {z:Value} (hz:∀w,(zeroValue t).run P w=.ok z w) (A S:Nat→Prop):∀(j:Nat) x u,ti.zero[j]?=some x→z.cells[j]?=some u→Ow w A S u x:=by
 obtain ⟨z',h1,h2,h3,h4⟩:=hT.zero
 have:z=z':=by
  have:=hz w;rw [h1 w] at this;injection this with e;exact e.symm
 subst this
 intro j x u hx hu
 obtain ⟨q1,q2⟩:=h4 j u x hu hx
 rcases q2 with rfl | ⟨k,rfl,rfl⟩
 · exact .v _ _ q1
 · exact .nil _ _ _
theorem c6d {i k j:Nat} (hj:j < k):(i*k+j) % k=j:=by
 rw [Nat.add_comm,Nat.add_mul_mod_self_right,Nat.mod_eq_of_lt hj]
theorem b6q {P:Program} {w:World} {t e:TypeId} {n:Int} {kl kc:IntKind} {i:TypeInfo} {sz:Nat} {z:Value} (hu:P.underlying t=some (.slice e)) (hi:P.info? e=some i)
 (hs:∀w,(sizeOf e).run P w=.ok sz w) (hz:∀w,(zeroValue e).run P w=.ok z w) (h0:0≤n) (hb:(i.bytes:Int)*n≤281474976710656) (hm:n≤9223372036854775807) :
 (Instr.makeSlice t (.int kl n) (.int kc n)).run P w=.ok (.slice (some ⟨w.heap.size,0,none⟩) n.toNat n.toNat) { w with heap:=w.heap.push (.cells ((Array.range (n.toNat*sz)).map fun i=>z.cells[i % z.cells.size]!) e) }:=by
 have hwr:IntKind.wrap .i64 n=n:=by
  unfold IntKind.wrap
  simp [IntKind.bits,IntKind.signed]
  omega
 have hnb:¬(281474976710656 < (i.bytes:Int)*n):=by omega
 have hn0:¬n < 0:=by omega
 by_cases hn:n.toNat*sz=0
 · simp [Instr.makeSlice,run_underlying hu,Go.asInt,asIntOf,typeInfo,hi,hwr,hnb,hn0,hs,hn,pB]
   have hr:Array.range 0=#[]:=by simp
   rw [hr];simp
 · simp [Instr.makeSlice,run_underlying hu,Go.asInt,asIntOf,typeInfo,hi,hwr,hnb,hn0,hs,hn,hz,pB]
theorem b9d (hE:EnvOk E) (h:RepSt w g st N pv a) (hF:Fr w0 A0 w g) {t:TypeId} {l c:Operand} {ty:TypeId} {K:St→AV→Prop} {F:Nat→List AV→Out→Prop} {o:Oper} (ho:o.op=.makeSlice t l c)
 (hK:opS E F (.makeSlice t l c) ty st K):SOk E w0 A0 N pv a (execOp a.eval o) w K:=by
 simp only [opS] at hK
 unfold Env.ti at hK
 split at hK
 rotate_left
 · exact hK.elim
 rename_i ti hti
 split at hK
 rotate_left
 · exact hK.elim
 rename_i te hte
 split at hK
 rotate_left
 · exact hK.elim
 rename_i kl n kc n' hl hc
 replace hK:=hK.get
 obtain ⟨hkind,⟨hnn,h0,hb,hm⟩,hK⟩:=hK
 have hkind:=Nat.eq_of_beq_eq_true hkind
 subst hnn
 have hT:=hE.ti t ti hti
 have hTe:=hE.ti _ te hte
 obtain ⟨hu,hsz⟩:=hT.slice hkind
 obtain ⟨z,hz1,hz2,hz3,hz4⟩:=hTe.zero
 obtain ⟨i,hi1,hi2,hi3,_⟩:=hTe.info
 have el:a.eval l=.int kl n:=by have:=iQ h l;rw [hl] at this;exact this.2
 have ec:a.eval c=.int kc n:=by have:=iQ h c;rw [hc] at this;exact this.2
 let cs:Array Value:=(Array.range (n.toNat*te.size)).map fun i=>z.cells[i % z.cells.size]!
 have hlenr:(List.replicate n.toNat te.zero).length=n.toNat:=by simp
 rw [show (List.replicate n.toNat te.zero).length=n.toNat from hlenr] at *
 have run:(execOp a.eval o).run E.P w=.ok (.value (.slice (some ⟨w.heap.size,0,none⟩) n.toNat n.toNat)) { w with heap:=w.heap.push (.cells cs ti.elem) }:=by
  have:=b6q (w:=w) (kl:=kl) (kc:=kc) hu hi1 hTe.size hz1 h0 (by rw [hi2];exact hb) hm
  simp [execOp,ho,el,ec,this,cs]
 refine a5o (w':={ w with heap:=w.heap.push (.cells cs ti.elem) }) (cs:=cs) (k:=te.size) (rows:=List.replicate n.toNat te.zero) (c:=n.toNat) (S:=fun _=>False) (vals:=fun _ j=>z.cells[j]!) (Sub:=fun _ _ _=>False) h hF rfl rfl rfl rfl (fun _ h=>h.elim) (fun r hr=>?_) (by simp) (by simp;omega) (by simp [cs]) (fun i j hi hj=>?_) (fun i j r x hr hx=>?_) (fun _ _ _ _ _ h=>h.elim) (fun _ _ _ h=>h.elim) ?_ ?_
 · have:=List.eq_of_mem_replicate hr;subst this;exact hz3
 · simp only [List.length_replicate] at hi
   have hlt:i*te.size+j < n.toNat*te.size:=by
    have:=Nat.mul_le_mul_right te.size (show i+1≤n.toNat from hi)
    rw [Nat.add_mul] at this;omega
   have hz2':z.cells.size=te.size:=hz2
   simp only [cs,Array.getElem?_map]
   rw [show (Array.range (n.toNat*te.size))[i*te.size+j]?=some (i*te.size+j) by simp [hlt]]
   simp only [Option.map_some,hz2',c6d hj]
 · have hr':r=te.zero:=List.eq_of_mem_replicate (List.mem_of_getElem? hr)
   subst hr'
   have hj:j < z.cells.size:=by have:=(List.getElem?_eq_some_iff.1 hx).1;omega
   refine c7f hTe hz1 _ _ j x _ hx ?_
   simp [getElem!_pos,hj]
 · exact hK _ rfl _ rfl
 · simpa using run
end Go.Ev
