/- Regions that draw their order: what has one answer is taken first; then one by one; a tail behind. -/
import Derived.Test.YtdjlkhhgaaddpaaGreatEvP
set_option linter.unusedSectionVars false
set_option linter.unusedVariables false
set_option linter.unusedSimpArgs false
namespace Go.Ev
open Go
section
variable {P:Program} {ops:Array Oper} {md:Region.Mode} {G:World→World→Prop} {S:World→Prop}
def mW (P:Program) (ops:Array Oper) (G:World→World→Prop) (S:World→Prop) (o:Oper) (v:Value) (a:Act):Prop :=
 (Region.wanted o (yielded ops a.tmps)=true∧∀w,S w→o.quietAt P a (fun w'=>G w w'∧S w') w v)∨(Region.wanted o (yielded ops a.tmps)=false∧v=undef)
theorem mW.of_same {o:Oper} {v:Value} {a a':Act} (hy:mW P ops G S o v a) (he:execOp a'.eval o=execOp a.eval o)
 (hw:Region.wanted o (yielded ops a'.tmps)=Region.wanted o (yielded ops a.tmps)):mW P ops G S o v a':=by
 unfold mW Oper.quietAt at *
 rw [he,hw]
 exact hy
theorem mW.wpOp {Q:Exit→Act→World→Prop} {i:Nat} {o:Oper} {v:Value} {a:Act} (hi:ops[i]?=some o) (hy:mW P ops G S o v a) (Gr:∀w,G w w)
 {K:Act→World→Prop} {w:World} (hS:S w) (h:∀w',G w w'→S w'→K (a.put o.dst v) w'):wpOp P ops Q i K a w:=by
 unfold Go.wpOp
 rw [hi]
 simp only
 rcases hy with ⟨hw,hv⟩ | ⟨hw,rfl⟩
 rotate_left
 · rw [if_neg (by rw [hw];simp)]
   exact h _ (Gr _) hS
 rw [if_pos hw]
 refine .inl ?_
 have hv:=hv w hS
 unfold Oper.quietAt at hv
 unfold Oper.wp
 generalize (execOp a.eval o).run P w=r at hv ⊢
 cases r with
 | ok n w' =>
   cases n with
   | value u=>obtain ⟨rfl,rfl⟩:=hv;exact h _ (Gr _) hS
   | skip=>obtain ⟨rfl,rfl⟩:=hv;exact h _ (Gr _) hS
   | enter f args =>
     obtain ⟨rfl,hc⟩:=hv
     rw [Oper.upon_enter]
     refine hc.mono ?_
     rintro e w2 ⟨rfl,hG,hS2⟩
     exact h _ hG hS2
   | _=>exact hv.elim
 | halt x w'=>exact hv.elim
theorem a6e {Q:Exit→Act→World→Prop} {j:Nat} {oi oj:Oper} {v:Value} (hj:ops[j]?=some oj) (hap:oi.apart ops oj=true)
 (hsi:∀cs b,oi.op≠.select cs b) (hsj:∀cs b,oj.op≠.select cs b)
 (hQ:∀c a w,Q (.panic c) (a.put oi.dst v) w→Q (.panic c) a w) {K:Act→World→Prop} {a:Act} {w:World}
 (hy:mW P ops G S oi v a) (h:wpOp P ops Q j K (a.put oi.dst v) w) :
 wpOp P ops Q j (fun a' w'=>mW P ops G S oi v a'∧K (a'.put oi.dst v) w') a w:=by
 obtain ⟨h1,h2,h3⟩:=Oper.apart_spec hap
 have keep:∀(a:Act),mW P ops G S oi v a→∀u,mW P ops G S oi v (a.put oj.dst u):=fun a hy u =>
  hy.of_same (execOp_put oi hsi a oj.dst u h3) (wanted_put oi a oj.dst u h3)
 have keepD:∀d,mW P ops G S oi v { a with defers:=d :: a.defers }:=fun d=>hy.of_same rfl rfl
 unfold Go.wpOp at *
 simp only [hj] at *
 rw [wanted_put oj a oi.dst v h1] at h
 split
 · rename_i hw
   simp only [hw,if_true] at h
   rcases h with h | ⟨hasks,hlets⟩
   case inr=>exact .inr ⟨by unfold Oper.asks at *;rw [execOp_put oj hsj a oi.dst v h1] at hasks;exact hasks,hlets⟩
   refine .inl ?_
   unfold Oper.wp at *
   rw [execOp_put oj hsj a oi.dst v h1] at h
   generalize (execOp a.eval oj).run P w=r at *
   cases r with
   | ok n w' =>
     cases n <;> simp only [Oper.upon] at h ⊢
     case value u=>exact ⟨keep a hy u,by rw [←Act.put_comm a v u h2];exact h⟩
     case skip=>exact ⟨keep a hy _,by rw [←Act.put_comm a v undef h2];exact h⟩
     case defer d =>
      refine ⟨keep _ (keepD d) _,?_⟩
      rw [←Act.put_comm _ v undef h2,←Act.put_defers]
      exact h
     case enter f args =>
      refine Calls.mono h fun e w'' he=>?_
      cases e with
      | returned u=>exact ⟨keep a hy u,by rw [←Act.put_comm a v u h2];exact he⟩
      | panicked c=>exact hQ _ _ _ he
      | outgrown=>exact he
     case row row args=>exact Rows.mono h fun u w'' he=>⟨keep a hy u,by rw [←Act.put_comm a v u h2];exact he⟩
   | halt x w' =>
     cases x <;> simp only [Oper.upon] at h ⊢
     case panic u=>exact hQ _ _ _ h
 · rename_i hw
   simp only [hw] at h
   exact ⟨keep a hy _,by rw [←Act.put_comm a v undef h2];exact h⟩
def mE (P:Program) (md:Region.Mode) (ops:Array Oper) (Q:Exit→Act→World→Prop) (n:Nat) (G:World→World→Prop) (S:World→Prop) (T:Array Bool→Act→World→Prop):Nat→Array Bool→Act→World→Prop
 | 0,listed,a,w=>∀w',G w w'→S w'→T listed a w'
 | f+1,listed,a,w=>∀w',G w w'→S w'→Region.ready md ops listed≠[]∧∀i∈Region.ready md ops listed,i < n∧wpOp P ops Q i (fun a' w1=>S w1∧mE P md ops Q n G S T f (listed.setIfInBounds i true) a' w1) a w'
variable {Q:Exit→Act→World→Prop} {n:Nat} {T:Array Bool→Act→World→Prop}
theorem mE.grow (Gt:∀a b c,G a b→G b c→G a c):∀{f:Nat} {listed:Array Bool} {a:Act} {w w':World},G w w'→mE P md ops Q n G S T f listed a w→mE P md ops Q n G S T f listed a w'
 | 0,_,_,_,_,hG,h=>fun w2 h2 hS=>h w2 (Gt _ _ _ hG h2) hS
 | f+1,_,_,_,_,hG,h=>fun w2 h2 hS=>h w2 (Gt _ _ _ hG h2) hS
theorem b0s {g:Nat} (Gr:∀w,G w w) (hT:∀listed a w,T listed a w→wpAny P md ops Q g listed a w) :
 ∀(f:Nat) (listed:Array Bool) (a:Act) (w:World),S w→mE P md ops Q n G S T f listed a w→wpAny P md ops Q (f+g) listed a w
 | 0,listed,a,w,hS,h=>by rw [Nat.zero_add];exact hT _ _ _ (h w (Gr w) hS)
 | f+1,listed,a,w,hS,h=>by
   rw [show f+1+g=(f+g)+1 by omega]
   have h:=h w (Gr w) hS
   exact ⟨fun h0=>absurd h0 h.1,fun i hi=>wpOp_mono (fun a' w' h'=>b0s Gr hT f _ a' w' h'.1 h'.2) (h.2 i hi).2⟩
theorem b0t {i f:Nat} {listed:Array Bool} {a:Act} {w:World} (hr:Region.ready md ops listed=[i]) (hin:i < n)
 (h:∀w',G w w'→S w'→wpOp P ops Q i (fun a' w1=>S w1∧mE P md ops Q n G S T f (listed.setIfInBounds i true) a' w1) a w'):mE P md ops Q n G S T (f+1) listed a w:=by
 intro w' hG hS
 rw [hr]
 refine ⟨by simp,fun j hj=>?_⟩
 obtain rfl:=List.mem_singleton.1 hj
 exact ⟨hin,h w' hG hS⟩
end
open Classical
variable {E:Env} {w w' w0:World} {A0:Fix} {g g':Gh} {st st':St} {N:Nat} {pv:List Value} {a:Act}
theorem c2l {E:Env} {w:World} {a:Act} {ops:Array Oper} {Q:Exit→Act→World→Prop} {i:Nat} {K:Act→World→Prop} {o:Oper} (hi:ops[i]?=some o) (hw:Region.wanted o (yielded ops a.tmps)=true)
 (h:o.wp E.P a w K Q):wpOp E.P ops Q i K a w:=by
 unfold Go.wpOp
 rw [hi]
 simp only
 rw [if_pos hw]
 exact .inl h
theorem b3e (hE:EnvOk E) (h:RepSt w g st N pv a) {t:TypeId} {parts:Array (Nat×Operand)} {K:AV→Prop} {o:Oper} (ho:o.op=.build t parts)
 (hK:E.ti t fun ti=>Tr (Nat.beq ti.kind 1) <| wF ti ti.zero (a3k st parts.toList) fun cs=>K (.agg (oB ti.zero cs))) :
 ∃x v,K x∧(∀w',(execOp a.eval o).run E.P w'=.ok (.value v) w')∧bL w g st x v:=by
 unfold Env.ti at hK
 split at hK
 rotate_left
 · exact hK.elim
 rename_i ti hti
 obtain ⟨hkind,hK⟩:=hK.get
 have hkind:=Nat.eq_of_beq_eq_true hkind
 have hT:=hE.ti t ti hti
 obtain ⟨fs,hu,hfs,hpl,_⟩:=hT.struct hkind
 obtain ⟨z,hz1,hz2,hz3,hz4⟩:=hT.zero
 obtain ⟨it,hi1,_,_,z',hi2⟩:=hT.info
 have hzz:z'=z:=by
  have:=hz1 w
  simp [zeroValue,typeInfo,hi1,hi2] at this
  exact this
 subst hzz
 have hr0:rO w g st ti.zero z'.cells:=⟨by omega,fun j t u hj hu=>by
  obtain ⟨q1,q2⟩:=hz4 j u t hu hj
  rcases q2 with rfl | ⟨k,rfl,rfl⟩
  · exact ⟨q1,rfl⟩
  · exact ⟨rfl,rfl,none,rfl⟩⟩
 obtain ⟨row',cells',hK,hf,hr⟩:=a1b h parts.toList ti.zero z'.cells hr0 hK
 refine ⟨_,.agg cells',hK,fun w'=>?_,⟨cells',rfl,by rw [qA];exact hr.1,fun j t u hj hu=>sS _ _ cells'.toList (fun j t u hj hu=>hr.2 j t u hj (by simpa using hu)) j t u hj (by simpa using hu)⟩⟩
 have hb:E.P.built t (parts.map fun (i,x)=>(i,a.eval x)).toList=some cells':=by
  unfold Program.built
  simp only [hi1,hu,hi2,hpl]
  rw [←hf]
  congr 1
  · funext x;simp
  · simp
 have:=run_build w' t _ cells' hb
 simp [execOp,ho,this]
theorem c9t (hE:EnvOk E) {t:TypeId} {ti:TI} (hti:E.tab t=some ti) {o:Oper} (ho:o.op=.alloc t) {nx:Next} (hrun:(execOp a.eval o).run E.P w=.ok nx w'):Up w w':=by
 obtain ⟨z,h1,_⟩:=(hE.ti t ti hti).zero
 have:(execOp a.eval o).run E.P w=.ok (.value (.pointer (some ⟨w.heap.size,0,none⟩))) { w with heap:=w.heap.push (.cells z.cells t) }:=by
  simp [execOp,ho,Instr.alloc,h1,newVar,pB]
 rw [this] at hrun
 cases hrun
 intro b hb
 simp [Array.getElem?_push,Nat.ne_of_lt hb]
theorem Fr.cls (h:Fr w0 A0 w g) (hc:Cls w w'):Fr w0 A0 w' g:=by
 refine ⟨hc.1.trans h.os,hc.2.1.trans h.tape,hc.2.2.1.trans h.output,Nat.le_trans h.size hc.2.2.2.1,h.x,fun b hb hA=>?_,fun b hb=>(a7o (hc.2.2.2.2 b (Nat.lt_of_lt_of_le hb h.size))).trans (h.bs b hb)⟩
 obtain ⟨p1,p2⟩:=h.blk b hb hA
 exact ⟨(hc.2.2.2.2 b (Nat.lt_of_lt_of_le hb h.size)).trans p1,p2⟩
theorem Cls.refl (w:World):Cls w w:=⟨rfl,rfl,rfl,Nat.le_refl _,.refl w⟩
theorem Cls.trans {a b c:World} (h:Cls a b) (k:Cls b c):Cls a c :=
 ⟨k.1.trans h.1,k.2.1.trans h.2.1,k.2.2.1.trans h.2.2.1,Nat.le_trans h.2.2.2.1 k.2.2.2.1,fun x hx=>(k.2.2.2.2 x (Nat.lt_of_lt_of_le hx h.2.2.2.1)).trans (h.2.2.2.2 x hx)⟩
def Sx (u:World):World→Prop:=fun w=>Up u w∧u.heap.size≤w.heap.size
theorem Sx.cls {u w w':World} (h:Sx u w) (k:Cls w w'):Sx u w':=⟨fun x hx=>(k.2.2.2.2 x (Nat.lt_of_lt_of_le hx h.2)).trans (h.1 x hx),Nat.le_trans h.2 k.2.2.2.1⟩
end Go.Ev
