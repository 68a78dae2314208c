/- Insertion by a key, and loops that append. -/
import Derived.Test.YtdjlkhhgaaddpaaGreatEvS
set_option linter.unusedSectionVars false
set_option linter.unusedVariables false
set_option linter.unusedSimpArgs false
namespace Go.Ev
open Go
theorem a2f {α β:Type} (g:α→List β) (N:Nat):∀l:List α,(∀a∈l,(g a).length≤N)→(l.flatMap g).length≤N*l.length
 | [],_=>Nat.zero_le _
 | a :: l,h=>by
   have h1:=h a (by simp)
   have h2:=a2f g N l (fun x hx=>h x (by simp [hx]))
   simp only [List.flatMap_cons,List.length_append,List.length_cons,Nat.mul_succ];omega
theorem lF {σ ρ:Type} {P:σ→Prop} {Q:ρ→Prop} {k:σ→ρ} {l:Fin σ ρ} (h:(∀v,l=.fin v→P v)∧∀r,l=.done r→Q r) (hk:∀v,P v→Q (k v)):Q (Fin.get k l):=by
 cases l with
 | fin v=>exact hk v (h.1 v rfl)
 | done r=>exact h.2 r rfl
theorem cO {σ ρ:Type} {c:Bool} {A B:Step σ ρ} {P:σ→Prop} {Q:ρ→Prop} (hA:(∀v,A=.next v→P v)∧(∀v,A=.stop v→P v)∧∀r,A=.done r→Q r) (hB:(∀v,B=.next v→P v)∧(∀v,B=.stop v→P v)∧∀r,B=.done r→Q r) :
 (∀v,(bif c then A else B)=.next v→P v)∧(∀v,(bif c then A else B)=.stop v→P v)∧∀r,(bif c then A else B)=.done r→Q r:=by
 cases c
 · exact hB
 · exact hA
theorem dD {σ ρ:Type} {P:σ→Prop} {Q:ρ→Prop} {s:σ} (h:P s):(∀v,(Step.next s:Step σ ρ)=.next v→P v)∧(∀v,(Step.next s:Step σ ρ)=.stop v→P v)∧∀r,(Step.next s:Step σ ρ)=.done r→Q r :=
 ⟨fun v e=>by cases e;exact h,fun v e=>(by cases e),fun r e=>(by cases e)⟩
theorem rC {σ ρ:Type} {P:σ→Prop} {Q:ρ→Prop} {s:σ} (h:P s):(∀v,(Step.stop s:Step σ ρ)=.next v→P v)∧(∀v,(Step.stop s:Step σ ρ)=.stop v→P v)∧∀r,(Step.stop s:Step σ ρ)=.done r→Q r :=
 ⟨fun v e=>(by cases e),fun v e=>by cases e;exact h,fun r e=>(by cases e)⟩
theorem nD {α β ρ:Type} {b:Nat→List β→α→Step (List β) ρ} (g:α→List β) (hb:∀i s a,b i s a=.next (s++g a)):∀(l:List α) (i:Nat) (s:List β),aJ b i s l=.fin (s++l.flatMap g)
 | [],i,s=>by simp [aJ]
 | a :: l,i,s=>by
   unfold aJ
   rw [hb]
   simp only
   rw [nD g hb l (i+1) _]
   simp
theorem eY {a b:Int} (ha:0≤a) (hb:0≤b) (h:a+b≤4611686018427387904):IntKind.i64.wrap (wW .u64 (IntKind.u64.wrap (a+b)) 1)=(a+b) / 2:=by
 have:=eS ha hb h
 rw [wrap_small (n:=a+b) (by omega) (by omega)] at this
 exact this
theorem fP {a b:Int} (ha:0≤a) (hb:0≤b) (h:a+b≤4611686018427387904):IntKind.i64.wrap (Int.fdiv (IntKind.u64.wrap (a+b)) (2 ^ (min 1 IntKind.u64.bits)))=(a+b) / 2:=eY ha hb h
theorem fO {a b:Int} (ha:0≤a) (hb:0≤b) (h:a+b≤4611686018427387904):IntKind.i64.wrap (Int.fdiv (IntKind.u64.wrap (a+b)) (2 ^ (min (Int.toNat 1) IntKind.u64.bits)))=(a+b) / 2:=eY ha hb h
section
variable {α:Type} [Inhabited α] (key:α→Int)
end
theorem b5y {α σ ρ:Type} {b:Nat→σ→α→Step σ ρ} {P:Nat→σ→Prop} {R:σ→Prop} {Q:ρ→Prop} {l0:List α} (h:∀i s (hi:i < l0.length),P i s→(∀v,b i s l0[i]=.next v→P (i+1) v)∧(∀v,b i s l0[i]=.stop v→R v)∧∀r,b i s l0[i]=.done r→Q r) (hf:∀s,P l0.length s→R s) :
 ∀(l:List α) (i:Nat) (s:σ),i≤l0.length→l0.drop i=l→P i s→(∀v,aJ b i s l=.fin v→R v)∧∀r,aJ b i s l=.done r→Q r
 | [],i,s,hi,hl,hs=>by
   have:i=l0.length:=by have:=congrArg List.length hl;simp at this;omega
   subst this
   exact ⟨fun v e=>by cases e;exact hf s hs,fun r e=>by cases e⟩
 | a :: l,i,s,hi,hl,hs=>by
   have hlt:i < l0.length:=by have:=congrArg List.length hl;simp at this;omega
   rw [List.drop_eq_getElem_cons hlt] at hl
   have ha:=(List.cons.inj hl).1
   have hl2:=(List.cons.inj hl).2
   subst ha
   obtain ⟨h1,h2,h3⟩:=h i s hlt hs
   unfold aJ
   cases hb:b i s l0[i] with
   | next v=>exact b5y h hf l (i+1) v hlt hl2 (h1 v hb)
   | stop v=>exact ⟨fun u e=>by cases e;exact h2 v hb,fun r e=>by cases e⟩
   | done r=>exact ⟨fun u e=>(by cases e),fun r' e=>by cases e;exact h3 r hb⟩
theorem nK {α σ ρ:Type} {b:Nat→σ→α→Step σ ρ} {P:Nat→σ→Prop} {R:σ→Prop} {Q:ρ→Prop} {l:List α} {s:σ} (h0:P 0 s) (h:∀i s (hi:i < l.length),P i s→(∀v,b i s l[i]=.next v→P (i+1) v)∧(∀v,b i s l[i]=.stop v→R v)∧∀r,b i s l[i]=.done r→Q r) (hf:∀s,P l.length s→R s) :
 (∀v,aJ b 0 s l=.fin v→R v)∧∀r,aJ b 0 s l=.done r→Q r:=b5y h hf l 0 s (Nat.zero_le _) rfl h0
theorem fV {σ ρ:Type} {P:σ→Prop} {Q:ρ→Prop} {r:ρ} (h:Q r):(∀v,(Step.done r:Step σ ρ)=.next v→P v)∧(∀v,(Step.done r:Step σ ρ)=.stop v→P v)∧∀r',(Step.done r:Step σ ρ)=.done r'→Q r' :=
 ⟨fun v e=>(by cases e),fun v e=>(by cases e),fun r' e=>by cases e;exact h⟩
theorem bdS.take {α:Type} {f:Nat→α→Prop} {n:Nat} {l:List α} (h:bdS f n l) (k:Nat):bdS f n (l.take k):=⟨by have:=h.1;simp;omega,fun x hx=>h.2 x (List.mem_of_mem_take hx)⟩
theorem bdS.drop {α:Type} {f:Nat→α→Prop} {n:Nat} {l:List α} (h:bdS f n l) (k:Nat):bdS f n (l.drop k):=⟨by have:=h.1;simp;omega,fun x hx=>h.2 x (List.mem_of_mem_drop hx)⟩
theorem bdS.mono {α:Type} {f:Nat→α→Prop} {n m:Nat} {l:List α} (h:bdS f n l) (hm:n≤m) (hf:∀x,f n x→f m x):bdS f m l:=⟨Nat.le_trans h.1 hm,fun x hx=>hf x (h.2 x hx)⟩
end Go.Ev
