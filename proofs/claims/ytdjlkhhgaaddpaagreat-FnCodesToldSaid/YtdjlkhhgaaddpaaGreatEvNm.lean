/- Calls that turn one of their arguments in place. -/
import Derived.Test.YtdjlkhhgaaddpaaGreatEvN
set_option linter.unusedSectionVars false
set_option linter.unusedVariables false
set_option linter.unusedSimpArgs false
namespace Go.Ev
open Go
open Classical
variable {E:Env} {w w' w0:World} {A0:Fix} {g g':Gh} {st st':St} {N:Nat} {pv:List Value} {a:Act}
theorem lD.mono' {A A':Nat→Prop} (hA:∀b,A b→A' b) {x:AV} {v:Value} (h:lD w A x v):lD w A' x v:=by
 cases x with
 | one t=>exact Fz.mono (fun b hb _=>⟨hA b hb,rfl⟩) h
 | agg l =>
   obtain ⟨cs,h1,h2,h3⟩:=h
   exact ⟨cs,h1,h2,fun j t u hj hu=>(h3 j t u hj hu).mono (fun b hb _=>⟨hA b hb,rfl⟩)⟩
 | _=>exact h.elim
theorem b5x {m:AV}:∀{j:Nat} {l l':List AV},oC st m j l=some l'→l'[j]?=some m
 | _,[],l',he=>by simp [oC] at he
 | 0,x :: l,l',he=>by
   simp only [oC] at he
   split at he
   · cases he;rfl
   · cases he
 | j+1,x :: l,l',he=>by
   simp only [oC] at he
   split at he
   · rename_i x1 l1 h1 h2
     cases he
     simpa using b5x h2
   · cases he
theorem b1c {x x':AV} (he:kO st x=some x'):(∀l,x'≠.tup l)∧∀r,x'≠.one (.b r):=by
 have hro:∀{t t':T},ro st t=some t'→∀r,t'≠.b r:=by
  intro t t' h r
  cases t with
  | v=>cases h;exact fun e=>by cases e
  | s o k rows=>cases h;exact fun e=>by cases e
  | q=>cases h;exact fun e=>by cases e
  | c g caps=>cases caps <;> simp [ro] at h;subst h;exact fun e=>by cases e
  | n id p ep lo len =>
    simp only [ro] at h
    split at h
    · cases h;exact fun e=>by cases e
    · cases h
  | _=>simp [ro] at h
 cases x with
 | one t =>
   cases t with
   | c g0 caps=>simp only [kO,Option.map_eq_some_iff] at he;obtain ⟨l,_,rfl⟩:=he;exact ⟨fun _ e=>(by cases e),fun _ e=>(by cases e)⟩
   | p id path ep row off =>
     simp only [kO,Option.map_eq_some_iff] at he
     obtain ⟨l,h1,rfl⟩:=he
     refine ⟨fun _ e=>(by cases e),fun r e=>?_⟩
     cases e
     unfold a8b at h1
     split at h1
     · split at h1
       · revert h1
         cases ‹Ob›.box with
         | false=>simp
         | true =>
           simp only [cond_true]
           split
           · intro h1
             rename_i rw0 _ _ _ _ _ _ _
             simp only [Bool.cond_eq_ite] at h1
             split at h1 <;> simp at h1
           · simp
       · cases h1
     · exact hro h1 r rfl
   | v x=>simp only [kO,Option.map_eq_some_iff] at he;obtain ⟨l,h1,rfl⟩:=he;exact ⟨fun _ e=>(by cases e),fun r e=>by cases e;exact hro h1 r rfl⟩
   | s o k rows=>simp only [kO,Option.map_eq_some_iff] at he;obtain ⟨l,h1,rfl⟩:=he;exact ⟨fun _ e=>(by cases e),fun r e=>by cases e;exact hro h1 r rfl⟩
   | n id p ep lo len=>simp only [kO,Option.map_eq_some_iff] at he;obtain ⟨l,h1,rfl⟩:=he;exact ⟨fun _ e=>(by cases e),fun r e=>by cases e;exact hro h1 r rfl⟩
   | q k rows row off=>simp only [kO,Option.map_eq_some_iff] at he;obtain ⟨l,h1,rfl⟩:=he;exact ⟨fun _ e=>(by cases e),fun r e=>by cases e;exact hro h1 r rfl⟩
   | b row=>simp only [kO,Option.map_eq_some_iff] at he;obtain ⟨l,h1,rfl⟩:=he;exact ⟨fun _ e=>(by cases e),fun r e=>by cases e;exact hro h1 r rfl⟩
   | h=>simp only [kO,Option.map_eq_some_iff] at he;obtain ⟨l,h1,rfl⟩:=he;exact ⟨fun _ e=>(by cases e),fun r e=>by cases e;exact hro h1 r rfl⟩
 | agg l=>simp only [kO,Option.map_eq_some_iff] at he;obtain ⟨l',h1,rfl⟩:=he;exact ⟨fun _ e=>(by cases e),fun _ e=>(by cases e)⟩
 | tup l=>simp [kO] at he
 | may _ _=>simp [kO] at he
 | lit _=>simp [kO] at he
 | no=>simp [kO] at he
theorem FzA.plain {x x':AV} (h:FzA x x') (hp:(∀l,x≠.tup l)∧∀r,x≠.one (.b r)):(∀l,x'≠.tup l)∧∀r,x'≠.one (.b r):=by
 cases h with
 | same=>exact hp
 | one h =>
   cases h with
   | same=>exact hp
   | sl=>exact ⟨fun _ e=>(by cases e),fun _ e=>(by cases e)⟩
 | agg h=>exact ⟨fun _ e=>(by cases e),fun _ e=>(by cases e)⟩
def c3k (l:List AV):Prop:=∀x∈l,(∀m,x≠.tup m)∧∀r,x≠.one (.b r)
theorem a6n:∀{l l':List AV},sP st l=some l'→c3k l'
 | [],l',he=>by cases he;exact fun x hx=>by cases hx
 | x :: l,l',he=>by
   simp only [sP] at he
   split at he
   · rename_i x1 l1 h1 h2
     cases he
     intro y hy
     rcases List.mem_cons.1 hy with rfl | hy
     · exact b1c h1
     · exact a6n h2 y hy
   · cases he
theorem FzAs.cons_inv {x:AV} {l l':List AV} (h:FzAs (x :: l) l'):∃x' m,l'=x' :: m∧FzA x x'∧FzAs l m:=by
 cases h with
 | same=>exact ⟨x,l,rfl,.same _,.same _⟩
 | cons h h'=>exact ⟨_,_,rfl,h,h'⟩
theorem fQ.plain {A:Nat→Prop} {lab':Nat→Option Nat} {k:Nat} {x:AV} {l:List AV} {v:Value} {vs:List Value} {os:List AV} {kps:List (List Nat)} (hx:(∀m,x≠.tup m)∧∀r,x≠.one (.b r)) (h:fQ w w' A lab' k (x :: l) (v :: vs) os kps):fQ w w' A lab' k l vs os kps:=by
 cases x with
 | one t =>
   cases t with
   | b r=>exact absurd rfl (hx.2 r)
   | _=>exact h
 | tup m=>exact absurd rfl (hx.1 m)
 | _=>exact h
theorem c6c {m:AV} {v0:Value} {A:Nat→Prop} {lab':Nat→Option Nat} {o:AV} {kps:List (List Nat)}:∀{j:Nat} {l l1 l':List AV} {vs:List Value},oC st (.tup [m]) j l=some l1→FzAs l1 l'→vs[j]?=some v0→fQ w w' A lab' 0 l' vs [o] kps →
 eR w' A (fun b=>lab' b=some 0) o v0
 | _,[],l1,l',vs,he,_,_,_=>by simp [oC] at he
 | j,x :: l,l1,l',[],he,_,hv,_=>by simp at hv
 | 0,x :: l,l1,l',v :: vs,he,hz,hv,h=>by
   simp only [oC] at he
   split at he
   · cases he
     obtain ⟨x',m',rfl,hx,_⟩:=hz.cons_inv
     have:x'=.tup [m]:=by cases hx;rfl
     subst this
     have:v=v0:=by simpa using hv
     subst this
     exact h.1
   · cases he
 | j+1,x :: l,l1,l',v :: vs,he,hz,hv,h=>by
   simp only [oC] at he
   split at he
   · rename_i x1 l2 h1 h2
     cases he
     obtain ⟨x',m',rfl,hx,hz'⟩:=hz.cons_inv
     exact c6c h2 hz' (by simpa using hv) (h.plain (hx.plain (b1c h1)))
   · cases he
end Go.Ev
