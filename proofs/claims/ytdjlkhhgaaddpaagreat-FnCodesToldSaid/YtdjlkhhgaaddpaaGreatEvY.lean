/- What is known of arguments without a word: integers and lengths within bounds. Tables of the library's. -/
import Derived.Test.YtdjlkhhgaaddpaaGreatEvX
set_option linter.unusedSectionVars false
set_option linter.unusedVariables false
set_option linter.unusedSimpArgs false
namespace Go.Ev
open Go
mutual
def c4p:T→Prop
 | .v x=>fit x=true
 | .s _ _ rows=>rows.length≤9223372036854775807∧c4q rows
 | .n _ _ _ _ _=>True
 | .p _ _ _ _ _=>True
 | .q _ _ _ _=>True
 | .b _=>True
 | .c _ _=>True
 | .h=>True
def b9x:List T→Prop
 | []=>True
 | t :: l=>c4p t∧b9x l
def c4q:List (List T)→Prop
 | []=>True
 | r :: l=>b9x r∧c4q l
end
theorem b3z:∀{l:List T},(∀t∈l,c4p t)→b9x l
 | [],_=>trivial
 | t :: l,h=>⟨h t (by simp),b3z fun x hx=>h x (by simp [hx])⟩
theorem b9w:∀{l:List (List T)},(∀r∈l,b9x r)→c4q l
 | [],_=>trivial
 | r :: l,h=>⟨h r (by simp),b9w fun x hx=>h x (by simp [hx])⟩
theorem Fz.fits {w:World} {A:Nat→Prop} {v:Value} {t:T} (h:Fz w A v t):c4p t:=by
 induction h with
 | v x h1=>exact h1
 | h x h1=>exact trivial
 | nil a c o k=>exact ⟨by simp,trivial⟩
 | s b f c o k rows vals hb1 hb hlc hln hk hc ht ih =>
   refine ⟨Nat.le_of_ble_eq_true hln,b9w fun r hr=>b3z fun t ht'=>?_⟩
   obtain ⟨i,hi⟩:=List.getElem?_of_mem hr
   obtain ⟨j,hj⟩:=List.getElem?_of_mem ht'
   exact ih i j r t hi hj
 | q b f k rows row off vals hb1 hb hrr hk hc ht ih=>exact trivial
 | c g caps cvs hl ht ih=>exact trivial
def d6n:AV→Prop
 | .one t=>c4p t
 | .agg l=>b9x l
 | _=>True
def c4r:List AV→Prop
 | []=>True
 | a :: l=>d6n a∧c4r l
theorem lD.fits {w:World} {A:Nat→Prop} {a:AV} {v:Value} (h:lD w A a v):d6n a:=by
 cases a with
 | one t=>exact Fz.fits h
 | agg l =>
   obtain ⟨cs,rfl,h1,h2⟩:=h
   refine b3z fun t ht=>?_
   obtain ⟨j,hj⟩:=List.getElem?_of_mem ht
   have hlt:j < cs.size:=by
    rw [h1];exact (List.getElem?_eq_some_iff.1 hj).1
   exact Fz.fits (h2 j t cs[j] hj (by simp [hlt]))
 | _=>trivial
theorem dN.fits {w:World} {A:Nat→Prop} {lab:Nat→Option Nat}:∀{l:List AV} {vs:List Value} {k:Nat},dN w A lab k l vs→c4r l
 | [],_,_,_=>trivial
 | a :: l,[],k,h=>by
   unfold dN at h
   cases a with
   | one t=>cases t <;> exact h.elim
   | tup m=>rcases m with _ | ⟨x,_ | ⟨y,m⟩⟩ <;> exact h.elim
   | _=>exact h.elim
 | a :: l,v :: vs,k,h=>by
   cases a with
   | one t =>
     cases t with
     | b row=>exact ⟨trivial,dN.fits (k:=k+1) h.2⟩
     | _=>exact ⟨lD.fits h.1,dN.fits h.2⟩
   | tup m =>
     rcases m with _ | ⟨x,_ | ⟨y,m⟩⟩
     · exact ⟨lD.fits h.1,dN.fits h.2⟩
     · exact ⟨trivial,dN.fits (k:=k+1) h.2⟩
     · exact ⟨lD.fits h.1,dN.fits h.2⟩
   | _=>exact ⟨lD.fits h.1,dN.fits h.2⟩
theorem FnOk.fits {P:Program} {f:Nat} {args:List AV} {out:Out} (hf:∃fn,P.funcs[f]?=some fn∧(fn.name == "runtime.NumGoroutine")=false∧fn.body.isSome=true) (h:c4r args→FnOk P f args out):FnOk P f args out :=
 ⟨hf,fun w A lab vals hA hb hl hG=>(h hA.fits).run w A lab vals hA hb hl hG⟩
theorem GOk.no {P:Program} {w:World} {A:Nat→Prop} (h:P.globalNamed "internal/strconv.uint64pow10"=none) (h2:P.globalNamed "strconv.ErrSyntax"=none:=by kernel_rfl) (h3:P.globalNamed "strconv.ErrRange"=none:=by kernel_rfl):GOk P w A:=by
 intro x hx gl hg
 simp only [b7y,List.mem_cons,List.not_mem_nil,or_false] at hx
 rcases hx with rfl | rfl | rfl
 · rw [h] at hg;cases hg
 · rw [h2] at hg;cases hg
 · rw [h3] at hg;cases hg
end Go.Ev
