/- What is known of arguments without a word: integers and lengths within bounds. Tables of the library's. -/
import Derived.Test.YtdjlkhhgaaddpaaGreatDoorEvX
set_option linter.unusedSectionVars false
set_option linter.unusedVariables false
set_option linter.unusedSimpArgs false
namespace Go.Ev
open Go
mutual
def fitT:T→Prop
 | .v x=>fit x=true
 | .s _ _ rows=>rows.length≤9223372036854775807∧fitLL rows
 | .n _ _ _ _ _=>True
 | .p _ _ _ _ _=>True
 | .q _ _ _ _=>True
 | .b _=>True
 | .c _ _=>True
 | .h=>True
def fitL:List T→Prop
 | []=>True
 | t :: l=>fitT t∧fitL l
def fitLL:List (List T)→Prop
 | []=>True
 | r :: l=>fitL r∧fitLL l
end
theorem fitL_of:∀{l:List T},(∀t∈l,fitT t)→fitL l
 | [],_=>trivial
 | t :: l,h=>⟨h t (by simp),fitL_of fun x hx=>h x (by simp [hx])⟩
theorem fitLL_of:∀{l:List (List T)},(∀r∈l,fitL r)→fitLL l
 | [],_=>trivial
 | r :: l,h=>⟨h r (by simp),fitLL_of fun x hx=>h x (by simp [hx])⟩
theorem fitLL_mem:∀{l:List (List T)},fitLL l→∀t∈l,fitL t
 | t :: l,h,x,hx=>by
   rcases List.mem_cons.1 hx with rfl | hx
   · exact h.1
   · exact fitLL_mem h.2 x hx
theorem fitLL_map {α:Type} {f:α→List T} {l:List α} (h:fitLL (l.map f)):∀x∈l,fitL (f x):=fun x hx=>fitLL_mem h _ (List.mem_map_of_mem hx)
theorem Fz.fits {w:World} {A:Nat→Prop} {v:Value} {t:T} (h:Fz w A v t):fitT t:=by
 induction h with
 | v x h1=>exact h1
 | h x h1=>exact trivial
 | nil a c o k=>exact ⟨by simp,trivial⟩
 | s b f c o k rows vals hb1 hb hlc hln hk hc ht ih =>
   refine ⟨Nat.le_of_ble_eq_true hln,fitLL_of fun r hr=>fitL_of fun t ht'=>?_⟩
   obtain ⟨i,hi⟩:=List.getElem?_of_mem hr
   obtain ⟨j,hj⟩:=List.getElem?_of_mem ht'
   exact ih i j r t hi hj
 | q b f k rows row off vals hb1 hb hrr hk hc ht ih=>exact trivial
 | c g caps cvs hl ht ih=>exact trivial
def fitA:AV→Prop
 | .one t=>fitT t
 | .agg l=>fitL l
 | _=>True
def fitAs:List AV→Prop
 | []=>True
 | a :: l=>fitA a∧fitAs l
theorem RoRep.fits {w:World} {A:Nat→Prop} {a:AV} {v:Value} (h:RoRep w A a v):fitA a:=by
 cases a with
 | one t=>exact Fz.fits h
 | agg l =>
   obtain ⟨cs,rfl,h1,h2⟩:=h
   refine fitL_of fun t ht=>?_
   obtain ⟨j,hj⟩:=List.getElem?_of_mem ht
   have hlt:j < cs.size:=by
    rw [h1];exact (List.getElem?_eq_some_iff.1 hj).1
   exact Fz.fits (h2 j t cs[j] hj (by simp [hlt]))
 | _=>trivial
theorem ArgsRep.fits {w:World} {A:Nat→Prop} {lab:Nat→Option Nat}:∀{l:List AV} {vs:List Value} {k:Nat},ArgsRep w A lab k l vs→fitAs l
 | [],_,_,_=>trivial
 | a :: l,[],k,h=>by
   unfold ArgsRep at h
   cases a with
   | one t=>cases t <;> exact h.elim
   | tup m=>rcases m with _ | ⟨x,_ | ⟨y,m⟩⟩ <;> exact h.elim
   | _=>exact h.elim
 | a :: l,v :: vs,k,h=>by
   cases a with
   | one t =>
     cases t with
     | b row=>exact ⟨trivial,ArgsRep.fits (k:=k+1) h.2⟩
     | _=>exact ⟨RoRep.fits h.1,ArgsRep.fits h.2⟩
   | tup m =>
     rcases m with _ | ⟨x,_ | ⟨y,m⟩⟩
     · exact ⟨RoRep.fits h.1,ArgsRep.fits h.2⟩
     · exact ⟨trivial,ArgsRep.fits (k:=k+1) h.2⟩
     · exact ⟨RoRep.fits h.1,ArgsRep.fits h.2⟩
   | _=>exact ⟨RoRep.fits h.1,ArgsRep.fits h.2⟩
theorem FnOk.fits {P:Program} {f:Nat} {args:List AV} {out:Out} (hf:∃fn,P.funcs[f]?=some fn∧(fn.name == "runtime.NumGoroutine")=false∧fn.body.isSome=true) (h:fitAs args→FnOk P f args out):FnOk P f args out :=
 ⟨hf,fun w A lab vals hA hb hl hG=>(h hA.fits).run w A lab vals hA hb hl hG⟩
theorem GOk.pow10 {P:Program} {w:World} {A:Nat→Prop} (h:GOk P w A) {gl:Nat} (hg:P.globalNamed "internal/strconv.uint64pow10"=some gl):Lib.TabIs P w "internal/strconv.uint64pow10" .u64 Lib.pow10Tab :=
 (h ("internal/strconv.uint64pow10",.tab .u64 Lib.pow10Tab) (by simp [tabs]) gl hg).2.2 w rfl
theorem TabIs.cong {P:Program} {w w':World} {nm:String} {k:IntKind} {zs:List Int} {gl:Nat} (hg:P.globalNamed nm=some gl) (he:w'.heap[gl]?=w.heap[gl]?) (h:Lib.TabIs P w nm k zs):Lib.TabIs P w' nm k zs:=by
 unfold Lib.TabIs at *
 rw [←h]
 simp [World.var?,hg,he]
theorem GOk.one {P:Program} {w:World} {gl:Nat} (hg:P.globalNamed "internal/strconv.uint64pow10"=some gl) (hlt:gl < w.heap.size) (h:Lib.TabIs P w "internal/strconv.uint64pow10" .u64 Lib.pow10Tab) (h2:P.globalNamed "strconv.ErrSyntax"=none:=by kernel_rfl) (h3:P.globalNamed "strconv.ErrRange"=none:=by kernel_rfl):GOk P w (InW w):=by
 intro x hx g' hg'
 simp only [tabs,List.mem_cons,List.not_mem_nil,or_false] at hx
 rcases hx with rfl | rfl | rfl
 · obtain rfl:=Option.some.inj (hg.symm.trans hg')
   exact ⟨hlt,hlt,fun w' he=>TabIs.cong hg he h⟩
 · rw [h2] at hg';cases hg'
 · rw [h3] at hg';cases hg'
def I64 (n:Int):Prop:=-9223372036854775808≤n∧n≤9223372036854775807
theorem range_of_fit {n:Int} (h:fit (.int .i64 n)=true):I64 n:=by
 have:=fitI_iff.1 h
 simpa [I64,IntKind.min,IntKind.max,IntKind.signed,IntKind.bits] using this
end Go.Ev
