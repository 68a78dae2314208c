/- What strconv.Itoa answers, as a contract: over any program that holds the library's text. -/
import Derived.Test.YtdjlkhhgaaddpaaGreatDoorEvY
import Derived.Shelf.Strconv.Itoa3
set_option linter.unusedSectionVars false
set_option linter.unusedVariables false
set_option linter.unusedSimpArgs false
namespace Go.Ev
open Go Go.Proofs
theorem nDigits_le:∀(k u:Nat),u < 10 ^ (k+1)→Lib.nDigits u≤k+1
 | 0,u,h=>by rw [Lib.nDigits_small (by simpa using h)];exact Nat.le_refl _
 | k+1,u,h=>by
   by_cases hu:u < 10
   · rw [Lib.nDigits_small hu];omega
   · rw [Lib.nDigits_big hu]
     have:=nDigits_le k (u / 10) (by rw [Nat.pow_succ] at h;omega)
     omega
def itoaS (n:Int):ByteArray:=⟨(Lib.itoa n).toArray⟩
theorem itoaS_size {n:Int} (h0:-9223372036854775808≤n) (h1:n≤9223372036854775807):(itoaS n).size≤20:=by
 have e:(itoaS n).size=(Lib.itoa n).length:=by simp [itoaS,ByteArray.size]
 rw [e]
 unfold Lib.itoa
 split
 · rw [List.length_cons,Lib.decDigits_length]
   have:=nDigits_le 18 n.natAbs (by omega)
   omega
 · rw [Lib.decDigits_length]
   have:=nDigits_le 18 n.toNat (by omega)
   omega
theorem FnOk.ofCalls1 {P:Program} {f:Nat} {x r:Value} (hf:∃fn,P.funcs[f]?=some fn∧(fn.name == "runtime.NumGoroutine")=false∧fn.body.isSome=true) (hr:fit x=true→fit r=true)
 (h:∀(w:World) (A:Nat→Prop),fit x=true→GOk P w A→Calls P f #[x] w fun e w'=>e=.returned r∧w'.os=w.os∧w'.tape=w.tape∧w'.output=w.output∧w.heap.size≤w'.heap.size∧∀b,b < w.heap.size→w'.heap[b]?=w.heap[b]?) :
 FnOk P f [.one (.v x)] ⟨.one (.v r),[],[],false⟩:=by
 refine ⟨hf,fun w A lab vals hA hAl hl hG=>?_⟩
 obtain ⟨v,hv,hx⟩:∃v,vals=#[v]∧Fz w A v (.v x):=by
  rcases vals with ⟨l⟩
  rcases l with _ | ⟨v,_ | ⟨u,l⟩⟩
  · exact hA.elim
  · exact ⟨v,rfl,hA.1⟩
  · exact hA.2.elim
 subst hv
 cases hx with
 | v _ hfit =>
   refine (h w A hfit hG).mono ?_
   rintro e w' ⟨rfl,h1,h2,h3,h4,h5⟩
   refine ⟨r,fun b=>if b < w.heap.size then lab b else none,rfl,⟨h1,h2,h3,h4,fun b hb hn=>⟨h5 b hb,?_⟩,fun b i hi=>?_,fun b hb=>bsz_of (h5 b hb)⟩,?_,?_⟩
   · simp [hb,hn]
   · by_cases hb:b < w.heap.size
     · omega
     · simp [hb] at hi
   · exact Ow.v _ _ (hr hfit)
   · exact trivial
theorem itoa_contract {P:Program} {ρ:Go.Shelf.Ren} (L:LaysM.n171 P ρ) {gl:Nat} (hg:P.globalNamed "internal/strconv.uint64pow10"=some gl)
 (hf:∃fn,P.funcs[ρ.f 171]?=some fn∧(fn.name == "runtime.NumGoroutine")=false∧fn.body.isSome=true) (n:Int) :
 FnOk P (ρ.f 171) [.one (.v (.int .i64 n))] ⟨.one (.v (.string (itoaS n))),[],[],false⟩:=by
 refine FnOk.ofCalls1 hf (fun hx=>?_) (fun w A hx hG=>?_)
 · have:=range_of_fit hx
   have:=itoaS_size this.1 this.2
   exact Nat.ble_eq_true_of_le (by omega)
 · have:=range_of_fit hx
   refine (Any.strconv_Itoa L n this.1 this.2 w (hG.pow10 hg)).mono ?_
   rintro e w' ⟨rfl,k,os,rfl⟩
   refine ⟨rfl,rfl,rfl,rfl,?_,fun b hb=>?_⟩
   · simp [Sort.grow,World.drewN]
   · simp only [Sort.grow,World.drewN]
     rw [Array.getElem?_append_left hb]
end Go.Ev
