/- The law FnCodesTold holds: for every input, the program's function answers as the specification's, and leaves its inputs alone. -/
import Derived.Test.YtdjlkhhgaaddpaaGreatRows
import Derived.Test.YtdjlkhhgaaddpaaGreatLToldWalkE
import Derived.WalkKit
import Derived.ProofKit
import Derived.OpenShut
import Derived.ShutString
import Derived.ChangeOld
import Derived.Below
import Derived.SizedLaws
set_option linter.unusedSectionVars false
set_option linter.unusedSimpArgs false
namespace Go.Proofs.YtdjlkhhgaaddpaaGreat.fnCodesTold
open Go Go.Proofs Go.Ev Go.Proofs.Tryz.Ev Go.ChangeShapes Go.WideShapes Go.ChangeAt Go.RowKit
open Go.ChangeMaps (open_string shut_string)
set_option linter.unusedVariables false
set_option maxRecDepth 100000
set_option maxHeartbeats 40000000
theorem own:ownKnob Tryz.prog.godebug=none:=by kernel_rfl
theorem laidOut:laidOutB Tryz.prog=true:=by kernel_rfl
theorem lifted (os:Os) (started:os.Started) (H:Type) (enc:TypeId×Value→H) :
 ReturnsInHanded {} Tryz.checked os 3 .any (Rows.fnCodesToldSpec.pre6 enc Tryz.prog Tryz.f3 Rows.fnCodesToldRow.domain false) (Rows.fnCodesToldSpec.post enc Tryz.prog Tryz.f3 false true false false):=by
 refine returnsInHanded_of_change_sized (C:=Tryz.checked) own started (by kernel_rfl) Tryz.func3
  (ChangeSpec.witness6 (enc:=enc) (C:=Tryz.checked) false ⟨#[],#[.slice none 0 0],[]⟩ 8 (by kernel_rfl) (by kernel_rfl) (by kernel_rfl) (by kernel_rfl)) ?_
 intro W base args ds gs before hval0 hW hcnd hsz0 _
 have hval:∀(j:Nat) t v,Tryz.f3.params[j]?=some t→args[j]?=some v→Value.okWide Tryz.prog W .any base t v:=hval0
 have hW':=hW
 obtain ⟨p,q,hA0,hV,rfl,hfz,hnd⟩:=hW
 have hA:DataW.TrodAll enc Tryz.prog W 0 (fun _=>true) true Tryz.f3.params.toList args.toList ds p:=hA0
 rw [Tryz.params3] at hA hval
 obtain ⟨v0,vs0,d0,ds0,p0,q0,hargs,rfl,rfl,h0,r0⟩:=trodAll_cons hA
 obtain ⟨rfl,rfl,rfl⟩:=trodAll_nil r0
 obtain rfl:args=#[v0]:=by cases args;simp_all
 obtain ⟨rfl,rfl⟩:=trodVars_none hV
 have lt0:∀x∈p0,x.block < W.heap.size:=by obtain ⟨m,hm⟩:=h0;exact DataW.trod_lt m _ _ _ hm
 obtain ⟨n0,x0,hx0,hs0⟩:=c1i (P:=Tryz.prog) [22,5] (by kernel_rfl) (by kernel_rfl) (hval 0 22 v0 rfl rfl) h0
 rcases hs0 with ⟨l,rfl,_,fs,hn⟩ | ⟨y0,rfl,hl0,_⟩
 · rw [Tryz.underlying22] at hn;cases hn
 obtain ⟨a0,rfl,h0a⟩:=d7t hl0
 refine ((d7n a0 h0a).calls (W:=W) (vals:=#[v0]) (GOk.no (by kernel_rfl)) (c6z hx0 c9r)).mono fun e W' ⟨he,bel⟩=>?_
 subst he
 exact ⟨_,rfl,_,_,_,[],_,[],hW',trodAll_mk1 (shut_bool Tryz.underlying4 _),(trodAll_cons_mk (Below.trod laidOut (by kernel_rfl) (of_decide_eq_true (by kernel_rfl)) h0 bel lt0) trodAll_mk0),rfl,bel.frame _,fun h=>by cases h⟩
theorem closed:joinedFacts Tryz.prog 3 Tryz.f3 Rows.fnCodesToldSpec Rows.fnCodesToldRow=true:=by
 unfold joinedFacts
 refine iF (iF (iF (iF (iF (iF (iF (iF (iF (iF (iF (iF (iF (iF (iF (iF (iF (iF (iF (iF (iF (iF (iF (iF (iF (iF (iF (iF (iF (iF (iF ?_ ?_) ?_) ?_) ?_) ?_) ?_) ?_) ?_) ?_) ?_) ?_) ?_) ?_) ?_) ?_) ?_) ?_) ?_) ?_) ?_) ?_) ?_) ?_) ?_) ?_) ?_) ?_) ?_) ?_) ?_) ?_
 all_goals (as_aux_lemma=>kernel_rfl)
theorem over:Rows.fnCodesToldRow.holds Tryz.pinned (OpenSpec.ofChange Rows.fnCodesToldSpec) :=
 OpenClaim.holds_of_wide 3 Tryz.f3 rfl rfl rfl rfl rfl rfl rfl ⟨rfl,rfl,rfl,rfl,rfl⟩ rfl rfl rfl rfl rfl (by as_aux_lemma=>kernel_rfl) Tryz.func3 closed
  (of_decide_eq_true (by kernel_rfl)) (by unfold Func.isWrapper;first | (rw [if_pos (by decide +kernel)];kernel_rfl) | (rw [if_neg (by decide +kernel)];exact ⟨rfl,rfl⟩))
  (fun os started H enc _=>lifted os started H enc)
theorem proved:Rows.FnCodesToldSaid:=over
end Go.Proofs.YtdjlkhhgaaddpaaGreat.fnCodesTold
namespace Go.Proofs.YtdjlkhhgaaddpaaGreat
theorem fnCodesTold_holds:Rows.FnCodesToldSaid:=fnCodesTold.proved
end Go.Proofs.YtdjlkhhgaaddpaaGreat
