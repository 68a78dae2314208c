/- The law FnExactBalanced holds: for every input, the program's Balanced answers as the specification's, and the input reads as it did. -/
import Derived.Test.YtbfbnamkgcanbaaRows
import Derived.Test.YtbfbnamkgcanbaaLBase
import Derived.WalkKit
import Derived.ProofKit
import Derived.OpenShut
import Derived.ShutString
import Derived.ChangeOld
import Derived.Below
import Derived.SizedLaws
namespace Go.Proofs.Ytbfbnamkgcanbaa.fnExactBalanced
open Go Go.Proofs Go.Ev Go.Proofs.Try.Ev Go.ChangeShapes Go.WideShapes Go.ChangeAt Go.RowKit
open Go.ChangeMaps (open_string shut_string)
set_option linter.unusedVariables false
set_option maxRecDepth 100000
theorem own : ownKnob Try.prog.godebug = none := by kernel_rfl
theorem laidOut : laidOutB Try.prog = true := by kernel_rfl

/-- The shape of five whole numbers. -/
theorem shape23 {l : List T} (h : Shape Try.prog 3 23 l) : ∃ a b c d e, l = five a b c d e := by
  simp only [Shape, Try.underlying23, Try.underlying3, ShapeL] at h
  obtain ⟨_, _, rfl, ⟨a, rfl, ha⟩, _, _, rfl, ⟨b, rfl, hb⟩, _, _, rfl, ⟨c, rfl, hc⟩, _, _, rfl, ⟨d, rfl, hd⟩, _, _, rfl, ⟨e, rfl, he⟩, rfl⟩ := h
  exact ⟨a, b, c, d, e, rfl⟩

theorem lifted (os : Os) (started : os.Started) (H : Type) (enc : TypeId × Value → H) :
    ReturnsInHanded {} Try.checked os 3 .any (Rows.fnExactBalancedSpec.pre6 enc Try.prog Try.f3 Rows.fnExactBalancedRow.domain false) (Rows.fnExactBalancedSpec.post enc Try.prog Try.f3 false true false false) := by
  refine returnsInHanded_of_change_sized (C := Try.checked) own started (by kernel_rfl) Try.func3
    (ChangeSpec.witness6 (enc := enc) (C := Try.checked) false ⟨#[], #[.agg #[.int .i64 0, .int .i64 0, .int .i64 0, .int .i64 0, .int .i64 0]], []⟩ 8 (by kernel_rfl) (by kernel_rfl) (by kernel_rfl) (by kernel_rfl)) ?_
  intro W base args ds gs before hval0 hW hcnd hsz0 _
  have hval : ∀ (j : Nat) t v, Try.f3.params[j]? = some t → args[j]? = some v → Value.okWide Try.prog W .any base t v := hval0
  have hW' := hW
  obtain ⟨p, q, hA0, hV, rfl, hfz, hnd⟩ := hW
  have hA : DataW.TrodAll enc Try.prog W 0 (fun _ => true) true Try.f3.params.toList args.toList ds p := hA0
  rw [Try.params3] at hA hval
  obtain ⟨v0, vs0, d0, ds0, p0, q0, hargs, rfl, rfl, h0, r0⟩ := trodAll_cons hA
  obtain ⟨rfl, rfl, rfl⟩ := trodAll_nil r0
  obtain rfl : args = #[v0] := by cases args; simp_all
  obtain ⟨rfl, rfl⟩ := trodVars_none hV
  have lt0 : ∀ x ∈ p0, x.block < W.heap.size := by obtain ⟨m, hm⟩ := h0; exact DataW.trod_lt m _ _ _ hm
  obtain ⟨x0, hx0, hs0⟩ := arg_of_trod (P := Try.prog) 3 (by kernel_rfl) (hval 0 23 v0 rfl rfl) h0
  rcases hs0 with ⟨l, rfl, hl, _⟩ | ⟨y, rfl, hl, hn⟩
  · obtain ⟨a, b, c, d, e, rfl⟩ := shape23 hl
    refine ((c3 a b c d e).calls (W := W) (vals := #[v0]) (args_cons hx0 args_nil)).mono fun e W' ⟨he, bel⟩ => ?_
    subst he
    exact ⟨_, rfl, _, _, _, [], _, [], hW', trodAll_mk1 (shut_bool Try.underlying4 _), (trodAll_cons_mk (Below.trod laidOut (by kernel_rfl) (of_decide_eq_true (by kernel_rfl)) h0 bel lt0) trodAll_mk0), rfl, bel.frame _, fun h => by cases h⟩
  · exact absurd Try.underlying23 (hn _)

theorem over : Rows.fnExactBalancedRow.holds Try.pinned (OpenSpec.ofChange Rows.fnExactBalancedSpec) :=
  OpenClaim.holds_of_wide 3 Try.f3 rfl rfl rfl rfl rfl rfl rfl ⟨rfl, rfl, rfl, rfl, rfl⟩ rfl rfl rfl rfl rfl (by kernel_rfl) Try.func3 (by kernel_rfl)
    (of_decide_eq_true (by kernel_rfl)) (by unfold Func.isWrapper; first | (rw [if_pos (by decide +kernel)]; kernel_rfl) | (rw [if_neg (by decide +kernel)]; exact ⟨rfl, rfl⟩))
    (fun os started H enc _ => lifted os started H enc)
theorem proved : Rows.FnExactBalancedSaid := over
#print axioms proved
end Go.Proofs.Ytbfbnamkgcanbaa.fnExactBalanced
namespace Go.Proofs.Ytbfbnamkgcanbaa
/-- The row, under a short name. -/
theorem fnExactBalanced_holds : Rows.FnExactBalancedSaid := fnExactBalanced.proved
end Go.Proofs.Ytbfbnamkgcanbaa
