/- The law FnExactSameCache holds: for every input, the program's SameCache answers as the specification's, and leaves its inputs alone. -/
import Derived.Test.YtbfbnamkgcanbaaRows
import Derived.Test.YtbfbnamkgcanbaaLSame
import Derived.WalkKit
import Derived.ProofKit
import Derived.OpenShut
import Derived.ShutString
import Derived.ChangeOld
import Derived.Below
import Derived.SizedLaws
namespace Go.Proofs.Ytbfbnamkgcanbaa.fnExactSameCache
open Go Go.Proofs Go.Ev Go.Proofs.Try.Ev Go.ChangeShapes Go.WideShapes Go.ChangeAt Go.RowKit
open Go.ChangeMaps (open_string shut_string)
set_option linter.unusedVariables false
set_option maxRecDepth 100000
theorem own : ownKnob Try.prog.godebug = none := by kernel_rfl
theorem laidOut : laidOutB Try.prog = true := by kernel_rfl

theorem shape63 {l : List T} (h : Shape Try.prog 3 63 l) : ∃ x : Verdict, l = x.cells := by
  simp only [Shape, Try.underlying63, Try.underlying3, Try.underlying4, ShapeL] at h
  obtain ⟨_, _, rfl, ⟨a, rfl, ha⟩, _, _, rfl, ⟨b, rfl, hb⟩, _, _, rfl, ⟨c, rfl⟩, rfl⟩ := h
  exact ⟨⟨a, b, c⟩, rfl⟩
theorem shape28 {y : T} (h : Shape Try.prog 4 28 [y]) : ∃ l : List Verdict, y = verdictS l ∧ l.length ≤ 9223372036854775807 := by
  unfold Shape at h
  rw [Try.underlying28] at h
  obtain ⟨rows, h1, h2, h3⟩ := h
  have hc : Try.prog.cellsOf 63 = 3 := by kernel_rfl
  rw [hc] at h1 h3
  obtain ⟨l, rfl⟩ := rows_map Verdict.cells rows (fun r hr => shape63 (h3 r hr).2)
  refine ⟨l, by simpa [verdictS] using h1, ?_⟩
  simpa [maxLen] using h2

theorem lifted (os : Os) (started : os.Started) (H : Type) (enc : TypeId × Value → H) :
    ReturnsInHanded {} Try.checked os 4 .any (Rows.fnExactSameCacheSpec.pre6 enc Try.prog Try.f4 Rows.fnExactSameCacheRow.domain false) (Rows.fnExactSameCacheSpec.post enc Try.prog Try.f4 false true false false) := by
  refine returnsInHanded_of_change_sized (C := Try.checked) own started (by kernel_rfl) Try.func4
    (ChangeSpec.witness6 (enc := enc) (C := Try.checked) false ⟨#[], #[.slice none 0 0, .slice none 0 0], []⟩ 8 (by kernel_rfl) (by kernel_rfl) (by kernel_rfl) (by kernel_rfl)) ?_
  intro W base args ds gs before hval0 hW hcnd hsz0 _
  have hval : ∀ (j : Nat) t v, Try.f4.params[j]? = some t → args[j]? = some v → Value.okWide Try.prog W .any base t v := hval0
  have hW' := hW
  obtain ⟨p, q, hA0, hV, rfl, hfz, hnd⟩ := hW
  have hA : DataW.TrodAll enc Try.prog W 0 (fun _ => true) true Try.f4.params.toList args.toList ds p := hA0
  rw [Try.params4] at hA hval
  obtain ⟨v0, vs0, d0, ds0, p0, q0, hargs, rfl, rfl, h0, r0⟩ := trodAll_cons hA
  obtain ⟨v1, vs1, d1, ds1, p1, q1, rfl, rfl, rfl, h1, r1⟩ := trodAll_cons r0
  obtain ⟨rfl, rfl, rfl⟩ := trodAll_nil r1
  obtain rfl : args = #[v0, v1] := by cases args; simp_all
  obtain ⟨rfl, rfl⟩ := trodVars_none hV
  have lt0 : ∀ x ∈ p0, x.block < W.heap.size := by obtain ⟨m, hm⟩ := h0; exact DataW.trod_lt m _ _ _ hm
  have lt1 : ∀ x ∈ p1, x.block < W.heap.size := by obtain ⟨m, hm⟩ := h1; exact DataW.trod_lt m _ _ _ hm
  obtain ⟨x0, hx0, hs0⟩ := arg_of_trod (P := Try.prog) 4 (by kernel_rfl) (hval 0 28 v0 rfl rfl) h0
  obtain ⟨x1, hx1, hs1⟩ := arg_of_trod (P := Try.prog) 4 (by kernel_rfl) (hval 1 28 v1 rfl rfl) h1
  rcases hs0 with ⟨l, rfl, _, fs, hn⟩ | ⟨y0, rfl, hl0, _⟩
  · rw [Try.underlying28] at hn; cases hn
  rcases hs1 with ⟨l, rfl, _, fs, hn⟩ | ⟨y1, rfl, hl1, _⟩
  · rw [Try.underlying28] at hn; cases hn
  obtain ⟨a, rfl, ha⟩ := shape28 hl0
  obtain ⟨b, rfl, hb⟩ := shape28 hl1
  refine ((c4 a b ha hb).calls (W := W) (vals := #[v0, v1]) (args_cons hx0 (args_cons hx1 args_nil))).mono fun e W' ⟨he, bel⟩ => ?_
  subst he
  exact ⟨_, rfl, _, _, _, [], _, [], hW', trodAll_mk1 (shut_bool Try.underlying4 _), (trodAll_cons_mk (Below.trod laidOut (by kernel_rfl) (of_decide_eq_true (by kernel_rfl)) h0 bel lt0) (trodAll_cons_mk (Below.trod laidOut (by kernel_rfl) (of_decide_eq_true (by kernel_rfl)) h1 bel lt1) trodAll_mk0)), rfl, bel.frame _, fun h => by cases h⟩

theorem over : Rows.fnExactSameCacheRow.holds Try.pinned (OpenSpec.ofChange Rows.fnExactSameCacheSpec) :=
  OpenClaim.holds_of_wide 4 Try.f4 rfl rfl rfl rfl rfl rfl rfl ⟨rfl, rfl, rfl, rfl, rfl⟩ rfl rfl rfl rfl rfl (by kernel_rfl) Try.func4 (by kernel_rfl)
    (of_decide_eq_true (by kernel_rfl)) (by unfold Func.isWrapper; first | (rw [if_pos (by decide +kernel)]; kernel_rfl) | (rw [if_neg (by decide +kernel)]; exact ⟨rfl, rfl⟩))
    (fun os started H enc _ => lifted os started H enc)
theorem proved : Rows.FnExactSameCacheSaid := over
#print axioms proved
end Go.Proofs.Ytbfbnamkgcanbaa.fnExactSameCache
namespace Go.Proofs.Ytbfbnamkgcanbaa
/-- The row, under a short name. -/
theorem fnExactSameCache_holds : Rows.FnExactSameCacheSaid := fnExactSameCache.proved
end Go.Proofs.Ytbfbnamkgcanbaa
