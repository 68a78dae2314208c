import Derived.Test.YtepchngnmfbffaaLCountOfWalkB
set_option linter.unusedSectionVars false

namespace Go.Proofs.Try.Ev
open Go Go.Ev Go.Proofs
set_option maxHeartbeats 4000000
set_option maxRecDepth 100000
set_option linter.unusedSimpArgs false
set_option linter.unusedVariables false
theorem law_c (p0 : World) (h0 : World.bd 9223372036854775807 p0) : FnOk prog 4 [.agg ((World.cells false) p0)] ⟨.one (.v (.bool true)), [], [], false⟩ :=
  FnOk.fits ⟨_, func4, by kernel_rfl, by kernel_rfl⟩ (fun hf => by
    have h := c_laws_FnExactCountOf p0 h0
    rw [law_CountOf p0 h0] at h
    exact h)

end Go.Proofs.Try.Ev
