/-
  NARROWER THAN 'FOR EVERY INPUT', by the rows' own cells (each row's printed sentence says how): FnExactSteady: loops · FnExactCountOf: loops · FnExactModelOk: loops · FnExactBound: loops · FnExactModelNew: loops · FnExactSent: loops.
  DERIVED. THE GIVEN ROWS OF THIS SEAT. 10 by the template 'for every input the law returns true; each argument reads behind the call as it read before'; 0 by the template 'total and deterministic' (their statements: YtepchngnmfbffaaTotals.lean).
  GIVEN WITH THE SEED: the statements are not yours to turn. If you find one false, say at which input.
  Laid BY PROGRAM, IN A SANDBOX (cutbox-rows.mjs): the forced cells as the released guide's own fill.sh prints them over the translation 14f120ab509fec1d… (all of the seat's roots in one cut). By AI agents, Wed Nov 11 2026. No macro, syntax, notation, axiom, sorry.
-/
import Derived.Test.YtepchngnmfbffaaChecked
import GoSem.Claim
import GoSem.ClaimJoined
import GoSem.ClaimMapViews
import Derived.JoinedTies
import Derived.KernelRfl
namespace Go.Proofs.Ytepchngnmfbffaa
/- THE CELL 'sum', in the pinned program and in every row, IS THE sha256 OF THE DUMP (.gsa) THAT YtepchngnmfbffaaProg.lean LOADS. Nothing in Lean hashes anything: it is a label: what it is worth is what the hold of that sum in a sandbox is worth. -/
noncomputable def Try.pinned : Pinned := { name := "ytepchngnmfbffaa", sum := "14f120ab509fec1d7c89d5960c4a0ad4aa2f92d0635ad3358b199c71cfee6bfb", checked := Try.checked }
namespace Rows
def none {H : Type} : Left H := { results := [], args := [] }

/-- 'laws.FnExactSteady': WHATEVER THE INPUT: true; the input reads as it did. -/
def fnExactSteadySpec : ChangeSpec := { name := "fnExactSteady", fn := fun _ => fun
  | [d1, d2, d3] => { results := [.lit (.bool true)], args := [d1, d2, d3] }
  | _ => none }
def fnExactSteadyRow : OpenClaim := { program := "ytepchngnmfbffaa", sum := "14f120ab509fec1d7c89d5960c4a0ad4aa2f92d0635ad3358b199c71cfee6bfb", func := "loop.example/g00488/laws.FnExactSteady", spec := "fnExactSteady", recurses := true, loops := true, apart := false }
def FnExactSteadySaid : Prop := fnExactSteadyRow.holds Try.pinned (OpenSpec.ofChange fnExactSteadySpec)

/-- ITS FALSE NEIGHBOUR: 'it returns false'. Refute it at one input. -/
def fnExactSteadyWrong : ChangeSpec := { name := "fnExactSteady", fn := fun _ => fun
  | [d1, d2, d3] => { results := [.lit (.bool false)], args := [d1, d2, d3] }
  | _ => none }
def FnExactSteadyWrongFalsely : Prop := fnExactSteadyRow.holds Try.pinned (OpenSpec.ofChange fnExactSteadyWrong)

/-- 'laws.FnExactCountOf': WHATEVER THE INPUT: true; the input reads as it did. -/
def fnExactCountOfSpec : ChangeSpec := { name := "fnExactCountOf", fn := fun _ => fun
  | [d] => { results := [.lit (.bool true)], args := [d] }
  | _ => none }
def fnExactCountOfRow : OpenClaim := { program := "ytepchngnmfbffaa", sum := "14f120ab509fec1d7c89d5960c4a0ad4aa2f92d0635ad3358b199c71cfee6bfb", func := "loop.example/g00488/laws.FnExactCountOf", spec := "fnExactCountOf", recurses := true, loops := true, apart := false }
def FnExactCountOfSaid : Prop := fnExactCountOfRow.holds Try.pinned (OpenSpec.ofChange fnExactCountOfSpec)

/-- ITS FALSE NEIGHBOUR: 'it returns false'. Refute it at one input. -/
def fnExactCountOfWrong : ChangeSpec := { name := "fnExactCountOf", fn := fun _ => fun
  | [d] => { results := [.lit (.bool false)], args := [d] }
  | _ => none }
def FnExactCountOfWrongFalsely : Prop := fnExactCountOfRow.holds Try.pinned (OpenSpec.ofChange fnExactCountOfWrong)

/-- 'laws.FnExactModelOk': WHATEVER THE INPUT: true; the input reads as it did. -/
def fnExactModelOkSpec : ChangeSpec := { name := "fnExactModelOk", fn := fun _ => fun
  | [d] => { results := [.lit (.bool true)], args := [d] }
  | _ => none }
def fnExactModelOkRow : OpenClaim := { program := "ytepchngnmfbffaa", sum := "14f120ab509fec1d7c89d5960c4a0ad4aa2f92d0635ad3358b199c71cfee6bfb", func := "loop.example/g00488/laws.FnExactModelOk", spec := "fnExactModelOk", unfollowed := true, recurses := true, loops := true, apart := false }
def FnExactModelOkSaid : Prop := fnExactModelOkRow.holds Try.pinned (OpenSpec.ofChange fnExactModelOkSpec)

/-- ITS FALSE NEIGHBOUR: 'it returns false'. Refute it at one input. -/
def fnExactModelOkWrong : ChangeSpec := { name := "fnExactModelOk", fn := fun _ => fun
  | [d] => { results := [.lit (.bool false)], args := [d] }
  | _ => none }
def FnExactModelOkWrongFalsely : Prop := fnExactModelOkRow.holds Try.pinned (OpenSpec.ofChange fnExactModelOkWrong)

/-- 'laws.FnExactBound': WHATEVER THE INPUT: true; the input reads as it did. -/
def fnExactBoundSpec : ChangeSpec := { name := "fnExactBound", fn := fun _ => fun
  | [d] => { results := [.lit (.bool true)], args := [d] }
  | _ => none }
def fnExactBoundRow : OpenClaim := { program := "ytepchngnmfbffaa", sum := "14f120ab509fec1d7c89d5960c4a0ad4aa2f92d0635ad3358b199c71cfee6bfb", func := "loop.example/g00488/laws.FnExactBound", spec := "fnExactBound", recurses := true, loops := true, apart := false }
def FnExactBoundSaid : Prop := fnExactBoundRow.holds Try.pinned (OpenSpec.ofChange fnExactBoundSpec)

/-- ITS FALSE NEIGHBOUR: 'it returns false'. Refute it at one input. -/
def fnExactBoundWrong : ChangeSpec := { name := "fnExactBound", fn := fun _ => fun
  | [d] => { results := [.lit (.bool false)], args := [d] }
  | _ => none }
def FnExactBoundWrongFalsely : Prop := fnExactBoundRow.holds Try.pinned (OpenSpec.ofChange fnExactBoundWrong)

/-- 'laws.FnExactForgotOf': WHATEVER THE INPUT: true; the input reads as it did. -/
def fnExactForgotOfSpec : ChangeSpec := { name := "fnExactForgotOf", fn := fun _ => fun
  | [d] => { results := [.lit (.bool true)], args := [d] }
  | _ => none }
def fnExactForgotOfRow : OpenClaim := { program := "ytepchngnmfbffaa", sum := "14f120ab509fec1d7c89d5960c4a0ad4aa2f92d0635ad3358b199c71cfee6bfb", func := "loop.example/g00488/laws.FnExactForgotOf", spec := "fnExactForgotOf", unfollowed := true, recurses := true, apart := false }
def FnExactForgotOfSaid : Prop := fnExactForgotOfRow.holds Try.pinned (OpenSpec.ofChange fnExactForgotOfSpec)

/-- ITS FALSE NEIGHBOUR: 'it returns false'. Refute it at one input. -/
def fnExactForgotOfWrong : ChangeSpec := { name := "fnExactForgotOf", fn := fun _ => fun
  | [d] => { results := [.lit (.bool false)], args := [d] }
  | _ => none }
def FnExactForgotOfWrongFalsely : Prop := fnExactForgotOfRow.holds Try.pinned (OpenSpec.ofChange fnExactForgotOfWrong)

/-- 'laws.FnExactVerdicts': WHATEVER THE INPUT: true; the input reads as it did. -/
def fnExactVerdictsSpec : ChangeSpec := { name := "fnExactVerdicts", fn := fun _ => fun
  | [d] => { results := [.lit (.bool true)], args := [d] }
  | _ => none }
def fnExactVerdictsRow : OpenClaim := { program := "ytepchngnmfbffaa", sum := "14f120ab509fec1d7c89d5960c4a0ad4aa2f92d0635ad3358b199c71cfee6bfb", func := "loop.example/g00488/laws.FnExactVerdicts", spec := "fnExactVerdicts", unfollowed := true, recurses := true, apart := false }
def FnExactVerdictsSaid : Prop := fnExactVerdictsRow.holds Try.pinned (OpenSpec.ofChange fnExactVerdictsSpec)

/-- ITS FALSE NEIGHBOUR: 'it returns false'. Refute it at one input. -/
def fnExactVerdictsWrong : ChangeSpec := { name := "fnExactVerdicts", fn := fun _ => fun
  | [d] => { results := [.lit (.bool false)], args := [d] }
  | _ => none }
def FnExactVerdictsWrongFalsely : Prop := fnExactVerdictsRow.holds Try.pinned (OpenSpec.ofChange fnExactVerdictsWrong)

/-- 'laws.FnExactAccepted': WHATEVER THE INPUT: true; the input reads as it did. -/
def fnExactAcceptedSpec : ChangeSpec := { name := "fnExactAccepted", fn := fun _ => fun
  | [d1, d2] => { results := [.lit (.bool true)], args := [d1, d2] }
  | _ => none }
def fnExactAcceptedRow : OpenClaim := { program := "ytepchngnmfbffaa", sum := "14f120ab509fec1d7c89d5960c4a0ad4aa2f92d0635ad3358b199c71cfee6bfb", func := "loop.example/g00488/laws.FnExactAccepted", spec := "fnExactAccepted", unfollowed := true, recurses := true, apart := false }
def FnExactAcceptedSaid : Prop := fnExactAcceptedRow.holds Try.pinned (OpenSpec.ofChange fnExactAcceptedSpec)

/-- ITS FALSE NEIGHBOUR: 'it returns false'. Refute it at one input. -/
def fnExactAcceptedWrong : ChangeSpec := { name := "fnExactAccepted", fn := fun _ => fun
  | [d1, d2] => { results := [.lit (.bool false)], args := [d1, d2] }
  | _ => none }
def FnExactAcceptedWrongFalsely : Prop := fnExactAcceptedRow.holds Try.pinned (OpenSpec.ofChange fnExactAcceptedWrong)

/-- 'laws.FnExactStampsOf': WHATEVER THE INPUT: true; the input reads as it did. -/
def fnExactStampsOfSpec : ChangeSpec := { name := "fnExactStampsOf", fn := fun _ => fun
  | [d] => { results := [.lit (.bool true)], args := [d] }
  | _ => none }
def fnExactStampsOfRow : OpenClaim := { program := "ytepchngnmfbffaa", sum := "14f120ab509fec1d7c89d5960c4a0ad4aa2f92d0635ad3358b199c71cfee6bfb", func := "loop.example/g00488/laws.FnExactStampsOf", spec := "fnExactStampsOf", recurses := true, apart := false }
def FnExactStampsOfSaid : Prop := fnExactStampsOfRow.holds Try.pinned (OpenSpec.ofChange fnExactStampsOfSpec)

/-- ITS FALSE NEIGHBOUR: 'it returns false'. Refute it at one input. -/
def fnExactStampsOfWrong : ChangeSpec := { name := "fnExactStampsOf", fn := fun _ => fun
  | [d] => { results := [.lit (.bool false)], args := [d] }
  | _ => none }
def FnExactStampsOfWrongFalsely : Prop := fnExactStampsOfRow.holds Try.pinned (OpenSpec.ofChange fnExactStampsOfWrong)

/-- 'laws.FnExactModelNew': WHATEVER THE INPUT: true; the input reads as it did. -/
def fnExactModelNewSpec : ChangeSpec := { name := "fnExactModelNew", fn := fun _ => fun
  | [d] => { results := [.lit (.bool true)], args := [d] }
  | _ => none }
def fnExactModelNewRow : OpenClaim := { program := "ytepchngnmfbffaa", sum := "14f120ab509fec1d7c89d5960c4a0ad4aa2f92d0635ad3358b199c71cfee6bfb", func := "loop.example/g00488/laws.FnExactModelNew", spec := "fnExactModelNew", recurses := true, loops := true, apart := false }
def FnExactModelNewSaid : Prop := fnExactModelNewRow.holds Try.pinned (OpenSpec.ofChange fnExactModelNewSpec)

/-- ITS FALSE NEIGHBOUR: 'it returns false'. Refute it at one input. -/
def fnExactModelNewWrong : ChangeSpec := { name := "fnExactModelNew", fn := fun _ => fun
  | [d] => { results := [.lit (.bool false)], args := [d] }
  | _ => none }
def FnExactModelNewWrongFalsely : Prop := fnExactModelNewRow.holds Try.pinned (OpenSpec.ofChange fnExactModelNewWrong)

/-- 'laws.FnExactSent': WHATEVER THE INPUT: true; the input reads as it did. -/
def fnExactSentSpec : ChangeSpec := { name := "fnExactSent", fn := fun _ => fun
  | [d1, d2] => { results := [.lit (.bool true)], args := [d1, d2] }
  | _ => none }
def fnExactSentRow : OpenClaim := { program := "ytepchngnmfbffaa", sum := "14f120ab509fec1d7c89d5960c4a0ad4aa2f92d0635ad3358b199c71cfee6bfb", func := "loop.example/g00488/laws.FnExactSent", spec := "fnExactSent", recurses := true, loops := true, apart := false }
def FnExactSentSaid : Prop := fnExactSentRow.holds Try.pinned (OpenSpec.ofChange fnExactSentSpec)

/-- ITS FALSE NEIGHBOUR: 'it returns false'. Refute it at one input. -/
def fnExactSentWrong : ChangeSpec := { name := "fnExactSent", fn := fun _ => fun
  | [d1, d2] => { results := [.lit (.bool false)], args := [d1, d2] }
  | _ => none }
def FnExactSentWrongFalsely : Prop := fnExactSentRow.holds Try.pinned (OpenSpec.ofChange fnExactSentWrong)

/- THE SECOND FORM. 'bulk': how many values and letters a reading holds, each counted each time it is reached (what is shared counts as often as it is met; a slice's spare places count too). A statement '..UptoSaid' is the law's where the arguments, and the package variables that the reading takes, are together of bulk at most 1048576: NARROWER than '..Said'. Prove '..Said' where nothing that the law and all that it calls make is longer than what came in: it says more and counts as full. Else prove '..UptoSaid'. A law counts once. -/
mutual
def uptoBulk {H : Type} : DataW H → Nat
  | .lit (.string bytes) => bytes.length + 1
  | .lit _ => 1
  | .nil => 1
  | .ptr d => uptoBulk d + 1
  | .slice elems spare => uptoBulkAll elems + uptoBulkAll spare + 1
  | .agg parts => uptoBulkAll parts + 1
  | .iface _ d => uptoBulk d + 1
  | .map entries => uptoBulkEntries entries + 1
  | .held _ => 1
def uptoBulkAll {H : Type} : List (DataW H) → Nat
  | [] => 0
  | d :: r => uptoBulk d + uptoBulkAll r
def uptoBulkEntries {H : Type} : List (Lit × DataW H) → Nat
  | [] => 0
  | x :: r => uptoBulkEntry x + uptoBulkEntries r
def uptoBulkEntry {H : Type} : Lit × DataW H → Nat
  | (.string bytes, d) => bytes.length + uptoBulk d + 1
  | (_, d) => uptoBulk d + 1
 end
def uptoSmall : (H : Type) → List (DataW H) → Bool := fun _ ds => decide (uptoBulkAll ds ≤ 1048576)
def OpenSpec.upto (s : _root_.Go.ChangeSpec) : _root_.Go.OpenSpec := { _root_.Go.OpenSpec.ofChange s with cond := some uptoSmall }

/-- 'laws.FnExactSteady', WHERE WHAT IT READS IS OF BULK AT MOST 1048576: true; the input reads as it did. -/
def fnExactSteadyUptoRow : OpenClaim := { program := "ytepchngnmfbffaa", sum := "14f120ab509fec1d7c89d5960c4a0ad4aa2f92d0635ad3358b199c71cfee6bfb", func := "loop.example/g00488/laws.FnExactSteady", spec := "fnExactSteady", recurses := true, loops := true, apart := false, narrowed := true }
def FnExactSteadyUptoSaid : Prop := fnExactSteadyUptoRow.holds Try.pinned (OpenSpec.upto fnExactSteadySpec)

/-- 'laws.FnExactCountOf', WHERE WHAT IT READS IS OF BULK AT MOST 1048576: true; the input reads as it did. -/
def fnExactCountOfUptoRow : OpenClaim := { program := "ytepchngnmfbffaa", sum := "14f120ab509fec1d7c89d5960c4a0ad4aa2f92d0635ad3358b199c71cfee6bfb", func := "loop.example/g00488/laws.FnExactCountOf", spec := "fnExactCountOf", recurses := true, loops := true, apart := false, narrowed := true }
def FnExactCountOfUptoSaid : Prop := fnExactCountOfUptoRow.holds Try.pinned (OpenSpec.upto fnExactCountOfSpec)

/-- 'laws.FnExactModelOk', WHERE WHAT IT READS IS OF BULK AT MOST 1048576: true; the input reads as it did. -/
def fnExactModelOkUptoRow : OpenClaim := { program := "ytepchngnmfbffaa", sum := "14f120ab509fec1d7c89d5960c4a0ad4aa2f92d0635ad3358b199c71cfee6bfb", func := "loop.example/g00488/laws.FnExactModelOk", spec := "fnExactModelOk", unfollowed := true, recurses := true, loops := true, apart := false, narrowed := true }
def FnExactModelOkUptoSaid : Prop := fnExactModelOkUptoRow.holds Try.pinned (OpenSpec.upto fnExactModelOkSpec)

/-- 'laws.FnExactBound', WHERE WHAT IT READS IS OF BULK AT MOST 1048576: true; the input reads as it did. -/
def fnExactBoundUptoRow : OpenClaim := { program := "ytepchngnmfbffaa", sum := "14f120ab509fec1d7c89d5960c4a0ad4aa2f92d0635ad3358b199c71cfee6bfb", func := "loop.example/g00488/laws.FnExactBound", spec := "fnExactBound", recurses := true, loops := true, apart := false, narrowed := true }
def FnExactBoundUptoSaid : Prop := fnExactBoundUptoRow.holds Try.pinned (OpenSpec.upto fnExactBoundSpec)

/-- 'laws.FnExactForgotOf', WHERE WHAT IT READS IS OF BULK AT MOST 1048576: true; the input reads as it did. -/
def fnExactForgotOfUptoRow : OpenClaim := { program := "ytepchngnmfbffaa", sum := "14f120ab509fec1d7c89d5960c4a0ad4aa2f92d0635ad3358b199c71cfee6bfb", func := "loop.example/g00488/laws.FnExactForgotOf", spec := "fnExactForgotOf", unfollowed := true, recurses := true, apart := false, narrowed := true }
def FnExactForgotOfUptoSaid : Prop := fnExactForgotOfUptoRow.holds Try.pinned (OpenSpec.upto fnExactForgotOfSpec)

/-- 'laws.FnExactVerdicts', WHERE WHAT IT READS IS OF BULK AT MOST 1048576: true; the input reads as it did. -/
def fnExactVerdictsUptoRow : OpenClaim := { program := "ytepchngnmfbffaa", sum := "14f120ab509fec1d7c89d5960c4a0ad4aa2f92d0635ad3358b199c71cfee6bfb", func := "loop.example/g00488/laws.FnExactVerdicts", spec := "fnExactVerdicts", unfollowed := true, recurses := true, apart := false, narrowed := true }
def FnExactVerdictsUptoSaid : Prop := fnExactVerdictsUptoRow.holds Try.pinned (OpenSpec.upto fnExactVerdictsSpec)

/-- 'laws.FnExactAccepted', WHERE WHAT IT READS IS OF BULK AT MOST 1048576: true; the input reads as it did. -/
def fnExactAcceptedUptoRow : OpenClaim := { program := "ytepchngnmfbffaa", sum := "14f120ab509fec1d7c89d5960c4a0ad4aa2f92d0635ad3358b199c71cfee6bfb", func := "loop.example/g00488/laws.FnExactAccepted", spec := "fnExactAccepted", unfollowed := true, recurses := true, apart := false, narrowed := true }
def FnExactAcceptedUptoSaid : Prop := fnExactAcceptedUptoRow.holds Try.pinned (OpenSpec.upto fnExactAcceptedSpec)

/-- 'laws.FnExactStampsOf', WHERE WHAT IT READS IS OF BULK AT MOST 1048576: true; the input reads as it did. -/
def fnExactStampsOfUptoRow : OpenClaim := { program := "ytepchngnmfbffaa", sum := "14f120ab509fec1d7c89d5960c4a0ad4aa2f92d0635ad3358b199c71cfee6bfb", func := "loop.example/g00488/laws.FnExactStampsOf", spec := "fnExactStampsOf", recurses := true, apart := false, narrowed := true }
def FnExactStampsOfUptoSaid : Prop := fnExactStampsOfUptoRow.holds Try.pinned (OpenSpec.upto fnExactStampsOfSpec)

/-- 'laws.FnExactModelNew', WHERE WHAT IT READS IS OF BULK AT MOST 1048576: true; the input reads as it did. -/
def fnExactModelNewUptoRow : OpenClaim := { program := "ytepchngnmfbffaa", sum := "14f120ab509fec1d7c89d5960c4a0ad4aa2f92d0635ad3358b199c71cfee6bfb", func := "loop.example/g00488/laws.FnExactModelNew", spec := "fnExactModelNew", recurses := true, loops := true, apart := false, narrowed := true }
def FnExactModelNewUptoSaid : Prop := fnExactModelNewUptoRow.holds Try.pinned (OpenSpec.upto fnExactModelNewSpec)

/-- 'laws.FnExactSent', WHERE WHAT IT READS IS OF BULK AT MOST 1048576: true; the input reads as it did. -/
def fnExactSentUptoRow : OpenClaim := { program := "ytepchngnmfbffaa", sum := "14f120ab509fec1d7c89d5960c4a0ad4aa2f92d0635ad3358b199c71cfee6bfb", func := "loop.example/g00488/laws.FnExactSent", spec := "fnExactSent", recurses := true, loops := true, apart := false, narrowed := true }
def FnExactSentUptoSaid : Prop := fnExactSentUptoRow.holds Try.pinned (OpenSpec.upto fnExactSentSpec)

end Rows
end Go.Proofs.Ytepchngnmfbffaa
