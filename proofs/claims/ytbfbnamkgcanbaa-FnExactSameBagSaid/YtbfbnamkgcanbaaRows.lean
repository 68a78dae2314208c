/-
  No cell of these rows narrows 'for every input' (looked for: loops, veiled, ifaces, maps, wideKeys, modest, calm, conditions, laid).
  DERIVED. THE GIVEN ROWS OF THIS SEAT. 10 by the template 'for every input the law returns true; each argument reads behind the call as it read before'; 0 by the template 'total and deterministic' (their statements: YtbfbnamkgcanbaaTotals.lean).
  GIVEN WITH THE SEED: the statements are not yours to turn. If you find one false, say at which input.
  Laid BY PROGRAM, IN A SANDBOX (cutbox-rows.mjs): the forced cells as the released guide's own fill.sh prints them over the translation 1661b7bf645a67fc… (all of the seat's roots in one cut). By AI agents, Wed Nov 11 2026. No macro, syntax, notation, axiom, sorry.
-/
import Derived.Test.YtbfbnamkgcanbaaChecked
import GoSem.Claim
import GoSem.ClaimJoined
import GoSem.ClaimMapViews
import Derived.JoinedTies
import Derived.KernelRfl
namespace Go.Proofs.Ytbfbnamkgcanbaa
/- THE CELL 'sum', in the pinned program and in every row, IS THE sha256 OF THE DUMP (.gsa) THAT YtbfbnamkgcanbaaProg.lean LOADS. Nothing in Lean hashes anything: it is a label: what it is worth is what the hold of that sum in a sandbox is worth. -/
noncomputable def Try.pinned : Pinned := { name := "ytbfbnamkgcanbaa", sum := "1661b7bf645a67fc4007a4662fe51e479d2c862f10adb0d333de30021aff79f1", checked := Try.checked }
namespace Rows
def none {H : Type} : Left H := { results := [], args := [] }

/-- 'laws.FnExactBalanced': WHATEVER THE INPUT: true; the input reads as it did. -/
def fnExactBalancedSpec : ChangeSpec := { name := "fnExactBalanced", fn := fun _ => fun
  | [d] => { results := [.lit (.bool true)], args := [d] }
  | _ => none }
def fnExactBalancedRow : OpenClaim := { program := "ytbfbnamkgcanbaa", sum := "1661b7bf645a67fc4007a4662fe51e479d2c862f10adb0d333de30021aff79f1", func := "loop.example/g00488/laws.FnExactBalanced", spec := "fnExactBalanced", apart := false }
def FnExactBalancedSaid : Prop := fnExactBalancedRow.holds Try.pinned (OpenSpec.ofChange fnExactBalancedSpec)

/-- ITS FALSE NEIGHBOUR: 'it returns false'. Refute it at one input. -/
def fnExactBalancedWrong : ChangeSpec := { name := "fnExactBalanced", fn := fun _ => fun
  | [d] => { results := [.lit (.bool false)], args := [d] }
  | _ => none }
def FnExactBalancedWrongFalsely : Prop := fnExactBalancedRow.holds Try.pinned (OpenSpec.ofChange fnExactBalancedWrong)

/-- 'laws.FnExactSameCache': WHATEVER THE INPUT: true; the input reads as it did. -/
def fnExactSameCacheSpec : ChangeSpec := { name := "fnExactSameCache", fn := fun _ => fun
  | [d1, d2] => { results := [.lit (.bool true)], args := [d1, d2] }
  | _ => none }
def fnExactSameCacheRow : OpenClaim := { program := "ytbfbnamkgcanbaa", sum := "1661b7bf645a67fc4007a4662fe51e479d2c862f10adb0d333de30021aff79f1", func := "loop.example/g00488/laws.FnExactSameCache", spec := "fnExactSameCache", apart := false }
def FnExactSameCacheSaid : Prop := fnExactSameCacheRow.holds Try.pinned (OpenSpec.ofChange fnExactSameCacheSpec)

/-- ITS FALSE NEIGHBOUR: 'it returns false'. Refute it at one input. -/
def fnExactSameCacheWrong : ChangeSpec := { name := "fnExactSameCache", fn := fun _ => fun
  | [d1, d2] => { results := [.lit (.bool false)], args := [d1, d2] }
  | _ => none }
def FnExactSameCacheWrongFalsely : Prop := fnExactSameCacheRow.holds Try.pinned (OpenSpec.ofChange fnExactSameCacheWrong)

/-- 'laws.FnBags': WHATEVER THE INPUT: true; the input reads as it did. -/
def fnBagsSpec : ChangeSpec := { name := "fnBags", fn := fun _ => fun
  | [d] => { results := [.lit (.bool true)], args := [d] }
  | _ => none }
def fnBagsRow : OpenClaim := { program := "ytbfbnamkgcanbaa", sum := "1661b7bf645a67fc4007a4662fe51e479d2c862f10adb0d333de30021aff79f1", func := "loop.example/g00488/laws.FnBags", spec := "fnBags", unfollowed := true, recurses := true, apart := false }
def FnBagsSaid : Prop := fnBagsRow.holds Try.pinned (OpenSpec.ofChange fnBagsSpec)

/-- ITS FALSE NEIGHBOUR: 'it returns false'. Refute it at one input. -/
def fnBagsWrong : ChangeSpec := { name := "fnBags", fn := fun _ => fun
  | [d] => { results := [.lit (.bool false)], args := [d] }
  | _ => none }
def FnBagsWrongFalsely : Prop := fnBagsRow.holds Try.pinned (OpenSpec.ofChange fnBagsWrong)

/-- 'laws.FnExactSameBag': WHATEVER THE INPUT: true; the input reads as it did. -/
def fnExactSameBagSpec : ChangeSpec := { name := "fnExactSameBag", fn := fun _ => fun
  | [d1, d2] => { results := [.lit (.bool true)], args := [d1, d2] }
  | _ => none }
def fnExactSameBagRow : OpenClaim := { program := "ytbfbnamkgcanbaa", sum := "1661b7bf645a67fc4007a4662fe51e479d2c862f10adb0d333de30021aff79f1", func := "loop.example/g00488/laws.FnExactSameBag", spec := "fnExactSameBag", unfollowed := true, recurses := true, apart := false }
def FnExactSameBagSaid : Prop := fnExactSameBagRow.holds Try.pinned (OpenSpec.ofChange fnExactSameBagSpec)

/-- ITS FALSE NEIGHBOUR: 'it returns false'. Refute it at one input. -/
def fnExactSameBagWrong : ChangeSpec := { name := "fnExactSameBag", fn := fun _ => fun
  | [d1, d2] => { results := [.lit (.bool false)], args := [d1, d2] }
  | _ => none }
def FnExactSameBagWrongFalsely : Prop := fnExactSameBagRow.holds Try.pinned (OpenSpec.ofChange fnExactSameBagWrong)

/-- 'laws.FnExactCodes': WHATEVER THE INPUT: true; the input reads as it did. -/
def fnExactCodesSpec : ChangeSpec := { name := "fnExactCodes", fn := fun _ => fun
  | [d1, d2] => { results := [.lit (.bool true)], args := [d1, d2] }
  | _ => none }
def fnExactCodesRow : OpenClaim := { program := "ytbfbnamkgcanbaa", sum := "1661b7bf645a67fc4007a4662fe51e479d2c862f10adb0d333de30021aff79f1", func := "loop.example/g00488/laws.FnExactCodes", spec := "fnExactCodes", apart := false }
def FnExactCodesSaid : Prop := fnExactCodesRow.holds Try.pinned (OpenSpec.ofChange fnExactCodesSpec)

/-- ITS FALSE NEIGHBOUR: 'it returns false'. Refute it at one input. -/
def fnExactCodesWrong : ChangeSpec := { name := "fnExactCodes", fn := fun _ => fun
  | [d1, d2] => { results := [.lit (.bool false)], args := [d1, d2] }
  | _ => none }
def FnExactCodesWrongFalsely : Prop := fnExactCodesRow.holds Try.pinned (OpenSpec.ofChange fnExactCodesWrong)

/-- 'laws.FnExactDroppedFor': WHATEVER THE INPUT: true; the input reads as it did. -/
def fnExactDroppedForSpec : ChangeSpec := { name := "fnExactDroppedFor", fn := fun _ => fun
  | [d] => { results := [.lit (.bool true)], args := [d] }
  | _ => none }
def fnExactDroppedForRow : OpenClaim := { program := "ytbfbnamkgcanbaa", sum := "1661b7bf645a67fc4007a4662fe51e479d2c862f10adb0d333de30021aff79f1", func := "loop.example/g00488/laws.FnExactDroppedFor", spec := "fnExactDroppedFor", apart := false }
def FnExactDroppedForSaid : Prop := fnExactDroppedForRow.holds Try.pinned (OpenSpec.ofChange fnExactDroppedForSpec)

/-- ITS FALSE NEIGHBOUR: 'it returns false'. Refute it at one input. -/
def fnExactDroppedForWrong : ChangeSpec := { name := "fnExactDroppedFor", fn := fun _ => fun
  | [d] => { results := [.lit (.bool false)], args := [d] }
  | _ => none }
def FnExactDroppedForWrongFalsely : Prop := fnExactDroppedForRow.holds Try.pinned (OpenSpec.ofChange fnExactDroppedForWrong)

/-- 'laws.FnExactInTime': WHATEVER THE INPUT: true; the input reads as it did. -/
def fnExactInTimeSpec : ChangeSpec := { name := "fnExactInTime", fn := fun _ => fun
  | [d] => { results := [.lit (.bool true)], args := [d] }
  | _ => none }
def fnExactInTimeRow : OpenClaim := { program := "ytbfbnamkgcanbaa", sum := "1661b7bf645a67fc4007a4662fe51e479d2c862f10adb0d333de30021aff79f1", func := "loop.example/g00488/laws.FnExactInTime", spec := "fnExactInTime", apart := false }
def FnExactInTimeSaid : Prop := fnExactInTimeRow.holds Try.pinned (OpenSpec.ofChange fnExactInTimeSpec)

/-- ITS FALSE NEIGHBOUR: 'it returns false'. Refute it at one input. -/
def fnExactInTimeWrong : ChangeSpec := { name := "fnExactInTime", fn := fun _ => fun
  | [d] => { results := [.lit (.bool false)], args := [d] }
  | _ => none }
def FnExactInTimeWrongFalsely : Prop := fnExactInTimeRow.holds Try.pinned (OpenSpec.ofChange fnExactInTimeWrong)

/-- 'laws.FnExactKept': WHATEVER THE INPUT: true; the input reads as it did. -/
def fnExactKeptSpec : ChangeSpec := { name := "fnExactKept", fn := fun _ => fun
  | [d1, d2] => { results := [.lit (.bool true)], args := [d1, d2] }
  | _ => none }
def fnExactKeptRow : OpenClaim := { program := "ytbfbnamkgcanbaa", sum := "1661b7bf645a67fc4007a4662fe51e479d2c862f10adb0d333de30021aff79f1", func := "loop.example/g00488/laws.FnExactKept", spec := "fnExactKept", unfollowed := true, recurses := true, apart := false }
def FnExactKeptSaid : Prop := fnExactKeptRow.holds Try.pinned (OpenSpec.ofChange fnExactKeptSpec)

/-- ITS FALSE NEIGHBOUR: 'it returns false'. Refute it at one input. -/
def fnExactKeptWrong : ChangeSpec := { name := "fnExactKept", fn := fun _ => fun
  | [d1, d2] => { results := [.lit (.bool false)], args := [d1, d2] }
  | _ => none }
def FnExactKeptWrongFalsely : Prop := fnExactKeptRow.holds Try.pinned (OpenSpec.ofChange fnExactKeptWrong)

/-- 'laws.FnExactKeptIn': WHATEVER THE INPUT: true; the input reads as it did. -/
def fnExactKeptInSpec : ChangeSpec := { name := "fnExactKeptIn", fn := fun _ => fun
  | [d1, d2, d3] => { results := [.lit (.bool true)], args := [d1, d2, d3] }
  | _ => none }
def fnExactKeptInRow : OpenClaim := { program := "ytbfbnamkgcanbaa", sum := "1661b7bf645a67fc4007a4662fe51e479d2c862f10adb0d333de30021aff79f1", func := "loop.example/g00488/laws.FnExactKeptIn", spec := "fnExactKeptIn", apart := false }
def FnExactKeptInSaid : Prop := fnExactKeptInRow.holds Try.pinned (OpenSpec.ofChange fnExactKeptInSpec)

/-- ITS FALSE NEIGHBOUR: 'it returns false'. Refute it at one input. -/
def fnExactKeptInWrong : ChangeSpec := { name := "fnExactKeptIn", fn := fun _ => fun
  | [d1, d2, d3] => { results := [.lit (.bool false)], args := [d1, d2, d3] }
  | _ => none }
def FnExactKeptInWrongFalsely : Prop := fnExactKeptInRow.holds Try.pinned (OpenSpec.ofChange fnExactKeptInWrong)

/-- 'laws.FnExactTookIn': WHATEVER THE INPUT: true; the input reads as it did. -/
def fnExactTookInSpec : ChangeSpec := { name := "fnExactTookIn", fn := fun _ => fun
  | [d1, d2, d3] => { results := [.lit (.bool true)], args := [d1, d2, d3] }
  | _ => none }
def fnExactTookInRow : OpenClaim := { program := "ytbfbnamkgcanbaa", sum := "1661b7bf645a67fc4007a4662fe51e479d2c862f10adb0d333de30021aff79f1", func := "loop.example/g00488/laws.FnExactTookIn", spec := "fnExactTookIn", apart := false }
def FnExactTookInSaid : Prop := fnExactTookInRow.holds Try.pinned (OpenSpec.ofChange fnExactTookInSpec)

/-- ITS FALSE NEIGHBOUR: 'it returns false'. Refute it at one input. -/
def fnExactTookInWrong : ChangeSpec := { name := "fnExactTookIn", fn := fun _ => fun
  | [d1, d2, d3] => { results := [.lit (.bool false)], args := [d1, d2, d3] }
  | _ => none }
def FnExactTookInWrongFalsely : Prop := fnExactTookInRow.holds Try.pinned (OpenSpec.ofChange fnExactTookInWrong)

/- THE SECOND FORM. 'bulk': how many values and letters a reading holds, each counted each time it is reached (what is shared counts as often as it is met; a slice's spare places count too). A statement '..UptoSaid' is the law's where the arguments, and the package variables that the reading takes, are together of bulk at most 1048576: NARROWER than '..Said'. Prove '..Said' where nothing that the law and all that it calls make is longer than what came in: it says more and counts as full. Else prove '..UptoSaid'. A law counts once. -/
mutual
def uptoBulk {H : Type} : DataW H → Nat
  | .lit (.string bytes) => bytes.length + 1
  | .lit _ => 1
  | .nil => 1
  | .ptr d => uptoBulk d + 1
  | .slice elems spare => uptoBulkAll elems + uptoBulkAll spare + 1
  | .agg parts => uptoBulkAll parts + 1
  | .iface _ d => uptoBulk d + 1
  | .map entries => uptoBulkEntries entries + 1
  | .held _ => 1
def uptoBulkAll {H : Type} : List (DataW H) → Nat
  | [] => 0
  | d :: r => uptoBulk d + uptoBulkAll r
def uptoBulkEntries {H : Type} : List (Lit × DataW H) → Nat
  | [] => 0
  | x :: r => uptoBulkEntry x + uptoBulkEntries r
def uptoBulkEntry {H : Type} : Lit × DataW H → Nat
  | (.string bytes, d) => bytes.length + uptoBulk d + 1
  | (_, d) => uptoBulk d + 1
 end
def uptoSmall : (H : Type) → List (DataW H) → Bool := fun _ ds => decide (uptoBulkAll ds ≤ 1048576)
def OpenSpec.upto (s : _root_.Go.ChangeSpec) : _root_.Go.OpenSpec := { _root_.Go.OpenSpec.ofChange s with cond := some uptoSmall }

/-- 'laws.FnExactBalanced', WHERE WHAT IT READS IS OF BULK AT MOST 1048576: true; the input reads as it did. -/
def fnExactBalancedUptoRow : OpenClaim := { program := "ytbfbnamkgcanbaa", sum := "1661b7bf645a67fc4007a4662fe51e479d2c862f10adb0d333de30021aff79f1", func := "loop.example/g00488/laws.FnExactBalanced", spec := "fnExactBalanced", apart := false, narrowed := true }
def FnExactBalancedUptoSaid : Prop := fnExactBalancedUptoRow.holds Try.pinned (OpenSpec.upto fnExactBalancedSpec)

/-- 'laws.FnExactSameCache', WHERE WHAT IT READS IS OF BULK AT MOST 1048576: true; the input reads as it did. -/
def fnExactSameCacheUptoRow : OpenClaim := { program := "ytbfbnamkgcanbaa", sum := "1661b7bf645a67fc4007a4662fe51e479d2c862f10adb0d333de30021aff79f1", func := "loop.example/g00488/laws.FnExactSameCache", spec := "fnExactSameCache", apart := false, narrowed := true }
def FnExactSameCacheUptoSaid : Prop := fnExactSameCacheUptoRow.holds Try.pinned (OpenSpec.upto fnExactSameCacheSpec)

/-- 'laws.FnBags', WHERE WHAT IT READS IS OF BULK AT MOST 1048576: true; the input reads as it did. -/
def fnBagsUptoRow : OpenClaim := { program := "ytbfbnamkgcanbaa", sum := "1661b7bf645a67fc4007a4662fe51e479d2c862f10adb0d333de30021aff79f1", func := "loop.example/g00488/laws.FnBags", spec := "fnBags", unfollowed := true, recurses := true, apart := false, narrowed := true }
def FnBagsUptoSaid : Prop := fnBagsUptoRow.holds Try.pinned (OpenSpec.upto fnBagsSpec)

/-- 'laws.FnExactSameBag', WHERE WHAT IT READS IS OF BULK AT MOST 1048576: true; the input reads as it did. -/
def fnExactSameBagUptoRow : OpenClaim := { program := "ytbfbnamkgcanbaa", sum := "1661b7bf645a67fc4007a4662fe51e479d2c862f10adb0d333de30021aff79f1", func := "loop.example/g00488/laws.FnExactSameBag", spec := "fnExactSameBag", unfollowed := true, recurses := true, apart := false, narrowed := true }
def FnExactSameBagUptoSaid : Prop := fnExactSameBagUptoRow.holds Try.pinned (OpenSpec.upto fnExactSameBagSpec)

/-- 'laws.FnExactCodes', WHERE WHAT IT READS IS OF BULK AT MOST 1048576: true; the input reads as it did. -/
def fnExactCodesUptoRow : OpenClaim := { program := "ytbfbnamkgcanbaa", sum := "1661b7bf645a67fc4007a4662fe51e479d2c862f10adb0d333de30021aff79f1", func := "loop.example/g00488/laws.FnExactCodes", spec := "fnExactCodes", apart := false, narrowed := true }
def FnExactCodesUptoSaid : Prop := fnExactCodesUptoRow.holds Try.pinned (OpenSpec.upto fnExactCodesSpec)

/-- 'laws.FnExactDroppedFor', WHERE WHAT IT READS IS OF BULK AT MOST 1048576: true; the input reads as it did. -/
def fnExactDroppedForUptoRow : OpenClaim := { program := "ytbfbnamkgcanbaa", sum := "1661b7bf645a67fc4007a4662fe51e479d2c862f10adb0d333de30021aff79f1", func := "loop.example/g00488/laws.FnExactDroppedFor", spec := "fnExactDroppedFor", apart := false, narrowed := true }
def FnExactDroppedForUptoSaid : Prop := fnExactDroppedForUptoRow.holds Try.pinned (OpenSpec.upto fnExactDroppedForSpec)

/-- 'laws.FnExactInTime', WHERE WHAT IT READS IS OF BULK AT MOST 1048576: true; the input reads as it did. -/
def fnExactInTimeUptoRow : OpenClaim := { program := "ytbfbnamkgcanbaa", sum := "1661b7bf645a67fc4007a4662fe51e479d2c862f10adb0d333de30021aff79f1", func := "loop.example/g00488/laws.FnExactInTime", spec := "fnExactInTime", apart := false, narrowed := true }
def FnExactInTimeUptoSaid : Prop := fnExactInTimeUptoRow.holds Try.pinned (OpenSpec.upto fnExactInTimeSpec)

/-- 'laws.FnExactKept', WHERE WHAT IT READS IS OF BULK AT MOST 1048576: true; the input reads as it did. -/
def fnExactKeptUptoRow : OpenClaim := { program := "ytbfbnamkgcanbaa", sum := "1661b7bf645a67fc4007a4662fe51e479d2c862f10adb0d333de30021aff79f1", func := "loop.example/g00488/laws.FnExactKept", spec := "fnExactKept", unfollowed := true, recurses := true, apart := false, narrowed := true }
def FnExactKeptUptoSaid : Prop := fnExactKeptUptoRow.holds Try.pinned (OpenSpec.upto fnExactKeptSpec)

/-- 'laws.FnExactKeptIn', WHERE WHAT IT READS IS OF BULK AT MOST 1048576: true; the input reads as it did. -/
def fnExactKeptInUptoRow : OpenClaim := { program := "ytbfbnamkgcanbaa", sum := "1661b7bf645a67fc4007a4662fe51e479d2c862f10adb0d333de30021aff79f1", func := "loop.example/g00488/laws.FnExactKeptIn", spec := "fnExactKeptIn", apart := false, narrowed := true }
def FnExactKeptInUptoSaid : Prop := fnExactKeptInUptoRow.holds Try.pinned (OpenSpec.upto fnExactKeptInSpec)

/-- 'laws.FnExactTookIn', WHERE WHAT IT READS IS OF BULK AT MOST 1048576: true; the input reads as it did. -/
def fnExactTookInUptoRow : OpenClaim := { program := "ytbfbnamkgcanbaa", sum := "1661b7bf645a67fc4007a4662fe51e479d2c862f10adb0d333de30021aff79f1", func := "loop.example/g00488/laws.FnExactTookIn", spec := "fnExactTookIn", apart := false, narrowed := true }
def FnExactTookInUptoSaid : Prop := fnExactTookInUptoRow.holds Try.pinned (OpenSpec.upto fnExactTookInSpec)

end Rows
end Go.Proofs.Ytbfbnamkgcanbaa
