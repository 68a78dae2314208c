/-
  No cell of these rows narrows 'for every input' (looked for: loops, veiled, ifaces, maps, wideKeys, modest, calm, conditions, laid).
  DERIVED. THE GIVEN ROWS OF THIS SEAT. 4 by the template 'for every input the law returns true; each argument reads behind the call as it read before'; 0 by the template 'total and deterministic' (their statements: YtdjlkhhgaaddpaaGreatTotals.lean).
  GIVEN WITH THE SEED: the statements are not yours to turn. If you find one false, say at which input.
  Laid BY PROGRAM, IN A SANDBOX (cutbox-rows.mjs): the forced cells as the released guide's own fill.sh prints them over the translation 18edcf55b5140e98… (all of the seat's roots in one cut). By AI agents, Wed Nov 11 2026. No macro, syntax, notation, axiom, sorry.
-/
import Derived.Test.YtdjlkhhgaaddpaaGreatChecked
import GoSem.Claim
import GoSem.ClaimJoined
import GoSem.ClaimMapViews
import Derived.JoinedTies
import Derived.KernelRfl
namespace Go.Proofs.YtdjlkhhgaaddpaaGreat
/- THE CELL 'sum', in the pinned program and in every row, IS THE sha256 OF THE DUMP (.gsa) THAT YtdjlkhhgaaddpaaGreatProg.lean LOADS. Nothing in Lean hashes anything: it is a label: what it is worth is what the hold of that sum in a sandbox is worth. -/
noncomputable def Tryz.pinned : Pinned := { name := "ytdjlkhhgaaddpaagreat", sum := "18edcf55b5140e987529e4afbca69ff01a2f3813e3075d68b4284f2f15478f27", checked := Tryz.checked }
namespace Rows
def none {H : Type} : Left H := { results := [], args := [] }

/-- 'laws.FnCodesTold': WHATEVER THE INPUT: true; the input reads as it did. -/
def fnCodesToldSpec : ChangeSpec := { name := "fnCodesTold", fn := fun _ => fun
  | [d] => { results := [.lit (.bool true)], args := [d] }
  | _ => none }
def fnCodesToldRow : OpenClaim := { program := "ytdjlkhhgaaddpaagreat", sum := "18edcf55b5140e987529e4afbca69ff01a2f3813e3075d68b4284f2f15478f27", func := "loop.example/g00488/laws.FnCodesTold", spec := "fnCodesTold", unfollowed := true, recurses := true, apart := false }
def FnCodesToldSaid : Prop := fnCodesToldRow.holds Tryz.pinned (OpenSpec.ofChange fnCodesToldSpec)

/-- ITS FALSE NEIGHBOUR: 'it returns false'. Refute it at one input. -/
def fnCodesToldWrong : ChangeSpec := { name := "fnCodesTold", fn := fun _ => fun
  | [d] => { results := [.lit (.bool false)], args := [d] }
  | _ => none }
def FnCodesToldWrongFalsely : Prop := fnCodesToldRow.holds Tryz.pinned (OpenSpec.ofChange fnCodesToldWrong)

/-- 'laws.FnForgotten': WHATEVER THE INPUT: true; the input reads as it did. -/
def fnForgottenSpec : ChangeSpec := { name := "fnForgotten", fn := fun _ => fun
  | [d] => { results := [.lit (.bool true)], args := [d] }
  | _ => none }
def fnForgottenRow : OpenClaim := { program := "ytdjlkhhgaaddpaagreat", sum := "18edcf55b5140e987529e4afbca69ff01a2f3813e3075d68b4284f2f15478f27", func := "loop.example/g00488/laws.FnForgotten", spec := "fnForgotten", unfollowed := true, recurses := true, apart := false }
def FnForgottenSaid : Prop := fnForgottenRow.holds Tryz.pinned (OpenSpec.ofChange fnForgottenSpec)

/-- ITS FALSE NEIGHBOUR: 'it returns false'. Refute it at one input. -/
def fnForgottenWrong : ChangeSpec := { name := "fnForgotten", fn := fun _ => fun
  | [d] => { results := [.lit (.bool false)], args := [d] }
  | _ => none }
def FnForgottenWrongFalsely : Prop := fnForgottenRow.holds Tryz.pinned (OpenSpec.ofChange fnForgottenWrong)

/-- 'laws.FnStillHeld': WHATEVER THE INPUT: true; the input reads as it did. -/
def fnStillHeldSpec : ChangeSpec := { name := "fnStillHeld", fn := fun _ => fun
  | [d] => { results := [.lit (.bool true)], args := [d] }
  | _ => none }
def fnStillHeldRow : OpenClaim := { program := "ytdjlkhhgaaddpaagreat", sum := "18edcf55b5140e987529e4afbca69ff01a2f3813e3075d68b4284f2f15478f27", func := "loop.example/g00488/laws.FnStillHeld", spec := "fnStillHeld", unfollowed := true, recurses := true, apart := false }
def FnStillHeldSaid : Prop := fnStillHeldRow.holds Tryz.pinned (OpenSpec.ofChange fnStillHeldSpec)

/-- ITS FALSE NEIGHBOUR: 'it returns false'. Refute it at one input. -/
def fnStillHeldWrong : ChangeSpec := { name := "fnStillHeld", fn := fun _ => fun
  | [d] => { results := [.lit (.bool false)], args := [d] }
  | _ => none }
def FnStillHeldWrongFalsely : Prop := fnStillHeldRow.holds Tryz.pinned (OpenSpec.ofChange fnStillHeldWrong)

/-- 'laws.FnOnceSaid': WHATEVER THE INPUT: true; the input reads as it did. -/
def fnOnceSaidSpec : ChangeSpec := { name := "fnOnceSaid", fn := fun _ => fun
  | [d] => { results := [.lit (.bool true)], args := [d] }
  | _ => none }
def fnOnceSaidRow : OpenClaim := { program := "ytdjlkhhgaaddpaagreat", sum := "18edcf55b5140e987529e4afbca69ff01a2f3813e3075d68b4284f2f15478f27", func := "loop.example/g00488/laws.FnOnceSaid", spec := "fnOnceSaid", unfollowed := true, recurses := true, apart := false }
def FnOnceSaidSaid : Prop := fnOnceSaidRow.holds Tryz.pinned (OpenSpec.ofChange fnOnceSaidSpec)

/-- ITS FALSE NEIGHBOUR: 'it returns false'. Refute it at one input. -/
def fnOnceSaidWrong : ChangeSpec := { name := "fnOnceSaid", fn := fun _ => fun
  | [d] => { results := [.lit (.bool false)], args := [d] }
  | _ => none }
def FnOnceSaidWrongFalsely : Prop := fnOnceSaidRow.holds Tryz.pinned (OpenSpec.ofChange fnOnceSaidWrong)

/- THE SECOND FORM. 'bulk': how many values and letters a reading holds, each counted each time it is reached (what is shared counts as often as it is met; a slice's spare places count too). A statement '..UptoSaid' is the law's where the arguments, and the package variables that the reading takes, are together of bulk at most 1048576: NARROWER than '..Said'. Prove '..Said' where nothing that the law and all that it calls make is longer than what came in: it says more and counts as full. Else prove '..UptoSaid'. A law counts once. -/
mutual
def uptoBulk {H : Type} : DataW H → Nat
  | .lit (.string bytes) => bytes.length + 1
  | .lit _ => 1
  | .nil => 1
  | .ptr d => uptoBulk d + 1
  | .slice elems spare => uptoBulkAll elems + uptoBulkAll spare + 1
  | .agg parts => uptoBulkAll parts + 1
  | .iface _ d => uptoBulk d + 1
  | .map entries => uptoBulkEntries entries + 1
  | .held _ => 1
def uptoBulkAll {H : Type} : List (DataW H) → Nat
  | [] => 0
  | d :: r => uptoBulk d + uptoBulkAll r
def uptoBulkEntries {H : Type} : List (Lit × DataW H) → Nat
  | [] => 0
  | x :: r => uptoBulkEntry x + uptoBulkEntries r
def uptoBulkEntry {H : Type} : Lit × DataW H → Nat
  | (.string bytes, d) => bytes.length + uptoBulk d + 1
  | (_, d) => uptoBulk d + 1
 end
def uptoSmall : (H : Type) → List (DataW H) → Bool := fun _ ds => decide (uptoBulkAll ds ≤ 1048576)
def OpenSpec.upto (s : _root_.Go.ChangeSpec) : _root_.Go.OpenSpec := { _root_.Go.OpenSpec.ofChange s with cond := some uptoSmall }

/-- 'laws.FnCodesTold', WHERE WHAT IT READS IS OF BULK AT MOST 1048576: true; the input reads as it did. -/
def fnCodesToldUptoRow : OpenClaim := { program := "ytdjlkhhgaaddpaagreat", sum := "18edcf55b5140e987529e4afbca69ff01a2f3813e3075d68b4284f2f15478f27", func := "loop.example/g00488/laws.FnCodesTold", spec := "fnCodesTold", unfollowed := true, recurses := true, apart := false, narrowed := true }
def FnCodesToldUptoSaid : Prop := fnCodesToldUptoRow.holds Tryz.pinned (OpenSpec.upto fnCodesToldSpec)

/-- 'laws.FnForgotten', WHERE WHAT IT READS IS OF BULK AT MOST 1048576: true; the input reads as it did. -/
def fnForgottenUptoRow : OpenClaim := { program := "ytdjlkhhgaaddpaagreat", sum := "18edcf55b5140e987529e4afbca69ff01a2f3813e3075d68b4284f2f15478f27", func := "loop.example/g00488/laws.FnForgotten", spec := "fnForgotten", unfollowed := true, recurses := true, apart := false, narrowed := true }
def FnForgottenUptoSaid : Prop := fnForgottenUptoRow.holds Tryz.pinned (OpenSpec.upto fnForgottenSpec)

/-- 'laws.FnStillHeld', WHERE WHAT IT READS IS OF BULK AT MOST 1048576: true; the input reads as it did. -/
def fnStillHeldUptoRow : OpenClaim := { program := "ytdjlkhhgaaddpaagreat", sum := "18edcf55b5140e987529e4afbca69ff01a2f3813e3075d68b4284f2f15478f27", func := "loop.example/g00488/laws.FnStillHeld", spec := "fnStillHeld", unfollowed := true, recurses := true, apart := false, narrowed := true }
def FnStillHeldUptoSaid : Prop := fnStillHeldUptoRow.holds Tryz.pinned (OpenSpec.upto fnStillHeldSpec)

/-- 'laws.FnOnceSaid', WHERE WHAT IT READS IS OF BULK AT MOST 1048576: true; the input reads as it did. -/
def fnOnceSaidUptoRow : OpenClaim := { program := "ytdjlkhhgaaddpaagreat", sum := "18edcf55b5140e987529e4afbca69ff01a2f3813e3075d68b4284f2f15478f27", func := "loop.example/g00488/laws.FnOnceSaid", spec := "fnOnceSaid", unfollowed := true, recurses := true, apart := false, narrowed := true }
def FnOnceSaidUptoSaid : Prop := fnOnceSaidUptoRow.holds Tryz.pinned (OpenSpec.upto fnOnceSaidSpec)

end Rows
end Go.Proofs.YtdjlkhhgaaddpaaGreat
