/- slices.Sort and slices.Compact at this seat. -/
import Derived.Test.YtalbniledlbogaaEvSrt
import Derived.Test.YtalbniledlbogaaLTabsStamps
import Derived.Test.YtalbniledlbogaaTryShelfP
namespace Go.Proofs.Try.Ev
open Go Go.Ev
theorem c_sort (l : List Int) (hl : l.length < 4611686018427387904) : FnOk prog 42 [.tup [.one (.s true 1 (l.map cInt))]] ⟨.tup [], [.one (.s true 1 ((sortI l).map cInt))], [], false⟩ :=
  FnOk.sortInts ⟨_, func42, by kernel_rfl, by kernel_rfl⟩ Try.slices_Sort_int Try.slices_Sort_int_none l hl
theorem c_compact (l : List Int) : FnOk prog 43 [.tup [.one (.s true 1 (l.map cInt))]] ⟨.one (.s true 1 ((Lib.compact l).map cInt)), [.one .h], [], false⟩ :=
  FnOk.compactInts ⟨_, func43, by kernel_rfl, by kernel_rfl⟩ Try.slices_Compact_int Try.slices_Compact_int_empty l
end Go.Proofs.Try.Ev
