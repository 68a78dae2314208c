/- strconv.Itoa at this seat. -/
import Derived.Test.YtbfbnamkgcanbaaDoorLItoaT
import Derived.Test.YtbfbnamkgcanbaaDoorLTabsD
import Derived.Test.YtbfbnamkgcanbaaDoorTrydShelfP
namespace Go.Proofs.Tryd.Ev
open Go Go.Ev
theorem c_itoa (n : Int) : FnOk prog 21 [.one (.v (.int .i64 n))] ⟨.one (.v (.string (itoaS n))), [], [], false⟩ :=
  itoa_contract Tryd.lays171 (gl := 0) (by kernel_rfl) ⟨_, func21, by kernel_rfl, by kernel_rfl⟩ n
end Go.Proofs.Tryd.Ev
