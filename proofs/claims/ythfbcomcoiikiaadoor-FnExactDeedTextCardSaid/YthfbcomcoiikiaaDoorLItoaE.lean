/- strconv.Itoa at this seat. -/
import Derived.Test.YthfbcomcoiikiaaDoorLItoaT
import Derived.Test.YthfbcomcoiikiaaDoorLTabsE
import Derived.Test.YthfbcomcoiikiaaDoorTryeShelfP
namespace Go.Proofs.Tryd.Ev
open Go Go.Ev
theorem c_itoa (n : Int) : FnOk prog 28 [.one (.v (.int .i64 n))] ⟨.one (.v (.string (itoaS n))), [], [], false⟩ :=
  itoa_contract Tryd.lays171 (gl := 0) (by kernel_rfl) ⟨_, func28, by kernel_rfl, by kernel_rfl⟩ n
end Go.Proofs.Tryd.Ev
