/- strconv.Itoa at this seat. -/
import Derived.Test.YtdjlkhhgaaddpaaGreatDoorLItoaT
import Derived.Test.YtdjlkhhgaaddpaaGreatDoorLTabsSD
import Derived.Test.YtdjlkhhgaaddpaaGreatDoorTryzSh
namespace Go.Proofs.Tryz.Ev
open Go Go.Ev
theorem c_itoa (n:Int):FnOk prog 38 [.one (.v (.int .i64 n))] ⟨.one (.v (.string (itoaS n))),[],[],false⟩ :=
 itoa_contract Tryz.laysM171 (gl:=0) (by kernel_rfl) ⟨_,func38,by kernel_rfl,by kernel_rfl⟩ n
end Go.Proofs.Tryz.Ev
