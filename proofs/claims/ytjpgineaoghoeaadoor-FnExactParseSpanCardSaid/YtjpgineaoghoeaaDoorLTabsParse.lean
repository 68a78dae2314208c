/- The types of the seat. -/
import Derived.Test.YtjpgineaoghoeaaDoorEvZ
import Derived.Test.YtjpgineaoghoeaaDoorProg
namespace Go.Proofs.Tryd.Ev
open Go Go.Ev
set_option maxRecDepth 100000
def ti3 : TI := { size := 1, kind := 0, zero := [.v (.int .i64 0)], offs := [], fsz := [], elem := 0, esz := 0, bytes := 8, ik := some .i64 }
def ti4 : TI := { size := 1, kind := 3, zero := [.v (.bool false)], offs := [], fsz := [], elem := 0, esz := 0, bytes := 1, ik := none }
def ti5 : TI := { size := 1, kind := 0, zero := [.v (.int .u8 0)], offs := [], fsz := [], elem := 0, esz := 0, bytes := 1, ik := some .u8 }
def ti9 : TI := { size := 1, kind := 4, zero := [.v (.string ByteArray.empty)], offs := [], fsz := [], elem := 0, esz := 0, bytes := 16, ik := none }
def ti22 : TI := { size := 1, kind := 2, zero := [.s true 4 []], offs := [], fsz := [], elem := 46, esz := 4, bytes := 24, ik := none }
def ti24 : TI := { size := 6, kind := 1, zero := [.v (.int .i64 0), .v (.int .i64 0), .v (.int .i64 0), .v (.int .i64 0), .v (.bool false), .s true 4 []], offs := [0, 1, 2, 3, 4, 5], fsz := [1, 1, 1, 1, 1, 1], elem := 0, esz := 0, bytes := 64, ik := none }
def ti37 : TI := { size := 1, kind := 0, zero := [.v (.pointer none)], offs := [], fsz := [], elem := 0, esz := 0, bytes := 8, ik := none }
def ti39 : TI := { size := 3, kind := 1, zero := [.v (.string ByteArray.empty), .v (.int .i64 0), .v (.bool false)], offs := [0, 1, 2], fsz := [1, 1, 1], elem := 0, esz := 0, bytes := 32, ik := none }
def ti46 : TI := { size := 4, kind := 1, zero := [.v (.string ByteArray.empty), .v (.bool false), .v (.int .i64 0), .v (.string ByteArray.empty)], offs := [0, 1, 2, 3], fsz := [1, 1, 1, 1], elem := 0, esz := 0, bytes := 48, ik := none }
def ti76 : TI := { size := 1, kind := 0, zero := [.v .nilIface], offs := [], fsz := [], elem := 0, esz := 0, bytes := 16, ik := none }
def ti86 : TI := { size := 1, kind := 2, zero := [.s true 1 []], offs := [], fsz := [], elem := 5, esz := 1, bytes := 24, ik := none }
def eq39 : List CK := [.s, .i .i64, .b]
def eq46 : List CK := [.s, .b, .i .i64, .s]
def tabs : Tb TI := (.n (.n (.n (.n .e 3 ti3 .e) 4 ti4 .e) 5 ti5 (.n (.n .e 9 ti9 .e) 22 ti22 .e)) 24 ti24 (.n (.n (.n .e 37 ti37 .e) 39 ti39 .e) 46 ti46 (.n (.n .e 76 ti76 .e) 86 ti86 .e)))
def eqts : Tb (List CK) := (.n (.n .e 39 eq39 .e) 46 eq46 .e)
noncomputable def env : Env := envWith Go.Proofs.Tryd.prog tabs eqts
theorem wide : env.P.follows .mixedOrders = true := by kernel_rfl
theorem tab_t3 : tiOf Go.Proofs.Tryd.prog 3 = some ti3 := by kernel_rfl
theorem tab_t4 : tiOf Go.Proofs.Tryd.prog 4 = some ti4 := by kernel_rfl
theorem tab_t5 : tiOf Go.Proofs.Tryd.prog 5 = some ti5 := by kernel_rfl
theorem tab_t9 : tiOf Go.Proofs.Tryd.prog 9 = some ti9 := by kernel_rfl
theorem tab_t22 : tiOf Go.Proofs.Tryd.prog 22 = some ti22 := by kernel_rfl
theorem tab_t24 : tiOf Go.Proofs.Tryd.prog 24 = some ti24 := by kernel_rfl
theorem tab_t37 : tiOf Go.Proofs.Tryd.prog 37 = some ti37 := by kernel_rfl
theorem tab_t39 : tiOf Go.Proofs.Tryd.prog 39 = some ti39 := by kernel_rfl
theorem tab_t46 : tiOf Go.Proofs.Tryd.prog 46 = some ti46 := by kernel_rfl
theorem tab_t76 : tiOf Go.Proofs.Tryd.prog 76 = some ti76 := by kernel_rfl
theorem tab_t86 : tiOf Go.Proofs.Tryd.prog 86 = some ti86 := by kernel_rfl
theorem tab_e39 : eqOf Go.Proofs.Tryd.prog 39 = some eq39 := by kernel_rfl
theorem tab_e46 : eqOf Go.Proofs.Tryd.prog 46 = some eq46 := by kernel_rfl
theorem envOk : EnvOk env := envWith_ok (show tabs.All _ from ⟨⟨⟨⟨trivial, tab_t3, trivial⟩, tab_t4, trivial⟩, tab_t5, ⟨⟨trivial, tab_t9, trivial⟩, tab_t22, trivial⟩⟩, tab_t24, ⟨⟨⟨trivial, tab_t37, trivial⟩, tab_t39, trivial⟩, tab_t46, ⟨⟨trivial, tab_t76, trivial⟩, tab_t86, trivial⟩⟩⟩) (show eqts.All _ from ⟨⟨trivial, tab_e39, trivial⟩, tab_e46, trivial⟩)
end Go.Proofs.Tryd.Ev
