/- The types of the seat. -/
import Derived.Test.YtalbniledlbogaaEvZ
import Derived.Test.YtalbniledlbogaaProg
namespace Go.Proofs.Try.Ev
open Go Go.Ev
set_option maxRecDepth 100000
def ti3 : TI := { size := 1, kind := 0, zero := [.v (.int .i64 0)], offs := [], fsz := [], elem := 0, esz := 0, bytes := 8, ik := some .i64 }
def ti4 : TI := { size := 1, kind := 3, zero := [.v (.bool false)], offs := [], fsz := [], elem := 0, esz := 0, bytes := 1, ik := none }
def ti5 : TI := { size := 1, kind := 0, zero := [.v (.int .u8 0)], offs := [], fsz := [], elem := 0, esz := 0, bytes := 1, ik := some .u8 }
def ti9 : TI := { size := 1, kind := 4, zero := [.v (.string ByteArray.empty)], offs := [], fsz := [], elem := 0, esz := 0, bytes := 16, ik := none }
def ti24 : TI := { size := 1, kind := 2, zero := [.s true 1 []], offs := [], fsz := [], elem := 3, esz := 1, bytes := 24, ik := none }
def ti69 : TI := { size := 1, kind := 2, zero := [.s true 6 []], offs := [], fsz := [], elem := 92, esz := 6, bytes := 24, ik := none }
def ti86 : TI := { size := 1, kind := 2, zero := [.s true 1 []], offs := [], fsz := [], elem := 5, esz := 1, bytes := 24, ik := none }
def ti90 : TI := { size := 1, kind := 2, zero := [.s true 4 []], offs := [], fsz := [], elem := 162, esz := 4, bytes := 24, ik := none }
def ti92 : TI := { size := 6, kind := 1, zero := [.v (.int .i64 0), .v (.int .i64 0), .v (.int .i64 0), .v (.int .i64 0), .v (.bool false), .s true 4 []], offs := [0, 1, 2, 3, 4, 5], fsz := [1, 1, 1, 1, 1, 1], elem := 0, esz := 0, bytes := 64, ik := none }
def ti147 : TI := { size := 1, kind := 0, zero := [.v (.pointer none)], offs := [], fsz := [], elem := 0, esz := 0, bytes := 8, ik := none }
def ti154 : TI := { size := 1, kind := 0, zero := [.v .nilFunc], offs := [], fsz := [], elem := 0, esz := 0, bytes := 8, ik := none }
def ti162 : TI := { size := 4, kind := 1, zero := [.v (.string ByteArray.empty), .v (.bool false), .v (.int .i64 0), .v (.string ByteArray.empty)], offs := [0, 1, 2, 3], fsz := [1, 1, 1, 1], elem := 0, esz := 0, bytes := 48, ik := none }
def ti210 : TI := { size := 3, kind := 1, zero := [.s true 1 [], .v (.int .i64 0), .v (.int .i64 0)], offs := [0, 1, 2], fsz := [1, 1, 1], elem := 0, esz := 0, bytes := 40, ik := none }
def ti234 : TI := { size := 1, kind := 2, zero := [.s true 1 []], offs := [], fsz := [], elem := 9, esz := 1, bytes := 24, ik := none }
def eq162 : List CK := [.s, .b, .i .i64, .s]
def tabs : Tb TI := (.n (.n (.n (.n .e 3 ti3 .e) 4 ti4 (.n .e 5 ti5 .e)) 9 ti9 (.n (.n .e 24 ti24 .e) 69 ti69 (.n .e 86 ti86 .e))) 90 ti90 (.n (.n (.n .e 92 ti92 .e) 147 ti147 (.n .e 154 ti154 .e)) 162 ti162 (.n (.n .e 210 ti210 .e) 234 ti234 .e)))
def eqts : Tb (List CK) := (.n .e 162 eq162 .e)
noncomputable def env : Env := envWith Go.Proofs.Try.prog tabs eqts
theorem wide : env.P.follows .mixedOrders = true := by kernel_rfl
theorem tab_t3 : tiOf Go.Proofs.Try.prog 3 = some ti3 := by kernel_rfl
theorem tab_t4 : tiOf Go.Proofs.Try.prog 4 = some ti4 := by kernel_rfl
theorem tab_t5 : tiOf Go.Proofs.Try.prog 5 = some ti5 := by kernel_rfl
theorem tab_t9 : tiOf Go.Proofs.Try.prog 9 = some ti9 := by kernel_rfl
theorem tab_t24 : tiOf Go.Proofs.Try.prog 24 = some ti24 := by kernel_rfl
theorem tab_t69 : tiOf Go.Proofs.Try.prog 69 = some ti69 := by kernel_rfl
theorem tab_t86 : tiOf Go.Proofs.Try.prog 86 = some ti86 := by kernel_rfl
theorem tab_t90 : tiOf Go.Proofs.Try.prog 90 = some ti90 := by kernel_rfl
theorem tab_t92 : tiOf Go.Proofs.Try.prog 92 = some ti92 := by kernel_rfl
theorem tab_t147 : tiOf Go.Proofs.Try.prog 147 = some ti147 := by kernel_rfl
theorem tab_t154 : tiOf Go.Proofs.Try.prog 154 = some ti154 := by kernel_rfl
theorem tab_t162 : tiOf Go.Proofs.Try.prog 162 = some ti162 := by kernel_rfl
theorem tab_t210 : tiOf Go.Proofs.Try.prog 210 = some ti210 := by kernel_rfl
theorem tab_t234 : tiOf Go.Proofs.Try.prog 234 = some ti234 := by kernel_rfl
theorem tab_e162 : eqOf Go.Proofs.Try.prog 162 = some eq162 := by kernel_rfl
theorem envOk : EnvOk env := envWith_ok (show tabs.All _ from ⟨⟨⟨⟨trivial, tab_t3, trivial⟩, tab_t4, ⟨trivial, tab_t5, trivial⟩⟩, tab_t9, ⟨⟨trivial, tab_t24, trivial⟩, tab_t69, ⟨trivial, tab_t86, trivial⟩⟩⟩, tab_t90, ⟨⟨⟨trivial, tab_t92, trivial⟩, tab_t147, ⟨trivial, tab_t154, trivial⟩⟩, tab_t162, ⟨⟨trivial, tab_t210, trivial⟩, tab_t234, trivial⟩⟩⟩) (show eqts.All _ from ⟨trivial, tab_e162, trivial⟩)
end Go.Proofs.Try.Ev
