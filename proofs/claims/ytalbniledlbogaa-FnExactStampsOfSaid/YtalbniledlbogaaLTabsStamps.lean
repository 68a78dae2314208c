/- The types of the seat. -/
import Derived.Test.YtalbniledlbogaaEvZ
import Derived.Test.YtalbniledlbogaaProg
namespace Go.Proofs.Try.Ev
open Go Go.Ev
set_option maxRecDepth 100000
def ti3 : TI := { size := 1, kind := 0, zero := [.v (.int .i64 0)], offs := [], fsz := [], elem := 0, esz := 0, bytes := 8, ik := some .i64 }
def ti4 : TI := { size := 1, kind := 3, zero := [.v (.bool false)], offs := [], fsz := [], elem := 0, esz := 0, bytes := 1, ik := none }
def ti5 : TI := { size := 1, kind := 0, zero := [.v (.int .u8 0)], offs := [], fsz := [], elem := 0, esz := 0, bytes := 1, ik := some .u8 }
def ti9 : TI := { size := 1, kind := 4, zero := [.v (.string ByteArray.empty)], offs := [], fsz := [], elem := 0, esz := 0, bytes := 16, ik := none }
def ti22 : TI := { size := 1, kind := 2, zero := [.s true 20 []], offs := [], fsz := [], elem := 98, esz := 20, bytes := 24, ik := none }
def ti24 : TI := { size := 1, kind := 2, zero := [.s true 1 []], offs := [], fsz := [], elem := 3, esz := 1, bytes := 24, ik := none }
def ti26 : TI := { size := 1, kind := 2, zero := [.s true 20 []], offs := [], fsz := [], elem := 100, esz := 20, bytes := 24, ik := none }
def ti86 : TI := { size := 1, kind := 2, zero := [.s true 1 []], offs := [], fsz := [], elem := 5, esz := 1, bytes := 24, ik := none }
def ti90 : TI := { size := 1, kind := 2, zero := [.s true 4 []], offs := [], fsz := [], elem := 162, esz := 4, bytes := 24, ik := none }
def ti92 : TI := { size := 6, kind := 1, zero := [.v (.int .i64 0), .v (.int .i64 0), .v (.int .i64 0), .v (.int .i64 0), .v (.bool false), .s true 4 []], offs := [0, 1, 2, 3, 4, 5], fsz := [1, 1, 1, 1, 1, 1], elem := 0, esz := 0, bytes := 64, ik := none }
def ti94 : TI := { size := 1, kind := 2, zero := [.s true 4 []], offs := [], fsz := [], elem := 237, esz := 4, bytes := 24, ik := none }
def ti96 : TI := { size := 6, kind := 1, zero := [.v (.int .i64 0), .v (.int .i64 0), .v (.int .i64 0), .v (.int .i64 0), .v (.bool false), .s true 4 []], offs := [0, 1, 2, 3, 4, 5], fsz := [1, 1, 1, 1, 1, 1], elem := 0, esz := 0, bytes := 64, ik := none }
def ti98 : TI := { size := 20, kind := 1, zero := [.v (.int .i64 0), .v (.int .i64 0), .v (.int .i64 0), .v (.int .i64 0), .v (.int .i64 0), .v (.int .i64 0), .v (.bool false), .s true 4 [], .v (.int .i64 0), .v (.int .i64 0), .v (.int .i64 0), .v (.bool false), .v (.bool false), .v (.int .i64 0), .v (.int .i64 0), .v (.int .i64 0), .v (.int .i64 0), .v (.int .i64 0), .v (.int .i64 0), .v (.int .i64 0)], offs := [0, 1, 2, 8, 9, 10, 11, 12, 13, 14, 15, 16, 17, 18, 19], fsz := [1, 1, 6, 1, 1, 1, 1, 1, 1, 1, 1, 1, 1, 1, 1], elem := 0, esz := 0, bytes := 168, ik := none }
def ti100 : TI := { size := 20, kind := 1, zero := [.v (.int .i64 0), .v (.int .i64 0), .v (.int .i64 0), .v (.int .i64 0), .v (.int .i64 0), .v (.int .i64 0), .v (.bool false), .s true 4 [], .v (.int .i64 0), .v (.int .i64 0), .v (.int .i64 0), .v (.bool false), .v (.bool false), .v (.int .i64 0), .v (.int .i64 0), .v (.int .i64 0), .v (.int .i64 0), .v (.int .i64 0), .v (.int .i64 0), .v (.int .i64 0)], offs := [0, 1, 2, 8, 9, 10, 11, 12, 13, 14, 15, 16, 17, 18, 19], fsz := [1, 1, 6, 1, 1, 1, 1, 1, 1, 1, 1, 1, 1, 1, 1], elem := 0, esz := 0, bytes := 168, ik := none }
def ti159 : TI := { size := 1, kind := 0, zero := [.v (.int .u64 0)], offs := [], fsz := [], elem := 0, esz := 0, bytes := 8, ik := some .u64 }
def ti162 : TI := { size := 4, kind := 1, zero := [.v (.string ByteArray.empty), .v (.bool false), .v (.int .i64 0), .v (.string ByteArray.empty)], offs := [0, 1, 2, 3], fsz := [1, 1, 1, 1], elem := 0, esz := 0, bytes := 48, ik := none }
def ti237 : TI := { size := 4, kind := 1, zero := [.v (.string ByteArray.empty), .v (.bool false), .v (.int .i64 0), .v (.string ByteArray.empty)], offs := [0, 1, 2, 3], fsz := [1, 1, 1, 1], elem := 0, esz := 0, bytes := 48, ik := none }
def eq162 : List CK := [.s, .b, .i .i64, .s]
def eq237 : List CK := [.s, .b, .i .i64, .s]
def tabs : Tb TI := (.n (.n (.n (.n (.n .e 3 ti3 .e) 4 ti4 .e) 5 ti5 (.n .e 9 ti9 .e)) 22 ti22 (.n (.n .e 24 ti24 .e) 26 ti26 (.n .e 86 ti86 .e))) 90 ti90 (.n (.n (.n (.n .e 92 ti92 .e) 94 ti94 .e) 96 ti96 (.n .e 98 ti98 .e)) 100 ti100 (.n (.n .e 159 ti159 .e) 162 ti162 (.n .e 237 ti237 .e))))
def eqts : Tb (List CK) := (.n (.n .e 162 eq162 .e) 237 eq237 .e)
noncomputable def env : Env := envWith Go.Proofs.Try.prog tabs eqts
theorem wide : env.P.follows .mixedOrders = true := by kernel_rfl
theorem tab_t3 : tiOf Go.Proofs.Try.prog 3 = some ti3 := by kernel_rfl
theorem tab_t4 : tiOf Go.Proofs.Try.prog 4 = some ti4 := by kernel_rfl
theorem tab_t5 : tiOf Go.Proofs.Try.prog 5 = some ti5 := by kernel_rfl
theorem tab_t9 : tiOf Go.Proofs.Try.prog 9 = some ti9 := by kernel_rfl
theorem tab_t22 : tiOf Go.Proofs.Try.prog 22 = some ti22 := by kernel_rfl
theorem tab_t24 : tiOf Go.Proofs.Try.prog 24 = some ti24 := by kernel_rfl
theorem tab_t26 : tiOf Go.Proofs.Try.prog 26 = some ti26 := by kernel_rfl
theorem tab_t86 : tiOf Go.Proofs.Try.prog 86 = some ti86 := by kernel_rfl
theorem tab_t90 : tiOf Go.Proofs.Try.prog 90 = some ti90 := by kernel_rfl
theorem tab_t92 : tiOf Go.Proofs.Try.prog 92 = some ti92 := by kernel_rfl
theorem tab_t94 : tiOf Go.Proofs.Try.prog 94 = some ti94 := by kernel_rfl
theorem tab_t96 : tiOf Go.Proofs.Try.prog 96 = some ti96 := by kernel_rfl
theorem tab_t98 : tiOf Go.Proofs.Try.prog 98 = some ti98 := by kernel_rfl
theorem tab_t100 : tiOf Go.Proofs.Try.prog 100 = some ti100 := by kernel_rfl
theorem tab_t159 : tiOf Go.Proofs.Try.prog 159 = some ti159 := by kernel_rfl
theorem tab_t162 : tiOf Go.Proofs.Try.prog 162 = some ti162 := by kernel_rfl
theorem tab_t237 : tiOf Go.Proofs.Try.prog 237 = some ti237 := by kernel_rfl
theorem tab_e162 : eqOf Go.Proofs.Try.prog 162 = some eq162 := by kernel_rfl
theorem tab_e237 : eqOf Go.Proofs.Try.prog 237 = some eq237 := by kernel_rfl
theorem envOk : EnvOk env := envWith_ok (show tabs.All _ from ⟨⟨⟨⟨⟨trivial, tab_t3, trivial⟩, tab_t4, trivial⟩, tab_t5, ⟨trivial, tab_t9, trivial⟩⟩, tab_t22, ⟨⟨trivial, tab_t24, trivial⟩, tab_t26, ⟨trivial, tab_t86, trivial⟩⟩⟩, tab_t90, ⟨⟨⟨⟨trivial, tab_t92, trivial⟩, tab_t94, trivial⟩, tab_t96, ⟨trivial, tab_t98, trivial⟩⟩, tab_t100, ⟨⟨trivial, tab_t159, trivial⟩, tab_t162, ⟨trivial, tab_t237, trivial⟩⟩⟩⟩) (show eqts.All _ from ⟨⟨trivial, tab_e162, trivial⟩, tab_e237, trivial⟩)
end Go.Proofs.Try.Ev
