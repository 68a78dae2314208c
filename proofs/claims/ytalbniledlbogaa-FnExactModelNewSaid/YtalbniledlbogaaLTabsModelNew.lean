/- The types of the seat. -/
import Derived.Test.YtalbniledlbogaaEvZ
import Derived.Test.YtalbniledlbogaaProg
namespace Go.Proofs.Try.Ev
open Go Go.Ev
set_option maxRecDepth 100000
def ti3 : TI := { size := 1, kind := 0, zero := [.v (.int .i64 0)], offs := [], fsz := [], elem := 0, esz := 0, bytes := 8, ik := some .i64 }
def ti4 : TI := { size := 1, kind := 3, zero := [.v (.bool false)], offs := [], fsz := [], elem := 0, esz := 0, bytes := 1, ik := none }
def ti5 : TI := { size := 1, kind := 0, zero := [.v (.int .u8 0)], offs := [], fsz := [], elem := 0, esz := 0, bytes := 1, ik := some .u8 }
def ti9 : TI := { size := 1, kind := 4, zero := [.v (.string ByteArray.empty)], offs := [], fsz := [], elem := 0, esz := 0, bytes := 16, ik := none }
def ti33 : TI := { size := 1, kind := 2, zero := [.s true 5 []], offs := [], fsz := [], elem := 35, esz := 5, bytes := 24, ik := none }
def ti35 : TI := { size := 5, kind := 1, zero := [.v (.int .i64 0), .v (.int .i64 0), .v (.string ByteArray.empty), .v (.string ByteArray.empty), .s true 5 []], offs := [0, 1, 2, 3, 4], fsz := [1, 1, 1, 1, 1], elem := 0, esz := 0, bytes := 72, ik := none }
def ti37 : TI := { size := 12, kind := 1, zero := [.v (.int .i64 0), .v (.int .i64 0), .v (.int .i64 0), .v (.int .i64 0), .v (.int .i64 0), .v (.int .i64 0), .v (.int .i64 0), .v (.int .i64 0), .v (.int .i64 0), .v (.string ByteArray.empty), .v (.string ByteArray.empty), .s true 5 []], offs := [0, 1, 2, 3, 4, 5, 6, 7], fsz := [1, 1, 1, 1, 1, 1, 1, 5], elem := 0, esz := 0, bytes := 128, ik := none }
def ti39 : TI := { size := 1, kind := 2, zero := [.s true 5 []], offs := [], fsz := [], elem := 41, esz := 5, bytes := 24, ik := none }
def ti41 : TI := { size := 5, kind := 1, zero := [.v (.int .i64 0), .v (.int .i64 0), .v (.string ByteArray.empty), .v (.string ByteArray.empty), .s true 5 []], offs := [0, 1, 2, 3, 4], fsz := [1, 1, 1, 1, 1], elem := 0, esz := 0, bytes := 72, ik := none }
def ti43 : TI := { size := 12, kind := 1, zero := [.v (.int .i64 0), .v (.int .i64 0), .v (.int .i64 0), .v (.int .i64 0), .v (.int .i64 0), .v (.int .i64 0), .v (.int .i64 0), .v (.int .i64 0), .v (.int .i64 0), .v (.string ByteArray.empty), .v (.string ByteArray.empty), .s true 5 []], offs := [0, 1, 2, 3, 4, 5, 6, 7], fsz := [1, 1, 1, 1, 1, 1, 1, 5], elem := 0, esz := 0, bytes := 128, ik := none }
def ti44 : TI := { size := 1, kind := 2, zero := [.s true 4 []], offs := [], fsz := [], elem := 170, esz := 4, bytes := 24, ik := none }
def ti45 : TI := { size := 1, kind := 2, zero := [.s true 3 []], offs := [], fsz := [], elem := 173, esz := 3, bytes := 24, ik := none }
def ti47 : TI := { size := 4, kind := 1, zero := [.v (.int .i64 0), .v (.int .i64 0), .v (.int .i64 0), .v (.int .i64 0)], offs := [0, 1, 2, 3], fsz := [1, 1, 1, 1], elem := 0, esz := 0, bytes := 32, ik := none }
def ti49 : TI := { size := 20, kind := 1, zero := [.v (.int .i64 0), .v (.int .i64 0), .v (.int .i64 0), .v (.int .i64 0), .v (.int .i64 0), .v (.int .i64 0), .v (.int .i64 0), .v (.int .i64 0), .v (.int .i64 0), .v (.string ByteArray.empty), .v (.string ByteArray.empty), .s true 5 [], .v (.bool false), .s true 4 [], .s true 3 [], .v (.int .i64 0), .v (.int .i64 0), .v (.int .i64 0), .v (.int .i64 0), .v (.int .i64 0)], offs := [0, 12, 13, 14, 15, 19], fsz := [12, 1, 1, 1, 4, 1], elem := 0, esz := 0, bytes := 224, ik := none }
def ti69 : TI := { size := 1, kind := 2, zero := [.s true 6 []], offs := [], fsz := [], elem := 92, esz := 6, bytes := 24, ik := none }
def ti86 : TI := { size := 1, kind := 2, zero := [.s true 1 []], offs := [], fsz := [], elem := 5, esz := 1, bytes := 24, ik := none }
def ti90 : TI := { size := 1, kind := 2, zero := [.s true 4 []], offs := [], fsz := [], elem := 162, esz := 4, bytes := 24, ik := none }
def ti92 : TI := { size := 6, kind := 1, zero := [.v (.int .i64 0), .v (.int .i64 0), .v (.int .i64 0), .v (.int .i64 0), .v (.bool false), .s true 4 []], offs := [0, 1, 2, 3, 4, 5], fsz := [1, 1, 1, 1, 1, 1], elem := 0, esz := 0, bytes := 64, ik := none }
def ti162 : TI := { size := 4, kind := 1, zero := [.v (.string ByteArray.empty), .v (.bool false), .v (.int .i64 0), .v (.string ByteArray.empty)], offs := [0, 1, 2, 3], fsz := [1, 1, 1, 1], elem := 0, esz := 0, bytes := 48, ik := none }
def ti170 : TI := { size := 4, kind := 1, zero := [.v (.int .i64 0), .v (.int .i64 0), .v (.int .i64 0), .s true 6 []], offs := [0, 1, 2, 3], fsz := [1, 1, 1, 1], elem := 0, esz := 0, bytes := 48, ik := none }
def ti173 : TI := { size := 3, kind := 1, zero := [.v (.int .i64 0), .v (.int .i64 0), .v (.bool false)], offs := [0, 1, 2], fsz := [1, 1, 1], elem := 0, esz := 0, bytes := 24, ik := none }
def eq47 : List CK := [.i .i64, .i .i64, .i .i64, .i .i64]
def eq162 : List CK := [.s, .b, .i .i64, .s]
def eq173 : List CK := [.i .i64, .i .i64, .b]
def tabs : Tb TI := (.n (.n (.n (.n (.n .e 3 ti3 .e) 4 ti4 .e) 5 ti5 (.n (.n .e 9 ti9 .e) 33 ti33 .e)) 35 ti35 (.n (.n (.n .e 37 ti37 .e) 39 ti39 .e) 41 ti41 (.n .e 43 ti43 .e))) 44 ti44 (.n (.n (.n (.n .e 45 ti45 .e) 47 ti47 .e) 49 ti49 (.n (.n .e 69 ti69 .e) 86 ti86 .e)) 90 ti90 (.n (.n (.n .e 92 ti92 .e) 162 ti162 .e) 170 ti170 (.n .e 173 ti173 .e))))
def eqts : Tb (List CK) := (.n (.n .e 47 eq47 .e) 162 eq162 (.n .e 173 eq173 .e))
noncomputable def env : Env := envWith Go.Proofs.Try.prog tabs eqts
theorem wide : env.P.follows .mixedOrders = true := by kernel_rfl
theorem tab_t3 : tiOf Go.Proofs.Try.prog 3 = some ti3 := by kernel_rfl
theorem tab_t4 : tiOf Go.Proofs.Try.prog 4 = some ti4 := by kernel_rfl
theorem tab_t5 : tiOf Go.Proofs.Try.prog 5 = some ti5 := by kernel_rfl
theorem tab_t9 : tiOf Go.Proofs.Try.prog 9 = some ti9 := by kernel_rfl
theorem tab_t33 : tiOf Go.Proofs.Try.prog 33 = some ti33 := by kernel_rfl
theorem tab_t35 : tiOf Go.Proofs.Try.prog 35 = some ti35 := by kernel_rfl
theorem tab_t37 : tiOf Go.Proofs.Try.prog 37 = some ti37 := by kernel_rfl
theorem tab_t39 : tiOf Go.Proofs.Try.prog 39 = some ti39 := by kernel_rfl
theorem tab_t41 : tiOf Go.Proofs.Try.prog 41 = some ti41 := by kernel_rfl
theorem tab_t43 : tiOf Go.Proofs.Try.prog 43 = some ti43 := by kernel_rfl
theorem tab_t44 : tiOf Go.Proofs.Try.prog 44 = some ti44 := by kernel_rfl
theorem tab_t45 : tiOf Go.Proofs.Try.prog 45 = some ti45 := by kernel_rfl
theorem tab_t47 : tiOf Go.Proofs.Try.prog 47 = some ti47 := by kernel_rfl
theorem tab_t49 : tiOf Go.Proofs.Try.prog 49 = some ti49 := by kernel_rfl
theorem tab_t69 : tiOf Go.Proofs.Try.prog 69 = some ti69 := by kernel_rfl
theorem tab_t86 : tiOf Go.Proofs.Try.prog 86 = some ti86 := by kernel_rfl
theorem tab_t90 : tiOf Go.Proofs.Try.prog 90 = some ti90 := by kernel_rfl
theorem tab_t92 : tiOf Go.Proofs.Try.prog 92 = some ti92 := by kernel_rfl
theorem tab_t162 : tiOf Go.Proofs.Try.prog 162 = some ti162 := by kernel_rfl
theorem tab_t170 : tiOf Go.Proofs.Try.prog 170 = some ti170 := by kernel_rfl
theorem tab_t173 : tiOf Go.Proofs.Try.prog 173 = some ti173 := by kernel_rfl
theorem tab_e47 : eqOf Go.Proofs.Try.prog 47 = some eq47 := by kernel_rfl
theorem tab_e162 : eqOf Go.Proofs.Try.prog 162 = some eq162 := by kernel_rfl
theorem tab_e173 : eqOf Go.Proofs.Try.prog 173 = some eq173 := by kernel_rfl
theorem envOk : EnvOk env := envWith_ok (show tabs.All _ from ⟨⟨⟨⟨⟨trivial, tab_t3, trivial⟩, tab_t4, trivial⟩, tab_t5, ⟨⟨trivial, tab_t9, trivial⟩, tab_t33, trivial⟩⟩, tab_t35, ⟨⟨⟨trivial, tab_t37, trivial⟩, tab_t39, trivial⟩, tab_t41, ⟨trivial, tab_t43, trivial⟩⟩⟩, tab_t44, ⟨⟨⟨⟨trivial, tab_t45, trivial⟩, tab_t47, trivial⟩, tab_t49, ⟨⟨trivial, tab_t69, trivial⟩, tab_t86, trivial⟩⟩, tab_t90, ⟨⟨⟨trivial, tab_t92, trivial⟩, tab_t162, trivial⟩, tab_t170, ⟨trivial, tab_t173, trivial⟩⟩⟩⟩) (show eqts.All _ from ⟨⟨trivial, tab_e47, trivial⟩, tab_e162, ⟨trivial, tab_e173, trivial⟩⟩)
end Go.Proofs.Try.Ev
