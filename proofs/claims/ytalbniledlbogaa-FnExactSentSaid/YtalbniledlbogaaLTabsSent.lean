/- The types of the seat. -/
import Derived.Test.YtalbniledlbogaaEvZ
import Derived.Test.YtalbniledlbogaaProg
namespace Go.Proofs.Try.Ev
open Go Go.Ev
set_option maxRecDepth 100000
def ti3 : TI := { size := 1, kind := 0, zero := [.v (.int .i64 0)], offs := [], fsz := [], elem := 0, esz := 0, bytes := 8, ik := some .i64 }
def ti4 : TI := { size := 1, kind := 3, zero := [.v (.bool false)], offs := [], fsz := [], elem := 0, esz := 0, bytes := 1, ik := none }
def ti5 : TI := { size := 1, kind := 0, zero := [.v (.int .u8 0)], offs := [], fsz := [], elem := 0, esz := 0, bytes := 1, ik := some .u8 }
def ti9 : TI := { size := 1, kind := 4, zero := [.v (.string ByteArray.empty)], offs := [], fsz := [], elem := 0, esz := 0, bytes := 16, ik := none }
def ti22 : TI := { size := 1, kind := 2, zero := [.s true 20 []], offs := [], fsz := [], elem := 98, esz := 20, bytes := 24, ik := none }
def ti26 : TI := { size := 1, kind := 2, zero := [.s true 20 []], offs := [], fsz := [], elem := 100, esz := 20, bytes := 24, ik := none }
def ti33 : TI := { size := 1, kind := 2, zero := [.s true 5 []], offs := [], fsz := [], elem := 35, esz := 5, bytes := 24, ik := none }
def ti35 : TI := { size := 5, kind := 1, zero := [.v (.int .i64 0), .v (.int .i64 0), .v (.string ByteArray.empty), .v (.string ByteArray.empty), .s true 5 []], offs := [0, 1, 2, 3, 4], fsz := [1, 1, 1, 1, 1], elem := 0, esz := 0, bytes := 72, ik := none }
def ti37 : TI := { size := 12, kind := 1, zero := [.v (.int .i64 0), .v (.int .i64 0), .v (.int .i64 0), .v (.int .i64 0), .v (.int .i64 0), .v (.int .i64 0), .v (.int .i64 0), .v (.int .i64 0), .v (.int .i64 0), .v (.string ByteArray.empty), .v (.string ByteArray.empty), .s true 5 []], offs := [0, 1, 2, 3, 4, 5, 6, 7], fsz := [1, 1, 1, 1, 1, 1, 1, 5], elem := 0, esz := 0, bytes := 128, ik := none }
def ti39 : TI := { size := 1, kind := 2, zero := [.s true 5 []], offs := [], fsz := [], elem := 41, esz := 5, bytes := 24, ik := none }
def ti41 : TI := { size := 5, kind := 1, zero := [.v (.int .i64 0), .v (.int .i64 0), .v (.string ByteArray.empty), .v (.string ByteArray.empty), .s true 5 []], offs := [0, 1, 2, 3, 4], fsz := [1, 1, 1, 1, 1], elem := 0, esz := 0, bytes := 72, ik := none }
def ti43 : TI := { size := 12, kind := 1, zero := [.v (.int .i64 0), .v (.int .i64 0), .v (.int .i64 0), .v (.int .i64 0), .v (.int .i64 0), .v (.int .i64 0), .v (.int .i64 0), .v (.int .i64 0), .v (.int .i64 0), .v (.string ByteArray.empty), .v (.string ByteArray.empty), .s true 5 []], offs := [0, 1, 2, 3, 4, 5, 6, 7], fsz := [1, 1, 1, 1, 1, 1, 1, 5], elem := 0, esz := 0, bytes := 128, ik := none }
def ti44 : TI := { size := 1, kind := 2, zero := [.s true 4 []], offs := [], fsz := [], elem := 170, esz := 4, bytes := 24, ik := none }
def ti45 : TI := { size := 1, kind := 2, zero := [.s true 3 []], offs := [], fsz := [], elem := 173, esz := 3, bytes := 24, ik := none }
def ti47 : TI := { size := 4, kind := 1, zero := [.v (.int .i64 0), .v (.int .i64 0), .v (.int .i64 0), .v (.int .i64 0)], offs := [0, 1, 2, 3], fsz := [1, 1, 1, 1], elem := 0, esz := 0, bytes := 32, ik := none }
def ti57 : TI := { size := 1, kind := 2, zero := [.s true 2 []], offs := [], fsz := [], elem := 179, esz := 2, bytes := 24, ik := none }
def ti58 : TI := { size := 4, kind := 1, zero := [.v (.int .i64 0), .v (.int .i64 0), .v (.int .i64 0), .v (.int .i64 0)], offs := [0, 1, 2, 3], fsz := [1, 1, 1, 1], elem := 0, esz := 0, bytes := 32, ik := none }
def ti59 : TI := { size := 1, kind := 2, zero := [.s true 3 []], offs := [], fsz := [], elem := 194, esz := 3, bytes := 24, ik := none }
def ti60 : TI := { size := 1, kind := 2, zero := [.s true 1 []], offs := [], fsz := [], elem := 61, esz := 1, bytes := 24, ik := none }
def ti61 : TI := { size := 1, kind := 2, zero := [.s true 3 []], offs := [], fsz := [], elem := 199, esz := 3, bytes := 24, ik := none }
def ti63 : TI := { size := 4, kind := 1, zero := [.v (.int .i64 0), .s true 1 [], .s true 1 [], .s true 3 []], offs := [0, 1, 2, 3], fsz := [1, 1, 1, 1], elem := 0, esz := 0, bytes := 80, ik := none }
def ti64 : TI := { size := 1, kind := 2, zero := [.s true 7 []], offs := [], fsz := [], elem := 183, esz := 7, bytes := 24, ik := none }
def ti65 : TI := { size := 1, kind := 2, zero := [.s true 12 []], offs := [], fsz := [], elem := 186, esz := 12, bytes := 24, ik := none }
def ti67 : TI := { size := 32, kind := 1, zero := [.v (.int .i64 0), .v (.int .i64 0), .v (.int .i64 0), .v (.int .i64 0), .v (.int .i64 0), .v (.int .i64 0), .v (.int .i64 0), .v (.int .i64 0), .v (.int .i64 0), .v (.string ByteArray.empty), .v (.string ByteArray.empty), .s true 5 [], .v (.int .i64 0), .v (.bool false), .s true 2 [], .v (.int .i64 0), .v (.int .i64 0), .v (.int .i64 0), .v (.int .i64 0), .v (.int .i64 0), .s true 3 [], .v (.int .i64 0), .v (.int .i64 0), .s true 1 [], .s true 1 [], .s true 3 [], .s true 3 [], .s true 7 [], .s true 7 [], .s true 12 [], .s true 20 [], .v (.int .i64 0)], offs := [0, 12, 13, 14, 15, 16, 20, 21, 22, 26, 27, 28, 29, 30, 31], fsz := [12, 1, 1, 1, 1, 4, 1, 1, 4, 1, 1, 1, 1, 1, 1], elem := 0, esz := 0, bytes := 448, ik := none }
def ti69 : TI := { size := 1, kind := 2, zero := [.s true 6 []], offs := [], fsz := [], elem := 92, esz := 6, bytes := 24, ik := none }
def ti71 : TI := { size := 1, kind := 2, zero := [.s true 2 []], offs := [], fsz := [], elem := 191, esz := 2, bytes := 24, ik := none }
def ti72 : TI := { size := 1, kind := 2, zero := [.s true 1 []], offs := [], fsz := [], elem := 73, esz := 1, bytes := 24, ik := none }
def ti73 : TI := { size := 1, kind := 2, zero := [.s true 3 []], offs := [], fsz := [], elem := 197, esz := 3, bytes := 24, ik := none }
def ti75 : TI := { size := 4, kind := 1, zero := [.v (.int .i64 0), .s true 1 [], .s true 1 [], .s true 3 []], offs := [0, 1, 2, 3], fsz := [1, 1, 1, 1], elem := 0, esz := 0, bytes := 80, ik := none }
def ti76 : TI := { size := 1, kind := 2, zero := [.s true 7 []], offs := [], fsz := [], elem := 188, esz := 7, bytes := 24, ik := none }
def ti77 : TI := { size := 1, kind := 2, zero := [.s true 12 []], offs := [], fsz := [], elem := 128, esz := 12, bytes := 24, ik := none }
def ti79 : TI := { size := 32, kind := 1, zero := [.v (.int .i64 0), .v (.int .i64 0), .v (.int .i64 0), .v (.int .i64 0), .v (.int .i64 0), .v (.int .i64 0), .v (.int .i64 0), .v (.int .i64 0), .v (.int .i64 0), .v (.string ByteArray.empty), .v (.string ByteArray.empty), .s true 5 [], .v (.int .i64 0), .v (.bool false), .s true 2 [], .v (.int .i64 0), .v (.int .i64 0), .v (.int .i64 0), .v (.int .i64 0), .v (.int .i64 0), .s true 3 [], .v (.int .i64 0), .v (.int .i64 0), .s true 1 [], .s true 1 [], .s true 3 [], .s true 3 [], .s true 7 [], .s true 7 [], .s true 12 [], .s true 20 [], .v (.int .i64 0)], offs := [0, 12, 13, 14, 15, 16, 20, 21, 22, 26, 27, 28, 29, 30, 31], fsz := [12, 1, 1, 1, 1, 4, 1, 1, 4, 1, 1, 1, 1, 1, 1], elem := 0, esz := 0, bytes := 448, ik := none }
def ti86 : TI := { size := 1, kind := 2, zero := [.s true 1 []], offs := [], fsz := [], elem := 5, esz := 1, bytes := 24, ik := none }
def ti90 : TI := { size := 1, kind := 2, zero := [.s true 4 []], offs := [], fsz := [], elem := 162, esz := 4, bytes := 24, ik := none }
def ti92 : TI := { size := 6, kind := 1, zero := [.v (.int .i64 0), .v (.int .i64 0), .v (.int .i64 0), .v (.int .i64 0), .v (.bool false), .s true 4 []], offs := [0, 1, 2, 3, 4, 5], fsz := [1, 1, 1, 1, 1, 1], elem := 0, esz := 0, bytes := 64, ik := none }
def ti94 : TI := { size := 1, kind := 2, zero := [.s true 4 []], offs := [], fsz := [], elem := 237, esz := 4, bytes := 24, ik := none }
def ti96 : TI := { size := 6, kind := 1, zero := [.v (.int .i64 0), .v (.int .i64 0), .v (.int .i64 0), .v (.int .i64 0), .v (.bool false), .s true 4 []], offs := [0, 1, 2, 3, 4, 5], fsz := [1, 1, 1, 1, 1, 1], elem := 0, esz := 0, bytes := 64, ik := none }
def ti98 : TI := { size := 20, kind := 1, zero := [.v (.int .i64 0), .v (.int .i64 0), .v (.int .i64 0), .v (.int .i64 0), .v (.int .i64 0), .v (.int .i64 0), .v (.bool false), .s true 4 [], .v (.int .i64 0), .v (.int .i64 0), .v (.int .i64 0), .v (.bool false), .v (.bool false), .v (.int .i64 0), .v (.int .i64 0), .v (.int .i64 0), .v (.int .i64 0), .v (.int .i64 0), .v (.int .i64 0), .v (.int .i64 0)], offs := [0, 1, 2, 8, 9, 10, 11, 12, 13, 14, 15, 16, 17, 18, 19], fsz := [1, 1, 6, 1, 1, 1, 1, 1, 1, 1, 1, 1, 1, 1, 1], elem := 0, esz := 0, bytes := 168, ik := none }
def ti100 : TI := { size := 20, kind := 1, zero := [.v (.int .i64 0), .v (.int .i64 0), .v (.int .i64 0), .v (.int .i64 0), .v (.int .i64 0), .v (.int .i64 0), .v (.bool false), .s true 4 [], .v (.int .i64 0), .v (.int .i64 0), .v (.int .i64 0), .v (.bool false), .v (.bool false), .v (.int .i64 0), .v (.int .i64 0), .v (.int .i64 0), .v (.int .i64 0), .v (.int .i64 0), .v (.int .i64 0), .v (.int .i64 0)], offs := [0, 1, 2, 8, 9, 10, 11, 12, 13, 14, 15, 16, 17, 18, 19], fsz := [1, 1, 6, 1, 1, 1, 1, 1, 1, 1, 1, 1, 1, 1, 1], elem := 0, esz := 0, bytes := 168, ik := none }
def ti128 : TI := { size := 12, kind := 1, zero := [.v (.int .i64 0), .v (.int .i64 0), .v (.int .i64 0), .v (.int .i64 0), .v (.int .i64 0), .v (.int .i64 0), .v (.bool false), .s true 4 [], .v (.int .i64 0), .v (.int .i64 0), .s true 7 [], .v (.int .i64 0)], offs := [0, 1, 2, 8, 9, 10, 11], fsz := [1, 1, 6, 1, 1, 1, 1], elem := 0, esz := 0, bytes := 128, ik := none }
def ti162 : TI := { size := 4, kind := 1, zero := [.v (.string ByteArray.empty), .v (.bool false), .v (.int .i64 0), .v (.string ByteArray.empty)], offs := [0, 1, 2, 3], fsz := [1, 1, 1, 1], elem := 0, esz := 0, bytes := 48, ik := none }
def ti170 : TI := { size := 4, kind := 1, zero := [.v (.int .i64 0), .v (.int .i64 0), .v (.int .i64 0), .s true 6 []], offs := [0, 1, 2, 3], fsz := [1, 1, 1, 1], elem := 0, esz := 0, bytes := 48, ik := none }
def ti173 : TI := { size := 3, kind := 1, zero := [.v (.int .i64 0), .v (.int .i64 0), .v (.bool false)], offs := [0, 1, 2], fsz := [1, 1, 1], elem := 0, esz := 0, bytes := 24, ik := none }
def ti177 : TI := { size := 1, kind := 2, zero := [.s true 4 []], offs := [], fsz := [], elem := 249, esz := 4, bytes := 24, ik := none }
def ti179 : TI := { size := 2, kind := 1, zero := [.v (.int .i64 0), .s true 4 []], offs := [0, 1], fsz := [1, 1], elem := 0, esz := 0, bytes := 32, ik := none }
def ti183 : TI := { size := 7, kind := 1, zero := [.v (.int .i64 0), .v (.int .i64 0), .v (.int .i64 0), .v (.int .i64 0), .v (.int .i64 0), .v (.bool false), .s true 4 []], offs := [0, 1], fsz := [1, 6], elem := 0, esz := 0, bytes := 72, ik := none }
def ti186 : TI := { size := 12, kind := 1, zero := [.v (.int .i64 0), .v (.int .i64 0), .v (.int .i64 0), .v (.int .i64 0), .v (.int .i64 0), .v (.int .i64 0), .v (.bool false), .s true 4 [], .v (.int .i64 0), .v (.int .i64 0), .s true 7 [], .v (.int .i64 0)], offs := [0, 1, 2, 8, 9, 10, 11], fsz := [1, 1, 6, 1, 1, 1, 1], elem := 0, esz := 0, bytes := 128, ik := none }
def ti188 : TI := { size := 7, kind := 1, zero := [.v (.int .i64 0), .v (.int .i64 0), .v (.int .i64 0), .v (.int .i64 0), .v (.int .i64 0), .v (.bool false), .s true 4 []], offs := [0, 1], fsz := [1, 6], elem := 0, esz := 0, bytes := 72, ik := none }
def ti191 : TI := { size := 2, kind := 1, zero := [.v (.int .i64 0), .s true 4 []], offs := [0, 1], fsz := [1, 1], elem := 0, esz := 0, bytes := 32, ik := none }
def ti194 : TI := { size := 3, kind := 1, zero := [.v (.int .i64 0), .v (.int .i64 0), .v (.bool false)], offs := [0, 1, 2], fsz := [1, 1, 1], elem := 0, esz := 0, bytes := 24, ik := none }
def ti197 : TI := { size := 3, kind := 1, zero := [.v (.int .i64 0), .v (.int .i64 0), .v (.int .i64 0)], offs := [0, 1, 2], fsz := [1, 1, 1], elem := 0, esz := 0, bytes := 24, ik := none }
def ti199 : TI := { size := 3, kind := 1, zero := [.v (.int .i64 0), .v (.int .i64 0), .v (.int .i64 0)], offs := [0, 1, 2], fsz := [1, 1, 1], elem := 0, esz := 0, bytes := 24, ik := none }
def ti237 : TI := { size := 4, kind := 1, zero := [.v (.string ByteArray.empty), .v (.bool false), .v (.int .i64 0), .v (.string ByteArray.empty)], offs := [0, 1, 2, 3], fsz := [1, 1, 1, 1], elem := 0, esz := 0, bytes := 48, ik := none }
def ti247 : TI := { size := 1, kind := 2, zero := [.s true 6 []], offs := [], fsz := [], elem := 96, esz := 6, bytes := 24, ik := none }
def ti249 : TI := { size := 4, kind := 1, zero := [.v (.int .i64 0), .v (.int .i64 0), .v (.int .i64 0), .s true 6 []], offs := [0, 1, 2, 3], fsz := [1, 1, 1, 1], elem := 0, esz := 0, bytes := 48, ik := none }
def eq47 : List CK := [.i .i64, .i .i64, .i .i64, .i .i64]
def eq58 : List CK := [.i .i64, .i .i64, .i .i64, .i .i64]
def eq162 : List CK := [.s, .b, .i .i64, .s]
def eq173 : List CK := [.i .i64, .i .i64, .b]
def eq194 : List CK := [.i .i64, .i .i64, .b]
def eq197 : List CK := [.i .i64, .i .i64, .i .i64]
def eq199 : List CK := [.i .i64, .i .i64, .i .i64]
def eq237 : List CK := [.s, .b, .i .i64, .s]
def tabs : Tb TI := (.n (.n (.n (.n (.n (.n .e 3 ti3 .e) 4 ti4 (.n .e 5 ti5 .e)) 9 ti9 (.n (.n .e 22 ti22 .e) 26 ti26 .e)) 33 ti33 (.n (.n (.n .e 35 ti35 .e) 37 ti37 (.n .e 39 ti39 .e)) 41 ti41 (.n (.n .e 43 ti43 .e) 44 ti44 .e))) 45 ti45 (.n (.n (.n (.n .e 47 ti47 .e) 57 ti57 (.n .e 58 ti58 .e)) 59 ti59 (.n (.n .e 60 ti60 .e) 61 ti61 .e)) 63 ti63 (.n (.n (.n .e 64 ti64 .e) 65 ti65 (.n .e 67 ti67 .e)) 69 ti69 (.n (.n .e 71 ti71 .e) 72 ti72 .e)))) 73 ti73 (.n (.n (.n (.n (.n .e 75 ti75 .e) 76 ti76 (.n .e 77 ti77 .e)) 79 ti79 (.n (.n .e 86 ti86 .e) 90 ti90 .e)) 92 ti92 (.n (.n (.n .e 94 ti94 .e) 96 ti96 (.n .e 98 ti98 .e)) 100 ti100 (.n (.n .e 128 ti128 .e) 162 ti162 .e))) 170 ti170 (.n (.n (.n (.n .e 173 ti173 .e) 177 ti177 (.n .e 179 ti179 .e)) 183 ti183 (.n (.n .e 186 ti186 .e) 188 ti188 .e)) 191 ti191 (.n (.n (.n .e 194 ti194 .e) 197 ti197 (.n .e 199 ti199 .e)) 237 ti237 (.n (.n .e 247 ti247 .e) 249 ti249 .e)))))
def eqts : Tb (List CK) := (.n (.n (.n (.n .e 47 eq47 .e) 58 eq58 .e) 162 eq162 (.n .e 173 eq173 .e)) 194 eq194 (.n (.n .e 197 eq197 .e) 199 eq199 (.n .e 237 eq237 .e)))
noncomputable def env : Env := envWith Go.Proofs.Try.prog tabs eqts
theorem wide : env.P.follows .mixedOrders = true := by kernel_rfl
theorem tab_t3 : tiOf Go.Proofs.Try.prog 3 = some ti3 := by kernel_rfl
theorem tab_t4 : tiOf Go.Proofs.Try.prog 4 = some ti4 := by kernel_rfl
theorem tab_t5 : tiOf Go.Proofs.Try.prog 5 = some ti5 := by kernel_rfl
theorem tab_t9 : tiOf Go.Proofs.Try.prog 9 = some ti9 := by kernel_rfl
theorem tab_t22 : tiOf Go.Proofs.Try.prog 22 = some ti22 := by kernel_rfl
theorem tab_t26 : tiOf Go.Proofs.Try.prog 26 = some ti26 := by kernel_rfl
theorem tab_t33 : tiOf Go.Proofs.Try.prog 33 = some ti33 := by kernel_rfl
theorem tab_t35 : tiOf Go.Proofs.Try.prog 35 = some ti35 := by kernel_rfl
theorem tab_t37 : tiOf Go.Proofs.Try.prog 37 = some ti37 := by kernel_rfl
theorem tab_t39 : tiOf Go.Proofs.Try.prog 39 = some ti39 := by kernel_rfl
theorem tab_t41 : tiOf Go.Proofs.Try.prog 41 = some ti41 := by kernel_rfl
theorem tab_t43 : tiOf Go.Proofs.Try.prog 43 = some ti43 := by kernel_rfl
theorem tab_t44 : tiOf Go.Proofs.Try.prog 44 = some ti44 := by kernel_rfl
theorem tab_t45 : tiOf Go.Proofs.Try.prog 45 = some ti45 := by kernel_rfl
theorem tab_t47 : tiOf Go.Proofs.Try.prog 47 = some ti47 := by kernel_rfl
theorem tab_t57 : tiOf Go.Proofs.Try.prog 57 = some ti57 := by kernel_rfl
theorem tab_t58 : tiOf Go.Proofs.Try.prog 58 = some ti58 := by kernel_rfl
theorem tab_t59 : tiOf Go.Proofs.Try.prog 59 = some ti59 := by kernel_rfl
theorem tab_t60 : tiOf Go.Proofs.Try.prog 60 = some ti60 := by kernel_rfl
theorem tab_t61 : tiOf Go.Proofs.Try.prog 61 = some ti61 := by kernel_rfl
theorem tab_t63 : tiOf Go.Proofs.Try.prog 63 = some ti63 := by kernel_rfl
theorem tab_t64 : tiOf Go.Proofs.Try.prog 64 = some ti64 := by kernel_rfl
theorem tab_t65 : tiOf Go.Proofs.Try.prog 65 = some ti65 := by kernel_rfl
theorem tab_t67 : tiOf Go.Proofs.Try.prog 67 = some ti67 := by kernel_rfl
theorem tab_t69 : tiOf Go.Proofs.Try.prog 69 = some ti69 := by kernel_rfl
theorem tab_t71 : tiOf Go.Proofs.Try.prog 71 = some ti71 := by kernel_rfl
theorem tab_t72 : tiOf Go.Proofs.Try.prog 72 = some ti72 := by kernel_rfl
theorem tab_t73 : tiOf Go.Proofs.Try.prog 73 = some ti73 := by kernel_rfl
theorem tab_t75 : tiOf Go.Proofs.Try.prog 75 = some ti75 := by kernel_rfl
theorem tab_t76 : tiOf Go.Proofs.Try.prog 76 = some ti76 := by kernel_rfl
theorem tab_t77 : tiOf Go.Proofs.Try.prog 77 = some ti77 := by kernel_rfl
theorem tab_t79 : tiOf Go.Proofs.Try.prog 79 = some ti79 := by kernel_rfl
theorem tab_t86 : tiOf Go.Proofs.Try.prog 86 = some ti86 := by kernel_rfl
theorem tab_t90 : tiOf Go.Proofs.Try.prog 90 = some ti90 := by kernel_rfl
theorem tab_t92 : tiOf Go.Proofs.Try.prog 92 = some ti92 := by kernel_rfl
theorem tab_t94 : tiOf Go.Proofs.Try.prog 94 = some ti94 := by kernel_rfl
theorem tab_t96 : tiOf Go.Proofs.Try.prog 96 = some ti96 := by kernel_rfl
theorem tab_t98 : tiOf Go.Proofs.Try.prog 98 = some ti98 := by kernel_rfl
theorem tab_t100 : tiOf Go.Proofs.Try.prog 100 = some ti100 := by kernel_rfl
theorem tab_t128 : tiOf Go.Proofs.Try.prog 128 = some ti128 := by kernel_rfl
theorem tab_t162 : tiOf Go.Proofs.Try.prog 162 = some ti162 := by kernel_rfl
theorem tab_t170 : tiOf Go.Proofs.Try.prog 170 = some ti170 := by kernel_rfl
theorem tab_t173 : tiOf Go.Proofs.Try.prog 173 = some ti173 := by kernel_rfl
theorem tab_t177 : tiOf Go.Proofs.Try.prog 177 = some ti177 := by kernel_rfl
theorem tab_t179 : tiOf Go.Proofs.Try.prog 179 = some ti179 := by kernel_rfl
theorem tab_t183 : tiOf Go.Proofs.Try.prog 183 = some ti183 := by kernel_rfl
theorem tab_t186 : tiOf Go.Proofs.Try.prog 186 = some ti186 := by kernel_rfl
theorem tab_t188 : tiOf Go.Proofs.Try.prog 188 = some ti188 := by kernel_rfl
theorem tab_t191 : tiOf Go.Proofs.Try.prog 191 = some ti191 := by kernel_rfl
theorem tab_t194 : tiOf Go.Proofs.Try.prog 194 = some ti194 := by kernel_rfl
theorem tab_t197 : tiOf Go.Proofs.Try.prog 197 = some ti197 := by kernel_rfl
theorem tab_t199 : tiOf Go.Proofs.Try.prog 199 = some ti199 := by kernel_rfl
theorem tab_t237 : tiOf Go.Proofs.Try.prog 237 = some ti237 := by kernel_rfl
theorem tab_t247 : tiOf Go.Proofs.Try.prog 247 = some ti247 := by kernel_rfl
theorem tab_t249 : tiOf Go.Proofs.Try.prog 249 = some ti249 := by kernel_rfl
theorem tab_e47 : eqOf Go.Proofs.Try.prog 47 = some eq47 := by kernel_rfl
theorem tab_e58 : eqOf Go.Proofs.Try.prog 58 = some eq58 := by kernel_rfl
theorem tab_e162 : eqOf Go.Proofs.Try.prog 162 = some eq162 := by kernel_rfl
theorem tab_e173 : eqOf Go.Proofs.Try.prog 173 = some eq173 := by kernel_rfl
theorem tab_e194 : eqOf Go.Proofs.Try.prog 194 = some eq194 := by kernel_rfl
theorem tab_e197 : eqOf Go.Proofs.Try.prog 197 = some eq197 := by kernel_rfl
theorem tab_e199 : eqOf Go.Proofs.Try.prog 199 = some eq199 := by kernel_rfl
theorem tab_e237 : eqOf Go.Proofs.Try.prog 237 = some eq237 := by kernel_rfl
theorem envOk : EnvOk env := envWith_ok (show tabs.All _ from ⟨⟨⟨⟨⟨⟨trivial, tab_t3, trivial⟩, tab_t4, ⟨trivial, tab_t5, trivial⟩⟩, tab_t9, ⟨⟨trivial, tab_t22, trivial⟩, tab_t26, trivial⟩⟩, tab_t33, ⟨⟨⟨trivial, tab_t35, trivial⟩, tab_t37, ⟨trivial, tab_t39, trivial⟩⟩, tab_t41, ⟨⟨trivial, tab_t43, trivial⟩, tab_t44, trivial⟩⟩⟩, tab_t45, ⟨⟨⟨⟨trivial, tab_t47, trivial⟩, tab_t57, ⟨trivial, tab_t58, trivial⟩⟩, tab_t59, ⟨⟨trivial, tab_t60, trivial⟩, tab_t61, trivial⟩⟩, tab_t63, ⟨⟨⟨trivial, tab_t64, trivial⟩, tab_t65, ⟨trivial, tab_t67, trivial⟩⟩, tab_t69, ⟨⟨trivial, tab_t71, trivial⟩, tab_t72, trivial⟩⟩⟩⟩, tab_t73, ⟨⟨⟨⟨⟨trivial, tab_t75, trivial⟩, tab_t76, ⟨trivial, tab_t77, trivial⟩⟩, tab_t79, ⟨⟨trivial, tab_t86, trivial⟩, tab_t90, trivial⟩⟩, tab_t92, ⟨⟨⟨trivial, tab_t94, trivial⟩, tab_t96, ⟨trivial, tab_t98, trivial⟩⟩, tab_t100, ⟨⟨trivial, tab_t128, trivial⟩, tab_t162, trivial⟩⟩⟩, tab_t170, ⟨⟨⟨⟨trivial, tab_t173, trivial⟩, tab_t177, ⟨trivial, tab_t179, trivial⟩⟩, tab_t183, ⟨⟨trivial, tab_t186, trivial⟩, tab_t188, trivial⟩⟩, tab_t191, ⟨⟨⟨trivial, tab_t194, trivial⟩, tab_t197, ⟨trivial, tab_t199, trivial⟩⟩, tab_t237, ⟨⟨trivial, tab_t247, trivial⟩, tab_t249, trivial⟩⟩⟩⟩⟩) (show eqts.All _ from ⟨⟨⟨⟨trivial, tab_e47, trivial⟩, tab_e58, trivial⟩, tab_e162, ⟨trivial, tab_e173, trivial⟩⟩, tab_e194, ⟨⟨trivial, tab_e197, trivial⟩, tab_e199, ⟨trivial, tab_e237, trivial⟩⟩⟩)
end Go.Proofs.Try.Ev
