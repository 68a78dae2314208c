/- The types of the seat. -/
import Derived.Test.YtjimlpgolbejnaaGreatEvZ
import Derived.Test.YtjimlpgolbejnaaGreatProg
namespace Go.Proofs.Tryz.Ev
open Go Go.Ev
set_option maxRecDepth 100000
def ti3 : TI := { size := 1, kind := 0, zero := [.v (.int .i64 0)], offs := [], fsz := [], elem := 0, esz := 0, bytes := 8, ik := some .i64 }
def ti4 : TI := { size := 1, kind := 3, zero := [.v (.bool false)], offs := [], fsz := [], elem := 0, esz := 0, bytes := 1, ik := none }
def ti5 : TI := { size := 1, kind := 0, zero := [.v (.int .u8 0)], offs := [], fsz := [], elem := 0, esz := 0, bytes := 1, ik := some .u8 }
def ti9 : TI := { size := 1, kind := 4, zero := [.v (.string ByteArray.empty)], offs := [], fsz := [], elem := 0, esz := 0, bytes := 16, ik := none }
def ti22 : TI := { size := 1, kind := 2, zero := [.s true 5 []], offs := [], fsz := [], elem := 24, esz := 5, bytes := 24, ik := none }
def ti24 : TI := { size := 5, kind := 1, zero := [.v (.int .i64 0), .v (.int .i64 0), .v (.string ByteArray.empty), .v (.string ByteArray.empty), .s true 5 []], offs := [0, 1, 2, 3, 4], fsz := [1, 1, 1, 1, 1], elem := 0, esz := 0, bytes := 72, ik := none }
def ti26 : TI := { size := 12, kind := 1, zero := [.v (.int .i64 0), .v (.int .i64 0), .v (.int .i64 0), .v (.int .i64 0), .v (.int .i64 0), .v (.int .i64 0), .v (.int .i64 0), .v (.int .i64 0), .v (.int .i64 0), .v (.string ByteArray.empty), .v (.string ByteArray.empty), .s true 5 []], offs := [0, 1, 2, 3, 4, 5, 6, 7], fsz := [1, 1, 1, 1, 1, 1, 1, 5], elem := 0, esz := 0, bytes := 128, ik := none }
def ti27 : TI := { size := 1, kind := 2, zero := [.s true 2 []], offs := [], fsz := [], elem := 95, esz := 2, bytes := 24, ik := none }
def ti29 : TI := { size := 4, kind := 1, zero := [.v (.int .i64 0), .v (.int .i64 0), .v (.int .i64 0), .v (.int .i64 0)], offs := [0, 1, 2, 3], fsz := [1, 1, 1, 1], elem := 0, esz := 0, bytes := 32, ik := none }
def ti30 : TI := { size := 1, kind := 2, zero := [.s true 3 []], offs := [], fsz := [], elem := 134, esz := 3, bytes := 24, ik := none }
def ti31 : TI := { size := 1, kind := 2, zero := [.s true 1 []], offs := [], fsz := [], elem := 32, esz := 1, bytes := 24, ik := none }
def ti32 : TI := { size := 1, kind := 2, zero := [.s true 3 []], offs := [], fsz := [], elem := 139, esz := 3, bytes := 24, ik := none }
def ti34 : TI := { size := 4, kind := 1, zero := [.v (.int .i64 0), .s true 1 [], .s true 1 [], .s true 3 []], offs := [0, 1, 2, 3], fsz := [1, 1, 1, 1], elem := 0, esz := 0, bytes := 80, ik := none }
def ti35 : TI := { size := 1, kind := 2, zero := [.s true 7 []], offs := [], fsz := [], elem := 102, esz := 7, bytes := 24, ik := none }
def ti36 : TI := { size := 1, kind := 2, zero := [.s true 12 []], offs := [], fsz := [], elem := 105, esz := 12, bytes := 24, ik := none }
def ti37 : TI := { size := 1, kind := 2, zero := [.s true 20 []], offs := [], fsz := [], elem := 108, esz := 20, bytes := 24, ik := none }
def ti39 : TI := { size := 32, kind := 1, zero := [.v (.int .i64 0), .v (.int .i64 0), .v (.int .i64 0), .v (.int .i64 0), .v (.int .i64 0), .v (.int .i64 0), .v (.int .i64 0), .v (.int .i64 0), .v (.int .i64 0), .v (.string ByteArray.empty), .v (.string ByteArray.empty), .s true 5 [], .v (.int .i64 0), .v (.bool false), .s true 2 [], .v (.int .i64 0), .v (.int .i64 0), .v (.int .i64 0), .v (.int .i64 0), .v (.int .i64 0), .s true 3 [], .v (.int .i64 0), .v (.int .i64 0), .s true 1 [], .s true 1 [], .s true 3 [], .s true 3 [], .s true 7 [], .s true 7 [], .s true 12 [], .s true 20 [], .v (.int .i64 0)], offs := [0, 12, 13, 14, 15, 16, 20, 21, 22, 26, 27, 28, 29, 30, 31], fsz := [12, 1, 1, 1, 1, 4, 1, 1, 4, 1, 1, 1, 1, 1, 1], elem := 0, esz := 0, bytes := 448, ik := none }
def ti42 : TI := { size := 1, kind := 2, zero := [.s true 5 []], offs := [], fsz := [], elem := 44, esz := 5, bytes := 24, ik := none }
def ti44 : TI := { size := 5, kind := 1, zero := [.v (.int .i64 0), .v (.int .i64 0), .v (.string ByteArray.empty), .v (.string ByteArray.empty), .s true 5 []], offs := [0, 1, 2, 3, 4], fsz := [1, 1, 1, 1, 1], elem := 0, esz := 0, bytes := 72, ik := none }
def ti46 : TI := { size := 12, kind := 1, zero := [.v (.int .i64 0), .v (.int .i64 0), .v (.int .i64 0), .v (.int .i64 0), .v (.int .i64 0), .v (.int .i64 0), .v (.int .i64 0), .v (.int .i64 0), .v (.int .i64 0), .v (.string ByteArray.empty), .v (.string ByteArray.empty), .s true 5 []], offs := [0, 1, 2, 3, 4, 5, 6, 7], fsz := [1, 1, 1, 1, 1, 1, 1, 5], elem := 0, esz := 0, bytes := 128, ik := none }
def ti47 : TI := { size := 1, kind := 2, zero := [.s true 2 []], offs := [], fsz := [], elem := 129, esz := 2, bytes := 24, ik := none }
def ti48 : TI := { size := 4, kind := 1, zero := [.v (.int .i64 0), .v (.int .i64 0), .v (.int .i64 0), .v (.int .i64 0)], offs := [0, 1, 2, 3], fsz := [1, 1, 1, 1], elem := 0, esz := 0, bytes := 32, ik := none }
def ti49 : TI := { size := 1, kind := 2, zero := [.s true 3 []], offs := [], fsz := [], elem := 132, esz := 3, bytes := 24, ik := none }
def ti50 : TI := { size := 1, kind := 2, zero := [.s true 1 []], offs := [], fsz := [], elem := 51, esz := 1, bytes := 24, ik := none }
def ti51 : TI := { size := 1, kind := 2, zero := [.s true 3 []], offs := [], fsz := [], elem := 137, esz := 3, bytes := 24, ik := none }
def ti53 : TI := { size := 4, kind := 1, zero := [.v (.int .i64 0), .s true 1 [], .s true 1 [], .s true 3 []], offs := [0, 1, 2, 3], fsz := [1, 1, 1, 1], elem := 0, esz := 0, bytes := 80, ik := none }
def ti54 : TI := { size := 1, kind := 2, zero := [.s true 7 []], offs := [], fsz := [], elem := 121, esz := 7, bytes := 24, ik := none }
def ti55 : TI := { size := 1, kind := 2, zero := [.s true 12 []], offs := [], fsz := [], elem := 126, esz := 12, bytes := 24, ik := none }
def ti56 : TI := { size := 1, kind := 2, zero := [.s true 20 []], offs := [], fsz := [], elem := 123, esz := 20, bytes := 24, ik := none }
def ti58 : TI := { size := 32, kind := 1, zero := [.v (.int .i64 0), .v (.int .i64 0), .v (.int .i64 0), .v (.int .i64 0), .v (.int .i64 0), .v (.int .i64 0), .v (.int .i64 0), .v (.int .i64 0), .v (.int .i64 0), .v (.string ByteArray.empty), .v (.string ByteArray.empty), .s true 5 [], .v (.int .i64 0), .v (.bool false), .s true 2 [], .v (.int .i64 0), .v (.int .i64 0), .v (.int .i64 0), .v (.int .i64 0), .v (.int .i64 0), .s true 3 [], .v (.int .i64 0), .v (.int .i64 0), .s true 1 [], .s true 1 [], .s true 3 [], .s true 3 [], .s true 7 [], .s true 7 [], .s true 12 [], .s true 20 [], .v (.int .i64 0)], offs := [0, 12, 13, 14, 15, 16, 20, 21, 22, 26, 27, 28, 29, 30, 31], fsz := [12, 1, 1, 1, 1, 4, 1, 1, 4, 1, 1, 1, 1, 1, 1], elem := 0, esz := 0, bytes := 448, ik := none }
def ti89 : TI := { size := 1, kind := 2, zero := [.s true 4 []], offs := [], fsz := [], elem := 153, esz := 4, bytes := 24, ik := none }
def ti93 : TI := { size := 1, kind := 2, zero := [.s true 4 []], offs := [], fsz := [], elem := 188, esz := 4, bytes := 24, ik := none }
def ti95 : TI := { size := 2, kind := 1, zero := [.v (.int .i64 0), .s true 4 []], offs := [0, 1], fsz := [1, 1], elem := 0, esz := 0, bytes := 32, ik := none }
def ti98 : TI := { size := 1, kind := 2, zero := [.s true 4 []], offs := [], fsz := [], elem := 211, esz := 4, bytes := 24, ik := none }
def ti100 : TI := { size := 6, kind := 1, zero := [.v (.int .i64 0), .v (.int .i64 0), .v (.int .i64 0), .v (.int .i64 0), .v (.bool false), .s true 4 []], offs := [0, 1, 2, 3, 4, 5], fsz := [1, 1, 1, 1, 1, 1], elem := 0, esz := 0, bytes := 64, ik := none }
def ti102 : TI := { size := 7, kind := 1, zero := [.v (.int .i64 0), .v (.int .i64 0), .v (.int .i64 0), .v (.int .i64 0), .v (.int .i64 0), .v (.bool false), .s true 4 []], offs := [0, 1], fsz := [1, 6], elem := 0, esz := 0, bytes := 72, ik := none }
def ti105 : TI := { size := 12, kind := 1, zero := [.v (.int .i64 0), .v (.int .i64 0), .v (.int .i64 0), .v (.int .i64 0), .v (.int .i64 0), .v (.int .i64 0), .v (.bool false), .s true 4 [], .v (.int .i64 0), .v (.int .i64 0), .s true 7 [], .v (.int .i64 0)], offs := [0, 1, 2, 8, 9, 10, 11], fsz := [1, 1, 6, 1, 1, 1, 1], elem := 0, esz := 0, bytes := 128, ik := none }
def ti108 : TI := { size := 20, kind := 1, zero := [.v (.int .i64 0), .v (.int .i64 0), .v (.int .i64 0), .v (.int .i64 0), .v (.int .i64 0), .v (.int .i64 0), .v (.bool false), .s true 4 [], .v (.int .i64 0), .v (.int .i64 0), .v (.int .i64 0), .v (.bool false), .v (.bool false), .v (.int .i64 0), .v (.int .i64 0), .v (.int .i64 0), .v (.int .i64 0), .v (.int .i64 0), .v (.int .i64 0), .v (.int .i64 0)], offs := [0, 1, 2, 8, 9, 10, 11, 12, 13, 14, 15, 16, 17, 18, 19], fsz := [1, 1, 6, 1, 1, 1, 1, 1, 1, 1, 1, 1, 1, 1, 1], elem := 0, esz := 0, bytes := 168, ik := none }
def ti116 : TI := { size := 1, kind := 0, zero := [.v .nilFunc], offs := [], fsz := [], elem := 0, esz := 0, bytes := 8, ik := none }
def ti117 : TI := { size := 1, kind := 2, zero := [.s true 4 []], offs := [], fsz := [], elem := 214, esz := 4, bytes := 24, ik := none }
def ti119 : TI := { size := 6, kind := 1, zero := [.v (.int .i64 0), .v (.int .i64 0), .v (.int .i64 0), .v (.int .i64 0), .v (.bool false), .s true 4 []], offs := [0, 1, 2, 3, 4, 5], fsz := [1, 1, 1, 1, 1, 1], elem := 0, esz := 0, bytes := 64, ik := none }
def ti121 : TI := { size := 7, kind := 1, zero := [.v (.int .i64 0), .v (.int .i64 0), .v (.int .i64 0), .v (.int .i64 0), .v (.int .i64 0), .v (.bool false), .s true 4 []], offs := [0, 1], fsz := [1, 6], elem := 0, esz := 0, bytes := 72, ik := none }
def ti123 : TI := { size := 20, kind := 1, zero := [.v (.int .i64 0), .v (.int .i64 0), .v (.int .i64 0), .v (.int .i64 0), .v (.int .i64 0), .v (.int .i64 0), .v (.bool false), .s true 4 [], .v (.int .i64 0), .v (.int .i64 0), .v (.int .i64 0), .v (.bool false), .v (.bool false), .v (.int .i64 0), .v (.int .i64 0), .v (.int .i64 0), .v (.int .i64 0), .v (.int .i64 0), .v (.int .i64 0), .v (.int .i64 0)], offs := [0, 1, 2, 8, 9, 10, 11, 12, 13, 14, 15, 16, 17, 18, 19], fsz := [1, 1, 6, 1, 1, 1, 1, 1, 1, 1, 1, 1, 1, 1, 1], elem := 0, esz := 0, bytes := 168, ik := none }
def ti126 : TI := { size := 12, kind := 1, zero := [.v (.int .i64 0), .v (.int .i64 0), .v (.int .i64 0), .v (.int .i64 0), .v (.int .i64 0), .v (.int .i64 0), .v (.bool false), .s true 4 [], .v (.int .i64 0), .v (.int .i64 0), .s true 7 [], .v (.int .i64 0)], offs := [0, 1, 2, 8, 9, 10, 11], fsz := [1, 1, 6, 1, 1, 1, 1], elem := 0, esz := 0, bytes := 128, ik := none }
def ti129 : TI := { size := 2, kind := 1, zero := [.v (.int .i64 0), .s true 4 []], offs := [0, 1], fsz := [1, 1], elem := 0, esz := 0, bytes := 32, ik := none }
def ti132 : TI := { size := 3, kind := 1, zero := [.v (.int .i64 0), .v (.int .i64 0), .v (.bool false)], offs := [0, 1, 2], fsz := [1, 1, 1], elem := 0, esz := 0, bytes := 24, ik := none }
def ti134 : TI := { size := 3, kind := 1, zero := [.v (.int .i64 0), .v (.int .i64 0), .v (.bool false)], offs := [0, 1, 2], fsz := [1, 1, 1], elem := 0, esz := 0, bytes := 24, ik := none }
def ti137 : TI := { size := 3, kind := 1, zero := [.v (.int .i64 0), .v (.int .i64 0), .v (.int .i64 0)], offs := [0, 1, 2], fsz := [1, 1, 1], elem := 0, esz := 0, bytes := 24, ik := none }
def ti139 : TI := { size := 3, kind := 1, zero := [.v (.int .i64 0), .v (.int .i64 0), .v (.int .i64 0)], offs := [0, 1, 2], fsz := [1, 1, 1], elem := 0, esz := 0, bytes := 24, ik := none }
def ti148 : TI := { size := 1, kind := 0, zero := [.v .nilFunc], offs := [], fsz := [], elem := 0, esz := 0, bytes := 8, ik := none }
def ti151 : TI := { size := 1, kind := 2, zero := [.s true 6 []], offs := [], fsz := [], elem := 119, esz := 6, bytes := 24, ik := none }
def ti153 : TI := { size := 4, kind := 1, zero := [.v (.int .i64 0), .v (.int .i64 0), .v (.int .i64 0), .s true 6 []], offs := [0, 1, 2, 3], fsz := [1, 1, 1, 1], elem := 0, esz := 0, bytes := 48, ik := none }
def ti160 : TI := { size := 1, kind := 2, zero := [.s true 1 []], offs := [], fsz := [], elem := 3, esz := 1, bytes := 24, ik := none }
def ti177 : TI := { size := 1, kind := 0, zero := [.v .nilFunc], offs := [], fsz := [], elem := 0, esz := 0, bytes := 8, ik := none }
def ti179 : TI := { size := 1, kind := 0, zero := [.v .nilFunc], offs := [], fsz := [], elem := 0, esz := 0, bytes := 8, ik := none }
def ti186 : TI := { size := 1, kind := 2, zero := [.s true 6 []], offs := [], fsz := [], elem := 100, esz := 6, bytes := 24, ik := none }
def ti188 : TI := { size := 4, kind := 1, zero := [.v (.int .i64 0), .v (.int .i64 0), .v (.int .i64 0), .s true 6 []], offs := [0, 1, 2, 3], fsz := [1, 1, 1, 1], elem := 0, esz := 0, bytes := 48, ik := none }
def ti211 : TI := { size := 4, kind := 1, zero := [.v (.string ByteArray.empty), .v (.bool false), .v (.int .i64 0), .v (.string ByteArray.empty)], offs := [0, 1, 2, 3], fsz := [1, 1, 1, 1], elem := 0, esz := 0, bytes := 48, ik := none }
def ti214 : TI := { size := 4, kind := 1, zero := [.v (.string ByteArray.empty), .v (.bool false), .v (.int .i64 0), .v (.string ByteArray.empty)], offs := [0, 1, 2, 3], fsz := [1, 1, 1, 1], elem := 0, esz := 0, bytes := 48, ik := none }
def ti221 : TI := { size := 1, kind := 0, zero := [.v .nilFunc], offs := [], fsz := [], elem := 0, esz := 0, bytes := 8, ik := none }
def eq29 : List CK := [.i .i64, .i .i64, .i .i64, .i .i64]
def eq48 : List CK := [.i .i64, .i .i64, .i .i64, .i .i64]
def eq132 : List CK := [.i .i64, .i .i64, .b]
def eq134 : List CK := [.i .i64, .i .i64, .b]
def eq137 : List CK := [.i .i64, .i .i64, .i .i64]
def eq139 : List CK := [.i .i64, .i .i64, .i .i64]
def eq211 : List CK := [.s, .b, .i .i64, .s]
def eq214 : List CK := [.s, .b, .i .i64, .s]
def tabs : Tb TI := (.n (.n (.n (.n (.n (.n .e 3 ti3 .e) 4 ti4 (.n .e 5 ti5 .e)) 9 ti9 (.n (.n .e 22 ti22 .e) 24 ti24 (.n .e 26 ti26 .e))) 27 ti27 (.n (.n (.n .e 29 ti29 .e) 30 ti30 (.n .e 31 ti31 .e)) 32 ti32 (.n (.n .e 34 ti34 .e) 35 ti35 (.n .e 36 ti36 .e)))) 37 ti37 (.n (.n (.n (.n .e 39 ti39 .e) 42 ti42 (.n .e 44 ti44 .e)) 46 ti46 (.n (.n .e 47 ti47 .e) 48 ti48 (.n .e 49 ti49 .e))) 50 ti50 (.n (.n (.n .e 51 ti51 .e) 53 ti53 (.n .e 54 ti54 .e)) 55 ti55 (.n (.n .e 56 ti56 .e) 58 ti58 .e)))) 89 ti89 (.n (.n (.n (.n (.n .e 93 ti93 .e) 95 ti95 (.n .e 98 ti98 .e)) 100 ti100 (.n (.n .e 102 ti102 .e) 105 ti105 (.n .e 108 ti108 .e))) 116 ti116 (.n (.n (.n .e 117 ti117 .e) 119 ti119 (.n .e 121 ti121 .e)) 123 ti123 (.n (.n .e 126 ti126 .e) 129 ti129 .e))) 132 ti132 (.n (.n (.n (.n .e 134 ti134 .e) 137 ti137 (.n .e 139 ti139 .e)) 148 ti148 (.n (.n .e 151 ti151 .e) 153 ti153 (.n .e 160 ti160 .e))) 177 ti177 (.n (.n (.n .e 179 ti179 .e) 186 ti186 (.n .e 188 ti188 .e)) 211 ti211 (.n (.n .e 214 ti214 .e) 221 ti221 .e)))))
def eqts : Tb (List CK) := (.n (.n (.n (.n .e 29 eq29 .e) 48 eq48 .e) 132 eq132 (.n .e 134 eq134 .e)) 137 eq137 (.n (.n .e 139 eq139 .e) 211 eq211 (.n .e 214 eq214 .e)))
noncomputable def env : Env := envWith Go.Proofs.Tryz.prog tabs eqts
theorem wide : env.P.follows .mixedOrders = true := by kernel_rfl
theorem tab_t3 : tiOf Go.Proofs.Tryz.prog 3 = some ti3 := by kernel_rfl
theorem tab_t4 : tiOf Go.Proofs.Tryz.prog 4 = some ti4 := by kernel_rfl
theorem tab_t5 : tiOf Go.Proofs.Tryz.prog 5 = some ti5 := by kernel_rfl
theorem tab_t9 : tiOf Go.Proofs.Tryz.prog 9 = some ti9 := by kernel_rfl
theorem tab_t22 : tiOf Go.Proofs.Tryz.prog 22 = some ti22 := by kernel_rfl
theorem tab_t24 : tiOf Go.Proofs.Tryz.prog 24 = some ti24 := by kernel_rfl
theorem tab_t26 : tiOf Go.Proofs.Tryz.prog 26 = some ti26 := by kernel_rfl
theorem tab_t27 : tiOf Go.Proofs.Tryz.prog 27 = some ti27 := by kernel_rfl
theorem tab_t29 : tiOf Go.Proofs.Tryz.prog 29 = some ti29 := by kernel_rfl
theorem tab_t30 : tiOf Go.Proofs.Tryz.prog 30 = some ti30 := by kernel_rfl
theorem tab_t31 : tiOf Go.Proofs.Tryz.prog 31 = some ti31 := by kernel_rfl
theorem tab_t32 : tiOf Go.Proofs.Tryz.prog 32 = some ti32 := by kernel_rfl
theorem tab_t34 : tiOf Go.Proofs.Tryz.prog 34 = some ti34 := by kernel_rfl
theorem tab_t35 : tiOf Go.Proofs.Tryz.prog 35 = some ti35 := by kernel_rfl
theorem tab_t36 : tiOf Go.Proofs.Tryz.prog 36 = some ti36 := by kernel_rfl
theorem tab_t37 : tiOf Go.Proofs.Tryz.prog 37 = some ti37 := by kernel_rfl
theorem tab_t39 : tiOf Go.Proofs.Tryz.prog 39 = some ti39 := by kernel_rfl
theorem tab_t42 : tiOf Go.Proofs.Tryz.prog 42 = some ti42 := by kernel_rfl
theorem tab_t44 : tiOf Go.Proofs.Tryz.prog 44 = some ti44 := by kernel_rfl
theorem tab_t46 : tiOf Go.Proofs.Tryz.prog 46 = some ti46 := by kernel_rfl
theorem tab_t47 : tiOf Go.Proofs.Tryz.prog 47 = some ti47 := by kernel_rfl
theorem tab_t48 : tiOf Go.Proofs.Tryz.prog 48 = some ti48 := by kernel_rfl
theorem tab_t49 : tiOf Go.Proofs.Tryz.prog 49 = some ti49 := by kernel_rfl
theorem tab_t50 : tiOf Go.Proofs.Tryz.prog 50 = some ti50 := by kernel_rfl
theorem tab_t51 : tiOf Go.Proofs.Tryz.prog 51 = some ti51 := by kernel_rfl
theorem tab_t53 : tiOf Go.Proofs.Tryz.prog 53 = some ti53 := by kernel_rfl
theorem tab_t54 : tiOf Go.Proofs.Tryz.prog 54 = some ti54 := by kernel_rfl
theorem tab_t55 : tiOf Go.Proofs.Tryz.prog 55 = some ti55 := by kernel_rfl
theorem tab_t56 : tiOf Go.Proofs.Tryz.prog 56 = some ti56 := by kernel_rfl
theorem tab_t58 : tiOf Go.Proofs.Tryz.prog 58 = some ti58 := by kernel_rfl
theorem tab_t89 : tiOf Go.Proofs.Tryz.prog 89 = some ti89 := by kernel_rfl
theorem tab_t93 : tiOf Go.Proofs.Tryz.prog 93 = some ti93 := by kernel_rfl
theorem tab_t95 : tiOf Go.Proofs.Tryz.prog 95 = some ti95 := by kernel_rfl
theorem tab_t98 : tiOf Go.Proofs.Tryz.prog 98 = some ti98 := by kernel_rfl
theorem tab_t100 : tiOf Go.Proofs.Tryz.prog 100 = some ti100 := by kernel_rfl
theorem tab_t102 : tiOf Go.Proofs.Tryz.prog 102 = some ti102 := by kernel_rfl
theorem tab_t105 : tiOf Go.Proofs.Tryz.prog 105 = some ti105 := by kernel_rfl
theorem tab_t108 : tiOf Go.Proofs.Tryz.prog 108 = some ti108 := by kernel_rfl
theorem tab_t116 : tiOf Go.Proofs.Tryz.prog 116 = some ti116 := by kernel_rfl
theorem tab_t117 : tiOf Go.Proofs.Tryz.prog 117 = some ti117 := by kernel_rfl
theorem tab_t119 : tiOf Go.Proofs.Tryz.prog 119 = some ti119 := by kernel_rfl
theorem tab_t121 : tiOf Go.Proofs.Tryz.prog 121 = some ti121 := by kernel_rfl
theorem tab_t123 : tiOf Go.Proofs.Tryz.prog 123 = some ti123 := by kernel_rfl
theorem tab_t126 : tiOf Go.Proofs.Tryz.prog 126 = some ti126 := by kernel_rfl
theorem tab_t129 : tiOf Go.Proofs.Tryz.prog 129 = some ti129 := by kernel_rfl
theorem tab_t132 : tiOf Go.Proofs.Tryz.prog 132 = some ti132 := by kernel_rfl
theorem tab_t134 : tiOf Go.Proofs.Tryz.prog 134 = some ti134 := by kernel_rfl
theorem tab_t137 : tiOf Go.Proofs.Tryz.prog 137 = some ti137 := by kernel_rfl
theorem tab_t139 : tiOf Go.Proofs.Tryz.prog 139 = some ti139 := by kernel_rfl
theorem tab_t148 : tiOf Go.Proofs.Tryz.prog 148 = some ti148 := by kernel_rfl
theorem tab_t151 : tiOf Go.Proofs.Tryz.prog 151 = some ti151 := by kernel_rfl
theorem tab_t153 : tiOf Go.Proofs.Tryz.prog 153 = some ti153 := by kernel_rfl
theorem tab_t160 : tiOf Go.Proofs.Tryz.prog 160 = some ti160 := by kernel_rfl
theorem tab_t177 : tiOf Go.Proofs.Tryz.prog 177 = some ti177 := by kernel_rfl
theorem tab_t179 : tiOf Go.Proofs.Tryz.prog 179 = some ti179 := by kernel_rfl
theorem tab_t186 : tiOf Go.Proofs.Tryz.prog 186 = some ti186 := by kernel_rfl
theorem tab_t188 : tiOf Go.Proofs.Tryz.prog 188 = some ti188 := by kernel_rfl
theorem tab_t211 : tiOf Go.Proofs.Tryz.prog 211 = some ti211 := by kernel_rfl
theorem tab_t214 : tiOf Go.Proofs.Tryz.prog 214 = some ti214 := by kernel_rfl
theorem tab_t221 : tiOf Go.Proofs.Tryz.prog 221 = some ti221 := by kernel_rfl
theorem tab_e29 : eqOf Go.Proofs.Tryz.prog 29 = some eq29 := by kernel_rfl
theorem tab_e48 : eqOf Go.Proofs.Tryz.prog 48 = some eq48 := by kernel_rfl
theorem tab_e132 : eqOf Go.Proofs.Tryz.prog 132 = some eq132 := by kernel_rfl
theorem tab_e134 : eqOf Go.Proofs.Tryz.prog 134 = some eq134 := by kernel_rfl
theorem tab_e137 : eqOf Go.Proofs.Tryz.prog 137 = some eq137 := by kernel_rfl
theorem tab_e139 : eqOf Go.Proofs.Tryz.prog 139 = some eq139 := by kernel_rfl
theorem tab_e211 : eqOf Go.Proofs.Tryz.prog 211 = some eq211 := by kernel_rfl
theorem tab_e214 : eqOf Go.Proofs.Tryz.prog 214 = some eq214 := by kernel_rfl
theorem envOk : EnvOk env := envWith_ok (show tabs.All _ from ⟨⟨⟨⟨⟨⟨trivial, tab_t3, trivial⟩, tab_t4, ⟨trivial, tab_t5, trivial⟩⟩, tab_t9, ⟨⟨trivial, tab_t22, trivial⟩, tab_t24, ⟨trivial, tab_t26, trivial⟩⟩⟩, tab_t27, ⟨⟨⟨trivial, tab_t29, trivial⟩, tab_t30, ⟨trivial, tab_t31, trivial⟩⟩, tab_t32, ⟨⟨trivial, tab_t34, trivial⟩, tab_t35, ⟨trivial, tab_t36, trivial⟩⟩⟩⟩, tab_t37, ⟨⟨⟨⟨trivial, tab_t39, trivial⟩, tab_t42, ⟨trivial, tab_t44, trivial⟩⟩, tab_t46, ⟨⟨trivial, tab_t47, trivial⟩, tab_t48, ⟨trivial, tab_t49, trivial⟩⟩⟩, tab_t50, ⟨⟨⟨trivial, tab_t51, trivial⟩, tab_t53, ⟨trivial, tab_t54, trivial⟩⟩, tab_t55, ⟨⟨trivial, tab_t56, trivial⟩, tab_t58, trivial⟩⟩⟩⟩, tab_t89, ⟨⟨⟨⟨⟨trivial, tab_t93, trivial⟩, tab_t95, ⟨trivial, tab_t98, trivial⟩⟩, tab_t100, ⟨⟨trivial, tab_t102, trivial⟩, tab_t105, ⟨trivial, tab_t108, trivial⟩⟩⟩, tab_t116, ⟨⟨⟨trivial, tab_t117, trivial⟩, tab_t119, ⟨trivial, tab_t121, trivial⟩⟩, tab_t123, ⟨⟨trivial, tab_t126, trivial⟩, tab_t129, trivial⟩⟩⟩, tab_t132, ⟨⟨⟨⟨trivial, tab_t134, trivial⟩, tab_t137, ⟨trivial, tab_t139, trivial⟩⟩, tab_t148, ⟨⟨trivial, tab_t151, trivial⟩, tab_t153, ⟨trivial, tab_t160, trivial⟩⟩⟩, tab_t177, ⟨⟨⟨trivial, tab_t179, trivial⟩, tab_t186, ⟨trivial, tab_t188, trivial⟩⟩, tab_t211, ⟨⟨trivial, tab_t214, trivial⟩, tab_t221, trivial⟩⟩⟩⟩⟩) (show eqts.All _ from ⟨⟨⟨⟨trivial, tab_e29, trivial⟩, tab_e48, trivial⟩, tab_e132, ⟨trivial, tab_e134, trivial⟩⟩, tab_e137, ⟨⟨trivial, tab_e139, trivial⟩, tab_e211, ⟨trivial, tab_e214, trivial⟩⟩⟩)
end Go.Proofs.Tryz.Ev
