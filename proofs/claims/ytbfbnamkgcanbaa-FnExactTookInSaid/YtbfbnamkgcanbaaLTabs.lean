/- The types of the seat. -/
import Derived.Test.YtbfbnamkgcanbaaEvS
import Derived.Test.YtbfbnamkgcanbaaEvW
import Derived.Test.YtbfbnamkgcanbaaProg
namespace Go.Proofs.Try.Ev
open Go Go.Ev
set_option maxRecDepth 100000
noncomputable def env : Env := envOf Go.Proofs.Try.prog
theorem wide : env.P.follows .mixedOrders = true := by kernel_rfl
theorem envOk : EnvOk env := envOf_ok _
theorem tab1 : env.tab 1 = some { size := 1, kind := 0, zero := [.v .nilFunc], offs := [], fsz := [], elem := 0, esz := 0, bytes := 8, ik := none } := by kernel_rfl
theorem tab2 : env.tab 2 = some { size := 1, kind := 0, zero := [.v (.int .i64 0)], offs := [], fsz := [], elem := 0, esz := 0, bytes := 8, ik := some .i64 } := by kernel_rfl
theorem tab3 : env.tab 3 = some { size := 1, kind := 0, zero := [.v (.int .i64 0)], offs := [], fsz := [], elem := 0, esz := 0, bytes := 8, ik := some .i64 } := by kernel_rfl
theorem tab4 : env.tab 4 = some { size := 1, kind := 3, zero := [.v (.bool false)], offs := [], fsz := [], elem := 0, esz := 0, bytes := 1, ik := none } := by kernel_rfl
theorem tab5 : env.tab 5 = some { size := 1, kind := 0, zero := [.v (.int .u8 0)], offs := [], fsz := [], elem := 0, esz := 0, bytes := 1, ik := some .u8 } := by kernel_rfl
theorem tab6 : env.tab 6 = some { size := 1, kind := 0, zero := [.v (.int .u8 0)], offs := [], fsz := [], elem := 0, esz := 0, bytes := 1, ik := some .u8 } := by kernel_rfl
theorem tab7 : env.tab 7 = some { size := 4, kind := 1, zero := [.v (.int .i64 0), .v (.int .i64 0), .v (.bool false), .v (.int .u8 0)], offs := [0, 1, 2, 3], fsz := [1, 1, 1, 1], elem := 0, esz := 0, bytes := 24, ik := none } := by kernel_rfl
theorem eqt7 : env.eqt 7 = some [.i .i64, .i .i64, .b, .i .u8] := by kernel_rfl
theorem tab8 : env.tab 8 = some { size := 4, kind := 1, zero := [.v (.int .i64 0), .v (.int .i64 0), .v (.bool false), .v (.int .u8 0)], offs := [0, 1, 2, 3], fsz := [1, 1, 1, 1], elem := 0, esz := 0, bytes := 24, ik := none } := by kernel_rfl
theorem eqt8 : env.eqt 8 = some [.i .i64, .i .i64, .b, .i .u8] := by kernel_rfl
theorem tab9 : env.tab 9 = some { size := 1, kind := 4, zero := [.v (.string ByteArray.empty)], offs := [], fsz := [], elem := 0, esz := 0, bytes := 16, ik := none } := by kernel_rfl
theorem tab10 : env.tab 10 = some { size := 1, kind := 4, zero := [.v (.string ByteArray.empty)], offs := [], fsz := [], elem := 0, esz := 0, bytes := 16, ik := none } := by kernel_rfl
theorem tab11 : env.tab 11 = some { size := 1, kind := 4, zero := [.v (.string ByteArray.empty)], offs := [], fsz := [], elem := 0, esz := 0, bytes := 16, ik := none } := by kernel_rfl
theorem tab12 : env.tab 12 = some { size := 1, kind := 0, zero := [.v (.int .u64 0)], offs := [], fsz := [], elem := 0, esz := 0, bytes := 8, ik := some .u64 } := by kernel_rfl
theorem tab13 : env.tab 13 = some { size := 2, kind := 1, zero := [.v (.string ByteArray.empty), .v (.int .u64 0)], offs := [0, 1], fsz := [1, 1], elem := 0, esz := 0, bytes := 24, ik := none } := by kernel_rfl
theorem tab14 : env.tab 14 = some { size := 2, kind := 1, zero := [.v (.string ByteArray.empty), .v (.int .u64 0)], offs := [0, 1], fsz := [1, 1], elem := 0, esz := 0, bytes := 24, ik := none } := by kernel_rfl
theorem tab15 : env.tab 15 = some { size := 1, kind := 0, zero := [.v (.pointer none)], offs := [], fsz := [], elem := 0, esz := 0, bytes := 8, ik := none } := by kernel_rfl
theorem tab16 : env.tab 16 = some { size := 1, kind := 0, zero := [.v (.pointer none)], offs := [], fsz := [], elem := 0, esz := 0, bytes := 8, ik := none } := by kernel_rfl
theorem tab17 : env.tab 17 = some { size := 1, kind := 0, zero := [.v (.pointer none)], offs := [], fsz := [], elem := 0, esz := 0, bytes := 8, ik := none } := by kernel_rfl
theorem tab18 : env.tab 18 = some { size := 1, kind := 1, zero := [.v (.pointer none)], offs := [0], fsz := [1], elem := 0, esz := 0, bytes := 8, ik := none } := by kernel_rfl
theorem tab19 : env.tab 19 = some { size := 1, kind := 1, zero := [.v (.pointer none)], offs := [0], fsz := [1], elem := 0, esz := 0, bytes := 8, ik := none } := by kernel_rfl
theorem tab20 : env.tab 20 = some { size := 1, kind := 0, zero := [.v .nilIface], offs := [], fsz := [], elem := 0, esz := 0, bytes := 16, ik := none } := by kernel_rfl
theorem tab21 : env.tab 21 = some { size := 1, kind := 0, zero := [.v (.int .i32 0)], offs := [], fsz := [], elem := 0, esz := 0, bytes := 4, ik := some .i32 } := by kernel_rfl
theorem tab22 : env.tab 22 = some { size := 5, kind := 1, zero := [.v (.int .i64 0), .v (.int .i64 0), .v (.int .i64 0), .v (.int .i64 0), .v (.int .i64 0)], offs := [0, 1, 2, 3, 4], fsz := [1, 1, 1, 1, 1], elem := 0, esz := 0, bytes := 40, ik := none } := by kernel_rfl
theorem eqt22 : env.eqt 22 = some [.i .i64, .i .i64, .i .i64, .i .i64, .i .i64] := by kernel_rfl
theorem tab23 : env.tab 23 = some { size := 5, kind := 1, zero := [.v (.int .i64 0), .v (.int .i64 0), .v (.int .i64 0), .v (.int .i64 0), .v (.int .i64 0)], offs := [0, 1, 2, 3, 4], fsz := [1, 1, 1, 1, 1], elem := 0, esz := 0, bytes := 40, ik := none } := by kernel_rfl
theorem eqt23 : env.eqt 23 = some [.i .i64, .i .i64, .i .i64, .i .i64, .i .i64] := by kernel_rfl
theorem tab24 : env.tab 24 = some { size := 1, kind := 0, zero := [.v .nilFunc], offs := [], fsz := [], elem := 0, esz := 0, bytes := 8, ik := none } := by kernel_rfl
theorem tab25 : env.tab 25 = some { size := 5, kind := 1, zero := [.v (.int .i64 0), .v (.int .i64 0), .v (.int .i64 0), .v (.int .i64 0), .v (.int .i64 0)], offs := [0, 1, 2, 3, 4], fsz := [1, 1, 1, 1, 1], elem := 0, esz := 0, bytes := 40, ik := none } := by kernel_rfl
theorem eqt25 : env.eqt 25 = some [.i .i64, .i .i64, .i .i64, .i .i64, .i .i64] := by kernel_rfl
theorem tab26 : env.tab 26 = some { size := 1, kind := 0, zero := [.v .nilFunc], offs := [], fsz := [], elem := 0, esz := 0, bytes := 8, ik := none } := by kernel_rfl
theorem tab27 : env.tab 27 = some { size := 1, kind := 0, zero := [.v .nilFunc], offs := [], fsz := [], elem := 0, esz := 0, bytes := 8, ik := none } := by kernel_rfl
theorem tab28 : env.tab 28 = some { size := 1, kind := 2, zero := [.s true 3 []], offs := [], fsz := [], elem := 63, esz := 3, bytes := 24, ik := none } := by kernel_rfl
theorem tab29 : env.tab 29 = some { size := 1, kind := 0, zero := [.v .nilFunc], offs := [], fsz := [], elem := 0, esz := 0, bytes := 8, ik := none } := by kernel_rfl
theorem tab30 : env.tab 30 = some { size := 1, kind := 0, zero := [.v .nilFunc], offs := [], fsz := [], elem := 0, esz := 0, bytes := 8, ik := none } := by kernel_rfl
theorem tab31 : env.tab 31 = some { size := 1, kind := 2, zero := [.s true 3 []], offs := [], fsz := [], elem := 61, esz := 3, bytes := 24, ik := none } := by kernel_rfl
theorem tab32 : env.tab 32 = some { size := 1, kind := 0, zero := [.v .nilFunc], offs := [], fsz := [], elem := 0, esz := 0, bytes := 8, ik := none } := by kernel_rfl
theorem tab33 : env.tab 33 = some { size := 1, kind := 0, zero := [.v .nilFunc], offs := [], fsz := [], elem := 0, esz := 0, bytes := 8, ik := none } := by kernel_rfl
theorem tab34 : env.tab 34 = some { size := 1, kind := 2, zero := [.s true 1 []], offs := [], fsz := [], elem := 5, esz := 1, bytes := 24, ik := none } := by kernel_rfl
theorem tab35 : env.tab 35 = some { size := 1, kind := 0, zero := [.v .nilFunc], offs := [], fsz := [], elem := 0, esz := 0, bytes := 8, ik := none } := by kernel_rfl
theorem tab36 : env.tab 36 = some { size := 1, kind := 2, zero := [.s true 6 []], offs := [], fsz := [], elem := 41, esz := 6, bytes := 24, ik := none } := by kernel_rfl
theorem tab38 : env.tab 38 = some { size := 1, kind := 0, zero := [.v .nilFunc], offs := [], fsz := [], elem := 0, esz := 0, bytes := 8, ik := none } := by kernel_rfl
theorem tab39 : env.tab 39 = some { size := 1, kind := 2, zero := [.s true 4 []], offs := [], fsz := [], elem := 99, esz := 4, bytes := 24, ik := none } := by kernel_rfl
theorem tab40 : env.tab 40 = some { size := 6, kind := 1, zero := [.v (.int .i64 0), .v (.int .i64 0), .v (.int .i64 0), .v (.int .i64 0), .v (.bool false), .s true 4 []], offs := [0, 1, 2, 3, 4, 5], fsz := [1, 1, 1, 1, 1, 1], elem := 0, esz := 0, bytes := 64, ik := none } := by kernel_rfl
theorem tab41 : env.tab 41 = some { size := 6, kind := 1, zero := [.v (.int .i64 0), .v (.int .i64 0), .v (.int .i64 0), .v (.int .i64 0), .v (.bool false), .s true 4 []], offs := [0, 1, 2, 3, 4, 5], fsz := [1, 1, 1, 1, 1, 1], elem := 0, esz := 0, bytes := 64, ik := none } := by kernel_rfl
theorem tab42 : env.tab 42 = some { size := 1, kind := 0, zero := [.v .nilFunc], offs := [], fsz := [], elem := 0, esz := 0, bytes := 8, ik := none } := by kernel_rfl
theorem tab43 : env.tab 43 = some { size := 1, kind := 2, zero := [.s true 6 []], offs := [], fsz := [], elem := 77, esz := 6, bytes := 24, ik := none } := by kernel_rfl
theorem tab44 : env.tab 44 = some { size := 1, kind := 0, zero := [.v .nilFunc], offs := [], fsz := [], elem := 0, esz := 0, bytes := 8, ik := none } := by kernel_rfl
theorem tab45 : env.tab 45 = some { size := 1, kind := 0, zero := [.v .nilFunc], offs := [], fsz := [], elem := 0, esz := 0, bytes := 8, ik := none } := by kernel_rfl
theorem tab46 : env.tab 46 = some { size := 1, kind := 0, zero := [.v .nilFunc], offs := [], fsz := [], elem := 0, esz := 0, bytes := 8, ik := none } := by kernel_rfl
theorem tab47 : env.tab 47 = some { size := 1, kind := 2, zero := [.s true 20 []], offs := [], fsz := [], elem := 81, esz := 20, bytes := 24, ik := none } := by kernel_rfl
theorem tab48 : env.tab 48 = some { size := 1, kind := 0, zero := [.v .nilFunc], offs := [], fsz := [], elem := 0, esz := 0, bytes := 8, ik := none } := by kernel_rfl
theorem tab49 : env.tab 49 = some { size := 1, kind := 0, zero := [.v .nilFunc], offs := [], fsz := [], elem := 0, esz := 0, bytes := 8, ik := none } := by kernel_rfl
theorem tab50 : env.tab 50 = some { size := 1, kind := 2, zero := [.s true 20 []], offs := [], fsz := [], elem := 83, esz := 20, bytes := 24, ik := none } := by kernel_rfl
theorem tab51 : env.tab 51 = some { size := 1, kind := 0, zero := [.v .nilFunc], offs := [], fsz := [], elem := 0, esz := 0, bytes := 8, ik := none } := by kernel_rfl
theorem tab52 : env.tab 52 = some { size := 1, kind := 0, zero := [.v .nilFunc], offs := [], fsz := [], elem := 0, esz := 0, bytes := 8, ik := none } := by kernel_rfl
theorem tab53 : env.tab 53 = some { size := 1, kind := 0, zero := [.v .nilFunc], offs := [], fsz := [], elem := 0, esz := 0, bytes := 8, ik := none } := by kernel_rfl
theorem tab54 : env.tab 54 = some { size := 1, kind := 0, zero := [.v .nilFunc], offs := [], fsz := [], elem := 0, esz := 0, bytes := 8, ik := none } := by kernel_rfl
theorem tab55 : env.tab 55 = some { size := 1, kind := 0, zero := [.v .nilFunc], offs := [], fsz := [], elem := 0, esz := 0, bytes := 8, ik := none } := by kernel_rfl
theorem tab56 : env.tab 56 = some { size := 1, kind := 0, zero := [.v .nilFunc], offs := [], fsz := [], elem := 0, esz := 0, bytes := 8, ik := none } := by kernel_rfl
theorem tab57 : env.tab 57 = some { size := 1, kind := 0, zero := [.v .nilFunc], offs := [], fsz := [], elem := 0, esz := 0, bytes := 8, ik := none } := by kernel_rfl
theorem tab58 : env.tab 58 = some { size := 1, kind := 0, zero := [.v .nilFunc], offs := [], fsz := [], elem := 0, esz := 0, bytes := 8, ik := none } := by kernel_rfl
theorem tab59 : env.tab 59 = some { size := 1, kind := 0, zero := [.v .nilFunc], offs := [], fsz := [], elem := 0, esz := 0, bytes := 8, ik := none } := by kernel_rfl
theorem tab60 : env.tab 60 = some { size := 3, kind := 1, zero := [.v (.int .i64 0), .v (.int .i64 0), .v (.bool false)], offs := [0, 1, 2], fsz := [1, 1, 1], elem := 0, esz := 0, bytes := 24, ik := none } := by kernel_rfl
theorem eqt60 : env.eqt 60 = some [.i .i64, .i .i64, .b] := by kernel_rfl
theorem tab61 : env.tab 61 = some { size := 3, kind := 1, zero := [.v (.int .i64 0), .v (.int .i64 0), .v (.bool false)], offs := [0, 1, 2], fsz := [1, 1, 1], elem := 0, esz := 0, bytes := 24, ik := none } := by kernel_rfl
theorem eqt61 : env.eqt 61 = some [.i .i64, .i .i64, .b] := by kernel_rfl
theorem tab62 : env.tab 62 = some { size := 1, kind := 0, zero := [.v .nilFunc], offs := [], fsz := [], elem := 0, esz := 0, bytes := 8, ik := none } := by kernel_rfl
theorem tab63 : env.tab 63 = some { size := 3, kind := 1, zero := [.v (.int .i64 0), .v (.int .i64 0), .v (.bool false)], offs := [0, 1, 2], fsz := [1, 1, 1], elem := 0, esz := 0, bytes := 24, ik := none } := by kernel_rfl
theorem eqt63 : env.eqt 63 = some [.i .i64, .i .i64, .b] := by kernel_rfl
theorem tab64 : env.tab 64 = some { size := 1, kind := 0, zero := [.v .nilFunc], offs := [], fsz := [], elem := 0, esz := 0, bytes := 8, ik := none } := by kernel_rfl
theorem tab65 : env.tab 65 = some { size := 1, kind := 0, zero := [.v (.pointer none)], offs := [], fsz := [], elem := 0, esz := 0, bytes := 8, ik := none } := by kernel_rfl
theorem tab66 : env.tab 66 = some { size := 1, kind := 0, zero := [.v .nilFunc], offs := [], fsz := [], elem := 0, esz := 0, bytes := 8, ik := none } := by kernel_rfl
theorem tab67 : env.tab 67 = some { size := 1, kind := 0, zero := [.v .nilFunc], offs := [], fsz := [], elem := 0, esz := 0, bytes := 8, ik := none } := by kernel_rfl
theorem tab68 : env.tab 68 = some { size := 1, kind := 0, zero := [.v .nilFunc], offs := [], fsz := [], elem := 0, esz := 0, bytes := 8, ik := none } := by kernel_rfl
theorem tab69 : env.tab 69 = some { size := 1, kind := 0, zero := [.v .nilFunc], offs := [], fsz := [], elem := 0, esz := 0, bytes := 8, ik := none } := by kernel_rfl
theorem tab70 : env.tab 70 = some { size := 1, kind := 0, zero := [.v .nilFunc], offs := [], fsz := [], elem := 0, esz := 0, bytes := 8, ik := none } := by kernel_rfl
theorem tab71 : env.tab 71 = some { size := 1, kind := 0, zero := [.v .nilFunc], offs := [], fsz := [], elem := 0, esz := 0, bytes := 8, ik := none } := by kernel_rfl
theorem tab72 : env.tab 72 = some { size := 1, kind := 0, zero := [.v .nilFunc], offs := [], fsz := [], elem := 0, esz := 0, bytes := 8, ik := none } := by kernel_rfl
theorem tab73 : env.tab 73 = some { size := 1, kind := 0, zero := [.v .nilFunc], offs := [], fsz := [], elem := 0, esz := 0, bytes := 8, ik := none } := by kernel_rfl
theorem tab74 : env.tab 74 = some { size := 1, kind := 0, zero := [.v .nilFunc], offs := [], fsz := [], elem := 0, esz := 0, bytes := 8, ik := none } := by kernel_rfl
theorem tab75 : env.tab 75 = some { size := 1, kind := 2, zero := [.s true 4 []], offs := [], fsz := [], elem := 107, esz := 4, bytes := 24, ik := none } := by kernel_rfl
theorem tab76 : env.tab 76 = some { size := 6, kind := 1, zero := [.v (.int .i64 0), .v (.int .i64 0), .v (.int .i64 0), .v (.int .i64 0), .v (.bool false), .s true 4 []], offs := [0, 1, 2, 3, 4, 5], fsz := [1, 1, 1, 1, 1, 1], elem := 0, esz := 0, bytes := 64, ik := none } := by kernel_rfl
theorem tab77 : env.tab 77 = some { size := 6, kind := 1, zero := [.v (.int .i64 0), .v (.int .i64 0), .v (.int .i64 0), .v (.int .i64 0), .v (.bool false), .s true 4 []], offs := [0, 1, 2, 3, 4, 5], fsz := [1, 1, 1, 1, 1, 1], elem := 0, esz := 0, bytes := 64, ik := none } := by kernel_rfl
theorem tab78 : env.tab 78 = some { size := 1, kind := 0, zero := [.v .nilFunc], offs := [], fsz := [], elem := 0, esz := 0, bytes := 8, ik := none } := by kernel_rfl
theorem tab79 : env.tab 79 = some { size := 1, kind := 0, zero := [.v .nilFunc], offs := [], fsz := [], elem := 0, esz := 0, bytes := 8, ik := none } := by kernel_rfl
theorem tab80 : env.tab 80 = some { size := 20, kind := 1, zero := [.v (.int .i64 0), .v (.int .i64 0), .v (.int .i64 0), .v (.int .i64 0), .v (.int .i64 0), .v (.int .i64 0), .v (.bool false), .s true 4 [], .v (.int .i64 0), .v (.int .i64 0), .v (.int .i64 0), .v (.bool false), .v (.bool false), .v (.int .i64 0), .v (.int .i64 0), .v (.int .i64 0), .v (.int .i64 0), .v (.int .i64 0), .v (.int .i64 0), .v (.int .i64 0)], offs := [0, 1, 2, 8, 9, 10, 11, 12, 13, 14, 15, 16, 17, 18, 19], fsz := [1, 1, 6, 1, 1, 1, 1, 1, 1, 1, 1, 1, 1, 1, 1], elem := 0, esz := 0, bytes := 168, ik := none } := by kernel_rfl
theorem tab81 : env.tab 81 = some { size := 20, kind := 1, zero := [.v (.int .i64 0), .v (.int .i64 0), .v (.int .i64 0), .v (.int .i64 0), .v (.int .i64 0), .v (.int .i64 0), .v (.bool false), .s true 4 [], .v (.int .i64 0), .v (.int .i64 0), .v (.int .i64 0), .v (.bool false), .v (.bool false), .v (.int .i64 0), .v (.int .i64 0), .v (.int .i64 0), .v (.int .i64 0), .v (.int .i64 0), .v (.int .i64 0), .v (.int .i64 0)], offs := [0, 1, 2, 8, 9, 10, 11, 12, 13, 14, 15, 16, 17, 18, 19], fsz := [1, 1, 6, 1, 1, 1, 1, 1, 1, 1, 1, 1, 1, 1, 1], elem := 0, esz := 0, bytes := 168, ik := none } := by kernel_rfl
theorem tab82 : env.tab 82 = some { size := 20, kind := 1, zero := [.v (.int .i64 0), .v (.int .i64 0), .v (.int .i64 0), .v (.int .i64 0), .v (.int .i64 0), .v (.int .i64 0), .v (.bool false), .s true 4 [], .v (.int .i64 0), .v (.int .i64 0), .v (.int .i64 0), .v (.bool false), .v (.bool false), .v (.int .i64 0), .v (.int .i64 0), .v (.int .i64 0), .v (.int .i64 0), .v (.int .i64 0), .v (.int .i64 0), .v (.int .i64 0)], offs := [0, 1, 2, 8, 9, 10, 11, 12, 13, 14, 15, 16, 17, 18, 19], fsz := [1, 1, 6, 1, 1, 1, 1, 1, 1, 1, 1, 1, 1, 1, 1], elem := 0, esz := 0, bytes := 168, ik := none } := by kernel_rfl
theorem tab83 : env.tab 83 = some { size := 20, kind := 1, zero := [.v (.int .i64 0), .v (.int .i64 0), .v (.int .i64 0), .v (.int .i64 0), .v (.int .i64 0), .v (.int .i64 0), .v (.bool false), .s true 4 [], .v (.int .i64 0), .v (.int .i64 0), .v (.int .i64 0), .v (.bool false), .v (.bool false), .v (.int .i64 0), .v (.int .i64 0), .v (.int .i64 0), .v (.int .i64 0), .v (.int .i64 0), .v (.int .i64 0), .v (.int .i64 0)], offs := [0, 1, 2, 8, 9, 10, 11, 12, 13, 14, 15, 16, 17, 18, 19], fsz := [1, 1, 6, 1, 1, 1, 1, 1, 1, 1, 1, 1, 1, 1, 1], elem := 0, esz := 0, bytes := 168, ik := none } := by kernel_rfl
theorem tab84 : env.tab 84 = some { size := 1, kind := 0, zero := [.v .nilFunc], offs := [], fsz := [], elem := 0, esz := 0, bytes := 8, ik := none } := by kernel_rfl
theorem tab85 : env.tab 85 = some { size := 1, kind := 0, zero := [.v .nilFunc], offs := [], fsz := [], elem := 0, esz := 0, bytes := 8, ik := none } := by kernel_rfl
theorem tab86 : env.tab 86 = some { size := 1, kind := 0, zero := [.v .nilFunc], offs := [], fsz := [], elem := 0, esz := 0, bytes := 8, ik := none } := by kernel_rfl
theorem tab87 : env.tab 87 = some { size := 1, kind := 0, zero := [.v .nilFunc], offs := [], fsz := [], elem := 0, esz := 0, bytes := 8, ik := none } := by kernel_rfl
theorem tab88 : env.tab 88 = some { size := 1, kind := 0, zero := [.v .nilFunc], offs := [], fsz := [], elem := 0, esz := 0, bytes := 8, ik := none } := by kernel_rfl
theorem tab89 : env.tab 89 = some { size := 1, kind := 0, zero := [.v .nilFunc], offs := [], fsz := [], elem := 0, esz := 0, bytes := 8, ik := none } := by kernel_rfl
theorem tab90 : env.tab 90 = some { size := 3, kind := 1, zero := [.s true 1 [], .v (.int .i64 0), .v (.int .i64 0)], offs := [0, 1, 2], fsz := [1, 1, 1], elem := 0, esz := 0, bytes := 40, ik := none } := by kernel_rfl
theorem tab91 : env.tab 91 = some { size := 3, kind := 1, zero := [.s true 1 [], .v (.int .i64 0), .v (.int .i64 0)], offs := [0, 1, 2], fsz := [1, 1, 1], elem := 0, esz := 0, bytes := 40, ik := none } := by kernel_rfl
theorem tab92 : env.tab 92 = some { size := 1, kind := 0, zero := [.v .nilFunc], offs := [], fsz := [], elem := 0, esz := 0, bytes := 8, ik := none } := by kernel_rfl
theorem tab93 : env.tab 93 = some { size := 1, kind := 0, zero := [.v .nilFunc], offs := [], fsz := [], elem := 0, esz := 0, bytes := 8, ik := none } := by kernel_rfl
theorem tab94 : env.tab 94 = some { size := 1, kind := 0, zero := [.v .nilFunc], offs := [], fsz := [], elem := 0, esz := 0, bytes := 8, ik := none } := by kernel_rfl
theorem tab95 : env.tab 95 = some { size := 1, kind := 0, zero := [.v .nilFunc], offs := [], fsz := [], elem := 0, esz := 0, bytes := 8, ik := none } := by kernel_rfl
theorem tab96 : env.tab 96 = some { size := 1, kind := 2, zero := [.s true 1 []], offs := [], fsz := [], elem := 3, esz := 1, bytes := 24, ik := none } := by kernel_rfl
theorem tab97 : env.tab 97 = some { size := 1, kind := 0, zero := [.v .nilFunc], offs := [], fsz := [], elem := 0, esz := 0, bytes := 8, ik := none } := by kernel_rfl
theorem tab98 : env.tab 98 = some { size := 4, kind := 1, zero := [.v (.string ByteArray.empty), .v (.bool false), .v (.int .i64 0), .v (.string ByteArray.empty)], offs := [0, 1, 2, 3], fsz := [1, 1, 1, 1], elem := 0, esz := 0, bytes := 48, ik := none } := by kernel_rfl
theorem eqt98 : env.eqt 98 = some [.s, .b, .i .i64, .s] := by kernel_rfl
theorem tab99 : env.tab 99 = some { size := 4, kind := 1, zero := [.v (.string ByteArray.empty), .v (.bool false), .v (.int .i64 0), .v (.string ByteArray.empty)], offs := [0, 1, 2, 3], fsz := [1, 1, 1, 1], elem := 0, esz := 0, bytes := 48, ik := none } := by kernel_rfl
theorem eqt99 : env.eqt 99 = some [.s, .b, .i .i64, .s] := by kernel_rfl
theorem tab100 : env.tab 100 = some { size := 1, kind := 0, zero := [.v .nilFunc], offs := [], fsz := [], elem := 0, esz := 0, bytes := 8, ik := none } := by kernel_rfl
theorem tab101 : env.tab 101 = some { size := 1, kind := 0, zero := [.v .nilFunc], offs := [], fsz := [], elem := 0, esz := 0, bytes := 8, ik := none } := by kernel_rfl
theorem tab102 : env.tab 102 = some { size := 1, kind := 0, zero := [.v .nilFunc], offs := [], fsz := [], elem := 0, esz := 0, bytes := 8, ik := none } := by kernel_rfl
theorem tab103 : env.tab 103 = some { size := 1, kind := 0, zero := [.v (.int .u64 0)], offs := [], fsz := [], elem := 0, esz := 0, bytes := 8, ik := some .u64 } := by kernel_rfl
theorem tab104 : env.tab 104 = some { size := 1, kind := 2, zero := [.s true 1 []], offs := [], fsz := [], elem := 9, esz := 1, bytes := 24, ik := none } := by kernel_rfl
theorem tab105 : env.tab 105 = some { size := 1, kind := 0, zero := [.v .nilFunc], offs := [], fsz := [], elem := 0, esz := 0, bytes := 8, ik := none } := by kernel_rfl
theorem tab106 : env.tab 106 = some { size := 1, kind := 0, zero := [.v .nilFunc], offs := [], fsz := [], elem := 0, esz := 0, bytes := 8, ik := none } := by kernel_rfl
theorem tab107 : env.tab 107 = some { size := 4, kind := 1, zero := [.v (.string ByteArray.empty), .v (.bool false), .v (.int .i64 0), .v (.string ByteArray.empty)], offs := [0, 1, 2, 3], fsz := [1, 1, 1, 1], elem := 0, esz := 0, bytes := 48, ik := none } := by kernel_rfl
theorem eqt107 : env.eqt 107 = some [.s, .b, .i .i64, .s] := by kernel_rfl
theorem tab108 : env.tab 108 = some { size := 1, kind := 0, zero := [.v .nilFunc], offs := [], fsz := [], elem := 0, esz := 0, bytes := 8, ik := none } := by kernel_rfl
theorem tab109 : env.tab 109 = some { size := 1, kind := 0, zero := [.v .nilFunc], offs := [], fsz := [], elem := 0, esz := 0, bytes := 8, ik := none } := by kernel_rfl
attribute [go_sem] tab1 tab2 tab3 tab4 tab5 tab6 tab7 eqt7 tab8 eqt8 tab9 tab10 tab11 tab12 tab13 tab14 tab15 tab16 tab17 tab18 tab19 tab20 tab21 tab22 eqt22 tab23 eqt23 tab24 tab25 eqt25 tab26 tab27 tab28 tab29 tab30 tab31 tab32 tab33 tab34 tab35 tab36 tab38 tab39 tab40 tab41 tab42 tab43 tab44 tab45 tab46 tab47 tab48 tab49 tab50 tab51 tab52 tab53 tab54 tab55 tab56 tab57 tab58 tab59 tab60 eqt60 tab61 eqt61 tab62 tab63 eqt63 tab64 tab65 tab66 tab67 tab68 tab69 tab70 tab71 tab72 tab73 tab74 tab75 tab76 tab77 tab78 tab79 tab80 tab81 tab82 tab83 tab84 tab85 tab86 tab87 tab88 tab89 tab90 tab91 tab92 tab93 tab94 tab95 tab96 tab97 tab98 eqt98 tab99 eqt99 tab100 tab101 tab102 tab103 tab104 tab105 tab106 tab107 eqt107 tab108 tab109
theorem wrap_small {n : Int} (h0 : -9223372036854775808 ≤ n) (h1 : n ≤ 9223372036854775807) : IntKind.i64.wrap n = n := by
  simp only [IntKind.wrap, IntKind.bits, IntKind.signed]
  simp
  omega
theorem rowAt_map {α : Type} (f : α → List T) (l : List α) (i : Nat) (h : i < l.length) : Go.Ev.rowAt (l.map f) i = f l[i] := by
  simp [Go.Ev.rowAt, h]
theorem getD_map {α : Type} (f : α → List T) (l : List α) (i : Nat) (h : i < l.length) : (l.map f).getD i [] = f l[i] := by
  simp [h]
theorem rows_map {α : Type} (f : α → List T) : ∀ rows : List (List T), (∀ r ∈ rows, ∃ x, r = f x) → ∃ l : List α, rows = l.map f
  | [], _ => ⟨[], rfl⟩
  | r :: rows, h => by
    obtain ⟨x, hx⟩ := h r (by simp)
    obtain ⟨l, hl⟩ := rows_map f rows (fun r hr => h r (by simp [hr]))
    exact ⟨x :: l, by simp [hx, hl]⟩
theorem take_map {α : Type} (f : α → List T) (l : List α) : (l.map f).take l.length = l.map f := by
  rw [← List.length_map (f := f), List.take_length]
theorem fillRow_all {row cs : List T} (h : row.length = cs.length) : fillRow row 0 cs = cs := by
  simp [fillRow, ← h]
theorem set_fill {α : Type} (f : α → List T) (l : List α) (z : List T) (i : Nat) (hi : i < l.length) (hz : z.length = (f l[i]).length) :
    fillS ((l.take i).map f ++ List.replicate (l.length - i) z) i 0 (f l[i]) = (l.take (i + 1)).map f ++ List.replicate (l.length - (i + 1)) z := by
  unfold fillS
  have h1 : Go.Ev.rowAt ((l.take i).map f ++ List.replicate (l.length - i) z) i = z := by
    unfold Go.Ev.rowAt
    rw [List.getD_eq_getElem?_getD, List.getElem?_append_right (by simp; omega)]
    simp [List.getElem?_replicate]
    rw [if_pos (by omega)]
    rfl
  rw [h1, fillRow_all hz]
  apply List.ext_getElem?
  intro j
  have hl : ((l.take i).map f).length = i := by simp; omega
  have hl2 : ((l.take (i + 1)).map f).length = i + 1 := by simp; omega
  rw [List.getElem?_set]
  by_cases hj : i = j
  · subst hj
    rw [if_pos rfl, if_pos (by simp; omega), List.getElem?_append_left (by omega)]
    simp [List.getElem?_take, hi]
  · rw [if_neg hj]
    by_cases hji : j < i
    · rw [List.getElem?_append_left (by omega), List.getElem?_append_left (by omega)]
      simp [List.getElem?_take, hji, show j < i + 1 by omega]
    · rw [List.getElem?_append_right (by omega), List.getElem?_append_right (by omega), hl, hl2, List.getElem?_replicate, List.getElem?_replicate]
      by_cases hjl : j < l.length
      · rw [if_pos (by omega), if_pos (by omega)]
      · rw [if_neg (by omega), if_neg (by omega)]
theorem ownT_map {α : Type} (f : α → List T) (hf : ∀ x, ∀ t ∈ f x, OwnT t) (k : Nat) (l : List α) : OwnT (.s true k (l.map f)) := by
  refine .s k _ (fun r hr t ht => ?_)
  obtain ⟨x, _, rfl⟩ := List.mem_map.1 hr
  exact hf x t ht
end Go.Proofs.Try.Ev
