/- The types of the seat. -/
import Derived.Test.YthfbcomcoiikiaaDoorEvY
import Derived.Test.YthfbcomcoiikiaaDoorProg
namespace Go.Proofs.Tryd.Ev
open Go Go.Ev
set_option maxRecDepth 100000
def ti1 : TI := { size := 1, kind := 0, zero := [.v .nilFunc], offs := [], fsz := [], elem := 0, esz := 0, bytes := 8, ik := none }
def ti2 : TI := { size := 1, kind := 0, zero := [.v (.int .i64 0)], offs := [], fsz := [], elem := 0, esz := 0, bytes := 8, ik := some .i64 }
def ti3 : TI := { size := 1, kind := 0, zero := [.v (.int .i64 0)], offs := [], fsz := [], elem := 0, esz := 0, bytes := 8, ik := some .i64 }
def ti4 : TI := { size := 1, kind := 3, zero := [.v (.bool false)], offs := [], fsz := [], elem := 0, esz := 0, bytes := 1, ik := none }
def ti5 : TI := { size := 1, kind := 0, zero := [.v (.int .u8 0)], offs := [], fsz := [], elem := 0, esz := 0, bytes := 1, ik := some .u8 }
def ti6 : TI := { size := 1, kind := 0, zero := [.v (.int .u8 0)], offs := [], fsz := [], elem := 0, esz := 0, bytes := 1, ik := some .u8 }
def ti7 : TI := { size := 4, kind := 1, zero := [.v (.int .i64 0), .v (.int .i64 0), .v (.bool false), .v (.int .u8 0)], offs := [0, 1, 2, 3], fsz := [1, 1, 1, 1], elem := 0, esz := 0, bytes := 24, ik := none }
def ti8 : TI := { size := 4, kind := 1, zero := [.v (.int .i64 0), .v (.int .i64 0), .v (.bool false), .v (.int .u8 0)], offs := [0, 1, 2, 3], fsz := [1, 1, 1, 1], elem := 0, esz := 0, bytes := 24, ik := none }
def ti9 : TI := { size := 1, kind := 4, zero := [.v (.string ByteArray.empty)], offs := [], fsz := [], elem := 0, esz := 0, bytes := 16, ik := none }
def ti10 : TI := { size := 1, kind := 4, zero := [.v (.string ByteArray.empty)], offs := [], fsz := [], elem := 0, esz := 0, bytes := 16, ik := none }
def ti11 : TI := { size := 1, kind := 4, zero := [.v (.string ByteArray.empty)], offs := [], fsz := [], elem := 0, esz := 0, bytes := 16, ik := none }
def ti12 : TI := { size := 1, kind := 0, zero := [.v (.int .u64 0)], offs := [], fsz := [], elem := 0, esz := 0, bytes := 8, ik := some .u64 }
def ti13 : TI := { size := 2, kind := 1, zero := [.v (.string ByteArray.empty), .v (.int .u64 0)], offs := [0, 1], fsz := [1, 1], elem := 0, esz := 0, bytes := 24, ik := none }
def ti14 : TI := { size := 2, kind := 1, zero := [.v (.string ByteArray.empty), .v (.int .u64 0)], offs := [0, 1], fsz := [1, 1], elem := 0, esz := 0, bytes := 24, ik := none }
def ti15 : TI := { size := 1, kind := 0, zero := [.v (.pointer none)], offs := [], fsz := [], elem := 0, esz := 0, bytes := 8, ik := none }
def ti16 : TI := { size := 1, kind := 0, zero := [.v (.pointer none)], offs := [], fsz := [], elem := 0, esz := 0, bytes := 8, ik := none }
def ti17 : TI := { size := 1, kind := 0, zero := [.v (.pointer none)], offs := [], fsz := [], elem := 0, esz := 0, bytes := 8, ik := none }
def ti18 : TI := { size := 1, kind := 1, zero := [.v (.pointer none)], offs := [0], fsz := [1], elem := 0, esz := 0, bytes := 8, ik := none }
def ti19 : TI := { size := 1, kind := 1, zero := [.v (.pointer none)], offs := [0], fsz := [1], elem := 0, esz := 0, bytes := 8, ik := none }
def ti20 : TI := { size := 1, kind := 0, zero := [.v .nilIface], offs := [], fsz := [], elem := 0, esz := 0, bytes := 16, ik := none }
def ti21 : TI := { size := 1, kind := 0, zero := [.v (.int .i32 0)], offs := [], fsz := [], elem := 0, esz := 0, bytes := 4, ik := some .i32 }
def ti22 : TI := { size := 1, kind := 2, zero := [.s true 4 []], offs := [], fsz := [], elem := 62, esz := 4, bytes := 24, ik := none }
def ti23 : TI := { size := 6, kind := 1, zero := [.v (.int .i64 0), .v (.int .i64 0), .v (.int .i64 0), .v (.int .i64 0), .v (.bool false), .s true 4 []], offs := [0, 1, 2, 3, 4, 5], fsz := [1, 1, 1, 1, 1, 1], elem := 0, esz := 0, bytes := 64, ik := none }
def ti24 : TI := { size := 6, kind := 1, zero := [.v (.int .i64 0), .v (.int .i64 0), .v (.int .i64 0), .v (.int .i64 0), .v (.bool false), .s true 4 []], offs := [0, 1, 2, 3, 4, 5], fsz := [1, 1, 1, 1, 1, 1], elem := 0, esz := 0, bytes := 64, ik := none }
def ti25 : TI := { size := 7, kind := 1, zero := [.v (.int .i64 0), .v (.int .i64 0), .v (.int .i64 0), .v (.int .i64 0), .v (.int .i64 0), .v (.bool false), .s true 4 []], offs := [0, 1], fsz := [1, 6], elem := 0, esz := 0, bytes := 72, ik := none }
def ti26 : TI := { size := 7, kind := 1, zero := [.v (.int .i64 0), .v (.int .i64 0), .v (.int .i64 0), .v (.int .i64 0), .v (.int .i64 0), .v (.bool false), .s true 4 []], offs := [0, 1], fsz := [1, 6], elem := 0, esz := 0, bytes := 72, ik := none }
def ti27 : TI := { size := 1, kind := 0, zero := [.v .nilFunc], offs := [], fsz := [], elem := 0, esz := 0, bytes := 8, ik := none }
def ti28 : TI := { size := 1, kind := 0, zero := [.v .nilFunc], offs := [], fsz := [], elem := 0, esz := 0, bytes := 8, ik := none }
def ti29 : TI := { size := 1, kind := 2, zero := [.s true 4 []], offs := [], fsz := [], elem := 56, esz := 4, bytes := 24, ik := none }
def ti30 : TI := { size := 6, kind := 1, zero := [.v (.int .i64 0), .v (.int .i64 0), .v (.int .i64 0), .v (.int .i64 0), .v (.bool false), .s true 4 []], offs := [0, 1, 2, 3, 4, 5], fsz := [1, 1, 1, 1, 1, 1], elem := 0, esz := 0, bytes := 64, ik := none }
def ti31 : TI := { size := 6, kind := 1, zero := [.v (.int .i64 0), .v (.int .i64 0), .v (.int .i64 0), .v (.int .i64 0), .v (.bool false), .s true 4 []], offs := [0, 1, 2, 3, 4, 5], fsz := [1, 1, 1, 1, 1, 1], elem := 0, esz := 0, bytes := 64, ik := none }
def ti32 : TI := { size := 7, kind := 1, zero := [.v (.int .i64 0), .v (.int .i64 0), .v (.int .i64 0), .v (.int .i64 0), .v (.int .i64 0), .v (.bool false), .s true 4 []], offs := [0, 1], fsz := [1, 6], elem := 0, esz := 0, bytes := 72, ik := none }
def ti33 : TI := { size := 7, kind := 1, zero := [.v (.int .i64 0), .v (.int .i64 0), .v (.int .i64 0), .v (.int .i64 0), .v (.int .i64 0), .v (.bool false), .s true 4 []], offs := [0, 1], fsz := [1, 6], elem := 0, esz := 0, bytes := 72, ik := none }
def ti34 : TI := { size := 1, kind := 0, zero := [.v .nilFunc], offs := [], fsz := [], elem := 0, esz := 0, bytes := 8, ik := none }
def ti35 : TI := { size := 1, kind := 0, zero := [.v .nilFunc], offs := [], fsz := [], elem := 0, esz := 0, bytes := 8, ik := none }
def ti36 : TI := { size := 1, kind := 0, zero := [.v .nilFunc], offs := [], fsz := [], elem := 0, esz := 0, bytes := 8, ik := none }
def ti37 : TI := { size := 20, kind := 1, zero := [.v (.int .i64 0), .v (.int .i64 0), .v (.int .i64 0), .v (.int .i64 0), .v (.int .i64 0), .v (.int .i64 0), .v (.bool false), .s true 4 [], .v (.int .i64 0), .v (.int .i64 0), .v (.int .i64 0), .v (.bool false), .v (.bool false), .v (.int .i64 0), .v (.int .i64 0), .v (.int .i64 0), .v (.int .i64 0), .v (.int .i64 0), .v (.int .i64 0), .v (.int .i64 0)], offs := [0, 1, 2, 8, 9, 10, 11, 12, 13, 14, 15, 16, 17, 18, 19], fsz := [1, 1, 6, 1, 1, 1, 1, 1, 1, 1, 1, 1, 1, 1, 1], elem := 0, esz := 0, bytes := 168, ik := none }
def ti38 : TI := { size := 20, kind := 1, zero := [.v (.int .i64 0), .v (.int .i64 0), .v (.int .i64 0), .v (.int .i64 0), .v (.int .i64 0), .v (.int .i64 0), .v (.bool false), .s true 4 [], .v (.int .i64 0), .v (.int .i64 0), .v (.int .i64 0), .v (.bool false), .v (.bool false), .v (.int .i64 0), .v (.int .i64 0), .v (.int .i64 0), .v (.int .i64 0), .v (.int .i64 0), .v (.int .i64 0), .v (.int .i64 0)], offs := [0, 1, 2, 8, 9, 10, 11, 12, 13, 14, 15, 16, 17, 18, 19], fsz := [1, 1, 6, 1, 1, 1, 1, 1, 1, 1, 1, 1, 1, 1, 1], elem := 0, esz := 0, bytes := 168, ik := none }
def ti39 : TI := { size := 1, kind := 0, zero := [.v .nilFunc], offs := [], fsz := [], elem := 0, esz := 0, bytes := 8, ik := none }
def ti40 : TI := { size := 1, kind := 0, zero := [.v .nilFunc], offs := [], fsz := [], elem := 0, esz := 0, bytes := 8, ik := none }
def ti41 : TI := { size := 20, kind := 1, zero := [.v (.int .i64 0), .v (.int .i64 0), .v (.int .i64 0), .v (.int .i64 0), .v (.int .i64 0), .v (.int .i64 0), .v (.bool false), .s true 4 [], .v (.int .i64 0), .v (.int .i64 0), .v (.int .i64 0), .v (.bool false), .v (.bool false), .v (.int .i64 0), .v (.int .i64 0), .v (.int .i64 0), .v (.int .i64 0), .v (.int .i64 0), .v (.int .i64 0), .v (.int .i64 0)], offs := [0, 1, 2, 8, 9, 10, 11, 12, 13, 14, 15, 16, 17, 18, 19], fsz := [1, 1, 6, 1, 1, 1, 1, 1, 1, 1, 1, 1, 1, 1, 1], elem := 0, esz := 0, bytes := 168, ik := none }
def ti42 : TI := { size := 20, kind := 1, zero := [.v (.int .i64 0), .v (.int .i64 0), .v (.int .i64 0), .v (.int .i64 0), .v (.int .i64 0), .v (.int .i64 0), .v (.bool false), .s true 4 [], .v (.int .i64 0), .v (.int .i64 0), .v (.int .i64 0), .v (.bool false), .v (.bool false), .v (.int .i64 0), .v (.int .i64 0), .v (.int .i64 0), .v (.int .i64 0), .v (.int .i64 0), .v (.int .i64 0), .v (.int .i64 0)], offs := [0, 1, 2, 8, 9, 10, 11, 12, 13, 14, 15, 16, 17, 18, 19], fsz := [1, 1, 6, 1, 1, 1, 1, 1, 1, 1, 1, 1, 1, 1, 1], elem := 0, esz := 0, bytes := 168, ik := none }
def ti43 : TI := { size := 1, kind := 0, zero := [.v .nilFunc], offs := [], fsz := [], elem := 0, esz := 0, bytes := 8, ik := none }
def ti44 : TI := { size := 1, kind := 0, zero := [.v .nilFunc], offs := [], fsz := [], elem := 0, esz := 0, bytes := 8, ik := none }
def ti45 : TI := { size := 1, kind := 0, zero := [.v .nilFunc], offs := [], fsz := [], elem := 0, esz := 0, bytes := 8, ik := none }
def ti46 : TI := { size := 1, kind := 0, zero := [.v .nilFunc], offs := [], fsz := [], elem := 0, esz := 0, bytes := 8, ik := none }
def ti47 : TI := { size := 1, kind := 0, zero := [.v .nilFunc], offs := [], fsz := [], elem := 0, esz := 0, bytes := 8, ik := none }
def ti48 : TI := { size := 1, kind := 0, zero := [.v .nilFunc], offs := [], fsz := [], elem := 0, esz := 0, bytes := 8, ik := none }
def ti49 : TI := { size := 1, kind := 0, zero := [.v .nilFunc], offs := [], fsz := [], elem := 0, esz := 0, bytes := 8, ik := none }
def ti50 : TI := { size := 1, kind := 0, zero := [.v .nilFunc], offs := [], fsz := [], elem := 0, esz := 0, bytes := 8, ik := none }
def ti51 : TI := { size := 1, kind := 0, zero := [.v .nilFunc], offs := [], fsz := [], elem := 0, esz := 0, bytes := 8, ik := none }
def ti52 : TI := { size := 1, kind := 2, zero := [.s true 1 []], offs := [], fsz := [], elem := 5, esz := 1, bytes := 24, ik := none }
def ti53 : TI := { size := 1, kind := 0, zero := [.v .nilFunc], offs := [], fsz := [], elem := 0, esz := 0, bytes := 8, ik := none }
def ti54 : TI := { size := 1, kind := 0, zero := [.v .nilFunc], offs := [], fsz := [], elem := 0, esz := 0, bytes := 8, ik := none }
def ti55 : TI := { size := 4, kind := 1, zero := [.v (.string ByteArray.empty), .v (.bool false), .v (.int .i64 0), .v (.string ByteArray.empty)], offs := [0, 1, 2, 3], fsz := [1, 1, 1, 1], elem := 0, esz := 0, bytes := 48, ik := none }
def ti56 : TI := { size := 4, kind := 1, zero := [.v (.string ByteArray.empty), .v (.bool false), .v (.int .i64 0), .v (.string ByteArray.empty)], offs := [0, 1, 2, 3], fsz := [1, 1, 1, 1], elem := 0, esz := 0, bytes := 48, ik := none }
def ti57 : TI := { size := 1, kind := 0, zero := [.v .nilFunc], offs := [], fsz := [], elem := 0, esz := 0, bytes := 8, ik := none }
def ti58 : TI := { size := 1, kind := 0, zero := [.v .nilFunc], offs := [], fsz := [], elem := 0, esz := 0, bytes := 8, ik := none }
def ti59 : TI := { size := 1, kind := 2, zero := [.s true 1 []], offs := [], fsz := [], elem := 9, esz := 1, bytes := 24, ik := none }
def ti60 : TI := { size := 1, kind := 0, zero := [.v .nilFunc], offs := [], fsz := [], elem := 0, esz := 0, bytes := 8, ik := none }
def ti61 : TI := { size := 1, kind := 0, zero := [.v .nilFunc], offs := [], fsz := [], elem := 0, esz := 0, bytes := 8, ik := none }
def ti62 : TI := { size := 4, kind := 1, zero := [.v (.string ByteArray.empty), .v (.bool false), .v (.int .i64 0), .v (.string ByteArray.empty)], offs := [0, 1, 2, 3], fsz := [1, 1, 1, 1], elem := 0, esz := 0, bytes := 48, ik := none }
def ti63 : TI := { size := 1, kind := 0, zero := [.v .nilFunc], offs := [], fsz := [], elem := 0, esz := 0, bytes := 8, ik := none }
def ti64 : TI := { size := 1, kind := 0, zero := [.v .nilFunc], offs := [], fsz := [], elem := 0, esz := 0, bytes := 8, ik := none }
def ti65 : TI := { size := 1, kind := 0, zero := [.v .nilFunc], offs := [], fsz := [], elem := 0, esz := 0, bytes := 8, ik := none }
def ti66 : TI := { size := 1, kind := 0, zero := [.v .nilFunc], offs := [], fsz := [], elem := 0, esz := 0, bytes := 8, ik := none }
def ti67 : TI := { size := 1, kind := 0, zero := [.v .nilFunc], offs := [], fsz := [], elem := 0, esz := 0, bytes := 8, ik := none }
def ti68 : TI := { size := 1, kind := 0, zero := [.v .nilFunc], offs := [], fsz := [], elem := 0, esz := 0, bytes := 8, ik := none }
def ti69 : TI := { size := 1, kind := 0, zero := [.v .nilFunc], offs := [], fsz := [], elem := 0, esz := 0, bytes := 8, ik := none }
def ti70 : TI := { size := 1, kind := 0, zero := [.v .nilFunc], offs := [], fsz := [], elem := 0, esz := 0, bytes := 8, ik := none }
def ti72 : TI := { size := 1, kind := 0, zero := [.v (.int .u64 0)], offs := [], fsz := [], elem := 0, esz := 0, bytes := 8, ik := some .u64 }
def ti73 : TI := { size := 1, kind := 0, zero := [.v .nilFunc], offs := [], fsz := [], elem := 0, esz := 0, bytes := 8, ik := none }
def ti74 : TI := { size := 1, kind := 0, zero := [.v .nilFunc], offs := [], fsz := [], elem := 0, esz := 0, bytes := 8, ik := none }
def ti76 : TI := { size := 1, kind := 0, zero := [.v .nilFunc], offs := [], fsz := [], elem := 0, esz := 0, bytes := 8, ik := none }
def ti77 : TI := { size := 1, kind := 0, zero := [.v .nilFunc], offs := [], fsz := [], elem := 0, esz := 0, bytes := 8, ik := none }
def ti78 : TI := { size := 1, kind := 0, zero := [.v .nilFunc], offs := [], fsz := [], elem := 0, esz := 0, bytes := 8, ik := none }
def ti80 : TI := { size := 1, kind := 0, zero := [.v (.int .u32 0)], offs := [], fsz := [], elem := 0, esz := 0, bytes := 4, ik := some .u32 }
def ti82 : TI := { size := 1, kind := 0, zero := [.v .nilFunc], offs := [], fsz := [], elem := 0, esz := 0, bytes := 8, ik := none }
def ti83 : TI := { size := 1, kind := 0, zero := [.v (.int .u64 0)], offs := [], fsz := [], elem := 0, esz := 0, bytes := 8, ik := some .u64 }
def ti84 : TI := { size := 1, kind := 0, zero := [.v .nilFunc], offs := [], fsz := [], elem := 0, esz := 0, bytes := 8, ik := none }
def ti85 : TI := { size := 1, kind := 0, zero := [.v .nilFunc], offs := [], fsz := [], elem := 0, esz := 0, bytes := 8, ik := none }
def ti88 : TI := { size := 1, kind := 0, zero := [.v .nilFunc], offs := [], fsz := [], elem := 0, esz := 0, bytes := 8, ik := none }
def ti89 : TI := { size := 4, kind := 1, zero := [.v (.pointer none), .v (.pointer none), .v (.pointer none), .v (.string ByteArray.empty)], offs := [0, 1, 2, 3], fsz := [1, 1, 1, 1], elem := 0, esz := 0, bytes := 40, ik := none }
def ti90 : TI := { size := 4, kind := 1, zero := [.v (.pointer none), .v (.pointer none), .v (.pointer none), .v (.string ByteArray.empty)], offs := [0, 1, 2, 3], fsz := [1, 1, 1, 1], elem := 0, esz := 0, bytes := 40, ik := none }
def ti94 : TI := { size := 1, kind := 0, zero := [.v .nilFunc], offs := [], fsz := [], elem := 0, esz := 0, bytes := 8, ik := none }
def ti95 : TI := { size := 1, kind := 0, zero := [.v (.int .u8 0)], offs := [], fsz := [], elem := 0, esz := 0, bytes := 1, ik := some .u8 }
def ti96 : TI := { size := 1, kind := 0, zero := [.v (.int .u8 0)], offs := [], fsz := [], elem := 0, esz := 0, bytes := 1, ik := some .u8 }
def ti97 : TI := { size := 1, kind := 0, zero := [.v .nilFunc], offs := [], fsz := [], elem := 0, esz := 0, bytes := 8, ik := none }
def ti98 : TI := { size := 1, kind := 0, zero := [.v (.pointer none)], offs := [], fsz := [], elem := 0, esz := 0, bytes := 8, ik := none }
def ti99 : TI := { size := 1, kind := 0, zero := [.v (.int .i32 0)], offs := [], fsz := [], elem := 0, esz := 0, bytes := 4, ik := some .i32 }
def ti100 : TI := { size := 1, kind := 0, zero := [.v (.int .i32 0)], offs := [], fsz := [], elem := 0, esz := 0, bytes := 4, ik := some .i32 }
def ti101 : TI := { size := 11, kind := 1, zero := [.v (.int .u64 0), .v (.int .u64 0), .v (.int .u32 0), .v (.int .u8 0), .v (.int .u8 0), .v (.int .u8 0), .v (.int .u8 0), .v .nilFunc, .v (.pointer none), .v (.int .i32 0), .v (.int .i32 0)], offs := [0, 1, 2, 3, 4, 5, 6, 7, 8, 9, 10], fsz := [1, 1, 1, 1, 1, 1, 1, 1, 1, 1, 1], elem := 0, esz := 0, bytes := 48, ik := none }
def ti102 : TI := { size := 11, kind := 1, zero := [.v (.int .u64 0), .v (.int .u64 0), .v (.int .u32 0), .v (.int .u8 0), .v (.int .u8 0), .v (.int .u8 0), .v (.int .u8 0), .v .nilFunc, .v (.pointer none), .v (.int .i32 0), .v (.int .i32 0)], offs := [0, 1, 2, 3, 4, 5, 6, 7, 8, 9, 10], fsz := [1, 1, 1, 1, 1, 1, 1, 1, 1, 1, 1], elem := 0, esz := 0, bytes := 48, ik := none }
def ti103 : TI := { size := 1, kind := 0, zero := [.v (.pointer none)], offs := [], fsz := [], elem := 0, esz := 0, bytes := 8, ik := none }
def eq7 : List CK := [.i .i64, .i .i64, .b, .i .u8]
def eq8 : List CK := [.i .i64, .i .i64, .b, .i .u8]
def eq55 : List CK := [.s, .b, .i .i64, .s]
def eq56 : List CK := [.s, .b, .i .i64, .s]
def eq62 : List CK := [.s, .b, .i .i64, .s]
def tabs : Tb TI := (.n (.n (.n (.n (.n (.n (.n .e 1 ti1 .e) 2 ti2 .e) 3 ti3 (.n (.n .e 4 ti4 .e) 5 ti5 .e)) 6 ti6 (.n (.n (.n .e 7 ti7 .e) 8 ti8 .e) 9 ti9 (.n (.n .e 10 ti10 .e) 11 ti11 .e))) 12 ti12 (.n (.n (.n (.n .e 13 ti13 .e) 14 ti14 .e) 15 ti15 (.n (.n .e 16 ti16 .e) 17 ti17 .e)) 18 ti18 (.n (.n (.n .e 19 ti19 .e) 20 ti20 .e) 21 ti21 (.n (.n .e 22 ti22 .e) 23 ti23 .e)))) 24 ti24 (.n (.n (.n (.n (.n .e 25 ti25 .e) 26 ti26 .e) 27 ti27 (.n (.n .e 28 ti28 .e) 29 ti29 .e)) 30 ti30 (.n (.n (.n .e 31 ti31 .e) 32 ti32 .e) 33 ti33 (.n (.n .e 34 ti34 .e) 35 ti35 .e))) 36 ti36 (.n (.n (.n (.n .e 37 ti37 .e) 38 ti38 .e) 39 ti39 (.n (.n .e 40 ti40 .e) 41 ti41 .e)) 42 ti42 (.n (.n (.n .e 43 ti43 .e) 44 ti44 .e) 45 ti45 (.n (.n .e 46 ti46 .e) 47 ti47 .e))))) 48 ti48 (.n (.n (.n (.n (.n (.n .e 49 ti49 .e) 50 ti50 .e) 51 ti51 (.n (.n .e 52 ti52 .e) 53 ti53 .e)) 54 ti54 (.n (.n (.n .e 55 ti55 .e) 56 ti56 .e) 57 ti57 (.n (.n .e 58 ti58 .e) 59 ti59 .e))) 60 ti60 (.n (.n (.n (.n .e 61 ti61 .e) 62 ti62 .e) 63 ti63 (.n (.n .e 64 ti64 .e) 65 ti65 .e)) 66 ti66 (.n (.n (.n .e 67 ti67 .e) 68 ti68 .e) 69 ti69 (.n (.n .e 70 ti70 .e) 72 ti72 .e)))) 73 ti73 (.n (.n (.n (.n (.n .e 74 ti74 .e) 76 ti76 .e) 77 ti77 (.n (.n .e 78 ti78 .e) 80 ti80 .e)) 82 ti82 (.n (.n (.n .e 83 ti83 .e) 84 ti84 .e) 85 ti85 (.n (.n .e 88 ti88 .e) 89 ti89 .e))) 90 ti90 (.n (.n (.n (.n .e 94 ti94 .e) 95 ti95 .e) 96 ti96 (.n (.n .e 97 ti97 .e) 98 ti98 .e)) 99 ti99 (.n (.n (.n .e 100 ti100 .e) 101 ti101 .e) 102 ti102 (.n .e 103 ti103 .e))))))
def eqts : Tb (List CK) := (.n (.n (.n .e 7 eq7 .e) 8 eq8 .e) 55 eq55 (.n (.n .e 56 eq56 .e) 62 eq62 .e))
noncomputable def env : Env := envWith Go.Proofs.Tryd.prog tabs eqts
theorem wide : env.P.follows .mixedOrders = true := by kernel_rfl
theorem tab_t1 : tiOf Go.Proofs.Tryd.prog 1 = some ti1 := by kernel_rfl
theorem tab_t2 : tiOf Go.Proofs.Tryd.prog 2 = some ti2 := by kernel_rfl
theorem tab_t3 : tiOf Go.Proofs.Tryd.prog 3 = some ti3 := by kernel_rfl
theorem tab_t4 : tiOf Go.Proofs.Tryd.prog 4 = some ti4 := by kernel_rfl
theorem tab_t5 : tiOf Go.Proofs.Tryd.prog 5 = some ti5 := by kernel_rfl
theorem tab_t6 : tiOf Go.Proofs.Tryd.prog 6 = some ti6 := by kernel_rfl
theorem tab_t7 : tiOf Go.Proofs.Tryd.prog 7 = some ti7 := by kernel_rfl
theorem tab_t8 : tiOf Go.Proofs.Tryd.prog 8 = some ti8 := by kernel_rfl
theorem tab_t9 : tiOf Go.Proofs.Tryd.prog 9 = some ti9 := by kernel_rfl
theorem tab_t10 : tiOf Go.Proofs.Tryd.prog 10 = some ti10 := by kernel_rfl
theorem tab_t11 : tiOf Go.Proofs.Tryd.prog 11 = some ti11 := by kernel_rfl
theorem tab_t12 : tiOf Go.Proofs.Tryd.prog 12 = some ti12 := by kernel_rfl
theorem tab_t13 : tiOf Go.Proofs.Tryd.prog 13 = some ti13 := by kernel_rfl
theorem tab_t14 : tiOf Go.Proofs.Tryd.prog 14 = some ti14 := by kernel_rfl
theorem tab_t15 : tiOf Go.Proofs.Tryd.prog 15 = some ti15 := by kernel_rfl
theorem tab_t16 : tiOf Go.Proofs.Tryd.prog 16 = some ti16 := by kernel_rfl
theorem tab_t17 : tiOf Go.Proofs.Tryd.prog 17 = some ti17 := by kernel_rfl
theorem tab_t18 : tiOf Go.Proofs.Tryd.prog 18 = some ti18 := by kernel_rfl
theorem tab_t19 : tiOf Go.Proofs.Tryd.prog 19 = some ti19 := by kernel_rfl
theorem tab_t20 : tiOf Go.Proofs.Tryd.prog 20 = some ti20 := by kernel_rfl
theorem tab_t21 : tiOf Go.Proofs.Tryd.prog 21 = some ti21 := by kernel_rfl
theorem tab_t22 : tiOf Go.Proofs.Tryd.prog 22 = some ti22 := by kernel_rfl
theorem tab_t23 : tiOf Go.Proofs.Tryd.prog 23 = some ti23 := by kernel_rfl
theorem tab_t24 : tiOf Go.Proofs.Tryd.prog 24 = some ti24 := by kernel_rfl
theorem tab_t25 : tiOf Go.Proofs.Tryd.prog 25 = some ti25 := by kernel_rfl
theorem tab_t26 : tiOf Go.Proofs.Tryd.prog 26 = some ti26 := by kernel_rfl
theorem tab_t27 : tiOf Go.Proofs.Tryd.prog 27 = some ti27 := by kernel_rfl
theorem tab_t28 : tiOf Go.Proofs.Tryd.prog 28 = some ti28 := by kernel_rfl
theorem tab_t29 : tiOf Go.Proofs.Tryd.prog 29 = some ti29 := by kernel_rfl
theorem tab_t30 : tiOf Go.Proofs.Tryd.prog 30 = some ti30 := by kernel_rfl
theorem tab_t31 : tiOf Go.Proofs.Tryd.prog 31 = some ti31 := by kernel_rfl
theorem tab_t32 : tiOf Go.Proofs.Tryd.prog 32 = some ti32 := by kernel_rfl
theorem tab_t33 : tiOf Go.Proofs.Tryd.prog 33 = some ti33 := by kernel_rfl
theorem tab_t34 : tiOf Go.Proofs.Tryd.prog 34 = some ti34 := by kernel_rfl
theorem tab_t35 : tiOf Go.Proofs.Tryd.prog 35 = some ti35 := by kernel_rfl
theorem tab_t36 : tiOf Go.Proofs.Tryd.prog 36 = some ti36 := by kernel_rfl
theorem tab_t37 : tiOf Go.Proofs.Tryd.prog 37 = some ti37 := by kernel_rfl
theorem tab_t38 : tiOf Go.Proofs.Tryd.prog 38 = some ti38 := by kernel_rfl
theorem tab_t39 : tiOf Go.Proofs.Tryd.prog 39 = some ti39 := by kernel_rfl
theorem tab_t40 : tiOf Go.Proofs.Tryd.prog 40 = some ti40 := by kernel_rfl
theorem tab_t41 : tiOf Go.Proofs.Tryd.prog 41 = some ti41 := by kernel_rfl
theorem tab_t42 : tiOf Go.Proofs.Tryd.prog 42 = some ti42 := by kernel_rfl
theorem tab_t43 : tiOf Go.Proofs.Tryd.prog 43 = some ti43 := by kernel_rfl
theorem tab_t44 : tiOf Go.Proofs.Tryd.prog 44 = some ti44 := by kernel_rfl
theorem tab_t45 : tiOf Go.Proofs.Tryd.prog 45 = some ti45 := by kernel_rfl
theorem tab_t46 : tiOf Go.Proofs.Tryd.prog 46 = some ti46 := by kernel_rfl
theorem tab_t47 : tiOf Go.Proofs.Tryd.prog 47 = some ti47 := by kernel_rfl
theorem tab_t48 : tiOf Go.Proofs.Tryd.prog 48 = some ti48 := by kernel_rfl
theorem tab_t49 : tiOf Go.Proofs.Tryd.prog 49 = some ti49 := by kernel_rfl
theorem tab_t50 : tiOf Go.Proofs.Tryd.prog 50 = some ti50 := by kernel_rfl
theorem tab_t51 : tiOf Go.Proofs.Tryd.prog 51 = some ti51 := by kernel_rfl
theorem tab_t52 : tiOf Go.Proofs.Tryd.prog 52 = some ti52 := by kernel_rfl
theorem tab_t53 : tiOf Go.Proofs.Tryd.prog 53 = some ti53 := by kernel_rfl
theorem tab_t54 : tiOf Go.Proofs.Tryd.prog 54 = some ti54 := by kernel_rfl
theorem tab_t55 : tiOf Go.Proofs.Tryd.prog 55 = some ti55 := by kernel_rfl
theorem tab_t56 : tiOf Go.Proofs.Tryd.prog 56 = some ti56 := by kernel_rfl
theorem tab_t57 : tiOf Go.Proofs.Tryd.prog 57 = some ti57 := by kernel_rfl
theorem tab_t58 : tiOf Go.Proofs.Tryd.prog 58 = some ti58 := by kernel_rfl
theorem tab_t59 : tiOf Go.Proofs.Tryd.prog 59 = some ti59 := by kernel_rfl
theorem tab_t60 : tiOf Go.Proofs.Tryd.prog 60 = some ti60 := by kernel_rfl
theorem tab_t61 : tiOf Go.Proofs.Tryd.prog 61 = some ti61 := by kernel_rfl
theorem tab_t62 : tiOf Go.Proofs.Tryd.prog 62 = some ti62 := by kernel_rfl
theorem tab_t63 : tiOf Go.Proofs.Tryd.prog 63 = some ti63 := by kernel_rfl
theorem tab_t64 : tiOf Go.Proofs.Tryd.prog 64 = some ti64 := by kernel_rfl
theorem tab_t65 : tiOf Go.Proofs.Tryd.prog 65 = some ti65 := by kernel_rfl
theorem tab_t66 : tiOf Go.Proofs.Tryd.prog 66 = some ti66 := by kernel_rfl
theorem tab_t67 : tiOf Go.Proofs.Tryd.prog 67 = some ti67 := by kernel_rfl
theorem tab_t68 : tiOf Go.Proofs.Tryd.prog 68 = some ti68 := by kernel_rfl
theorem tab_t69 : tiOf Go.Proofs.Tryd.prog 69 = some ti69 := by kernel_rfl
theorem tab_t70 : tiOf Go.Proofs.Tryd.prog 70 = some ti70 := by kernel_rfl
theorem tab_t72 : tiOf Go.Proofs.Tryd.prog 72 = some ti72 := by kernel_rfl
theorem tab_t73 : tiOf Go.Proofs.Tryd.prog 73 = some ti73 := by kernel_rfl
theorem tab_t74 : tiOf Go.Proofs.Tryd.prog 74 = some ti74 := by kernel_rfl
theorem tab_t76 : tiOf Go.Proofs.Tryd.prog 76 = some ti76 := by kernel_rfl
theorem tab_t77 : tiOf Go.Proofs.Tryd.prog 77 = some ti77 := by kernel_rfl
theorem tab_t78 : tiOf Go.Proofs.Tryd.prog 78 = some ti78 := by kernel_rfl
theorem tab_t80 : tiOf Go.Proofs.Tryd.prog 80 = some ti80 := by kernel_rfl
theorem tab_t82 : tiOf Go.Proofs.Tryd.prog 82 = some ti82 := by kernel_rfl
theorem tab_t83 : tiOf Go.Proofs.Tryd.prog 83 = some ti83 := by kernel_rfl
theorem tab_t84 : tiOf Go.Proofs.Tryd.prog 84 = some ti84 := by kernel_rfl
theorem tab_t85 : tiOf Go.Proofs.Tryd.prog 85 = some ti85 := by kernel_rfl
theorem tab_t88 : tiOf Go.Proofs.Tryd.prog 88 = some ti88 := by kernel_rfl
theorem tab_t89 : tiOf Go.Proofs.Tryd.prog 89 = some ti89 := by kernel_rfl
theorem tab_t90 : tiOf Go.Proofs.Tryd.prog 90 = some ti90 := by kernel_rfl
theorem tab_t94 : tiOf Go.Proofs.Tryd.prog 94 = some ti94 := by kernel_rfl
theorem tab_t95 : tiOf Go.Proofs.Tryd.prog 95 = some ti95 := by kernel_rfl
theorem tab_t96 : tiOf Go.Proofs.Tryd.prog 96 = some ti96 := by kernel_rfl
theorem tab_t97 : tiOf Go.Proofs.Tryd.prog 97 = some ti97 := by kernel_rfl
theorem tab_t98 : tiOf Go.Proofs.Tryd.prog 98 = some ti98 := by kernel_rfl
theorem tab_t99 : tiOf Go.Proofs.Tryd.prog 99 = some ti99 := by kernel_rfl
theorem tab_t100 : tiOf Go.Proofs.Tryd.prog 100 = some ti100 := by kernel_rfl
theorem tab_t101 : tiOf Go.Proofs.Tryd.prog 101 = some ti101 := by kernel_rfl
theorem tab_t102 : tiOf Go.Proofs.Tryd.prog 102 = some ti102 := by kernel_rfl
theorem tab_t103 : tiOf Go.Proofs.Tryd.prog 103 = some ti103 := by kernel_rfl
theorem tab_e7 : eqOf Go.Proofs.Tryd.prog 7 = some eq7 := by kernel_rfl
theorem tab_e8 : eqOf Go.Proofs.Tryd.prog 8 = some eq8 := by kernel_rfl
theorem tab_e55 : eqOf Go.Proofs.Tryd.prog 55 = some eq55 := by kernel_rfl
theorem tab_e56 : eqOf Go.Proofs.Tryd.prog 56 = some eq56 := by kernel_rfl
theorem tab_e62 : eqOf Go.Proofs.Tryd.prog 62 = some eq62 := by kernel_rfl
theorem envOk : EnvOk env := envWith_ok (show tabs.All _ from ⟨⟨⟨⟨⟨⟨⟨trivial, tab_t1, trivial⟩, tab_t2, trivial⟩, tab_t3, ⟨⟨trivial, tab_t4, trivial⟩, tab_t5, trivial⟩⟩, tab_t6, ⟨⟨⟨trivial, tab_t7, trivial⟩, tab_t8, trivial⟩, tab_t9, ⟨⟨trivial, tab_t10, trivial⟩, tab_t11, trivial⟩⟩⟩, tab_t12, ⟨⟨⟨⟨trivial, tab_t13, trivial⟩, tab_t14, trivial⟩, tab_t15, ⟨⟨trivial, tab_t16, trivial⟩, tab_t17, trivial⟩⟩, tab_t18, ⟨⟨⟨trivial, tab_t19, trivial⟩, tab_t20, trivial⟩, tab_t21, ⟨⟨trivial, tab_t22, trivial⟩, tab_t23, trivial⟩⟩⟩⟩, tab_t24, ⟨⟨⟨⟨⟨trivial, tab_t25, trivial⟩, tab_t26, trivial⟩, tab_t27, ⟨⟨trivial, tab_t28, trivial⟩, tab_t29, trivial⟩⟩, tab_t30, ⟨⟨⟨trivial, tab_t31, trivial⟩, tab_t32, trivial⟩, tab_t33, ⟨⟨trivial, tab_t34, trivial⟩, tab_t35, trivial⟩⟩⟩, tab_t36, ⟨⟨⟨⟨trivial, tab_t37, trivial⟩, tab_t38, trivial⟩, tab_t39, ⟨⟨trivial, tab_t40, trivial⟩, tab_t41, trivial⟩⟩, tab_t42, ⟨⟨⟨trivial, tab_t43, trivial⟩, tab_t44, trivial⟩, tab_t45, ⟨⟨trivial, tab_t46, trivial⟩, tab_t47, trivial⟩⟩⟩⟩⟩, tab_t48, ⟨⟨⟨⟨⟨⟨trivial, tab_t49, trivial⟩, tab_t50, trivial⟩, tab_t51, ⟨⟨trivial, tab_t52, trivial⟩, tab_t53, trivial⟩⟩, tab_t54, ⟨⟨⟨trivial, tab_t55, trivial⟩, tab_t56, trivial⟩, tab_t57, ⟨⟨trivial, tab_t58, trivial⟩, tab_t59, trivial⟩⟩⟩, tab_t60, ⟨⟨⟨⟨trivial, tab_t61, trivial⟩, tab_t62, trivial⟩, tab_t63, ⟨⟨trivial, tab_t64, trivial⟩, tab_t65, trivial⟩⟩, tab_t66, ⟨⟨⟨trivial, tab_t67, trivial⟩, tab_t68, trivial⟩, tab_t69, ⟨⟨trivial, tab_t70, trivial⟩, tab_t72, trivial⟩⟩⟩⟩, tab_t73, ⟨⟨⟨⟨⟨trivial, tab_t74, trivial⟩, tab_t76, trivial⟩, tab_t77, ⟨⟨trivial, tab_t78, trivial⟩, tab_t80, trivial⟩⟩, tab_t82, ⟨⟨⟨trivial, tab_t83, trivial⟩, tab_t84, trivial⟩, tab_t85, ⟨⟨trivial, tab_t88, trivial⟩, tab_t89, trivial⟩⟩⟩, tab_t90, ⟨⟨⟨⟨trivial, tab_t94, trivial⟩, tab_t95, trivial⟩, tab_t96, ⟨⟨trivial, tab_t97, trivial⟩, tab_t98, trivial⟩⟩, tab_t99, ⟨⟨⟨trivial, tab_t100, trivial⟩, tab_t101, trivial⟩, tab_t102, ⟨trivial, tab_t103, trivial⟩⟩⟩⟩⟩⟩) (show eqts.All _ from ⟨⟨⟨trivial, tab_e7, trivial⟩, tab_e8, trivial⟩, tab_e55, ⟨⟨trivial, tab_e56, trivial⟩, tab_e62, trivial⟩⟩)
end Go.Proofs.Tryd.Ev
