/- The types of the seat. -/
import Derived.Test.YtdjlkhhgaaddpaaGreatDoorEvZ
import Derived.Test.YtdjlkhhgaaddpaaGreatDoorProg
namespace Go.Proofs.Tryz.Ev
open Go Go.Ev
set_option maxRecDepth 100000
def ti1:TI:={ size:=1,kind:=0,zero:=[.v .nilFunc],offs:=[],fsz:=[],elem:=0,esz:=0,bytes:=8,ik:=none }
def ti2:TI:={ size:=1,kind:=0,zero:=[.v (.int .i64 0)],offs:=[],fsz:=[],elem:=0,esz:=0,bytes:=8,ik:=some .i64 }
def ti3:TI:={ size:=1,kind:=0,zero:=[.v (.int .i64 0)],offs:=[],fsz:=[],elem:=0,esz:=0,bytes:=8,ik:=some .i64 }
def ti4:TI:={ size:=1,kind:=3,zero:=[.v (.bool false)],offs:=[],fsz:=[],elem:=0,esz:=0,bytes:=1,ik:=none }
def ti5:TI:={ size:=1,kind:=0,zero:=[.v (.int .u8 0)],offs:=[],fsz:=[],elem:=0,esz:=0,bytes:=1,ik:=some .u8 }
def ti6:TI:={ size:=1,kind:=0,zero:=[.v (.int .u8 0)],offs:=[],fsz:=[],elem:=0,esz:=0,bytes:=1,ik:=some .u8 }
def ti7:TI:={ size:=4,kind:=1,zero:=[.v (.int .i64 0),.v (.int .i64 0),.v (.bool false),.v (.int .u8 0)],offs:=[0,1,2,3],fsz:=[1,1,1,1],elem:=0,esz:=0,bytes:=24,ik:=none }
def ti8:TI:={ size:=4,kind:=1,zero:=[.v (.int .i64 0),.v (.int .i64 0),.v (.bool false),.v (.int .u8 0)],offs:=[0,1,2,3],fsz:=[1,1,1,1],elem:=0,esz:=0,bytes:=24,ik:=none }
def ti9:TI:={ size:=1,kind:=4,zero:=[.v (.string ByteArray.empty)],offs:=[],fsz:=[],elem:=0,esz:=0,bytes:=16,ik:=none }
def ti10:TI:={ size:=1,kind:=4,zero:=[.v (.string ByteArray.empty)],offs:=[],fsz:=[],elem:=0,esz:=0,bytes:=16,ik:=none }
def ti11:TI:={ size:=1,kind:=4,zero:=[.v (.string ByteArray.empty)],offs:=[],fsz:=[],elem:=0,esz:=0,bytes:=16,ik:=none }
def ti12:TI:={ size:=1,kind:=0,zero:=[.v (.int .u64 0)],offs:=[],fsz:=[],elem:=0,esz:=0,bytes:=8,ik:=some .u64 }
def ti13:TI:={ size:=2,kind:=1,zero:=[.v (.string ByteArray.empty),.v (.int .u64 0)],offs:=[0,1],fsz:=[1,1],elem:=0,esz:=0,bytes:=24,ik:=none }
def ti14:TI:={ size:=2,kind:=1,zero:=[.v (.string ByteArray.empty),.v (.int .u64 0)],offs:=[0,1],fsz:=[1,1],elem:=0,esz:=0,bytes:=24,ik:=none }
def ti15:TI:={ size:=1,kind:=0,zero:=[.v (.pointer none)],offs:=[],fsz:=[],elem:=0,esz:=0,bytes:=8,ik:=none }
def ti16:TI:={ size:=1,kind:=0,zero:=[.v (.pointer none)],offs:=[],fsz:=[],elem:=0,esz:=0,bytes:=8,ik:=none }
def ti17:TI:={ size:=1,kind:=0,zero:=[.v (.pointer none)],offs:=[],fsz:=[],elem:=0,esz:=0,bytes:=8,ik:=none }
def ti18:TI:={ size:=1,kind:=1,zero:=[.v (.pointer none)],offs:=[0],fsz:=[1],elem:=0,esz:=0,bytes:=8,ik:=none }
def ti19:TI:={ size:=1,kind:=1,zero:=[.v (.pointer none)],offs:=[0],fsz:=[1],elem:=0,esz:=0,bytes:=8,ik:=none }
def ti20:TI:={ size:=1,kind:=0,zero:=[.v .nilIface],offs:=[],fsz:=[],elem:=0,esz:=0,bytes:=16,ik:=none }
def ti21:TI:={ size:=1,kind:=0,zero:=[.v (.int .i32 0)],offs:=[],fsz:=[],elem:=0,esz:=0,bytes:=4,ik:=some .i32 }
def ti22:TI:={ size:=1,kind:=2,zero:=[.s true 1 []],offs:=[],fsz:=[],elem:=5,esz:=1,bytes:=24,ik:=none }
def ti23:TI:={ size:=1,kind:=0,zero:=[.v .nilFunc],offs:=[],fsz:=[],elem:=0,esz:=0,bytes:=8,ik:=none }
def ti24:TI:={ size:=1,kind:=2,zero:=[.s true 4 []],offs:=[],fsz:=[],elem:=90,esz:=4,bytes:=24,ik:=none }
def ti25:TI:={ size:=6,kind:=1,zero:=[.v (.int .i64 0),.v (.int .i64 0),.v (.int .i64 0),.v (.int .i64 0),.v (.bool false),.s true 4 []],offs:=[0,1,2,3,4,5],fsz:=[1,1,1,1,1,1],elem:=0,esz:=0,bytes:=64,ik:=none }
def ti26:TI:={ size:=6,kind:=1,zero:=[.v (.int .i64 0),.v (.int .i64 0),.v (.int .i64 0),.v (.int .i64 0),.v (.bool false),.s true 4 []],offs:=[0,1,2,3,4,5],fsz:=[1,1,1,1,1,1],elem:=0,esz:=0,bytes:=64,ik:=none }
def ti27:TI:={ size:=20,kind:=1,zero:=[.v (.int .i64 0),.v (.int .i64 0),.v (.int .i64 0),.v (.int .i64 0),.v (.int .i64 0),.v (.int .i64 0),.v (.bool false),.s true 4 [],.v (.int .i64 0),.v (.int .i64 0),.v (.int .i64 0),.v (.bool false),.v (.bool false),.v (.int .i64 0),.v (.int .i64 0),.v (.int .i64 0),.v (.int .i64 0),.v (.int .i64 0),.v (.int .i64 0),.v (.int .i64 0)],offs:=[0,1,2,8,9,10,11,12,13,14,15,16,17,18,19],fsz:=[1,1,6,1,1,1,1,1,1,1,1,1,1,1,1],elem:=0,esz:=0,bytes:=168,ik:=none }
def ti28:TI:={ size:=20,kind:=1,zero:=[.v (.int .i64 0),.v (.int .i64 0),.v (.int .i64 0),.v (.int .i64 0),.v (.int .i64 0),.v (.int .i64 0),.v (.bool false),.s true 4 [],.v (.int .i64 0),.v (.int .i64 0),.v (.int .i64 0),.v (.bool false),.v (.bool false),.v (.int .i64 0),.v (.int .i64 0),.v (.int .i64 0),.v (.int .i64 0),.v (.int .i64 0),.v (.int .i64 0),.v (.int .i64 0)],offs:=[0,1,2,8,9,10,11,12,13,14,15,16,17,18,19],fsz:=[1,1,6,1,1,1,1,1,1,1,1,1,1,1,1],elem:=0,esz:=0,bytes:=168,ik:=none }
def ti29:TI:={ size:=1,kind:=0,zero:=[.v .nilFunc],offs:=[],fsz:=[],elem:=0,esz:=0,bytes:=8,ik:=none }
def ti30:TI:={ size:=1,kind:=2,zero:=[.s true 7 []],offs:=[],fsz:=[],elem:=35,esz:=7,bytes:=24,ik:=none }
def ti31:TI:={ size:=12,kind:=1,zero:=[.v (.int .i64 0),.v (.int .i64 0),.v (.int .i64 0),.v (.int .i64 0),.v (.int .i64 0),.v (.int .i64 0),.v (.bool false),.s true 4 [],.v (.int .i64 0),.v (.int .i64 0),.s true 7 [],.v (.int .i64 0)],offs:=[0,1,2,8,9,10,11],fsz:=[1,1,6,1,1,1,1],elem:=0,esz:=0,bytes:=128,ik:=none }
def ti32:TI:={ size:=12,kind:=1,zero:=[.v (.int .i64 0),.v (.int .i64 0),.v (.int .i64 0),.v (.int .i64 0),.v (.int .i64 0),.v (.int .i64 0),.v (.bool false),.s true 4 [],.v (.int .i64 0),.v (.int .i64 0),.s true 7 [],.v (.int .i64 0)],offs:=[0,1,2,8,9,10,11],fsz:=[1,1,6,1,1,1,1],elem:=0,esz:=0,bytes:=128,ik:=none }
def ti33:TI:={ size:=1,kind:=0,zero:=[.v .nilFunc],offs:=[],fsz:=[],elem:=0,esz:=0,bytes:=8,ik:=none }
def ti34:TI:={ size:=7,kind:=1,zero:=[.v (.int .i64 0),.v (.int .i64 0),.v (.int .i64 0),.v (.int .i64 0),.v (.int .i64 0),.v (.bool false),.s true 4 []],offs:=[0,1],fsz:=[1,6],elem:=0,esz:=0,bytes:=72,ik:=none }
def ti35:TI:={ size:=7,kind:=1,zero:=[.v (.int .i64 0),.v (.int .i64 0),.v (.int .i64 0),.v (.int .i64 0),.v (.int .i64 0),.v (.bool false),.s true 4 []],offs:=[0,1],fsz:=[1,6],elem:=0,esz:=0,bytes:=72,ik:=none }
def ti36:TI:={ size:=1,kind:=0,zero:=[.v .nilFunc],offs:=[],fsz:=[],elem:=0,esz:=0,bytes:=8,ik:=none }
def ti37:TI:={ size:=5,kind:=1,zero:=[.v (.int .i64 0),.v (.int .i64 0),.v (.int .i64 0),.v (.int .i64 0),.v (.int .i64 0)],offs:=[0,1,2,3,4],fsz:=[1,1,1,1,1],elem:=0,esz:=0,bytes:=40,ik:=none }
def ti38:TI:={ size:=5,kind:=1,zero:=[.v (.int .i64 0),.v (.int .i64 0),.v (.int .i64 0),.v (.int .i64 0),.v (.int .i64 0)],offs:=[0,1,2,3,4],fsz:=[1,1,1,1,1],elem:=0,esz:=0,bytes:=40,ik:=none }
def ti39:TI:={ size:=1,kind:=0,zero:=[.v .nilFunc],offs:=[],fsz:=[],elem:=0,esz:=0,bytes:=8,ik:=none }
def ti40:TI:={ size:=1,kind:=0,zero:=[.v .nilFunc],offs:=[],fsz:=[],elem:=0,esz:=0,bytes:=8,ik:=none }
def ti41:TI:={ size:=1,kind:=0,zero:=[.v .nilFunc],offs:=[],fsz:=[],elem:=0,esz:=0,bytes:=8,ik:=none }
def ti42:TI:={ size:=1,kind:=0,zero:=[.v .nilFunc],offs:=[],fsz:=[],elem:=0,esz:=0,bytes:=8,ik:=none }
def ti43:TI:={ size:=1,kind:=0,zero:=[.v .nilFunc],offs:=[],fsz:=[],elem:=0,esz:=0,bytes:=8,ik:=none }
def ti44:TI:={ size:=1,kind:=0,zero:=[.v (.pointer none)],offs:=[],fsz:=[],elem:=0,esz:=0,bytes:=8,ik:=none }
def ti45:TI:={ size:=1,kind:=0,zero:=[.v .nilFunc],offs:=[],fsz:=[],elem:=0,esz:=0,bytes:=8,ik:=none }
def ti46:TI:={ size:=1,kind:=0,zero:=[.v .nilFunc],offs:=[],fsz:=[],elem:=0,esz:=0,bytes:=8,ik:=none }
def ti47:TI:={ size:=1,kind:=0,zero:=[.v .nilFunc],offs:=[],fsz:=[],elem:=0,esz:=0,bytes:=8,ik:=none }
def ti48:TI:={ size:=1,kind:=0,zero:=[.v .nilFunc],offs:=[],fsz:=[],elem:=0,esz:=0,bytes:=8,ik:=none }
def ti49:TI:={ size:=1,kind:=0,zero:=[.v .nilFunc],offs:=[],fsz:=[],elem:=0,esz:=0,bytes:=8,ik:=none }
def ti50:TI:={ size:=1,kind:=2,zero:=[.s true 5 []],offs:=[],fsz:=[],elem:=52,esz:=5,bytes:=24,ik:=none }
def ti51:TI:={ size:=5,kind:=1,zero:=[.v (.int .i64 0),.v (.int .i64 0),.v (.string ByteArray.empty),.v (.string ByteArray.empty),.s true 5 []],offs:=[0,1,2,3,4],fsz:=[1,1,1,1,1],elem:=0,esz:=0,bytes:=72,ik:=none }
def ti52:TI:={ size:=5,kind:=1,zero:=[.v (.int .i64 0),.v (.int .i64 0),.v (.string ByteArray.empty),.v (.string ByteArray.empty),.s true 5 []],offs:=[0,1,2,3,4],fsz:=[1,1,1,1,1],elem:=0,esz:=0,bytes:=72,ik:=none }
def ti53:TI:={ size:=12,kind:=1,zero:=[.v (.int .i64 0),.v (.int .i64 0),.v (.int .i64 0),.v (.int .i64 0),.v (.int .i64 0),.v (.int .i64 0),.v (.int .i64 0),.v (.int .i64 0),.v (.int .i64 0),.v (.string ByteArray.empty),.v (.string ByteArray.empty),.s true 5 []],offs:=[0,1,2,3,4,5,6,7],fsz:=[1,1,1,1,1,1,1,5],elem:=0,esz:=0,bytes:=128,ik:=none }
def ti54:TI:={ size:=12,kind:=1,zero:=[.v (.int .i64 0),.v (.int .i64 0),.v (.int .i64 0),.v (.int .i64 0),.v (.int .i64 0),.v (.int .i64 0),.v (.int .i64 0),.v (.int .i64 0),.v (.int .i64 0),.v (.string ByteArray.empty),.v (.string ByteArray.empty),.s true 5 []],offs:=[0,1,2,3,4,5,6,7],fsz:=[1,1,1,1,1,1,1,5],elem:=0,esz:=0,bytes:=128,ik:=none }
def ti55:TI:={ size:=1,kind:=2,zero:=[.s true 2 []],offs:=[],fsz:=[],elem:=79,esz:=2,bytes:=24,ik:=none }
def ti56:TI:={ size:=4,kind:=1,zero:=[.v (.int .i64 0),.v (.int .i64 0),.v (.int .i64 0),.v (.int .i64 0)],offs:=[0,1,2,3],fsz:=[1,1,1,1],elem:=0,esz:=0,bytes:=32,ik:=none }
def ti57:TI:={ size:=4,kind:=1,zero:=[.v (.int .i64 0),.v (.int .i64 0),.v (.int .i64 0),.v (.int .i64 0)],offs:=[0,1,2,3],fsz:=[1,1,1,1],elem:=0,esz:=0,bytes:=32,ik:=none }
def ti58:TI:={ size:=1,kind:=2,zero:=[.s true 3 []],offs:=[],fsz:=[],elem:=161,esz:=3,bytes:=24,ik:=none }
def ti59:TI:={ size:=1,kind:=2,zero:=[.s true 1 []],offs:=[],fsz:=[],elem:=60,esz:=1,bytes:=24,ik:=none }
def ti60:TI:={ size:=1,kind:=2,zero:=[.s true 3 []],offs:=[],fsz:=[],elem:=147,esz:=3,bytes:=24,ik:=none }
def ti61:TI:={ size:=4,kind:=1,zero:=[.v (.int .i64 0),.s true 1 [],.s true 1 [],.s true 3 []],offs:=[0,1,2,3],fsz:=[1,1,1,1],elem:=0,esz:=0,bytes:=80,ik:=none }
def ti62:TI:={ size:=4,kind:=1,zero:=[.v (.int .i64 0),.s true 1 [],.s true 1 [],.s true 3 []],offs:=[0,1,2,3],fsz:=[1,1,1,1],elem:=0,esz:=0,bytes:=80,ik:=none }
def ti63:TI:={ size:=1,kind:=2,zero:=[.s true 12 []],offs:=[],fsz:=[],elem:=32,esz:=12,bytes:=24,ik:=none }
def ti64:TI:={ size:=1,kind:=2,zero:=[.s true 20 []],offs:=[],fsz:=[],elem:=28,esz:=20,bytes:=24,ik:=none }
def ti65:TI:={ size:=32,kind:=1,zero:=[.v (.int .i64 0),.v (.int .i64 0),.v (.int .i64 0),.v (.int .i64 0),.v (.int .i64 0),.v (.int .i64 0),.v (.int .i64 0),.v (.int .i64 0),.v (.int .i64 0),.v (.string ByteArray.empty),.v (.string ByteArray.empty),.s true 5 [],.v (.int .i64 0),.v (.bool false),.s true 2 [],.v (.int .i64 0),.v (.int .i64 0),.v (.int .i64 0),.v (.int .i64 0),.v (.int .i64 0),.s true 3 [],.v (.int .i64 0),.v (.int .i64 0),.s true 1 [],.s true 1 [],.s true 3 [],.s true 3 [],.s true 7 [],.s true 7 [],.s true 12 [],.s true 20 [],.v (.int .i64 0)],offs:=[0,12,13,14,15,16,20,21,22,26,27,28,29,30,31],fsz:=[12,1,1,1,1,4,1,1,4,1,1,1,1,1,1],elem:=0,esz:=0,bytes:=448,ik:=none }
def ti66:TI:={ size:=32,kind:=1,zero:=[.v (.int .i64 0),.v (.int .i64 0),.v (.int .i64 0),.v (.int .i64 0),.v (.int .i64 0),.v (.int .i64 0),.v (.int .i64 0),.v (.int .i64 0),.v (.int .i64 0),.v (.string ByteArray.empty),.v (.string ByteArray.empty),.s true 5 [],.v (.int .i64 0),.v (.bool false),.s true 2 [],.v (.int .i64 0),.v (.int .i64 0),.v (.int .i64 0),.v (.int .i64 0),.v (.int .i64 0),.s true 3 [],.v (.int .i64 0),.v (.int .i64 0),.s true 1 [],.s true 1 [],.s true 3 [],.s true 3 [],.s true 7 [],.s true 7 [],.s true 12 [],.s true 20 [],.v (.int .i64 0)],offs:=[0,12,13,14,15,16,20,21,22,26,27,28,29,30,31],fsz:=[12,1,1,1,1,4,1,1,4,1,1,1,1,1,1],elem:=0,esz:=0,bytes:=448,ik:=none }
def ti67:TI:={ size:=1,kind:=0,zero:=[.v .nilFunc],offs:=[],fsz:=[],elem:=0,esz:=0,bytes:=8,ik:=none }
def ti68:TI:={ size:=1,kind:=0,zero:=[.v .nilFunc],offs:=[],fsz:=[],elem:=0,esz:=0,bytes:=8,ik:=none }
def ti69:TI:={ size:=1,kind:=0,zero:=[.v .nilFunc],offs:=[],fsz:=[],elem:=0,esz:=0,bytes:=8,ik:=none }
def ti70:TI:={ size:=3,kind:=1,zero:=[.s true 1 [],.v (.int .i64 0),.v (.int .i64 0)],offs:=[0,1,2],fsz:=[1,1,1],elem:=0,esz:=0,bytes:=40,ik:=none }
def ti71:TI:={ size:=3,kind:=1,zero:=[.s true 1 [],.v (.int .i64 0),.v (.int .i64 0)],offs:=[0,1,2],fsz:=[1,1,1],elem:=0,esz:=0,bytes:=40,ik:=none }
def ti72:TI:={ size:=1,kind:=0,zero:=[.v .nilFunc],offs:=[],fsz:=[],elem:=0,esz:=0,bytes:=8,ik:=none }
def ti73:TI:={ size:=1,kind:=0,zero:=[.v .nilFunc],offs:=[],fsz:=[],elem:=0,esz:=0,bytes:=8,ik:=none }
def ti74:TI:={ size:=1,kind:=0,zero:=[.v .nilFunc],offs:=[],fsz:=[],elem:=0,esz:=0,bytes:=8,ik:=none }
def ti75:TI:={ size:=1,kind:=0,zero:=[.v .nilFunc],offs:=[],fsz:=[],elem:=0,esz:=0,bytes:=8,ik:=none }
def ti76:TI:={ size:=1,kind:=2,zero:=[.s true 1 []],offs:=[],fsz:=[],elem:=3,esz:=1,bytes:=24,ik:=none }
def ti77:TI:={ size:=1,kind:=2,zero:=[.s true 4 []],offs:=[],fsz:=[],elem:=82,esz:=4,bytes:=24,ik:=none }
def ti78:TI:={ size:=2,kind:=1,zero:=[.v (.int .i64 0),.s true 4 []],offs:=[0,1],fsz:=[1,1],elem:=0,esz:=0,bytes:=32,ik:=none }
def ti79:TI:={ size:=2,kind:=1,zero:=[.v (.int .i64 0),.s true 4 []],offs:=[0,1],fsz:=[1,1],elem:=0,esz:=0,bytes:=32,ik:=none }
def ti80:TI:={ size:=1,kind:=2,zero:=[.s true 6 []],offs:=[],fsz:=[],elem:=26,esz:=6,bytes:=24,ik:=none }
def ti81:TI:={ size:=4,kind:=1,zero:=[.v (.int .i64 0),.v (.int .i64 0),.v (.int .i64 0),.s true 6 []],offs:=[0,1,2,3],fsz:=[1,1,1,1],elem:=0,esz:=0,bytes:=48,ik:=none }
def ti82:TI:={ size:=4,kind:=1,zero:=[.v (.int .i64 0),.v (.int .i64 0),.v (.int .i64 0),.s true 6 []],offs:=[0,1,2,3],fsz:=[1,1,1,1],elem:=0,esz:=0,bytes:=48,ik:=none }
def ti83:TI:={ size:=1,kind:=2,zero:=[.s true 8 []],offs:=[],fsz:=[],elem:=99,esz:=8,bytes:=24,ik:=none }
def ti85:TI:={ size:=1,kind:=0,zero:=[.v .nilFunc],offs:=[],fsz:=[],elem:=0,esz:=0,bytes:=8,ik:=none }
def ti86:TI:={ size:=1,kind:=0,zero:=[.v .nilFunc],offs:=[],fsz:=[],elem:=0,esz:=0,bytes:=8,ik:=none }
def ti87:TI:={ size:=1,kind:=2,zero:=[.s true 1 []],offs:=[],fsz:=[],elem:=9,esz:=1,bytes:=24,ik:=none }
def ti88:TI:={ size:=1,kind:=0,zero:=[.v .nilFunc],offs:=[],fsz:=[],elem:=0,esz:=0,bytes:=8,ik:=none }
def ti89:TI:={ size:=4,kind:=1,zero:=[.v (.string ByteArray.empty),.v (.bool false),.v (.int .i64 0),.v (.string ByteArray.empty)],offs:=[0,1,2,3],fsz:=[1,1,1,1],elem:=0,esz:=0,bytes:=48,ik:=none }
def ti90:TI:={ size:=4,kind:=1,zero:=[.v (.string ByteArray.empty),.v (.bool false),.v (.int .i64 0),.v (.string ByteArray.empty)],offs:=[0,1,2,3],fsz:=[1,1,1,1],elem:=0,esz:=0,bytes:=48,ik:=none }
def ti91:TI:={ size:=1,kind:=0,zero:=[.v .nilFunc],offs:=[],fsz:=[],elem:=0,esz:=0,bytes:=8,ik:=none }
def ti92:TI:={ size:=1,kind:=0,zero:=[.v .nilFunc],offs:=[],fsz:=[],elem:=0,esz:=0,bytes:=8,ik:=none }
def ti93:TI:={ size:=1,kind:=0,zero:=[.v .nilFunc],offs:=[],fsz:=[],elem:=0,esz:=0,bytes:=8,ik:=none }
def ti94:TI:={ size:=1,kind:=0,zero:=[.v .nilFunc],offs:=[],fsz:=[],elem:=0,esz:=0,bytes:=8,ik:=none }
def ti95:TI:={ size:=1,kind:=0,zero:=[.v .nilFunc],offs:=[],fsz:=[],elem:=0,esz:=0,bytes:=8,ik:=none }
def ti96:TI:={ size:=1,kind:=0,zero:=[.v .nilFunc],offs:=[],fsz:=[],elem:=0,esz:=0,bytes:=8,ik:=none }
def ti97:TI:={ size:=1,kind:=0,zero:=[.v .nilFunc],offs:=[],fsz:=[],elem:=0,esz:=0,bytes:=8,ik:=none }
def ti98:TI:={ size:=8,kind:=1,zero:=[.v (.int .i64 0),.v (.int .i64 0),.v (.int .i64 0),.v (.int .i64 0),.v (.int .i64 0),.v (.int .i64 0),.v (.bool false),.s true 4 []],offs:=[0,1,2],fsz:=[1,1,6],elem:=0,esz:=0,bytes:=80,ik:=none }
def ti99:TI:={ size:=8,kind:=1,zero:=[.v (.int .i64 0),.v (.int .i64 0),.v (.int .i64 0),.v (.int .i64 0),.v (.int .i64 0),.v (.int .i64 0),.v (.bool false),.s true 4 []],offs:=[0,1,2],fsz:=[1,1,6],elem:=0,esz:=0,bytes:=80,ik:=none }
def ti100:TI:={ size:=1,kind:=0,zero:=[.v .nilFunc],offs:=[],fsz:=[],elem:=0,esz:=0,bytes:=8,ik:=none }
def ti101:TI:={ size:=1,kind:=0,zero:=[.v .nilFunc],offs:=[],fsz:=[],elem:=0,esz:=0,bytes:=8,ik:=none }
def ti102:TI:={ size:=1,kind:=0,zero:=[.v (.pointer none)],offs:=[],fsz:=[],elem:=0,esz:=0,bytes:=8,ik:=none }
def ti103:TI:={ size:=1,kind:=0,zero:=[.v .nilFunc],offs:=[],fsz:=[],elem:=0,esz:=0,bytes:=8,ik:=none }
def ti104:TI:={ size:=1,kind:=0,zero:=[.v .nilFunc],offs:=[],fsz:=[],elem:=0,esz:=0,bytes:=8,ik:=none }
def ti105:TI:={ size:=1,kind:=0,zero:=[.v .nilFunc],offs:=[],fsz:=[],elem:=0,esz:=0,bytes:=8,ik:=none }
def ti106:TI:={ size:=1,kind:=0,zero:=[.v (.int .u64 0)],offs:=[],fsz:=[],elem:=0,esz:=0,bytes:=8,ik:=some .u64 }
def ti107:TI:={ size:=1,kind:=0,zero:=[.v .nilFunc],offs:=[],fsz:=[],elem:=0,esz:=0,bytes:=8,ik:=none }
def ti108:TI:={ size:=1,kind:=0,zero:=[.v .nilFunc],offs:=[],fsz:=[],elem:=0,esz:=0,bytes:=8,ik:=none }
def ti109:TI:={ size:=1,kind:=0,zero:=[.v .nilFunc],offs:=[],fsz:=[],elem:=0,esz:=0,bytes:=8,ik:=none }
def ti110:TI:={ size:=1,kind:=0,zero:=[.v .nilFunc],offs:=[],fsz:=[],elem:=0,esz:=0,bytes:=8,ik:=none }
def ti111:TI:={ size:=1,kind:=0,zero:=[.v .nilFunc],offs:=[],fsz:=[],elem:=0,esz:=0,bytes:=8,ik:=none }
def ti112:TI:={ size:=1,kind:=0,zero:=[.v .nilFunc],offs:=[],fsz:=[],elem:=0,esz:=0,bytes:=8,ik:=none }
def ti113:TI:={ size:=1,kind:=0,zero:=[.v .nilFunc],offs:=[],fsz:=[],elem:=0,esz:=0,bytes:=8,ik:=none }
def ti114:TI:={ size:=1,kind:=0,zero:=[.v .nilFunc],offs:=[],fsz:=[],elem:=0,esz:=0,bytes:=8,ik:=none }
def ti115:TI:={ size:=1,kind:=0,zero:=[.v .nilFunc],offs:=[],fsz:=[],elem:=0,esz:=0,bytes:=8,ik:=none }
def ti116:TI:={ size:=1,kind:=0,zero:=[.v .nilFunc],offs:=[],fsz:=[],elem:=0,esz:=0,bytes:=8,ik:=none }
def ti117:TI:={ size:=1,kind:=0,zero:=[.v .nilFunc],offs:=[],fsz:=[],elem:=0,esz:=0,bytes:=8,ik:=none }
def ti118:TI:={ size:=1,kind:=0,zero:=[.v .nilFunc],offs:=[],fsz:=[],elem:=0,esz:=0,bytes:=8,ik:=none }
def ti119:TI:={ size:=1,kind:=0,zero:=[.v .nilFunc],offs:=[],fsz:=[],elem:=0,esz:=0,bytes:=8,ik:=none }
def ti120:TI:={ size:=1,kind:=0,zero:=[.v .nilFunc],offs:=[],fsz:=[],elem:=0,esz:=0,bytes:=8,ik:=none }
def ti122:TI:={ size:=1,kind:=0,zero:=[.v .nilFunc],offs:=[],fsz:=[],elem:=0,esz:=0,bytes:=8,ik:=none }
def ti123:TI:={ size:=1,kind:=0,zero:=[.v .nilFunc],offs:=[],fsz:=[],elem:=0,esz:=0,bytes:=8,ik:=none }
def ti124:TI:={ size:=1,kind:=0,zero:=[.v .nilFunc],offs:=[],fsz:=[],elem:=0,esz:=0,bytes:=8,ik:=none }
def ti125:TI:={ size:=1,kind:=0,zero:=[.v .nilFunc],offs:=[],fsz:=[],elem:=0,esz:=0,bytes:=8,ik:=none }
def ti126:TI:={ size:=1,kind:=0,zero:=[.v .nilFunc],offs:=[],fsz:=[],elem:=0,esz:=0,bytes:=8,ik:=none }
def ti127:TI:={ size:=1,kind:=0,zero:=[.v .nilFunc],offs:=[],fsz:=[],elem:=0,esz:=0,bytes:=8,ik:=none }
def ti128:TI:={ size:=1,kind:=0,zero:=[.v .nilFunc],offs:=[],fsz:=[],elem:=0,esz:=0,bytes:=8,ik:=none }
def ti129:TI:={ size:=1,kind:=0,zero:=[.v .nilFunc],offs:=[],fsz:=[],elem:=0,esz:=0,bytes:=8,ik:=none }
def ti130:TI:={ size:=1,kind:=0,zero:=[.v .nilFunc],offs:=[],fsz:=[],elem:=0,esz:=0,bytes:=8,ik:=none }
def ti131:TI:={ size:=1,kind:=0,zero:=[.v .nilFunc],offs:=[],fsz:=[],elem:=0,esz:=0,bytes:=8,ik:=none }
def ti132:TI:={ size:=1,kind:=0,zero:=[.v .nilFunc],offs:=[],fsz:=[],elem:=0,esz:=0,bytes:=8,ik:=none }
def ti133:TI:={ size:=1,kind:=0,zero:=[.v .nilFunc],offs:=[],fsz:=[],elem:=0,esz:=0,bytes:=8,ik:=none }
def ti134:TI:={ size:=1,kind:=0,zero:=[.v .nilFunc],offs:=[],fsz:=[],elem:=0,esz:=0,bytes:=8,ik:=none }
def ti135:TI:={ size:=1,kind:=0,zero:=[.v .nilFunc],offs:=[],fsz:=[],elem:=0,esz:=0,bytes:=8,ik:=none }
def ti137:TI:={ size:=1,kind:=0,zero:=[.v (.int .u64 0)],offs:=[],fsz:=[],elem:=0,esz:=0,bytes:=8,ik:=some .u64 }
def ti138:TI:={ size:=1,kind:=0,zero:=[.v .nilFunc],offs:=[],fsz:=[],elem:=0,esz:=0,bytes:=8,ik:=none }
def ti139:TI:={ size:=1,kind:=0,zero:=[.v .nilFunc],offs:=[],fsz:=[],elem:=0,esz:=0,bytes:=8,ik:=none }
def ti141:TI:={ size:=1,kind:=0,zero:=[.v .nilFunc],offs:=[],fsz:=[],elem:=0,esz:=0,bytes:=8,ik:=none }
def ti142:TI:={ size:=1,kind:=0,zero:=[.v .nilFunc],offs:=[],fsz:=[],elem:=0,esz:=0,bytes:=8,ik:=none }
def ti143:TI:={ size:=1,kind:=0,zero:=[.v .nilFunc],offs:=[],fsz:=[],elem:=0,esz:=0,bytes:=8,ik:=none }
def ti144:TI:={ size:=1,kind:=0,zero:=[.v .nilFunc],offs:=[],fsz:=[],elem:=0,esz:=0,bytes:=8,ik:=none }
def ti145:TI:={ size:=1,kind:=0,zero:=[.v .nilFunc],offs:=[],fsz:=[],elem:=0,esz:=0,bytes:=8,ik:=none }
def ti146:TI:={ size:=3,kind:=1,zero:=[.v (.int .i64 0),.v (.int .i64 0),.v (.int .i64 0)],offs:=[0,1,2],fsz:=[1,1,1],elem:=0,esz:=0,bytes:=24,ik:=none }
def ti147:TI:={ size:=3,kind:=1,zero:=[.v (.int .i64 0),.v (.int .i64 0),.v (.int .i64 0)],offs:=[0,1,2],fsz:=[1,1,1],elem:=0,esz:=0,bytes:=24,ik:=none }
def ti148:TI:={ size:=1,kind:=0,zero:=[.v .nilFunc],offs:=[],fsz:=[],elem:=0,esz:=0,bytes:=8,ik:=none }
def ti149:TI:={ size:=1,kind:=0,zero:=[.v .nilFunc],offs:=[],fsz:=[],elem:=0,esz:=0,bytes:=8,ik:=none }
def ti150:TI:={ size:=1,kind:=0,zero:=[.v (.pointer none)],offs:=[],fsz:=[],elem:=0,esz:=0,bytes:=8,ik:=none }
def ti151:TI:={ size:=1,kind:=0,zero:=[.v .nilFunc],offs:=[],fsz:=[],elem:=0,esz:=0,bytes:=8,ik:=none }
def ti152:TI:={ size:=1,kind:=0,zero:=[.v .nilFunc],offs:=[],fsz:=[],elem:=0,esz:=0,bytes:=8,ik:=none }
def ti154:TI:={ size:=1,kind:=0,zero:=[.v (.int .u32 0)],offs:=[],fsz:=[],elem:=0,esz:=0,bytes:=4,ik:=some .u32 }
def ti156:TI:={ size:=1,kind:=0,zero:=[.v .nilFunc],offs:=[],fsz:=[],elem:=0,esz:=0,bytes:=8,ik:=none }
def ti157:TI:={ size:=1,kind:=0,zero:=[.v .nilFunc],offs:=[],fsz:=[],elem:=0,esz:=0,bytes:=8,ik:=none }
def ti158:TI:={ size:=1,kind:=0,zero:=[.v .nilFunc],offs:=[],fsz:=[],elem:=0,esz:=0,bytes:=8,ik:=none }
def ti159:TI:={ size:=1,kind:=0,zero:=[.v .nilFunc],offs:=[],fsz:=[],elem:=0,esz:=0,bytes:=8,ik:=none }
def ti160:TI:={ size:=3,kind:=1,zero:=[.v (.int .i64 0),.v (.int .i64 0),.v (.bool false)],offs:=[0,1,2],fsz:=[1,1,1],elem:=0,esz:=0,bytes:=24,ik:=none }
def ti161:TI:={ size:=3,kind:=1,zero:=[.v (.int .i64 0),.v (.int .i64 0),.v (.bool false)],offs:=[0,1,2],fsz:=[1,1,1],elem:=0,esz:=0,bytes:=24,ik:=none }
def ti163:TI:={ size:=1,kind:=0,zero:=[.v .nilFunc],offs:=[],fsz:=[],elem:=0,esz:=0,bytes:=8,ik:=none }
def ti165:TI:={ size:=1,kind:=0,zero:=[.v .nilFunc],offs:=[],fsz:=[],elem:=0,esz:=0,bytes:=8,ik:=none }
def ti167:TI:={ size:=1,kind:=0,zero:=[.v .nilFunc],offs:=[],fsz:=[],elem:=0,esz:=0,bytes:=8,ik:=none }
def ti168:TI:={ size:=1,kind:=0,zero:=[.v .nilFunc],offs:=[],fsz:=[],elem:=0,esz:=0,bytes:=8,ik:=none }
def ti169:TI:={ size:=1,kind:=0,zero:=[.v .nilFunc],offs:=[],fsz:=[],elem:=0,esz:=0,bytes:=8,ik:=none }
def ti170:TI:={ size:=1,kind:=0,zero:=[.v .nilFunc],offs:=[],fsz:=[],elem:=0,esz:=0,bytes:=8,ik:=none }
def ti171:TI:={ size:=1,kind:=0,zero:=[.v .nilFunc],offs:=[],fsz:=[],elem:=0,esz:=0,bytes:=8,ik:=none }
def ti172:TI:={ size:=1,kind:=0,zero:=[.v .nilFunc],offs:=[],fsz:=[],elem:=0,esz:=0,bytes:=8,ik:=none }
def ti173:TI:={ size:=1,kind:=0,zero:=[.v (.pointer none)],offs:=[],fsz:=[],elem:=0,esz:=0,bytes:=8,ik:=none }
def ti174:TI:={ size:=1,kind:=0,zero:=[.v .nilFunc],offs:=[],fsz:=[],elem:=0,esz:=0,bytes:=8,ik:=none }
def ti176:TI:={ size:=1,kind:=0,zero:=[.v .nilFunc],offs:=[],fsz:=[],elem:=0,esz:=0,bytes:=8,ik:=none }
def ti178:TI:={ size:=1,kind:=0,zero:=[.v .nilFunc],offs:=[],fsz:=[],elem:=0,esz:=0,bytes:=8,ik:=none }
def ti179:TI:={ size:=1,kind:=0,zero:=[.v .nilFunc],offs:=[],fsz:=[],elem:=0,esz:=0,bytes:=8,ik:=none }
def ti181:TI:={ size:=1,kind:=0,zero:=[.v .nilFunc],offs:=[],fsz:=[],elem:=0,esz:=0,bytes:=8,ik:=none }
def ti182:TI:={ size:=1,kind:=0,zero:=[.v .nilFunc],offs:=[],fsz:=[],elem:=0,esz:=0,bytes:=8,ik:=none }
def ti183:TI:={ size:=1,kind:=0,zero:=[.v .nilFunc],offs:=[],fsz:=[],elem:=0,esz:=0,bytes:=8,ik:=none }
def ti184:TI:={ size:=1,kind:=0,zero:=[.v .nilFunc],offs:=[],fsz:=[],elem:=0,esz:=0,bytes:=8,ik:=none }
def ti185:TI:={ size:=1,kind:=0,zero:=[.v .nilFunc],offs:=[],fsz:=[],elem:=0,esz:=0,bytes:=8,ik:=none }
def ti186:TI:={ size:=1,kind:=0,zero:=[.v .nilFunc],offs:=[],fsz:=[],elem:=0,esz:=0,bytes:=8,ik:=none }
def ti188:TI:={ size:=1,kind:=0,zero:=[.v .nilFunc],offs:=[],fsz:=[],elem:=0,esz:=0,bytes:=8,ik:=none }
def ti189:TI:={ size:=1,kind:=0,zero:=[.v .nilFunc],offs:=[],fsz:=[],elem:=0,esz:=0,bytes:=8,ik:=none }
def ti190:TI:={ size:=1,kind:=0,zero:=[.v .nilFunc],offs:=[],fsz:=[],elem:=0,esz:=0,bytes:=8,ik:=none }
def ti191:TI:={ size:=1,kind:=0,zero:=[.v .nilFunc],offs:=[],fsz:=[],elem:=0,esz:=0,bytes:=8,ik:=none }
def ti194:TI:={ size:=1,kind:=0,zero:=[.v .nilFunc],offs:=[],fsz:=[],elem:=0,esz:=0,bytes:=8,ik:=none }
def ti195:TI:={ size:=1,kind:=0,zero:=[.v .nilFunc],offs:=[],fsz:=[],elem:=0,esz:=0,bytes:=8,ik:=none }
def ti197:TI:={ size:=1,kind:=0,zero:=[.v .nilFunc],offs:=[],fsz:=[],elem:=0,esz:=0,bytes:=8,ik:=none }
def ti198:TI:={ size:=1,kind:=0,zero:=[.v .nilFunc],offs:=[],fsz:=[],elem:=0,esz:=0,bytes:=8,ik:=none }
def ti199:TI:={ size:=4,kind:=1,zero:=[.v (.pointer none),.v (.pointer none),.v (.pointer none),.v (.string ByteArray.empty)],offs:=[0,1,2,3],fsz:=[1,1,1,1],elem:=0,esz:=0,bytes:=40,ik:=none }
def ti200:TI:={ size:=4,kind:=1,zero:=[.v (.pointer none),.v (.pointer none),.v (.pointer none),.v (.string ByteArray.empty)],offs:=[0,1,2,3],fsz:=[1,1,1,1],elem:=0,esz:=0,bytes:=40,ik:=none }
def ti204:TI:={ size:=1,kind:=0,zero:=[.v .nilFunc],offs:=[],fsz:=[],elem:=0,esz:=0,bytes:=8,ik:=none }
def ti205:TI:={ size:=1,kind:=0,zero:=[.v (.int .u8 0)],offs:=[],fsz:=[],elem:=0,esz:=0,bytes:=1,ik:=some .u8 }
def ti206:TI:={ size:=1,kind:=0,zero:=[.v (.int .u8 0)],offs:=[],fsz:=[],elem:=0,esz:=0,bytes:=1,ik:=some .u8 }
def ti207:TI:={ size:=1,kind:=0,zero:=[.v .nilFunc],offs:=[],fsz:=[],elem:=0,esz:=0,bytes:=8,ik:=none }
def ti208:TI:={ size:=1,kind:=0,zero:=[.v (.pointer none)],offs:=[],fsz:=[],elem:=0,esz:=0,bytes:=8,ik:=none }
def ti209:TI:={ size:=1,kind:=0,zero:=[.v (.int .i32 0)],offs:=[],fsz:=[],elem:=0,esz:=0,bytes:=4,ik:=some .i32 }
def ti210:TI:={ size:=1,kind:=0,zero:=[.v (.int .i32 0)],offs:=[],fsz:=[],elem:=0,esz:=0,bytes:=4,ik:=some .i32 }
def ti211:TI:={ size:=11,kind:=1,zero:=[.v (.int .u64 0),.v (.int .u64 0),.v (.int .u32 0),.v (.int .u8 0),.v (.int .u8 0),.v (.int .u8 0),.v (.int .u8 0),.v .nilFunc,.v (.pointer none),.v (.int .i32 0),.v (.int .i32 0)],offs:=[0,1,2,3,4,5,6,7,8,9,10],fsz:=[1,1,1,1,1,1,1,1,1,1,1],elem:=0,esz:=0,bytes:=48,ik:=none }
def ti212:TI:={ size:=11,kind:=1,zero:=[.v (.int .u64 0),.v (.int .u64 0),.v (.int .u32 0),.v (.int .u8 0),.v (.int .u8 0),.v (.int .u8 0),.v (.int .u8 0),.v .nilFunc,.v (.pointer none),.v (.int .i32 0),.v (.int .i32 0)],offs:=[0,1,2,3,4,5,6,7,8,9,10],fsz:=[1,1,1,1,1,1,1,1,1,1,1],elem:=0,esz:=0,bytes:=48,ik:=none }
def ti213:TI:={ size:=1,kind:=0,zero:=[.v (.pointer none)],offs:=[],fsz:=[],elem:=0,esz:=0,bytes:=8,ik:=none }
def eq7:List CK:=[.i .i64,.i .i64,.b,.i .u8]
def eq8:List CK:=[.i .i64,.i .i64,.b,.i .u8]
def eq37:List CK:=[.i .i64,.i .i64,.i .i64,.i .i64,.i .i64]
def eq38:List CK:=[.i .i64,.i .i64,.i .i64,.i .i64,.i .i64]
def eq56:List CK:=[.i .i64,.i .i64,.i .i64,.i .i64]
def eq57:List CK:=[.i .i64,.i .i64,.i .i64,.i .i64]
def eq89:List CK:=[.s,.b,.i .i64,.s]
def eq90:List CK:=[.s,.b,.i .i64,.s]
def eq146:List CK:=[.i .i64,.i .i64,.i .i64]
def eq147:List CK:=[.i .i64,.i .i64,.i .i64]
def eq160:List CK:=[.i .i64,.i .i64,.b]
def eq161:List CK:=[.i .i64,.i .i64,.b]
def tabs:Tb TI:=(.n (.n (.n (.n (.n (.n (.n (.n .e 1 ti1 .e) 2 ti2 (.n .e 3 ti3 .e)) 4 ti4 (.n (.n .e 5 ti5 .e) 6 ti6 .e)) 7 ti7 (.n (.n (.n .e 8 ti8 .e) 9 ti9 .e) 10 ti10 (.n (.n .e 11 ti11 .e) 12 ti12 .e))) 13 ti13 (.n (.n (.n (.n .e 14 ti14 .e) 15 ti15 .e) 16 ti16 (.n (.n .e 17 ti17 .e) 18 ti18 .e)) 19 ti19 (.n (.n (.n .e 20 ti20 .e) 21 ti21 .e) 22 ti22 (.n (.n .e 23 ti23 .e) 24 ti24 .e)))) 25 ti25 (.n (.n (.n (.n (.n .e 26 ti26 .e) 27 ti27 .e) 28 ti28 (.n (.n .e 29 ti29 .e) 30 ti30 .e)) 31 ti31 (.n (.n (.n .e 32 ti32 .e) 33 ti33 .e) 34 ti34 (.n (.n .e 35 ti35 .e) 36 ti36 .e))) 37 ti37 (.n (.n (.n (.n .e 38 ti38 .e) 39 ti39 .e) 40 ti40 (.n (.n .e 41 ti41 .e) 42 ti42 .e)) 43 ti43 (.n (.n (.n .e 44 ti44 .e) 45 ti45 .e) 46 ti46 (.n (.n .e 47 ti47 .e) 48 ti48 .e))))) 49 ti49 (.n (.n (.n (.n (.n (.n .e 50 ti50 .e) 51 ti51 (.n .e 52 ti52 .e)) 53 ti53 (.n (.n .e 54 ti54 .e) 55 ti55 .e)) 56 ti56 (.n (.n (.n .e 57 ti57 .e) 58 ti58 .e) 59 ti59 (.n (.n .e 60 ti60 .e) 61 ti61 .e))) 62 ti62 (.n (.n (.n (.n .e 63 ti63 .e) 64 ti64 .e) 65 ti65 (.n (.n .e 66 ti66 .e) 67 ti67 .e)) 68 ti68 (.n (.n (.n .e 69 ti69 .e) 70 ti70 .e) 71 ti71 (.n (.n .e 72 ti72 .e) 73 ti73 .e)))) 74 ti74 (.n (.n (.n (.n (.n .e 75 ti75 .e) 76 ti76 .e) 77 ti77 (.n (.n .e 78 ti78 .e) 79 ti79 .e)) 80 ti80 (.n (.n (.n .e 81 ti81 .e) 82 ti82 .e) 83 ti83 (.n (.n .e 85 ti85 .e) 86 ti86 .e))) 87 ti87 (.n (.n (.n (.n .e 88 ti88 .e) 89 ti89 .e) 90 ti90 (.n (.n .e 91 ti91 .e) 92 ti92 .e)) 93 ti93 (.n (.n (.n .e 94 ti94 .e) 95 ti95 .e) 96 ti96 (.n (.n .e 97 ti97 .e) 98 ti98 .e)))))) 99 ti99 (.n (.n (.n (.n (.n (.n (.n .e 100 ti100 .e) 101 ti101 (.n .e 102 ti102 .e)) 103 ti103 (.n (.n .e 104 ti104 .e) 105 ti105 .e)) 106 ti106 (.n (.n (.n .e 107 ti107 .e) 108 ti108 .e) 109 ti109 (.n (.n .e 110 ti110 .e) 111 ti111 .e))) 112 ti112 (.n (.n (.n (.n .e 113 ti113 .e) 114 ti114 .e) 115 ti115 (.n (.n .e 116 ti116 .e) 117 ti117 .e)) 118 ti118 (.n (.n (.n .e 119 ti119 .e) 120 ti120 .e) 122 ti122 (.n (.n .e 123 ti123 .e) 124 ti124 .e)))) 125 ti125 (.n (.n (.n (.n (.n .e 126 ti126 .e) 127 ti127 .e) 128 ti128 (.n (.n .e 129 ti129 .e) 130 ti130 .e)) 131 ti131 (.n (.n (.n .e 132 ti132 .e) 133 ti133 .e) 134 ti134 (.n (.n .e 135 ti135 .e) 137 ti137 .e))) 138 ti138 (.n (.n (.n (.n .e 139 ti139 .e) 141 ti141 .e) 142 ti142 (.n (.n .e 143 ti143 .e) 144 ti144 .e)) 145 ti145 (.n (.n (.n .e 146 ti146 .e) 147 ti147 .e) 148 ti148 (.n (.n .e 149 ti149 .e) 150 ti150 .e))))) 151 ti151 (.n (.n (.n (.n (.n (.n .e 152 ti152 .e) 154 ti154 .e) 156 ti156 (.n (.n .e 157 ti157 .e) 158 ti158 .e)) 159 ti159 (.n (.n (.n .e 160 ti160 .e) 161 ti161 .e) 163 ti163 (.n (.n .e 165 ti165 .e) 167 ti167 .e))) 168 ti168 (.n (.n (.n (.n .e 169 ti169 .e) 170 ti170 .e) 171 ti171 (.n (.n .e 172 ti172 .e) 173 ti173 .e)) 174 ti174 (.n (.n (.n .e 176 ti176 .e) 178 ti178 .e) 179 ti179 (.n (.n .e 181 ti181 .e) 182 ti182 .e)))) 183 ti183 (.n (.n (.n (.n (.n .e 184 ti184 .e) 185 ti185 .e) 186 ti186 (.n (.n .e 188 ti188 .e) 189 ti189 .e)) 190 ti190 (.n (.n (.n .e 191 ti191 .e) 194 ti194 .e) 195 ti195 (.n (.n .e 197 ti197 .e) 198 ti198 .e))) 199 ti199 (.n (.n (.n (.n .e 200 ti200 .e) 204 ti204 .e) 205 ti205 (.n (.n .e 206 ti206 .e) 207 ti207 .e)) 208 ti208 (.n (.n (.n .e 209 ti209 .e) 210 ti210 .e) 211 ti211 (.n (.n .e 212 ti212 .e) 213 ti213 .e)))))))
def eqts:Tb (List CK):=(.n (.n (.n (.n .e 7 eq7 .e) 8 eq8 (.n .e 37 eq37 .e)) 38 eq38 (.n (.n .e 56 eq56 .e) 57 eq57 .e)) 89 eq89 (.n (.n (.n .e 90 eq90 .e) 146 eq146 .e) 147 eq147 (.n (.n .e 160 eq160 .e) 161 eq161 .e)))
noncomputable def env:Env:=envWith Go.Proofs.Tryz.prog tabs eqts
theorem wide:env.P.follows .mixedOrders=true:=by kernel_rfl
theorem tab_t1:tiOf Go.Proofs.Tryz.prog 1=some ti1:=by kernel_rfl
theorem tab_t2:tiOf Go.Proofs.Tryz.prog 2=some ti2:=by kernel_rfl
theorem tab_t3:tiOf Go.Proofs.Tryz.prog 3=some ti3:=by kernel_rfl
theorem tab_t4:tiOf Go.Proofs.Tryz.prog 4=some ti4:=by kernel_rfl
theorem tab_t5:tiOf Go.Proofs.Tryz.prog 5=some ti5:=by kernel_rfl
theorem tab_t6:tiOf Go.Proofs.Tryz.prog 6=some ti6:=by kernel_rfl
theorem tab_t7:tiOf Go.Proofs.Tryz.prog 7=some ti7:=by kernel_rfl
theorem tab_t8:tiOf Go.Proofs.Tryz.prog 8=some ti8:=by kernel_rfl
theorem tab_t9:tiOf Go.Proofs.Tryz.prog 9=some ti9:=by kernel_rfl
theorem tab_t10:tiOf Go.Proofs.Tryz.prog 10=some ti10:=by kernel_rfl
theorem tab_t11:tiOf Go.Proofs.Tryz.prog 11=some ti11:=by kernel_rfl
theorem tab_t12:tiOf Go.Proofs.Tryz.prog 12=some ti12:=by kernel_rfl
theorem tab_t13:tiOf Go.Proofs.Tryz.prog 13=some ti13:=by kernel_rfl
theorem tab_t14:tiOf Go.Proofs.Tryz.prog 14=some ti14:=by kernel_rfl
theorem tab_t15:tiOf Go.Proofs.Tryz.prog 15=some ti15:=by kernel_rfl
theorem tab_t16:tiOf Go.Proofs.Tryz.prog 16=some ti16:=by kernel_rfl
theorem tab_t17:tiOf Go.Proofs.Tryz.prog 17=some ti17:=by kernel_rfl
theorem tab_t18:tiOf Go.Proofs.Tryz.prog 18=some ti18:=by kernel_rfl
theorem tab_t19:tiOf Go.Proofs.Tryz.prog 19=some ti19:=by kernel_rfl
theorem tab_t20:tiOf Go.Proofs.Tryz.prog 20=some ti20:=by kernel_rfl
theorem tab_t21:tiOf Go.Proofs.Tryz.prog 21=some ti21:=by kernel_rfl
theorem tab_t22:tiOf Go.Proofs.Tryz.prog 22=some ti22:=by kernel_rfl
theorem tab_t23:tiOf Go.Proofs.Tryz.prog 23=some ti23:=by kernel_rfl
theorem tab_t24:tiOf Go.Proofs.Tryz.prog 24=some ti24:=by kernel_rfl
theorem tab_t25:tiOf Go.Proofs.Tryz.prog 25=some ti25:=by kernel_rfl
theorem tab_t26:tiOf Go.Proofs.Tryz.prog 26=some ti26:=by kernel_rfl
theorem tab_t27:tiOf Go.Proofs.Tryz.prog 27=some ti27:=by kernel_rfl
theorem tab_t28:tiOf Go.Proofs.Tryz.prog 28=some ti28:=by kernel_rfl
theorem tab_t29:tiOf Go.Proofs.Tryz.prog 29=some ti29:=by kernel_rfl
theorem tab_t30:tiOf Go.Proofs.Tryz.prog 30=some ti30:=by kernel_rfl
theorem tab_t31:tiOf Go.Proofs.Tryz.prog 31=some ti31:=by kernel_rfl
theorem tab_t32:tiOf Go.Proofs.Tryz.prog 32=some ti32:=by kernel_rfl
theorem tab_t33:tiOf Go.Proofs.Tryz.prog 33=some ti33:=by kernel_rfl
theorem tab_t34:tiOf Go.Proofs.Tryz.prog 34=some ti34:=by kernel_rfl
theorem tab_t35:tiOf Go.Proofs.Tryz.prog 35=some ti35:=by kernel_rfl
theorem tab_t36:tiOf Go.Proofs.Tryz.prog 36=some ti36:=by kernel_rfl
theorem tab_t37:tiOf Go.Proofs.Tryz.prog 37=some ti37:=by kernel_rfl
theorem tab_t38:tiOf Go.Proofs.Tryz.prog 38=some ti38:=by kernel_rfl
theorem tab_t39:tiOf Go.Proofs.Tryz.prog 39=some ti39:=by kernel_rfl
theorem tab_t40:tiOf Go.Proofs.Tryz.prog 40=some ti40:=by kernel_rfl
theorem tab_t41:tiOf Go.Proofs.Tryz.prog 41=some ti41:=by kernel_rfl
theorem tab_t42:tiOf Go.Proofs.Tryz.prog 42=some ti42:=by kernel_rfl
theorem tab_t43:tiOf Go.Proofs.Tryz.prog 43=some ti43:=by kernel_rfl
theorem tab_t44:tiOf Go.Proofs.Tryz.prog 44=some ti44:=by kernel_rfl
theorem tab_t45:tiOf Go.Proofs.Tryz.prog 45=some ti45:=by kernel_rfl
theorem tab_t46:tiOf Go.Proofs.Tryz.prog 46=some ti46:=by kernel_rfl
theorem tab_t47:tiOf Go.Proofs.Tryz.prog 47=some ti47:=by kernel_rfl
theorem tab_t48:tiOf Go.Proofs.Tryz.prog 48=some ti48:=by kernel_rfl
theorem tab_t49:tiOf Go.Proofs.Tryz.prog 49=some ti49:=by kernel_rfl
theorem tab_t50:tiOf Go.Proofs.Tryz.prog 50=some ti50:=by kernel_rfl
theorem tab_t51:tiOf Go.Proofs.Tryz.prog 51=some ti51:=by kernel_rfl
theorem tab_t52:tiOf Go.Proofs.Tryz.prog 52=some ti52:=by kernel_rfl
theorem tab_t53:tiOf Go.Proofs.Tryz.prog 53=some ti53:=by kernel_rfl
theorem tab_t54:tiOf Go.Proofs.Tryz.prog 54=some ti54:=by kernel_rfl
theorem tab_t55:tiOf Go.Proofs.Tryz.prog 55=some ti55:=by kernel_rfl
theorem tab_t56:tiOf Go.Proofs.Tryz.prog 56=some ti56:=by kernel_rfl
theorem tab_t57:tiOf Go.Proofs.Tryz.prog 57=some ti57:=by kernel_rfl
theorem tab_t58:tiOf Go.Proofs.Tryz.prog 58=some ti58:=by kernel_rfl
theorem tab_t59:tiOf Go.Proofs.Tryz.prog 59=some ti59:=by kernel_rfl
theorem tab_t60:tiOf Go.Proofs.Tryz.prog 60=some ti60:=by kernel_rfl
theorem tab_t61:tiOf Go.Proofs.Tryz.prog 61=some ti61:=by kernel_rfl
theorem tab_t62:tiOf Go.Proofs.Tryz.prog 62=some ti62:=by kernel_rfl
theorem tab_t63:tiOf Go.Proofs.Tryz.prog 63=some ti63:=by kernel_rfl
theorem tab_t64:tiOf Go.Proofs.Tryz.prog 64=some ti64:=by kernel_rfl
theorem tab_t65:tiOf Go.Proofs.Tryz.prog 65=some ti65:=by kernel_rfl
theorem tab_t66:tiOf Go.Proofs.Tryz.prog 66=some ti66:=by kernel_rfl
theorem tab_t67:tiOf Go.Proofs.Tryz.prog 67=some ti67:=by kernel_rfl
theorem tab_t68:tiOf Go.Proofs.Tryz.prog 68=some ti68:=by kernel_rfl
theorem tab_t69:tiOf Go.Proofs.Tryz.prog 69=some ti69:=by kernel_rfl
theorem tab_t70:tiOf Go.Proofs.Tryz.prog 70=some ti70:=by kernel_rfl
theorem tab_t71:tiOf Go.Proofs.Tryz.prog 71=some ti71:=by kernel_rfl
theorem tab_t72:tiOf Go.Proofs.Tryz.prog 72=some ti72:=by kernel_rfl
theorem tab_t73:tiOf Go.Proofs.Tryz.prog 73=some ti73:=by kernel_rfl
theorem tab_t74:tiOf Go.Proofs.Tryz.prog 74=some ti74:=by kernel_rfl
theorem tab_t75:tiOf Go.Proofs.Tryz.prog 75=some ti75:=by kernel_rfl
theorem tab_t76:tiOf Go.Proofs.Tryz.prog 76=some ti76:=by kernel_rfl
theorem tab_t77:tiOf Go.Proofs.Tryz.prog 77=some ti77:=by kernel_rfl
theorem tab_t78:tiOf Go.Proofs.Tryz.prog 78=some ti78:=by kernel_rfl
theorem tab_t79:tiOf Go.Proofs.Tryz.prog 79=some ti79:=by kernel_rfl
theorem tab_t80:tiOf Go.Proofs.Tryz.prog 80=some ti80:=by kernel_rfl
theorem tab_t81:tiOf Go.Proofs.Tryz.prog 81=some ti81:=by kernel_rfl
theorem tab_t82:tiOf Go.Proofs.Tryz.prog 82=some ti82:=by kernel_rfl
theorem tab_t83:tiOf Go.Proofs.Tryz.prog 83=some ti83:=by kernel_rfl
theorem tab_t85:tiOf Go.Proofs.Tryz.prog 85=some ti85:=by kernel_rfl
theorem tab_t86:tiOf Go.Proofs.Tryz.prog 86=some ti86:=by kernel_rfl
theorem tab_t87:tiOf Go.Proofs.Tryz.prog 87=some ti87:=by kernel_rfl
theorem tab_t88:tiOf Go.Proofs.Tryz.prog 88=some ti88:=by kernel_rfl
theorem tab_t89:tiOf Go.Proofs.Tryz.prog 89=some ti89:=by kernel_rfl
theorem tab_t90:tiOf Go.Proofs.Tryz.prog 90=some ti90:=by kernel_rfl
theorem tab_t91:tiOf Go.Proofs.Tryz.prog 91=some ti91:=by kernel_rfl
theorem tab_t92:tiOf Go.Proofs.Tryz.prog 92=some ti92:=by kernel_rfl
theorem tab_t93:tiOf Go.Proofs.Tryz.prog 93=some ti93:=by kernel_rfl
theorem tab_t94:tiOf Go.Proofs.Tryz.prog 94=some ti94:=by kernel_rfl
theorem tab_t95:tiOf Go.Proofs.Tryz.prog 95=some ti95:=by kernel_rfl
theorem tab_t96:tiOf Go.Proofs.Tryz.prog 96=some ti96:=by kernel_rfl
theorem tab_t97:tiOf Go.Proofs.Tryz.prog 97=some ti97:=by kernel_rfl
theorem tab_t98:tiOf Go.Proofs.Tryz.prog 98=some ti98:=by kernel_rfl
theorem tab_t99:tiOf Go.Proofs.Tryz.prog 99=some ti99:=by kernel_rfl
theorem tab_t100:tiOf Go.Proofs.Tryz.prog 100=some ti100:=by kernel_rfl
theorem tab_t101:tiOf Go.Proofs.Tryz.prog 101=some ti101:=by kernel_rfl
theorem tab_t102:tiOf Go.Proofs.Tryz.prog 102=some ti102:=by kernel_rfl
theorem tab_t103:tiOf Go.Proofs.Tryz.prog 103=some ti103:=by kernel_rfl
theorem tab_t104:tiOf Go.Proofs.Tryz.prog 104=some ti104:=by kernel_rfl
theorem tab_t105:tiOf Go.Proofs.Tryz.prog 105=some ti105:=by kernel_rfl
theorem tab_t106:tiOf Go.Proofs.Tryz.prog 106=some ti106:=by kernel_rfl
theorem tab_t107:tiOf Go.Proofs.Tryz.prog 107=some ti107:=by kernel_rfl
theorem tab_t108:tiOf Go.Proofs.Tryz.prog 108=some ti108:=by kernel_rfl
theorem tab_t109:tiOf Go.Proofs.Tryz.prog 109=some ti109:=by kernel_rfl
theorem tab_t110:tiOf Go.Proofs.Tryz.prog 110=some ti110:=by kernel_rfl
theorem tab_t111:tiOf Go.Proofs.Tryz.prog 111=some ti111:=by kernel_rfl
theorem tab_t112:tiOf Go.Proofs.Tryz.prog 112=some ti112:=by kernel_rfl
theorem tab_t113:tiOf Go.Proofs.Tryz.prog 113=some ti113:=by kernel_rfl
theorem tab_t114:tiOf Go.Proofs.Tryz.prog 114=some ti114:=by kernel_rfl
theorem tab_t115:tiOf Go.Proofs.Tryz.prog 115=some ti115:=by kernel_rfl
theorem tab_t116:tiOf Go.Proofs.Tryz.prog 116=some ti116:=by kernel_rfl
theorem tab_t117:tiOf Go.Proofs.Tryz.prog 117=some ti117:=by kernel_rfl
theorem tab_t118:tiOf Go.Proofs.Tryz.prog 118=some ti118:=by kernel_rfl
theorem tab_t119:tiOf Go.Proofs.Tryz.prog 119=some ti119:=by kernel_rfl
theorem tab_t120:tiOf Go.Proofs.Tryz.prog 120=some ti120:=by kernel_rfl
theorem tab_t122:tiOf Go.Proofs.Tryz.prog 122=some ti122:=by kernel_rfl
theorem tab_t123:tiOf Go.Proofs.Tryz.prog 123=some ti123:=by kernel_rfl
theorem tab_t124:tiOf Go.Proofs.Tryz.prog 124=some ti124:=by kernel_rfl
theorem tab_t125:tiOf Go.Proofs.Tryz.prog 125=some ti125:=by kernel_rfl
theorem tab_t126:tiOf Go.Proofs.Tryz.prog 126=some ti126:=by kernel_rfl
theorem tab_t127:tiOf Go.Proofs.Tryz.prog 127=some ti127:=by kernel_rfl
theorem tab_t128:tiOf Go.Proofs.Tryz.prog 128=some ti128:=by kernel_rfl
theorem tab_t129:tiOf Go.Proofs.Tryz.prog 129=some ti129:=by kernel_rfl
theorem tab_t130:tiOf Go.Proofs.Tryz.prog 130=some ti130:=by kernel_rfl
theorem tab_t131:tiOf Go.Proofs.Tryz.prog 131=some ti131:=by kernel_rfl
theorem tab_t132:tiOf Go.Proofs.Tryz.prog 132=some ti132:=by kernel_rfl
theorem tab_t133:tiOf Go.Proofs.Tryz.prog 133=some ti133:=by kernel_rfl
theorem tab_t134:tiOf Go.Proofs.Tryz.prog 134=some ti134:=by kernel_rfl
theorem tab_t135:tiOf Go.Proofs.Tryz.prog 135=some ti135:=by kernel_rfl
theorem tab_t137:tiOf Go.Proofs.Tryz.prog 137=some ti137:=by kernel_rfl
theorem tab_t138:tiOf Go.Proofs.Tryz.prog 138=some ti138:=by kernel_rfl
theorem tab_t139:tiOf Go.Proofs.Tryz.prog 139=some ti139:=by kernel_rfl
theorem tab_t141:tiOf Go.Proofs.Tryz.prog 141=some ti141:=by kernel_rfl
theorem tab_t142:tiOf Go.Proofs.Tryz.prog 142=some ti142:=by kernel_rfl
theorem tab_t143:tiOf Go.Proofs.Tryz.prog 143=some ti143:=by kernel_rfl
theorem tab_t144:tiOf Go.Proofs.Tryz.prog 144=some ti144:=by kernel_rfl
theorem tab_t145:tiOf Go.Proofs.Tryz.prog 145=some ti145:=by kernel_rfl
theorem tab_t146:tiOf Go.Proofs.Tryz.prog 146=some ti146:=by kernel_rfl
theorem tab_t147:tiOf Go.Proofs.Tryz.prog 147=some ti147:=by kernel_rfl
theorem tab_t148:tiOf Go.Proofs.Tryz.prog 148=some ti148:=by kernel_rfl
theorem tab_t149:tiOf Go.Proofs.Tryz.prog 149=some ti149:=by kernel_rfl
theorem tab_t150:tiOf Go.Proofs.Tryz.prog 150=some ti150:=by kernel_rfl
theorem tab_t151:tiOf Go.Proofs.Tryz.prog 151=some ti151:=by kernel_rfl
theorem tab_t152:tiOf Go.Proofs.Tryz.prog 152=some ti152:=by kernel_rfl
theorem tab_t154:tiOf Go.Proofs.Tryz.prog 154=some ti154:=by kernel_rfl
theorem tab_t156:tiOf Go.Proofs.Tryz.prog 156=some ti156:=by kernel_rfl
theorem tab_t157:tiOf Go.Proofs.Tryz.prog 157=some ti157:=by kernel_rfl
theorem tab_t158:tiOf Go.Proofs.Tryz.prog 158=some ti158:=by kernel_rfl
theorem tab_t159:tiOf Go.Proofs.Tryz.prog 159=some ti159:=by kernel_rfl
theorem tab_t160:tiOf Go.Proofs.Tryz.prog 160=some ti160:=by kernel_rfl
theorem tab_t161:tiOf Go.Proofs.Tryz.prog 161=some ti161:=by kernel_rfl
theorem tab_t163:tiOf Go.Proofs.Tryz.prog 163=some ti163:=by kernel_rfl
theorem tab_t165:tiOf Go.Proofs.Tryz.prog 165=some ti165:=by kernel_rfl
theorem tab_t167:tiOf Go.Proofs.Tryz.prog 167=some ti167:=by kernel_rfl
theorem tab_t168:tiOf Go.Proofs.Tryz.prog 168=some ti168:=by kernel_rfl
theorem tab_t169:tiOf Go.Proofs.Tryz.prog 169=some ti169:=by kernel_rfl
theorem tab_t170:tiOf Go.Proofs.Tryz.prog 170=some ti170:=by kernel_rfl
theorem tab_t171:tiOf Go.Proofs.Tryz.prog 171=some ti171:=by kernel_rfl
theorem tab_t172:tiOf Go.Proofs.Tryz.prog 172=some ti172:=by kernel_rfl
theorem tab_t173:tiOf Go.Proofs.Tryz.prog 173=some ti173:=by kernel_rfl
theorem tab_t174:tiOf Go.Proofs.Tryz.prog 174=some ti174:=by kernel_rfl
theorem tab_t176:tiOf Go.Proofs.Tryz.prog 176=some ti176:=by kernel_rfl
theorem tab_t178:tiOf Go.Proofs.Tryz.prog 178=some ti178:=by kernel_rfl
theorem tab_t179:tiOf Go.Proofs.Tryz.prog 179=some ti179:=by kernel_rfl
theorem tab_t181:tiOf Go.Proofs.Tryz.prog 181=some ti181:=by kernel_rfl
theorem tab_t182:tiOf Go.Proofs.Tryz.prog 182=some ti182:=by kernel_rfl
theorem tab_t183:tiOf Go.Proofs.Tryz.prog 183=some ti183:=by kernel_rfl
theorem tab_t184:tiOf Go.Proofs.Tryz.prog 184=some ti184:=by kernel_rfl
theorem tab_t185:tiOf Go.Proofs.Tryz.prog 185=some ti185:=by kernel_rfl
theorem tab_t186:tiOf Go.Proofs.Tryz.prog 186=some ti186:=by kernel_rfl
theorem tab_t188:tiOf Go.Proofs.Tryz.prog 188=some ti188:=by kernel_rfl
theorem tab_t189:tiOf Go.Proofs.Tryz.prog 189=some ti189:=by kernel_rfl
theorem tab_t190:tiOf Go.Proofs.Tryz.prog 190=some ti190:=by kernel_rfl
theorem tab_t191:tiOf Go.Proofs.Tryz.prog 191=some ti191:=by kernel_rfl
theorem tab_t194:tiOf Go.Proofs.Tryz.prog 194=some ti194:=by kernel_rfl
theorem tab_t195:tiOf Go.Proofs.Tryz.prog 195=some ti195:=by kernel_rfl
theorem tab_t197:tiOf Go.Proofs.Tryz.prog 197=some ti197:=by kernel_rfl
theorem tab_t198:tiOf Go.Proofs.Tryz.prog 198=some ti198:=by kernel_rfl
theorem tab_t199:tiOf Go.Proofs.Tryz.prog 199=some ti199:=by kernel_rfl
theorem tab_t200:tiOf Go.Proofs.Tryz.prog 200=some ti200:=by kernel_rfl
theorem tab_t204:tiOf Go.Proofs.Tryz.prog 204=some ti204:=by kernel_rfl
theorem tab_t205:tiOf Go.Proofs.Tryz.prog 205=some ti205:=by kernel_rfl
theorem tab_t206:tiOf Go.Proofs.Tryz.prog 206=some ti206:=by kernel_rfl
theorem tab_t207:tiOf Go.Proofs.Tryz.prog 207=some ti207:=by kernel_rfl
theorem tab_t208:tiOf Go.Proofs.Tryz.prog 208=some ti208:=by kernel_rfl
theorem tab_t209:tiOf Go.Proofs.Tryz.prog 209=some ti209:=by kernel_rfl
theorem tab_t210:tiOf Go.Proofs.Tryz.prog 210=some ti210:=by kernel_rfl
theorem tab_t211:tiOf Go.Proofs.Tryz.prog 211=some ti211:=by kernel_rfl
theorem tab_t212:tiOf Go.Proofs.Tryz.prog 212=some ti212:=by kernel_rfl
theorem tab_t213:tiOf Go.Proofs.Tryz.prog 213=some ti213:=by kernel_rfl
theorem tab_e7:eqOf Go.Proofs.Tryz.prog 7=some eq7:=by kernel_rfl
theorem tab_e8:eqOf Go.Proofs.Tryz.prog 8=some eq8:=by kernel_rfl
theorem tab_e37:eqOf Go.Proofs.Tryz.prog 37=some eq37:=by kernel_rfl
theorem tab_e38:eqOf Go.Proofs.Tryz.prog 38=some eq38:=by kernel_rfl
theorem tab_e56:eqOf Go.Proofs.Tryz.prog 56=some eq56:=by kernel_rfl
theorem tab_e57:eqOf Go.Proofs.Tryz.prog 57=some eq57:=by kernel_rfl
theorem tab_e89:eqOf Go.Proofs.Tryz.prog 89=some eq89:=by kernel_rfl
theorem tab_e90:eqOf Go.Proofs.Tryz.prog 90=some eq90:=by kernel_rfl
theorem tab_e146:eqOf Go.Proofs.Tryz.prog 146=some eq146:=by kernel_rfl
theorem tab_e147:eqOf Go.Proofs.Tryz.prog 147=some eq147:=by kernel_rfl
theorem tab_e160:eqOf Go.Proofs.Tryz.prog 160=some eq160:=by kernel_rfl
theorem tab_e161:eqOf Go.Proofs.Tryz.prog 161=some eq161:=by kernel_rfl
theorem envOk:EnvOk env:=envWith_ok (show tabs.All _ from ⟨⟨⟨⟨⟨⟨⟨⟨trivial,tab_t1,trivial⟩,tab_t2,⟨trivial,tab_t3,trivial⟩⟩,tab_t4,⟨⟨trivial,tab_t5,trivial⟩,tab_t6,trivial⟩⟩,tab_t7,⟨⟨⟨trivial,tab_t8,trivial⟩,tab_t9,trivial⟩,tab_t10,⟨⟨trivial,tab_t11,trivial⟩,tab_t12,trivial⟩⟩⟩,tab_t13,⟨⟨⟨⟨trivial,tab_t14,trivial⟩,tab_t15,trivial⟩,tab_t16,⟨⟨trivial,tab_t17,trivial⟩,tab_t18,trivial⟩⟩,tab_t19,⟨⟨⟨trivial,tab_t20,trivial⟩,tab_t21,trivial⟩,tab_t22,⟨⟨trivial,tab_t23,trivial⟩,tab_t24,trivial⟩⟩⟩⟩,tab_t25,⟨⟨⟨⟨⟨trivial,tab_t26,trivial⟩,tab_t27,trivial⟩,tab_t28,⟨⟨trivial,tab_t29,trivial⟩,tab_t30,trivial⟩⟩,tab_t31,⟨⟨⟨trivial,tab_t32,trivial⟩,tab_t33,trivial⟩,tab_t34,⟨⟨trivial,tab_t35,trivial⟩,tab_t36,trivial⟩⟩⟩,tab_t37,⟨⟨⟨⟨trivial,tab_t38,trivial⟩,tab_t39,trivial⟩,tab_t40,⟨⟨trivial,tab_t41,trivial⟩,tab_t42,trivial⟩⟩,tab_t43,⟨⟨⟨trivial,tab_t44,trivial⟩,tab_t45,trivial⟩,tab_t46,⟨⟨trivial,tab_t47,trivial⟩,tab_t48,trivial⟩⟩⟩⟩⟩,tab_t49,⟨⟨⟨⟨⟨⟨trivial,tab_t50,trivial⟩,tab_t51,⟨trivial,tab_t52,trivial⟩⟩,tab_t53,⟨⟨trivial,tab_t54,trivial⟩,tab_t55,trivial⟩⟩,tab_t56,⟨⟨⟨trivial,tab_t57,trivial⟩,tab_t58,trivial⟩,tab_t59,⟨⟨trivial,tab_t60,trivial⟩,tab_t61,trivial⟩⟩⟩,tab_t62,⟨⟨⟨⟨trivial,tab_t63,trivial⟩,tab_t64,trivial⟩,tab_t65,⟨⟨trivial,tab_t66,trivial⟩,tab_t67,trivial⟩⟩,tab_t68,⟨⟨⟨trivial,tab_t69,trivial⟩,tab_t70,trivial⟩,tab_t71,⟨⟨trivial,tab_t72,trivial⟩,tab_t73,trivial⟩⟩⟩⟩,tab_t74,⟨⟨⟨⟨⟨trivial,tab_t75,trivial⟩,tab_t76,trivial⟩,tab_t77,⟨⟨trivial,tab_t78,trivial⟩,tab_t79,trivial⟩⟩,tab_t80,⟨⟨⟨trivial,tab_t81,trivial⟩,tab_t82,trivial⟩,tab_t83,⟨⟨trivial,tab_t85,trivial⟩,tab_t86,trivial⟩⟩⟩,tab_t87,⟨⟨⟨⟨trivial,tab_t88,trivial⟩,tab_t89,trivial⟩,tab_t90,⟨⟨trivial,tab_t91,trivial⟩,tab_t92,trivial⟩⟩,tab_t93,⟨⟨⟨trivial,tab_t94,trivial⟩,tab_t95,trivial⟩,tab_t96,⟨⟨trivial,tab_t97,trivial⟩,tab_t98,trivial⟩⟩⟩⟩⟩⟩,tab_t99,⟨⟨⟨⟨⟨⟨⟨trivial,tab_t100,trivial⟩,tab_t101,⟨trivial,tab_t102,trivial⟩⟩,tab_t103,⟨⟨trivial,tab_t104,trivial⟩,tab_t105,trivial⟩⟩,tab_t106,⟨⟨⟨trivial,tab_t107,trivial⟩,tab_t108,trivial⟩,tab_t109,⟨⟨trivial,tab_t110,trivial⟩,tab_t111,trivial⟩⟩⟩,tab_t112,⟨⟨⟨⟨trivial,tab_t113,trivial⟩,tab_t114,trivial⟩,tab_t115,⟨⟨trivial,tab_t116,trivial⟩,tab_t117,trivial⟩⟩,tab_t118,⟨⟨⟨trivial,tab_t119,trivial⟩,tab_t120,trivial⟩,tab_t122,⟨⟨trivial,tab_t123,trivial⟩,tab_t124,trivial⟩⟩⟩⟩,tab_t125,⟨⟨⟨⟨⟨trivial,tab_t126,trivial⟩,tab_t127,trivial⟩,tab_t128,⟨⟨trivial,tab_t129,trivial⟩,tab_t130,trivial⟩⟩,tab_t131,⟨⟨⟨trivial,tab_t132,trivial⟩,tab_t133,trivial⟩,tab_t134,⟨⟨trivial,tab_t135,trivial⟩,tab_t137,trivial⟩⟩⟩,tab_t138,⟨⟨⟨⟨trivial,tab_t139,trivial⟩,tab_t141,trivial⟩,tab_t142,⟨⟨trivial,tab_t143,trivial⟩,tab_t144,trivial⟩⟩,tab_t145,⟨⟨⟨trivial,tab_t146,trivial⟩,tab_t147,trivial⟩,tab_t148,⟨⟨trivial,tab_t149,trivial⟩,tab_t150,trivial⟩⟩⟩⟩⟩,tab_t151,⟨⟨⟨⟨⟨⟨trivial,tab_t152,trivial⟩,tab_t154,trivial⟩,tab_t156,⟨⟨trivial,tab_t157,trivial⟩,tab_t158,trivial⟩⟩,tab_t159,⟨⟨⟨trivial,tab_t160,trivial⟩,tab_t161,trivial⟩,tab_t163,⟨⟨trivial,tab_t165,trivial⟩,tab_t167,trivial⟩⟩⟩,tab_t168,⟨⟨⟨⟨trivial,tab_t169,trivial⟩,tab_t170,trivial⟩,tab_t171,⟨⟨trivial,tab_t172,trivial⟩,tab_t173,trivial⟩⟩,tab_t174,⟨⟨⟨trivial,tab_t176,trivial⟩,tab_t178,trivial⟩,tab_t179,⟨⟨trivial,tab_t181,trivial⟩,tab_t182,trivial⟩⟩⟩⟩,tab_t183,⟨⟨⟨⟨⟨trivial,tab_t184,trivial⟩,tab_t185,trivial⟩,tab_t186,⟨⟨trivial,tab_t188,trivial⟩,tab_t189,trivial⟩⟩,tab_t190,⟨⟨⟨trivial,tab_t191,trivial⟩,tab_t194,trivial⟩,tab_t195,⟨⟨trivial,tab_t197,trivial⟩,tab_t198,trivial⟩⟩⟩,tab_t199,⟨⟨⟨⟨trivial,tab_t200,trivial⟩,tab_t204,trivial⟩,tab_t205,⟨⟨trivial,tab_t206,trivial⟩,tab_t207,trivial⟩⟩,tab_t208,⟨⟨⟨trivial,tab_t209,trivial⟩,tab_t210,trivial⟩,tab_t211,⟨⟨trivial,tab_t212,trivial⟩,tab_t213,trivial⟩⟩⟩⟩⟩⟩⟩) (show eqts.All _ from ⟨⟨⟨⟨trivial,tab_e7,trivial⟩,tab_e8,⟨trivial,tab_e37,trivial⟩⟩,tab_e38,⟨⟨trivial,tab_e56,trivial⟩,tab_e57,trivial⟩⟩,tab_e89,⟨⟨⟨trivial,tab_e90,trivial⟩,tab_e146,trivial⟩,tab_e147,⟨⟨trivial,tab_e160,trivial⟩,tab_e161,trivial⟩⟩⟩)
end Go.Proofs.Tryz.Ev
