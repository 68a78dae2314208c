/- The types of the seat. -/
import Derived.Test.YtdjlkhhgaaddpaaGreatEvZ
import Derived.Test.YtdjlkhhgaaddpaaGreatProg
namespace Go.Proofs.Tryz.Ev
open Go Go.Ev
set_option maxRecDepth 100000
def ti3:TI:=⟨1,0,[.v (.int .i64 0)],[],[],0,0,8,some .i64⟩
def ti4:TI:=⟨1,3,[.v (.bool false)],[],[],0,0,1,none⟩
def ti5:TI:=⟨1,0,[.v (.int .u8 0)],[],[],0,0,1,some .u8⟩
def ti9:TI:=⟨1,4,[.v (.string ByteArray.empty)],[],[],0,0,16,none⟩
def d5i:TI:=⟨1,2,[.s true 1 []],[],[],5,1,24,none⟩
def d5h:TI:=⟨1,2,[.s true 5 []],[],[],26,5,24,none⟩
def d5g:TI:=⟨5,1,[.v (.int .i64 0),.v (.int .i64 0),.v (.string ByteArray.empty),.v (.string ByteArray.empty),.s true 5 []],[0,1,2,3,4],[1,1,1,1,1],0,0,72,none⟩
def d5f:TI:=⟨12,1,[.v (.int .i64 0),.v (.int .i64 0),.v (.int .i64 0),.v (.int .i64 0),.v (.int .i64 0),.v (.int .i64 0),.v (.int .i64 0),.v (.int .i64 0),.v (.int .i64 0),.v (.string ByteArray.empty),.v (.string ByteArray.empty),.s true 5 []],[0,1,2,3,4,5,6,7],[1,1,1,1,1,1,1,5],0,0,128,none⟩
def d5e:TI:=⟨1,2,[.s true 2 []],[],[],112,2,24,none⟩
def d5d:TI:=⟨4,1,[.v (.int .i64 0),.v (.int .i64 0),.v (.int .i64 0),.v (.int .i64 0)],[0,1,2,3],[1,1,1,1],0,0,32,none⟩
def d5c:TI:=⟨1,2,[.s true 3 []],[],[],56,3,24,none⟩
def d5b:TI:=⟨1,2,[.s true 1 []],[],[],34,1,24,none⟩
def d5a:TI:=⟨1,2,[.s true 3 []],[],[],106,3,24,none⟩
def d4z:TI:=⟨4,1,[.v (.int .i64 0),.s true 1 [],.s true 1 [],.s true 3 []],[0,1,2,3],[1,1,1,1],0,0,80,none⟩
def d4y:TI:=⟨1,2,[.s true 7 []],[],[],122,7,24,none⟩
def d4x:TI:=⟨1,2,[.s true 12 []],[],[],85,12,24,none⟩
def d4w:TI:=⟨1,2,[.s true 20 []],[],[],47,20,24,none⟩
def d4v:TI:=⟨32,1,[.v (.int .i64 0),.v (.int .i64 0),.v (.int .i64 0),.v (.int .i64 0),.v (.int .i64 0),.v (.int .i64 0),.v (.int .i64 0),.v (.int .i64 0),.v (.int .i64 0),.v (.string ByteArray.empty),.v (.string ByteArray.empty),.s true 5 [],.v (.int .i64 0),.v (.bool false),.s true 2 [],.v (.int .i64 0),.v (.int .i64 0),.v (.int .i64 0),.v (.int .i64 0),.v (.int .i64 0),.s true 3 [],.v (.int .i64 0),.v (.int .i64 0),.s true 1 [],.s true 1 [],.s true 3 [],.s true 3 [],.s true 7 [],.s true 7 [],.s true 12 [],.s true 20 [],.v (.int .i64 0)],[0,12,13,14,15,16,20,21,22,26,27,28,29,30,31],[12,1,1,1,1,4,1,1,4,1,1,1,1,1,1],0,0,448,none⟩
def d4u:TI:=⟨1,2,[.s true 4 []],[],[],96,4,24,none⟩
def d4t:TI:=⟨6,1,[.v (.int .i64 0),.v (.int .i64 0),.v (.int .i64 0),.v (.int .i64 0),.v (.bool false),.s true 4 []],[0,1,2,3,4,5],[1,1,1,1,1,1],0,0,64,none⟩
def d4s:TI:=⟨20,1,[.v (.int .i64 0),.v (.int .i64 0),.v (.int .i64 0),.v (.int .i64 0),.v (.int .i64 0),.v (.int .i64 0),.v (.bool false),.s true 4 [],.v (.int .i64 0),.v (.int .i64 0),.v (.int .i64 0),.v (.bool false),.v (.bool false),.v (.int .i64 0),.v (.int .i64 0),.v (.int .i64 0),.v (.int .i64 0),.v (.int .i64 0),.v (.int .i64 0),.v (.int .i64 0)],[0,1,2,8,9,10,11,12,13,14,15,16,17,18,19],[1,1,6,1,1,1,1,1,1,1,1,1,1,1,1],0,0,168,none⟩
def d4r:TI:=⟨1,2,[.s true 1 []],[],[],3,1,24,none⟩
def d4q:TI:=⟨3,1,[.v (.int .i64 0),.v (.int .i64 0),.v (.bool false)],[0,1,2],[1,1,1],0,0,24,none⟩
def d4p:TI:=⟨1,2,[.s true 4 []],[],[],62,4,24,none⟩
def d4o:TI:=⟨1,2,[.s true 6 []],[],[],45,6,24,none⟩
def d4n:TI:=⟨4,1,[.v (.int .i64 0),.v (.int .i64 0),.v (.int .i64 0),.s true 6 []],[0,1,2,3],[1,1,1,1],0,0,48,none⟩
def d4m:TI:=⟨1,0,[.v (.pointer none)],[],[],0,0,8,none⟩
def d4l:TI:=⟨1,2,[.s true 1 []],[],[],9,1,24,none⟩
def d4k:TI:=⟨12,1,[.v (.int .i64 0),.v (.int .i64 0),.v (.int .i64 0),.v (.int .i64 0),.v (.int .i64 0),.v (.int .i64 0),.v (.bool false),.s true 4 [],.v (.int .i64 0),.v (.int .i64 0),.s true 7 [],.v (.int .i64 0)],[0,1,2,8,9,10,11],[1,1,6,1,1,1,1],0,0,128,none⟩
def d4j:TI:=⟨3,1,[.s true 1 [],.v (.int .i64 0),.v (.int .i64 0)],[0,1,2],[1,1,1],0,0,40,none⟩
def d4i:TI:=⟨1,2,[.s true 8 []],[],[],132,8,24,none⟩
def d4h:TI:=⟨4,1,[.v (.string ByteArray.empty),.v (.bool false),.v (.int .i64 0),.v (.string ByteArray.empty)],[0,1,2,3],[1,1,1,1],0,0,48,none⟩
def d0m:TI:=⟨3,1,[.v (.int .i64 0),.v (.int .i64 0),.v (.int .i64 0)],[0,1,2],[1,1,1],0,0,24,none⟩
def d0l:TI:=⟨2,1,[.v (.int .i64 0),.s true 4 []],[0,1],[1,1],0,0,32,none⟩
def d0k:TI:=⟨1,0,[.v .nilFunc],[],[],0,0,8,none⟩
def d0j:TI:=⟨1,0,[.v .nilFunc],[],[],0,0,8,none⟩
def d0i:TI:=⟨7,1,[.v (.int .i64 0),.v (.int .i64 0),.v (.int .i64 0),.v (.int .i64 0),.v (.int .i64 0),.v (.bool false),.s true 4 []],[0,1],[1,6],0,0,72,none⟩
def d0h:TI:=⟨8,1,[.v (.int .i64 0),.v (.int .i64 0),.v (.int .i64 0),.v (.int .i64 0),.v (.int .i64 0),.v (.int .i64 0),.v (.bool false),.s true 4 []],[0,1,2],[1,1,6],0,0,80,none⟩
def d0g:TI:=⟨1,0,[.v (.pointer none)],[],[],0,0,8,none⟩
def d0f:TI:=⟨1,0,[.v .nilFunc],[],[],0,0,8,none⟩
def d0e:TI:=⟨1,0,[.v .nilFunc],[],[],0,0,8,none⟩
def d0d:TI:=⟨1,0,[.v .nilFunc],[],[],0,0,8,none⟩
def d0c:TI:=⟨1,0,[.v (.pointer none)],[],[],0,0,8,none⟩
def d0b:TI:=⟨1,0,[.v (.pointer none)],[],[],0,0,8,none⟩
def d6s:List CK:=[.i .i64,.i .i64,.i .i64,.i .i64]
def d6r:List CK:=[.i .i64,.i .i64,.b]
def d6q:List CK:=[.s,.b,.i .i64,.s]
def d0v:List CK:=[.i .i64,.i .i64,.i .i64]
def b7y:Tb TI:=(.n (.n (.n (.n (.n (.n .e 3 ti3 .e) 4 ti4 .e) 5 ti5 (.n (.n .e 9 ti9 .e) 22 d5i .e)) 24 d5h (.n (.n (.n .e 26 d5g .e) 28 d5f .e) 29 d5e (.n (.n .e 31 d5d .e) 32 d5c .e))) 33 d5b (.n (.n (.n (.n .e 34 d5a .e) 36 d4z .e) 37 d4y (.n (.n .e 38 d4x .e) 39 d4w .e)) 41 d4v (.n (.n (.n .e 43 d4u .e) 45 d4t .e) 47 d4s (.n .e 53 d4r .e)))) 56 d4q (.n (.n (.n (.n (.n .e 57 d4p .e) 60 d4o .e) 62 d4n (.n (.n .e 67 d4m .e) 74 d4l .e)) 85 d4k (.n (.n (.n .e 90 d4j .e) 91 d4i .e) 96 d4h (.n .e 106 d0m .e))) 112 d0l (.n (.n (.n (.n .e 114 d0k .e) 116 d0j .e) 122 d0i (.n (.n .e 132 d0h .e) 135 d0g .e)) 144 d0f (.n (.n (.n .e 187 d0e .e) 190 d0d .e) 215 d0c (.n .e 228 d0b .e)))))
def d6p:Tb (List CK):=(.n (.n (.n .e 31 d6s .e) 56 d6r .e) 96 d6q (.n .e 106 d0v .e))
noncomputable def env:Env:=c3f Go.Proofs.Tryz.prog b7y d6p
theorem aS:env.P.follows .mixedOrders=true:=by kernel_rfl
theorem d5n:fZ Go.Proofs.Tryz.prog 3=some ti3:=by kernel_rfl
theorem d5m:fZ Go.Proofs.Tryz.prog 4=some ti4:=by kernel_rfl
theorem d5l:fZ Go.Proofs.Tryz.prog 5=some ti5:=by kernel_rfl
theorem d5k:fZ Go.Proofs.Tryz.prog 9=some ti9:=by kernel_rfl
theorem d2n:fZ Go.Proofs.Tryz.prog 22=some d5i:=by kernel_rfl
theorem d2m:fZ Go.Proofs.Tryz.prog 24=some d5h:=by kernel_rfl
theorem d2l:fZ Go.Proofs.Tryz.prog 26=some d5g:=by kernel_rfl
theorem d2k:fZ Go.Proofs.Tryz.prog 28=some d5f:=by kernel_rfl
theorem d2j:fZ Go.Proofs.Tryz.prog 29=some d5e:=by kernel_rfl
theorem d2i:fZ Go.Proofs.Tryz.prog 31=some d5d:=by kernel_rfl
theorem d2h:fZ Go.Proofs.Tryz.prog 32=some d5c:=by kernel_rfl
theorem d2g:fZ Go.Proofs.Tryz.prog 33=some d5b:=by kernel_rfl
theorem d2f:fZ Go.Proofs.Tryz.prog 34=some d5a:=by kernel_rfl
theorem d2e:fZ Go.Proofs.Tryz.prog 36=some d4z:=by kernel_rfl
theorem d2d:fZ Go.Proofs.Tryz.prog 37=some d4y:=by kernel_rfl
theorem d2c:fZ Go.Proofs.Tryz.prog 38=some d4x:=by kernel_rfl
theorem d2b:fZ Go.Proofs.Tryz.prog 39=some d4w:=by kernel_rfl
theorem d2a:fZ Go.Proofs.Tryz.prog 41=some d4v:=by kernel_rfl
theorem d1z:fZ Go.Proofs.Tryz.prog 43=some d4u:=by kernel_rfl
theorem d1y:fZ Go.Proofs.Tryz.prog 45=some d4t:=by kernel_rfl
theorem d1x:fZ Go.Proofs.Tryz.prog 47=some d4s:=by kernel_rfl
theorem d1w:fZ Go.Proofs.Tryz.prog 53=some d4r:=by kernel_rfl
theorem d1v:fZ Go.Proofs.Tryz.prog 56=some d4q:=by kernel_rfl
theorem d1u:fZ Go.Proofs.Tryz.prog 57=some d4p:=by kernel_rfl
theorem d1t:fZ Go.Proofs.Tryz.prog 60=some d4o:=by kernel_rfl
theorem d1s:fZ Go.Proofs.Tryz.prog 62=some d4n:=by kernel_rfl
theorem d1r:fZ Go.Proofs.Tryz.prog 67=some d4m:=by kernel_rfl
theorem d1q:fZ Go.Proofs.Tryz.prog 74=some d4l:=by kernel_rfl
theorem d1p:fZ Go.Proofs.Tryz.prog 85=some d4k:=by kernel_rfl
theorem d1o:fZ Go.Proofs.Tryz.prog 90=some d4j:=by kernel_rfl
theorem d1n:fZ Go.Proofs.Tryz.prog 91=some d4i:=by kernel_rfl
theorem d1m:fZ Go.Proofs.Tryz.prog 96=some d4h:=by kernel_rfl
theorem c7s:fZ Go.Proofs.Tryz.prog 106=some d0m:=by kernel_rfl
theorem c7r:fZ Go.Proofs.Tryz.prog 112=some d0l:=by kernel_rfl
theorem c7q:fZ Go.Proofs.Tryz.prog 114=some d0k:=by kernel_rfl
theorem c7p:fZ Go.Proofs.Tryz.prog 116=some d0j:=by kernel_rfl
theorem c7o:fZ Go.Proofs.Tryz.prog 122=some d0i:=by kernel_rfl
theorem c7n:fZ Go.Proofs.Tryz.prog 132=some d0h:=by kernel_rfl
theorem c7m:fZ Go.Proofs.Tryz.prog 135=some d0g:=by kernel_rfl
theorem c7l:fZ Go.Proofs.Tryz.prog 144=some d0f:=by kernel_rfl
theorem c7k:fZ Go.Proofs.Tryz.prog 187=some d0e:=by kernel_rfl
theorem c7j:fZ Go.Proofs.Tryz.prog 190=some d0d:=by kernel_rfl
theorem c7i:fZ Go.Proofs.Tryz.prog 215=some d0c:=by kernel_rfl
theorem c7h:fZ Go.Proofs.Tryz.prog 228=some d0b:=by kernel_rfl
theorem d2q:a9z Go.Proofs.Tryz.prog 31=some d6s:=by kernel_rfl
theorem d2p:a9z Go.Proofs.Tryz.prog 56=some d6r:=by kernel_rfl
theorem d2o:a9z Go.Proofs.Tryz.prog 96=some d6q:=by kernel_rfl
theorem c7t:a9z Go.Proofs.Tryz.prog 106=some d0v:=by kernel_rfl
theorem aK:EnvOk env:=c4t (show b7y.All _ from ⟨⟨⟨⟨⟨⟨trivial,d5n,trivial⟩,d5m,trivial⟩,d5l,⟨⟨trivial,d5k,trivial⟩,d2n,trivial⟩⟩,d2m,⟨⟨⟨trivial,d2l,trivial⟩,d2k,trivial⟩,d2j,⟨⟨trivial,d2i,trivial⟩,d2h,trivial⟩⟩⟩,d2g,⟨⟨⟨⟨trivial,d2f,trivial⟩,d2e,trivial⟩,d2d,⟨⟨trivial,d2c,trivial⟩,d2b,trivial⟩⟩,d2a,⟨⟨⟨trivial,d1z,trivial⟩,d1y,trivial⟩,d1x,⟨trivial,d1w,trivial⟩⟩⟩⟩,d1v,⟨⟨⟨⟨⟨trivial,d1u,trivial⟩,d1t,trivial⟩,d1s,⟨⟨trivial,d1r,trivial⟩,d1q,trivial⟩⟩,d1p,⟨⟨⟨trivial,d1o,trivial⟩,d1n,trivial⟩,d1m,⟨trivial,c7s,trivial⟩⟩⟩,c7r,⟨⟨⟨⟨trivial,c7q,trivial⟩,c7p,trivial⟩,c7o,⟨⟨trivial,c7n,trivial⟩,c7m,trivial⟩⟩,c7l,⟨⟨⟨trivial,c7k,trivial⟩,c7j,trivial⟩,c7i,⟨trivial,c7h,trivial⟩⟩⟩⟩⟩) (show d6p.All _ from ⟨⟨⟨trivial,d2q,trivial⟩,d2p,trivial⟩,d2o,⟨trivial,c7t,trivial⟩⟩)
end Go.Proofs.Tryz.Ev
