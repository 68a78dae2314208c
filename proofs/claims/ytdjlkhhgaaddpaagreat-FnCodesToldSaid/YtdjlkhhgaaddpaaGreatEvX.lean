/- Loops: plain ones, and how the machine's go by them. -/
import Derived.Test.YtdjlkhhgaaddpaaGreatEvW
set_option linter.unusedSectionVars false
set_option linter.unusedVariables false
set_option linter.unusedSimpArgs false
namespace Go.Ev
open Go
inductive Step (σ ρ:Type) where
 | next (s:σ)
 | stop (s:σ)
 | done (r:ρ)
def Step.st {σ ρ:Type} (d:σ):Step σ ρ→σ
 | .next s=>s
 | .stop s=>s
 | .done _=>d
def Step.isNext {σ ρ:Type}:Step σ ρ→Bool
 | .next _=>true
 | _=>false
theorem Step.of_next {σ ρ:Type} {d:σ} {x:Step σ ρ} (h:x.isNext=true):x=.next (x.st d):=by cases x <;> first | rfl | cases h
inductive Fin (σ ρ:Type) where
 | fin (s:σ)
 | done (r:ρ)
def Step.fin {σ ρ:Type}:Step σ ρ→Fin σ ρ
 | .next s=>.fin s
 | .stop s=>.fin s
 | .done r=>.done r
def Fin.get {σ ρ:Type} (k:σ→ρ):Fin σ ρ→ρ
 | .fin s=>k s
 | .done r=>r
theorem Fin.get_fin {σ ρ:Type} (k:σ→ρ) (s:σ):(Fin.fin s:Fin σ ρ).get k=k s:=rfl
theorem Fin.get_done {σ ρ:Type} (k:σ→ρ) (r:ρ):(Fin.done r:Fin σ ρ).get k=r:=rfl
def aJ {α σ ρ:Type} (f:Nat→σ→α→Step σ ρ):Nat→σ→List α→Fin σ ρ
 | _,s,[]=>.fin s
 | i,s,a :: l=>match f i s a with
   | .next s'=>aJ f (i+1) s' l
   | x=>x.fin
def cJ {σ ρ:Type} (f:Nat→σ→Step σ ρ):Nat→σ→Nat→Fin σ ρ
 | _,s,0=>.fin s
 | i,s,n+1=>match f i s with
   | .next s'=>cJ f (i+1) s' n
   | x=>x.fin
def eP {σ ρ:Type} (f:σ→Step σ ρ):Nat→σ→Fin σ ρ
 | 0,s=>(f s).fin
 | n+1,s=>match f s with
   | .next s'=>eP f n s'
   | x=>x.fin
structure LstSt {α σ ρ:Type} (f:Nat→σ→α→Step σ ρ) (s0:σ) (l:List α) where
 i:Nat
 h:i≤l.length
 s:σ
 e:aJ f i s (l.drop i)=aJ f 0 s0 l
def LstSt.init {α σ ρ:Type} {f:Nat→σ→α→Step σ ρ} {s0:σ} {l:List α}:LstSt f s0 l:=⟨0,Nat.zero_le _,s0,rfl⟩
theorem LstSt.unf {α σ ρ:Type} {f:Nat→σ→α→Step σ ρ} {s0:σ} {l:List α} (x:LstSt f s0 l) (hi:x.i < l.length):aJ f 0 s0 l=match f x.i x.s l[x.i] with | .next s'=>aJ f (x.i+1) s' (l.drop (x.i+1)) | y=>y.fin:=by
 have:=x.e
 rw [List.drop_eq_getElem_cons hi,aJ] at this
 exact this.symm
def LstSt.nxt {α σ ρ:Type} {f:Nat→σ→α→Step σ ρ} {s0:σ} {l:List α} (x:LstSt f s0 l) (hi:x.i < l.length) (hn:(f x.i x.s l[x.i]).isNext=true):LstSt f s0 l :=
 ⟨x.i+1,hi,(f x.i x.s l[x.i]).st x.s,by
   have:=x.unf hi
   rw [Step.of_next (d:=x.s) hn] at this
   exact this.symm⟩
theorem LstSt.nxt_i {α σ ρ:Type} {f:Nat→σ→α→Step σ ρ} {s0:σ} {l:List α} (x:LstSt f s0 l) (hi:x.i < l.length) (hn:(f x.i x.s l[x.i]).isNext=true):(x.nxt hi hn).i=x.i+1:=rfl
theorem LstSt.nxt_s {α σ ρ:Type} {f:Nat→σ→α→Step σ ρ} {s0:σ} {l:List α} (x:LstSt f s0 l) (hi:x.i < l.length) (hn:(f x.i x.s l[x.i]).isNext=true):(x.nxt hi hn).s=(f x.i x.s l[x.i]).st x.s:=rfl
theorem LstSt.fin {α σ ρ:Type} {f:Nat→σ→α→Step σ ρ} {s0:σ} {l:List α} (x:LstSt f s0 l) (hi:¬x.i < l.length):aJ f 0 s0 l=.fin x.s:=by
 have:=x.e
 rw [List.drop_eq_nil_of_le (by omega)] at this
 exact this.symm
theorem LstSt.brk {α σ ρ:Type} {f:Nat→σ→α→Step σ ρ} {s0:σ} {l:List α} (x:LstSt f s0 l) (hi:x.i < l.length) {y:Step σ ρ} (hy:f x.i x.s l[x.i]=y) (hn:y.isNext=false):aJ f 0 s0 l=y.fin:=by
 rw [x.unf hi,hy]
 cases y <;> first | rfl | cases hn
structure CntSt {σ ρ:Type} (f:Nat→σ→Step σ ρ) (s0:σ) (n:Nat) where
 i:Nat
 h:i≤n
 s:σ
 e:cJ f i s (n - i)=cJ f 0 s0 n
def CntSt.init {σ ρ:Type} {f:Nat→σ→Step σ ρ} {s0:σ} {n:Nat}:CntSt f s0 n:=⟨0,Nat.zero_le _,s0,rfl⟩
theorem CntSt.unf {σ ρ:Type} {f:Nat→σ→Step σ ρ} {s0:σ} {n:Nat} (x:CntSt f s0 n) (hi:x.i < n):cJ f 0 s0 n=match f x.i x.s with | .next s'=>cJ f (x.i+1) s' (n - (x.i+1)) | y=>y.fin:=by
 have:=x.e
 rw [show n - x.i=(n - (x.i+1))+1 by omega,cJ] at this
 exact this.symm
def CntSt.nxt {σ ρ:Type} {f:Nat→σ→Step σ ρ} {s0:σ} {n:Nat} (x:CntSt f s0 n) (hi:x.i < n) (hn:(f x.i x.s).isNext=true):CntSt f s0 n :=
 ⟨x.i+1,hi,(f x.i x.s).st x.s,by
   have:=x.unf hi
   rw [Step.of_next (d:=x.s) hn] at this
   exact this.symm⟩
theorem CntSt.nxt_i {σ ρ:Type} {f:Nat→σ→Step σ ρ} {s0:σ} {n:Nat} (x:CntSt f s0 n) (hi:x.i < n) (hn:(f x.i x.s).isNext=true):(x.nxt hi hn).i=x.i+1:=rfl
theorem CntSt.nxt_s {σ ρ:Type} {f:Nat→σ→Step σ ρ} {s0:σ} {n:Nat} (x:CntSt f s0 n) (hi:x.i < n) (hn:(f x.i x.s).isNext=true):(x.nxt hi hn).s=(f x.i x.s).st x.s:=rfl
theorem CntSt.fin {σ ρ:Type} {f:Nat→σ→Step σ ρ} {s0:σ} {n:Nat} (x:CntSt f s0 n) (hi:¬x.i < n):cJ f 0 s0 n=.fin x.s:=by
 have:=x.e
 rw [show n - x.i=0 by have:=x.h;omega] at this
 exact this.symm
theorem CntSt.brk {σ ρ:Type} {f:Nat→σ→Step σ ρ} {s0:σ} {n:Nat} (x:CntSt f s0 n) (hi:x.i < n) {y:Step σ ρ} (hy:f x.i x.s=y) (hn:y.isNext=false):cJ f 0 s0 n=y.fin:=by
 rw [x.unf hi,hy]
 cases y <;> first | rfl | cases hn
structure WhlSt {σ ρ:Type} (I:σ→Prop) (m:σ→Nat) (f:σ→Step σ ρ) (s0:σ) where
 n:Nat
 s:σ
 hI:I s
 h:m s≤n
 e:eP f n s=eP f (m s0) s0
def WhlSt.init {σ ρ:Type} {I:σ→Prop} {m:σ→Nat} {f:σ→Step σ ρ} {s0:σ} (hI:I s0):WhlSt I m f s0:=⟨m s0,s0,hI,Nat.le_refl _,rfl⟩
def WhlSt.nxt {σ ρ:Type} {I:σ→Prop} {m:σ→Nat} {f:σ→Step σ ρ} {s0:σ} (x:WhlSt I m f s0) (hn:(f x.s).isNext=true) (hm:I ((f x.s).st x.s)∧m ((f x.s).st x.s) < m x.s):WhlSt I m f s0 :=
 ⟨x.n - 1,(f x.s).st x.s,hm.1,by have:=x.h;omega,by
   have h:=x.e
   have h1:x.n=(x.n - 1)+1:=by have:=x.h;omega
   rw [h1,eP,Step.of_next (d:=x.s) hn] at h
   exact h⟩
theorem WhlSt.nxt_s {σ ρ:Type} {I:σ→Prop} {m:σ→Nat} {f:σ→Step σ ρ} {s0:σ} (x:WhlSt I m f s0) (hn:(f x.s).isNext=true) (hm:I ((f x.s).st x.s)∧m ((f x.s).st x.s) < m x.s):(x.nxt hn hm).s=(f x.s).st x.s:=rfl
theorem WhlSt.brk {σ ρ:Type} {I:σ→Prop} {m:σ→Nat} {f:σ→Step σ ρ} {s0:σ} (x:WhlSt I m f s0) {y:Step σ ρ} (hy:f x.s=y) (hn:y.isNext=false):eP f (m s0) s0=y.fin:=by
 rw [←x.e]
 cases x.n with
 | zero=>rw [eP,hy]
 | succ n =>
   rw [eP,hy]
   cases y <;> first | rfl | cases hn
def jF (tm:List (Nat×AV)):List Nat→List (Nat×AV)
 | []=>[]
 | k :: ks=>(k,iD tm k) :: jF tm ks
inductive KO where
 | keep (i:Nat)
 | new (o:Ob)
 | dead
def kN (ob:List (Option Ob)):List KO→List (Option Ob)
 | []=>[]
 | .keep i :: l=>(ob[i]?).join :: kN ob l
 | .new o :: l=>some o :: kN ob l
 | .dead :: l=>none :: kN ob l
theorem yP {W:(Exit→St→Prop)→St→Prop} {Q:Exit→St→Prop} {tm:List (Nat×AV)} {ob:List (Option Ob)} {pr:List T} {α:Type} (ks:List Nat) (mods:α→List (Nat×AV)) (obs:α→List KO) (μ:α→Nat) (x0:α) (ρ:List (Option Nat))
 (h0:uE ρ ⟨tm,ob,pr⟩ ⟨mods x0++jF tm ks,kN ob (obs x0),pr⟩)
 (h:∀x,W (thn (tU (fun x=>⟨mods x++jF tm ks,kN ob (obs x),pr⟩) μ x) Q) ⟨mods x++jF tm ks,kN ob (obs x),pr⟩):a4y W Q ⟨tm,ob,pr⟩ :=
 ⟨α,_,μ,⟨x0,ρ,h0⟩,h⟩
theorem wrap_small {n:Int} (h0:-9223372036854775808≤n) (h1:n≤9223372036854775807):IntKind.i64.wrap n=n:=by
 unfold IntKind.wrap
 simp [IntKind.bits,IntKind.signed]
 omega
theorem aT {i n:Nat} (h:i < n) (hn:n≤9223372036854775807):IntKind.i64.wrap ((i:Int)+1)=((i+1:Nat):Int):=by
 rw [wrap_small] <;> omega
theorem aQ {α:Type} {f:α→List T} {l:List α} {n:Nat}:(l.map f).take n=(l.take n).map f:=List.map_take.symm
theorem aR {α:Type} {f:α→List T} {l:List α} {n:Nat}:(l.map f).drop n=(l.drop n).map f:=List.map_drop.symm
end Go.Ev
namespace Go.Ev
open Go
inductive Tb (α:Type) where
 | e
 | n (l:Tb α) (k:Nat) (a:α) (r:Tb α)
def Tb.at {α:Type}:Tb α→Nat→Option α
 | .e,_=>none
 | .n l k a r,t=>bif Nat.beq t k then some a else bif Nat.blt t k then l.at t else r.at t
def Tb.All {α:Type} (P:Nat→α→Prop):Tb α→Prop
 | .e=>True
 | .n l k a r=>l.All P∧P k a∧r.All P
theorem Tb.get {α:Type} {P:Nat→α→Prop}:∀{b:Tb α} {t:Nat} {a:α},b.All P→b.at t=some a→P t a
 | .e,_,_,_,h=>by cases h
 | .n l k x r,t,a,⟨h1,h2,h3⟩,h=>by
   simp only [Tb.at] at h
   cases hk:Nat.beq t k with
   | true =>
     rw [hk] at h
     cases h
     rw [Nat.eq_of_beq_eq_true hk];exact h2
   | false =>
     rw [hk] at h
     cases hl:Nat.blt t k with
     | true=>rw [hl] at h;exact Tb.get h1 h
     | false=>rw [hl] at h;exact Tb.get h3 h
def c3f (P:Program) (b:Tb TI) (c:Tb (List CK)):Env:=⟨P,b.at,fun _=>[],c.at⟩
theorem c4t {P:Program} {b:Tb TI} {c:Tb (List CK)} (hb:b.All fun t ti=>fZ P t=some ti) (hc:c.All fun t k=>a9z P t=some k):EnvOk (c3f P b c) :=
 ⟨fun _ _ h=>d1k (Tb.get hb h),fun t ks h=>d3v t ks (Tb.get hc h)⟩
end Go.Ev
namespace Go.Ev
open Go
theorem d5w {α:Type} {enc:α→List T} {l:List α} {i:Nat} {r:List T} (h:(l.map enc)[i]?=some r):∃a,l[i]?=some a∧r=enc a:=by
 rw [List.getElem?_map] at h
 cases ha:l[i]? with
 | none=>rw [ha] at h;cases h
 | some a=>rw [ha] at h;cases h;exact ⟨a,rfl,rfl⟩
end Go.Ev
namespace Go.Ev
open Go
theorem bA {k:IntKind} {a b:Int} (h:b=a):T.v (.int k b)=T.v (.int k a):=by rw [h]
def mN (x:Int):List T:=[.v (.int .i64 x)]
def cU8 (x:Int):List T:=[.v (.int .u8 x)]
def c9n (x:ByteArray):List T:=[.v (.string x)]
def cSl {α:Type} (o:Bool) (k:Nat) (f:α→List T) (x:List α):List T:=[.s o k (x.map f)]
end Go.Ev
namespace Go.Ev
open Go
theorem fF {α:Type} {k:Nat} {enc:α→List T} (h:∀x,lU (enc x)) (l:List α):OwnT (.s true k (l.map enc)):=by
 cases l with
 | nil=>exact .nil _ _
 | cons a l =>
   refine .s _ _ fun r hr t ht=>?_
   obtain ⟨x,_,rfl⟩:=List.mem_map.1 hr
   obtain ⟨j,hj⟩:=List.getElem?_of_mem ht
   exact lU.get (h x) j t hj
theorem bE {α:Type} {f g:α→List T} (h:∀x,jQ (f x)=g x) (l:List α):cK (l.map f)=l.map g:=by
 rw [b6f]
 exact List.map_congr_left fun x _=>h x
theorem bY {α:Type} {f g:α→List T} (h:∀x,(f x).map T.fz=g x) (l:List α):uI (l.map f)=l.map g:=by
 unfold uI
 rw [List.map_map]
 exact List.map_congr_left fun x _=>h x
theorem iC {α:Type} {f:α→List T} (h:∀x,(f x).map T.sh=f x) (l:List α):wN (l.map f)=l.map f:=by
 unfold wN
 rw [List.map_map]
 exact List.map_congr_left fun x _=>h x
theorem fH {α:Type} {f:α→List T} (h:∀x,(f x).map T.flat=f x) (l:List α):vM (l.map f)=l.map f:=by
 unfold vM
 rw [List.map_map]
 exact List.map_congr_left fun x _=>h x
theorem d5s {α:Type} {f:α→List T} {l:List α} {i off:Nat} {cs:List T} {b:α} (h:∀a,l[i]?=some a→eC (f a) off cs=f b):(l.map f).set i (eC (dK (l.map f) i) off cs)=(l.set i b).map f:=by
 by_cases hi:i < l.length
 · have e:dK (l.map f) i=f l[i]:=by simp [dK,List.getD,hi]
   rw [e,h _ (List.getElem?_eq_getElem hi),List.map_set]
 · rw [List.set_eq_of_length_le (by simpa using hi),List.set_eq_of_length_le (by simpa using hi)]
theorem a3m {α:Type} {k:Nat} {enc:α→List T} (h:∀x,lU (enc x)) (l:List α):lU (cSl true k enc l):=⟨fF h l,trivial⟩
theorem d8h (x:Int):jQ (cU8 x)=cU8 x:=rfl
theorem oS {α:Type} {o:Bool} {k:Nat} {f g:α→List T} (h:∀x,jQ (f x)=g x) (l:List α):jQ (cSl o k f l)=cSl false k g l:=by
 show [T.s false k (cK (l.map f))]=_
 rw [bE h];rfl
theorem rI (x:Int):(mN x).map T.fz=mN x:=rfl
theorem b9q {α:Type} {o:Bool} {k:Nat} {f g:α→List T} (h:∀x,jQ (f x)=g x) (l:List α):(cSl o k f l).map T.fz=cSl false k g l:=by
 show [T.s false k (cK (l.map f))]=_
 rw [bE h];rfl
theorem rK (x:Int):(mN x).map T.flat=mN x:=rfl
end Go.Ev
namespace Go.Ev
open Go
def LstSt.step {α σ ρ:Type} {f:Nat→σ→α→Step σ ρ} {s0:σ} {l:List α} (x:LstSt f s0 l) (hi:x.i < l.length) (v:σ) (hf:f x.i x.s l[x.i]=.next v):LstSt f s0 l :=
 ⟨x.i+1,hi,v,by
   have:=x.unf hi
   rw [hf] at this
   exact this.symm⟩
def CntSt.step {σ ρ:Type} {f:Nat→σ→Step σ ρ} {s0:σ} {n:Nat} (x:CntSt f s0 n) (hi:x.i < n) (v:σ) (hf:f x.i x.s=.next v):CntSt f s0 n :=
 ⟨x.i+1,hi,v,by
   have:=x.unf hi
   rw [hf] at this
   exact this.symm⟩
def WhlSt.step {σ ρ:Type} {I:σ→Prop} {m:σ→Nat} {f:σ→Step σ ρ} {s0:σ} (x:WhlSt I m f s0) (v:σ) (hf:f x.s=.next v) (hI:I v) (hm:m v < m x.s):WhlSt I m f s0 :=
 ⟨x.n - 1,v,hI,by have:=x.h;omega,by
   have h:=x.e
   have h1:x.n=(x.n - 1)+1:=by have:=x.h;omega
   rw [h1,eP,hf] at h
   exact h⟩
end Go.Ev
namespace Go.Ev
open Go
theorem d6i {α:Type} {enc:α→List T} {l:List α} {i:Nat} (hi:i < l.length):0≤(i:Int)∧(i:Int) < ((l.map enc).length:Int):=by
 rw [List.length_map];omega
end Go.Ev
namespace Go.Ev
open Go
theorem a0r {α:Type} {enc:α→List T} {l:List α} {i j:Nat} {K:List T→Prop} (hj:j=i) (hi:i < l.length) (h:K (enc l[i])):∀r,(true=true→(l.map enc)[j]?=some r)→K r:=by
 intro r hr
 subst hj
 have:=hr rfl
 rw [List.getElem?_map,List.getElem?_eq_getElem hi] at this
 cases this;exact h
theorem kD {n k:Nat} {K:Nat→Prop} (hn:n=k) (h:k≤9223372036854775807→K k):∀m,m=n→(true=true→m≤9223372036854775807)→K m:=by
 intro m hm hN
 subst hm hn
 exact h (hN rfl)
theorem aV {X Y:List (List T)} {K:List (List T)→Prop} (e:X=Y) (h:K Y):∀r,r=X→K r:=by
 intro r hr
 subst hr e
 exact h
end Go.Ev
namespace Go.Ev
open Go
theorem dC {α:Type} {f:α→List T} {l:List α} {i j off:Nat} {cs:List T} {b:α} (hj:j=i) (h:∀a,l[i]?=some a→eC (f a) off cs=f b):(l.map f).set j (eC (dK (l.map f) j) off cs)=(l.set i b).map f:=by
 subst hj;exact d5s h
structure LstInv {α σ ρ:Type} (I:Nat→σ→Prop) (f:Nat→σ→α→Step σ ρ) (s0:σ) (l:List α) extends LstSt f s0 l where
 hI:I i s
def LstInv.init {α σ ρ:Type} {I:Nat→σ→Prop} {f:Nat→σ→α→Step σ ρ} {s0:σ} {l:List α} (h:I 0 s0):LstInv I f s0 l:=⟨.init,h⟩
structure CntInv {σ ρ:Type} (I:Nat→σ→Prop) (f:Nat→σ→Step σ ρ) (s0:σ) (n:Nat) extends CntSt f s0 n where
 hI:I i s
def CntInv.init {σ ρ:Type} {I:Nat→σ→Prop} {f:Nat→σ→Step σ ρ} {s0:σ} {n:Nat} (h:I 0 s0):CntInv I f s0 n:=⟨.init,h⟩
end Go.Ev
namespace Go.Ev
open Go
def bdS {α:Type} (P:Nat→α→Prop) (M:Nat) (l:List α):Prop:=l.length≤M∧∀x∈l,P M x
theorem bdS.get {α:Type} {P:Nat→α→Prop} {M:Nat} {l:List α} (h:bdS P M l) {i:Nat} (hi:i < l.length):P M l[i]:=h.2 _ (List.getElem_mem hi)
end Go.Ev
namespace Go.Ev
open Go
end Go.Ev
namespace Go.Ev
open Go
theorem aB {n m:Nat} {K:Nat→Prop} (e:m=n) (h:K m):∀k,k=n→K k:=by
 intro k hk
 subst hk e;exact h
end Go.Ev
namespace Go.Ev
open Go
end Go.Ev
namespace Go.Ev
open Go
end Go.Ev
