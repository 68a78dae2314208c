/- The steps of a walk, in few words. -/
import Derived.Test.YtdjlkhhgaaddpaaGreatEvRb
import Derived.Test.YtdjlkhhgaaddpaaGreatEvRm
import Derived.Test.YtdjlkhhgaaddpaaGreatEvZ
set_option linter.unusedSectionVars false
set_option linter.unusedVariables false
set_option linter.unusedSimpArgs false
namespace Go.Ev
open Go
theorem aA {A B:Prop} (h:A):A∨B:=.inl h
theorem brE {R:Type} {F A B:R} {c:Bool} {P Q:Prop} (hg:F=bif c then A else B) (t:F=A→c=true→P) (f:F=B→c=false→Q):(c=true→P)∧(c=false→Q) :=
 ⟨fun h=>t (by rw [hg,h];rfl) h,fun h=>f (by rw [hg,h];rfl) h⟩
theorem brF {R:Type} {F A B:R} {c:Bool} {P Q:Prop} (hg:F=bif c then A else B) (f:F=B→c=false→Q) (t:F=A→c=true→P):(c=false→Q)∧(c=true→P) :=
 ⟨fun h=>f (by rw [hg,h];rfl) h,fun h=>t (by rw [hg,h];rfl) h⟩
theorem aE {R:Type} {F V:R} {rf:R→AV} {al:Bool} (h:∀g,(rf g).Own) (hg:F=V):((al=false→(rf F).Own)∧rf V=rf F)∨(al=true∧FzQ (rf V) (rf F)):=.inl ⟨fun _=>h F,by rw [hg]⟩
theorem d7m {R:Type} {F V:R} {rf:R→AV} (hrf:rf=rf) (hg:F=V):((true=false→(rf F).Own)∧rf V=rf F)∨(true=true∧FzQ (rf V) (rf F)):=.inl ⟨fun h=>(by cases h),by rw [hg]⟩
theorem FzQ.ag {l l':List T} (h:FzXs l l'):FzQ (.agg l) (.agg l'):=.one (.agg h) (fun _ h=>by cases h) (fun _ h=>by cases h)
theorem a7a:∀(r:List T) (off:Nat) (x c:T),off < r.length→eC (eC r off [x]) off [c]=eC r off [c]
 | [],off,x,c,h=>by simp at h
 | t :: r,0,x,c,h=>by cases r <;> rfl
 | t :: r,off+1,x,c,h=>by simp only [eC,a7a r off x c (by simpa using h)]
theorem a0e {α:Type} {f:α→List T} {l:List α} {i off:Nat} {x c:T} (hf:∀a,off < (f a).length):((l.map f).set i (eC (dK (l.map f) i) off [x])).set i (eC (dK ((l.map f).set i (eC (dK (l.map f) i) off [x])) i) off [c])=(l.map f).set i (eC (dK (l.map f) i) off [c]):=by
 rw [List.set_set]
 rcases Nat.lt_or_ge i (l.map f).length with h | h
 · have:dK ((l.map f).set i (eC (dK (l.map f) i) off [x])) i=eC (dK (l.map f) i) off [x]:=by simp only [dK,List.getD];rw [List.getElem?_set_self h];rfl
   have h2:off < (dK (l.map f) i).length:=by
    have hl:i < l.length:=by simpa using h
    have:dK (l.map f) i=f l[i]:=by simp [dK,List.getD,hl]
    rw [this];exact hf _
   rw [this,a7a _ _ _ _ h2]
 · rw [List.set_eq_of_length_le h,List.set_eq_of_length_le h]
def opq:Option Value→T→T
 | none,t=>t
 | some u,_=>.v u
def aZ {α β:Type} (x:α) (k:α→β):β:=k x
theorem bG {α β:Type} {F:β} {x y:α} {k:α→β} (h:y=x) (hg:F=aZ x k):F=k y:=by subst h;exact hg
theorem brD {R:Type} {F A B:R} {p:Prop} [d:Decidable p] {P Q:Prop} (hg:F=bif decide p then A else B) (t:F=A→p→P) (f:F=B→¬p→Q):(decide p=true→P)∧(decide p=false→Q) :=
 ⟨fun h=>t (by rw [hg,h];rfl) (of_decide_eq_true h),fun h=>f (by rw [hg,h];rfl) (of_decide_eq_false h)⟩
theorem brQ {R:Type} {F A B:R} {a b:Int} {P Q:Prop} (hg:F=bif a==b then A else B) (t:F=A→a=b→P) (f:F=B→a≠b→Q):((a==b)=true→P)∧((a==b)=false→Q) :=
 ⟨fun h=>t (by rw [hg,h];rfl) (by simpa using h),fun h=>f (by rw [hg,h];rfl) (by simpa using h)⟩
theorem brW {R:Type} {F A B:R} {a b:Int} {P Q:Prop} (hg:F=bif a != b then A else B) (t:F=A→a≠b→P) (f:F=B→a=b→Q):((a != b)=true→P)∧((a != b)=false→Q) :=
 ⟨fun h=>t (by rw [hg,h];rfl) (by simpa using h),fun h=>f (by rw [hg,h];rfl) (by simpa using h)⟩
theorem nC {R:Type} {F A B:R} {p:Prop} [d:Decidable p] {P Q:Prop} (hg:F=bif decide p then A else B) (f:F=B→¬p→Q) (t:F=A→p→P):(decide p=false→Q)∧(decide p=true→P):=⟨(brD hg t f).2,(brD hg t f).1⟩
theorem b0p {R:Type} {F A B:R} {a b:Int} {P Q:Prop} (hg:F=bif a==b then A else B) (f:F=B→a≠b→Q) (t:F=A→a=b→P):((a==b)=false→Q)∧((a==b)=true→P):=⟨(brQ hg t f).2,(brQ hg t f).1⟩
theorem yA {R:Type} {F A B:R} {a b:Int} {P Q:Prop} (hg:F=bif a != b then A else B) (f:F=B→a=b→Q) (t:F=A→a≠b→P):((a != b)=false→Q)∧((a != b)=true→P):=⟨(brW hg t f).2,(brW hg t f).1⟩
theorem bZ {σ ρ:Type} {P:ρ} {k:σ→ρ} {l:Fin σ ρ} {s:σ} (hp:P=Fin.get k l) (h:l=.fin s):P=k s:=by rw [hp,h];rfl
theorem cQ {σ ρ:Type} {P:ρ} {k:σ→ρ} {l:Fin σ ρ} {r:ρ} (hp:P=Fin.get k l) (h:l=.done r):P=r:=by rw [hp,h];rfl
def Step.get {σ ρ:Type} (k:σ→ρ):Step σ ρ→ρ
 | .next s=>k s
 | .stop s=>k s
 | .done r=>r
theorem d8b {σ ρ:Type} {P:ρ} {k:σ→ρ} {l:Step σ ρ} {s:σ} (hp:P=Step.get k l) (h:l=.next s):P=k s:=by rw [hp,h];rfl
theorem getD {σ ρ:Type} {P:ρ} {k:σ→ρ} {l:Step σ ρ} {r:ρ} (hp:P=Step.get k l) (h:l=.done r):P=r:=by rw [hp,h];rfl
structure JnSt {σ ρ:Type} (j:Step σ ρ) where
 s:σ
 e:j=.next s
theorem eA {σ ρ:Type} {P:ρ} {k:σ→ρ} {j:Step σ ρ} (hp:P=Step.get k j) {W:(Exit→St→Prop)→St→Prop} {K:St→Prop} {Q:Exit→St→Prop} {tm:List (Nat×AV)} {ob:List (Option Ob)} {pr:List T} {X:Prop} (ks:List Nat) (mods:JnSt j→List (Nat×AV)) (obs:JnSt j→List KO)
 (h2:j=j→W (thn (fun st'=>(∃x ρ,uE ρ st' ⟨mods x++jF tm ks,kN ob (obs x),pr⟩)∨K st') Q) ⟨tm,ob,pr⟩)
 (h1:∀x:JnSt j,P=k x.s→K ⟨mods x++jF tm ks,kN ob (obs x),pr⟩):X∨d0u W K Q ⟨tm,ob,pr⟩ :=
 .inr ⟨JnSt j,fun x=>⟨mods x++jF tm ks,kN ob (obs x),pr⟩,fun x=>h1 x (d8b hp x.e),h2 rfl⟩
theorem dW {α σ ρ:Type} {P:ρ} {k:σ→ρ} {b:Nat→σ→α→Step σ ρ} {s0:σ} {l:List α} (hp:P=Fin.get k (aJ b 0 s0 l)) {W:(Exit→St→Prop)→St→Prop} {Q:Exit→St→Prop} {tm:List (Nat×AV)} {ob:List (Option Ob)} {pr:List T} (ks:List Nat) (mods:LstSt b s0 l→List (Nat×AV)) (obs:LstSt b s0 l→List KO) (ρ:List (Option Nat))
 (h0:uE ρ ⟨tm,ob,pr⟩ ⟨mods .init++jF tm ks,kN ob (obs .init),pr⟩)
 (h:∀x,W (thn (tU (fun x=>⟨mods x++jF tm ks,kN ob (obs x),pr⟩) (fun x=>l.length - x.i) x) Q) ⟨mods x++jF tm ks,kN ob (obs x),pr⟩):a4y W Q ⟨tm,ob,pr⟩ :=
 yP ks mods obs _ .init ρ h0 h
theorem gM {α σ ρ:Type} {P:ρ} {k:σ→ρ} {b:Nat→σ→α→Step σ ρ} {s0:σ} {l:List α} (I:Nat→σ→Prop) (hp:P=Fin.get k (aJ b 0 s0 l)) (hI:I 0 s0) {W:(Exit→St→Prop)→St→Prop} {Q:Exit→St→Prop} {tm:List (Nat×AV)} {ob:List (Option Ob)} {pr:List T} (ks:List Nat) (mods:LstInv I b s0 l→List (Nat×AV)) (obs:LstInv I b s0 l→List KO) (ρ:List (Option Nat))
 (h0:uE ρ ⟨tm,ob,pr⟩ ⟨mods (.init hI)++jF tm ks,kN ob (obs (.init hI)),pr⟩)
 (h:∀x,W (thn (tU (fun x=>⟨mods x++jF tm ks,kN ob (obs x),pr⟩) (fun x=>l.length - x.i) x) Q) ⟨mods x++jF tm ks,kN ob (obs x),pr⟩):a4y W Q ⟨tm,ob,pr⟩ :=
 yP ks mods obs _ (.init hI) ρ h0 h
theorem a0w {σ ρ:Type} {P:ρ} {k:σ→ρ} {b:Nat→σ→Step σ ρ} {s0:σ} {n:Nat} (hp:P=Fin.get k (cJ b 0 s0 n)) {W:(Exit→St→Prop)→St→Prop} {Q:Exit→St→Prop} {tm:List (Nat×AV)} {ob:List (Option Ob)} {pr:List T} (ks:List Nat) (mods:CntSt b s0 n→List (Nat×AV)) (obs:CntSt b s0 n→List KO) (ρ:List (Option Nat))
 (h0:uE ρ ⟨tm,ob,pr⟩ ⟨mods .init++jF tm ks,kN ob (obs .init),pr⟩)
 (h:∀x,W (thn (tU (fun x=>⟨mods x++jF tm ks,kN ob (obs x),pr⟩) (fun x=>n - x.i) x) Q) ⟨mods x++jF tm ks,kN ob (obs x),pr⟩):a4y W Q ⟨tm,ob,pr⟩ :=
 yP ks mods obs _ .init ρ h0 h
theorem a0v {σ ρ:Type} {P:ρ} {k:σ→ρ} {b:Nat→σ→Step σ ρ} {s0:σ} {n:Nat} (I:Nat→σ→Prop) (hp:P=Fin.get k (cJ b 0 s0 n)) (hI:I 0 s0) {W:(Exit→St→Prop)→St→Prop} {Q:Exit→St→Prop} {tm:List (Nat×AV)} {ob:List (Option Ob)} {pr:List T} (ks:List Nat) (mods:CntInv I b s0 n→List (Nat×AV)) (obs:CntInv I b s0 n→List KO) (ρ:List (Option Nat))
 (h0:uE ρ ⟨tm,ob,pr⟩ ⟨mods (.init hI)++jF tm ks,kN ob (obs (.init hI)),pr⟩)
 (h:∀x,W (thn (tU (fun x=>⟨mods x++jF tm ks,kN ob (obs x),pr⟩) (fun x=>n - x.i) x) Q) ⟨mods x++jF tm ks,kN ob (obs x),pr⟩):a4y W Q ⟨tm,ob,pr⟩ :=
 yP ks mods obs _ (.init hI) ρ h0 h
theorem a6s {σ ρ:Type} {P:ρ} {k:σ→ρ} {b:σ→Step σ ρ} {s0:σ} (I:σ→Prop) {m:σ→Nat} (hp:P=Fin.get k (eP b (m s0) s0)) (hI:I s0) {W:(Exit→St→Prop)→St→Prop} {Q:Exit→St→Prop} {tm:List (Nat×AV)} {ob:List (Option Ob)} {pr:List T} (ks:List Nat) (mods:WhlSt I m b s0→List (Nat×AV)) (obs:WhlSt I m b s0→List KO) (ρ:List (Option Nat))
 (h0:uE ρ ⟨tm,ob,pr⟩ ⟨mods (.init hI)++jF tm ks,kN ob (obs (.init hI)),pr⟩)
 (h:∀x,W (thn (tU (fun x=>⟨mods x++jF tm ks,kN ob (obs x),pr⟩) (fun x=>m x.s) x) Q) ⟨mods x++jF tm ks,kN ob (obs x),pr⟩):a4y W Q ⟨tm,ob,pr⟩ :=
 yP ks mods obs _ (.init hI) ρ h0 h
section
variable {α σ ρ:Type}
theorem LstSt.bdy {b:Nat→σ→α→Step σ ρ} {s0:σ} {l:List α} (x:LstSt b s0 l) (hi:x.i < l.length):b x.i x.s l[x.i]=b x.i x.s l[x.i]:=rfl
theorem CntSt.bdy {b:Nat→σ→Step σ ρ} {s0:σ} {n:Nat} (x:CntSt b s0 n) (hi:x.i < n):b x.i x.s=b x.i x.s:=rfl
theorem WhlSt.bdy {I:σ→Prop} {m:σ→Nat} {b:σ→Step σ ρ} {s0:σ} (x:WhlSt I m b s0):b x.s=b x.s:=rfl
theorem LstSt.outS {b:Nat→σ→α→Step σ ρ} {s0:σ} {l:List α} (x:LstSt b s0 l) (hi:x.i < l.length) {v:σ} (h:b x.i x.s l[x.i]=.stop v):aJ b 0 s0 l=.fin v:=x.brk hi h rfl
theorem LstSt.outD {b:Nat→σ→α→Step σ ρ} {s0:σ} {l:List α} (x:LstSt b s0 l) (hi:x.i < l.length) {r:ρ} (h:b x.i x.s l[x.i]=.done r):aJ b 0 s0 l=.done r:=x.brk hi h rfl
theorem CntSt.outS {b:Nat→σ→Step σ ρ} {s0:σ} {n:Nat} (x:CntSt b s0 n) (hi:x.i < n) {v:σ} (h:b x.i x.s=.stop v):cJ b 0 s0 n=.fin v:=x.brk hi h rfl
theorem CntSt.outD {b:Nat→σ→Step σ ρ} {s0:σ} {n:Nat} (x:CntSt b s0 n) (hi:x.i < n) {r:ρ} (h:b x.i x.s=.done r):cJ b 0 s0 n=.done r:=x.brk hi h rfl
theorem WhlSt.outS {I:σ→Prop} {m:σ→Nat} {b:σ→Step σ ρ} {s0:σ} (x:WhlSt I m b s0) {v:σ} (h:b x.s=.stop v):eP b (m s0) s0=.fin v:=x.brk h rfl
theorem LstSt.goE {b:Nat→σ→α→Step σ ρ} {s0:σ} {l:List α} (x:LstSt b s0 l) (hi:x.i < l.length) {v:σ} (hf:b x.i x.s l[x.i]=.next v) {S:LstSt b s0 l→St} {st':St} (ρ':List (Option Nat))
 (hc:uE ρ' st' (S (x.step hi v hf))):tU S (fun x=>l.length - x.i) x st':=⟨_,ρ',by show l.length - (x.i+1) < l.length - x.i;omega,hc⟩
theorem CntSt.goE {b:Nat→σ→Step σ ρ} {s0:σ} {n:Nat} (x:CntSt b s0 n) (hi:x.i < n) {v:σ} (hf:b x.i x.s=.next v) {S:CntSt b s0 n→St} {st':St} (ρ':List (Option Nat))
 (hc:uE ρ' st' (S (x.step hi v hf))):tU S (fun x=>n - x.i) x st':=⟨_,ρ',by show n - (x.i+1) < n - x.i;omega,hc⟩
theorem LstInv.goE {I:Nat→σ→Prop} {b:Nat→σ→α→Step σ ρ} {s0:σ} {l:List α} (x:LstInv I b s0 l) (hi:x.i < l.length) {v:σ} (hf:b x.i x.s l[x.i]=.next v) (hI:I (x.i+1) v) {S:LstInv I b s0 l→St} {st':St} (ρ':List (Option Nat))
 (hc:uE ρ' st' (S ⟨x.step hi v hf,hI⟩)):tU S (fun x=>l.length - x.i) x st':=⟨_,ρ',by show l.length - (x.i+1) < l.length - x.i;omega,hc⟩
theorem CntInv.goE {I:Nat→σ→Prop} {b:Nat→σ→Step σ ρ} {s0:σ} {n:Nat} (x:CntInv I b s0 n) (hi:x.i < n) {v:σ} (hf:b x.i x.s=.next v) (hI:I (x.i+1) v) {S:CntInv I b s0 n→St} {st':St} (ρ':List (Option Nat))
 (hc:uE ρ' st' (S ⟨x.step hi v hf,hI⟩)):tU S (fun x=>n - x.i) x st':=⟨_,ρ',by show n - (x.i+1) < n - x.i;omega,hc⟩
theorem WhlSt.goE {I:σ→Prop} {m:σ→Nat} {b:σ→Step σ ρ} {s0:σ} (x:WhlSt I m b s0) {v:σ} (hf:b x.s=.next v) (hm:I v∧m v < m x.s) {S:WhlSt I m b s0→St} {st':St} (ρ':List (Option Nat))
 (hc:uE ρ' st' (S (x.step v hf hm.1 hm.2))):tU S (fun x=>m x.s) x st':=⟨_,ρ',hm.2,hc⟩
end
theorem cT {i n:Nat} {P Q:Prop} (t:i < n→P) (f:¬i < n→Q):(decide ((i:Int) < (n:Int))=true→P)∧(decide ((i:Int) < (n:Int))=false→Q) :=
 ⟨fun h=>t (by simpa using h),fun h=>f (by simpa using h)⟩
theorem a4j {i:Nat} {n:Int} {P Q:Prop} (t:i < n.toNat→P) (f:¬i < n.toNat→Q):(decide ((i:Int) < n)=true→P)∧(decide ((i:Int) < n)=false→Q) :=
 ⟨fun h=>t (by have:(i:Int) < n:=of_decide_eq_true h;omega),fun h=>f (by have:¬(i:Int) < n:=of_decide_eq_false h;omega)⟩
theorem zQ {i:Nat} {n:Int} (h:i < n.toNat) (hn:n≤9223372036854775807:=by omega):IntKind.i64.wrap ((i:Int)+1)=((i+1:Nat):Int):=by
 rw [wrap_small] <;> omega
theorem cZ {α:Type} [Inhabited α] {enc:α→List T} {l:List α} {i j:Nat} {K:List T→Prop} (hj:j=i) (h:i < l.length→K (enc (l[i]?.getD default))):∀r,(true=true→(l.map enc)[j]?=some r)→K r:=by
 intro r hr
 subst hj
 obtain ⟨a,ha,rfl⟩:=d5w (hr rfl)
 have:=h (List.getElem?_eq_some_iff.1 ha).1
 rw [ha] at this;exact this
theorem cC {α:Type} {enc:α→List T} {l:List α} {i:Nat} {K:List T→Prop} (hi:i < l.length) (h:K (enc l[i])) :
 (true=true→0≤(i:Int)∧(i:Int) < ((l.map enc).length:Int))∧∀r,(true=true→(l.map enc)[(i:Int).toNat]?=some r)→K r :=
 ⟨fun _=>d6i hi,a0r rfl hi h⟩
theorem a0y {α:Type} {enc opn:α→List T} (he:∀a,enc a=opn a) {l:List α} {i:Nat} {K:List T→Prop} (hi:i < l.length) (h:K (opn l[i])) :
 (true=true→0≤(i:Int)∧(i:Int) < ((l.map enc).length:Int))∧∀r,(true=true→(l.map enc)[(i:Int).toNat]?=some r)→K r :=
 cC hi (by rw [he];exact h)
theorem lA {α:Type} [Inhabited α] {enc:α→List T} {l:List α} {e:Int} {K:List T→Prop} (hs:0≤e∧e < (l.length:Int)) (h:e.toNat < l.length→K (enc (l[e.toNat]?.getD default))) :
 (true=true→0≤e∧e < ((l.map enc).length:Int))∧∀r,(true=true→(l.map enc)[e.toNat]?=some r)→K r :=
 ⟨fun _=>by rw [List.length_map];exact hs,cZ rfl h⟩
theorem d6j {α:Type} [Inhabited α] {enc opn:α→List T} (he:∀a,enc a=opn a) {l:List α} {e:Int} {K:List T→Prop} (hs:0≤e∧e < (l.length:Int)) (h:e.toNat < l.length→K (opn (l[e.toNat]?.getD default))) :
 (true=true→0≤e∧e < ((l.map enc).length:Int))∧∀r,(true=true→(l.map enc)[e.toNat]?=some r)→K r :=
 lA hs (fun hi=>by rw [he];exact h hi)
theorem bK {P Q:Prop} (h:P) (k:Q):(true=true→P)∧Q:=⟨fun _=>h,k⟩
theorem bJ {α:Type} {enc:α→List T} {l:List α} {K:Nat→Prop} (h:l.length≤9223372036854775807→K l.length):∀m,m=(l.map enc).length→(true=true→m≤9223372036854775807)→K m :=
 kD (by simp) h
theorem vP {n:Nat} {Q:Prop} (h:n≤9223372036854775807→Q):(true=true→n≤9223372036854775807)→Q:=fun hN=>h (hN rfl)
theorem LN:(∀{α β:Type} (f:α→β) (l:List α),(l.map f).length=l.length)∧(∀{α:Type} (a b:List α),(a++b).length=a.length+b.length)∧(∀{α:Type} (a:α) (l:List α),(a::l).length=l.length+1)∧(∀{α:Type},([]:List α).length=0)∧(∀{α:Type} (n:Nat) (l:List α),(l.take n).length=min n l.length)∧∀{α:Type} (n:Nat) (l:List α),(l.drop n).length=l.length-n:=⟨fun _ _=>List.length_map _,fun _ _=>List.length_append,fun _ _=>rfl,rfl,fun _ _=>List.length_take,fun _ _=>List.length_drop⟩
theorem dP (g:Bool):AV.Own (AV.one (.v (.bool g))):=.v _
theorem iN (g:Int):AV.Own (AV.one (.v (.int .i64 g))):=.v _
end Go.Ev
namespace Go.Ev
open Go
theorem cS {α:Type} {enc:α→List T} {l:List α} {b:Nat} {Q:Prop} (hs:l.length*b≤140737488355328∧l.length≤9223372036854775807:=by first | omega | (simp only [List.length_append,List.length_cons,List.length_nil,List.length_take,List.length_drop,List.length_map,List.length_replicate,List.length_set];omega)) (k:Q) :
 ((l.map enc).length*b≤140737488355328∧(l.map enc).length≤9223372036854775807)∧Q:=⟨by rw [List.length_map];exact hs,k⟩
theorem bO {R:Type} {F V:R} {rf:R→AV} {gf gf':R→List T} {al:Bool} (h:(al=false→∀g,(rf g).Own)∧gf=gf'∧rf=rf) (hg:F=V):(((al=false→(rf F).Own)∧rf V=rf F)∨(al=true∧FzQ (rf V) (rf F)))∧[AV.one (.b (gf F))]=[AV.one (.b (gf V))]:=⟨.inl ⟨fun e=>h.1 e F,by rw [hg]⟩,by rw [hg]⟩
theorem nG {R:Type} {F V:R} {rf:R→AV} {gf gf':R→List T} {x:AV} {row:List T} (h:(true=false→∀g,(rf g).Own)∧gf=gf'∧rf=rf) (hg:F=V) (hr:gf V=row) (hq:FzQ x (rf V)):(((true=false→(rf F).Own)∧x=rf F)∨(true=true∧FzQ x (rf F)))∧[AV.one (.b (gf F))]=[AV.one (.b row)]:=⟨.inr ⟨rfl,by rw [hg];exact hq⟩,by rw [hg,hr]⟩
theorem d0t {R:Type} {F V:R} {gf gf':R→List T} (h:gf=gf'∧∀g,(gf g).all T.flatB=true) (hg:F=V):([]:List AV)=[]∧AV.one (.b (gf F))=AV.one (.b (gf V))∧(true&&(gf V).all T.flatB)=true∧true=true:=⟨rfl,by rw [hg],h.2 V,rfl⟩
end Go.Ev
namespace Go.Ev
open Go
def wW (k:IntKind) (a b:Int):Int:=Int.fdiv a (2 ^ (min b.toNat k.bits))
def zI (k:IntKind) (a b:Int):Int:=k.wrap (a*2 ^ (min b.toNat k.bits))
def iE (k:IntKind) (a b:Int):Int:=k.wrap ↑(BitVec.toNat (BitVec.ofInt k.bits a &&& BitVec.ofInt k.bits b))
def rL (k:IntKind) (a b:Int):Int:=k.wrap ↑(BitVec.toNat (BitVec.ofInt k.bits a ^^^ BitVec.ofInt k.bits b))
theorem eS {a b:Int} (ha:0≤a) (hb:0≤b) (h:a+b≤4611686018427387904):IntKind.i64.wrap (wW .u64 (IntKind.u64.wrap (IntKind.i64.wrap (a+b))) 1)=(a+b) / 2:=by
 rw [wrap_small (n:=a+b) (by omega) (by omega)]
 have hu:IntKind.u64.wrap (a+b)=a+b:=by
  unfold IntKind.wrap
  simp [IntKind.bits,IntKind.signed]
  omega
 rw [hu]
 have hf:wW .u64 (a+b) 1=(a+b) / 2:=by
  unfold wW
  rw [Int.fdiv_eq_ediv_of_nonneg _ (by decide)]
  rfl
 rw [hf,wrap_small] <;> omega
theorem vZ {σ ρ:Type} {b:σ→Step σ ρ} {P:σ→Prop} {Q:ρ→Prop} (h:∀s,P s→(∀v,b s=.next v→P v)∧(∀v,b s=.stop v→P v)∧∀r,b s=.done r→Q r):∀(n:Nat) (s:σ),P s→(∀v,eP b n s=.fin v→P v)∧∀r,eP b n s=.done r→Q r
 | 0,s,hs=>by
   obtain ⟨h1,h2,h3⟩:=h s hs
   unfold eP
   cases hb:b s with
   | next v=>exact ⟨fun u e=>by cases e;exact h1 v hb,fun r e=>by cases e⟩
   | stop v=>exact ⟨fun u e=>by cases e;exact h2 v hb,fun r e=>by cases e⟩
   | done r=>exact ⟨fun u e=>(by cases e),fun r' e=>by cases e;exact h3 r hb⟩
 | n+1,s,hs=>by
   obtain ⟨h1,h2,h3⟩:=h s hs
   unfold eP
   cases hb:b s with
   | next v=>exact vZ h n v (h1 v hb)
   | stop v=>exact ⟨fun u e=>by cases e;exact h2 v hb,fun r e=>by cases e⟩
   | done r=>exact ⟨fun u e=>(by cases e),fun r' e=>by cases e;exact h3 r hb⟩
end Go.Ev
