/- What is known of a type, reckoned from the program. -/
import Derived.Test.YtdjlkhhgaaddpaaGreatEvD
import Derived.ChangeKeysEq
set_option linter.unusedSectionVars false
set_option linter.unusedVariables false
set_option linter.unusedSimpArgs false
namespace Go.Ev
open Go
def b3m (P:Program):Nat→Nat→List (Option Nat)
 | 0,_=>[]
 | n+1,t=>match P.underlying t with
   | some (.slice e)=>[(P.info? e).map (·.size)]
   | some (.struct fs)=>fs.toList.flatMap fun f=>b3m P n f.type
   | _=>List.replicate ((P.info? t).elim 0 (·.size)) none
def pM:Value→Option Nat→T
 | .slice none 0 0,some k=>.s true k []
 | u,_=>.v u
def lH:List Value→List (Option Nat)→List T
 | [],_=>[]
 | u :: us,[]=>pM u none :: lH us []
 | u :: us,k :: ks=>pM u k :: lH us ks
def fieldsOf (P:Program):List Field→Option (List Nat×List Nat)
 | []=>some ([],[])
 | f :: fs=>match P.info? f.type with
   | some i=>bif i.size==0 then none else match fieldsOf P fs with
     | some (os,ss)=>some (f.offset :: os,i.size :: ss)
     | none=>none
   | none=>none
def d0a (P:Program) (t:Nat) (i:TypeInfo) (z:Value):Option TypeDesc→Option TI
 | some (.struct fs)=>match fieldsOf P fs.toList with
   | some (os,ss)=>bif i.size==0 then none else some ⟨i.size,1,lH z.cells.toList (b3m P 20 t),os,ss,0,0,i.bytes,none⟩
   | none=>none
 | some (.slice e)=>match P.info? e with
   | some j=>some ⟨i.size,2,lH z.cells.toList (b3m P 20 t),[],[],e,j.size,i.bytes,none⟩
   | none=>none
 | some .bool=>some ⟨i.size,3,lH z.cells.toList [],[],[],0,0,i.bytes,none⟩
 | some .string=>some ⟨i.size,4,lH z.cells.toList [],[],[],0,0,i.bytes,none⟩
 | some (.int k)=>some ⟨i.size,0,lH z.cells.toList [],[],[],0,0,i.bytes,some k⟩
 | some (.array _ _)=>none
 | some _=>some ⟨i.size,0,lH z.cells.toList [],[],[],0,0,i.bytes,none⟩
 | none=>none
def fZ (P:Program) (t:Nat):Option TI :=
 match P.info? t with
 | some i=>match i.zero with
   | some z=>bif z.cells.size==i.size&&z.cells.toList.all fit then d0a P t i z (P.underlying t) else none
   | none=>none
 | none=>none
theorem a4h:∀(us:List Value) ks,(lH us ks).length=us.length
 | [],_=>rfl
 | u :: us,[]=>by simp [lH,a4h us]
 | u :: us,k :: ks=>by simp [lH,a4h us]
theorem b7u (u:Value) (k:Option Nat):pM u k=.v u∨∃k',pM u k=.s true k' []∧u=.slice none 0 0:=by
 unfold pM
 split
 · exact .inr ⟨_,rfl,rfl⟩
 · exact .inl rfl
theorem a6d:∀(us:List Value) ks (j:Nat) u tt,us[j]?=some u→(lH us ks)[j]?=some tt→tt=.v u∨∃k,tt=.s true k []∧u=.slice none 0 0
 | [],_,j,u,tt,h,_=>by simp at h
 | x :: us,[],0,u,tt,h,h'=>by simp [lH] at h h';subst h h';exact b7u _ _
 | x :: us,[],j+1,u,tt,h,h'=>a6d us [] j u tt (by simpa using h) (by simpa [lH] using h')
 | x :: us,k :: ks,0,u,tt,h,h'=>by simp [lH] at h h';subst h h';exact b7u _ _
 | x :: us,k :: ks,j+1,u,tt,h,h'=>a6d us ks j u tt (by simpa using h) (by simpa [lH] using h')
theorem sO {P:Program} {t:Nat} {i:TypeInfo} (h:P.info? t=some i) (w:World):(sizeOf t).run P w=.ok i.size w:=by
 simp [sizeOf,run_typeInfo w h]
theorem c8d {P:Program} {t:Nat} {i:TypeInfo} {z:Value} (h:P.info? t=some i) (hz:i.zero=some z) (w:World):(zeroValue t).run P w=.ok z w:=by
 simp [zeroValue,run_typeInfo w h,hz]
theorem a8z {P:Program}:∀{fs:List Field} {os ss:List Nat},fieldsOf P fs=some (os,ss)→fs.length=os.length∧fs.mapM (fun f=>(P.info? f.type).map fun i=>(f.offset,i.size))=some (os.zip ss) ∧
 ∀(f:Nat) fd,fs[f]?=some fd→fd.offset=os.getD f 0∧∃n,n≠0∧∀w,(sizeOf fd.type).run P w=.ok n w
 | [],os,ss,h=>by
   cases h
   exact ⟨rfl,rfl,fun f fd hf=>by simp at hf⟩
 | f :: fs,os,ss,h=>by
   simp only [fieldsOf] at h
   cases hi:P.info? f.type with
   | none=>rw [hi] at h;cases h
   | some i =>
     rw [hi] at h
     simp only at h
     cases h0:i.size==0 with
     | true=>rw [h0] at h;cases h
     | false =>
       rw [h0] at h
       simp only [cond_false] at h
       cases hf:fieldsOf P fs with
       | none=>rw [hf] at h;cases h
       | some p =>
         obtain ⟨os',ss'⟩:=p
         rw [hf] at h
         cases h
         obtain ⟨q1,q2,q3⟩:=a8z hf
         refine ⟨by simp [q1],by simp [List.mapM_cons,hi,q2],fun j fd hj=>?_⟩
         cases j with
         | zero =>
           simp at hj
           subst hj
           exact ⟨rfl,i.size,by simpa using h0,fun w=>sO hi w⟩
         | succ j=>simpa using q3 j fd (by simpa using hj)
theorem d1k {P:Program} {t:Nat} {ti:TI} (h:fZ P t=some ti):TIok P t ti:=by
 unfold fZ at h
 split at h
 rotate_left
 · cases h
 rename_i i hi
 split at h
 rotate_left
 · cases h
 rename_i z hz
 cases hg:z.cells.size==i.size&&z.cells.toList.all fit with
 | false=>rw [hg] at h;cases h
 | true =>
   rw [hg] at h
   simp only [cond_true] at h
   simp only [Bool.and_eq_true,beq_iff_eq,List.all_eq_true] at hg
   obtain ⟨hsz,hone⟩:=hg
   have zr:∀ks,∃z':Value,(∀w,(zeroValue t).run P w=.ok z' w)∧z'.cells.size=i.size∧(lH z.cells.toList ks).length=i.size ∧
    ∀(j:Nat) u tt,z'.cells[j]?=some u→(lH z.cells.toList ks)[j]?=some tt→fit u=true∧(tt=.v u∨∃k,tt=.s true k []∧u=.slice none 0 0):=by
    intro ks
    exact ⟨z,fun w=>c8d hi hz w,hsz,by rw [a4h];simpa using hsz,fun j u tt hu ht=>⟨hone u (List.mem_of_getElem? (by simpa using hu)),a6d _ _ j u tt (by simpa using hu) ht⟩⟩
   have inf:∃j,P.info? t=some j∧j.bytes=i.bytes∧j.size=i.size∧∃z,j.zero=some z:=⟨i,hi,rfl,rfl,z,hz⟩
   unfold d0a at h
   split at h
   · rename_i fs hd
     cases hf:fieldsOf P fs.toList with
     | none=>rw [hf] at h;cases h
     | some p =>
       obtain ⟨os,ss⟩:=p
       rw [hf] at h
       simp only at h
       cases h0:i.size==0 with
       | true=>rw [h0] at h;cases h
       | false =>
         rw [h0] at h
         simp only [cond_false,Option.some.injEq] at h
         subst h
         obtain ⟨q1,q2,q3⟩:=a8z hf
         refine ⟨fun w=>sO hi w,fun w=>by simp [isAgg,run_underlying hd],fun _=>?_,zr _,inf,fun _=>⟨fs,hd,by simpa using q1,q2,fun f fd hj=>q3 f fd (by simpa using hj)⟩,fun h=>(by cases h),fun k h=>(by cases h),fun h=>(by cases h),fun h=>(by cases h)⟩
         have:i.size≠0:=by simpa using h0
         show 0 < i.size
         omega
   · rename_i e hd
     cases he:P.info? e with
     | none=>rw [he] at h;cases h
     | some j =>
       rw [he] at h
       simp only [Option.some.injEq] at h
       subst h
       exact ⟨fun w=>sO hi w,fun w=>by simp [isAgg,run_underlying hd],fun h=>(by cases h),zr _,inf,fun h=>(by cases h),fun h=>(by cases h),fun k h=>(by cases h),fun h=>(by cases h),fun _=>⟨hd,fun w=>sO he w⟩⟩
   · rename_i hd
     simp only [Option.some.injEq] at h
     subst h
     exact ⟨fun w=>sO hi w,fun w=>by simp [isAgg,run_underlying hd],fun h=>(by cases h),zr _,inf,fun h=>(by cases h),fun h=>(by cases h),fun k h=>(by cases h),fun h=>hd,fun h=>(by cases h)⟩
   · rename_i hd
     simp only [Option.some.injEq] at h
     subst h
     exact ⟨fun w=>sO hi w,fun w=>by simp [isAgg,run_underlying hd],fun h=>(by cases h),zr _,inf,fun h=>(by cases h),fun h=>hd,fun k h=>(by cases h),fun h=>(by cases h),fun h=>(by cases h)⟩
   · rename_i k hd
     simp only [Option.some.injEq] at h
     subst h
     exact ⟨fun w=>sO hi w,fun w=>by simp [isAgg,run_underlying hd],fun h=>(by cases h),zr _,inf,fun h=>(by cases h),fun h=>(by cases h),fun k' h=>(by cases h;exact hd),fun h=>(by cases h),fun h=>(by cases h)⟩
   · cases h
   · rename_i d h1 h2 h3 h4 h5 h6 hd
     simp only [Option.some.injEq] at h
     subst h
     refine ⟨fun w=>sO hi w,fun w=>?_,fun h=>(by cases h),zr _,inf,fun h=>(by cases h),fun h=>(by cases h),fun k h=>(by cases h),fun h=>(by cases h),fun h=>(by cases h)⟩
     simp only [isAgg]
     rw [Sem.run_bind_ok (run_underlying hd w)]
     split
     · exact absurd rfl (h1 _)
     · exact absurd rfl (h6 _ _)
     · rfl
   · cases h
end Go.Ev
