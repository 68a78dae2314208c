/- Flat structs, compared. -/
import Derived.Test.YtdjlkhhgaaddpaaGreatEvT
import Derived.Laws.StructEq
set_option linter.unusedSectionVars false
set_option linter.unusedVariables false
set_option linter.unusedSimpArgs false
namespace Go.Ev
open Go
def c9j (P:Program) (f:Field) (o:Nat):Option CK :=
 bif f.offset==o&&(f.name != "_")&&P.plainKey f.type then
  match P.underlying f.type with
  | some .bool=>some .b
  | some (.int k)=>some (.i k)
  | some .string=>some .s
  | _=>none
 else none
def b7r (P:Program):List Field→Nat→Option (List CK)
 | [],_=>some []
 | f :: fs,o=>match c9j P f o,b7r P fs (o+1) with
   | some c,some cs=>some (c :: cs)
   | _,_=>none
def a9z (P:Program) (t:Nat):Option (List CK) :=
 match P.underlying t with
 | some (.struct fs)=>bif P.stoodInHeld t||P.eqGuardType P.depth t then none else b7r P fs.toList 0
 | _=>none
theorem d4b {P:Program} {f:Field} {o:Nat} {c:CK} (h:c9j P f o=some c):f.offset=o∧f.name ≠ "_"∧P.plainKey f.type=true ∧
 ((c=.b∧P.underlying f.type=some .bool)∨(∃k,c=.i k∧P.underlying f.type=some (.int k))∨(c=.s∧P.underlying f.type=some .string)):=by
 unfold c9j at h
 cases hg:f.offset==o&&(f.name != "_")&&P.plainKey f.type with
 | false=>rw [hg] at h;cases h
 | true =>
   rw [hg] at h
   simp only [cond_true] at h
   simp only [Bool.and_eq_true,beq_iff_eq,bne_iff_ne,ne_eq] at hg
   refine ⟨hg.1.1,hg.1.2,hg.2,?_⟩
   split at h
   · rename_i hu;cases h;exact .inl ⟨rfl,hu⟩
   · rename_i k hu;cases h;exact .inr (.inl ⟨k,rfl,hu⟩)
   · rename_i hu;cases h;exact .inr (.inr ⟨rfl,hu⟩)
   · cases h
theorem c6u {P:Program} {t:TypeId} {c:CK} (h:(c=.b∧P.underlying t=some .bool)∨(∃k,c=.i k∧P.underlying t=some (.int k))∨(c=.s∧P.underlying t=some .string)) {x y:T} {u v:Value} {r:Bool} (hx:x=.v u) (hy:y=.v v)
 (he:qZ c x y=some r) (d:Nat) (w:World):(Op.equalIn (d+1) t u v).run P w=.ok r w:=by
 subst hx hy
 rcases h with ⟨rfl,hu⟩ | ⟨k,rfl,hu⟩ | ⟨rfl,hu⟩
 · cases u <;> try (simp [qZ] at he;done)
   cases v <;> try (simp [qZ] at he;done)
   simp only [qZ,Option.some.injEq] at he
   subst he
   exact run_equalIn_bool' w d t _ _ hu
 · cases u <;> try (simp [qZ] at he;done)
   cases v <;> try (simp [qZ] at he;done)
   rename_i k1 a k2 b
   simp only [qZ] at he
   cases hk:k1==k&&k2==k with
   | false=>rw [hk] at he;cases he
   | true =>
     rw [hk] at he
     simp only [cond_true,Option.some.injEq] at he
     subst he
     have hk':k1=k∧k2=k:=by simpa using hk
     obtain ⟨rfl,rfl⟩:=hk'
     exact run_equalIn_int w d t _ _ a b hu
 · cases u <;> try (simp [qZ] at he;done)
   cases v <;> try (simp [qZ] at he;done)
   simp only [qZ,Option.some.injEq] at he
   subst he
   rw [run_equalIn_string w d t _ _ hu,Go.Ev.bytes_eq]
theorem a9a {P:Program} {d:Nat} {cs ds:Array Value} {w:World}:∀{fs:List Field} {o:Nat} {ks:List CK} {xs ys:List T} {r:Bool},b7r P fs o=some ks→lQ ks xs ys=some r →
 (∀(j:Nat) x,xs[j]?=some x→∃u,cs[o+j]?=some u∧x=.v u)→(∀(j:Nat) x,ys[j]?=some x→∃u,ds[o+j]?=some u∧x=.v u)→(Op.eqFields (d+1) cs ds fs).run P w=.ok r w
 | [],o,ks,xs,ys,r,hk,he,hx,hy=>by
   cases hk
   cases xs <;> cases ys <;> simp [lQ] at he
   subst he
   simp [Op.eqFields]
 | f :: fs,o,ks,xs,ys,r,hk,he,hx,hy=>by
   simp only [b7r] at hk
   split at hk
   · rename_i c cs' hc hcs
     cases hk
     rcases xs with _ | ⟨x,xs⟩
     · simp [lQ] at he
     rcases ys with _ | ⟨y,ys⟩
     · simp [lQ] at he
     simp only [lQ] at he
     split at he
     · rename_i a r' ha hr
       cases he
       obtain ⟨u,hu,hxu⟩:=hx 0 x rfl
       obtain ⟨v,hv,hyv⟩:=hy 0 y rfl
       obtain ⟨rfl,hn,hp,hkk⟩:=d4b hc
       have ih:=a9a (d:=d) (cs:=cs) (ds:=ds) (w:=w) hcs hr (fun j x hj=>by obtain ⟨u,h1,h2⟩:=hx (j+1) x (by simpa using hj);exact ⟨u,by rw [Nat.add_assoc,Nat.add_comm 1 j];exact h1,h2⟩)
        (fun j x hj=>by obtain ⟨u,h1,h2⟩:=hy (j+1) x (by simpa using hj);exact ⟨u,by rw [Nat.add_assoc,Nat.add_comm 1 j];exact h1,h2⟩)
       rw [Op.eqFields]
       simp only [if_pos hn,Sem.run_bind,run_part_plain w hp (by simpa using hu),run_part_plain w hp (by simpa using hv),c6u hkk hxu hyv ha d w,Result.andThen_ok]
       cases a
       · simp
       · simpa using ih
     · cases he
   · cases hk
theorem d3v {P:Program}:∀t ks,a9z P t=some ks→∀xs ys r (cs ds:Array Value) w,lQ ks xs ys=some r→cs.size=xs.length→ds.size=ys.length →
 (∀(j:Nat) x u,xs[j]?=some x→cs[j]?=some u→x=.v u)→(∀(j:Nat) x u,ys[j]?=some x→ds[j]?=some u→x=.v u) →
 (Op.equal t (.agg cs) (.agg ds)).run P w=.ok r w∧∀op x y,(eqGuard op t x y (.agg cs) (.agg ds)).run P w=.ok () w:=by
 intro t ks h xs ys r cs ds w he hc hd hx hy
 unfold a9z at h
 split at h
 · rename_i fs hu
   cases hg:P.stoodInHeld t||P.eqGuardType P.depth t with
   | true=>rw [hg] at h;cases h
   | false =>
     rw [hg] at h
     simp only [cond_false] at h
     simp only [Bool.or_eq_false_iff] at hg
     have hf:P.fieldsOf t=fs:=by simp [Program.fieldsOf,hu]
     refine ⟨?_,fun op x y=>run_eqGuard_agg w op t x y cs ds hg.2⟩
     simp only [Op.equal,Op.maxDepth]
     rw [run_equalIn_struct w 9999 t cs ds (by rw [hf];exact hu) hg.1,hf]
     refine a9a h he (fun j x hj=>?_) (fun j x hj=>?_)
     · have hlt:j < cs.size:=by have:=(List.getElem?_eq_some_iff.1 hj).1;omega
       exact ⟨cs[j],by simp [hlt],hx j x _ hj (by simp [hlt])⟩
     · have hlt:j < ds.size:=by have:=(List.getElem?_eq_some_iff.1 hj).1;omega
       exact ⟨ds[j],by simp [hlt],hy j x _ hj (by simp [hlt])⟩
 · cases h
end Go.Ev
