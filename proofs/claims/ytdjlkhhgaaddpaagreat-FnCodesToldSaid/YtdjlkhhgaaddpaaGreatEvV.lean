/- What an input reads as, as trees. -/
import Derived.Test.YtdjlkhhgaaddpaaGreatEvRm
import Derived.Below
set_option linter.unusedSectionVars false
set_option linter.unusedVariables false
set_option linter.unusedSimpArgs false
namespace Go.Ev
open Go
open Classical
def a3l (P:Program):List Field→Nat→Nat→Bool
 | [],o,n=>o==n
 | f :: fs,o,n=>f.offset==o&&a3l P fs (o+P.cellsOf f.type) n
def okT (P:Program):Nat→Nat→Bool
 | 0,_=>false
 | n+1,t=>match P.underlying t with
   | some .bool=>true
   | some (.int _)=>true
   | some .string=>true
   | some (.slice e)=>okT P n e&&Nat.ble 1 (P.cellsOf e)
   | some (.struct fs)=>a3l P fs.toList 0 (P.cellsOf t)&&fs.toList.all fun f=>okT P n f.type
   | _=>false
def c1o (S:Nat→List T→Prop):List Field→List T→Prop
 | [],l=>l=[]
 | f :: fs,l=>∃l1 l2,l=l1++l2∧S f.type l1∧c1o S fs l2
def pG (P:Program):Nat→Nat→List T→Prop
 | 0,_,_=>False
 | n+1,t,l=>match P.underlying t with
   | some .bool=>∃b,l=[.v (.bool b)]
   | some (.int k)=>∃x,l=[.v (.int k x)]∧(Lit.int k x).wf=true
   | some .string=>∃s,l=[.v (.string s)]∧s.size≤maxLen
   | some (.slice e)=>∃rows,l=[.s false (P.cellsOf e) rows]∧rows.length≤maxLen∧∀r∈rows,r.length=P.cellsOf e∧pG P n e r
   | some (.struct fs)=>c1o (pG P n) fs.toList l
   | _=>False
theorem b3w {α β:Type} {f:α→Option β}:∀{l:List α} {r:List β},l.mapM f=some r→r.length=l.length∧∀(i:Nat) x,l[i]?=some x→∃y,r[i]?=some y∧f x=some y
 | [],r,h=>by
   simp at h
   subst h
   exact ⟨rfl,fun i x hi=>by simp at hi⟩
 | a :: l,r,h=>by
   rw [List.mapM_cons] at h
   cases ha:f a with
   | none=>rw [ha] at h;cases h
   | some y =>
     rw [ha] at h
     cases hl:l.mapM f with
     | none=>rw [hl] at h;cases h
     | some ys =>
       rw [hl] at h
       cases h
       obtain ⟨q1,q2⟩:=b3w hl
       refine ⟨by simp [q1],fun i x hi=>?_⟩
       cases i with
       | zero=>simp at hi;subst hi;exact ⟨y,rfl,ha⟩
       | succ i=>simpa using q2 i x (by simpa using hi)
variable {H:Type} {enc:TypeId×Value→H} {P:Program} {w:World} {sp:Nat→Bool} {held:Bool}
theorem a2h {base:Nat} {x:Addr} {n:Nat} {us:List Value} (h:w.cells? base x n=some us):us.length=n∧∀(j:Nat),j < n→∃u,us[j]?=some u∧w.cell? (x.add j)=some u:=by
 unfold World.cells? at h
 split at h
 · obtain ⟨q1,q2⟩:=b3w h
   refine ⟨by simpa using q1,fun j hj=>?_⟩
   obtain ⟨y,h1,h2⟩:=q2 j j (by simp [hj])
   exact ⟨y,h1,h2⟩
 · cases h
def InW (w:World):Nat→Prop:=fun b=>b < w.heap.size
theorem a6k {n:Nat} {F:Nat→List Value→Option (DataW H×List MemPlace)} {cs:List Value} {tot:Nat} (hcs:cs.length=tot) :
 ∀(fs:List Field) (o:Nat) (xs:List (DataW H×List MemPlace)),a3l P fs o tot=true→(fs.mapM fun f=>F f.type ((cs.drop f.offset).take (P.cellsOf f.type)))=some xs →
  (∀f∈fs,∀cs y,F f.type cs=some y→∃l,l.length=cs.length∧pG P n f.type l∧∀(j:Nat) x u,l[j]?=some x→cs[j]?=some u→Fz w (InW w) u x) →
  o≤tot∧∃l,l.length=tot - o∧c1o (pG P n) fs l∧∀(j:Nat) x u,l[j]?=some x→cs[o+j]?=some u→Fz w (InW w) u x
 | [],o,xs,hp,hm,hF=>by
   have:o=tot:=by simpa [a3l] using hp
   subst this
   exact ⟨Nat.le_refl _,[],by simp,rfl,fun j x u hj=>by simp at hj⟩
 | f :: fs,o,xs,hp,hm,hF=>by
   simp only [a3l,Bool.and_eq_true,beq_iff_eq] at hp
   obtain ⟨rfl,hp⟩:=hp
   rw [List.mapM_cons] at hm
   cases ha:F f.type ((cs.drop f.offset).take (P.cellsOf f.type)) with
   | none=>rw [ha] at hm;cases hm
   | some y =>
     rw [ha] at hm
     cases hl:fs.mapM fun f=>F f.type ((cs.drop f.offset).take (P.cellsOf f.type)) with
     | none=>rw [hl] at hm;cases hm
     | some ys =>
       obtain ⟨hle,l2,q1,q2,q3⟩:=a6k hcs fs _ ys hp hl (fun f' hf'=>hF f' (by simp [hf']))
       obtain ⟨l1,p1,p2,p3⟩:=hF f (by simp) _ _ ha
       have hlen:l1.length=P.cellsOf f.type:=by rw [p1];simp;omega
       refine ⟨by omega,l1++l2,by simp [hlen,q1];omega,⟨l1,l2,rfl,p2,q2⟩,fun j x u hj hu=>?_⟩
       by_cases hlt:j < l1.length
       · rw [List.getElem?_append_left hlt] at hj
         refine p3 j x u hj ?_
         rw [List.getElem?_take,if_pos (by omega),List.getElem?_drop]
         exact hu
       · rw [List.getElem?_append_right (by omega)] at hj
         refine q3 (j - l1.length) x u hj ?_
         rw [←hlen]
         rw [show f.offset+l1.length+(j - l1.length)=f.offset+j by omega]
         exact hu
end Go.Ev
