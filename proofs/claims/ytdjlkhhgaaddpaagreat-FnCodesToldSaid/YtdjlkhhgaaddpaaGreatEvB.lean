/- What a state says of a world. -/
import Derived.Test.YtdjlkhhgaaddpaaGreatEvA
set_option linter.unusedSectionVars false
set_option linter.unusedVariables false
set_option linter.unusedSimpArgs false
namespace Go.Ev
open Go
inductive Fz (w:World) (A:Nat→Prop):Value→T→Prop
 | v (x:Value) (h1:fit x=true):Fz w A x (.v x)
 | h (x:Value) (h1:fit x=true):Fz w A x .h
 | nil (a:Option Addr) (c:Nat) (o:Bool) (k:Nat):Fz w A (.slice a 0 c) (.s o k [])
 | s (b f c:Nat) (o:Bool) (k:Nat) (rows:List (List T)) (vals:Nat→Nat→Value) (hA:A b) (hb:b < w.heap.size) (hlc:rows.length≤c) (hln:Nat.ble rows.length 9223372036854775807=true)
     (hk:∀r∈rows,r.length=k) (hc:∀i j,i < rows.length→j < k→w.cell? ⟨b,f+i*k+j,none⟩=some (vals i j))
     (ht:∀(i j:Nat) (r:List T) (t:T),rows[i]?=some r→r[j]?=some t→Fz w A (vals i j) t):Fz w A (.slice (some ⟨b,f,none⟩) rows.length c) (.s o k rows)
 | q (b f:Nat) (k:Nat) (rows:List (List T)) (row off:Nat) (vals:Nat→Nat→Value) (hA:A b) (hb:b < w.heap.size) (hrr:row < rows.length)
     (hk:∀r∈rows,r.length=k) (hc:∀i j,i < rows.length→j < k→w.cell? ⟨b,f+i*k+j,none⟩=some (vals i j))
     (ht:∀(i j:Nat) (r:List T) (t:T),rows[i]?=some r→r[j]?=some t→Fz w A (vals i j) t):Fz w A (.pointer (some ⟨b,f+row*k+off,none⟩)) (.q k rows row off)
 | c (g:Nat) (caps:List T) (cvs:Array Value) (hl:cvs.size=caps.length) (ht:∀(i:Nat) (t:T) (v:Value),caps[i]?=some t→cvs[i]?=some v→Fz w A v t):Fz w A (.func (.func g) #[] cvs) (.c g caps)
theorem Fz.mono {w w':World} {A A':Nat→Prop} (hA:∀b,A b→b < w.heap.size→A' b∧w'.heap[b]?=w.heap[b]?) {v:Value} {t:T} (h:Fz w A v t):Fz w' A' v t:=by
 induction h with
 | v x h1=>exact .v x h1
 | h x h1=>exact .h x h1
 | nil a c o k=>exact .nil a c o k
 | s b f c o k rows vals hb1 hb hlc hln hk hc ht ih =>
   obtain ⟨h1,h2⟩:=hA b hb1 hb
   refine .s b f c o k rows vals h1 ?_ hlc hln hk (fun i j hi hj=>?_) ih
   · have:=Array.getElem?_eq_some_iff.1 (h2.trans (Array.getElem?_eq_getElem hb));exact this.1
   · rw [World.cell?_of_block (w:=w) (a:=⟨b,f+i*k+j,none⟩) h2];exact hc i j hi hj
 | q b f k rows row off vals hb1 hb hrr hk hc ht ih =>
   obtain ⟨h1,h2⟩:=hA b hb1 hb
   refine .q b f k rows row off vals h1 ?_ hrr hk (fun i j hi hj=>?_) ih
   · have:=Array.getElem?_eq_some_iff.1 (h2.trans (Array.getElem?_eq_getElem hb));exact this.1
   · rw [World.cell?_of_block (w:=w) (a:=⟨b,f+i*k+j,none⟩) h2];exact hc i j hi hj
 | c g caps cvs hl ht ih=>exact .c g caps cvs hl ih
inductive Ow (w:World) (A:Nat→Prop):(Nat→Prop)→Value→T→Prop
 | v (S:Nat→Prop) (x:Value) (h1:fit x=true):Ow w A S x (.v x)
 | h (S:Nat→Prop) (x:Value) (h1:fit x=true):Ow w A S x .h
 | f (S:Nat→Prop) (x:Value) (k:Nat) (rows:List (List T)) (hf:Fz w A x (.s false k rows)):Ow w A S x (.s false k rows)
 | nil (S:Nat→Prop) (a:Option Addr) (k:Nat):Ow w A S (.slice a 0 0) (.s true k [])
 | s (S:Nat→Prop) (b f c k:Nat) (rows:List (List T)) (vals:Nat→Nat→Value) (Sub:Nat→Nat→Nat→Prop) (cs:Array Value) (e:TypeId)
     (hS:S b) (hh:w.heap[b]?=some (.cells cs e (0,0))) (hc:f+c*k≤cs.size) (hl:rows.length≤c) (hln:Nat.ble rows.length 9223372036854775807=true) (hk:∀r∈rows,r.length=k)
     (hv:∀i j,i < rows.length→j < k→cs[f+i*k+j]?=some (vals i j))
     (ht:∀(i j:Nat) (r:List T) (t:T),rows[i]?=some r→r[j]?=some t→Ow w A (Sub i j) (vals i j) t)
     (hd:∀i j i' j' x,Sub i j x→Sub i' j' x→i=i'∧j=j') (hs:∀i j x,Sub i j x→S x∧x≠b):Ow w A S (.slice (some ⟨b,f,none⟩) rows.length c) (.s true k rows)
theorem Ow.mono {w w':World} {A A':Nat→Prop} (hA:∀b,A b→b < w.heap.size→A' b∧w'.heap[b]?=w.heap[b]?) {S:Nat→Prop} {v:Value} {t:T} (h:Ow w A S v t) :
 ∀{S':Nat→Prop},(∀b,S b→b < w.heap.size→S' b∧w'.heap[b]?=w.heap[b]?)→Ow w' A' S' v t:=by
 induction h with
 | v S x h1=>intro S' _;exact .v S' x h1
 | h S x h1=>intro S' _;exact .h S' x h1
 | f S x k rows hf=>intro S' _;exact .f S' x k rows (hf.mono hA)
 | nil S a k=>intro S' _;exact .nil S' a k
 | s S b f c k rows vals Sub cs e hS hh hc hl hln hk hv ht hd hs ih =>
   intro S' hSS
   have hb:b < w.heap.size:=(Array.getElem?_eq_some_iff.1 hh).1
   obtain ⟨h1,h2⟩:=hSS b hS hb
   refine .s S' b f c k rows vals (fun i j x=>Sub i j x∧x < w.heap.size) cs e h1 (h2.trans hh) hc hl hln hk hv (fun i j r t hr ht'=>ih i j r t hr ht' (fun x hx hlt=>⟨⟨hx,hlt⟩,(hSS x (hs i j x hx).1 hlt).2⟩))
    (fun i j i' j' x h h'=>hd i j i' j' x h.1 h'.1) (fun i j x h=>⟨(hSS x (hs i j x h.1).1 h.2).1,(hs i j x h.1).2⟩)
theorem Ow.weak {w:World} {A S S':Nat→Prop} {v:Value} {t:T} (h:Ow w A S v t) (hS:∀b,S b→S' b):Ow w A S' v t :=
 h.mono (fun _ hb _=>⟨hb,rfl⟩) (fun b hb _=>⟨hS b hb,rfl⟩)
theorem a9v:∀{l:List T} (j:Nat),(jQ l)[j]?=(l[j]?).map frz
 | [],j=>by simp [jQ]
 | t :: l,0=>by simp [jQ]
 | t :: l,j+1=>by simp [jQ,a9v j]
theorem a2e:∀{l:List (List T)} (j:Nat),(cK l)[j]?=(l[j]?).map jQ
 | [],j=>by simp [cK]
 | t :: l,0=>by simp [cK]
 | t :: l,j+1=>by simp [cK,a2e j]
theorem a9u:∀(l:List T),(jQ l).length=l.length
 | []=>rfl
 | t :: l=>by simp [jQ,a9u l]
theorem wE:∀(l:List (List T)),(cK l).length=l.length
 | []=>rfl
 | t :: l=>by simp [cK,wE l]
theorem b6f {α:Type} (f:α→List T) (l:List α):cK (l.map f)=l.map fun a=>jQ (f a):=by
 induction l with
 | nil=>rfl
 | cons a l ih=>simp [cK,ih]
theorem Fz.frz {w:World} {A:Nat→Prop} {v:Value} {t:T} (h:Fz w A v t):Fz w A v (frz t):=by
 induction h with
 | v x h1=>exact .v x h1
 | h x h1=>exact .h x h1
 | nil a c o k=>exact .nil a c false k
 | s b f c o k rows vals hA hb hlc hln hk hc ht ih =>
   have:=Fz.s (w:=w) (A:=A) b f c false k (cK rows) vals hA hb (by rw [wE];exact hlc) (by rw [wE];exact hln) (fun r hr=>?_) (fun i j hi hj=>hc i j (by rw [wE] at hi;exact hi) hj) (fun i j r t hr ht'=>?_)
   · rw [wE] at this;exact this
   · obtain ⟨i,hi⟩:=List.getElem?_of_mem hr
     rw [a2e] at hi
     cases hr':rows[i]? with
     | none=>rw [hr'] at hi;cases hi
     | some r'=>rw [hr'] at hi;cases hi;rw [a9u];exact hk _ (List.mem_of_getElem? hr')
   · rw [a2e] at hr
     cases hr':rows[i]? with
     | none=>rw [hr'] at hr;cases hr
     | some r' =>
       rw [hr'] at hr;cases hr
       rw [a9v] at ht'
       cases ht2:r'[j]? with
       | none=>rw [ht2] at ht';cases ht'
       | some t2=>rw [ht2] at ht';cases ht';exact ih i j r' t2 hr' ht2
 | q b f k rows row off vals hb1 hb hrr hk hc ht ih=>exact .q b f k rows row off vals hb1 hb hrr hk hc ht
 | c g caps cvs hl ht ih=>exact .c g caps cvs hl ht
theorem Fz.one {w:World} {A:Nat→Prop} {v:Value} {t:T} (h:Fz w A v t):fit v=true:=by cases h <;> first | rfl | assumption
theorem Ow.one {w:World} {A S:Nat→Prop} {v:Value} {t:T} (h:Ow w A S v t):fit v=true:=by
 induction h with
 | v S x h1=>exact h1
 | h S x h1=>exact h1
 | f S x k rows hf=>exact hf.one
 | nil S a k=>rfl
 | s S b f c k rows vals Sub cs e hS hh hc hl hln=>exact hln
theorem Ow.fz {w:World} {A A' S:Nat→Prop} (hA:∀b,A b→A' b) {v:Value} {t:T} (h:Ow w A S v t):(∀b,S b→A' b)→Fz w A' v t:=by
 induction h with
 | v S x h1=>intro _;exact .v _ h1
 | h S x h1=>intro _;exact .h _ h1
 | f S x k rows hf=>intro _;exact hf.mono (fun b hb _=>⟨hA b hb,rfl⟩)
 | nil S a k=>intro _;exact .nil _ _ _ _
 | s S b f c k rows vals Sub cs e hS hh hc hl hln hk hv ht hd hs ih =>
   intro hSA
   refine .s b f c true k rows vals (hSA b hS) (Array.getElem?_eq_some_iff.1 hh).1 hl hln hk (fun i j hi hj=>?_) (fun i j r t hr ht'=>ih i j r t hr ht' (fun x hx=>hSA x (hs i j x hx).1))
   simp [World.cell?,hh,hv i j hi hj]
theorem Ow.frz {w:World} {A A' S S':Nat→Prop} {v:Value} {t:T} (hA:∀b,A b→A' b) (hS:∀b,S b→A' b) (h:Ow w A S v t):Ow w A' S' v (frz t):=by
 have hf:=(Ow.fz hA h hS).frz
 cases h with
 | v _ _ h1=>exact .v _ _ h1
 | h _ _ h1=>exact .h _ _ h1
 | f=>exact .f _ _ _ _ hf
 | nil=>exact .f _ _ _ _ hf
 | s=>exact .f _ _ _ _ hf
theorem b1v:∀l:List (List T),cK l=l.map jQ
 | []=>rfl
 | r :: l=>by rw [cK,b1v l];rfl
theorem FzX.ow {w:World} {A S:Nat→Prop} {v:Value} {t t':T} (x:FzX t t') (h:Ow w A S v t):∃S':Nat→Prop,(∀b,S' b→S b)∧Ow w (fun b=>A b∨(S b∧¬S' b)) S' v t':=by
 cases x with
 | same=>exact ⟨S,fun _ h=>h,h.mono (fun b hb _=>⟨.inl hb,rfl⟩) (fun b hb _=>⟨hb,rfl⟩)⟩
 | sl o k rows rows' e =>
   subst e
   refine ⟨fun _=>False,fun _ h=>h.elim,?_⟩
   exact Ow.frz (t:=.s o k rows) (fun b hb=>.inl hb) (fun b hb=>.inr ⟨hb,fun h=>h⟩) h
 | inn k rows rows' e =>
   subst e
   cases h with
   | nil=>exact ⟨fun _=>False,fun _ h=>h.elim,.nil _ _ _⟩
   | s S b f c k rows vals Sub cs e hS hh hc hl hln hk hv ht hd hs =>
     refine ⟨fun x=>x=b,fun x hx=>by subst hx;exact hS,?_⟩
     have hlen:(cK rows).length=rows.length:=wE rows
     rw [←hlen]
     refine .s _ b f c k (cK rows) vals (fun _ _ _=>False) cs e rfl hh hc (by rw [hlen];exact hl) (by rw [hlen];exact hln) (fun r hr=>?_) (fun i j hi hj=>hv i j (by rw [←hlen];exact hi) hj) (fun i j r t hr hj=>?_) (fun _ _ _ _ _ h=>h.elim) (fun _ _ _ h=>h.elim)
     · rw [b1v] at hr
       obtain ⟨r0,hr0,rfl⟩:=List.mem_map.1 hr
       rw [a9u];exact hk r0 hr0
     · rw [a2e] at hr
       cases h0:rows[i]? with
       | none=>rw [h0] at hr;cases hr
       | some r0 =>
         rw [h0] at hr;cases hr
         rw [a9v] at hj
         cases h1:r0[j]? with
         | none=>rw [h1] at hj;cases hj
         | some t0 =>
           rw [h1] at hj;cases hj
           exact Ow.frz (fun x hx=>.inl hx) (fun x hx=>.inr (hs i j x hx)) (ht i j r0 t0 h0 h1)
theorem FzXs.ow {w:World} {A:Nat→Prop}:∀{l l':List T} {us:List Value} {Sub:Nat→Nat→Prop},FzXs l l'→us.length=l.length→(∀(j:Nat) t u,l[j]?=some t→us[j]?=some u→Ow w A (Sub j) u t) →
 l'.length=l.length∧∃Sub':Nat→Nat→Prop,(∀j b,Sub' j b→Sub j b)∧∀(j:Nat) t u,l'[j]?=some t→us[j]?=some u→Ow w (fun b=>A b∨∃i,Sub i b∧¬Sub' i b) (Sub' j) u t
 | l,_,us,Sub,.same _,_,h=>⟨rfl,Sub,fun _ _ h=>h,fun j t u ht hu=>(h j t u ht hu).mono (fun b hb _=>⟨.inl hb,rfl⟩) (fun b hb _=>⟨hb,rfl⟩)⟩
 | _,_,[],Sub,.cons x xs,hl,h=>by simp at hl
 | _,_,u :: us,Sub,.cons x xs,hl,h=>by
   obtain ⟨S',q1,q2⟩:=x.ow (h 0 _ u rfl rfl)
   obtain ⟨e,Sub',q3,q4⟩:=FzXs.ow (us:=us) (Sub:=fun j=>Sub (j+1)) xs (by simpa using hl) (fun j t u ht hu=>h (j+1) t u (by simpa using ht) (by simpa using hu))
   refine ⟨by simp [e],fun j=>match j with | 0=>S' | j+1=>Sub' j,fun j b hb=>?_,fun j t v ht hv=>?_⟩
   · cases j with
     | zero=>exact q1 b hb
     | succ j=>exact q3 j b hb
   · cases j with
     | zero =>
       simp at ht hv
       subst ht hv
       exact q2.mono (fun b hb _=>⟨hb.imp id (fun hh=>⟨0,hh⟩),rfl⟩) (fun b hb _=>⟨hb,rfl⟩)
     | succ j=>exact (q4 j t v (by simpa using ht) (by simpa using hv)).mono (fun b hb _=>⟨hb.imp id (fun ⟨i,hh⟩=>⟨i+1,hh⟩),rfl⟩) (fun b hb _=>⟨hb,rfl⟩)
end Go.Ev
