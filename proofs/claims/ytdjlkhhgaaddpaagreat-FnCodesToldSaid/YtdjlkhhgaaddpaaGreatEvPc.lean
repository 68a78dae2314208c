/- What is left of a state: fewer temporaries, fewer objects, under other names. -/
import Derived.Test.YtdjlkhhgaaddpaaGreatEvP
set_option linter.unusedSectionVars false
set_option linter.unusedVariables false
set_option linter.unusedSimpArgs false
namespace Go.Ev
open Go
open Classical
variable {E:Env} {w w' w0:World} {A0:Fix} {g g':Gh} {st st':St} {N:Nat} {pv:List Value} {a:Act}
def a7q (ρ:List (Option Nat)) (st':St) (j:Nat):Option Nat:=(List.range ρ.length).find? fun i=>gS ρ i==some j&&(st'.obj i).isSome
def Gh.ren (g:Gh) (ρ:List (Option Nat)) (st':St):Gh :=
 { β:=fun i=>match gS ρ i with | some j=>g.β j | none=>0,ω:=fun i=>match gS ρ i with | some j=>g.ω j | none=>0,sz:=fun i=>match gS ρ i with | some j=>g.sz j | none=>0,
   lab:=fun b=>(g.lab b).bind (a7q ρ st'),X:=g.X }
theorem a5c {x:Option Nat} {j:Nat} (hx:x=some j):∀{l:List (Option Nat)},a3v x l=true→∀i:Nat,l[i]?≠some (some j)
 | [],_,i,h=>by simp at h
 | y :: l,hf,0,h=>by
   simp only [a3v,Bool.and_eq_true] at hf
   simp at h
   subst hx h
   simp [Nat.beq_refl] at hf
 | y :: l,hf,i+1,h=>by
   simp only [a3v,Bool.and_eq_true] at hf
   exact a5c hx hf.2 i (by simpa using h)
theorem b5w:∀{ρ:List (Option Nat)},a3o ρ=true→∀i i' j,gS ρ i=some j→gS ρ i'=some j→i=i'
 | [],_,i,i',j,h,_=>by simp [gS] at h
 | x :: l,hn,i,i',j,h,h'=>by
   simp only [a3o,Bool.and_eq_true] at hn
   unfold gS at h h'
   have e:∀n:Nat,((x :: l)[n+1]?).join=some j→l[n]?=some (some j):=by
    intro n hn'
    simp only [List.getElem?_cons_succ] at hn'
    cases hl:l[n]? with
    | none=>rw [hl] at hn';cases hn'
    | some y=>rw [hl] at hn';simp at hn';rw [hn']
   cases i with
   | zero =>
     have hx:x=some j:=by simpa using h
     cases i' with
     | zero=>rfl
     | succ n=>exact absurd (e n h') (a5c hx hn.1 n)
   | succ m =>
     cases i' with
     | zero =>
       have hx:x=some j:=by simpa using h'
       exact absurd (e m h) (a5c hx hn.1 m)
     | succ n =>
       rw [b5w hn.2 m n j (by unfold gS;rw [e m h];rfl) (by unfold gS;rw [e n h'];rfl)]
theorem a4p {ρ:List (Option Nat)} {i j:Nat} (h:gS ρ i=some j):i < ρ.length:=by
 unfold gS at h
 cases hi:ρ[i]? with
 | none=>rw [hi] at h;cases h
 | some y=>exact (List.getElem?_eq_some_iff.1 hi).1
theorem a9c {ρ:List (Option Nat)} (hn:a3o ρ=true) {i j:Nat} (h:gS ρ i=some j) {ob:Ob} (ho:st'.obj i=some ob):a7q ρ st' j=some i:=by
 unfold a7q
 have hlt:=a4p h
 cases hf:(List.range ρ.length).find? fun i=>gS ρ i==some j&&(st'.obj i).isSome with
 | none =>
   have:=List.find?_eq_none.1 hf i (by simpa using hlt)
   simp [h,ho] at this
 | some i' =>
   have:=List.find?_some hf
   simp only [Bool.and_eq_true,beq_iff_eq] at this
   rw [b5w hn i' i j this.1 h]
theorem c2i {ρ:List (Option Nat)} {i j:Nat} (h:a7q ρ st' j=some i):gS ρ i=some j∧i < ρ.length∧∃ob,st'.obj i=some ob:=by
 unfold a7q at h
 have:=List.find?_some h
 simp only [Bool.and_eq_true,beq_iff_eq] at this
 exact ⟨this.1,a4p this.1,Option.isSome_iff_exists.1 this.2⟩
theorem a7e {ρ0:List (Option Nat)}:∀{l:List (Option Nat)} {m:List (Option Ob)},yG ρ0 st l m→m.length=l.length
 | [],[],_=>rfl
 | [],_ :: _,h=>h.elim
 | _ :: _,[],h=>h.elim
 | _ :: l,none :: m,h=>by
   have h:yG ρ0 st l m:=by simpa [yG] using h
   simp [a7e h]
 | _ :: l,some _ :: m,h=>by simp [a7e (l:=l) (m:=m) h.2]
theorem a7f {ρ0:List (Option Nat)}:∀{l:List (Option Nat)} {m:List (Option Ob)},yG ρ0 st l m→∀(i:Nat) ob,m[i]?=some (some ob)→∃x,l[i]?=some x∧c9c ρ0 st ob x
 | [],[],_,i,ob,h=>by simp at h
 | [],_ :: _,h,_,_,_=>h.elim
 | _ :: _,[],h,_,_,_=>h.elim
 | x :: l,none :: m,h,0,ob,hi=>by simp at hi
 | x :: l,none :: m,h,i+1,ob,hi=>by
   have h:yG ρ0 st l m:=by simpa [yG] using h
   simpa using a7f h i ob (by simpa using hi)
 | x :: l,some o :: m,h,0,ob,hi=>by simp at hi;subst hi;exact ⟨x,rfl,h.1⟩
 | x :: l,some o :: m,h,i+1,ob,hi=>by simpa using a7f (l:=l) (m:=m) h.2 i ob (by simpa using hi)
section
variable {ρ:List (Option Nat)} (hn:a3o ρ=true) (hob:yG ρ st ρ st'.ob)
include hn hob
theorem b2b {i:Nat} {ob:Ob} (h:st'.obj i=some ob):(∃j ob1,gS ρ i=some j∧st.obj j=some ob1∧ob1.box=ob.box∧ob1.k=ob.k∧a7d ρ ob.box ob.rows ob1.rows∧ob1.rows.length=ob.rows.length)∨(gS ρ i=none∧ob.box=false∧ob.rows=[]):=by
 have hg:st'.ob[i]?=some (some ob):=by
  unfold St.obj at h
  cases hx:st'.ob[i]? with
  | none=>rw [hx] at h;cases h
  | some y=>rw [hx] at h;simp at h;subst h;rfl
 obtain ⟨x,h1,h2⟩:=a7f hob i ob hg
 cases x with
 | none=>exact .inr ⟨by simp [gS,h1],h2⟩
 | some j =>
   refine .inl ⟨j,?_⟩
   simp only [c9c] at h2
   split at h2
   · rename_i ob1 ho1
     obtain ⟨q1,q2,q3⟩:=h2
     refine ⟨ob1,by simp [gS,h1],ho1,q1,q2,q3,?_⟩
     unfold a7d at q3
     split at q3
     · split at q3
       · rename_i hr1 hr2;simp_all
       · exact q3.elim
     · rw [q3]
   · exact h2.elim
theorem a8j:st'.ob.length=ρ.length:=a7e hob
theorem d0q {b:Nat} (h:g.A b):(g.ren ρ st').A b:=⟨by simp [Gh.ren,h.1],h.2⟩
theorem a8c {b i j:Nat} (h:g.lab b=some j) (hr:gS ρ i=some j) {ob:Ob} (ho:st'.obj i=some ob):(g.ren ρ st').lab b=some i:=by
 simp only [Gh.ren,h,Option.bind_some]
 exact a9c hn hr ho
omit hn hob in
theorem a9l {b i:Nat} (h:(g.ren ρ st').lab b=some i):∃j,g.lab b=some j∧gS ρ i=some j∧i < ρ.length∧∃ob,st'.obj i=some ob:=by
 simp only [Gh.ren] at h
 cases hb:g.lab b with
 | none=>rw [hb] at h;cases h
 | some j=>rw [hb] at h;exact ⟨j,rfl,c2i h⟩
theorem c5u {x:Value} {y:T} (h:Fz w g.A x y):Fz w (g.ren ρ st').A x y:=h.mono (fun _ hb _=>⟨d0q hn hob hb,rfl⟩)
theorem dM.cut {t o:T} {v:Value} (h:dM w g st o v) (ht:eqL ρ t o):dM w (g.ren ρ st') st' t v:=by
 match t,ht with
 | .v x,ht=>rw [show o=_ from ht] at h;exact h
 | .h,_=>exact trivial
 | .s true k rows,ht=>rw [show o=_ from ht] at h;exact h
 | .s false k rows,ht =>
   have ht:eqS k rows o:=ht
   cases o with
   | s b k2 rows2 =>
     cases b with
     | true =>
       have ht:rows=[]:=ht
       obtain ⟨_,ad,rfl⟩:=(show rows2=[]∧∃a,v=.slice a 0 0 from h)
       subst ht
       exact Fz.nil _ _ false k
     | false=>rw [show T.s false k2 rows2=_ from ht] at h;exact c5u hn hob h
   | v _=>cases (show (T.v _)=.s false k rows from ht)
   | n _ _ _ _ _=>cases (show (T.n _ _ _ _ _)=.s false k rows from ht)
   | p _ _ _ _ _=>cases (show (T.p _ _ _ _ _)=.s false k rows from ht)
   | q _ _ _ _=>cases (show (T.q _ _ _ _)=.s false k rows from ht)
   | c _ _=>cases (show (T.c _ _)=.s false k rows from ht)
   | b _=>cases (show (T.b _)=.s false k rows from ht)
   | h=>cases (show T.h=.s false k rows from ht)
 | .q k rows row off,ht=>rw [show o=_ from ht] at h;exact c5u hn hob h
 | .n i p ep lo len,ht =>
   cases p with
   | cons x y =>
     exfalso
     have ht:eqN ρ i (x :: y) ep lo len (gS ρ i) o:=ht
     cases hr:gS ρ i with
     | some j =>
       rw [hr] at ht
       cases o with
       | n j' p' ep' lo' len' =>
         cases p' with
         | nil=>cases ht.2.1
         | cons _ _=>exact ht.elim
       | _=>exact ht.elim
     | none =>
       rw [hr] at ht
       cases o with
       | s b k rows =>
         cases b with
         | false=>exact ht.elim
         | true=>cases ht.2.2.1
       | _=>exact ht.elim
   | nil =>
     have ht:eqN ρ i [] ep lo len (gS ρ i) o:=ht
     cases hr:gS ρ i with
     | some j =>
       rw [hr] at ht
       cases o with
       | n j' p' ep' lo' len' =>
         cases p' with
         | cons _ _=>exact ht.elim
         | nil =>
         obtain ⟨rfl,_,rfl,rfl,rfl⟩:=ht
         obtain ⟨h1,h2⟩:=(show dM w g st (.n j' [] ep' lo' len') v from h)
         refine ⟨by rw [a8j hn hob];exact a4p hr,fun ob ho=>?_⟩
         rcases b2b hn hob ho with ⟨j,ob1,q1,q2,q3,q4,q5,q6⟩ | ⟨q1,_⟩
         · rw [hr] at q1;cases q1
           obtain ⟨h3,hwh,a',c,h4,h5,h6,h7⟩:=h2 ob1 q2
           refine ⟨q3 ▸ h3,q6 ▸ hwh,a',c,h4,h5,q6 ▸ h6,h7.imp (fun h=>h) fun h=>?_⟩
           simp only [Gh.ren,hr]
           exact ⟨by rw [←q4];exact h.1,by rw [h.2.1];exact a9c hn hr ho,by rw [←q4];exact h.2.2⟩
         · rw [hr] at q1;cases q1
       | _=>exact ht.elim
     | none =>
       rw [hr] at ht
       cases o with
       | s b k rows =>
         cases b with
         | false=>exact ht.elim
         | true =>
           obtain ⟨q1,rfl,_,rfl,rfl⟩:=ht
           obtain ⟨_,ad,rfl⟩:=(show dM w g st (.s true k []) v from h)
           refine ⟨by rw [a8j hn hob];exact (by simpa [Nat.blt_eq] using q1),fun ob ho=>?_⟩
           rcases b2b hn hob ho with ⟨j,ob1,q1,_⟩ | ⟨_,q2,q3⟩
           · rw [hr] at q1;cases q1
           · exact ⟨q2,(fun _=>⟨rfl,by rw [q3];rfl⟩),ad,0,rfl,Nat.le_refl _,by simp,.inl rfl⟩
       | _=>exact ht.elim
 | .p i p ep row off,ht =>
   cases p with
   | cons _ _=>exact trivial
   | nil =>
     have ht:eqP [] row off (gS ρ i) o:=ht
     cases hr:gS ρ i with
     | none=>rw [hr] at ht;cases o <;> exact ht.elim
     | some j =>
       rw [hr] at ht
       cases o with
       | p j' p' ep' row' off' =>
         obtain ⟨rfl,rfl,rfl,rfl⟩:=ht
         obtain ⟨h1,h2⟩:=(show dM w g st (.p j' [] ep' row' off') v from h)
         refine ⟨by rw [a8j hn hob];exact a4p hr,fun ob ho=>?_⟩
         rcases b2b hn hob ho with ⟨j,ob1,q1,q2,q3,q4,q5,q6⟩ | ⟨q1,_⟩
         · rw [hr] at q1;cases q1
           obtain ⟨h3,h4,h5⟩:=h2 ob1 q2
           refine ⟨?_,?_,q6 ▸ h5⟩
           · simp only [Gh.ren,hr];rw [←q4];exact h3
           · have e:(g.ren ρ st').β i=g.β j':=by simp only [Gh.ren,hr]
             rw [e]
             exact a8c hn hob h4 hr ho
         · rw [hr] at q1;cases q1
       | _=>exact ht.elim
 | .c f caps,ht=>exact ht.elim
 | .b row,ht=>exact ht.elim
omit hn hob in
theorem c0a:∀{l m:List T},c9d ρ l m→m.length=l.length∧∀(i:Nat) t,l[i]?=some t→∃o,m[i]?=some o∧eqL ρ t o
 | [],[],_=>⟨rfl,fun i t h=>by simp at h⟩
 | [],_ :: _,h=>h.elim
 | _ :: _,[],h=>h.elim
 | x :: l,y :: m,h=>by
   obtain ⟨q1,q2⟩:=c0a (l:=l) (m:=m) h.2
   refine ⟨by simp [q1],fun i t hi=>?_⟩
   cases i with
   | zero=>simp at hi;subst hi;exact ⟨y,rfl,h.1⟩
   | succ i=>simpa using q2 i t (by simpa using hi)
omit hn hob in
theorem a1d:∀{l m:List T},b4b ρ l m→m.length=l.length∧∀(i:Nat) t,l[i]?=some t→∃o,m[i]?=some o∧eqT ρ t o
 | [],[],_=>⟨rfl,fun i t h=>by simp at h⟩
 | [],_ :: _,h=>h.elim
 | _ :: _,[],h=>h.elim
 | x :: l,y :: m,h=>by
   obtain ⟨q1,q2⟩:=a1d (l:=l) (m:=m) h.2
   refine ⟨by simp [q1],fun i t hi=>?_⟩
   cases i with
   | zero=>simp at hi;subst hi;exact ⟨y,rfl,h.1⟩
   | succ i=>simpa using q2 i t (by simpa using hi)
theorem dU.cut {t o:T} {v:Value} (h:dU w g st o v) (ht:eqT ρ t o):dU w (g.ren ρ st') st' t v:=by
 refine ⟨h.1,?_⟩
 have h2:=h.2
 have leaf:(∀f caps,o≠.c f caps)→eqL ρ t o→dM w (g.ren ρ st') st' t v:=by
  intro ho ht
  refine dM.cut hn hob ?_ ht
  cases o with
  | c f caps=>exact absurd rfl (ho f caps)
  | _=>exact h2
 have noc:∀f caps,eqL ρ t (.c f caps)→t=.h:=by
  intro f caps ht
  cases t with
  | n i p ep lo len =>
    exfalso
    have ht:eqN ρ i p ep lo len (gS ρ i) (.c f caps):=ht
    cases hr:gS ρ i <;> rw [hr] at ht <;> exact ht
  | p i p ep row off =>
    exfalso
    have ht:eqP p row off (gS ρ i) (.c f caps):=ht
    cases hr:gS ρ i <;> rw [hr] at ht <;> exact ht
  | h=>rfl
  | v x=>cases (show (T.c f caps)=.v x from ht)
  | s b k rows =>
    cases b with
    | true=>cases (show (T.c f caps)=.s true k rows from ht)
    | false=>cases (show (T.c f caps)=.s false k rows from ht)
  | q k rows row off=>cases (show (T.c f caps)=.q k rows row off from ht)
  | c _ _=>exact ht.elim
  | b _=>exact ht.elim
 have both:(∀f caps,t≠.c f caps)→(∀(h:eqT ρ t o),eqL ρ t o)→c5h w (g.ren ρ st') st' t v:=by
  intro h1 h3
  have hl:=h3 ht
  cases o with
  | c f caps=>have:=noc f caps hl;subst this;exact trivial
  | _ =>
    have:=leaf (fun _ _ h=>by cases h) hl
    cases t with
    | c f caps=>exact absurd rfl (h1 f caps)
    | _=>exact this
 cases t with
 | c f caps =>
   cases o with
   | c f' caps' =>
     obtain ⟨rfl,ht⟩:=ht
     obtain ⟨cvs,h3,h4,h5⟩:=h2
     obtain ⟨q1,q2⟩:=c0a ht
     refine ⟨cvs,h3,h4.trans q1,fun i t u hi hu=>?_⟩
     obtain ⟨o,ho,hto⟩:=q2 i t hi
     exact ⟨(h5 i o u ho hu).1,dM.cut hn hob (h5 i o u ho hu).2 hto⟩
   | _=>exact ht.elim
 | _=>exact both (fun _ _ h=>by cases h) (fun h=>h)
theorem rO.cut {l m:List T} {cs:Array Value} (h:rO w g st m cs) (ht:b4b ρ l m):rO w (g.ren ρ st') st' l cs:=by
 obtain ⟨q1,q2⟩:=a1d ht
 refine ⟨h.1.trans q1,fun j t u hj hu=>?_⟩
 obtain ⟨o,ho,hto⟩:=q2 j t hj
 exact dU.cut hn hob (h.2 j o u ho hu) hto
theorem bL.cut {x o:AV} {v:Value} (h:bL w g st o v) (ht:c9e ρ x o):bL w (g.ren ρ st') st' x v:=by
 cases x with
 | one t =>
   cases o with
   | one o=>exact dU.cut hn hob h ht
   | lit b =>
     have ht:t=.v (.bool b):=ht
     subst ht
     cases (show v=.bool b from h)
     exact ⟨rfl,rfl⟩
   | _=>exact ht.elim
 | agg l =>
   cases o with
   | agg m=>obtain ⟨cs,h1,h2⟩:=h;exact ⟨cs,h1,rO.cut hn hob h2 ht⟩
   | _=>exact ht.elim
 | no=>exact trivial
 | tup l=>exact ht.elim
 | may _ _=>exact ht.elim
 | lit _=>exact ht.elim
end
theorem a8w {ρ:List (Option Nat)} {tm:List (Nat×AV)}:∀{l:List (Nat×AV)},c1m ρ tm l→∀k,iD l k=.no∨c9e ρ (iD l k) (iD tm k)
 | [],_,k=>.inl rfl
 | (j,x) :: l,h,k=>by
   simp only [iD]
   by_cases hjk:j=k
   · subst hjk
     simp only [beq_self_eq_true,cond_true]
     exact .inr h.1
   · have:(j==k)=false:=by simpa using hjk
     rw [this]
     exact a8w h.2 k
theorem c0g {ρ:List (Option Nat)} (h:RepSt w g st N pv a) (hF:Fr w0 A0 w g) (hc:uE ρ st st'):∃g',RepSt w g' st' N pv a∧Fr w0 A0 w g':=by
 obtain ⟨hn,c1,hob,c4⟩:=hc
 refine ⟨g.ren ρ st',⟨h.size,h.defers,fun k=>?_,fun id ob ho=>?_,fun b i hb=>?_,?_,fun i t u hi hu=>?_⟩,hF.os,hF.tape,hF.output,hF.size,hF.x,fun b hb hA=>⟨(hF.blk b hb hA).1,by simp [Gh.ren,(hF.blk b hb hA).2]⟩,hF.bs⟩
 · rcases a8w c1 k with h1 | h1
   · rw [h1];trivial
   · exact bL.cut hn hob (h.tm k) h1
 · rcases b2b hn hob ho with ⟨j,ob1,q1,q2,q3,q4,q5,q6⟩ | ⟨q1,q2,q3⟩
   · have hR:=h.ob j ob1 q2
     have eβ:(g.ren ρ st').β id=g.β j:=by simp only [Gh.ren,q1]
     have eω:(g.ren ρ st').ω id=g.ω j:=by simp only [Gh.ren,q1]
     have es:(g.ren ρ st').sz id=g.sz j:=by simp only [Gh.ren,q1]
     unfold fY at hR ⊢
     rw [q3] at hR
     rw [eβ,eω,es]
     cases hb:ob.box with
     | true =>
       rw [hb] at hR q5
       obtain ⟨cs,e,row,r1,r2,r3,r4,r5,r6,r7⟩:=hR
       simp only [a7d] at q5
       rw [r1] at q5
       split at q5
       · rename_i r r' he hr
         cases hr
         obtain ⟨l1,_⟩:=a1d q5
         exact ⟨cs,e,r,he,by rw [←q4,r2,l1],r3,a8c hn hob r4 q1 ho,r5,r6,rO.cut hn hob r7 q5⟩
       · exact q5.elim
     | false =>
       rw [hb] at hR q5
       simp only [a7d] at q5
       rw [q5,q4] at hR
       rcases hR with ⟨r1,r2⟩ | ⟨cs,e,vals,Sub,r1,r2,r3,r4,hM⟩
       · refine .inl ⟨r1,fun hh=>?_⟩
         obtain ⟨j',p1,p2,_⟩:=a9l hh
         rw [q1] at p2;cases p2
         exact r2 p1
       · exact .inr ⟨cs,e,vals,Sub,r1,a8c hn hob r2 q1 ho,r3,r4,hM.keeps (fun b hb _=>⟨d0q hn hob hb,rfl⟩) (fun x hx=>a8c hn hob hx q1 ho) (fun _ _ _ _=>rfl)⟩
   · unfold fY
     rw [q2]
     refine .inl ⟨q3,fun hh=>?_⟩
     obtain ⟨j',_,p2,_⟩:=a9l hh
     rw [q1] at p2;cases p2
 · obtain ⟨j,h1,h2,h3,_⟩:=a9l hb
   exact ⟨(h.lab b j h1).1,by rw [a8j hn hob];exact h3⟩
 · obtain ⟨l1,_⟩:=a1d c4
   rw [h.pr.1];exact l1.symm ▸ rfl
 · obtain ⟨_,l2⟩:=a1d c4
   obtain ⟨o,ho,hto⟩:=l2 i t hi
   exact dU.cut hn hob (h.pr.2 i o u ho hu) hto
end Go.Ev
