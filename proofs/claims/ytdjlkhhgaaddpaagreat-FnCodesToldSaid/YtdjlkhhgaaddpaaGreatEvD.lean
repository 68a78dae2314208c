/- Operations that turn nothing. -/
import Derived.Test.YtdjlkhhgaaddpaaGreatEvC
import Derived.Laws.Strings
set_option linter.unusedSectionVars false
set_option linter.unusedVariables false
set_option linter.unusedSimpArgs false
namespace Go.Ev
open Go
structure TIok (P:Program) (t:Nat) (ti:TI):Prop where
 size:∀w,(sizeOf t).run P w=.ok ti.size w
 agg:∀w,(isAgg t).run P w=.ok (ti.kind==1) w
 pos:ti.kind=1→0 < ti.size
 zero:∃z:Value,(∀w,(zeroValue t).run P w=.ok z w)∧z.cells.size=ti.size∧ti.zero.length=ti.size ∧
  ∀(j:Nat) u tt,z.cells[j]?=some u→ti.zero[j]?=some tt→fit u=true∧(tt=.v u∨∃k,tt=.s true k []∧u=.slice none 0 0)
 info:∃i,P.info? t=some i∧i.bytes=ti.bytes∧i.size=ti.size∧∃z,i.zero=some z
 struct:ti.kind=1→∃fs:Array Field,P.underlying t=some (.struct fs)∧fs.size=ti.offs.length ∧
  fs.toList.mapM (fun f=>(P.info? f.type).map fun i=>(f.offset,i.size))=some (ti.offs.zip ti.fsz) ∧
  ∀(f:Nat) fd,fs[f]?=some fd→fd.offset=ti.offs.getD f 0∧∃n,n≠0∧∀w,(sizeOf fd.type).run P w=.ok n w
 string:ti.kind=4→P.underlying t=some .string
 int:∀k,ti.ik=some k→P.underlying t=some (.int k)
 bool:ti.kind=3→P.underlying t=some .bool
 slice:ti.kind=2→P.underlying t=some (.slice ti.elem)∧∀w,(sizeOf ti.elem).run P w=.ok ti.esz w
structure EnvOk (E:Env):Prop where
 ti:∀t ti,E.tab t=some ti→TIok E.P t ti
 eq:∀t ks,E.eqt t=some ks→∀xs ys r (cs ds:Array Value) w,lQ ks xs ys=some r→cs.size=xs.length→ds.size=ys.length →
  (∀(j:Nat) x u,xs[j]?=some x→cs[j]?=some u→x=.v u)→(∀(j:Nat) x u,ys[j]?=some x→ds[j]?=some u→x=.v u) →
  (Op.equal t (.agg cs) (.agg ds)).run E.P w=.ok r w∧∀op x y,(eqGuard op t x y (.agg cs) (.agg ds)).run E.P w=.ok () w
variable {E:Env} {w:World} {g:Gh} {st:St} {N:Nat} {pv:List Value} {a:Act}
theorem Sem.run_bind_ok {α β:Type} {P:Program} {s:Sem α} {k:α→Sem β} {w w':World} {x:α} (h:s.run P w=.ok x w'):(s >>= k).run P w=(k x).run P w':=by
 simp [h]
theorem iQ (h:RepSt w g st N pv a) (x:Operand):bL w g st (st.ev x) (a.eval x):=by
 cases x with
 | tmp t=>exact h.tm t
 | const v =>
   cases v with
   | bool b=>exact rfl
   | agg cs =>
     by_cases hc:cs.all fit=true
     · simp only [St.ev,hc,cond_true]
       refine ⟨cs,rfl,by simp,fun j t u hj hu=>?_⟩
       have hu':cs.toList[j]?=some u:=by simpa using hu
       simp only [List.getElem?_map,hu',Option.map_some,Option.some.injEq] at hj
       subst hj
       exact ⟨Array.all_eq_true_iff_forall_mem.1 hc u (by simpa using List.mem_of_getElem? hu'),rfl⟩
     · have hc:cs.all fit=false:=by simpa using hc
       simp only [St.ev,hc,cond_false]
       exact trivial
   | string s =>
     show bL w g st (bif fit (.string s) then .one (.v (.string s)) else .no) (.string s)
     cases hf:fit (.string s) with
     | true=>exact ⟨hf,rfl⟩
     | false=>exact trivial
   | slice x n c =>
     show bL w g st (bif fit (.slice x n c) then .one (.v (.slice x n c)) else .no) (.slice x n c)
     cases hf:fit (.slice x n c) with
     | true=>exact ⟨hf,rfl⟩
     | false=>exact trivial
   | int k n =>
     show bL w g st (bif fit (.int k n) then .one (.v (.int k n)) else .no) (.int k n)
     cases hf:fit (.int k n) with
     | true=>exact ⟨hf,rfl⟩
     | false=>exact trivial
   | _=>first | exact ⟨rfl,rfl⟩ | exact trivial
 | global g=>exact trivial
 | func f=>exact ⟨rfl,#[],rfl,rfl,fun i t u hi=>by simp at hi⟩
theorem jM (h:RepSt w g st N pv a) (x:Operand):bL w g st (st.evn x) (a.eval x):=(iQ h x).nl
def Up (w w':World):Prop:=∀b,b < w.heap.size→w'.heap[b]?=w.heap[b]?
theorem Up.refl (w:World):Up w w:=fun _ _=>rfl
theorem Up.cell {w w':World} (h:Up w w') {x:Addr} {u:Value} (hc:w.cell? x=some u):w'.cell? x=some u:=by
 have hb:=block_lt_of_cell hc
 rw [World.cell?_of_block (h _ hb)];exact hc
def Ans (P:Program) (w:World) (g:Gh) (st:St) (gd:Bool) (s:Sem Value) (K:AV→Prop):Prop :=
 ∃av,K av∧(gd=true→∃v,(∀w',Up w w'→s.run P w'=.ok v w')∧bL w g st av v)
def b5f (P:Program) (w:World) (g:Gh) (st:St) (gd:Bool) (s:Sem Value) (K:AV→Prop):Prop :=
 ∃av,K av∧(gd=true→∃v,(∀w',s.run P w'=.ok v w')∧bL w g st av v)
theorem b5f.ans {P:Program} {w:World} {g:Gh} {st:St} {gd:Bool} {s:Sem Value} {K:AV→Prop} (h:b5f P w g st gd s K):Ans P w g st gd s K:=by
 obtain ⟨av,hK,hv⟩:=h
 exact ⟨av,hK,fun hg=>by obtain ⟨v,h1,h2⟩:=hv hg;exact ⟨v,fun w' _=>h1 w',h2⟩⟩
theorem qA:∀(zs ts:List T),(oB zs ts).length=ts.length
 | [],ts=>by cases ts <;> rfl
 | z :: zs,[]=>rfl
 | z :: zs,t :: ts=>by simp [oB,qA zs ts]
theorem c4b {z t:T} {u:Value} (h:dU w g st t u):dU w g st (bif a6y z then b8z z t else t) u:=by
 by_cases hz:a6y z=true
 · rw [hz]
   unfold b8z
   simp only [cond_true]
   split
   · have e:u=.slice none 0 0:=h.2
     subst e
     unfold a6y at hz
     split at hz
     · exact ⟨rfl,rfl,none,rfl⟩
     · cases hz
   · exact h
 · have hz:a6y z=false:=by simpa using hz
   rw [hz];exact h
theorem sS:∀(zs ts:List T) (us:List Value),(∀(j:Nat) t u,ts[j]?=some t→us[j]?=some u→dU w g st t u)→∀(j:Nat) t u,(oB zs ts)[j]?=some t→us[j]?=some u→dU w g st t u
 | [],ts,us,h=>by cases ts <;> exact h
 | z :: zs,[],us,h=>h
 | z :: zs,t :: ts,[],h=>fun j t u _ hu=>by simp at hu
 | z :: zs,t :: ts,u :: us,h=>fun j t' u' hj hu=>by
   cases j with
   | zero =>
     simp only [oB,List.getElem?_cons_zero,Option.some.injEq] at hj hu
     subst hj hu
     exact c4b (h 0 t u rfl rfl)
   | succ j =>
     simp only [oB,List.getElem?_cons_succ] at hj hu
     exact sS zs ts us (fun j t u hj hu=>h (j+1) t u (by simpa using hj) (by simpa using hu)) j t' u' hj hu
theorem a5m {ty:Nat} {av:AV} {v:Value} (hr:bL w g st av v):bL w g st (b2c E ty av) v:=by
 unfold b2c
 split
 · have e:v=.slice none 0 0:=hr.2
   subst e
   split
   · exact ⟨rfl,rfl,none,rfl⟩
   · exact trivial
 · split
   · obtain ⟨cs,rfl,h1,h2⟩:=hr
     exact ⟨cs,rfl,by rw [qA];exact h1,fun j t u hj hu=>sS _ _ cs.toList (fun j t u hj hu=>h2 j t u hj (by simpa using hu)) j t u hj (by simpa using hu)⟩
   · exact trivial
 · exact hr
theorem b5t {ty:Nat} {gd:Bool} {K:AV→Prop} {av:AV} {v:Value} {o:Operand} (h:yN E ty K av o) (hr:gd=true→bL w g st av v):Ans E.P w g st gd (pure v) K:=by
 unfold yN at h
 split at h
 · exact ⟨_,h,fun hg=>⟨v,fun _ _=>rfl,a5m (hr hg)⟩⟩
 · exact ⟨_,h,fun hg=>⟨v,fun _ _=>rfl,hr hg⟩⟩
theorem c5x {gd:Bool} {K:AV→Prop} {c x y:AV} {vc vx vy:Value} (h:b8p K x y c) (hg0:gd=true) (hc:gd=true→bL w g st c vc) (hx:bL w g st x vx) (hy:bL w g st y vy) :
 Ans E.P w g st gd (do let b ←asBool vc;pure (if b=true then vx else vy)) K:=by
 unfold b8p at h
 split at h
 · rename_i b
   cases b with
   | true =>
     refine ⟨_,h,fun hg=>⟨vx,fun _ _=>?_,hx⟩⟩
     have e:vc=.bool true:=hc hg
     subst e;simp [asBool]
   | false =>
     refine ⟨_,h,fun hg=>⟨vy,fun _ _=>?_,hy⟩⟩
     have e:vc=.bool false:=hc hg
     subst e;simp [asBool]
 · rename_i cb
   have e:vc=.bool cb:=(hc hg0).2
   subst e
   cases cb with
   | true=>exact ⟨_,h.1 rfl,fun hg=>⟨vx,fun _ _=>by simp [asBool],hx⟩⟩
   | false=>exact ⟨_,h.2 rfl,fun hg=>⟨vy,fun _ _=>by simp [asBool],hy⟩⟩
 · exact h.elim
theorem d3b {gd:Bool} {K:AV→Prop} {op:UnOp} {av:AV} {v:Value} (h:c8k K op av) (hr:gd=true→bL w g st av v):Ans E.P w g st gd (Op.unary op v) K:=by
 unfold c8k at h
 split at h
 · exact ⟨_,h,fun hg=>by have e:v=_:=(hr hg).2;subst e;exact ⟨_,fun _ _=>rfl,rfl,rfl⟩⟩
 · exact ⟨_,h,fun hg=>by have e:v=_:=(hr hg).2;subst e;exact ⟨_,fun _ _=>rfl,by exact yW _ _,rfl⟩⟩
 · exact h.elim
theorem a9j {P:Program} (w:World) (d:Nat) {t:TypeId} (a b:Bool) (ht:P.underlying t=some .bool) :
 (Op.equalIn (d+1) t (.bool a) (.bool b)).run P w=.ok (a==b) w:=by
 simp [Op.equalIn,run_underlying ht]
theorem a3j {P:Program} (w:World) {t:TypeId} (a b:Bool) (ht:P.underlying t=some .bool) :
 (Op.equal t (.bool a) (.bool b)).run P w=.ok (a==b) w:=by
 simp only [Op.equal,Op.maxDepth]
 exact a9j w 9999 a b ht
theorem c6t:∀{ks:List CK} {xs ys:List T} {r:Bool},lQ ks xs ys=some r→(∀x∈xs,∃u,x=.v u)∧(∀y∈ys,∃u,y=.v u):=by
 intro ks
 induction ks with
 | nil=>intro xs ys r h;cases xs <;> cases ys <;> simp_all [lQ]
 | cons k ks ih =>
   intro xs ys r h
   cases xs with
   | nil=>simp [lQ] at h
   | cons x xs =>
   cases ys with
   | nil=>simp [lQ] at h
   | cons y ys =>
     simp only [lQ] at h
     split at h
     · rename_i a r' ha hr
       obtain ⟨h1,h2⟩:=ih hr
       have:(∃u,x=.v u)∧(∃u,y=.v u):=by
        unfold qZ at ha
        split at ha
        · exact ⟨⟨_,rfl⟩,⟨_,rfl⟩⟩
        · exact ⟨⟨_,rfl⟩,⟨_,rfl⟩⟩
        · exact ⟨⟨_,rfl⟩,⟨_,rfl⟩⟩
        · cases ha
       exact ⟨by simpa using ⟨this.1,h1⟩,by simpa using ⟨this.2,h2⟩⟩
     · cases h
theorem rO.vs {l:List T} {cs:Array Value} (h:rO w g st l cs) (hv:∀x∈l,∃u,x=.v u):∀(j:Nat) x u,l[j]?=some x→cs[j]?=some u→x=.v u:=by
 intro j x u hj hu
 obtain ⟨u',rfl⟩:=hv x (List.mem_of_getElem? hj)
 have e:u=u':=(h.2 j _ u hj hu).2
 rw [e]
theorem b1k {K:AV→Prop} {op:BinOp} {r:Bool} (h:b7p op K (some r)):(op=.eql∧K (.one (.v (.bool r))))∨(op=.neq∧K (.one (.v (.bool !r)))):=by
 cases op <;> simp_all [b7p]
theorem bytes_eq (a b:ByteArray):(a.toList==b.toList)=decide (a=b):=by
 rw [ByteArray.toList_eq,ByteArray.toList_eq,Bool.eq_iff_iff]
 obtain ⟨⟨x⟩⟩:=a
 obtain ⟨⟨y⟩⟩:=b
 simp
theorem b8u (hE:EnvOk E) {gd:Bool} {K:AV→Prop} {op:BinOp} {t:Nat} {x y:AV} {vx vy:Value} {ox oy:Operand} (h:b7q E gd op t K x y)
 (hx:gd=true→bL w g st x vx) (hy:gd=true→bL w g st y vy) :
 b5f E.P w g st gd (do eqGuard op t ox oy vx vy;binOp op t vx vy) K:=by
 unfold b7q at h
 split at h
 · rename_i k a k' b
   obtain ⟨hk,h⟩:=h.get
   have hk:op=.shl∨op=.shr∨k=k':=by cases op <;> simp_all [d5r]
   have hv:gd=true→vx=.int k a∧vy=.int k' b:=fun hg=>⟨(hx hg).2,(hy hg).2⟩
   cases op with
   | shl =>
     obtain ⟨hb,hK⟩:=h
     refine ⟨_,hK,fun hg=>?_⟩
     obtain ⟨rfl,rfl⟩:=hv hg
     have hb:=hb hg
     exact ⟨_,fun _=>by simp [eqGuard,binOp,Op.shift,show ¬(b < 0) by omega],by exact yW _ _,rfl⟩
   | shr =>
     obtain ⟨hb,hK⟩:=h
     refine ⟨_,hK,fun hg=>?_⟩
     obtain ⟨rfl,rfl⟩:=hv hg
     have hb:=hb hg
     exact ⟨_,fun _=>by simp [eqGuard,binOp,Op.shift,show ¬(b < 0) by omega],by exact c9a _ (hx hg).1,rfl⟩
   | quo =>
     obtain ⟨hb,hK⟩:=h
     refine ⟨_,hK,fun hg=>?_⟩
     obtain ⟨rfl,rfl⟩:=hv hg
     obtain rfl:k=k':=by simpa using hk
     exact ⟨_,fun _=>by simp [eqGuard,binOp,Op.intDiv,hb hg],by exact yW _ _,rfl⟩
   | rem =>
     obtain ⟨hb,hK⟩:=h
     refine ⟨_,hK,fun hg=>?_⟩
     obtain ⟨rfl,rfl⟩:=hv hg
     obtain rfl:k=k':=by simpa using hk
     exact ⟨_,fun _=>by simp [eqGuard,binOp,Op.intDiv,hb hg],by exact c6o (hx hg).1,rfl⟩
   | eql | neq =>
     refine ⟨_,h,fun hg=>?_⟩
     obtain ⟨rfl,rfl⟩:=hv hg
     obtain rfl:k=k':=by simpa using hk
     exact ⟨_,fun _=>by simp [eqGuard,binOp,Op.intCmp],rfl,rfl⟩
   | _ =>
     refine ⟨_,h,fun hg=>?_⟩
     obtain ⟨rfl,rfl⟩:=hv hg
     obtain rfl:k=k':=by simpa using hk
     exact ⟨_,fun _=>by simp [eqGuard,binOp,Op.intCmp,Op.intArith,Op.intBits],by first | rfl | exact yW _ _,rfl⟩
 · rename_i a b
   have hv:gd=true→vx=.string a∧vy=.string b:=fun hg=>⟨(hx hg).2,(hy hg).2⟩
   unfold d5o at h
   split at h
   · obtain ⟨hb,hK⟩:=h
     refine ⟨_,hK,fun hg=>?_⟩
     obtain ⟨rfl,rfl⟩:=hv hg
     have hb:=hb hg
     refine ⟨_,fun _=>?_,?_,rfl⟩
     rotate_left
     · show Nat.ble (a++b).size _=true
       rw [Nat.ble_eq,ByteArray.size_append]
       omega
     have hm:IntKind.max .i64=9223372036854775807:=by decide
     have:¬((9223372036854775807:Int) < (a.size:Int)+(b.size:Int)):=by omega
     simp [eqGuard,binOp,Op.stringOp,hm,this]
   all_goals first
    | exact h.elim
    | (refine ⟨_,h,fun hg=>?_⟩
       obtain ⟨rfl,rfl⟩:=hv hg
       exact ⟨_,fun _=>by simp [eqGuard,binOp,Op.stringOp,bytes_eq],rfl,rfl⟩)
 · rename_i a b
   have hv:gd=true→vx=.bool a∧vy=.bool b:=fun hg=>⟨(hx hg).2,(hy hg).2⟩
   unfold Env.ti at h
   split at h
   · rename_i ti hti
     obtain ⟨hkind,h⟩:=h.get
     have hu:=(hE.ti t ti hti).bool (Nat.eq_of_beq_eq_true hkind)
     rcases b1k h with ⟨rfl,hK⟩ | ⟨rfl,hK⟩
     · refine ⟨_,hK,fun hg=>?_⟩
       obtain ⟨rfl,rfl⟩:=hv hg
       exact ⟨.bool (a==b),fun w=>by simp [eqGuard,binOp,a3j w a b hu],rfl,rfl⟩
     · refine ⟨_,hK,fun hg=>?_⟩
       obtain ⟨rfl,rfl⟩:=hv hg
       exact ⟨.bool !(a==b),fun w=>by simp [eqGuard,binOp,a3j w a b hu],rfl,rfl⟩
   · exact h.elim
 · rename_i xs ys
   cases ht:E.eqt t with
   | none=>rw [ht] at h;exact h.elim
   | some ks =>
   rw [ht] at h
   simp only at h
   cases hc:lQ ks xs ys with
   | none=>rw [hc] at h;exact h.elim
   | some r =>
     rw [hc] at h
     obtain ⟨hxs,hys⟩:=c6t hc
     have key:gd=true→∃cs ds,vx=.agg cs∧vy=.agg ds∧(∀w,(Op.equal t (.agg cs) (.agg ds)).run E.P w=.ok r w)∧∀w op x y,(eqGuard op t x y (.agg cs) (.agg ds)).run E.P w=.ok () w:=by
      intro hg
      obtain ⟨cs,rfl,h1⟩:=hx hg
      obtain ⟨ds,rfl,h2⟩:=hy hg
      have h3:=fun w=>hE.eq t ks ht xs ys r cs ds w hc h1.1 h2.1 (h1.vs hxs) (h2.vs hys)
      exact ⟨cs,ds,rfl,rfl,fun w=>(h3 w).1,fun w=>(h3 w).2⟩
     rcases b1k h with ⟨rfl,hK⟩ | ⟨rfl,hK⟩
     · refine ⟨_,hK,fun hg=>?_⟩
       obtain ⟨cs,ds,rfl,rfl,h3,h4⟩:=key hg
       exact ⟨.bool r,fun _=>by simp [binOp,h3,h4],rfl,rfl⟩
     · refine ⟨_,hK,fun hg=>?_⟩
       obtain ⟨cs,ds,rfl,rfl,h3,h4⟩:=key hg
       exact ⟨.bool !r,fun _=>by simp [binOp,h3,h4],rfl,rfl⟩
 · exact h.elim
theorem TIok.und {P:Program} {t:Nat} {ti:TI} (h:TIok P t ti):∃d,P.underlying t=some d:=by
 cases hu:P.underlying t with
 | some d=>exact ⟨d,rfl⟩
 | none =>
   have:=h.agg default
   simp [isAgg,underlying,hu,stuck] at this
theorem c5y (hE:EnvOk E) {gd:Bool} {K:AV→Prop} {src dst:Nat} {av:AV} {v:Value} (h:b8t K (E.tab src) (E.tab dst) av) (hr:gd=true→bL w g st av v) :
 Ans E.P w g st gd (convert src dst v) K:=by
 unfold b8t at h
 split at h
 · rename_i ts td k' n hs hd
   unfold c2y at h
   split at h
   · rename_i k hk
     obtain ⟨sd,hs⟩:=(hE.ti src ts hs).und
     have hd:=(hE.ti dst td hd).int k hk
     refine ⟨_,h,fun hg=>?_⟩
     have e:v=_:=(hr hg).2
     subst e
     exact ⟨.int k (k.wrap n),fun _ _=>by simp [convert,run_underlying hs,run_underlying hd,Conv.intToInt],by exact yW _ _,rfl⟩
   · exact h.elim
 · exact h.elim
theorem b8r {gd:Bool} {K:AV→Prop} {i:Nat} {av:AV} {v:Value} (h:yO K i av) (hr:gd=true→bL w g st av v):Ans E.P w g st gd (Instr.extract v i) K:=by
 unfold yO at h
 split at h
 · rename_i l
   cases hi:l[i]? with
   | none=>simp [hi] at h
   | some x =>
     simp only [hi] at h
     refine ⟨_,h,fun hg=>?_⟩
     obtain ⟨vs,rfl,hs,hr⟩:=hr hg
     have hlt:i < l.length:=(List.getElem?_eq_some_iff.1 hi).1
     have hv:vs[i]?=some vs[i]:=by simp [show i < vs.size by omega]
     refine ⟨vs[i],fun _ _=>by simp [Instr.extract,hv],?_⟩
     have:=hr i x _ hi hv
     match x,this with
     | .one t,h=>exact h
     | .agg l,h=>exact h
     | .lit b,h=>exact h
     | .no,h=>exact trivial
 · exact h.elim
theorem c8m (hE:EnvOk E) {gd:Bool} {K:AV→Prop} {av:AV} {v:Value} {t ty:TypeId} (h:c3w st gd K (E.tab t) av) (hr:gd=true→bL w g st av v):Ans E.P w g st gd (Builtin.len_ #[t] ty #[v]) K:=by
 unfold c3w at h
 split at h
 · rename_i ti s hti
   obtain ⟨hk,h⟩:=h.get
   have hu:=(hE.ti t ti hti).string (Nat.eq_of_beq_eq_true hk)
   refine ⟨_,h fun hg=>?_,fun hg=>?_⟩
   · have e:v=_:=(hr hg).2
     have hf:=(hr hg).1
     subst e
     exact Nat.le_of_ble_eq_true hf
   · have e:v=_:=(hr hg).2
     subst e
     exact ⟨_,fun _ _=>by simp [Builtin.len_,run_underlying hu,goInt],by exact (hr hg).1,rfl⟩
 · rename_i ti tt hn hti
   obtain ⟨hk,h⟩:=h.get
   have hu:=((hE.ti t ti hti).slice (Nat.eq_of_beq_eq_true hk)).1
   cases tt with
   | s o k rows =>
     have key:gd=true→∃a c,v=.slice a rows.length c:=by
      intro hg
      have hr:=hr hg
      cases o with
      | true=>obtain ⟨_,rfl,a,rfl⟩:=hr;exact ⟨a,0,rfl⟩
      | false =>
        have hr:Fz w g.A v (.s false k rows):=hr.2
        cases hr with
        | nil a c=>exact ⟨a,c,rfl⟩
        | s b f c o k rows vals=>exact ⟨_,c,rfl⟩
     refine ⟨_,h _ rfl fun hg=>?_,fun hg=>?_⟩
     · have hf:=(hr hg).1
       obtain ⟨a,c,rfl⟩:=key hg
       exact Nat.le_of_ble_eq_true hf
     · obtain ⟨a,c,rfl⟩:=key hg
       exact ⟨_,fun _ _=>by simp [Builtin.len_,run_underlying hu,goInt],by exact (hr hg).1,rfl⟩
   | n id path ep lo len =>
     cases path with
     | cons x y=>exact h.elim
     | nil =>
       cases ho:st.obj id with
       | none=>simp [St.len,ho,b8q] at h
       | some ob =>
         simp only [St.len,ho,b8q] at h
         refine ⟨_,h _ rfl fun hg=>?_,fun hg=>?_⟩
         · have hf:=(hr hg).1
           obtain ⟨_,hr⟩:=(show dM w g st (.n id [] ep lo len) v from (hr hg).2)
           obtain ⟨_,_,a,c,rfl,_⟩:=hr ob ho
           exact Nat.le_of_ble_eq_true hf
         · have hf:=(hr hg).1
           obtain ⟨_,hr⟩:=(show dM w g st (.n id [] ep lo len) v from (hr hg).2)
           obtain ⟨_,_,a,c,rfl,_⟩:=hr ob ho
           exact ⟨_,fun _ _=>by simp [Builtin.len_,run_underlying hu,goInt],by exact hf,rfl⟩
   | _=>exact h.elim
 · exact h.elim
theorem c2m:∀{rows:List (List T)} {ns:List Int},u8s rows=some ns→ns.length=rows.length∧∀i,i < rows.length→rows[i]?=some [.v (.int .u8 (ns.getD i 0))]
 | [],ns,h=>by cases h;exact ⟨rfl,fun i hi=>by simp at hi⟩
 | r :: l,ns,h=>by
   unfold u8s at h
   split at h
   · rename_i h0;cases h0
   · rename_i n l' h0
     cases h0
     split at h
     · rename_i ms hm
       cases h
       obtain ⟨h1,h2⟩:=c2m hm
       refine ⟨by simp [h1],fun i hi=>?_⟩
       cases i with
       | zero=>simp
       | succ i=>simpa using h2 i (by simpa using hi)
     · cases h
   · cases h
theorem c3z (hE:EnvOk E) {gd:Bool} {K:AV→Prop} {src dst:Nat} {v:Value} {id ep lo len:Nat} (hst:RepSt w g st N pv a) (h:b3u E K lo len (E.tab src) (E.tab dst) (st.obj id)) (hr:gd=true→bL w g st (.one (.n id [] ep lo len)) v) :
 Ans E.P w g st gd (convert src dst v) K:=by
 unfold b3u at h
 split at h
 rotate_left
 · exact h.elim
 rename_i ts td ob hs hd ho
 obtain ⟨hk,h⟩:=h.get
 simp only [Bool.and_eq_true,Bool.not_eq_true',Nat.blt_eq] at hk
 obtain ⟨hk1,hk2,hbox,hlen⟩:=hk
 unfold Env.ti at h
 split at h
 rotate_left
 · exact h.elim
 rename_i te hte
 unfold b8s at h
 split at h
 rotate_left
 · exact h.elim
 rename_i ns hik hns
 have hu:=((hE.ti src ts hs).slice (Nat.eq_of_beq_eq_true hk1)).1
 have hue:=(hE.ti _ te hte).int _ hik
 have hud:=(hE.ti dst td hd).string (Nat.eq_of_beq_eq_true hk2)
 refine ⟨_,h,fun hg=>?_⟩
 have hfit:=(hr hg).1
 obtain ⟨hlt,hr⟩:=(show dM w g st (.n id [] ep lo len) v from (hr hg).2)
 obtain ⟨_,_,ad,c,rfl,hlc,hll,hc⟩:=hr ob ho
 rcases hc with hc | ⟨rfl,hlab,hsz⟩
 · omega
 obtain ⟨n1,n2⟩:=c2m hns
 have hl1:((ob.rows.drop lo).take len).length=len:=by
  rw [List.length_take,List.length_drop];omega
 have hob:=hst.ob id ob ho
 unfold fY at hob
 rw [hbox] at hob
 simp only at hob
 rcases hob with ⟨h1,_⟩ | ⟨cs,e,vals,Sub,q1,q2,q3,q4,q5⟩
 · rw [h1] at hll;simp at hll;omega
 have row:∀i,i < len→ob.rows[lo+i]?=some [.v (.int .u8 (ns.getD i 0))]:=by
  intro i hi
  have:=n2 i (by rw [hl1];exact hi)
  rw [List.getElem?_take,if_pos hi,List.getElem?_drop] at this
  exact this
 have hk1:ob.k=1:=by
  have:=row 0 hlen
  have:=q5.hk _ (List.mem_of_getElem? this)
  simpa using this.symm
 have cell:∀w',Up w w'→∀i,i < len→w'.cell? ⟨g.β id,g.ω id+lo*ob.k+i,none⟩=some (.int .u8 (ns.getD i 0)):=by
  intro w' hw i hi
  refine Up.cell hw ?_
  have h1:=q5.hv (lo+i) 0 (by omega) (by omega)
  have h2:=q5.ht (lo+i) 0 _ _ (row i hi) rfl
  have h3:vals (lo+i) 0=.int .u8 (ns.getD i 0):=by
   generalize vals (lo+i) 0=u at h2
   cases h2
   rfl
  rw [h3] at h1
  have h4:g.ω id+(lo+i)*ob.k+0=g.ω id+lo*ob.k+i:=by rw [hk1];omega
  rw [h4] at h1
  simp [World.cell?,q1,h1]
 refine ⟨_,fun w' hw=>run_convert_bytes_arg w' src ts.elem hu hue (g.β id) (g.ω id+lo*ob.k) len c ns (by omega) (cell w' hw) dst hud,?_,rfl⟩
 show Nat.ble (strOfNums ns).size 9223372036854775807=true
 have:(strOfNums ns).size=ns.length:=by simp [strOfNums,ByteArray.size]
 rw [this,n1,hl1]
 exact hfit
theorem c3y (hE:EnvOk E) {gd:Bool} {K:AV→Prop} {src dst:Nat} {av:AV} {v:Value} (hst:RepSt w g st N pv a) (h:b3t E K src dst st av) (hr:gd=true→bL w g st av v) :
 Ans E.P w g st gd (convert src dst v) K:=by
 unfold b3t at h
 split at h
 · exact c3z hE hst h hr
 · exact c5y hE h hr
theorem Fz.cells {A:Nat→Prop} {v:Value} {k:Nat} {rows:List (List T)} {row off:Nat} (h:Fz w A v (.q k rows row off)) (hr:row < rows.length) :
 ∃b f,v=.pointer (some ⟨b,f+off,none⟩)∧A b∧b < w.heap.size∧(dK rows row).length=k∧∀j,j < k→∃u t,w.cell? ⟨b,f+j,none⟩=some u∧(dK rows row)[j]?=some t∧Fz w A u t:=by
 cases h with
 | q b f k rows row off vals hA hb _ hk hc ht =>
   have hrow:rows[row]?=some rows[row]:=by simp [hr]
   have hra:dK rows row=rows[row]:=by simp [dK,List.getD,hrow]
   have hlen:rows[row].length=k:=hk _ (List.getElem_mem hr)
   refine ⟨b,f+row*k,rfl,hA,hb,by rw [hra];exact hlen,fun j hj=>?_⟩
   have hj':rows[row][j]?=some rows[row][j]:=by simp [hlen,hj]
   exact ⟨vals row j,rows[row][j],hc row j hr hj,by rw [hra];exact hj',ht row j _ _ hrow hj'⟩
theorem lT (b f n:Nat):(⟨b,f,none⟩:Addr).add n=⟨b,f+n,none⟩:=by
 unfold Addr.add;split <;> simp_all
theorem a8s {P:Program} {t e:TypeId} {sz:Nat} {k:IntKind} {i:Int} {b f n c:Nat} (hu:P.underlying t=some (.slice e)) (hs:∀w,(sizeOf e).run P w=.ok sz w) (h0:0≤i) (h1:i < (n:Int)) :
 (Instr.indexAt t (.slice (some ⟨b,f,none⟩) n c) (.int k i)).run P w=.ok (.pointer (some ⟨b,f+i.toNat*sz,none⟩)) w:=by
 simp [Instr.indexAt,asIntOf,run_underlying hu,h0,h1,hs,lT]
theorem a8t (hE:EnvOk E) {gd:Bool} {K:AV→Prop} {t:TypeId} {x y:AV} {vx vy:Value} (h:a4t st gd K (E.tab t) x y) (hx:gd=true→bL w g st x vx) (hy:gd=true→bL w g st y vy) :
 b5f E.P w g st gd (Instr.indexAt t vx vy) K:=by
 unfold a4t at h
 split at h
 · rename_i ti o k rows ik i hti
   obtain ⟨hk,hb,hK⟩:=h.get
   simp only [Bool.and_eq_true,Nat.beq_eq] at hk
   obtain ⟨hk,hsz⟩:=hk
   refine ⟨_,hK (rows.getD i.toNat []) (fun hg=>?_),fun hg=>?_⟩
   · obtain ⟨h0,h1⟩:=hb hg
     have:i.toNat < rows.length:=by omega
     simp [List.getD,this]
   have e:vy=_:=(hy hg).2
   subst e
   obtain ⟨h0,h1⟩:=hb hg
   obtain ⟨hu,hs⟩:=(hE.ti t ti hti).slice hk
   have hr:=(hx hg).2
   cases o with
   | true=>obtain ⟨rfl,_⟩:=hr;simp at h1;omega
   | false =>
     have hr:Fz w g.A vx (.s false k rows):=hr
     cases hr with
     | nil a c=>simp at h1;omega
     | s b f c o k rows vals hA hb hlc hln hk' hc ht =>
       refine ⟨_,fun _=>a8s hu hs h0 h1,rfl,?_⟩
       rw [hsz]
       have hi:i.toNat < rows.length:=by omega
       have hrow:rows[i.toNat]?=some (rows.getD i.toNat []):=by simp [List.getD,hi]
       have:=Fz.q (w:=w) (A:=g.A) b (f+i.toNat*k) k [rows.getD i.toNat []] 0 0 (fun _ j=>vals i.toNat j) hA hb (by simp) (fun r hr=>by
        simp only [List.mem_singleton] at hr
        subst hr
        exact hk' _ (List.mem_of_getElem? hrow)) (fun i' j hi' hj=>?_) (fun i' j r t hr ht'=>?_)
       · simp only [Nat.zero_mul,Nat.add_zero] at this
         exact this
       · have:i'=0:=by simpa using hi'
         subst this
         simpa using hc i.toNat j hi hj
       · have:i'=0:=by have:=(List.getElem?_eq_some_iff.1 hr).1;simpa using this
         subst this
         have:r=rows.getD i.toNat []:=by simpa using hr.symm
         subst this
         exact ht _ j _ _ hrow ht'
 · rename_i ti id ep lo len ik i hti
   split at h
   · rename_i ob ho
     obtain ⟨hk,hb,hK⟩:=h.get
     simp only [Bool.and_eq_true,Nat.beq_eq] at hk
     obtain ⟨hk,hsz⟩:=hk
     refine ⟨_,hK,fun hg=>?_⟩
     have e:vy=_:=(hy hg).2
     subst e
     obtain ⟨h0,h1⟩:=hb hg
     obtain ⟨hu,hs⟩:=(hE.ti t ti hti).slice hk
     obtain ⟨hid,hr⟩:=(show dM w g st (.n id [] ep lo len) vx from (hx hg).2)
     obtain ⟨hbox,_,a,c,rfl,hlc,hlr,hcc⟩:=hr ob ho
     rcases hcc with rfl | ⟨rfl,hl,hs'⟩
     · omega
     · refine ⟨_,fun _=>a8s hu hs h0 h1,rfl,hid,fun ob' ho'=>?_⟩
       rw [ho] at ho'
       cases ho'
       refine ⟨?_,hl,by omega⟩
       rw [hsz,Nat.add_mul]
       simp [Nat.add_assoc]
   · exact h.elim
 · exact h.elim
theorem c1s {P:Program} {s:TypeId} {fs:Array Field} {f n b o:Nat} {fd:Field} (hu:P.underlying s=some (.struct fs)) (hf:fs[f]?=some fd) (hn:n≠0) (hs:∀w,(sizeOf fd.type).run P w=.ok n w) :
 (Instr.fieldAt s (.pointer (some ⟨b,o,none⟩)) f).run P w=.ok (.pointer (some ⟨b,o+fd.offset,none⟩)) w:=by
 simp [Instr.fieldAt,run_underlying hu,hf,Instr.sureAddr,fieldPlace,hs,hn,lT]
theorem b1j (hE:EnvOk E) {gd:Bool} {K:AV→Prop} {s:TypeId} {f:Nat} {av:AV} {v:Value} (h:a8e st K f (E.tab s) av) (hr:gd=true→bL w g st av v):b5f E.P w g st gd (Instr.fieldAt s v f) K:=by
 have key:∀ti,E.tab s=some ti→ti.kind=1→f < ti.offs.length→∀b o w,(Instr.fieldAt s (.pointer (some ⟨b,o,none⟩)) f).run E.P w=.ok (.pointer (some ⟨b,o+ti.offs.getD f 0,none⟩)) w:=by
  intro ti hti hk hf b o w
  obtain ⟨fs,hu,hsz,_,hfd⟩:=(hE.ti s ti hti).struct hk
  have hlt:f < fs.size:=by omega
  have hf':fs[f]?=some fs[f]:=by simp [hlt]
  obtain ⟨h1,n,hn,hs⟩:=hfd f _ hf'
  rw [c1s hu hf' hn hs,h1]
 unfold a8e at h
 split at h
 · rename_i ti k rows row off hti
   obtain ⟨hk,hK⟩:=h.get
   simp only [Bool.and_eq_true,Nat.beq_eq,Nat.blt_eq] at hk
   obtain ⟨hk,hf⟩:=hk
   refine ⟨_,hK,fun hg=>?_⟩
   have hr:Fz w g.A v (.q k rows row off):=(hr hg).2
   cases hr with
   | q b f' k rows row off vals hA hb hrr hk' hc ht =>
     refine ⟨_,fun w=>key ti hti hk hf b _ w,rfl,?_⟩
     have:=Fz.q (w:=w) (A:=g.A) b f' k rows row (off+ti.offs.getD f 0) vals hA hb hrr hk' hc ht
     rw [←Nat.add_assoc] at this
     exact this
 · rename_i ti id ep row off hti
   obtain ⟨hk,hK⟩:=h.get
   simp only [Bool.and_eq_true,Nat.beq_eq,Nat.blt_eq] at hk
   obtain ⟨hk,hf,ho⟩:=hk
   refine ⟨_,hK,fun hg=>?_⟩
   obtain ⟨hid,hr⟩:=(show dM w g st (.p id [] ep row off) v from (hr hg).2)
   obtain ⟨ob,ho⟩:=Option.isSome_iff_exists.1 ho
   obtain ⟨rfl,hl⟩:=hr ob ho
   refine ⟨_,fun w=>key ti hti hk hf _ _ w,rfl,hid,fun ob' ho'=>?_⟩
   rw [ho] at ho'
   cases ho'
   exact ⟨by simp [Nat.add_assoc],hl⟩
 · exact h.elim
theorem c3x (hE:EnvOk E) {gd:Bool} {K:AV→Prop} {t:TypeId} {x y:AV} {vx vy:Value} (h:b3s gd K (E.tab t) x y) (hx:gd=true→bL w g st x vx) (hy:gd=true→bL w g st y vy) :
 Ans E.P w g st gd (Instr.index t vx vy) K:=by
 unfold b3s at h
 split at h
 · rename_i ti s ik i hti
   obtain ⟨hk,hb,hK⟩:=h.get
   have hk:=Nat.eq_of_beq_eq_true hk
   refine ⟨_,hK,fun hg=>?_⟩
   have e:vy=_:=(hy hg).2
   subst e
   have e:vx=_:=(hx hg).2
   subst e
   obtain ⟨h0,h1⟩:=hb hg
   have hu:=(hE.ti t ti hti).string hk
   have hlt:i.toNat < s.size:=by omega
   have hlt':i.toNat < s.data.size:=hlt
   have hs:s[i.toNat]?=some (s.data.getD i.toNat 0):=by
    rw [getElem?_pos s i.toNat hlt]
    simp only [Array.getD,hlt',dif_pos]
    rfl
   exact ⟨_,fun _ _=>by simp [Instr.index,asIntOf,run_underlying hu,h0,hs],by exact d3s _,rfl⟩
 · exact h.elim
theorem c8l {gd:Bool} {K:AV→Prop} {op:Operand} {o:Oper} (ho:o.op=.nilCheck op) {av:AV} (h:c3v st K av) (hr:gd=true→bL w g st av (a.eval op)) :
 ∃x,K x∧(gd=true→∃v,(∀w',Up w w'→(execOp a.eval o).run E.P w'=.ok (.value v) w')∧bL w g st x v):=by
 unfold c3v at h
 split at h
 · rename_i id ep row off
   obtain ⟨h1,h2⟩:=h.get
   refine ⟨_,h2,fun hg=>⟨a.eval op,fun _ _=>?_,hr hg⟩⟩
   obtain ⟨ob,hob⟩:=Option.isSome_iff_exists.1 h1
   have:=((show dM w g st (.p id [] ep row off) _ from (hr hg).2).2 ob hob).1
   simp [execOp,ho,this]
 · refine ⟨_,h,fun hg=>⟨a.eval op,fun _ _=>?_,hr hg⟩⟩
   have hr:Fz w g.A _ (.q _ _ _ _):=(hr hg).2
   have:∃x,a.eval op=.pointer (some x):=by
    generalize a.eval op=v at hr
    cases hr with
    | q=>exact ⟨_,rfl⟩
   obtain ⟨x,hx⟩:=this
   simp [execOp,ho,hx]
 · rename_i f caps
   refine ⟨_,h,fun hg=>⟨a.eval op,fun _ _=>?_,hr hg⟩⟩
   obtain ⟨_,cvs,he,_⟩:=hr hg
   simp [execOp,ho,he]
 · exact h.elim
theorem a1x {P:Program} {t:TypeId} {b o:Nat} {u:Value} (hk:∀w,(isAgg t).run P w=.ok false w) (hc:w.cell? ⟨b,o,none⟩=some u):(Instr.loadAt t (.pointer (some ⟨b,o,none⟩))).run P w=.ok u w:=by
 simp [Instr.loadAt,Instr.sureAddr,loadVar,hk,hc]
theorem b1a {P:Program} {t:TypeId} {b o:Nat} {us:List Value} (hk:∀w,(isAgg t).run P w=.ok true w) (hs:∀w,(sizeOf t).run P w=.ok us.length w)
 (hc:∀(j:Nat) u,us[j]?=some u→w.cell? ⟨b,o+j,none⟩=some u):(Instr.loadAt t (.pointer (some ⟨b,o,none⟩))).run P w=.ok (.agg us.toArray) w:=by
 have:=run_loadCells_list (P:=P) (w:=w) ⟨b,o,none⟩ us (fun j v hj=>by rw [lT];exact hc j v hj)
 simp [Instr.loadAt,Instr.sureAddr,loadVar,hk,hs,this]
theorem a5x {m:Nat}:∀{l r:List T},yL m l=some r→r.length=l.length∧∀(j:Nat) t',r[j]?=some t'→∃t,l[j]?=some t∧pJ m t=some t'
 | [],r,h=>by simp [yL] at h;subst h;simp
 | t :: l,r,h=>by
   simp only [yL] at h
   split at h
   · rename_i a r' ha hr
     cases h
     obtain ⟨h1,h2⟩:=a5x hr
     refine ⟨by simp [h1],fun j t' hj=>?_⟩
     cases j with
     | zero=>simp at hj;subst hj;exact ⟨t,rfl,ha⟩
     | succ j=>simpa using h2 j t' (by simpa using hj)
   · cases h
def d1c (st:St) (m:Nat) (row:List T):T→Prop
 | .q _ rows r off=>m=0∧∃r',rows[r]?=some r'∧row=r'.drop off
 | .p id [] _ r off=>∃ob,st.obj id=some ob∧m=(bif ob.box then 1 else 2)∧∃r',ob.rows[r]?=some r'∧row=r'.drop off
 | _=>False
theorem b5p (hst:RepSt w g st N pv a) {t:T} {v:Value} (hr:dU w g st t v) {m:Nat} {row:List T} (hp:d1c st m row t) :
 ∃b o,v=.pointer (some ⟨b,o,none⟩)∧∀(j:Nat) x x',row[j]?=some x→pJ m x=some x'→∃u,w.cell? ⟨b,o+j,none⟩=some u∧dU w g st x' u:=by
 have hr:=hr.2
 cases t with
 | q k rows r off =>
   obtain ⟨rfl,r',hrow',rfl⟩:=hp
   have hr:Fz w g.A v (.q k rows r off):=hr
   have hlt:r < rows.length:=(List.getElem?_eq_some_iff.1 hrow').1
   have hra:dK rows r=r':=by simp [dK,List.getD,hrow']
   obtain ⟨b,f,rfl,hA,hb,hlen,hcell⟩:=hr.cells hlt
   rw [hra] at hlen hcell
   refine ⟨b,f+off,rfl,fun j x x' hj hx=>?_⟩
   rw [List.getElem?_drop] at hj
   have hjk:off+j < k:=by
    have:=(List.getElem?_eq_some_iff.1 hj).1;omega
   obtain ⟨u,t,h1,h2,h3⟩:=hcell (off+j) hjk
   rw [hj] at h2
   cases h2
   refine ⟨u,by rw [←h1,Nat.add_assoc],h3.one,?_⟩
   cases x with
   | v y =>
     cases hx
     cases h3 with
     | v _=>exact rfl
   | s o k rows =>
     cases hx
     show Fz w g.A u (.s false k rows)
     cases h3 with
     | nil a c=>exact .nil a c false k
     | s b f c _ _ _ vals g1 g2 g2' gl g3 g4 g5=>exact .s b f c false k rows vals g1 g2 g2' gl g3 g4 g5
   | q k rows row off=>cases hx;exact h3
   | c g caps=>simp [pJ] at hx
   | b row=>simp [pJ] at hx
   | h=>cases hx;exact trivial
   | n=>cases h3
   | p=>cases h3
 | p id path ep r off =>
   cases path with
   | cons x y=>exact hp.elim
   | nil =>
     obtain ⟨ob,ho,rfl,r',hrow,rfl⟩:=hp
     obtain ⟨hid,hr⟩:=(show dM w g st (.p id [] ep r off) v from hr)
     obtain ⟨rfl,hl,_⟩:=hr ob ho
     have hob:=hst.ob id ob ho
     have hlt:r < ob.rows.length:=(List.getElem?_eq_some_iff.1 hrow).1
     refine ⟨g.β id,g.ω id+r*ob.k+off,rfl,fun j x x' hj hx=>?_⟩
     rw [List.getElem?_drop] at hj
     cases hb:ob.box with
     | true =>
       rw [hb] at hx
       simp only [cond_true] at hx
       unfold fY at hob
       rw [hb] at hob
       obtain ⟨cs,e,row,h1,h2,h3,h4,h5,h6,h7⟩:=hob
       have hr0:r=0:=by rw [h1] at hlt;simp at hlt;exact hlt
       subst hr0
       have hrr:r'=row:=by rw [h1] at hrow;simpa using hrow.symm
       subst hrr
       have hlt':=(List.getElem?_eq_some_iff.1 hj).1
       have hcs:off+j < cs.size:=by rw [h7.1];exact hlt'
       refine ⟨cs[off+j],?_,?_⟩
       · simp [World.cell?,h3,h5,hcs]
       · have:=h7.2 (off+j) x cs[off+j] hj (by simp [hcs])
         cases x with
         | s o k rows=>cases hx;exact this
         | c g caps=>cases hx;exact this
         | b row=>simp [pJ] at hx
         | _=>cases hx;exact this
     | false =>
       rw [hb] at hx
       simp only [cond_false] at hx
       unfold fY at hob
       rw [hb] at hob
       rcases hob with ⟨hrs,_⟩ | ⟨cs,e,vals,Sub,h1,h2,h3,h4,hM⟩
       · simp [hrs] at hlt
       · have hlt':=(List.getElem?_eq_some_iff.1 hj).1
         have hk:r'.length=ob.k:=hM.hk _ (List.mem_of_getElem? hrow)
         have hjk:off+j < ob.k:=by omega
         have hv:=hM.hv r (off+j) hlt hjk
         have hcs:g.ω id+r*ob.k+(off+j) < cs.size:=(Array.getElem?_eq_some_iff.1 hv).1
         have hO:=hM.ht r (off+j) _ _ hrow hj
         refine ⟨vals r (off+j),?_,hO.one,?_⟩
         · have:g.ω id+r*ob.k+off+j=g.ω id+r*ob.k+(off+j):=by omega
           rw [this]
           simp [World.cell?,h1,hv]
         · generalize vals r (off+j)=u at hO
           generalize Sub r (off+j)=S at hO
           cases x with
           | v y=>cases hx;cases hO with | v=>exact rfl
           | s o k rows =>
             cases o with
             | false =>
               cases hx
               cases hO
               assumption
             | true =>
               cases rows with
               | cons x y=>simp [pJ] at hx
               | nil =>
                 cases hx
                 show Fz w g.A u (.s false k [])
                 cases hO
                 · exact .nil _ 0 false k
                 · exact .nil _ _ false k
           | c g caps=>simp [pJ] at hx
           | b row=>simp [pJ] at hx
           | h=>cases hx;exact trivial
           | n=>cases hO
           | p=>cases hO
           | q=>cases hO
 | _=>exact hp.elim
theorem a1z (hE:EnvOk E) (hst:RepSt w g st N pv a) {gd:Bool} {K:AV→Prop} {t:TypeId} {ti:TI} (hti:E.tab t=some ti) {p:T} {v:Value} {m:Nat} {row:List T} (h:a3n K ti (some (m,row))) (hp:gd=true→d1c st m row p) (hr:gd=true→dU w g st p v) :
 Ans E.P w g st gd (Instr.loadAt t v) K:=by
 have hT:=hE.ti t ti hti
 simp only [a3n] at h
 by_cases hk:ti.kind=1
 · have hk':(ti.kind==1)=true:=by simp [hk]
   have hk2:Nat.beq ti.kind 1=true:=by simp [hk]
   rw [hk2] at h
   simp only [cond_true] at h
   split at h
   · rename_i l hl
     obtain ⟨hlen,hK⟩:=h.get
     have hlen:=Nat.eq_of_beq_eq_true hlen
     refine ⟨_,hK,fun hg=>?_⟩
     obtain ⟨h1,h2⟩:=a5x hl
     obtain ⟨b,o,rfl,hc⟩:=b5p hst (hr hg) (hp hg)
     have hch:∀j,j < ti.size→∃u,w.cell? ⟨b,o+j,none⟩=some u∧∀t',l[j]?=some t'→dU w g st t' u:=by
      intro j hj
      obtain ⟨x,hx1,hx2⟩:=h2 j l[j] (by simp [hlen,hj])
      have hx1':row[j]?=some x:=by
       rw [List.getElem?_take,if_pos hj] at hx1
       exact hx1
      obtain ⟨u,hu1,hu2⟩:=hc j x _ hx1' hx2
      exact ⟨u,hu1,fun t' ht'=>by rw [List.getElem?_eq_getElem (by omega)] at ht';cases ht';exact hu2⟩
     let us:List Value:=(List.range ti.size).map fun j=>(w.cell? ⟨b,o+j,none⟩).getD undef
     have hus:us.length=ti.size:=by simp [us]
     have husj:∀(j:Nat) u,us[j]?=some u→w.cell? ⟨b,o+j,none⟩=some u:=by
      intro j u hj
      have hlt:j < ti.size:=by have:=(List.getElem?_eq_some_iff.1 hj).1;omega
      obtain ⟨u',hu',_⟩:=hch j hlt
      simp [us,hlt,hu'] at hj
      rw [hu',hj]
     refine ⟨.agg us.toArray,fun w' hw=>b1a (fun w=>by rw [hT.agg,hk']) (fun w=>by rw [hT.size,hus]) (fun j u hj=>hw.cell (husj j u hj)),us.toArray,rfl,by simp [hus,hlen],fun j t' u hj hu=>?_⟩
     have hlt:j < ti.size:=by have:=(List.getElem?_eq_some_iff.1 hj).1;omega
     obtain ⟨u',hu',hrep⟩:=hch j hlt
     have:=husj j u (by simpa using hu)
     rw [hu'] at this
     cases this
     exact hrep t' hj
   · exact h.elim
 · have hk':(ti.kind==1)=false:=by simp [hk]
   have hk2:Nat.beq ti.kind 1=false:=by
    cases h1:Nat.beq ti.kind 1 with
    | false=>rfl
    | true=>exact absurd (Nat.eq_of_beq_eq_true h1) hk
   rw [hk2] at h
   simp only [cond_false] at h
   split at h
   · rename_i x rest
     split at h
     · rename_i x' hx
       refine ⟨_,h,fun hg=>?_⟩
       obtain ⟨b,o,rfl,hc⟩:=b5p hst (hr hg) (hp hg)
       obtain ⟨u,hu,hrep⟩:=hc 0 x x' rfl hx
       exact ⟨u,fun w' hw=>a1x (fun w=>by rw [hT.agg,hk']) (hw.cell (by simpa using hu)),hrep⟩
     · exact h.elim
   · exact h.elim
theorem a6o {K:AV→Prop} {ti:TI} {m off:Nat} {o:Option (List T)} (h:b3r K ti m off o):∃r,o=some r∧a3n K ti (some (m,r.drop off)):=by
 cases o with
 | none=>exact h.elim
 | some r=>exact ⟨r,rfl,h⟩
theorem b5u (hE:EnvOk E) (hst:RepSt w g st N pv a) {gd:Bool} {K:AV→Prop} {t:TypeId} {av:AV} {v:Value} (h:b1i st gd K (E.tab t) av) (hr:gd=true→bL w g st av v):Ans E.P w g st gd (Instr.loadAt t v) K:=by
 unfold b1i at h
 split at h
 · rename_i ti k rows row off hti
   obtain ⟨r,hrow,h⟩:=a6o h
   exact a1z (p:=.q k rows row off) hE hst hti h (fun hg=>⟨rfl,_,hrow,rfl⟩) (fun hg=>hr hg)
 · rename_i ti id ep row off hti
   split at h
   · rename_i ob ho
     unfold c2x at h
     split at h
     · rename_i hb
       obtain ⟨r,hrow,h⟩:=a6o h
       exact a1z (p:=.p id [] ep row off) hE hst hti h (fun hg=>⟨ob,ho,by rw [hb];rfl,_,hrow,rfl⟩) (fun hg=>hr hg)
     · rename_i hb
       have key:gd=true→ob.rows[row]?=some (dK ob.rows row):=by
        intro hg
        obtain ⟨_,hr⟩:=(show dM w g st (.p id [] ep row off) v from (hr hg).2)
        obtain ⟨_,_,hrr⟩:=hr ob ho
        simp [dK,List.getD,hrr]
       have h:=h _ key
       unfold c2w at h
       split at h
       · rename_i k rows2 tl hd
         cases hk2:Nat.beq ti.kind 2 with
         | false =>
           rw [hk2] at h
           refine a1z (p:=.p id [] ep row off) hE hst hti h (fun hg=>⟨ob,ho,by rw [hb];rfl,_,key hg,hd.symm⟩) (fun hg=>hr hg)
         | true =>
           rw [hk2] at h
           have hT:=hE.ti t ti hti
           have hk:=Nat.eq_of_beq_eq_true hk2
           have hk':(ti.kind==1)=false:=by simp [hk]
           refine ⟨_,h,fun hg=>?_⟩
           obtain ⟨hid,hr2⟩:=(show dM w g st (.p id [] ep row off) v from (hr hg).2)
           obtain ⟨rfl,hl,hlt⟩:=hr2 ob ho
           have hob:=hst.ob id ob ho
           unfold fY at hob
           rw [hb] at hob
           rcases hob with ⟨hrs,_⟩ | ⟨cs,e,vals,Sub,h1,h2,h3,h4,hM⟩
           · rw [hrs] at hlt;simp at hlt
           · have hj:(dK ob.rows row)[off]?=some (.s true k rows2):=by
              have:=congrArg (fun l=>l[0]?) hd
              simpa [List.getElem?_drop] using this
             have hrl:(dK ob.rows row).length=ob.k:=hM.hk _ (List.mem_of_getElem? (key hg))
             have hoff:off < ob.k:=by have:=(List.getElem?_eq_some_iff.1 hj).1;omega
             have hv:=hM.hv row off hlt hoff
             have hO:=hM.ht row off _ _ (key hg) hj
             have hcell:w.cell? ⟨g.β id,g.ω id+row*ob.k+off,none⟩=some (vals row off):=by simp [World.cell?,h1,hv]
             exact ⟨vals row off,fun w' hw=>a1x (fun w=>by rw [hT.agg,hk']) (hw.cell hcell),hO.one,hid,fun ob1 ho1 _=>by rw [ho] at ho1;cases ho1;exact ⟨Nat.le_refl _,fun _=>⟨hl,hcell,hlt⟩⟩⟩
       · exact a1z (p:=.p id [] ep row off) hE hst hti h (fun hg=>⟨ob,ho,by rw [hb];rfl,_,key hg,rfl⟩) (fun hg=>hr hg)
   · exact h.elim
 · exact h.elim
theorem yM (hE:EnvOk E) (hst:RepSt w g st N pv a) {gd:Bool} (hg0:gd=true) {K:AV→Prop} {o:Oper} (h:opP E gd o.op o.type st K) :
 ∃x,K x∧(gd=true→∃v,(∀w',Up w w'→(execOp a.eval o).run E.P w'=.ok (.value v) w')∧bL w g st x v):=by
 have lift:∀{s:Sem Value},(execOp a.eval o=do let v ←s;pure (Next.value v))→Ans E.P w g st gd s K→∃x,K x∧(gd=true→∃v,(∀w',Up w w'→(execOp a.eval o).run E.P w'=.ok (.value v) w')∧bL w g st x v):=by
  intro s he ⟨x,hK,hx⟩
  refine ⟨x,hK,fun hg=>?_⟩
  obtain ⟨v,hv,hr⟩:=hx hg
  exact ⟨v,fun w' hw=>by rw [he];simp [hv w' hw],hr⟩
 have r1:∀x:Operand,gd=true→bL w g st (st.ev x) (a.eval x):=fun x _=>iQ hst x
 have r2:∀x:Operand,gd=true→bL w g st (st.evn x) (a.eval x):=fun x _=>jM hst x
 generalize hop:o.op=op at h
 unfold opP at h
 split at h
 · exact lift (by simp [execOp,hop]) (b5t h (r1 _))
 · exact lift (by simp [execOp,hop]) (b5t h (r1 _))
 · exact lift (by simp [execOp,hop]) (c5x h hg0 (r1 _) (iQ hst _) (iQ hst _))
 · exact lift (by simp [execOp,hop]) (b5u hE hst h (r1 _))
 · exact lift (by simp [execOp,hop]) (b1j hE h (r1 _)).ans
 · exact lift (by simp [execOp,hop]) (a8t hE h (r1 _) (r1 _)).ans
 · exact lift (by simp [execOp,hop]) (c3x hE h (r1 _) (r1 _))
 · exact c8l hop h (r1 _)
 · rename_i op' t x y yt
   exact lift (by simp [execOp,hop]) (b8u (ox:=x) (oy:=y) hE h (r2 _) (r2 _)).ans
 · exact lift (by simp [execOp,hop]) (d3b h (r2 _))
 · exact lift (by simp [execOp,hop]) (c3y hE hst h (r1 _))
 · exact lift (by simp [execOp,hop]) (b8r h (r1 _))
 · rename_i x t
   refine lift (s:=Builtin.len_ #[t] o.type #[a.eval x]) ?_ (c8m hE h (r1 _))
   simp [execOp,hop,resolve,invoke,builtin]
 · exact h.elim
end Go.Ev
