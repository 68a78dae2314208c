/- The abstract machine: trees for memory, a weakest precondition over the model's own code. Definitions alone. -/
import Derived.Laws.BytesArg
import Derived.OrdersHeld
import Derived.StillTail
import Derived.Below
import Derived.KernelRfl
import Derived.Deep.Quiet
set_option linter.unusedSectionVars false
set_option linter.unusedVariables false
set_option linter.unusedSimpArgs false
namespace Go.Ev
open Go
inductive T where
 | v (x:Value)
 | s (o:Bool) (k:Nat) (rows:List (List T))
 | n (id:Nat) (path:List (Nat×Nat)) (ep lo len:Nat)
 | p (id:Nat) (path:List (Nat×Nat)) (ep row off:Nat)
 | q (k:Nat) (rows:List (List T)) (row off:Nat)
 | b (row:List T)
 | c (g:Nat) (caps:List T)
 | h
inductive AV where
 | one (t:T)
 | agg (l:List T)
 | tup (l:List AV)
 | may (g:Bool) (a:AV)
 | lit (b:Bool)
 | no
def Tr (b:Bool) (p:Prop):Prop:=match b with
 | true=>p
 | false=>False
theorem Tr.get {b:Bool} {p:Prop} (h:Tr b p):b=true∧p:=by cases b with
 | true=>exact ⟨rfl,h⟩
 | false=>exact h.elim
def AV.nl:AV→AV
 | .lit b=>.one (.v (.bool b))
 | a=>a
structure Ob where
 k:Nat
 box:Bool
 rows:List (List T)
 ep:Nat
structure St where
 tm:List (Nat×AV)
 ob:List (Option Ob)
 pr:List T
def hiI:IntKind→Nat
 | .i8=>127
 | .i16=>32767
 | .i32=>2147483647
 | .i64=>9223372036854775807
 | .u8=>255
 | .u16=>65535
 | .u32=>4294967295
 | .u64=>18446744073709551615
def loI:IntKind→Nat
 | .i8=>128
 | .i16=>32768
 | .i32=>2147483648
 | .i64=>9223372036854775808
 | _=>0
def fitI (k:IntKind):Int→Bool
 | .ofNat n=>Nat.ble n (hiI k)
 | .negSucc n=>Nat.blt n (loI k)
theorem fitI_iff {k:IntKind} {n:Int}:fitI k n=true↔k.min≤n∧n≤k.max:=by
 cases k <;> cases n <;> simp [fitI,hiI,loI,IntKind.min,IntKind.max,IntKind.signed,IntKind.bits,Nat.blt,Nat.ble_eq] <;> omega
theorem fitI_wrap (k:IntKind) (n:Int):fitI k (k.wrap n)=true:=by
 rw [fitI_iff]
 cases k <;> simp [IntKind.wrap,IntKind.min,IntKind.max,IntKind.signed,IntKind.bits] <;> (try split) <;> omega
theorem fitI_wf {k:IntKind} {n:Int} (h:(Lit.int k n).wf=true):fitI k n=true:=by
 rw [fitI_iff]
 simpa [Lit.wf] using h
theorem fitI_tmod {k:IntKind} {a b:Int} (h:fitI k a=true):fitI k (a.tmod b)=true:=by
 rw [fitI_iff] at h ⊢
 have h0:k.min≤0:=by cases k <;> simp [IntKind.min,IntKind.signed,IntKind.bits]
 have h1:0≤k.max:=by cases k <;> simp [IntKind.max,IntKind.signed,IntKind.bits]
 rcases Int.le_total 0 a with ha | ha
 · have:=Int.tmod_nonneg b ha
   have:a.tmod b≤a:=by
    have:=Int.natAbs_tmod a b
    have:=Nat.mod_le a.natAbs b.natAbs
    omega
   omega
 · have h2:a.tmod b=-((-a).tmod b):=by rw [Int.neg_tmod];omega
   have:=Int.tmod_nonneg b (show 0≤-a by omega)
   have:(-a).tmod b≤-a:=by
    have:=Int.natAbs_tmod (-a) b
    have:=Nat.mod_le (-a).natAbs b.natAbs
    omega
   omega
theorem fitI_shr {k:IntKind} {a:Int} (m:Nat) (h:fitI k a=true):fitI k (a.fdiv (2 ^ m))=true:=by
 rw [fitI_iff] at h ⊢
 have h0:k.min≤0:=by cases k <;> simp [IntKind.min,IntKind.signed,IntKind.bits]
 have h1:0≤k.max:=by cases k <;> simp [IntKind.max,IntKind.signed,IntKind.bits]
 have hp:(0:Int) < 2 ^ m:=Int.pow_pos (by omega)
 rw [Int.fdiv_eq_ediv_of_nonneg _ (by omega)]
 rcases Int.le_total 0 a with ha | ha
 · have:=Int.ediv_nonneg ha (Int.le_of_lt hp)
   have:=Int.ediv_le_self (2 ^ m) ha
   omega
 · have h2:a≤a / 2 ^ m:=by
    rw [Int.le_ediv_iff_mul_le hp]
    have h5:0≤(-a)*(2 ^ m - 1):=Int.mul_nonneg (by omega) (by omega)
    have h6:(-a)*(2 ^ m - 1)=a - a*2 ^ m:=by rw [Int.neg_mul,Int.mul_sub,Int.mul_one];omega
    omega
   have h3:a / 2 ^ m≤0:=Int.ediv_nonpos_of_nonpos_of_neg ha hp
   omega
theorem fitI_u8 (b:UInt8):fitI .u8 (b.toNat:Int)=true:=by
 have:=b.toNat_lt
 exact Nat.ble_eq_true_of_le (by omega:b.toNat≤255)
def fit:Value→Bool
 | .int k n=>fitI k n
 | .string s=>Nat.ble s.size 9223372036854775807
 | .slice _ n _=>Nat.ble n 9223372036854775807
 | .agg _=>false
 | .tuple _=>false
 | _=>true
theorem ble_of_le {n m:Nat} (h:Nat.ble m 9223372036854775807=true) (hn:n≤m):Nat.ble n 9223372036854775807=true:=Nat.ble_eq_true_of_le (Nat.le_trans hn (Nat.le_of_ble_eq_true h))
theorem fit_one {v:Value} (h:fit v=true):v.oneCell'=true:=by cases v <;> first | rfl | cases h
structure TI where
 size:Nat
 kind:Nat
 zero:List T
 offs:List Nat
 fsz:List Nat
 elem:Nat
 esz:Nat
 bytes:Nat
 ik:Option IntKind
inductive CK where
 | i (k:IntKind)
 | b
 | s
structure Env where
 P:Program
 tab:Nat→Option TI
 md:Nat→List Bool
 eqt:Nat→Option (List CK)
def look:List (Nat×AV)→Nat→AV
 | [],_=>.no
 | (k,a) :: l,j=>bif k==j then a else look l j
def St.set (st:St) (d:Option Nat) (a:AV):St :=
 match d with
 | some d=>{ st with tm:=(d,a) :: st.tm }
 | none=>st
def St.obj (st:St) (id:Nat):Option Ob:=(st.ob[id]?).join
def St.ev (st:St):Operand→AV
 | .tmp t=>look st.tm t
 | .const (.bool b)=>.lit b
 | .const (.agg cs)=>bif cs.all fit then .agg (cs.toList.map .v) else .no
 | .const v=>bif fit v then .one (.v v) else .no
 | .func f=>.one (.c f [])
 | .global _=>.no
def St.evn (st:St) (x:Operand):AV:=(st.ev x).nl
def rowAt (rows:List (List T)) (i:Nat):List T:=rows.getD i []
mutual
def frz:T→T
 | .s _ k rows=>.s false k (frzLL rows)
 | .v x=>.v x
 | .n id p ep lo len=>.n id p ep lo len
 | .p id p ep row off=>.p id p ep row off
 | .q k rows row off=>.q k rows row off
 | .b row=>.b row
 | .c g caps=>.c g caps
 | .h=>.h
def frzL:List T→List T
 | []=>[]
 | t :: l=>frz t :: frzL l
def frzLL:List (List T)→List (List T)
 | []=>[]
 | r :: l=>frzL r :: frzLL l
end
def T.fz:T→T
 | .s _ k rows=>.s false k (frzLL rows)
 | .v x=>.v x
 | _=>.h
def subR (ep lo len:Nat) (rows:List (List T)):List (List T):=bif Nat.beq ep 1 then rows else (rows.drop lo).take len
def St.res (st:St):T→Option (Nat×List (List T))
 | .s _ k rows=>some (k,rows)
 | .n id [] ep lo len=>match st.obj id with
   | some ob=>bif ob.box then none else some (ob.k,subR ep lo len ob.rows)
   | none=>none
 | _=>none
def St.len (st:St):T→Option Nat
 | .s _ _ rows=>some rows.length
 | .n id [] _ _ len=>match st.obj id with
   | some _=>some len
   | none=>none
 | _=>none
def Env.ti (E:Env) (t:Nat) (K:TI→Prop):Prop :=
 match E.tab t with
 | some ti=>K ti
 | none=>False
def intA (g:Bool) (op:BinOp) (k:IntKind) (a b:Int) (K:AV→Prop):Prop :=
 match op with
 | .shl=>(g=true→0≤b)∧K (.one (.v (.int k (k.wrap (a*2 ^ (min b.toNat k.bits))))))
 | .shr=>(g=true→0≤b)∧K (.one (.v (.int k (Int.fdiv a (2 ^ (min b.toNat k.bits))))))
 | .add=>K (.one (.v (.int k (k.wrap (a+b)))))
 | .sub=>K (.one (.v (.int k (k.wrap (a - b)))))
 | .mul=>K (.one (.v (.int k (k.wrap (a*b)))))
 | .quo=>(g=true→b≠0)∧K (.one (.v (.int k (k.wrap (Int.tdiv a b)))))
 | .rem=>(g=true→b≠0)∧K (.one (.v (.int k (Int.tmod a b))))
 | .and=>K (.one (.v (.int k (k.wrap ↑(BitVec.toNat (BitVec.ofInt k.bits a &&& BitVec.ofInt k.bits b))))))
 | .or=>K (.one (.v (.int k (k.wrap ↑(BitVec.toNat (BitVec.ofInt k.bits a ||| BitVec.ofInt k.bits b))))))
 | .xor=>K (.one (.v (.int k (k.wrap ↑(BitVec.toNat (BitVec.ofInt k.bits a ^^^ BitVec.ofInt k.bits b))))))
 | .andNot=>K (.one (.v (.int k (k.wrap ↑(BitVec.toNat (BitVec.ofInt k.bits a &&& ~~~(BitVec.ofInt k.bits b)))))))
 | .eql=>K (.one (.v (.bool (a==b))))
 | .neq=>K (.one (.v (.bool (a != b))))
 | .lss=>K (.one (.v (.bool (decide (a < b)))))
 | .leq=>K (.one (.v (.bool (decide (a≤b)))))
 | .gtr=>K (.one (.v (.bool (decide (a > b)))))
 | .geq=>K (.one (.v (.bool (decide (a≥b)))))
def strA (g:Bool) (op:BinOp) (a b:ByteArray) (K:AV→Prop):Prop :=
 match op with
 | .add=>(g=true→((a.size+b.size:Nat):Int)≤9223372036854775807)∧K (.one (.v (.string (a++b))))
 | .eql=>K (.one (.v (.bool (decide (a=b)))))
 | .neq=>K (.one (.v (.bool !(decide (a=b)))))
 | .lss=>K (.one (.v (.bool (Op.bytesLess a.toList b.toList))))
 | .leq=>K (.one (.v (.bool (Op.bytesLess a.toList b.toList||a.toList==b.toList))))
 | .gtr=>K (.one (.v (.bool !(Op.bytesLess a.toList b.toList||a.toList==b.toList))))
 | .geq=>K (.one (.v (.bool !(Op.bytesLess a.toList b.toList))))
 | _=>False
def cellEq:CK→T→T→Option Bool
 | .i k,.v (.int k1 a),.v (.int k2 b)=>bif k1==k&&k2==k then some (a==b) else none
 | .b,.v (.bool a),.v (.bool b)=>some (a==b)
 | .s,.v (.string a),.v (.string b)=>some (decide (a=b))
 | _,_,_=>none
def cellsEq:List CK→List T→List T→Option Bool
 | [],[],[]=>some true
 | c :: cs,x :: xs,y :: ys=>match cellEq c x y,cellsEq cs xs ys with
   | some a,some r=>some (a&&r)
   | _,_=>none
 | _,_,_=>none
def readCell (m:Nat) (t:T):Option T :=
 match t with
 | .s o k rows=>match m with
   | 0=>some (.s false k rows)
   | 1=>some (.s o k rows)
   | _=>bif o then (match rows with | []=>some (.s false k []) | _=>none) else some (.s false k rows)
 | .b _=>none
 | .c g caps=>match m with
   | 1=>some (.c g caps)
   | _=>none
 | t=>some t
def readCells (m:Nat):List T→Option (List T)
 | []=>some []
 | t :: l=>match readCell m t,readCells m l with
   | some a,some r=>some (a :: r)
   | _,_=>none
def nilFix (z t:T):T :=
 match t with
 | .v (.slice none 0 0)=>z
 | t=>t
def isNilT:T→Bool
 | .s true _ []=>true
 | _=>false
def nilFixes:List T→List T→List T
 | z :: zs,t :: ts=>(bif isNilT z then nilFix z t else t) :: nilFixes zs ts
 | _,ts=>ts
def constT (E:Env) (ty:Nat) (a:AV):AV :=
 match a with
 | .one (.v (.slice none 0 0))=>match E.tab ty with
   | some ti=>.one (.s true ti.esz [])
   | none=>.no
 | .agg l=>match E.tab ty with
   | some ti=>.agg (nilFixes ti.zero l)
   | none=>.no
 | a=>a
def opMove (E:Env) (ty:Nat) (K:AV→Prop) (a:AV):Operand→Prop
 | .const _=>K (constT E ty a)
 | _=>K a
def opPick (K:AV→Prop) (x y:AV):AV→Prop
 | .lit b=>match b with
   | true=>K x
   | false=>K y
 | .one (.v (.bool cb))=>(cb=true→K x)∧(cb=false→K y)
 | _=>False
def opRead (K:AV→Prop) (ti:TI):Option (Nat×List T)→Prop
 | some (frz,row)=>bif Nat.beq ti.kind 1 then (match readCells frz (row.take ti.size) with | some l=>Tr (Nat.beq l.length ti.size) (K (.agg l)) | none=>False)
    else (match row with | t :: _=>(match readCell frz t with | some t=>K (.one t) | none=>False) | []=>False)
 | none=>False
def opLoadR (K:AV→Prop) (ti:TI) (m off:Nat):Option (List T)→Prop
 | some r=>opRead K ti (some (m,r.drop off))
 | none=>False
def opReadN (K:AV→Prop) (ti:TI) (id ep row off:Nat):List T→Prop
 | .s true k rows :: l=>bif Nat.beq ti.kind 2 then K (.one (.n id [(row,off)] ep 0 rows.length)) else opRead K ti (some (2,.s true k rows :: l))
 | l=>opRead K ti (some (2,l))
def opLoadB (g:Bool) (K:AV→Prop) (ti:TI) (id ep:Nat) (rows:List (List T)) (row off:Nat) (box:Bool):Prop :=
 match box with
 | true=>opLoadR K ti 1 off rows[row]?
 | false=>∀r,(g=true→rows[row]?=some r)→opReadN K ti id ep row off (r.drop off)
def opLoad (st:St) (g:Bool) (K:AV→Prop):Option TI→AV→Prop
 | some ti,.one (.q _ rows row off)=>opLoadR K ti 0 off rows[row]?
 | some ti,.one (.p id [] _ row off)=>match st.obj id with
   | some ob=>opLoadB g K ti id ob.ep ob.rows row off ob.box
   | none=>False
 | _,_=>False
def opField (st:St) (K:AV→Prop) (f:Nat):Option TI→AV→Prop
 | some ti,.one (.q k rows row off)=>Tr (Nat.beq ti.kind 1&&Nat.blt f ti.offs.length) <| K (.one (.q k rows row (off+ti.offs.getD f 0)))
 | some ti,.one (.p id [] ep row off)=>Tr (Nat.beq ti.kind 1&&(Nat.blt f ti.offs.length&&(st.obj id).isSome)) <| K (.one (.p id [] ep row (off+ti.offs.getD f 0)))
 | _,_=>False
def opIndexA (st:St) (g:Bool) (K:AV→Prop):Option TI→AV→AV→Prop
 | some ti,.one (.s _ k rows),.one (.v (.int _ i))=>Tr (Nat.beq ti.kind 2&&Nat.beq ti.esz k) <| (g=true→0≤i∧i < (rows.length:Int))∧∀r,(g=true→rows[i.toNat]?=some r)→K (.one (.q k [r] 0 0))
 | some ti,.one (.n id [] ep lo len),.one (.v (.int _ i))=>match st.obj id with
   | some ob=>Tr (Nat.beq ti.kind 2&&Nat.beq ti.esz ob.k) <| (g=true→0≤i∧i < (len:Int))∧K (.one (.p id [] ep (lo+i.toNat) 0))
   | none=>False
 | _,_,_=>False
def opIndex (g:Bool) (K:AV→Prop):Option TI→AV→AV→Prop
 | some ti,.one (.v (.string s)),.one (.v (.int _ i))=>Tr (Nat.beq ti.kind 4) <| (g=true→0≤i∧i < (s.size:Int))∧K (.one (.v (.int .u8 ((s.data.getD i.toNat 0).toNat:Int))))
 | _,_,_=>False
def opNil (st:St) (K:AV→Prop):AV→Prop
 | .one (.p id [] ep row off)=>Tr (st.obj id).isSome <| K (.one (.p id [] ep row off))
 | .one (.q k rows row off)=>K (.one (.q k rows row off))
 | .one (.c f caps)=>K (.one (.c f caps))
 | _=>False
def opEqs (op:BinOp) (K:AV→Prop):Option Bool→Prop
 | some r=>match op with
   | .eql=>K (.one (.v (.bool r)))
   | .neq=>K (.one (.v (.bool !r)))
   | _=>False
 | none=>False
def shOk (op:BinOp) (k k':IntKind):Bool:=match op with
 | .shl=>true
 | .shr=>true
 | _=>decide (k=k')
def opBin (E:Env) (g:Bool) (op:BinOp) (t:Nat) (K:AV→Prop):AV→AV→Prop
 | .one (.v (.int k a)),.one (.v (.int k' b))=>Tr (shOk op k k') <| intA g op k a b K
 | .one (.v (.string a)),.one (.v (.string b))=>strA g op a b K
 | .one (.v (.bool a)),.one (.v (.bool b))=>E.ti t fun ti=>Tr (Nat.beq ti.kind 3) <| opEqs op K (some (a==b))
 | .agg xs,.agg ys=>match E.eqt t with
   | some ks=>opEqs op K (cellsEq ks xs ys)
   | none=>False
 | _,_=>False
def opUn (K:AV→Prop):UnOp→AV→Prop
 | .not,.one (.v (.bool b))=>K (.one (.v (.bool !b)))
 | .neg,.one (.v (.int k n))=>K (.one (.v (.int k (k.wrap (0 - n)))))
 | _,_=>False
def opConvK (K:AV→Prop) (n:Int):Option IntKind→Prop
 | some k=>K (.one (.v (.int k (k.wrap n))))
 | none=>False
def opConv (K:AV→Prop):Option TI→Option TI→AV→Prop
 | some _,some td,.one (.v (.int _ n))=>opConvK K n td.ik
 | _,_,_=>False
def u8s:List (List T)→Option (List Int)
 | []=>some []
 | [.v (.int .u8 n)] :: l=>match u8s l with
   | some ns=>some (n :: ns)
   | none=>none
 | _=>none
def opConvK8 (K:AV→Prop):Option IntKind→Option (List Int)→Prop
 | some .u8,some ns=>K (.one (.v (.string (strOfNums ns))))
 | _,_=>False
def opConvB (E:Env) (K:AV→Prop) (lo len:Nat):Option TI→Option TI→Option Ob→Prop
 | some ts,some td,some ob=>Tr (Nat.beq ts.kind 2&&(Nat.beq td.kind 4&&(!ob.box&&Nat.blt 0 len))) <| E.ti ts.elem fun te=>opConvK8 K te.ik (u8s ((ob.rows.drop lo).take len))
 | _,_,_=>False
def opConvS (E:Env) (K:AV→Prop) (src dst:Nat) (st:St):AV→Prop
 | .one (.n id [] _ lo len)=>opConvB E K lo len (E.tab src) (E.tab dst) (st.obj id)
 | av=>opConv K (E.tab src) (E.tab dst) av
def opExtract (K:AV→Prop) (i:Nat):AV→Prop
 | .tup l=>match l[i]? with
   | some a=>K a
   | none=>False
 | _=>False
def opLenN (g:Bool) (K:AV→Prop):Option Nat→Prop
 | some n=>∀m,m=n→(g=true→m≤9223372036854775807)→K (.one (.v (.int .i64 m)))
 | none=>False
def opLen (st:St) (g:Bool) (K:AV→Prop):Option TI→AV→Prop
 | some ti,.one (.v (.string s))=>Tr (Nat.beq ti.kind 4) <| ((g=true→s.size≤9223372036854775807)→K (.one (.v (.int .i64 s.size))))
 | some ti,.one t=>Tr (Nat.beq ti.kind 2) <| opLenN g K (st.len t)
 | _,_=>False
def opP (E:Env) (g:Bool) (op:Op) (ty:Nat) (st:St) (K:AV→Prop):Prop :=
 match op with
 | .move x=>opMove E ty K (st.ev x) x
 | .assign x=>opMove E ty K (st.ev x) x
 | .pick c x y=>opPick K (st.ev x) (st.ev y) (st.ev c)
 | .load t x=>opLoad st g K (E.tab t) (st.ev x)
 | .fieldAddr s x f=>opField st K f (E.tab s) (st.ev x)
 | .indexAddr t x ix=>opIndexA st g K (E.tab t) (st.ev x) (st.ev ix)
 | .index t x ix=>opIndex g K (E.tab t) (st.ev x) (st.ev ix)
 | .nilCheck x=>opNil st K (st.ev x)
 | .binOp op t x y _=>opBin E g op t K (st.evn x) (st.evn y)
 | .unOp op _ x=>opUn K op (st.evn x)
 | .convert src dst x=>opConvS E K src dst st (st.ev x)
 | .extract x i=>opExtract K i (st.ev x)
 | .call ⟨.builtin .len,⟨[x]⟩,⟨[t]⟩⟩=>opLen st g K (E.tab t) (st.ev x)
 | _=>False
def Op.pureA:Op→Bool
 | .move _ | .assign _ | .pick .. | .load .. | .fieldAddr .. | .indexAddr .. | .index .. | .nilCheck _ | .binOp .. | .unOp .. | .convert .. | .extract ..=>true
 | .call ⟨.builtin .len,_,_⟩=>true
 | _=>false
def St.kill (st:St) (id:Nat):St:={ st with ob:=st.ob.set id none }
def St.add (st:St) (o:Ob):St:={ st with ob:=st.ob++[some o] }
def extCell (st:St):T→Option (T×St)
 | .v x=>some (.v x,st)
 | .s o k rows=>bif o then (match rows with | []=>some (.s true k [],st) | _=>none) else some (.s false k rows,st)
 | .n id [] ep lo len=>match st.obj id with
   | some ob=>bif ob.box then none else some (.s true ob.k (subR ep lo len ob.rows),st.kill id)
   | none=>none
 | _=>none
def extCells (st:St):List T→Option (List T×St)
 | []=>some ([],st)
 | t :: l=>match extCell st t with
   | some (t,st)=>match extCells st l with
     | some (l,st)=>some (t :: l,st)
     | none=>none
   | none=>none
def AV.cellsOf:AV→Option (List T)
 | .one t=>some [t]
 | .agg l=>some l
 | _=>none
def inCell (st:St):T→T×St
 | .s true k rows=>(.n st.ob.length [] 1 0 rows.length,st.add ⟨k,false,rows,0⟩)
 | t=>(t,st)
def inCells (st:St):List T→List T×St
 | []=>([],st)
 | t :: l=>let (t,st):=inCell st t;let (l,st):=inCells st l;(t :: l,st)
def inAV (st:St):AV→AV×St
 | .one (.b row)=>let (row,st):=inCells st row;(.one (.p st.ob.length [] 0 0 0),st.add ⟨row.length,true,[row],0⟩)
 | .one t=>let (t,st):=inCell st t;(.one t,st)
 | .agg l=>let (l,st):=inCells st l;(.agg l,st)
 | a=>(a,st)
def inAVs (st:St):List AV→List AV×St
 | []=>([],st)
 | a :: l=>let (a,st):=inAV st a;let (l,st):=inAVs st l;(a :: l,st)
def inRes (st:St):AV→AV×St
 | .tup l=>let (l,st):=inAVs st l;(.tup l,st)
 | a=>inAV st a
def ro (st:St):T→Option T
 | .v x=>some (.v x)
 | .s _ k rows=>some (.s false k rows)
 | .n id path ep lo len=>match st.res (.n id path ep lo len) with
   | some (k,rows)=>some (.s false k rows)
   | none=>none
 | .q k rows row off=>some (.q k rows row off)
 | .c g []=>some (.c g [])
 | _=>none
def roCells (st:St):List T→Option (List T)
 | []=>some []
 | t :: l=>match ro st t,roCells st l with
   | some t,some l=>some (t :: l)
   | _,_=>none
def roBox (st:St):T→Option T
 | .p id [] _ row off=>match st.obj id with
   | some ob=>bif ob.box then (match roCells st (rowAt ob.rows 0) with | some r=>bif row==0 then some (.q ob.k [r] 0 off) else none | none=>none) else none
   | none=>none
 | t=>ro st t
def roCaps (st:St):List T→Option (List T)
 | []=>some []
 | t :: l=>match roBox st t,roCaps st l with
   | some t,some l=>some (t :: l)
   | _,_=>none
def roAV (st:St):AV→Option AV
 | .one (.c g caps)=>(roCaps st caps).map fun l=>.one (.c g l)
 | .one (.p id path ep row off)=>(roBox st (.p id path ep row off)).map .one
 | .one t=>(ro st t).map .one
 | .agg l=>(roCells st l).map .agg
 | _=>none
structure Out where
 res:AV
 outs:List AV
 keep:List (List Nat)
 al:Bool
def roArgs (st:St):List AV→Option (List AV)
 | []=>some []
 | a :: l=>match roAV st a,roArgs st l with
   | some a,some l=>some (a :: l)
   | _,_=>none
def T.noRef:T→Bool
 | .v _=>true
 | .s _ _ _=>true
 | .q _ _ _ _=>true
 | .c _ []=>true
 | _=>false
def AV.noRef:AV→Bool
 | .one t=>t.noRef
 | .agg l=>l.all T.noRef
 | _=>false
def St.pad (st:St):St:={ st with ob:=st.ob++[none] }
inductive FzE:T→T→Prop
 | same (t:T):FzE t t
 | sl (o:Bool) (k:Nat) (rows rows':List (List T)) (h:frzLL rows=rows'):FzE (.s o k rows) (.s false k rows')
inductive FzEs:List T→List T→Prop
 | nil:FzEs [] []
 | cons {t t':T} {l l':List T} (h:FzE t t') (h':FzEs l l'):FzEs (t :: l) (t' :: l')
inductive FzA:AV→AV→Prop
 | same (a:AV):FzA a a
 | one {t t':T} (h:FzE t t'):FzA (.one t) (.one t')
 | agg {l l':List T} (h:FzEs l l'):FzA (.agg l) (.agg l')
inductive FzAs:List AV→List AV→Prop
 | same (l:List AV):FzAs l l
 | cons {a a':AV} {l l':List AV} (h:FzA a a') (h':FzAs l l'):FzAs (a :: l) (a' :: l')
inductive FzX:T→T→Prop
 | same (t:T):FzX t t
 | sl (o:Bool) (k:Nat) (rows rows':List (List T)) (h:frzLL rows=rows'):FzX (.s o k rows) (.s false k rows')
 | inn (k:Nat) (rows rows':List (List T)) (h:frzLL rows=rows'):FzX (.s true k rows) (.s true k rows')
inductive FzXs:List T→List T→Prop
 | same (l:List T):FzXs l l
 | cons {t t':T} {l l':List T} (h:FzX t t') (h':FzXs l l'):FzXs (t :: l) (t' :: l')
inductive FzR:AV→AV→Prop
 | same (a:AV):FzR a a
 | one {t t':T} (h:FzX t t'):FzR (.one t) (.one t')
 | agg {l l':List T} (h:FzXs l l'):FzR (.agg l) (.agg l')
inductive FzRs:List AV→List AV→Prop
 | same (l:List AV):FzRs l l
 | cons {a a':AV} {l l':List AV} (h:FzR a a') (h':FzRs l l'):FzRs (a :: l) (a' :: l')
inductive FzQ:AV→AV→Prop
 | one {a a':AV} (h:FzR a a') (hp:∀l,a≠.tup l) (hp':∀l,a'≠.tup l):FzQ a a'
 | tup {l l':List AV} (h:FzRs l l'):FzQ (.tup l) (.tup l')
def cellsN (m:Nat):List T→List T
 | []=>[]
 | .s true _ rows :: l=>.n m [] 1 0 rows.length :: cellsN (m+1) l
 | t :: l=>t :: cellsN m l
def obsN:List T→List (Option Ob)
 | []=>[]
 | .s true k rows :: l=>some ⟨k,false,rows,0⟩ :: obsN l
 | _ :: l=>obsN l
def avN (m:Nat):AV→AV
 | .one (.b row)=>.one (.p (m+(obsN row).length) [] 0 0 0)
 | .one (.s true _ rows)=>.one (.n m [] 1 0 rows.length)
 | .agg l=>.agg (cellsN m l)
 | a=>a
def avO (m:Nat):AV→List (Option Ob)
 | .one (.b row)=>obsN row++[some ⟨(cellsN m row).length,true,[cellsN m row],0⟩]
 | .one (.s true k rows)=>[some ⟨k,false,rows,0⟩]
 | .agg l=>obsN l
 | _=>[]
def avsN (m:Nat):List AV→List AV
 | []=>[]
 | a :: l=>avN m a :: avsN (m+(avO m a).length) l
def avsO (m:Nat):List AV→List (Option Ob)
 | []=>[]
 | a :: l=>avO m a++avsO (m+(avO m a).length) l
def resN (m:Nat):AV→AV
 | .tup l=>.tup (avsN m l)
 | a=>avN m a
def resO (m:Nat):AV→List (Option Ob)
 | .tup l=>avsO m l
 | a=>avO m a
def inK (st:St) (K:St→AV→Prop) (a:AV):Prop:=∀m,m=st.ob.length→K { st with ob:=st.ob++resO m a } (resN m a)
theorem inCell_N (st:St) (t:T) (l:List T):inCells st (t :: l)=(let x:=inCell st t;let y:=inCells x.2 l;(x.1 :: y.1,y.2)):=rfl
theorem inCells_N:∀(l:List T) (st:St),inCells st l=(cellsN st.ob.length l,{ st with ob:=st.ob++obsN l })
 | [],st=>by simp [inCells,cellsN,obsN]
 | t :: l,st=>by
   rw [inCell_N]
   have h:=inCells_N l
   cases t with
   | s o k rows=>cases o <;> simp [inCell,h,cellsN,obsN,St.add]
   | _=>simp [inCell,h,cellsN,obsN]
theorem inAV_N (st:St) (a:AV):inAV st a=(avN st.ob.length a,{ st with ob:=st.ob++avO st.ob.length a }):=by
 cases a with
 | one t =>
   cases t with
   | b row=>simp [inAV,inCells_N,avN,avO,St.add]
   | s o k rows=>cases o <;> simp [inAV,inCell,avN,avO,St.add]
   | _=>simp [inAV,inCell,avN,avO]
 | agg l=>simp [inAV,inCells_N,avN,avO]
 | _=>simp [inAV,avN,avO]
theorem inAVs_N:∀(l:List AV) (st:St),inAVs st l=(avsN st.ob.length l,{ st with ob:=st.ob++avsO st.ob.length l })
 | [],st=>by simp [inAVs,avsN,avsO]
 | a :: l,st=>by
   have h:=inAVs_N l
   show (let x:=inAV st a;let y:=inAVs x.2 l;(x.1 :: y.1,y.2))=_
   simp only [inAV_N,h]
   simp [avsN,avsO,List.append_assoc]
theorem inRes_N (st:St) (a:AV):inRes st a=(resN st.ob.length a,{ st with ob:=st.ob++resO st.ob.length a }):=by
 cases a with
 | tup l=>simp [inRes,inAVs_N,resN,resO]
 | _=>simp [inRes,inAV_N,resN,resO]
theorem inK.get {st:St} {K:St→AV→Prop} {a:AV} (h:inK st K a):K (inRes st a).2 (inRes st a).1:=by
 rw [inRes_N];exact h _ rfl
def callA (F:Nat→List AV→Out→Prop) (f:Nat) (args:List AV) (st:St) (K:St→AV→Prop):Prop :=
 match roArgs st args with
 | some as=>∃as' out,F f as' out∧FzAs as as'∧Tr (out.outs.isEmpty&&(!out.al||args.all AV.noRef)) (inK st.pad K out.res)
 | none=>False
def forceL {α:Type}:List α→(List α→Prop)→Prop
 | [],K=>K []
 | x :: l,K=>forceL l fun l'=>K (x :: l')
theorem forceL_eq {α:Type}:∀(l:List α) (K:List α→Prop),forceL l K=K l
 | [],_=>rfl
 | x :: l,K=>by unfold forceL;exact forceL_eq l _
def fillRow:List T→Nat→List T→List T
 | [],_,cs=>cs
 | x :: row,n+1,cs=>x :: fillRow row n cs
 | x :: row,0,[]=>x :: row
 | _ :: row,0,c :: cs=>c :: fillRow row 0 cs
theorem fillRow_eq:∀(row:List T) (off:Nat) (cells:List T),fillRow row off cells=row.take off++cells++row.drop (off+cells.length)
 | [],_,cs=>by simp [fillRow]
 | x :: row,n+1,cs=>by simp [fillRow,fillRow_eq row n cs,Nat.add_right_comm n 1]
 | x :: row,0,[]=>by simp [fillRow]
 | x :: row,0,c :: cs=>by simp [fillRow,fillRow_eq row 0 cs]
def T.isV:T→Bool
 | .v _=>true
 | _=>false
def T.flat:T→T
 | .v x=>.v x
 | _=>.h
def rowsFz (rows:List (List T)):List (List T):=rows.map (List.map T.fz)
def T.sh:T→T
 | .s false k rows=>.s false k rows
 | .v x=>.v x
 | _=>.h
def rowsSh (rows:List (List T)):List (List T):=rows.map (List.map T.sh)
def rowsFlat (rows:List (List T)):List (List T):=rows.map (List.map T.flat)
def evs (st:St):List Operand→List AV
 | []=>[]
 | x :: l=>st.evn x :: evs st l
def T.isC:T→Bool
 | .c _ _=>true
 | _=>false
def capsOf:List AV→Option (List T)
 | []=>some []
 | a :: l=>match a,capsOf l with
   | .one t,some r=>bif t.isC then none else some (t :: r)
   | _,_=>none
def fillParts (ti:TI):List T→List (Nat×AV)→(List T→Prop)→Prop
 | row,[],K=>K row
 | row,(i,a) :: l,K=>match a.cellsOf with
   | some cs=>Tr (Nat.beq cs.length (ti.fsz.getD i 0)&&(Nat.blt i ti.offs.length&&(Nat.blt i ti.fsz.length&&Nat.ble (ti.offs.getD i 0+cs.length) row.length))) <| forceL (fillRow row (ti.offs.getD i 0) cs) fun row'=>fillParts ti row' l K
   | none=>False
def partsA (st:St):List (Nat×Operand)→List (Nat×AV)
 | []=>[]
 | (i,x) :: l=>(i,st.evn x) :: partsA st l
def avsOf (st:St):List (Nat×Operand)→List AV
 | []=>[]
 | (_,x) :: l=>st.evn x :: avsOf st l
def seqFrom:Nat→List (Nat×Operand)→Bool
 | _,[]=>true
 | j,(i,_) :: l=>i==j&&seqFrom (j+1) l
def buildRows (st:St) (z:List T):List AV→Option (List (List T)×St)
 | []=>some ([],st)
 | a :: l=>match a.cellsOf with
   | some cs=>match extCells st (nilFixes z cs) with
     | some (r,st)=>match buildRows st z l with
       | some (rs,st)=>some (r :: rs,st)
       | none=>none
     | none=>none
   | none=>none
def bound2 (lo hi n:Int):Prop:=0≤lo∧lo≤hi∧hi≤n
def optInt (st:St) (x:Option Operand) (d:Int) (K:Int→Prop):Prop :=
 match x with
 | none=>K d
 | some x=>match st.ev x with
   | .one (.v (.int _ n))=>K n
   | _=>False
def storeS (st:St) (K:St→AV→Prop) (id row off:Nat) (cs:List T):Option Ob→Prop
 | some ob=>Tr (Nat.ble (off+cs.length) ob.k) <| ∀rows',rows'=ob.rows.set row (fillRow (rowAt ob.rows row) off cs)→K { st with ob:=st.ob.set id (some { ob with rows:=rows',ep:=ob.ep+1 }) } .no
 | none=>False
def storeX (K:St→AV→Prop) (id row off:Nat):Option (List T×St)→Prop
 | some (cs,st)=>storeS st K id row off cs (st.obj id)
 | none=>False
def T.fzT:T→T
 | .s _ k rows=>.s false k (frzLL rows)
 | t=>t
def fzTs:List T→List T
 | []=>[]
 | t :: l=>t.fzT :: fzTs l
def storeF (K:St→AV→Prop) (id row off:Nat):Option (List T×St)→Prop
 | some (cs,st)=>storeX K id row off (extCells st (fzTs cs))
 | none=>False
def storeK (st:St) (K:St→AV→Prop) (id row off:Nat) (cs:List T):Option Ob→Prop
 | some ob=>bif ob.box then Tr (Nat.ble (off+cs.length) ob.k) <| forceL (fillRow (rowAt ob.rows 0) off cs) fun row'=>K { st with ob:=st.ob.set id (some { ob with rows:=[row'] }) } .no
    else storeX K id row off (extCells st cs)∨storeF K id row off (extCells st cs)
 | none=>False
def srcOf (st:St) (te:TI):T→Option (Nat×List (List T)×St)
 | .s _ k ys=>some (k,rowsFz ys,st)
 | .n id [] ep lo len=>match st.obj id with
   | some ob=>bif ob.box then none else bif te.zero.all T.isV then some (ob.k,rowsFlat (subR ep lo len ob.rows),st) else some (ob.k,subR ep lo len ob.rows,st.kill id)
   | none=>none
 | _=>none
def srcSh (st:St):T→Option (Nat×List (List T)×St)
 | .n id [] ep lo len=>match st.obj id with
   | some ob=>bif ob.box then none else some (ob.k,rowsSh (subR ep lo len ob.rows),st)
   | none=>none
 | _=>none
def appN (st:St) (te:TI) (K:St→AV→Prop) (id ep lo len:Nat) (ys:List (List T)):Option Ob→Prop
 | some ob=>Tr (!ob.box&&Nat.beq ob.k te.size) <| ∀rows',rows'=subR ep lo len ob.rows++ys→(rows'.length*te.bytes≤140737488355328∧rows'.length≤9223372036854775807) ∧
    ∀m,m=st.ob.length→K ((st.kill id).add ⟨te.size,false,rows',0⟩) (.one (.n m [] 1 0 rows'.length))
 | none=>False
def appE (st:St) (te:TI) (K:St→AV→Prop) (ys:List (List T)):Prop :=
 ∀rows',rows'=ys→(rows'.length*te.bytes≤140737488355328∧rows'.length≤9223372036854775807)∧∀m,m=st.ob.length→K (st.add ⟨te.size,false,rows',0⟩) (.one (.n m [] 1 0 rows'.length))
def appS (st:St) (te:TI) (K:St→AV→Prop) (x:AV):Option (Nat×List (List T)×St)→Prop
 | some (k,ys,st)=>Tr (Nat.beq k te.size) <| match x with
   | .one (.s true _ [])=>appE st te K ys
   | .one (.v (.slice none 0 0))=>appE st te K ys
   | .one (.n id [] ep lo len)=>appN st te K id ep lo len ys (st.obj id)
   | _=>False
 | none=>False
def appF (te:TI) (K:St→AV→Prop) (x:AV):Option (T×St)→Prop
 | some (y,st)=>appS st te K x (srcOf st te y.fzT)
 | none=>False
def St.hole (st:St) (id row off:Nat) (ob:Ob):St:={ st with ob:=(st.ob.set id (some { ob with rows:=ob.rows.set row (fillRow (rowAt ob.rows row) off [.h]),ep:=ob.ep+1 }))++[none] }
def St.lift (st:St) (id row off:Nat) (ob:Ob) (k:Nat) (rows:List (List T)):St:=(st.hole id row off ob).add ⟨k,false,rows,0⟩
def liftX (m n k:Nat):List (Nat×Nat)→Nat→Option T
 | [],_=>some (.n m [] 1 0 n)
 | [(lo,k')],len=>bif Nat.beq k' k then some (.n m [] 0 lo len) else none
 | _,_=>none
def appD (st:St) (te:TI) (K:St→AV→Prop) (x:AV) (y:T):Prop:=match x,y with
 | .one (.n id [] ep lo len),.n id2 [] ep2 lo2 len2=>Tr (Nat.beq id2 id) <| match st.obj id with
   | some ob=>Tr (!ob.box&&Nat.beq ob.k te.size) <| lo+len≤lo2∧∀rows',rows'=subR ep lo len ob.rows++subR ep2 lo2 len2 ob.rows→(rows'.length*te.bytes≤140737488355328∧rows'.length≤9223372036854775807) ∧
      ∀m,m=st.ob.length→K ((st.kill id).add ⟨te.size,false,rows',0⟩) (.one (.n m [] 1 0 rows'.length))
   | none=>False
 | _,_=>False
def appL3 (st:St) (te:TI) (K:St→AV→Prop) (x:AV):Option T→Prop
 | some y=>appS st te K x (srcOf st te y)∨(appS st te K x (srcSh st y)∨appD st te K x y)
 | none=>False
def appL2 (st:St) (te:TI) (K:St→AV→Prop) (m n k id row off ep:Nat) (x:AV):T→Prop
 | .n id2 ((row2,off2) :: p2) ep2 _ len2=>Tr (Nat.beq id2 id&&(Nat.beq off2 off&&Nat.beq ep2 ep)) (row2=row∧appL3 st te K x (liftX m n k p2 len2))
 | y=>appS st te K x (srcOf st te y)∨(appS st te K x (srcSh st y)∨appF te K x (extCell st y))
def appL1 (st:St) (te:TI) (K:St→AV→Prop) (m id row off:Nat) (ob:Ob) (p:List (Nat×Nat)) (len:Nat) (y:T):List T→Prop
 | .s true k rows :: _=>match liftX m rows.length k p len with
   | some x=>appL2 (st.lift id row off ob k rows) te K m rows.length k id row off ob.ep (.one x) y
   | none=>False
 | _=>False
def appY1 (st:St) (te:TI) (K:St→AV→Prop) (m id row off:Nat) (ob:Ob) (p:List (Nat×Nat)) (len:Nat) (x:AV):List T→Prop
 | .s true k rows :: _=>appL3 (st.lift id row off ob k rows) te K x (liftX m rows.length k p len)
 | _=>False
def appY (st:St) (te:TI) (K:St→AV→Prop) (x:AV):T→Prop
 | .n id ((row,off) :: p) ep _ len=>match st.obj id with
   | some ob=>Tr (!ob.box&&(Nat.beq ep ob.ep&&Nat.ble p.length 1)) (∀r,(true=true→ob.rows[row]?=some r)→∀m,m=st.ob.length+1→appY1 st te K m id row off ob p len x (r.drop off))
   | none=>False
 | _=>False
def appL (st:St) (te:TI) (K:St→AV→Prop) (y:T):AV→Prop
 | .one (.n id ((row,off) :: p) ep _ len)=>match st.obj id with
   | some ob=>Tr (!ob.box&&(Nat.beq ep ob.ep&&Nat.ble p.length 1)) (∀r,(true=true→ob.rows[row]?=some r)→∀m,m=st.ob.length+1→appL1 st te K m id row off ob p len y (r.drop off))
   | none=>False
 | x=>appY st te K x y
def sliceD (st:St) (K:St→AV→Prop) (hi:Option Operand) (lo:Int) (esz id row off ep:Nat):List T→Prop
 | .s true k rows :: _=>Tr (Nat.beq esz k) <| optInt st hi rows.length fun hi=>bound2 lo hi rows.length∧K st (.one (.n id [(row,off),(lo.toNat,k)] ep rows.length (hi.toNat - lo.toNat)))
 | _=>False
def muArgs (st:St) (m:AV):Nat→List AV→Option (List AV)
 | _,[]=>none
 | 0,_ :: l=>match roArgs st l with
   | some l=>some (m :: l)
   | none=>none
 | j+1,a :: l=>match roAV st a,muArgs st m j l with
   | some a,some l=>some (a :: l)
   | _,_=>none
def noRefX:Nat→List AV→Bool
 | _,[]=>true
 | 0,_ :: l=>l.all AV.noRef
 | j+1,a :: l=>a.noRef&&noRefX j l
def foldK (op:Int→Int→Int) (k:IntKind) (K:Int→Prop):Int→List AV→Prop
 | acc,[]=>K acc
 | acc,.one (.v (.int k' b)) :: l=>Tr (decide (k=k')) <| foldK op k K (op acc b) l
 | _,_=>False
def capOk (st:St):T→Bool
 | .p id [] _ _ _=>match st.obj id with
   | some ob=>ob.box&&(rowAt ob.rows 0).all T.noRef
   | none=>false
 | t=>t.noRef
def argOkX (st:St):AV→Bool
 | .one (.c _ caps)=>caps.all (capOk st)
 | a=>a.noRef
inductive OwnT:T→Prop
 | v (x:Value):OwnT (.v x)
 | h:OwnT .h
 | nil (o:Bool) (k:Nat):OwnT (.s o k [])
 | s (k:Nat) (rows:List (List T)) (hr:∀r∈rows,∀t∈r,OwnT t):OwnT (.s true k rows)
def freshN (i:Nat):List Nat→Bool
 | []=>true
 | j :: l=>!(Nat.beq i j)&&freshN i l
def T.flatB:T→Bool
 | .v _=>true
 | .s false _ _=>true
 | _=>false
def extM (st:St) (us:Nat→Value):Nat→List Bool→List T→Option (List T×St)
 | _,_,[]=>some ([],st)
 | i,true :: ks,_ :: l=>match extM st us (i+1) ks l with
   | some (l,st)=>some (.v (us i) :: l,st)
   | none=>none
 | i,ks,t :: l=>match extCell st t with
   | some (t,st)=>match extM st us (i+1) ks.tail l with
     | some (l,st)=>some (t :: l,st)
     | none=>none
   | none=>none
def mergeM:List Bool→List T→List T→List T
 | _,_,[]=>[]
 | _,[],l=>l
 | true :: ks,t :: l,_ :: l'=>t :: mergeM ks l l'
 | ks,_ :: l,t :: l'=>t :: mergeM ks.tail l l'
def opqM (us:Nat→Value):Nat→List Bool→List T→Prop
 | i,true :: ks,t :: l=>t=.v (us i)∧opqM us (i+1) ks l
 | i,false :: ks,_ :: l=>opqM us (i+1) ks l
 | _,_,_=>True
def muV2 (j:Nat) (K:St→AV→Prop) (id:Nat) (ob:Ob) (ks:List Bool) (st1:St) (row2:List T) (res:AV):Prop :=
 ∃(α:Type) (x:α) (cv:α→List T) (rf:α→AV),row2=cv x∧res=rf x∧∀y,y=x→∀m,m=st1.ob.length+1→forceL (mergeM ks (rowAt ob.rows 0) (cellsN m (cv y))) fun c =>
  inK { st1 with ob:=(st1.ob.set id (some { ob with rows:=[c],ep:=ob.ep+1 }))++none :: obsN (cv y) } K (rf y)
def muV1 (F:Nat→List AV→Out→Prop) (f:Nat) (args:List AV) (j:Nat) (K:St→AV→Prop) (id:Nat) (ob:Ob) (ks:List Bool) (us:Nat→Value) (st1:St):Option (List AV)→Prop
 | some as=>∃as' row' row2 res al,F f as' ⟨res,[.one (.b row')],[],al⟩∧FzAs as as'∧FzXs row' row2∧Tr (ob.box&&(noRefX j args&&Nat.beq row2.length (rowAt ob.rows 0).length)) (opqM us 0 ks row2∧muV2 j K id ob ks st1 row2 res)
 | none=>False
def muV0 (F:Nat→List AV→Out→Prop) (f:Nat) (args:List AV) (j:Nat) (K:St→AV→Prop) (id:Nat) (ob:Ob) (ks:List Bool) (us:Nat→Value):Option (List T×St)→Prop
 | some (ts,st1)=>∃ts',FzXs ts ts'∧muV1 F f args j K id ob ks us st1 (muArgs st1 (.tup [.one (.b ts')]) j args)
 | none=>False
def muV (F:Nat→List AV→Out→Prop) (f:Nat) (args:List AV) (j:Nat) (st:St) (K:St→AV→Prop) (id:Nat):Option Ob→Prop
 | some ob=>∃ks,∀us:Nat→Value,(∀i,fit (us i)=true)→muV0 F f args j K id ob ks us (extM (st.kill id) us 0 ks (rowAt ob.rows 0))
 | none=>False
def muT (F:Nat→List AV→Out→Prop) (f:Nat) (args:List AV) (j:Nat) (st:St) (K:St→AV→Prop):Option AV→Prop
 | some (.one (.p id [] ep 0 0))=>muV F f args j st K id (st.obj id)
 | _=>False
def callM (F:Nat→List AV→Out→Prop) (f:Nat) (args:List AV) (st:St) (K:St→AV→Prop):Prop:=∃j,muT F f args j st K args[j]?
def constO (E:Env) (ty:Nat) (a:AV):Operand→AV
 | .const _=>constT E ty a
 | _=>a
def opS (E:Env) (F:Nat→List AV→Out→Prop) (op:Op) (ty:Nat) (st:St) (K:St→AV→Prop):Prop :=
 match op with
 | .alloc t=>E.ti t fun ti=>∀m,m=st.ob.length→K (st.add ⟨ti.size,true,[ti.zero],0⟩) (.one (.p m [] 0 0 0))
 | .box t x=>E.ti t fun ti=>match (constO E t (st.evn x) x).cellsOf with
    | some cs=>Tr (Nat.beq cs.length ti.size) <| ∀m,m=st.ob.length→K (st.add ⟨ti.size,true,[cs],0⟩) (.one (.p m [] 0 0 0))
    | none=>False
 | .build t parts=>E.ti t fun ti=>Tr (Nat.beq ti.kind 1) <| fillParts ti ti.zero (partsA st parts.toList) fun cs=>K st (.agg (nilFixes ti.zero cs))
 | .buildSlice t n parts=>E.ti t fun ti=>E.ti ti.elem fun te =>
    match buildRows st te.zero (avsOf st parts.toList) with
    | some (rows,st)=>Tr (Nat.beq ti.kind 2&&(Nat.beq rows.length n&&(seqFrom 0 parts.toList&&(Nat.ble (n*te.size) 16777216&&(Nat.ble n 16777216&&rows.all fun r=>Nat.beq r.length te.size))))) <|
       ((∀m,m=st.ob.length→K (st.add ⟨te.size,false,rows,0⟩) (.one (.n m [] 1 0 rows.length)))∨Tr (rows.all fun r=>r.all T.isV) (K st (.one (.s false te.size rows))))
    | none=>False
 | .makeFunc (.func f) first caps=>match first.toList,capsOf (evs st caps.toList) with
    | [],some cs=>K st (.one (.c f cs))
    | _,_=>False
 | .makeSlice t l c=>E.ti t fun ti=>E.ti ti.elem fun te=>match st.ev l,st.ev c with
    | .one (.v (.int _ l)),.one (.v (.int _ c))=>Tr (Nat.beq ti.kind 2) <| (l=c∧0≤l∧(te.bytes:Int)*l≤281474976710656∧l≤9223372036854775807) ∧
       ∀rows',rows'=List.replicate l.toNat te.zero→∀m,m=st.ob.length→K (st.add ⟨te.size,false,rows',0⟩) (.one (.n m [] 1 0 rows'.length))
    | _,_=>False
 | .slice t x lo hi none=>E.ti t fun ti=>optInt st lo 0 fun lo=>match st.ev x with
    | .one (.v (.string s))=>Tr (Nat.beq ti.kind 4) <| optInt st hi s.size fun hi=>bound2 lo hi s.size∧K st (.one (.v (.string (s.extract lo.toNat hi.toNat))))
    | .one (.s o k rows)=>Tr (Nat.beq ti.kind 2&&Nat.beq ti.esz k) <| optInt st hi rows.length fun hi=>bound2 lo hi rows.length∧∀rows',rows'=(rows.drop lo.toNat).take (hi.toNat - lo.toNat)→K st (.one (.s o k rows'))
    | .one (.n id [] ep l len)=>match st.obj id with
      | some ob=>Tr (Nat.beq ti.kind 2&&Nat.beq ti.esz ob.k) <| optInt st hi len fun hi=>bound2 lo hi len∧K st (.one (.n id [] 0 (l+lo.toNat) (hi.toNat - lo.toNat)))
      | none=>False
    | .one (.n id [(row,off)] ep _ _)=>match st.obj id with
      | some ob=>Tr (Nat.beq ti.kind 2&&(!ob.box&&Nat.beq ep ob.ep)) <| ∀r,(true=true→ob.rows[row]?=some r)→sliceD st K hi lo ti.esz id row off ep (r.drop off)
      | none=>False
    | _=>False
 | .store t x y=>match st.ev x,(constO E t (st.evn y) y).cellsOf with
    | .one (.p id [] _ row off),some cs=>E.ti t fun ti=>Tr (Nat.beq cs.length ti.size) <| storeK st K id row off cs (st.obj id)
    | _,_=>False
 | .call c=>match c.callee with
    | .value f=>match st.ev f with
      | .one (.c f caps)=>callA F f (evs st c.args.toList++caps.map .one) st K∨callM F f (evs st c.args.toList++caps.map .one) st K
      | _=>False
    | .builtin .append=>match evs st c.args.toList,c.argTypes.toList with
      | [x,.one y],[tx,ty']=>E.ti tx fun ti=>E.ti ti.elem fun te=>E.ti ty' fun ti'=>Tr (Nat.beq ti.kind 2&&(Nat.beq ti'.kind 2&&Nat.blt 0 te.size)) <| appS st te K x (srcOf st te y)∨(appS st te K x (srcSh st y)∨(appF te K x (extCell st y)∨appL st te K y x))
      | _,_=>False
    | .builtin .min=>match evs st c.args.toList with
      | .one (.v (.int k a)) :: l=>foldK min k (fun r=>K st (.one (.v (.int k r)))) a l
      | _=>False
    | .builtin .max=>match evs st c.args.toList with
      | .one (.v (.int k a)) :: l=>foldK max k (fun r=>K st (.one (.v (.int k r)))) a l
      | _=>False
    | _=>False
 | _=>False
def guardV (st:St) (d:Nat) (want:Bool) (K0 K1:St→Prop):AV→Prop
 | .lit b=>match b with
   | true=>(match want with | true=>K1 st | false=>K0 st)
   | false=>(match want with | true=>K0 st | false=>K1 st)
 | .one (.v (.bool b))=>(b=want→K1 (st.set (some d) (.lit want)))∧(b=(!want)→K0 (st.set (some d) (.lit !want)))
 | .may false .no=>K0 st
 | _=>False
def guardD (st:St) (want:Bool) (K0 K1:St→Prop):Option Nat→Prop
 | some d=>guardV st d want K0 K1 (look st.tm d)
 | none=>False
def callG (F:Nat→List AV→Out→Prop) (f:Nat) (args:List AV) (st:St) (K:AV→Prop):Prop :=
 match roArgs st args with
 | some as=>∃as' r,F f as' ⟨.one (.v r),[],[],false⟩∧FzAs as as'∧K (.one (.v r))
 | _=>False
def stK (st:St) (d:Option Nat) (a:AV) (K:St→Prop):Prop :=
 match st with
 | ⟨tm,ob,pr⟩=>match d with
   | some k=>forceL ob fun ob=>K ⟨(k,a) :: tm,ob,pr⟩
   | none=>forceL ob fun ob=>K ⟨tm,ob,pr⟩
theorem stK_eq (st:St) (d:Option Nat) (a:AV) (K:St→Prop):stK st d a K=K (st.set d a):=by
 cases st;cases d <;> simp only [stK,forceL_eq] <;> rfl
def wpOps (E:Env) (F:Nat→List AV→Out→Prop) (ops:Array Oper) (Q:St→Prop):List Oper→St→Prop
 | [],st=>Q st
 | ⟨d,op,ty,_,_,none⟩ :: l,st =>
     bif Op.pureA op then opP E true op ty st fun a=>stK st d a (wpOps E F ops Q l)
     else opS E F op ty st fun st a=>stK st d a (wpOps E F ops Q l)
 | ⟨d,op,ty,_,_,some (j,want)⟩ :: l,st=>guardD st want (fun st=>stK st d (.may false .no) (wpOps E F ops Q l))
     (fun st=>bif Op.pureA op then opP E true op ty st fun a=>stK st d a (wpOps E F ops Q l)
       else opS E F op ty st fun st a=>stK st d a (wpOps E F ops Q l))
     ((ops[j]?).bind (·.dst))
def callQ (F:Nat→List AV→Out→Prop) (op:Op) (st:St) (K:AV→Prop):Prop :=
 match op with
 | .call ⟨.value x,args,_⟩=>match st.ev x with
   | .one (.c f caps)=>callG F f (evs st args.toList++caps.map .one) st K
   | _=>False
 | _=>False
def partS (st:St) (lo:Int) (hi:Option Operand) (ti:TI) (K:AV→Prop):AV→Prop
 | .one (.v (.string s))=>Tr (Nat.beq ti.kind 4) <| optInt st hi s.size fun hi=>bound2 lo hi s.size∧K (.one (.v (.string (s.extract lo.toNat hi.toNat))))
 | _=>False
def quietQ (E:Env) (F:Nat→List AV→Out→Prop) (op:Op) (st:St) (K:AV→Prop):Prop :=
 match op with
 | .slice t x lo hi none=>E.ti t fun ti=>optInt st lo 0 fun lo=>partS st lo hi ti K (st.ev x)
 | .call c=>callQ F (.call c) st K
 | _=>False
def wpOpsQ (E:Env) (F:Nat→List AV→Out→Prop) (ops:Array Oper) (Q:St→Prop):List Oper→St→Prop
 | [],st=>Q st
 | ⟨d,op,ty,_,_,none⟩ :: l,st =>
     bif Op.pureA op then opP E true op ty st fun a=>stK st d a (wpOpsQ E F ops Q l)
     else quietQ E F op st fun a=>stK st d a (wpOpsQ E F ops Q l)
 | ⟨d,op,ty,_,_,some (j,want)⟩ :: l,st=>guardD st want (fun st=>stK st d (.may false .no) (wpOpsQ E F ops Q l))
     (fun st=>bif Op.pureA op then opP E true op ty st fun a=>stK st d a (wpOpsQ E F ops Q l)
       else quietQ E F op st fun a=>stK st d a (wpOpsQ E F ops Q l))
     ((ops[j]?).bind (·.dst))
def callH (E:Env) (F:Nat→List AV→Out→Prop) (op:Op) (ty:Nat) (st:St) (K:St→AV→Prop):Prop :=
 match op with
 | .call ⟨.value x,args,tys⟩=>match st.ev x with
   | .one (.c f caps)=>callA F f (evs st args.toList++caps.map .one) st K
   | _=>False
 | _=>False
def quietC (E:Env) (F:Nat→List AV→Out→Prop) (op:Op) (st:St) (K:AV→Prop):Prop :=
 match op with
 | .build t parts=>E.ti t fun ti=>Tr (Nat.beq ti.kind 1) <| fillParts ti ti.zero (partsA st parts.toList) fun cs=>K (.agg (nilFixes ti.zero cs))
 | .call c=>callQ F (.call c) st K
 | _=>False
def chainC (E:Env) (F:Nat→List AV→Out→Prop) (op:Op) (ty:Nat) (st:St) (K:St→AV→Prop):Prop :=
 match op with
 | .call c=>callH E F (.call c) ty st K
 | .alloc t=>opS E F (.alloc t) ty st K
 | .build t parts=>quietC E F (.build t parts) st (K st)
 | _=>False
def wpOpsC (E:Env) (F:Nat→List AV→Out→Prop) (ops:Array Oper) (n:Nat) (Q:St→Prop):List (Nat×Bool)→St→Prop
 | [],st=>wpOps E F ops Q (ops.toList.drop n) st
 | (i,q) :: l,st=>match ops.toList[i]? with
   | some ⟨d,op,ty,_,_,none⟩=>bif Op.pureA op then opP E true op ty st fun a=>stK st d a (wpOpsC E F ops n Q l)
     else bif q then quietC E F op st fun a=>stK st d a (wpOpsC E F ops n Q l)
     else chainC E F op ty st fun st a=>stK st d a (wpOpsC E F ops n Q l)
   | some ⟨d,op,ty,_,_,some (j,want)⟩=>guardD st want (fun st=>stK st d (.may false .no) (wpOpsC E F ops n Q l))
     (fun st=>bif Op.pureA op then opP E true op ty st fun a=>stK st d a (wpOpsC E F ops n Q l)
       else bif q then quietC E F op st fun a=>stK st d a (wpOpsC E F ops n Q l)
       else chainC E F op ty st fun st a=>stK st d a (wpOpsC E F ops n Q l)) ((ops[j]?).bind (·.dst))
   | _=>False
def prefB (ops:Array Oper) (n:Nat) (listed:Array Bool):Bool:=(List.range ops.size).all fun i=>listed.getD i true==Nat.blt i n
def rootB (ops:Array Oper) (n:Nat):Bool:=(List.range ops.size).all fun t=>Nat.ble t n||(List.range ops.size).any fun j=>Nat.ble n j&&(Nat.blt j t&&Region.waitsFor .any ops t j)
def stillX (E:Env) (op:Op) (ty:Nat) (st:St) (K:AV→Prop):Prop :=
 match op with
 | .move x=>opMove E ty K (st.ev x) x
 | .assign x=>opMove E ty K (st.ev x) x
 | .fieldAddr s x f=>opField st K f (E.tab s) (st.ev x)
 | .indexAddr t x ix=>opIndexA st true K (E.tab t) (st.ev x) (st.ev ix)
 | .binOp op t x y _=>opBin E true op t K (st.evn x) (st.evn y)
 | .extract x i=>opExtract K i (st.ev x)
 | .slice t x lo hi none=>E.ti t fun ti=>optInt st lo 0 fun lo=>match st.ev x with
   | .one (.n id [] ep l len)=>match st.obj id with
     | some ob=>Tr (Nat.beq ti.kind 2&&Nat.beq ti.esz ob.k) <| optInt st hi len fun hi=>bound2 lo hi len∧K (.one (.n id [] 0 (l+lo.toNat) (hi.toNat - lo.toNat)))
     | none=>False
   | .one (.s false k rows)=>Tr (Nat.beq ti.kind 2&&Nat.beq ti.esz k) <| optInt st hi rows.length fun hi=>bound2 lo hi rows.length∧∀rows',rows'=(rows.drop lo.toNat).take (hi.toNat - lo.toNat)→K (.one (.s false k rows'))
   | .one (.n id [(row,off)] ep _ _)=>match st.obj id with
     | some ob=>Tr (Nat.beq ti.kind 2&&(!ob.box&&Nat.beq ep ob.ep)) <| ∀r,(true=true→ob.rows[row]?=some r)→sliceD st (fun _ a=>K a) hi lo ti.esz id row off ep (r.drop off)
     | none=>False
   | a=>partS st lo hi ti K a
 | _=>False
def oneX (E:Env) (F:Nat→List AV→Out→Prop) (st:St) (K:St→Prop):Option Oper→Prop
 | some ⟨d,op,ty,_,_,none⟩=>bif Op.pureA op then opP E true op ty st fun a=>stK st d a K else opS E F op ty st fun st a=>stK st d a K
 | _=>False
def stillO (E:Env) (st:St) (K:St→Prop):Option Oper→Prop
 | some ⟨d,op,ty,_,_,none⟩=>stillX E op ty st fun a=>stK st d a K
 | _=>False
inductive DT where
 | leaf
 | q (i:Nat) (t:DT)
 | s (i:Nat) (t:DT)
 | o (i:Nat) (t:DT)
 | b (i:Nat) (t:DT) (j:Nat) (u:DT)
 | w (i:Nat) (t:DT)
inductive DS where
 | done
 | tail (n:Nat)
 | seg (n k:Nat) (t:DT) (r:DS)
 | pre (i:Nat) (r:DS)
def chainT (E:Env) (F:Nat→List AV→Out→Prop) (op:Op) (ty:Nat) (st:St) (K:St→AV→Prop):Prop :=
 match op with
 | .buildSlice t n parts=>opS E F (.buildSlice t n parts) ty st K
 | op=>chainC E F op ty st K
def elemD (E:Env) (F:Nat→List AV→Out→Prop) (ops:Array Oper) (q:Bool) (st:St) (Kn:St→Prop):Option Oper→Prop
 | some ⟨d,op,ty,_,_,none⟩=>bif Op.pureA op then opP E true op ty st fun a=>stK st d a Kn
    else bif q then quietC E F op st fun a=>stK st d a Kn
    else chainT E F op ty st fun st a=>stK st d a Kn
 | some ⟨d,op,ty,_,_,some (j,want)⟩=>guardD st want (fun st=>stK st d (.may false .no) Kn)
    (fun st=>bif Op.pureA op then opP E true op ty st fun a=>stK st d a Kn
      else bif q then quietC E F op st fun a=>stK st d a Kn
      else chainT E F op ty st fun st a=>stK st d a Kn) ((ops[j]?).bind (·.dst))
 | _=>False
def storeD (E:Env) (st:St) (Kn:St→Prop):Option Oper→Prop
 | some ⟨none,.store t x y,ty,_,_,none⟩=>match st.ev x,(constO E t (st.evn y) y).cellsOf with
   | .one (.p id [] _ row off),some cs=>E.ti t fun ti=>Tr (Nat.beq cs.length ti.size) <| match st.obj id with
     | some ob=>Tr ob.box (storeK st (fun st a=>stK st none a Kn) id row off cs (some ob))
     | none=>False
   | _,_=>False
 | _=>False
def wpOpsT (E:Env) (F:Nat→List AV→Out→Prop) (ops:Array Oper) (Kn:St→Prop):DT→St→Prop
 | .leaf,st=>Kn st
 | .q i t,st=>elemD E F ops true st (wpOpsT E F ops Kn t) ops.toList[i]?
 | .s i t,st=>stillO E st (wpOpsT E F ops Kn t) ops.toList[i]?
 | .o i t,st=>elemD E F ops false st (wpOpsT E F ops Kn t) ops.toList[i]?
 | .b i t j u,st=>elemD E F ops false st (wpOpsT E F ops Kn t) ops.toList[i]?∧elemD E F ops false st (wpOpsT E F ops Kn u) ops.toList[j]?
 | .w i t,st=>storeD E st (wpOpsT E F ops Kn t) ops.toList[i]?
def wpDS (E:Env) (F:Nat→List AV→Out→Prop) (ops:Array Oper) (Q:St→Prop):DS→St→Prop
 | .done,st=>Q st
 | .tail n,st=>wpOps E F ops Q (ops.toList.drop n) st
 | .seg _ _ t r,st=>wpOpsT E F ops (wpDS E F ops Q r) t st
 | .pre i r,st=>stillO E st (wpDS E F ops Q r) ops.toList[i]?
def addZ (ops:Array Oper) (i:Nat) (Z:List Nat):List Nat:=match ops[i]? with
 | some ⟨some d,.alloc _,_,_,_,none⟩=>d :: Z
 | _=>Z
def apartZ (ops:Array Oper) (i:Nat) (Z:List Nat):Bool:=match ops[i]? with
 | some ⟨some d,_,_,_,_,_⟩=>!Z.contains d
 | _=>true
def storeZ (ops:Array Oper) (i:Nat) (Z:List Nat):Bool:=match ops[i]? with
 | some ⟨none,.store _ (.tmp d) _,_,_,_,none⟩=>Z.contains d
 | _=>false
def heldT (ops:Array Oper) (n:Nat) (L:Array Bool):Bool→List Nat→Nat→DT→Array Bool→Bool
 | _,_,0,.leaf,listed=>listed==L
 | ph,Z,k+1,.q i t,listed=>(Nat.blt i n&&apartZ ops i Z)&&(ph&&(Region.free .any ops listed i&&((Region.ready .any ops listed).contains i&&heldT ops n L ph Z k t (listed.setIfInBounds i true))))
 | ph,Z,k+1,.s i t,listed=>(Nat.blt i n&&apartZ ops i Z)&&(Region.free .any ops listed i&&((Region.ready .any ops listed).contains i&&heldT ops n L ph Z k t (listed.setIfInBounds i true)))
 | _,Z,k+1,.o i t,listed=>(Nat.blt i n&&apartZ ops i Z)&&((Region.ready .any ops listed==[i])&&heldT ops n L false (addZ ops i Z) k t (listed.setIfInBounds i true))
 | _,Z,k+1,.b i t j u,listed=>(Nat.blt i n&&apartZ ops i Z)&&((Nat.blt j n&&apartZ ops j Z)&&((Region.ready .any ops listed==[i,j])&&(heldT ops n L false (addZ ops i Z) k t (listed.setIfInBounds i true)&&heldT ops n L false (addZ ops j Z) k u (listed.setIfInBounds j true))))
 | _,Z,k+1,.w i t,listed=>(Nat.blt i n&&storeZ ops i Z)&&((Region.ready .any ops listed==[i])&&heldT ops n L false Z k t (listed.setIfInBounds i true))
 | _,_,_,_,_=>false
def prefA (ops:Array Oper) (n:Nat):Array Bool:=((List.range ops.size).map fun i=>Nat.blt i n).toArray
def sinkX (ops:Array Oper) (n:Nat) (X:List Nat):Bool:=(List.range n).all fun i=>X.contains i||(List.range (n+1)).any fun j=>Nat.blt i j&&Region.waitsFor .any ops j i
def dsOk (ops:Array Oper):List Nat→Nat→DS→Array Bool→Bool
 | _,_,.done,listed=>(Region.ready .any ops listed).isEmpty
 | _,m,.tail n,listed=>Nat.ble n ops.size&&Region.seqB .any ops (ops.size - n) n listed
 | X,m,.seg n k t r,listed=>Nat.ble m n&&(Nat.ble n ops.size&&((Nat.beq n ops.size||(sinkX ops n X&&rootB ops n))&&(heldT ops n (prefA ops n) true [] k t listed&&(prefB ops n (prefA ops n)&&dsOk ops X n r (prefA ops n)))))
 | X,m,.pre i r,listed=>Nat.blt i ops.size&&(Region.free .any ops listed i&&((Region.ready .any ops listed).contains i&&dsOk ops (i :: X) (max m (i+1)) r (listed.setIfInBounds i true)))
def dsLen (sz:Nat):DS→Nat
 | .done=>0
 | .tail n=>sz - n
 | .seg _ k _ r=>k+dsLen sz r
 | .pre _ r=>dsLen sz r+1
def regionT (ops:Array Oper) (l:DS):Bool:=Region.noSelect ops&&(Nat.beq (dsLen ops.size l) ops.size&&dsOk ops [] 0 l (Array.replicate ops.size false))
inductive ZT where
 | leaf
 | q (i:Nat) (t:ZT)
 | z (i:Nat) (t:ZT)
 | m (i:Nat) (ks:List Nat) (t:ZT)
 | b (i:Nat) (ks:List Nat) (t:ZT) (j:Nat) (ls:List Nat) (u:ZT)
def lazyO (E:Env) (st:St) (K:Option Nat→AV→Prop):Option Oper→Prop
 | some ⟨d,op,ty,_,_,none⟩=>bif Op.pureA op then opP E true op ty st (K d) else stillX E op ty st (K d)
 | _=>False
def lookD (st:St):Option Nat→AV→Prop
 | some d,a=>look st.tm d=a
 | none,_=>True
def againZ (E:Env) (ops:Array Oper) (st:St):List (Nat×AV)→Prop
 | []=>True
 | (i,a) :: D=>lazyO E st (fun d b=>b=a∧lookD st d a) ops.toList[i]?∧againZ E ops st D
def dropZ (ops:Array Oper):List Nat→List (Nat×AV)→List (Nat×AV)
 | _,[]=>[]
 | R,x :: l=>bif R.any (fun r=>Region.waitsFor .any ops r x.1) then dropZ ops (x.1 :: R) l else x :: dropZ ops R l
def keepZ (ops:Array Oper) (i:Nat) (D:List (Nat×AV)):List (Nat×AV):=(dropZ ops [i] D.reverse).reverse
def dropN (ops:Array Oper):List Nat→List Nat→List Nat
 | _,[]=>[]
 | R,x :: l=>bif R.any (fun r=>Region.waitsFor .any ops r x) then dropN ops (x :: R) l else x :: dropN ops R l
def keepN (ops:Array Oper) (i:Nat) (D:List Nat):List Nat:=(dropN ops [i] D.reverse).reverse
def memN:List Nat→Nat→Bool
 | [],_=>false
 | k :: l,i=>bif Nat.beq k i then true else memN l i
def selZ (ks:List Nat):List (Nat×AV)→List (Nat×AV)
 | []=>[]
 | x :: l=>bif memN ks x.1 then x :: selZ ks l else selZ ks l
def selN (ks:List Nat):List Nat→List Nat
 | []=>[]
 | x :: l=>bif memN ks x then x :: selN ks l else selN ks l
def oneG (E:Env) (F:Nat→List AV→Out→Prop) (ops:Array Oper) (st:St) (K:St→Prop):Option Oper→Prop
 | some ⟨d,op,ty,_,_,none⟩=>bif Op.pureA op then opP E true op ty st fun a=>stK st d a K else opS E F op ty st fun st a=>stK st d a K
 | some ⟨d,op,ty,_,_,some (j,want)⟩=>guardD st want (fun st=>stK st d (.may false .no) K)
    (fun st=>bif Op.pureA op then opP E true op ty st fun a=>stK st d a K
      else opS E F op ty st fun st a=>stK st d a K) ((ops[j]?).bind (·.dst))
 | _=>False
def wpZ (E:Env) (F:Nat→List AV→Out→Prop) (ops:Array Oper) (Kn:St→Prop):ZT→List (Nat×AV)→St→Prop
 | .leaf,_,st=>Kn st
 | .q i t,D,st=>stillO E st (wpZ E F ops Kn t D) ops.toList[i]?
 | .z i t,D,st=>lazyO E st (fun d a=>stK st d a (wpZ E F ops Kn t (D++[(i,a)]))) ops.toList[i]?
 | .m i ks t,D,st=>oneG E F ops st (fun st=>againZ E ops st (selZ ks D)∧wpZ E F ops Kn t (selZ ks D) st) ops.toList[i]?
 | .b i ks t j ls u,D,st=>oneG E F ops st (fun st=>againZ E ops st (selZ ks D)∧wpZ E F ops Kn t (selZ ks D) st) ops.toList[i]? ∧
    oneG E F ops st (fun st=>againZ E ops st (selZ ls D)∧wpZ E F ops Kn u (selZ ls D) st) ops.toList[j]?
def aheadZ (ops:Array Oper) (i k:Nat):Bool:=match ops[i]?,ops[k]? with
 | some oi,some ok=>match oi.dst with
   | some d=>!(ok.looksAt ops).contains d&&(i==k||ok.dst != some d)
   | none=>true
 | _,_=>false
def zOk (ops:Array Oper):Nat→ZT→List Nat→Array Bool→Bool
 | 0,.leaf,_,L=>(Region.ready .any ops L).isEmpty
 | n+1,.q i t,D,L=>Region.free .any ops L i&&((Region.ready .any ops L).contains i&&(D.all (fun k=>!Region.waitsFor .any ops i k)&&zOk ops n t D (L.setIfInBounds i true)))
 | n+1,.z i t,D,L=>Region.free .any ops L i&&((Region.ready .any ops L).contains i&&(D.all (aheadZ ops i)&&(aheadZ ops i i&&zOk ops n t (D++[i]) (L.setIfInBounds i true))))
 | n+1,.m i ks t,D,L=>Region.ready .any ops L==[i]&&((keepN ops i D).all (memN ks)&&zOk ops n t (selN ks D) (L.setIfInBounds i true))
 | n+1,.b i ks t j ls u,D,L=>Region.ready .any ops L==[i,j]&&(((keepN ops i D).all (memN ks)&&zOk ops n t (selN ks D) (L.setIfInBounds i true))&&((keepN ops j D).all (memN ls)&&zOk ops n u (selN ls D) (L.setIfInBounds j true)))
 | _,_,_,_=>false
def regionZ (ops:Array Oper) (t:ZT):Bool:=Region.noSelect ops&&zOk ops ops.size t [] (Array.replicate ops.size false)
def brk (id:Nat) (Q:Exit→St→Prop):Exit→St→Prop
 | .normal,st=>Q .normal st
 | .exit i,st=>bif i==id then Q .normal st else Q (.exit i) st
 | e,st=>Q e st
def thn (K:St→Prop) (Q:Exit→St→Prop):Exit→St→Prop
 | .normal,st=>K st
 | e,st=>Q e st
def renId (ρ:List (Option Nat)) (i:Nat):Option Nat:=(ρ[i]?).join
def eqN (ρ:List (Option Nat)) (i:Nat) (p:List (Nat×Nat)) (ep lo len:Nat):Option Nat→T→Prop
 | some j,.n j' [] ep' lo' len'=>j'=j∧[]=p∧ep'=ep∧lo'=lo∧len'=len
 | none,.s true _ rows=>Nat.blt i ρ.length=true∧rows=[]∧p=[]∧lo=0∧len=0
 | _,_=>False
def eqP (p:List (Nat×Nat)) (row off:Nat):Option Nat→T→Prop
 | some j,.p j' p' _ row' off'=>j'=j∧p'=p∧row'=row∧off'=off
 | _,_=>False
def eqS (k:Nat) (rows:List (List T)):T→Prop
 | .s true _ _=>rows=[]
 | o=>o=.s false k rows
def eqL (ρ:List (Option Nat)):T→T→Prop
 | .n i p ep lo len,o=>eqN ρ i p ep lo len (renId ρ i) o
 | .p i p _ row off,o=>eqP p row off (renId ρ i) o
 | .v x,o=>o=.v x
 | .s true k rows,o=>o=.s true k rows
 | .s false k rows,o=>eqS k rows o
 | .q k rows row off,o=>o=.q k rows row off
 | .h,_=>True
 | _,_=>False
def eqLs (ρ:List (Option Nat)):List T→List T→Prop
 | [],[]=>True
 | t :: l,o :: m=>eqL ρ t o∧eqLs ρ l m
 | _,_=>False
def eqT (ρ:List (Option Nat)):T→T→Prop
 | .c f caps,.c f' caps'=>f'=f∧eqLs ρ caps caps'
 | t,o=>eqL ρ t o
def eqTs (ρ:List (Option Nat)):List T→List T→Prop
 | [],[]=>True
 | t :: l,o :: m=>eqT ρ t o∧eqTs ρ l m
 | _,_=>False
def eqAV (ρ:List (Option Nat)):AV→AV→Prop
 | .one t,.one o=>eqT ρ t o
 | .one t,.lit b=>t=.v (.bool b)
 | .agg l,.agg m=>eqTs ρ l m
 | .no,_=>True
 | _,_=>False
def agrees (ρ:List (Option Nat)) (tm:List (Nat×AV)):List (Nat×AV)→Prop
 | []=>True
 | (k,a) :: l=>eqAV ρ a (look tm k)∧agrees ρ tm l
def eqRows (ρ:List (Option Nat)) (box:Bool) (rows rows':List (List T)):Prop:=match box with
 | true=>match rows,rows' with
   | [r],[r']=>eqTs ρ r r'
   | _,_=>False
 | false=>rows'=rows
def eqOb (ρ:List (Option Nat)) (st:St) (ob:Ob):Option Nat→Prop
 | some j=>match st.obj j with
   | some ob'=>ob'.box=ob.box∧ob'.k=ob.k∧eqRows ρ ob.box ob.rows ob'.rows
   | none=>False
 | none=>ob.box=false∧ob.rows=[]
def eqObs (ρ:List (Option Nat)) (st:St):List (Option Nat)→List (Option Ob)→Prop
 | [],[]=>True
 | _ :: ls,none :: l=>eqObs ρ st ls l
 | x :: ls,some ob :: l=>eqOb ρ st ob x∧eqObs ρ st ls l
 | _,_=>False
def freshIn (x:Option Nat):List (Option Nat)→Bool
 | []=>true
 | y :: l=>(match x,y with | some i,some j=>!(Nat.beq i j) | _,_=>true)&&freshIn x l
def nodupR:List (Option Nat)→Bool
 | []=>true
 | x :: l=>freshIn x l&&nodupR l
def cuts (ρ:List (Option Nat)) (st st2:St):Prop :=
 nodupR ρ=true∧agrees ρ st.tm st2.tm∧eqObs ρ st ρ st2.ob∧eqTs ρ st2.pr st.pr
def nextA {α:Type} (S:α→St) (μ:α→Nat) (x:α) (st':St):Prop:=∃x' ρ,μ x' < μ x∧cuts ρ st' (S x')
def loopA (W:(Exit→St→Prop)→St→Prop) (Q:Exit→St→Prop) (st:St):Prop :=
 ∃(α:Type) (S:α→St) (μ:α→Nat),(∃x0 ρ,cuts ρ st (S x0))∧∀x,W (thn (nextA S μ x) Q) (S x)
def condK (x y:St→Prop) (st:St):AV→Prop
 | .lit b=>match b with
   | true=>x st
   | false=>y st
 | .one (.v (.bool b))=>(b=true→x st)∧(b=false→y st)
 | _=>False
def joinA (W:(Exit→St→Prop)→St→Prop) (K:St→Prop) (Q:Exit→St→Prop) (st:St):Prop :=
 ∃(α:Type) (S:α→St),(∀x,K (S x))∧W (thn (fun st'=>(∃x ρ,cuts ρ st' (S x))∨K st') Q) st
def codeOk (N:Nat):Code→Bool
 | .region _ ops fl=>ops.toList.all (fun o=>match o.dst with | some d=>Nat.blt d N | none=>true)&&(!fl||Region.noSelect ops)
 | .seq x y=>codeOk N x&&codeOk N y
 | .cond _ x y=>codeOk N x&&codeOk N y
 | .block _ c=>codeOk N c
 | .loop c=>codeOk N c
 | _=>true
def wpA (E:Env) (F:Nat→List AV→Out→Prop):Code→(Exit→St→Prop)→St→Prop
 | .skip,Q,st=>Q .normal st
 | .region _ ops fl,Q,st=>bif fl then (Region.lexB .any ops=true∧wpOpsQ E F ops (Q .normal) ops.toList st)∨((∃l,regionT ops l=true∧wpDS E F ops (Q .normal) l st)∨∃t,regionZ ops t=true∧wpZ E F ops (Q .normal) t [] st) else wpOps E F ops (Q .normal) ops.toList st
 | .seq x y,Q,st=>wpA E F x (thn (wpA E F y Q) Q) st∨joinA (wpA E F x) (wpA E F y Q) Q st
 | .cond c x y,Q,st=>condK (wpA E F x Q) (wpA E F y Q) st (st.ev c)
 | .block id c,Q,st=>wpA E F c (brk id Q) st
 | .loop c,Q,st=>loopA (wpA E F c) Q st
 | .exit i,Q,st=>Q (.exit i) st
 | .ret,Q,st=>Q .ret st
 | _,_,_=>False
end Go.Ev
