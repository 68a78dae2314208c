/- The abstract machine: trees for memory, a weakest precondition over the model's own code. Definitions alone. -/
import Derived.Laws.BytesArg
import Derived.OrdersHeld
import Derived.StillTail
import Derived.Below
import Derived.KernelRfl
import Derived.Deep.Quiet
set_option linter.unusedSectionVars false
set_option linter.unusedVariables false
set_option linter.unusedSimpArgs false
namespace Go.Ev
open Go
inductive T where
 | v (x:Value)
 | s (o:Bool) (k:Nat) (rows:List (List T))
 | n (id:Nat) (path:List (Nat×Nat)) (ep lo len:Nat)
 | p (id:Nat) (path:List (Nat×Nat)) (ep row off:Nat)
 | q (k:Nat) (rows:List (List T)) (row off:Nat)
 | b (row:List T)
 | c (g:Nat) (caps:List T)
 | h
inductive AV where
 | one (t:T)
 | agg (l:List T)
 | tup (l:List AV)
 | may (g:Bool) (a:AV)
 | lit (b:Bool)
 | no
def Tr (b:Bool) (p:Prop):Prop:=match b with
 | true=>p
 | false=>False
theorem Tr.get {b:Bool} {p:Prop} (h:Tr b p):b=true∧p:=by cases b with
 | true=>exact ⟨rfl,h⟩
 | false=>exact h.elim
def AV.nl:AV→AV
 | .lit b=>.one (.v (.bool b))
 | a=>a
structure Ob where
 k:Nat
 box:Bool
 rows:List (List T)
 ep:Nat
structure St where
 tm:List (Nat×AV)
 ob:List (Option Ob)
 pr:List T
def hiI:IntKind→Nat
 | .i8=>127
 | .i16=>32767
 | .i32=>2147483647
 | .i64=>9223372036854775807
 | .u8=>255
 | .u16=>65535
 | .u32=>4294967295
 | .u64=>18446744073709551615
def loI:IntKind→Nat
 | .i8=>128
 | .i16=>32768
 | .i32=>2147483648
 | .i64=>9223372036854775808
 | _=>0
def a2x (k:IntKind):Int→Bool
 | .ofNat n=>Nat.ble n (hiI k)
 | .negSucc n=>Nat.blt n (loI k)
theorem a5g {k:IntKind} {n:Int}:a2x k n=true↔k.min≤n∧n≤k.max:=by
 cases k <;> cases n <;> simp [a2x,hiI,loI,IntKind.min,IntKind.max,IntKind.signed,IntKind.bits,Nat.blt,Nat.ble_eq] <;> omega
theorem yW (k:IntKind) (n:Int):a2x k (k.wrap n)=true:=by
 rw [a5g]
 cases k <;> simp [IntKind.wrap,IntKind.min,IntKind.max,IntKind.signed,IntKind.bits] <;> (try split) <;> omega
theorem d3r {k:IntKind} {n:Int} (h:(Lit.int k n).wf=true):a2x k n=true:=by
 rw [a5g]
 simpa [Lit.wf] using h
theorem c6o {k:IntKind} {a b:Int} (h:a2x k a=true):a2x k (a.tmod b)=true:=by
 rw [a5g] at h ⊢
 have h0:k.min≤0:=by cases k <;> simp [IntKind.min,IntKind.signed,IntKind.bits]
 have h1:0≤k.max:=by cases k <;> simp [IntKind.max,IntKind.signed,IntKind.bits]
 rcases Int.le_total 0 a with ha | ha
 · have:=Int.tmod_nonneg b ha
   have:a.tmod b≤a:=by
    have:=Int.natAbs_tmod a b
    have:=Nat.mod_le a.natAbs b.natAbs
    omega
   omega
 · have h2:a.tmod b=-((-a).tmod b):=by rw [Int.neg_tmod];omega
   have:=Int.tmod_nonneg b (show 0≤-a by omega)
   have:(-a).tmod b≤-a:=by
    have:=Int.natAbs_tmod (-a) b
    have:=Nat.mod_le (-a).natAbs b.natAbs
    omega
   omega
theorem c9a {k:IntKind} {a:Int} (m:Nat) (h:a2x k a=true):a2x k (a.fdiv (2 ^ m))=true:=by
 rw [a5g] at h ⊢
 have h0:k.min≤0:=by cases k <;> simp [IntKind.min,IntKind.signed,IntKind.bits]
 have h1:0≤k.max:=by cases k <;> simp [IntKind.max,IntKind.signed,IntKind.bits]
 have hp:(0:Int) < 2 ^ m:=Int.pow_pos (by omega)
 rw [Int.fdiv_eq_ediv_of_nonneg _ (by omega)]
 rcases Int.le_total 0 a with ha | ha
 · have:=Int.ediv_nonneg ha (Int.le_of_lt hp)
   have:=Int.ediv_le_self (2 ^ m) ha
   omega
 · have h2:a≤a / 2 ^ m:=by
    rw [Int.le_ediv_iff_mul_le hp]
    have h5:0≤(-a)*(2 ^ m - 1):=Int.mul_nonneg (by omega) (by omega)
    have h6:(-a)*(2 ^ m - 1)=a - a*2 ^ m:=by rw [Int.neg_mul,Int.mul_sub,Int.mul_one];omega
    omega
   have h3:a / 2 ^ m≤0:=Int.ediv_nonpos_of_nonpos_of_neg ha hp
   omega
theorem d3s (b:UInt8):a2x .u8 (b.toNat:Int)=true:=by
 have:=b.toNat_lt
 exact Nat.ble_eq_true_of_le (by omega:b.toNat≤255)
def fit:Value→Bool
 | .int k n=>a2x k n
 | .string s=>Nat.ble s.size 9223372036854775807
 | .slice _ n _=>Nat.ble n 9223372036854775807
 | .agg _=>false
 | .tuple _=>false
 | _=>true
theorem mO {n m:Nat} (h:Nat.ble m 9223372036854775807=true) (hn:n≤m):Nat.ble n 9223372036854775807=true:=Nat.ble_eq_true_of_le (Nat.le_trans hn (Nat.le_of_ble_eq_true h))
theorem xU {v:Value} (h:fit v=true):v.oneCell'=true:=by cases v <;> first | rfl | cases h
structure TI where
 size:Nat
 kind:Nat
 zero:List T
 offs:List Nat
 fsz:List Nat
 elem:Nat
 esz:Nat
 bytes:Nat
 ik:Option IntKind
inductive CK where
 | i (k:IntKind)
 | b
 | s
structure Env where
 P:Program
 tab:Nat→Option TI
 md:Nat→List Bool
 eqt:Nat→Option (List CK)
def iD:List (Nat×AV)→Nat→AV
 | [],_=>.no
 | (k,a) :: l,j=>bif k==j then a else iD l j
def St.set (st:St) (d:Option Nat) (a:AV):St :=
 match d with
 | some d=>{ st with tm:=(d,a) :: st.tm }
 | none=>st
def St.obj (st:St) (id:Nat):Option Ob:=(st.ob[id]?).join
def St.ev (st:St):Operand→AV
 | .tmp t=>iD st.tm t
 | .const (.bool b)=>.lit b
 | .const (.agg cs)=>bif cs.all fit then .agg (cs.toList.map .v) else .no
 | .const v=>bif fit v then .one (.v v) else .no
 | .func f=>.one (.c f [])
 | .global _=>.no
def St.evn (st:St) (x:Operand):AV:=(st.ev x).nl
def dK (rows:List (List T)) (i:Nat):List T:=rows.getD i []
mutual
def frz:T→T
 | .s _ k rows=>.s false k (cK rows)
 | .v x=>.v x
 | .n id p ep lo len=>.n id p ep lo len
 | .p id p ep row off=>.p id p ep row off
 | .q k rows row off=>.q k rows row off
 | .b row=>.b row
 | .c g caps=>.c g caps
 | .h=>.h
def jQ:List T→List T
 | []=>[]
 | t :: l=>frz t :: jQ l
def cK:List (List T)→List (List T)
 | []=>[]
 | r :: l=>jQ r :: cK l
end
def T.fz:T→T
 | .s _ k rows=>.s false k (cK rows)
 | .v x=>.v x
 | _=>.h
def vH (ep lo len:Nat) (rows:List (List T)):List (List T):=bif Nat.beq ep 1 then rows else (rows.drop lo).take len
def St.res (st:St):T→Option (Nat×List (List T))
 | .s _ k rows=>some (k,rows)
 | .n id [] ep lo len=>match st.obj id with
   | some ob=>bif ob.box then none else some (ob.k,vH ep lo len ob.rows)
   | none=>none
 | _=>none
def St.len (st:St):T→Option Nat
 | .s _ _ rows=>some rows.length
 | .n id [] _ _ len=>match st.obj id with
   | some _=>some len
   | none=>none
 | _=>none
def Env.ti (E:Env) (t:Nat) (K:TI→Prop):Prop :=
 match E.tab t with
 | some ti=>K ti
 | none=>False
def d8a (g:Bool) (op:BinOp) (k:IntKind) (a b:Int) (K:AV→Prop):Prop :=
 match op with
 | .shl=>(g=true→0≤b)∧K (.one (.v (.int k (k.wrap (a*2 ^ (min b.toNat k.bits))))))
 | .shr=>(g=true→0≤b)∧K (.one (.v (.int k (Int.fdiv a (2 ^ (min b.toNat k.bits))))))
 | .add=>K (.one (.v (.int k (k.wrap (a+b)))))
 | .sub=>K (.one (.v (.int k (k.wrap (a - b)))))
 | .mul=>K (.one (.v (.int k (k.wrap (a*b)))))
 | .quo=>(g=true→b≠0)∧K (.one (.v (.int k (k.wrap (Int.tdiv a b)))))
 | .rem=>(g=true→b≠0)∧K (.one (.v (.int k (Int.tmod a b))))
 | .and=>K (.one (.v (.int k (k.wrap ↑(BitVec.toNat (BitVec.ofInt k.bits a &&& BitVec.ofInt k.bits b))))))
 | .or=>K (.one (.v (.int k (k.wrap ↑(BitVec.toNat (BitVec.ofInt k.bits a ||| BitVec.ofInt k.bits b))))))
 | .xor=>K (.one (.v (.int k (k.wrap ↑(BitVec.toNat (BitVec.ofInt k.bits a ^^^ BitVec.ofInt k.bits b))))))
 | .andNot=>K (.one (.v (.int k (k.wrap ↑(BitVec.toNat (BitVec.ofInt k.bits a &&& ~~~(BitVec.ofInt k.bits b)))))))
 | .eql=>K (.one (.v (.bool (a==b))))
 | .neq=>K (.one (.v (.bool (a != b))))
 | .lss=>K (.one (.v (.bool (decide (a < b)))))
 | .leq=>K (.one (.v (.bool (decide (a≤b)))))
 | .gtr=>K (.one (.v (.bool (decide (a > b)))))
 | .geq=>K (.one (.v (.bool (decide (a≥b)))))
def d5o (g:Bool) (op:BinOp) (a b:ByteArray) (K:AV→Prop):Prop :=
 match op with
 | .add=>(g=true→((a.size+b.size:Nat):Int)≤9223372036854775807)∧K (.one (.v (.string (a++b))))
 | .eql=>K (.one (.v (.bool (decide (a=b)))))
 | .neq=>K (.one (.v (.bool !(decide (a=b)))))
 | .lss=>K (.one (.v (.bool (Op.bytesLess a.toList b.toList))))
 | .leq=>K (.one (.v (.bool (Op.bytesLess a.toList b.toList||a.toList==b.toList))))
 | .gtr=>K (.one (.v (.bool !(Op.bytesLess a.toList b.toList||a.toList==b.toList))))
 | .geq=>K (.one (.v (.bool !(Op.bytesLess a.toList b.toList))))
 | _=>False
def qZ:CK→T→T→Option Bool
 | .i k,.v (.int k1 a),.v (.int k2 b)=>bif k1==k&&k2==k then some (a==b) else none
 | .b,.v (.bool a),.v (.bool b)=>some (a==b)
 | .s,.v (.string a),.v (.string b)=>some (decide (a=b))
 | _,_,_=>none
def lQ:List CK→List T→List T→Option Bool
 | [],[],[]=>some true
 | c :: cs,x :: xs,y :: ys=>match qZ c x y,lQ cs xs ys with
   | some a,some r=>some (a&&r)
   | _,_=>none
 | _,_,_=>none
def pJ (m:Nat) (t:T):Option T :=
 match t with
 | .s o k rows=>match m with
   | 0=>some (.s false k rows)
   | 1=>some (.s o k rows)
   | _=>bif o then (match rows with | []=>some (.s false k []) | _=>none) else some (.s false k rows)
 | .b _=>none
 | .c g caps=>match m with
   | 1=>some (.c g caps)
   | _=>none
 | t=>some t
def yL (m:Nat):List T→Option (List T)
 | []=>some []
 | t :: l=>match pJ m t,yL m l with
   | some a,some r=>some (a :: r)
   | _,_=>none
def b8z (z t:T):T :=
 match t with
 | .v (.slice none 0 0)=>z
 | t=>t
def a6y:T→Bool
 | .s true _ []=>true
 | _=>false
def oB:List T→List T→List T
 | z :: zs,t :: ts=>(bif a6y z then b8z z t else t) :: oB zs ts
 | _,ts=>ts
def b2c (E:Env) (ty:Nat) (a:AV):AV :=
 match a with
 | .one (.v (.slice none 0 0))=>match E.tab ty with
   | some ti=>.one (.s true ti.esz [])
   | none=>.no
 | .agg l=>match E.tab ty with
   | some ti=>.agg (oB ti.zero l)
   | none=>.no
 | a=>a
def yN (E:Env) (ty:Nat) (K:AV→Prop) (a:AV):Operand→Prop
 | .const _=>K (b2c E ty a)
 | _=>K a
def b8p (K:AV→Prop) (x y:AV):AV→Prop
 | .lit b=>match b with
   | true=>K x
   | false=>K y
 | .one (.v (.bool cb))=>(cb=true→K x)∧(cb=false→K y)
 | _=>False
def a3n (K:AV→Prop) (ti:TI):Option (Nat×List T)→Prop
 | some (frz,row)=>bif Nat.beq ti.kind 1 then (match yL frz (row.take ti.size) with | some l=>Tr (Nat.beq l.length ti.size) (K (.agg l)) | none=>False)
    else (match row with | t :: _=>(match pJ frz t with | some t=>K (.one t) | none=>False) | []=>False)
 | none=>False
def b3r (K:AV→Prop) (ti:TI) (m off:Nat):Option (List T)→Prop
 | some r=>a3n K ti (some (m,r.drop off))
 | none=>False
def c2w (K:AV→Prop) (ti:TI) (id ep row off:Nat):List T→Prop
 | .s true k rows :: l=>bif Nat.beq ti.kind 2 then K (.one (.n id [(row,off)] ep 0 rows.length)) else a3n K ti (some (2,.s true k rows :: l))
 | l=>a3n K ti (some (2,l))
def c2x (g:Bool) (K:AV→Prop) (ti:TI) (id ep:Nat) (rows:List (List T)) (row off:Nat) (box:Bool):Prop :=
 match box with
 | true=>b3r K ti 1 off rows[row]?
 | false=>∀r,(g=true→rows[row]?=some r)→c2w K ti id ep row off (r.drop off)
def b1i (st:St) (g:Bool) (K:AV→Prop):Option TI→AV→Prop
 | some ti,.one (.q _ rows row off)=>b3r K ti 0 off rows[row]?
 | some ti,.one (.p id [] _ row off)=>match st.obj id with
   | some ob=>c2x g K ti id ob.ep ob.rows row off ob.box
   | none=>False
 | _,_=>False
def a8e (st:St) (K:AV→Prop) (f:Nat):Option TI→AV→Prop
 | some ti,.one (.q k rows row off)=>Tr (Nat.beq ti.kind 1&&Nat.blt f ti.offs.length) <| K (.one (.q k rows row (off+ti.offs.getD f 0)))
 | some ti,.one (.p id [] ep row off)=>Tr (Nat.beq ti.kind 1&&(Nat.blt f ti.offs.length&&(st.obj id).isSome)) <| K (.one (.p id [] ep row (off+ti.offs.getD f 0)))
 | _,_=>False
def a4t (st:St) (g:Bool) (K:AV→Prop):Option TI→AV→AV→Prop
 | some ti,.one (.s _ k rows),.one (.v (.int _ i))=>Tr (Nat.beq ti.kind 2&&Nat.beq ti.esz k) <| (g=true→0≤i∧i < (rows.length:Int))∧∀r,(g=true→rows[i.toNat]?=some r)→K (.one (.q k [r] 0 0))
 | some ti,.one (.n id [] ep lo len),.one (.v (.int _ i))=>match st.obj id with
   | some ob=>Tr (Nat.beq ti.kind 2&&Nat.beq ti.esz ob.k) <| (g=true→0≤i∧i < (len:Int))∧K (.one (.p id [] ep (lo+i.toNat) 0))
   | none=>False
 | _,_,_=>False
def b3s (g:Bool) (K:AV→Prop):Option TI→AV→AV→Prop
 | some ti,.one (.v (.string s)),.one (.v (.int _ i))=>Tr (Nat.beq ti.kind 4) <| (g=true→0≤i∧i < (s.size:Int))∧K (.one (.v (.int .u8 ((s.data.getD i.toNat 0).toNat:Int))))
 | _,_,_=>False
def c3v (st:St) (K:AV→Prop):AV→Prop
 | .one (.p id [] ep row off)=>Tr (st.obj id).isSome <| K (.one (.p id [] ep row off))
 | .one (.q k rows row off)=>K (.one (.q k rows row off))
 | .one (.c f caps)=>K (.one (.c f caps))
 | _=>False
def b7p (op:BinOp) (K:AV→Prop):Option Bool→Prop
 | some r=>match op with
   | .eql=>K (.one (.v (.bool r)))
   | .neq=>K (.one (.v (.bool !r)))
   | _=>False
 | none=>False
def d5r (op:BinOp) (k k':IntKind):Bool:=match op with
 | .shl=>true
 | .shr=>true
 | _=>decide (k=k')
def b7q (E:Env) (g:Bool) (op:BinOp) (t:Nat) (K:AV→Prop):AV→AV→Prop
 | .one (.v (.int k a)),.one (.v (.int k' b))=>Tr (d5r op k k') <| d8a g op k a b K
 | .one (.v (.string a)),.one (.v (.string b))=>d5o g op a b K
 | .one (.v (.bool a)),.one (.v (.bool b))=>E.ti t fun ti=>Tr (Nat.beq ti.kind 3) <| b7p op K (some (a==b))
 | .agg xs,.agg ys=>match E.eqt t with
   | some ks=>b7p op K (lQ ks xs ys)
   | none=>False
 | _,_=>False
def c8k (K:AV→Prop):UnOp→AV→Prop
 | .not,.one (.v (.bool b))=>K (.one (.v (.bool !b)))
 | .neg,.one (.v (.int k n))=>K (.one (.v (.int k (k.wrap (0 - n)))))
 | _,_=>False
def c2y (K:AV→Prop) (n:Int):Option IntKind→Prop
 | some k=>K (.one (.v (.int k (k.wrap n))))
 | none=>False
def b8t (K:AV→Prop):Option TI→Option TI→AV→Prop
 | some _,some td,.one (.v (.int _ n))=>c2y K n td.ik
 | _,_,_=>False
def u8s:List (List T)→Option (List Int)
 | []=>some []
 | [.v (.int .u8 n)] :: l=>match u8s l with
   | some ns=>some (n :: ns)
   | none=>none
 | _=>none
def b8s (K:AV→Prop):Option IntKind→Option (List Int)→Prop
 | some .u8,some ns=>K (.one (.v (.string (strOfNums ns))))
 | _,_=>False
def b3u (E:Env) (K:AV→Prop) (lo len:Nat):Option TI→Option TI→Option Ob→Prop
 | some ts,some td,some ob=>Tr (Nat.beq ts.kind 2&&(Nat.beq td.kind 4&&(!ob.box&&Nat.blt 0 len))) <| E.ti ts.elem fun te=>b8s K te.ik (u8s ((ob.rows.drop lo).take len))
 | _,_,_=>False
def b3t (E:Env) (K:AV→Prop) (src dst:Nat) (st:St):AV→Prop
 | .one (.n id [] _ lo len)=>b3u E K lo len (E.tab src) (E.tab dst) (st.obj id)
 | av=>b8t K (E.tab src) (E.tab dst) av
def yO (K:AV→Prop) (i:Nat):AV→Prop
 | .tup l=>match l[i]? with
   | some a=>K a
   | none=>False
 | _=>False
def b8q (g:Bool) (K:AV→Prop):Option Nat→Prop
 | some n=>∀m,m=n→(g=true→m≤9223372036854775807)→K (.one (.v (.int .i64 m)))
 | none=>False
def c3w (st:St) (g:Bool) (K:AV→Prop):Option TI→AV→Prop
 | some ti,.one (.v (.string s))=>Tr (Nat.beq ti.kind 4) <| ((g=true→s.size≤9223372036854775807)→K (.one (.v (.int .i64 s.size))))
 | some ti,.one t=>Tr (Nat.beq ti.kind 2) <| b8q g K (st.len t)
 | _,_=>False
def opP (E:Env) (g:Bool) (op:Op) (ty:Nat) (st:St) (K:AV→Prop):Prop :=
 match op with
 | .move x=>yN E ty K (st.ev x) x
 | .assign x=>yN E ty K (st.ev x) x
 | .pick c x y=>b8p K (st.ev x) (st.ev y) (st.ev c)
 | .load t x=>b1i st g K (E.tab t) (st.ev x)
 | .fieldAddr s x f=>a8e st K f (E.tab s) (st.ev x)
 | .indexAddr t x ix=>a4t st g K (E.tab t) (st.ev x) (st.ev ix)
 | .index t x ix=>b3s g K (E.tab t) (st.ev x) (st.ev ix)
 | .nilCheck x=>c3v st K (st.ev x)
 | .binOp op t x y _=>b7q E g op t K (st.evn x) (st.evn y)
 | .unOp op _ x=>c8k K op (st.evn x)
 | .convert src dst x=>b3t E K src dst st (st.ev x)
 | .extract x i=>yO K i (st.ev x)
 | .call ⟨.builtin .len,⟨[x]⟩,⟨[t]⟩⟩=>c3w st g K (E.tab t) (st.ev x)
 | _=>False
def Op.pureA:Op→Bool
 | .move _ | .assign _ | .pick .. | .load .. | .fieldAddr .. | .indexAddr .. | .index .. | .nilCheck _ | .binOp .. | .unOp .. | .convert .. | .extract ..=>true
 | .call ⟨.builtin .len,_,_⟩=>true
 | _=>false
def St.kill (st:St) (id:Nat):St:={ st with ob:=st.ob.set id none }
def St.add (st:St) (o:Ob):St:={ st with ob:=st.ob++[some o] }
def lP (st:St):T→Option (T×St)
 | .v x=>some (.v x,st)
 | .s o k rows=>bif o then (match rows with | []=>some (.s true k [],st) | _=>none) else some (.s false k rows,st)
 | .n id [] ep lo len=>match st.obj id with
   | some ob=>bif ob.box then none else some (.s true ob.k (vH ep lo len ob.rows),st.kill id)
   | none=>none
 | _=>none
def lB (st:St):List T→Option (List T×St)
 | []=>some ([],st)
 | t :: l=>match lP st t with
   | some (t,st)=>match lB st l with
     | some (l,st)=>some (t :: l,st)
     | none=>none
   | none=>none
def AV.cellsOf:AV→Option (List T)
 | .one t=>some [t]
 | .agg l=>some l
 | _=>none
def uN (st:St):T→T×St
 | .s true k rows=>(.n st.ob.length [] 1 0 rows.length,st.add ⟨k,false,rows,0⟩)
 | t=>(t,st)
def oQ (st:St):List T→List T×St
 | []=>([],st)
 | t :: l=>let (t,st):=uN st t;let (l,st):=oQ st l;(t :: l,st)
def sW (st:St):AV→AV×St
 | .one (.b row)=>let (row,st):=oQ st row;(.one (.p st.ob.length [] 0 0 0),st.add ⟨row.length,true,[row],0⟩)
 | .one t=>let (t,st):=uN st t;(.one t,st)
 | .agg l=>let (l,st):=oQ st l;(.agg l,st)
 | a=>(a,st)
def a0a (st:St):List AV→List AV×St
 | []=>([],st)
 | a :: l=>let (a,st):=sW st a;let (l,st):=a0a st l;(a :: l,st)
def a5b (st:St):AV→AV×St
 | .tup l=>let (l,st):=a0a st l;(.tup l,st)
 | a=>sW st a
def ro (st:St):T→Option T
 | .v x=>some (.v x)
 | .s _ k rows=>some (.s false k rows)
 | .n id path ep lo len=>match st.res (.n id path ep lo len) with
   | some (k,rows)=>some (.s false k rows)
   | none=>none
 | .q k rows row off=>some (.q k rows row off)
 | .c g []=>some (.c g [])
 | _=>none
def a0f (st:St):List T→Option (List T)
 | []=>some []
 | t :: l=>match ro st t,a0f st l with
   | some t,some l=>some (t :: l)
   | _,_=>none
def a8b (st:St):T→Option T
 | .p id [] _ row off=>match st.obj id with
   | some ob=>bif ob.box then (match a0f st (dK ob.rows 0) with | some r=>bif row==0 then some (.q ob.k [r] 0 off) else none | none=>none) else none
   | none=>none
 | t=>ro st t
def b1b (st:St):List T→Option (List T)
 | []=>some []
 | t :: l=>match a8b st t,b1b st l with
   | some t,some l=>some (t :: l)
   | _,_=>none
def kO (st:St):AV→Option AV
 | .one (.c g caps)=>(b1b st caps).map fun l=>.one (.c g l)
 | .one (.p id path ep row off)=>(a8b st (.p id path ep row off)).map .one
 | .one t=>(ro st t).map .one
 | .agg l=>(a0f st l).map .agg
 | _=>none
structure Out where
 res:AV
 outs:List AV
 keep:List (List Nat)
 al:Bool
def sP (st:St):List AV→Option (List AV)
 | []=>some []
 | a :: l=>match kO st a,sP st l with
   | some a,some l=>some (a :: l)
   | _,_=>none
def T.noRef:T→Bool
 | .v _=>true
 | .s _ _ _=>true
 | .q _ _ _ _=>true
 | .c _ []=>true
 | _=>false
def AV.noRef:AV→Bool
 | .one t=>t.noRef
 | .agg l=>l.all T.noRef
 | _=>false
def St.pad (st:St):St:={ st with ob:=st.ob++[none] }
inductive FzE:T→T→Prop
 | same (t:T):FzE t t
 | sl (o:Bool) (k:Nat) (rows rows':List (List T)) (h:cK rows=rows'):FzE (.s o k rows) (.s false k rows')
inductive FzEs:List T→List T→Prop
 | nil:FzEs [] []
 | cons {t t':T} {l l':List T} (h:FzE t t') (h':FzEs l l'):FzEs (t :: l) (t' :: l')
inductive FzA:AV→AV→Prop
 | same (a:AV):FzA a a
 | one {t t':T} (h:FzE t t'):FzA (.one t) (.one t')
 | agg {l l':List T} (h:FzEs l l'):FzA (.agg l) (.agg l')
inductive FzAs:List AV→List AV→Prop
 | same (l:List AV):FzAs l l
 | cons {a a':AV} {l l':List AV} (h:FzA a a') (h':FzAs l l'):FzAs (a :: l) (a' :: l')
inductive FzX:T→T→Prop
 | same (t:T):FzX t t
 | sl (o:Bool) (k:Nat) (rows rows':List (List T)) (h:cK rows=rows'):FzX (.s o k rows) (.s false k rows')
 | inn (k:Nat) (rows rows':List (List T)) (h:cK rows=rows'):FzX (.s true k rows) (.s true k rows')
inductive FzXs:List T→List T→Prop
 | same (l:List T):FzXs l l
 | cons {t t':T} {l l':List T} (h:FzX t t') (h':FzXs l l'):FzXs (t :: l) (t' :: l')
inductive FzR:AV→AV→Prop
 | same (a:AV):FzR a a
 | one {t t':T} (h:FzX t t'):FzR (.one t) (.one t')
 | agg {l l':List T} (h:FzXs l l'):FzR (.agg l) (.agg l')
inductive FzRs:List AV→List AV→Prop
 | same (l:List AV):FzRs l l
 | cons {a a':AV} {l l':List AV} (h:FzR a a') (h':FzRs l l'):FzRs (a :: l) (a' :: l')
inductive FzQ:AV→AV→Prop
 | one {a a':AV} (h:FzR a a') (hp:∀l,a≠.tup l) (hp':∀l,a'≠.tup l):FzQ a a'
 | tup {l l':List AV} (h:FzRs l l'):FzQ (.tup l) (.tup l')
def jG (m:Nat):List T→List T
 | []=>[]
 | .s true _ rows :: l=>.n m [] 1 0 rows.length :: jG (m+1) l
 | t :: l=>t :: jG m l
def wO:List T→List (Option Ob)
 | []=>[]
 | .s true k rows :: l=>some ⟨k,false,rows,0⟩ :: wO l
 | _ :: l=>wO l
def avN (m:Nat):AV→AV
 | .one (.b row)=>.one (.p (m+(wO row).length) [] 0 0 0)
 | .one (.s true _ rows)=>.one (.n m [] 1 0 rows.length)
 | .agg l=>.agg (jG m l)
 | a=>a
def avO (m:Nat):AV→List (Option Ob)
 | .one (.b row)=>wO row++[some ⟨(jG m row).length,true,[jG m row],0⟩]
 | .one (.s true k rows)=>[some ⟨k,false,rows,0⟩]
 | .agg l=>wO l
 | _=>[]
def c1g (m:Nat):List AV→List AV
 | []=>[]
 | a :: l=>avN m a :: c1g (m+(avO m a).length) l
def c1f (m:Nat):List AV→List (Option Ob)
 | []=>[]
 | a :: l=>avO m a++c1f (m+(avO m a).length) l
def c3s (m:Nat):AV→AV
 | .tup l=>.tup (c1g m l)
 | a=>avN m a
def c3r (m:Nat):AV→List (Option Ob)
 | .tup l=>c1f m l
 | a=>avO m a
def inK (st:St) (K:St→AV→Prop) (a:AV):Prop:=∀m,m=st.ob.length→K { st with ob:=st.ob++c3r m a } (c3s m a)
theorem c8v (st:St) (t:T) (l:List T):oQ st (t :: l)=(let x:=uN st t;let y:=oQ x.2 l;(x.1 :: y.1,y.2)):=rfl
theorem yR:∀(l:List T) (st:St),oQ st l=(jG st.ob.length l,{ st with ob:=st.ob++wO l })
 | [],st=>by simp [oQ,jG,wO]
 | t :: l,st=>by
   rw [c8v]
   have h:=yR l
   cases t with
   | s o k rows=>cases o <;> simp [uN,h,jG,wO,St.add]
   | _=>simp [uN,h,jG,wO]
theorem c6k (st:St) (a:AV):sW st a=(avN st.ob.length a,{ st with ob:=st.ob++avO st.ob.length a }):=by
 cases a with
 | one t =>
   cases t with
   | b row=>simp [sW,yR,avN,avO,St.add]
   | s o k rows=>cases o <;> simp [sW,uN,avN,avO,St.add]
   | _=>simp [sW,uN,avN,avO]
 | agg l=>simp [sW,yR,avN,avO]
 | _=>simp [sW,avN,avO]
theorem c3d:∀(l:List AV) (st:St),a0a st l=(c1g st.ob.length l,{ st with ob:=st.ob++c1f st.ob.length l })
 | [],st=>by simp [a0a,c1g,c1f]
 | a :: l,st=>by
   have h:=c3d l
   show (let x:=sW st a;let y:=a0a x.2 l;(x.1 :: y.1,y.2))=_
   simp only [c6k,h]
   simp [c1g,c1f,List.append_assoc]
theorem d3m (st:St) (a:AV):a5b st a=(c3s st.ob.length a,{ st with ob:=st.ob++c3r st.ob.length a }):=by
 cases a with
 | tup l=>simp [a5b,c3d,c3s,c3r]
 | _=>simp [a5b,c6k,c3s,c3r]
theorem inK.get {st:St} {K:St→AV→Prop} {a:AV} (h:inK st K a):K (a5b st a).2 (a5b st a).1:=by
 rw [d3m];exact h _ rfl
def b2g (F:Nat→List AV→Out→Prop) (f:Nat) (args:List AV) (st:St) (K:St→AV→Prop):Prop :=
 match sP st args with
 | some as=>∃as' out,F f as' out∧FzAs as as'∧Tr (out.outs.isEmpty&&(!out.al||args.all AV.noRef)) (inK st.pad K out.res)
 | none=>False
def yV {α:Type}:List α→(List α→Prop)→Prop
 | [],K=>K []
 | x :: l,K=>yV l fun l'=>K (x :: l')
theorem yU {α:Type}:∀(l:List α) (K:List α→Prop),yV l K=K l
 | [],_=>rfl
 | x :: l,K=>by unfold yV;exact yU l _
def eC:List T→Nat→List T→List T
 | [],_,cs=>cs
 | x :: row,n+1,cs=>x :: eC row n cs
 | x :: row,0,[]=>x :: row
 | _ :: row,0,c :: cs=>c :: eC row 0 cs
theorem a0c:∀(row:List T) (off:Nat) (cells:List T),eC row off cells=row.take off++cells++row.drop (off+cells.length)
 | [],_,cs=>by simp [eC]
 | x :: row,n+1,cs=>by simp [eC,a0c row n cs,Nat.add_right_comm n 1]
 | x :: row,0,[]=>by simp [eC]
 | x :: row,0,c :: cs=>by simp [eC,a0c row 0 cs]
def T.isV:T→Bool
 | .v _=>true
 | _=>false
def T.flat:T→T
 | .v x=>.v x
 | _=>.h
def uI (rows:List (List T)):List (List T):=rows.map (List.map T.fz)
def T.sh:T→T
 | .s false k rows=>.s false k rows
 | .v x=>.v x
 | _=>.h
def wN (rows:List (List T)):List (List T):=rows.map (List.map T.sh)
def vM (rows:List (List T)):List (List T):=rows.map (List.map T.flat)
def evs (st:St):List Operand→List AV
 | []=>[]
 | x :: l=>st.evn x :: evs st l
def T.isC:T→Bool
 | .c _ _=>true
 | _=>false
def a3x:List AV→Option (List T)
 | []=>some []
 | a :: l=>match a,a3x l with
   | .one t,some r=>bif t.isC then none else some (t :: r)
   | _,_=>none
def wF (ti:TI):List T→List (Nat×AV)→(List T→Prop)→Prop
 | row,[],K=>K row
 | row,(i,a) :: l,K=>match a.cellsOf with
   | some cs=>Tr (Nat.beq cs.length (ti.fsz.getD i 0)&&(Nat.blt i ti.offs.length&&(Nat.blt i ti.fsz.length&&Nat.ble (ti.offs.getD i 0+cs.length) row.length))) <| yV (eC row (ti.offs.getD i 0) cs) fun row'=>wF ti row' l K
   | none=>False
def a3k (st:St):List (Nat×Operand)→List (Nat×AV)
 | []=>[]
 | (i,x) :: l=>(i,st.evn x) :: a3k st l
def a2n (st:St):List (Nat×Operand)→List AV
 | []=>[]
 | (_,x) :: l=>st.evn x :: a2n st l
def a8a:Nat→List (Nat×Operand)→Bool
 | _,[]=>true
 | j,(i,_) :: l=>i==j&&a8a (j+1) l
def a2m (st:St) (z:List T):List AV→Option (List (List T)×St)
 | []=>some ([],st)
 | a :: l=>match a.cellsOf with
   | some cs=>match lB st (oB z cs) with
     | some (r,st)=>match a2m st z l with
       | some (rs,st)=>some (r :: rs,st)
       | none=>none
     | none=>none
   | none=>none
def a1j (lo hi n:Int):Prop:=0≤lo∧lo≤hi∧hi≤n
def pZ (st:St) (x:Option Operand) (d:Int) (K:Int→Prop):Prop :=
 match x with
 | none=>K d
 | some x=>match st.ev x with
   | .one (.v (.int _ n))=>K n
   | _=>False
def d5p (st:St) (K:St→AV→Prop) (id row off:Nat) (cs:List T):Option Ob→Prop
 | some ob=>Tr (Nat.ble (off+cs.length) ob.k) <| ∀rows',rows'=ob.rows.set row (eC (dK ob.rows row) off cs)→K { st with ob:=st.ob.set id (some { ob with rows:=rows',ep:=ob.ep+1 }) } .no
 | none=>False
def a6i (K:St→AV→Prop) (id row off:Nat):Option (List T×St)→Prop
 | some (cs,st)=>d5p st K id row off cs (st.obj id)
 | none=>False
def T.fzT:T→T
 | .s _ k rows=>.s false k (cK rows)
 | t=>t
def rM:List T→List T
 | []=>[]
 | t :: l=>t.fzT :: rM l
def c5n (K:St→AV→Prop) (id row off:Nat):Option (List T×St)→Prop
 | some (cs,st)=>a6i K id row off (lB st (rM cs))
 | none=>False
def a3a (st:St) (K:St→AV→Prop) (id row off:Nat) (cs:List T):Option Ob→Prop
 | some ob=>bif ob.box then Tr (Nat.ble (off+cs.length) ob.k) <| yV (eC (dK ob.rows 0) off cs) fun row'=>K { st with ob:=st.ob.set id (some { ob with rows:=[row'] }) } .no
    else a6i K id row off (lB st cs)∨c5n K id row off (lB st cs)
 | none=>False
def yE (st:St) (te:TI):T→Option (Nat×List (List T)×St)
 | .s _ k ys=>some (k,uI ys,st)
 | .n id [] ep lo len=>match st.obj id with
   | some ob=>bif ob.box then none else bif te.zero.all T.isV then some (ob.k,vM (vH ep lo len ob.rows),st) else some (ob.k,vH ep lo len ob.rows,st.kill id)
   | none=>none
 | _=>none
def a1q (st:St):T→Option (Nat×List (List T)×St)
 | .n id [] ep lo len=>match st.obj id with
   | some ob=>bif ob.box then none else some (ob.k,wN (vH ep lo len ob.rows),st)
   | none=>none
 | _=>none
def d7c (st:St) (te:TI) (K:St→AV→Prop) (id ep lo len:Nat) (ys:List (List T)):Option Ob→Prop
 | some ob=>Tr (!ob.box&&Nat.beq ob.k te.size) <| ∀rows',rows'=vH ep lo len ob.rows++ys→(rows'.length*te.bytes≤140737488355328∧rows'.length≤9223372036854775807) ∧
    ∀m,m=st.ob.length→K ((st.kill id).add ⟨te.size,false,rows',0⟩) (.one (.n m [] 1 0 rows'.length))
 | none=>False
def d7e (st:St) (te:TI) (K:St→AV→Prop) (ys:List (List T)):Prop :=
 ∀rows',rows'=ys→(rows'.length*te.bytes≤140737488355328∧rows'.length≤9223372036854775807)∧∀m,m=st.ob.length→K (st.add ⟨te.size,false,rows',0⟩) (.one (.n m [] 1 0 rows'.length))
def zP (st:St) (te:TI) (K:St→AV→Prop) (x:AV):Option (Nat×List (List T)×St)→Prop
 | some (k,ys,st)=>Tr (Nat.beq k te.size) <| match x with
   | .one (.s true _ [])=>d7e st te K ys
   | .one (.v (.slice none 0 0))=>d7e st te K ys
   | .one (.n id [] ep lo len)=>d7c st te K id ep lo len ys (st.obj id)
   | _=>False
 | none=>False
def c5g (te:TI) (K:St→AV→Prop) (x:AV):Option (T×St)→Prop
 | some (y,st)=>zP st te K x (yE st te y.fzT)
 | none=>False
def St.hole (st:St) (id row off:Nat) (ob:Ob):St:={ st with ob:=(st.ob.set id (some { ob with rows:=ob.rows.set row (eC (dK ob.rows row) off [.h]),ep:=ob.ep+1 }))++[none] }
def St.lift (st:St) (id row off:Nat) (ob:Ob) (k:Nat) (rows:List (List T)):St:=(st.hole id row off ob).add ⟨k,false,rows,0⟩
def b1s (m n k:Nat):List (Nat×Nat)→Nat→Option T
 | [],_=>some (.n m [] 1 0 n)
 | [(lo,k')],len=>bif Nat.beq k' k then some (.n m [] 0 lo len) else none
 | _,_=>none
def b5e (st:St) (te:TI) (K:St→AV→Prop) (x:AV) (y:T):Prop:=match x,y with
 | .one (.n id [] ep lo len),.n id2 [] ep2 lo2 len2=>Tr (Nat.beq id2 id) <| match st.obj id with
   | some ob=>Tr (!ob.box&&Nat.beq ob.k te.size) <| lo+len≤lo2∧∀rows',rows'=vH ep lo len ob.rows++vH ep2 lo2 len2 ob.rows→(rows'.length*te.bytes≤140737488355328∧rows'.length≤9223372036854775807) ∧
      ∀m,m=st.ob.length→K ((st.kill id).add ⟨te.size,false,rows',0⟩) (.one (.n m [] 1 0 rows'.length))
   | none=>False
 | _,_=>False
def c5f (st:St) (te:TI) (K:St→AV→Prop) (x:AV):Option T→Prop
 | some y=>zP st te K x (yE st te y)∨(zP st te K x (a1q st y)∨b5e st te K x y)
 | none=>False
def d1a (st:St) (te:TI) (K:St→AV→Prop) (m n k id row off ep:Nat) (x:AV):T→Prop
 | .n id2 ((row2,off2) :: p2) ep2 _ len2=>Tr (Nat.beq id2 id&&(Nat.beq off2 off&&Nat.beq ep2 ep)) (row2=row∧c5f st te K x (b1s m n k p2 len2))
 | y=>zP st te K x (yE st te y)∨(zP st te K x (a1q st y)∨c5g te K x (lP st y))
def d1b (st:St) (te:TI) (K:St→AV→Prop) (m id row off:Nat) (ob:Ob) (p:List (Nat×Nat)) (len:Nat) (y:T):List T→Prop
 | .s true k rows :: _=>match b1s m rows.length k p len with
   | some x=>d1a (st.lift id row off ob k rows) te K m rows.length k id row off ob.ep (.one x) y
   | none=>False
 | _=>False
def d0z (st:St) (te:TI) (K:St→AV→Prop) (m id row off:Nat) (ob:Ob) (p:List (Nat×Nat)) (len:Nat) (x:AV):List T→Prop
 | .s true k rows :: _=>c5f (st.lift id row off ob k rows) te K x (b1s m rows.length k p len)
 | _=>False
def c9s (st:St) (te:TI) (K:St→AV→Prop) (x:AV):T→Prop
 | .n id ((row,off) :: p) ep _ len=>match st.obj id with
   | some ob=>Tr (!ob.box&&(Nat.beq ep ob.ep&&Nat.ble p.length 1)) (∀r,(true=true→ob.rows[row]?=some r)→∀m,m=st.ob.length+1→d0z st te K m id row off ob p len x (r.drop off))
   | none=>False
 | _=>False
def d7d (st:St) (te:TI) (K:St→AV→Prop) (y:T):AV→Prop
 | .one (.n id ((row,off) :: p) ep _ len)=>match st.obj id with
   | some ob=>Tr (!ob.box&&(Nat.beq ep ob.ep&&Nat.ble p.length 1)) (∀r,(true=true→ob.rows[row]?=some r)→∀m,m=st.ob.length+1→d1b st te K m id row off ob p len y (r.drop off))
   | none=>False
 | x=>c9s st te K x y
def b0z (st:St) (K:St→AV→Prop) (hi:Option Operand) (lo:Int) (esz id row off ep:Nat):List T→Prop
 | .s true k rows :: _=>Tr (Nat.beq esz k) <| pZ st hi rows.length fun hi=>a1j lo hi rows.length∧K st (.one (.n id [(row,off),(lo.toNat,k)] ep rows.length (hi.toNat - lo.toNat)))
 | _=>False
def oC (st:St) (m:AV):Nat→List AV→Option (List AV)
 | _,[]=>none
 | 0,_ :: l=>match sP st l with
   | some l=>some (m :: l)
   | none=>none
 | j+1,a :: l=>match kO st a,oC st m j l with
   | some a,some l=>some (a :: l)
   | _,_=>none
def b1o:Nat→List AV→Bool
 | _,[]=>true
 | 0,_ :: l=>l.all AV.noRef
 | j+1,a :: l=>a.noRef&&b1o j l
def a5d (op:Int→Int→Int) (k:IntKind) (K:Int→Prop):Int→List AV→Prop
 | acc,[]=>K acc
 | acc,.one (.v (.int k' b)) :: l=>Tr (decide (k=k')) <| a5d op k K (op acc b) l
 | _,_=>False
def d7s (st:St):T→Bool
 | .p id [] _ _ _=>match st.obj id with
   | some ob=>ob.box&&(dK ob.rows 0).all T.noRef
   | none=>false
 | t=>t.noRef
def d8i (st:St):AV→Bool
 | .one (.c _ caps)=>caps.all (d7s st)
 | a=>a.noRef
inductive OwnT:T→Prop
 | v (x:Value):OwnT (.v x)
 | h:OwnT .h
 | nil (o:Bool) (k:Nat):OwnT (.s o k [])
 | s (k:Nat) (rows:List (List T)) (hr:∀r∈rows,∀t∈r,OwnT t):OwnT (.s true k rows)
def d6l (i:Nat):List Nat→Bool
 | []=>true
 | j :: l=>!(Nat.beq i j)&&d6l i l
def T.flatB:T→Bool
 | .v _=>true
 | .s false _ _=>true
 | _=>false
def a1c (st:St) (us:Nat→Value):Nat→List Bool→List T→Option (List T×St)
 | _,_,[]=>some ([],st)
 | i,true :: ks,_ :: l=>match a1c st us (i+1) ks l with
   | some (l,st)=>some (.v (us i) :: l,st)
   | none=>none
 | i,ks,t :: l=>match lP st t with
   | some (t,st)=>match a1c st us (i+1) ks.tail l with
     | some (l,st)=>some (t :: l,st)
     | none=>none
   | none=>none
def kX:List Bool→List T→List T→List T
 | _,_,[]=>[]
 | _,[],l=>l
 | true :: ks,t :: l,_ :: l'=>t :: kX ks l l'
 | ks,_ :: l,t :: l'=>t :: kX ks.tail l l'
def b8o (us:Nat→Value):Nat→List Bool→List T→Prop
 | i,true :: ks,t :: l=>t=.v (us i)∧b8o us (i+1) ks l
 | i,false :: ks,_ :: l=>b8o us (i+1) ks l
 | _,_,_=>True
def d6e (j:Nat) (K:St→AV→Prop) (id:Nat) (ob:Ob) (ks:List Bool) (st1:St) (row2:List T) (res:AV):Prop :=
 ∃(α:Type) (x:α) (cv:α→List T) (rf:α→AV),row2=cv x∧res=rf x∧∀y,y=x→∀m,m=st1.ob.length+1→yV (kX ks (dK ob.rows 0) (jG m (cv y))) fun c =>
  inK { st1 with ob:=(st1.ob.set id (some { ob with rows:=[c],ep:=ob.ep+1 }))++none :: wO (cv y) } K (rf y)
def c8q (F:Nat→List AV→Out→Prop) (f:Nat) (args:List AV) (j:Nat) (K:St→AV→Prop) (id:Nat) (ob:Ob) (ks:List Bool) (us:Nat→Value) (st1:St):Option (List AV)→Prop
 | some as=>∃as' row' row2 res al,F f as' ⟨res,[.one (.b row')],[],al⟩∧FzAs as as'∧FzXs row' row2∧Tr (ob.box&&(b1o j args&&Nat.beq row2.length (dK ob.rows 0).length)) (b8o us 0 ks row2∧d6e j K id ob ks st1 row2 res)
 | none=>False
def c8r (F:Nat→List AV→Out→Prop) (f:Nat) (args:List AV) (j:Nat) (K:St→AV→Prop) (id:Nat) (ob:Ob) (ks:List Bool) (us:Nat→Value):Option (List T×St)→Prop
 | some (ts,st1)=>∃ts',FzXs ts ts'∧c8q F f args j K id ob ks us st1 (oC st1 (.tup [.one (.b ts')]) j args)
 | none=>False
def muV (F:Nat→List AV→Out→Prop) (f:Nat) (args:List AV) (j:Nat) (st:St) (K:St→AV→Prop) (id:Nat):Option Ob→Prop
 | some ob=>∃ks,∀us:Nat→Value,(∀i,fit (us i)=true)→c8r F f args j K id ob ks us (a1c (st.kill id) us 0 ks (dK ob.rows 0))
 | none=>False
def muT (F:Nat→List AV→Out→Prop) (f:Nat) (args:List AV) (j:Nat) (st:St) (K:St→AV→Prop):Option AV→Prop
 | some (.one (.p id [] ep 0 0))=>muV F f args j st K id (st.obj id)
 | _=>False
def c4y (F:Nat→List AV→Out→Prop) (f:Nat) (args:List AV) (st:St) (K:St→AV→Prop):Prop:=∃j,muT F f args j st K args[j]?
def a3w (E:Env) (ty:Nat) (a:AV):Operand→AV
 | .const _=>b2c E ty a
 | _=>a
def opS (E:Env) (F:Nat→List AV→Out→Prop) (op:Op) (ty:Nat) (st:St) (K:St→AV→Prop):Prop :=
 match op with
 | .alloc t=>E.ti t fun ti=>∀m,m=st.ob.length→K (st.add ⟨ti.size,true,[ti.zero],0⟩) (.one (.p m [] 0 0 0))
 | .box t x=>E.ti t fun ti=>match (a3w E t (st.evn x) x).cellsOf with
    | some cs=>Tr (Nat.beq cs.length ti.size) <| ∀m,m=st.ob.length→K (st.add ⟨ti.size,true,[cs],0⟩) (.one (.p m [] 0 0 0))
    | none=>False
 | .build t parts=>E.ti t fun ti=>Tr (Nat.beq ti.kind 1) <| wF ti ti.zero (a3k st parts.toList) fun cs=>K st (.agg (oB ti.zero cs))
 | .buildSlice t n parts=>E.ti t fun ti=>E.ti ti.elem fun te =>
    match a2m st te.zero (a2n st parts.toList) with
    | some (rows,st)=>Tr (Nat.beq ti.kind 2&&(Nat.beq rows.length n&&(a8a 0 parts.toList&&(Nat.ble (n*te.size) 16777216&&(Nat.ble n 16777216&&rows.all fun r=>Nat.beq r.length te.size))))) <|
       ((∀m,m=st.ob.length→K (st.add ⟨te.size,false,rows,0⟩) (.one (.n m [] 1 0 rows.length)))∨Tr (rows.all fun r=>r.all T.isV) (K st (.one (.s false te.size rows))))
    | none=>False
 | .makeFunc (.func f) first caps=>match first.toList,a3x (evs st caps.toList) with
    | [],some cs=>K st (.one (.c f cs))
    | _,_=>False
 | .makeSlice t l c=>E.ti t fun ti=>E.ti ti.elem fun te=>match st.ev l,st.ev c with
    | .one (.v (.int _ l)),.one (.v (.int _ c))=>Tr (Nat.beq ti.kind 2) <| (l=c∧0≤l∧(te.bytes:Int)*l≤281474976710656∧l≤9223372036854775807) ∧
       ∀rows',rows'=List.replicate l.toNat te.zero→∀m,m=st.ob.length→K (st.add ⟨te.size,false,rows',0⟩) (.one (.n m [] 1 0 rows'.length))
    | _,_=>False
 | .slice t x lo hi none=>E.ti t fun ti=>pZ st lo 0 fun lo=>match st.ev x with
    | .one (.v (.string s))=>Tr (Nat.beq ti.kind 4) <| pZ st hi s.size fun hi=>a1j lo hi s.size∧K st (.one (.v (.string (s.extract lo.toNat hi.toNat))))
    | .one (.s o k rows)=>Tr (Nat.beq ti.kind 2&&Nat.beq ti.esz k) <| pZ st hi rows.length fun hi=>a1j lo hi rows.length∧∀rows',rows'=(rows.drop lo.toNat).take (hi.toNat - lo.toNat)→K st (.one (.s o k rows'))
    | .one (.n id [] ep l len)=>match st.obj id with
      | some ob=>Tr (Nat.beq ti.kind 2&&Nat.beq ti.esz ob.k) <| pZ st hi len fun hi=>a1j lo hi len∧K st (.one (.n id [] 0 (l+lo.toNat) (hi.toNat - lo.toNat)))
      | none=>False
    | .one (.n id [(row,off)] ep _ _)=>match st.obj id with
      | some ob=>Tr (Nat.beq ti.kind 2&&(!ob.box&&Nat.beq ep ob.ep)) <| ∀r,(true=true→ob.rows[row]?=some r)→b0z st K hi lo ti.esz id row off ep (r.drop off)
      | none=>False
    | _=>False
 | .store t x y=>match st.ev x,(a3w E t (st.evn y) y).cellsOf with
    | .one (.p id [] _ row off),some cs=>E.ti t fun ti=>Tr (Nat.beq cs.length ti.size) <| a3a st K id row off cs (st.obj id)
    | _,_=>False
 | .call c=>match c.callee with
    | .value f=>match st.ev f with
      | .one (.c f caps)=>b2g F f (evs st c.args.toList++caps.map .one) st K∨c4y F f (evs st c.args.toList++caps.map .one) st K
      | _=>False
    | .builtin .append=>match evs st c.args.toList,c.argTypes.toList with
      | [x,.one y],[tx,ty']=>E.ti tx fun ti=>E.ti ti.elem fun te=>E.ti ty' fun ti'=>Tr (Nat.beq ti.kind 2&&(Nat.beq ti'.kind 2&&Nat.blt 0 te.size)) <| zP st te K x (yE st te y)∨(zP st te K x (a1q st y)∨(c5g te K x (lP st y)∨d7d st te K y x))
      | _,_=>False
    | .builtin .min=>match evs st c.args.toList with
      | .one (.v (.int k a)) :: l=>a5d min k (fun r=>K st (.one (.v (.int k r)))) a l
      | _=>False
    | .builtin .max=>match evs st c.args.toList with
      | .one (.v (.int k a)) :: l=>a5d max k (fun r=>K st (.one (.v (.int k r)))) a l
      | _=>False
    | _=>False
 | _=>False
def c6m (st:St) (d:Nat) (want:Bool) (K0 K1:St→Prop):AV→Prop
 | .lit b=>match b with
   | true=>(match want with | true=>K1 st | false=>K0 st)
   | false=>(match want with | true=>K0 st | false=>K1 st)
 | .one (.v (.bool b))=>(b=want→K1 (st.set (some d) (.lit want)))∧(b=(!want)→K0 (st.set (some d) (.lit !want)))
 | .may false .no=>K0 st
 | _=>False
def a0z (st:St) (want:Bool) (K0 K1:St→Prop):Option Nat→Prop
 | some d=>c6m st d want K0 K1 (iD st.tm d)
 | none=>False
def c4z (F:Nat→List AV→Out→Prop) (f:Nat) (args:List AV) (st:St) (K:AV→Prop):Prop :=
 match sP st args with
 | some as=>∃as' r,F f as' ⟨.one (.v r),[],[],false⟩∧FzAs as as'∧K (.one (.v r))
 | _=>False
def stK (st:St) (d:Option Nat) (a:AV) (K:St→Prop):Prop :=
 match st with
 | ⟨tm,ob,pr⟩=>match d with
   | some k=>yV ob fun ob=>K ⟨(k,a) :: tm,ob,pr⟩
   | none=>yV ob fun ob=>K ⟨tm,ob,pr⟩
theorem nY (st:St) (d:Option Nat) (a:AV) (K:St→Prop):stK st d a K=K (st.set d a):=by
 cases st;cases d <;> simp only [stK,yU] <;> rfl
def wJ (E:Env) (F:Nat→List AV→Out→Prop) (ops:Array Oper) (Q:St→Prop):List Oper→St→Prop
 | [],st=>Q st
 | ⟨d,op,ty,_,_,none⟩ :: l,st =>
     bif Op.pureA op then opP E true op ty st fun a=>stK st d a (wJ E F ops Q l)
     else opS E F op ty st fun st a=>stK st d a (wJ E F ops Q l)
 | ⟨d,op,ty,_,_,some (j,want)⟩ :: l,st=>a0z st want (fun st=>stK st d (.may false .no) (wJ E F ops Q l))
     (fun st=>bif Op.pureA op then opP E true op ty st fun a=>stK st d a (wJ E F ops Q l)
       else opS E F op ty st fun st a=>stK st d a (wJ E F ops Q l))
     ((ops[j]?).bind (·.dst))
def b7s (F:Nat→List AV→Out→Prop) (op:Op) (st:St) (K:AV→Prop):Prop :=
 match op with
 | .call ⟨.value x,args,_⟩=>match st.ev x with
   | .one (.c f caps)=>c4z F f (evs st args.toList++caps.map .one) st K
   | _=>False
 | _=>False
def b1g (st:St) (lo:Int) (hi:Option Operand) (ti:TI) (K:AV→Prop):AV→Prop
 | .one (.v (.string s))=>Tr (Nat.beq ti.kind 4) <| pZ st hi s.size fun hi=>a1j lo hi s.size∧K (.one (.v (.string (s.extract lo.toNat hi.toNat))))
 | _=>False
def b1d (E:Env) (F:Nat→List AV→Out→Prop) (op:Op) (st:St) (K:AV→Prop):Prop :=
 match op with
 | .slice t x lo hi none=>E.ti t fun ti=>pZ st lo 0 fun lo=>b1g st lo hi ti K (st.ev x)
 | .call c=>b7s F (.call c) st K
 | _=>False
def qU (E:Env) (F:Nat→List AV→Out→Prop) (ops:Array Oper) (Q:St→Prop):List Oper→St→Prop
 | [],st=>Q st
 | ⟨d,op,ty,_,_,none⟩ :: l,st =>
     bif Op.pureA op then opP E true op ty st fun a=>stK st d a (qU E F ops Q l)
     else b1d E F op st fun a=>stK st d a (qU E F ops Q l)
 | ⟨d,op,ty,_,_,some (j,want)⟩ :: l,st=>a0z st want (fun st=>stK st d (.may false .no) (qU E F ops Q l))
     (fun st=>bif Op.pureA op then opP E true op ty st fun a=>stK st d a (qU E F ops Q l)
       else b1d E F op st fun a=>stK st d a (qU E F ops Q l))
     ((ops[j]?).bind (·.dst))
def d0y (E:Env) (F:Nat→List AV→Out→Prop) (op:Op) (ty:Nat) (st:St) (K:St→AV→Prop):Prop :=
 match op with
 | .call ⟨.value x,args,tys⟩=>match st.ev x with
   | .one (.c f caps)=>b2g F f (evs st args.toList++caps.map .one) st K
   | _=>False
 | _=>False
def uJ (E:Env) (F:Nat→List AV→Out→Prop) (op:Op) (st:St) (K:AV→Prop):Prop :=
 match op with
 | .build t parts=>E.ti t fun ti=>Tr (Nat.beq ti.kind 1) <| wF ti ti.zero (a3k st parts.toList) fun cs=>K (.agg (oB ti.zero cs))
 | .call c=>b7s F (.call c) st K
 | _=>False
def b2e (E:Env) (F:Nat→List AV→Out→Prop) (op:Op) (ty:Nat) (st:St) (K:St→AV→Prop):Prop :=
 match op with
 | .call c=>d0y E F (.call c) ty st K
 | .alloc t=>opS E F (.alloc t) ty st K
 | .build t parts=>uJ E F (.build t parts) st (K st)
 | _=>False
def a0l (E:Env) (F:Nat→List AV→Out→Prop) (ops:Array Oper) (n:Nat) (Q:St→Prop):List (Nat×Bool)→St→Prop
 | [],st=>wJ E F ops Q (ops.toList.drop n) st
 | (i,q) :: l,st=>match ops.toList[i]? with
   | some ⟨d,op,ty,_,_,none⟩=>bif Op.pureA op then opP E true op ty st fun a=>stK st d a (a0l E F ops n Q l)
     else bif q then uJ E F op st fun a=>stK st d a (a0l E F ops n Q l)
     else b2e E F op ty st fun st a=>stK st d a (a0l E F ops n Q l)
   | some ⟨d,op,ty,_,_,some (j,want)⟩=>a0z st want (fun st=>stK st d (.may false .no) (a0l E F ops n Q l))
     (fun st=>bif Op.pureA op then opP E true op ty st fun a=>stK st d a (a0l E F ops n Q l)
       else bif q then uJ E F op st fun a=>stK st d a (a0l E F ops n Q l)
       else b2e E F op ty st fun st a=>stK st d a (a0l E F ops n Q l)) ((ops[j]?).bind (·.dst))
   | _=>False
def d0r (ops:Array Oper) (n:Nat) (listed:Array Bool):Bool:=(List.range ops.size).all fun i=>listed.getD i true==Nat.blt i n
def d0p (ops:Array Oper) (n:Nat):Bool:=(List.range ops.size).all fun t=>Nat.ble t n||(List.range ops.size).any fun j=>Nat.ble n j&&(Nat.blt j t&&Region.waitsFor .any ops t j)
def b0v (E:Env) (op:Op) (ty:Nat) (st:St) (K:AV→Prop):Prop :=
 match op with
 | .move x=>yN E ty K (st.ev x) x
 | .assign x=>yN E ty K (st.ev x) x
 | .fieldAddr s x f=>a8e st K f (E.tab s) (st.ev x)
 | .indexAddr t x ix=>a4t st true K (E.tab t) (st.ev x) (st.ev ix)
 | .binOp op t x y _=>b7q E true op t K (st.evn x) (st.evn y)
 | .extract x i=>yO K i (st.ev x)
 | .slice t x lo hi none=>E.ti t fun ti=>pZ st lo 0 fun lo=>match st.ev x with
   | .one (.n id [] ep l len)=>match st.obj id with
     | some ob=>Tr (Nat.beq ti.kind 2&&Nat.beq ti.esz ob.k) <| pZ st hi len fun hi=>a1j lo hi len∧K (.one (.n id [] 0 (l+lo.toNat) (hi.toNat - lo.toNat)))
     | none=>False
   | .one (.s false k rows)=>Tr (Nat.beq ti.kind 2&&Nat.beq ti.esz k) <| pZ st hi rows.length fun hi=>a1j lo hi rows.length∧∀rows',rows'=(rows.drop lo.toNat).take (hi.toNat - lo.toNat)→K (.one (.s false k rows'))
   | .one (.n id [(row,off)] ep _ _)=>match st.obj id with
     | some ob=>Tr (Nat.beq ti.kind 2&&(!ob.box&&Nat.beq ep ob.ep)) <| ∀r,(true=true→ob.rows[row]?=some r)→b0z st (fun _ a=>K a) hi lo ti.esz id row off ep (r.drop off)
     | none=>False
   | a=>b1g st lo hi ti K a
 | _=>False
def d6a (E:Env) (F:Nat→List AV→Out→Prop) (st:St) (K:St→Prop):Option Oper→Prop
 | some ⟨d,op,ty,_,_,none⟩=>bif Op.pureA op then opP E true op ty st fun a=>stK st d a K else opS E F op ty st fun st a=>stK st d a K
 | _=>False
def a3b (E:Env) (st:St) (K:St→Prop):Option Oper→Prop
 | some ⟨d,op,ty,_,_,none⟩=>b0v E op ty st fun a=>stK st d a K
 | _=>False
inductive DT where
 | leaf
 | q (i:Nat) (t:DT)
 | s (i:Nat) (t:DT)
 | o (i:Nat) (t:DT)
 | b (i:Nat) (t:DT) (j:Nat) (u:DT)
 | w (i:Nat) (t:DT)
inductive DS where
 | done
 | tail (n:Nat)
 | seg (n k:Nat) (t:DT) (r:DS)
 | pre (i:Nat) (r:DS)
def b2d (E:Env) (F:Nat→List AV→Out→Prop) (op:Op) (ty:Nat) (st:St) (K:St→AV→Prop):Prop :=
 match op with
 | .buildSlice t n parts=>opS E F (.buildSlice t n parts) ty st K
 | op=>b2e E F op ty st K
def yH (E:Env) (F:Nat→List AV→Out→Prop) (ops:Array Oper) (q:Bool) (st:St) (Kn:St→Prop):Option Oper→Prop
 | some ⟨d,op,ty,_,_,none⟩=>bif Op.pureA op then opP E true op ty st fun a=>stK st d a Kn
    else bif q then uJ E F op st fun a=>stK st d a Kn
    else b2d E F op ty st fun st a=>stK st d a Kn
 | some ⟨d,op,ty,_,_,some (j,want)⟩=>a0z st want (fun st=>stK st d (.may false .no) Kn)
    (fun st=>bif Op.pureA op then opP E true op ty st fun a=>stK st d a Kn
      else bif q then uJ E F op st fun a=>stK st d a Kn
      else b2d E F op ty st fun st a=>stK st d a Kn) ((ops[j]?).bind (·.dst))
 | _=>False
def b8b (E:Env) (st:St) (Kn:St→Prop):Option Oper→Prop
 | some ⟨none,.store t x y,ty,_,_,none⟩=>match st.ev x,(a3w E t (st.evn y) y).cellsOf with
   | .one (.p id [] _ row off),some cs=>E.ti t fun ti=>Tr (Nat.beq cs.length ti.size) <| match st.obj id with
     | some ob=>Tr ob.box (a3a st (fun st a=>stK st none a Kn) id row off cs (some ob))
     | none=>False
   | _,_=>False
 | _=>False
def wI (E:Env) (F:Nat→List AV→Out→Prop) (ops:Array Oper) (Kn:St→Prop):DT→St→Prop
 | .leaf,st=>Kn st
 | .q i t,st=>yH E F ops true st (wI E F ops Kn t) ops.toList[i]?
 | .s i t,st=>a3b E st (wI E F ops Kn t) ops.toList[i]?
 | .o i t,st=>yH E F ops false st (wI E F ops Kn t) ops.toList[i]?
 | .b i t j u,st=>yH E F ops false st (wI E F ops Kn t) ops.toList[i]?∧yH E F ops false st (wI E F ops Kn u) ops.toList[j]?
 | .w i t,st=>b8b E st (wI E F ops Kn t) ops.toList[i]?
def b3j (E:Env) (F:Nat→List AV→Out→Prop) (ops:Array Oper) (Q:St→Prop):DS→St→Prop
 | .done,st=>Q st
 | .tail n,st=>wJ E F ops Q (ops.toList.drop n) st
 | .seg _ _ t r,st=>wI E F ops (b3j E F ops Q r) t st
 | .pre i r,st=>a3b E st (b3j E F ops Q r) ops.toList[i]?
def addZ (ops:Array Oper) (i:Nat) (Z:List Nat):List Nat:=match ops[i]? with
 | some ⟨some d,.alloc _,_,_,_,none⟩=>d :: Z
 | _=>Z
def a1l (ops:Array Oper) (i:Nat) (Z:List Nat):Bool:=match ops[i]? with
 | some ⟨some d,_,_,_,_,_⟩=>!Z.contains d
 | _=>true
def b8a (ops:Array Oper) (i:Nat) (Z:List Nat):Bool:=match ops[i]? with
 | some ⟨none,.store _ (.tmp d) _,_,_,_,none⟩=>Z.contains d
 | _=>false
def gT (ops:Array Oper) (n:Nat) (L:Array Bool):Bool→List Nat→Nat→DT→Array Bool→Bool
 | _,_,0,.leaf,listed=>listed==L
 | ph,Z,k+1,.q i t,listed=>(Nat.blt i n&&a1l ops i Z)&&(ph&&(Region.free .any ops listed i&&((Region.ready .any ops listed).contains i&&gT ops n L ph Z k t (listed.setIfInBounds i true))))
 | ph,Z,k+1,.s i t,listed=>(Nat.blt i n&&a1l ops i Z)&&(Region.free .any ops listed i&&((Region.ready .any ops listed).contains i&&gT ops n L ph Z k t (listed.setIfInBounds i true)))
 | _,Z,k+1,.o i t,listed=>(Nat.blt i n&&a1l ops i Z)&&((Region.ready .any ops listed==[i])&&gT ops n L false (addZ ops i Z) k t (listed.setIfInBounds i true))
 | _,Z,k+1,.b i t j u,listed=>(Nat.blt i n&&a1l ops i Z)&&((Nat.blt j n&&a1l ops j Z)&&((Region.ready .any ops listed==[i,j])&&(gT ops n L false (addZ ops i Z) k t (listed.setIfInBounds i true)&&gT ops n L false (addZ ops j Z) k u (listed.setIfInBounds j true))))
 | _,Z,k+1,.w i t,listed=>(Nat.blt i n&&b8a ops i Z)&&((Region.ready .any ops listed==[i])&&gT ops n L false Z k t (listed.setIfInBounds i true))
 | _,_,_,_,_=>false
def b1e (ops:Array Oper) (n:Nat):Array Bool:=((List.range ops.size).map fun i=>Nat.blt i n).toArray
def d0o (ops:Array Oper) (n:Nat) (X:List Nat):Bool:=(List.range n).all fun i=>X.contains i||(List.range (n+1)).any fun j=>Nat.blt i j&&Region.waitsFor .any ops j i
def a7g (ops:Array Oper):List Nat→Nat→DS→Array Bool→Bool
 | _,_,.done,listed=>(Region.ready .any ops listed).isEmpty
 | _,m,.tail n,listed=>Nat.ble n ops.size&&Region.seqB .any ops (ops.size - n) n listed
 | X,m,.seg n k t r,listed=>Nat.ble m n&&(Nat.ble n ops.size&&((Nat.beq n ops.size||(d0o ops n X&&d0p ops n))&&(gT ops n (b1e ops n) true [] k t listed&&(d0r ops n (b1e ops n)&&a7g ops X n r (b1e ops n)))))
 | X,m,.pre i r,listed=>Nat.blt i ops.size&&(Region.free .any ops listed i&&((Region.ready .any ops listed).contains i&&a7g ops (i :: X) (max m (i+1)) r (listed.setIfInBounds i true)))
def a5j (sz:Nat):DS→Nat
 | .done=>0
 | .tail n=>sz - n
 | .seg _ k _ r=>k+a5j sz r
 | .pre _ r=>a5j sz r+1
def c2u (ops:Array Oper) (l:DS):Bool:=Region.noSelect ops&&(Nat.beq (a5j ops.size l) ops.size&&a7g ops [] 0 l (Array.replicate ops.size false))
inductive ZT where
 | leaf
 | q (i:Nat) (t:ZT)
 | z (i:Nat) (t:ZT)
 | m (i:Nat) (ks:List Nat) (t:ZT)
 | b (i:Nat) (ks:List Nat) (t:ZT) (j:Nat) (ls:List Nat) (u:ZT)
def b1t (E:Env) (st:St) (K:Option Nat→AV→Prop):Option Oper→Prop
 | some ⟨d,op,ty,_,_,none⟩=>bif Op.pureA op then opP E true op ty st (K d) else b0v E op ty st (K d)
 | _=>False
def c4d (st:St):Option Nat→AV→Prop
 | some d,a=>iD st.tm d=a
 | none,_=>True
def yY (E:Env) (ops:Array Oper) (st:St):List (Nat×AV)→Prop
 | []=>True
 | (i,a) :: D=>b1t E st (fun d b=>b=a∧c4d st d a) ops.toList[i]?∧yY E ops st D
def a5l (ops:Array Oper):List Nat→List (Nat×AV)→List (Nat×AV)
 | _,[]=>[]
 | R,x :: l=>bif R.any (fun r=>Region.waitsFor .any ops r x.1) then a5l ops (x.1 :: R) l else x :: a5l ops R l
def c4n (ops:Array Oper) (i:Nat) (D:List (Nat×AV)):List (Nat×AV):=(a5l ops [i] D.reverse).reverse
def b2a (ops:Array Oper):List Nat→List Nat→List Nat
 | _,[]=>[]
 | R,x :: l=>bif R.any (fun r=>Region.waitsFor .any ops r x) then b2a ops (x :: R) l else x :: b2a ops R l
def a5a (ops:Array Oper) (i:Nat) (D:List Nat):List Nat:=(b2a ops [i] D.reverse).reverse
def a0t:List Nat→Nat→Bool
 | [],_=>false
 | k :: l,i=>bif Nat.beq k i then true else a0t l i
def pY (ks:List Nat):List (Nat×AV)→List (Nat×AV)
 | []=>[]
 | x :: l=>bif a0t ks x.1 then x :: pY ks l else pY ks l
def a6l (ks:List Nat):List Nat→List Nat
 | []=>[]
 | x :: l=>bif a0t ks x then x :: a6l ks l else a6l ks l
def b3v (E:Env) (F:Nat→List AV→Out→Prop) (ops:Array Oper) (st:St) (K:St→Prop):Option Oper→Prop
 | some ⟨d,op,ty,_,_,none⟩=>bif Op.pureA op then opP E true op ty st fun a=>stK st d a K else opS E F op ty st fun st a=>stK st d a K
 | some ⟨d,op,ty,_,_,some (j,want)⟩=>a0z st want (fun st=>stK st d (.may false .no) K)
    (fun st=>bif Op.pureA op then opP E true op ty st fun a=>stK st d a K
      else opS E F op ty st fun st a=>stK st d a K) ((ops[j]?).bind (·.dst))
 | _=>False
def wpZ (E:Env) (F:Nat→List AV→Out→Prop) (ops:Array Oper) (Kn:St→Prop):ZT→List (Nat×AV)→St→Prop
 | .leaf,_,st=>Kn st
 | .q i t,D,st=>a3b E st (wpZ E F ops Kn t D) ops.toList[i]?
 | .z i t,D,st=>b1t E st (fun d a=>stK st d a (wpZ E F ops Kn t (D++[(i,a)]))) ops.toList[i]?
 | .m i ks t,D,st=>b3v E F ops st (fun st=>yY E ops st (pY ks D)∧wpZ E F ops Kn t (pY ks D) st) ops.toList[i]?
 | .b i ks t j ls u,D,st=>b3v E F ops st (fun st=>yY E ops st (pY ks D)∧wpZ E F ops Kn t (pY ks D) st) ops.toList[i]? ∧
    b3v E F ops st (fun st=>yY E ops st (pY ls D)∧wpZ E F ops Kn u (pY ls D) st) ops.toList[j]?
def a7u (ops:Array Oper) (i k:Nat):Bool:=match ops[i]?,ops[k]? with
 | some oi,some ok=>match oi.dst with
   | some d=>!(ok.looksAt ops).contains d&&(i==k||ok.dst != some d)
   | none=>true
 | _,_=>false
def zOk (ops:Array Oper):Nat→ZT→List Nat→Array Bool→Bool
 | 0,.leaf,_,L=>(Region.ready .any ops L).isEmpty
 | n+1,.q i t,D,L=>Region.free .any ops L i&&((Region.ready .any ops L).contains i&&(D.all (fun k=>!Region.waitsFor .any ops i k)&&zOk ops n t D (L.setIfInBounds i true)))
 | n+1,.z i t,D,L=>Region.free .any ops L i&&((Region.ready .any ops L).contains i&&(D.all (a7u ops i)&&(a7u ops i i&&zOk ops n t (D++[i]) (L.setIfInBounds i true))))
 | n+1,.m i ks t,D,L=>Region.ready .any ops L==[i]&&((a5a ops i D).all (a0t ks)&&zOk ops n t (a6l ks D) (L.setIfInBounds i true))
 | n+1,.b i ks t j ls u,D,L=>Region.ready .any ops L==[i,j]&&(((a5a ops i D).all (a0t ks)&&zOk ops n t (a6l ks D) (L.setIfInBounds i true))&&((a5a ops j D).all (a0t ls)&&zOk ops n u (a6l ls D) (L.setIfInBounds j true)))
 | _,_,_,_=>false
def c2t (ops:Array Oper) (t:ZT):Bool:=Region.noSelect ops&&zOk ops ops.size t [] (Array.replicate ops.size false)
def brk (id:Nat) (Q:Exit→St→Prop):Exit→St→Prop
 | .normal,st=>Q .normal st
 | .exit i,st=>bif i==id then Q .normal st else Q (.exit i) st
 | e,st=>Q e st
def thn (K:St→Prop) (Q:Exit→St→Prop):Exit→St→Prop
 | .normal,st=>K st
 | e,st=>Q e st
def gS (ρ:List (Option Nat)) (i:Nat):Option Nat:=(ρ[i]?).join
def eqN (ρ:List (Option Nat)) (i:Nat) (p:List (Nat×Nat)) (ep lo len:Nat):Option Nat→T→Prop
 | some j,.n j' [] ep' lo' len'=>j'=j∧[]=p∧ep'=ep∧lo'=lo∧len'=len
 | none,.s true _ rows=>Nat.blt i ρ.length=true∧rows=[]∧p=[]∧lo=0∧len=0
 | _,_=>False
def eqP (p:List (Nat×Nat)) (row off:Nat):Option Nat→T→Prop
 | some j,.p j' p' _ row' off'=>j'=j∧p'=p∧row'=row∧off'=off
 | _,_=>False
def eqS (k:Nat) (rows:List (List T)):T→Prop
 | .s true _ _=>rows=[]
 | o=>o=.s false k rows
def eqL (ρ:List (Option Nat)):T→T→Prop
 | .n i p ep lo len,o=>eqN ρ i p ep lo len (gS ρ i) o
 | .p i p _ row off,o=>eqP p row off (gS ρ i) o
 | .v x,o=>o=.v x
 | .s true k rows,o=>o=.s true k rows
 | .s false k rows,o=>eqS k rows o
 | .q k rows row off,o=>o=.q k rows row off
 | .h,_=>True
 | _,_=>False
def c9d (ρ:List (Option Nat)):List T→List T→Prop
 | [],[]=>True
 | t :: l,o :: m=>eqL ρ t o∧c9d ρ l m
 | _,_=>False
def eqT (ρ:List (Option Nat)):T→T→Prop
 | .c f caps,.c f' caps'=>f'=f∧c9d ρ caps caps'
 | t,o=>eqL ρ t o
def b4b (ρ:List (Option Nat)):List T→List T→Prop
 | [],[]=>True
 | t :: l,o :: m=>eqT ρ t o∧b4b ρ l m
 | _,_=>False
def c9e (ρ:List (Option Nat)):AV→AV→Prop
 | .one t,.one o=>eqT ρ t o
 | .one t,.lit b=>t=.v (.bool b)
 | .agg l,.agg m=>b4b ρ l m
 | .no,_=>True
 | _,_=>False
def c1m (ρ:List (Option Nat)) (tm:List (Nat×AV)):List (Nat×AV)→Prop
 | []=>True
 | (k,a) :: l=>c9e ρ a (iD tm k)∧c1m ρ tm l
def a7d (ρ:List (Option Nat)) (box:Bool) (rows rows':List (List T)):Prop:=match box with
 | true=>match rows,rows' with
   | [r],[r']=>b4b ρ r r'
   | _,_=>False
 | false=>rows'=rows
def c9c (ρ:List (Option Nat)) (st:St) (ob:Ob):Option Nat→Prop
 | some j=>match st.obj j with
   | some ob'=>ob'.box=ob.box∧ob'.k=ob.k∧a7d ρ ob.box ob.rows ob'.rows
   | none=>False
 | none=>ob.box=false∧ob.rows=[]
def yG (ρ:List (Option Nat)) (st:St):List (Option Nat)→List (Option Ob)→Prop
 | [],[]=>True
 | _ :: ls,none :: l=>yG ρ st ls l
 | x :: ls,some ob :: l=>c9c ρ st ob x∧yG ρ st ls l
 | _,_=>False
def a3v (x:Option Nat):List (Option Nat)→Bool
 | []=>true
 | y :: l=>(match x,y with | some i,some j=>!(Nat.beq i j) | _,_=>true)&&a3v x l
def a3o:List (Option Nat)→Bool
 | []=>true
 | x :: l=>a3v x l&&a3o l
def uE (ρ:List (Option Nat)) (st st2:St):Prop :=
 a3o ρ=true∧c1m ρ st.tm st2.tm∧yG ρ st ρ st2.ob∧b4b ρ st2.pr st.pr
def tU {α:Type} (S:α→St) (μ:α→Nat) (x:α) (st':St):Prop:=∃x' ρ,μ x' < μ x∧uE ρ st' (S x')
def a4y (W:(Exit→St→Prop)→St→Prop) (Q:Exit→St→Prop) (st:St):Prop :=
 ∃(α:Type) (S:α→St) (μ:α→Nat),(∃x0 ρ,uE ρ st (S x0))∧∀x,W (thn (tU S μ x) Q) (S x)
def d0x (x y:St→Prop) (st:St):AV→Prop
 | .lit b=>match b with
   | true=>x st
   | false=>y st
 | .one (.v (.bool b))=>(b=true→x st)∧(b=false→y st)
 | _=>False
def d0u (W:(Exit→St→Prop)→St→Prop) (K:St→Prop) (Q:Exit→St→Prop) (st:St):Prop :=
 ∃(α:Type) (S:α→St),(∀x,K (S x))∧W (thn (fun st'=>(∃x ρ,uE ρ st' (S x))∨K st') Q) st
def tG (N:Nat):Code→Bool
 | .region _ ops fl=>ops.toList.all (fun o=>match o.dst with | some d=>Nat.blt d N | none=>true)&&(!fl||Region.noSelect ops)
 | .seq x y=>tG N x&&tG N y
 | .cond _ x y=>tG N x&&tG N y
 | .block _ c=>tG N c
 | .loop c=>tG N c
 | _=>true
def wpA (E:Env) (F:Nat→List AV→Out→Prop):Code→(Exit→St→Prop)→St→Prop
 | .skip,Q,st=>Q .normal st
 | .region _ ops fl,Q,st=>bif fl then (Region.lexB .any ops=true∧qU E F ops (Q .normal) ops.toList st)∨((∃l,c2u ops l=true∧b3j E F ops (Q .normal) l st)∨∃t,c2t ops t=true∧wpZ E F ops (Q .normal) t [] st) else wJ E F ops (Q .normal) ops.toList st
 | .seq x y,Q,st=>wpA E F x (thn (wpA E F y Q) Q) st∨d0u (wpA E F x) (wpA E F y Q) Q st
 | .cond c x y,Q,st=>d0x (wpA E F x Q) (wpA E F y Q) st (st.ev c)
 | .block id c,Q,st=>wpA E F c (brk id Q) st
 | .loop c,Q,st=>a4y (wpA E F c) Q st
 | .exit i,Q,st=>Q (.exit i) st
 | .ret,Q,st=>Q .ret st
 | _,_,_=>False
end Go.Ev
