/- The abstract machine: trees for memory, a weakest precondition over the model's own code. Definitions alone. -/
import Derived.Below
import Derived.KernelRfl
import Derived.Deep.Quiet
namespace Go.Ev
open Go

inductive T where
  | v (x : Value)
  | s (o : Bool) (k : Nat) (rows : List (List T))
  | n (id : Nat) (path : List (Nat × Nat)) (ep lo len : Nat)
  | p (id : Nat) (path : List (Nat × Nat)) (ep row off : Nat)
  | q (k : Nat) (rows : List (List T)) (row off : Nat)
  | b (row : List T)
  | c (g : Nat) (caps : List T)
  | h

inductive AV where
  | one (t : T)
  | agg (l : List T)
  | tup (l : List AV)
  | may (g : Bool) (a : AV)
  | no

structure Ob where
  k : Nat
  box : Bool
  rows : List (List T)
  ep : Nat

structure St where
  tm : List (Nat × AV)
  ob : List (Option Ob)
  pr : List T

/-- What a type is: cells; 0: neither, 1: a struct, 2: a slice, 3: a bool, 4: a string; the zero value's cells, the fields' offsets, a slice's element type and that one's cells; bytes. -/
structure TI where
  size : Nat
  kind : Nat
  zero : List T
  offs : List Nat
  fsz : List Nat
  elem : Nat
  esz : Nat
  bytes : Nat
  ik : Option IntKind

/-- The kind of a flat cell. -/
inductive CK where
  | i (k : IntKind)
  | b
  | s

structure Env where
  P : Program
  tab : Nat → Option TI
  md : Nat → List Bool
  eqt : Nat → Option (List CK)

def look : List (Nat × AV) → Nat → AV
  | [], _ => .no
  | (k, a) :: l, j => bif k == j then a else look l j

def St.set (st : St) (d : Option Nat) (a : AV) : St :=
  match d with
  | some d => { st with tm := (d, a) :: st.tm }
  | none => st

def St.obj (st : St) (id : Nat) : Option Ob := (st.ob[id]?).join

/-- The value of an operand. -/
def St.ev (st : St) : Operand → AV
  | .tmp t => look st.tm t
  | .const (.agg cs) => bif cs.all Value.oneCell' then .agg (cs.toList.map .v) else .no
  | .const v => bif v.oneCell' then .one (.v v) else .no
  | .func f => .one (.c f [])
  | .global _ => .no

/-- What was reckoned behind a guard may be used behind the same guard. -/
def AV.un : AV → AV
  | .may _ a => a
  | a => a
def AV.ok (g : Bool) : AV → Prop
  | .may g' _ => g = true → g' = true
  | _ => True

def rowAt (rows : List (List T)) (i : Nat) : List T := rows.getD i []
def cellAt (row : List T) (j : Nat) : T := row.getD j .h

def T.fz : T → T
  | .s _ k rows => .s false k rows
  | .v x => .v x
  | _ => .h

/-- What a slice shows: the cells of an element, the rows. -/
def St.res (st : St) : T → Option (Nat × List (List T))
  | .s _ k rows => some (k, rows)
  | .n id [] _ lo len => match st.obj id with
    | some ob => bif ob.box then none else some (ob.k, (ob.rows.drop lo).take len)
    | none => none
  | _ => none

def St.len (st : St) : T → Option Nat
  | .s _ _ rows => some rows.length
  | .n id [] _ _ len => match st.obj id with
    | some _ => some len
    | none => none
  | _ => none

def Env.ti (E : Env) (t : Nat) (K : TI → Prop) : Prop :=
  match E.tab t with
  | some ti => K ti
  | none => False

/-- Integers, bools, strings. -/
def intA (g : Bool) (op : BinOp) (k : IntKind) (a b : Int) (K : AV → Prop) : Prop :=
  match op with
  | .shl => (g = true → 0 ≤ b) ∧ K (.one (.v (.int k (k.wrap (a * 2 ^ (min b.toNat k.bits))))))
  | .shr => (g = true → 0 ≤ b) ∧ K (.one (.v (.int k (Int.fdiv a (2 ^ (min b.toNat k.bits))))))
  | .add => K (.one (.v (.int k (k.wrap (a + b)))))
  | .sub => K (.one (.v (.int k (k.wrap (a - b)))))
  | .mul => K (.one (.v (.int k (k.wrap (a * b)))))
  | .quo => (g = true → b ≠ 0) ∧ K (.one (.v (.int k (k.wrap (Int.tdiv a b)))))
  | .rem => (g = true → b ≠ 0) ∧ K (.one (.v (.int k (Int.tmod a b))))
  | .and => K (.one (.v (.int k (k.wrap ↑(BitVec.toNat (BitVec.ofInt k.bits a &&& BitVec.ofInt k.bits b))))))
  | .or => K (.one (.v (.int k (k.wrap ↑(BitVec.toNat (BitVec.ofInt k.bits a ||| BitVec.ofInt k.bits b))))))
  | .xor => K (.one (.v (.int k (k.wrap ↑(BitVec.toNat (BitVec.ofInt k.bits a ^^^ BitVec.ofInt k.bits b))))))
  | .andNot => K (.one (.v (.int k (k.wrap ↑(BitVec.toNat (BitVec.ofInt k.bits a &&& ~~~(BitVec.ofInt k.bits b)))))))
  | .eql => K (.one (.v (.bool (a == b))))
  | .neq => K (.one (.v (.bool (a != b))))
  | .lss => K (.one (.v (.bool (decide (a < b)))))
  | .leq => K (.one (.v (.bool (decide (a ≤ b)))))
  | .gtr => K (.one (.v (.bool (decide (a > b)))))
  | .geq => K (.one (.v (.bool (decide (a ≥ b)))))
def strA (g : Bool) (op : BinOp) (a b : ByteArray) (K : AV → Prop) : Prop :=
  match op with
  | .add => (g = true → ((a.size + b.size : Nat) : Int) ≤ 9223372036854775807) ∧ K (.one (.v (.string (a ++ b))))
  | .eql => K (.one (.v (.bool (a.toList == b.toList))))
  | .neq => K (.one (.v (.bool !(a.toList == b.toList))))
  | .lss => K (.one (.v (.bool (Op.bytesLess a.toList b.toList))))
  | .leq => K (.one (.v (.bool (Op.bytesLess a.toList b.toList || a.toList == b.toList))))
  | .gtr => K (.one (.v (.bool !(Op.bytesLess a.toList b.toList || a.toList == b.toList))))
  | .geq => K (.one (.v (.bool !(Op.bytesLess a.toList b.toList))))
  | _ => False

/-- Two flat structs, field by field. -/
def cellEq : CK → T → T → Option Bool
  | .i k, .v (.int k1 a), .v (.int k2 b) => bif k1 == k && k2 == k then some (a == b) else none
  | .b, .v (.bool a), .v (.bool b) => some (a == b)
  | .s, .v (.string a), .v (.string b) => some (a == b)
  | _, _, _ => none
def cellsEq : List CK → List T → List T → Option Bool
  | [], [], [] => some true
  | c :: cs, x :: xs, y :: ys => match cellEq c x y, cellsEq cs xs ys with
    | some a, some r => some (a && r)
    | _, _ => none
  | _, _, _ => none

/-- A cell as it is read: out of frozen memory (0), a variable (1), a slice of one's own (2). -/
def readCell (m : Nat) (t : T) : Option T :=
  match t with
  | .s o k rows => match m with
    | 0 => some (.s false k rows)
    | 1 => some (.s o k rows)
    | _ => bif o then (match rows with | [] => some (.s false k []) | _ => none) else some (.s false k rows)
  | .b _ => none
  | .c g caps => match m with
    | 1 => some (.c g caps)
    | _ => none
  | t => some t

def readCells (m : Nat) : List T → Option (List T)
  | [] => some []
  | t :: l => match readCell m t, readCells m l with
    | some a, some r => some (a :: r)
    | _, _ => none

/-- What a pointer shows: its row from the cell on; how it is read. -/
def St.ptr (st : St) : T → Option (Nat × List T)
  | .q _ rows row off => some (0, (rowAt rows row).drop off)
  | .p id [] _ row off => match st.obj id with
    | some ob => some (bif ob.box then 1 else 2, (rowAt ob.rows row).drop off)
    | none => none
  | _ => none

def nilFix (z t : T) : T :=
  match t with
  | .v (.slice none 0 0) => z
  | t => t
def isNilT : T → Bool
  | .s true _ [] => true
  | _ => false
def nilFixes : List T → List T → List T
  | z :: zs, t :: ts => (bif isNilT z then nilFix z t else t) :: nilFixes zs ts
  | _, ts => ts
def constT (E : Env) (ty : Nat) (a : AV) : AV :=
  match a with
  | .one (.v (.slice none 0 0)) => match E.tab ty with
    | some ti => .one (.s true ti.esz [])
    | none => .no
  | .agg l => match E.tab ty with
    | some ti => .agg (nilFixes ti.zero l)
    | none => .no
  | a => a

def opMove (E : Env) (ty : Nat) (K : AV → Prop) (a : AV) : Prop := K (constT E ty a)
def AV.bool? : AV → Option Bool
  | .one (.v (.bool b)) => some b
  | _ => none
def AV.off : AV → Bool
  | .no => true
  | .may false _ => true
  | _ => false
def pickV (cb : Bool) (x y : AV) : AV :=
  match x.un.bool?, y.un.bool? with
  | some bx, some byy => .one (.v (.bool (bif cb then bx else byy)))
  | some bx, none => bif y.off then .one (.v (.bool bx)) else .no
  | none, some byy => bif x.off then .one (.v (.bool byy)) else .no
  | none, none => .no
def AV.isNo : AV → Bool
  | .no => true
  | _ => false
def AV.pickOk (b : Bool) (cb : Bool) : AV → Prop
  | .may g _ => cb = b → g = true
  | .no => cb = !b
  | _ => True
def opPick (K : AV → Prop) (x y : AV) : AV → Prop
  | .one (.v (.bool cb)) => (AV.pickOk true cb x ∧ AV.pickOk false cb y) ∧ K (pickV cb x y)
  | _ => False
def opRead (K : AV → Prop) (ti : TI) : Option (Nat × List T) → Prop
  | some (frz, row) => bif ti.kind == 1 then (match readCells frz (row.take ti.size) with | some l => l.length = ti.size ∧ K (.agg l) | none => False)
      else (match row with | t :: _ => (match readCell frz t with | some t => K (.one t) | none => False) | [] => False)
  | none => False
def opLoad (st : St) (K : AV → Prop) : Option TI → AV → Prop
  | some ti, .one p => opRead K ti (st.ptr p)
  | _, _ => False
def opField (st : St) (K : AV → Prop) (f : Nat) : Option TI → AV → Prop
  | some ti, .one (.q k rows row off) => (ti.kind = 1 ∧ f < ti.offs.length) ∧ K (.one (.q k rows row (off + ti.offs.getD f 0)))
  | some ti, .one (.p id [] ep row off) => (ti.kind = 1 ∧ f < ti.offs.length ∧ (st.obj id).isSome = true) ∧ K (.one (.p id [] ep row (off + ti.offs.getD f 0)))
  | _, _ => False
def opIndexA (st : St) (g : Bool) (K : AV → Prop) : Option TI → AV → AV → Prop
  | some ti, .one (.s _ k rows), .one (.v (.int _ i)) => (ti.kind = 2 ∧ ti.esz = k) ∧ (g = true → 0 ≤ i ∧ i < (rows.length : Int)) ∧ K (.one (.q k rows i.toNat 0))
  | some ti, .one (.n id [] ep lo len), .one (.v (.int _ i)) => match st.obj id with
    | some ob => (ti.kind = 2 ∧ ti.esz = ob.k) ∧ (g = true → 0 ≤ i ∧ i < (len : Int)) ∧ K (.one (.p id [] ep (lo + i.toNat) 0))
    | none => False
  | _, _, _ => False
def opIndex (g : Bool) (K : AV → Prop) : Option TI → AV → AV → Prop
  | some ti, .one (.v (.string s)), .one (.v (.int _ i)) => ti.kind = 4 ∧ (g = true → 0 ≤ i ∧ i < (s.size : Int)) ∧ K (.one (.v (.int .u8 ((s.data.getD i.toNat 0).toNat : Int))))
  | _, _, _ => False
def opNil (st : St) (K : AV → Prop) : AV → Prop
  | .one (.p id [] ep row off) => (st.obj id).isSome = true ∧ K (.one (.p id [] ep row off))
  | .one (.q k rows row off) => K (.one (.q k rows row off))
  | .one (.c f caps) => K (.one (.c f caps))
  | _ => False
def opEqs (op : BinOp) (K : AV → Prop) : Option Bool → Prop
  | some r => match op with
    | .eql => K (.one (.v (.bool r)))
    | .neq => K (.one (.v (.bool !r)))
    | _ => False
  | none => False
def opBin (E : Env) (g : Bool) (op : BinOp) (t : Nat) (K : AV → Prop) : AV → AV → Prop
  | .one (.v (.int k a)), .one (.v (.int k' b)) => (op = .shl ∨ op = .shr ∨ k = k') ∧ intA g op k a b K
  | .one (.v (.string a)), .one (.v (.string b)) => strA g op a b K
  | .one (.v (.bool a)), .one (.v (.bool b)) => E.ti t fun ti => ti.kind = 3 ∧ opEqs op K (some (a == b))
  | .agg xs, .agg ys => match E.eqt t with
    | some ks => opEqs op K (cellsEq ks xs ys)
    | none => False
  | _, _ => False
def opUn (K : AV → Prop) : UnOp → AV → Prop
  | .not, .one (.v (.bool b)) => K (.one (.v (.bool !b)))
  | .neg, .one (.v (.int k n)) => K (.one (.v (.int k (k.wrap (0 - n)))))
  | _, _ => False
def opConvK (K : AV → Prop) (n : Int) : Option IntKind → Prop
  | some k => K (.one (.v (.int k (k.wrap n))))
  | none => False
def opConv (K : AV → Prop) : Option TI → Option TI → AV → Prop
  | some _, some td, .one (.v (.int _ n)) => opConvK K n td.ik
  | _, _, _ => False
def opExtract (K : AV → Prop) (i : Nat) : AV → Prop
  | .tup l => match l[i]? with
    | some a => K a
    | none => False
  | _ => False
def opLenN (K : AV → Prop) : Option Nat → Prop
  | some n => K (.one (.v (.int .i64 n)))
  | none => False
def opLen (st : St) (K : AV → Prop) : Option TI → AV → Prop
  | some ti, .one (.v (.string s)) => ti.kind = 4 ∧ K (.one (.v (.int .i64 s.size)))
  | some ti, .one t => ti.kind = 2 ∧ opLenN K (st.len t)
  | _, _ => False

def op1 (g : Bool) (a : AV) (X : AV → Prop) : Prop := a.ok g ∧ X a.un
def op2 (g : Bool) (a b : AV) (X : AV → AV → Prop) : Prop := (a.ok g ∧ b.ok g) ∧ X a.un b.un

/-- Operations that turn nothing: what they answer. -/
def opP (E : Env) (g : Bool) (op : Op) (ty : Nat) (st : St) (K : AV → Prop) : Prop :=
  match op with
  | .move x => op1 g (st.ev x) (opMove E ty K)
  | .assign x => op1 g (st.ev x) (opMove E ty K)
  | .pick c x y => op1 g (st.ev c) (opPick K (st.ev x) (st.ev y))
  | .load t x => op1 g (st.ev x) (opLoad st K (E.tab t))
  | .fieldAddr s x f => op1 g (st.ev x) (opField st K f (E.tab s))
  | .indexAddr t x ix => op2 g (st.ev x) (st.ev ix) (opIndexA st g K (E.tab t))
  | .index t x ix => op2 g (st.ev x) (st.ev ix) (opIndex g K (E.tab t))
  | .nilCheck x => op1 g (st.ev x) (opNil st K)
  | .binOp op t x y _ => op2 g (st.ev x) (st.ev y) (opBin E g op t K)
  | .unOp op _ x => op1 g (st.ev x) (opUn K op)
  | .convert src dst x => op1 g (st.ev x) (opConv K (E.tab src) (E.tab dst))
  | .extract x i => op1 g (st.ev x) (opExtract K i)
  | .call ⟨.builtin .len, ⟨[x]⟩, ⟨[t]⟩⟩ => op1 g (st.ev x) (opLen st K (E.tab t))
  | _ => False

def Op.pureA : Op → Bool
  | .move _ | .assign _ | .pick .. | .load .. | .fieldAddr .. | .indexAddr .. | .index .. | .nilCheck _ | .binOp .. | .unOp .. | .convert .. | .extract .. => true
  | .call ⟨.builtin .len, _, _⟩ => true
  | _ => false


/-- A slice object goes over into a tree. -/
def St.kill (st : St) (id : Nat) : St := { st with ob := st.ob.set id none }
def St.add (st : St) (o : Ob) : St := { st with ob := st.ob ++ [some o] }

def extCell (st : St) : T → Option (T × St)
  | .v x => some (.v x, st)
  | .s o k rows => bif o then (match rows with | [] => some (.s true k [], st) | _ => none) else some (.s false k rows, st)
  | .n id [] _ lo len => match st.obj id with
    | some ob => bif ob.box then none else some (.s true ob.k ((ob.rows.drop lo).take len), st.kill id)
    | none => none
  | _ => none
def extCells (st : St) : List T → Option (List T × St)
  | [] => some ([], st)
  | t :: l => match extCell st t with
    | some (t, st) => match extCells st l with
      | some (l, st) => some (t :: l, st)
      | none => none
    | none => none

def AV.cellsOf : AV → Option (List T)
  | .one t => some [t]
  | .agg l => some l
  | _ => none

/-- A tree that is handed back becomes an object. -/
def inCell (st : St) : T → T × St
  | .s true k rows => (.n st.ob.length [] 0 0 rows.length, st.add ⟨k, false, rows, 0⟩)
  | t => (t, st)
def inCells (st : St) : List T → List T × St
  | [] => ([], st)
  | t :: l => let (t, st) := inCell st t; let (l, st) := inCells st l; (t :: l, st)
def inAV (st : St) : AV → AV × St
  | .one (.b row) => let (row, st) := inCells st row; (.one (.p st.ob.length [] 0 0 0), st.add ⟨row.length, true, [row], 0⟩)
  | .one t => let (t, st) := inCell st t; (.one t, st)
  | .agg l => let (l, st) := inCells st l; (.agg l, st)
  | a => (a, st)
def inAVs (st : St) : List AV → List AV × St
  | [] => ([], st)
  | a :: l => let (a, st) := inAV st a; let (l, st) := inAVs st l; (a :: l, st)
def inRes (st : St) : AV → AV × St
  | .tup l => let (l, st) := inAVs st l; (.tup l, st)
  | a => inAV st a

/-- What is handed to a call to be read alone: frozen. -/
def ro (st : St) : T → Option T
  | .v x => some (.v x)
  | .s _ k rows => some (.s false k rows)
  | .n id path ep lo len => match st.res (.n id path ep lo len) with
    | some (k, rows) => some (.s false k rows)
    | none => none
  | .q k rows row off => some (.q k rows row off)
  | .c g [] => some (.c g [])
  | _ => none
def roCells (st : St) : List T → Option (List T)
  | [] => some []
  | t :: l => match ro st t, roCells st l with
    | some t, some l => some (t :: l)
    | _, _ => none
def roBox (st : St) : T → Option T
  | .p id [] _ row off => match st.obj id with
    | some ob => bif ob.box then (match roCells st (rowAt ob.rows 0) with | some r => bif row == 0 then some (.q ob.k [r] 0 off) else none | none => none) else none
    | none => none
  | t => ro st t
def roCaps (st : St) : List T → Option (List T)
  | [] => some []
  | t :: l => match roBox st t, roCaps st l with
    | some t, some l => some (t :: l)
    | _, _ => none
def roAV (st : St) : AV → Option AV
  | .one (.c g caps) => (roCaps st caps).map fun l => .one (.c g l)
  | .one (.p id path ep row off) => (roBox st (.p id path ep row off)).map .one
  | .one t => (ro st t).map .one
  | .agg l => (roCells st l).map .agg
  | _ => none

/-- A variable that is handed on by its address: its cells as trees. -/
def muAV (st : St) : AV → Option (AV × St)
  | .one (.p id [] _ 0 0) => match st.obj id with
    | some ob => bif ob.box then (match extCells (st.kill id) (rowAt ob.rows 0) with | some (row, st) => some (.one (.b row), st) | none => none) else none
    | none => none
  | _ => none

structure Out where
  res : AV
  outs : List AV     -- what the arguments that may turn hold then, in order
  keep : List (List Nat)  -- their cells whose slices stay where they lie
  al : Bool   -- what is handed back may lead into what was handed on

def roArgs (st : St) : List AV → Option (List AV)
  | [] => some []
  | a :: l => match roAV st a, roArgs st l with
    | some a, some l => some (a :: l)
    | _, _ => none
/-- No way into what is one's own. -/
def T.noRef : T → Bool
  | .v _ => true
  | .s _ _ _ => true
  | .q _ _ _ _ => true
  | .c _ [] => true
  | _ => false
def AV.noRef : AV → Bool
  | .one t => t.noRef
  | .agg l => l.all T.noRef
  | _ => false
def St.pad (st : St) : St := { st with ob := st.ob ++ [none] }

def inK (st : St) (K : St → AV → Prop) (a : AV) : Prop := K (inRes st a).2 (inRes st a).1
def callA (F : Nat → List AV → Out → Prop) (f : Nat) (args : List AV) (st : St) (K : St → AV → Prop) : Prop :=
  match roArgs st args with
  | some as => ∃ out, F f as out ∧ (out.outs = [] ∧ (out.al = true → args.all AV.noRef = true)) ∧ inK st.pad K out.res
  | none => False

/-- Values for the cells of a type: a nil constant is an empty slice. -/
def fillRow (row : List T) (off : Nat) (cells : List T) : List T := row.take off ++ cells ++ row.drop (off + cells.length)

def T.isV : T → Bool
  | .v _ => true
  | _ => false

/-- The elements of a slice, copied: of flat cells alone, or frozen. -/
def T.flat : T → T
  | .v x => .v x
  | _ => .h
def rowsFz (rows : List (List T)) : List (List T) := rows.map (List.map T.fz)
def rowsFlat (rows : List (List T)) : List (List T) := rows.map (List.map T.flat)

def evs (st : St) : List Operand → List AV
  | [] => []
  | x :: l => st.ev x :: evs st l

def T.isC : T → Bool
  | .c _ _ => true
  | _ => false
def capsOf : List AV → Option (List T)
  | [] => some []
  | a :: l => match a, capsOf l with
    | .one t, some r => bif t.isC then none else some (t :: r)
    | _, _ => none

/-- Parts of a struct. -/
def fillParts (ti : TI) : List T → List (Nat × AV) → (List T → Prop) → Prop
  | row, [], K => K row
  | row, (i, a) :: l, K => match a.cellsOf with
    | some cs => (cs.length = ti.fsz.getD i 0 ∧ i < ti.offs.length ∧ i < ti.fsz.length ∧ ti.offs.getD i 0 + cs.length ≤ row.length) ∧ fillParts ti (fillRow row (ti.offs.getD i 0) cs) l K
    | none => False
def partsA (st : St) : List (Nat × Operand) → List (Nat × AV)
  | [] => []
  | (i, x) :: l => (i, st.ev x) :: partsA st l
def avsOf (st : St) : List (Nat × Operand) → List AV
  | [] => []
  | (_, x) :: l => st.ev x :: avsOf st l
def seqFrom : Nat → List (Nat × Operand) → Bool
  | _, [] => true
  | j, (i, _) :: l => i == j && seqFrom (j + 1) l

def buildRows (st : St) (z : List T) : List AV → Option (List (List T) × St)
  | [] => some ([], st)
  | a :: l => match a.cellsOf with
    | some cs => match extCells st (nilFixes z cs) with
      | some (r, st) => match buildRows st z l with
        | some (rs, st) => some (r :: rs, st)
        | none => none
      | none => none
    | none => none

def bound2 (lo hi n : Int) : Prop := 0 ≤ lo ∧ lo ≤ hi ∧ hi ≤ n

def optInt (st : St) (x : Option Operand) (d : Int) (K : Int → Prop) : Prop :=
  match x with
  | none => K d
  | some x => match st.ev x with
    | .one (.v (.int _ n)) => K n
    | _ => False

def storeS (st : St) (K : St → AV → Prop) (id row off : Nat) (cs : List T) : Option Ob → Prop
  | some ob => (row < ob.rows.length ∧ off + cs.length ≤ ob.k) ∧ K { st with ob := st.ob.set id (some { ob with rows := ob.rows.set row (fillRow (rowAt ob.rows row) off cs), ep := bif cs.all T.isV then ob.ep else ob.ep + 1 }) } .no
  | none => False
def storeX (K : St → AV → Prop) (id row off : Nat) : Option (List T × St) → Prop
  | some (cs, st) => storeS st K id row off cs (st.obj id)
  | none => False
def storeK (st : St) (K : St → AV → Prop) (id row off : Nat) (cs : List T) : Option Ob → Prop
  | some ob => bif ob.box then (row = 0 ∧ off + cs.length ≤ ob.k) ∧ K { st with ob := st.ob.set id (some { ob with rows := [fillRow (rowAt ob.rows 0) off cs] }) } .no
      else storeX K id row off (extCells st cs)
  | none => False

/-- What is appended: frozen, or flat, or consumed. -/
def srcOf (st : St) (te : TI) : T → Option (Nat × List (List T) × St)
  | .s _ k ys => some (k, rowsFz ys, st)
  | .n id [] _ lo len => match st.obj id with
    | some ob => bif ob.box then none else bif te.zero.all T.isV then some (ob.k, rowsFlat ((ob.rows.drop lo).take len), st) else some (ob.k, (ob.rows.drop lo).take len, st.kill id)
    | none => none
  | _ => none
def appN (st : St) (te : TI) (K : St → AV → Prop) (id lo len : Nat) (ys : List (List T)) : Option Ob → Prop
  | some ob => (ob.box = false ∧ ob.k = te.size ∧ (len + ys.length) * te.bytes ≤ 140737488355328 ∧ len + ys.length ≤ 9223372036854775807) ∧
      K ((st.kill id).add ⟨te.size, false, (ob.rows.drop lo).take len ++ ys, 0⟩) (.one (.n st.ob.length [] 0 0 (len + ys.length)))
  | none => False
def appS (st : St) (te : TI) (K : St → AV → Prop) (x : AV) : Option (Nat × List (List T) × St) → Prop
  | some (k, ys, st) => k = te.size ∧ match x with
    | .one (.s true _ []) => (ys.length * te.bytes ≤ 140737488355328 ∧ ys.length ≤ 9223372036854775807) ∧ K (st.add ⟨te.size, false, ys, 0⟩) (.one (.n st.ob.length [] 0 0 ys.length))
    | .one (.v (.slice none 0 0)) => (ys.length * te.bytes ≤ 140737488355328 ∧ ys.length ≤ 9223372036854775807) ∧ K (st.add ⟨te.size, false, ys, 0⟩) (.one (.n st.ob.length [] 0 0 ys.length))
    | .one (.n id [] _ lo len) => appN st te K id lo len ys (st.obj id)
    | _ => False
  | none => False

/-- Operations that turn something. -/
def opS (E : Env) (F : Nat → List AV → Out → Prop) (op : Op) (ty : Nat) (st : St) (K : St → AV → Prop) : Prop :=
  match op with
  | .alloc t => E.ti t fun ti => K (st.add ⟨ti.size, true, [ti.zero], 0⟩) (.one (.p st.ob.length [] 0 0 0))
  | .box t x => E.ti t fun ti => match (constT E t (st.ev x)).cellsOf with
      | some cs => cs.length = ti.size ∧ K (st.add ⟨ti.size, true, [cs], 0⟩) (.one (.p st.ob.length [] 0 0 0))
      | none => False
  | .build t parts => E.ti t fun ti => ti.kind = 1 ∧ fillParts ti ti.zero (partsA st parts.toList) fun cs => K st (.agg (nilFixes ti.zero cs))
  | .buildSlice t n parts => E.ti t fun ti => E.ti ti.elem fun te =>
      match buildRows st te.zero (avsOf st parts.toList) with
      | some (rows, st) => (ti.kind = 2 ∧ rows.length = n ∧ seqFrom 0 parts.toList = true ∧ n * te.size ≤ 16777216 ∧ (∀ r ∈ rows, r.length = te.size)) ∧
          K (st.add ⟨te.size, false, rows, 0⟩) (.one (.n st.ob.length [] 0 0 rows.length))
      | none => False
  | .makeFunc (.func f) first caps => match first.toList, capsOf (evs st caps.toList) with
      | [], some cs => K st (.one (.c f cs))
      | _, _ => False
  | .makeSlice t l c => E.ti t fun ti => E.ti ti.elem fun te => match st.ev l, st.ev c with
      | .one (.v (.int _ l)), .one (.v (.int _ c)) => (ti.kind = 2 ∧ l = c ∧ 0 ≤ l ∧ (te.bytes : Int) * l ≤ 281474976710656 ∧ l ≤ 9223372036854775807) ∧
          K (st.add ⟨te.size, false, List.replicate l.toNat te.zero, 0⟩) (.one (.n st.ob.length [] 0 0 l.toNat))
      | _, _ => False
  | .slice t x lo hi none => E.ti t fun ti => optInt st lo 0 fun lo => match st.ev x with
      | .one (.v (.string s)) => optInt st hi s.size fun hi => (ti.kind = 4 ∧ bound2 lo hi s.size) ∧ K st (.one (.v (.string (s.extract lo.toNat hi.toNat))))
      | .one (.s o k rows) => optInt st hi rows.length fun hi => ((ti.kind = 2 ∧ ti.esz = k) ∧ bound2 lo hi rows.length) ∧ K st (.one (.s o k ((rows.drop lo.toNat).take (hi.toNat - lo.toNat))))
      | .one (.n id [] ep l len) => match st.obj id with
        | some ob => optInt st hi len fun hi => ((ti.kind = 2 ∧ ti.esz = ob.k) ∧ bound2 lo hi len) ∧ K st (.one (.n id [] ep (l + lo.toNat) (hi.toNat - lo.toNat)))
        | none => False
      | _ => False
  | .store t x y => match st.ev x, (constT E t (st.ev y)).cellsOf with
      | .one (.p id [] _ row off), some cs => E.ti t fun ti => cs.length = ti.size ∧ storeK st K id row off cs (st.obj id)
      | _, _ => False
  | .call c => match c.callee with
      | .value f => match st.ev f with
        | .one (.c f caps) => callA F f (evs st c.args.toList ++ caps.map .one) st K
        | _ => False
      | .builtin .append => match evs st c.args.toList, c.argTypes.toList with
        | [x, .one y], [tx, ty'] => E.ti tx fun ti => E.ti ti.elem fun te => E.ti ty' fun ti' => (ti.kind = 2 ∧ ti'.kind = 2 ∧ 0 < te.size) ∧ appS st te K x (srcOf st te y)
        | _, _ => False
      | .builtin .min => match evs st c.args.toList with
        | [.one (.v (.int k a)), .one (.v (.int k' b))] => k = k' ∧ K st (.one (.v (.int k (min a b))))
        | _ => False
      | .builtin .max => match evs st c.args.toList with
        | [.one (.v (.int k a)), .one (.v (.int k' b))] => k = k' ∧ K st (.one (.v (.int k (max a b))))
        | _ => False
      | _ => False
  | _ => False

def guardV (want : Bool) (K : Bool → Prop) : AV → Prop
  | .one (.v (.bool b)) => K (b == want)
  | .may g (.one (.v (.bool b))) => K (g && (b == want))
  | .may false .no => K false
  | _ => False
def guardD (st : St) (want : Bool) (K : Bool → Prop) : Option Nat → Prop
  | some d => guardV want K (look st.tm d)
  | none => False
def AV.scal : AV → Bool
  | .one (.v _) => true
  | _ => false

/-- What was reckoned behind a guard. -/
def AV.gu (g : Bool) : AV → AV
  | .one t => .may g (.one t)
  | .agg l => .may g (.agg l)
  | _ => .may g .no

/-- A call behind a guard: of what is read alone, with one plain answer. -/
def callG (F : Nat → List AV → Out → Prop) (g : Bool) (f : Nat) (args : List AV) (st : St) (K : AV → Prop) : Prop :=
  match roArgs st (args.map AV.un) with
  | some as => (∀ a ∈ args, a.ok g) ∧ ∃ r, (g = true → F f as ⟨.one (.v r), [], [], false⟩) ∧ K (.may g (.one (.v r)))
  | _ => False

/-- The operations of a region, one behind the other. -/
def wpOps (E : Env) (F : Nat → List AV → Out → Prop) (ops : Array Oper) (Q : St → Prop) : List Oper → St → Prop
  | [], st => Q st
  | ⟨d, op, ty, _, _, none⟩ :: l, st =>
      bif Op.pureA op then opP E true op ty st fun a => wpOps E F ops Q l (st.set d a)
      else opS E F op ty st fun st a => wpOps E F ops Q l (st.set d a)
  | ⟨d, op, ty, _, _, some (j, want)⟩ :: l, st => guardD st want (fun g =>
      bif Op.pureA op then opP E g op ty st fun a => wpOps E F ops Q l (st.set d (a.gu g))
      else match op with
        | .call ⟨.value (.func f), args, _⟩ => callG F g f (evs st args.toList) st fun a => wpOps E F ops Q l (st.pad.set d a)
        | _ => (g = true → opS E F op ty st fun st a => wpOps E F ops Q l (st.set d a)) ∧ (g = false → wpOps E F ops Q l (st.set d (.may false .no))))
      ((ops[j]?).bind (·.dst))
/-- A region that draws its order: only what turns nothing, and calls of what is read alone with one plain answer. -/
def wpOpsQ (E : Env) (F : Nat → List AV → Out → Prop) (ops : Array Oper) (Q : St → Prop) : List Oper → St → Prop
  | [], st => Q st
  | ⟨d, op, ty, _, _, none⟩ :: l, st =>
      bif Op.pureA op then opP E true op ty st fun a => wpOpsQ E F ops Q l (st.set d a)
      else match op with
        | .call ⟨.value (.func f), args, _⟩ => callG F true f (evs st args.toList) st fun a => wpOpsQ E F ops Q l (st.set d a.un)
        | _ => False
  | ⟨d, op, ty, _, _, some (j, want)⟩ :: l, st => guardD st want (fun g =>
      bif Op.pureA op then opP E g op ty st fun a => wpOpsQ E F ops Q l (st.set d (a.gu g))
      else match op with
        | .call ⟨.value (.func f), args, _⟩ => callG F g f (evs st args.toList) st fun a => wpOpsQ E F ops Q l (st.set d a)
        | _ => False)
      ((ops[j]?).bind (·.dst))
def opsK (E : Env) (F : Nat → List AV → Out → Prop) (ops : Array Oper) (Q : St → Prop) (l : List Oper) (d : Option Nat) (st : St) (a : AV) : Prop := wpOps E F ops Q l (st.set d a)
def opsM (E : Env) (F : Nat → List AV → Out → Prop) (ops : Array Oper) (Q : St → Prop) (l : List Oper) (d : Option Nat) (st : St) (g : Bool) (a : AV) : Prop := wpOps E F ops Q l (st.set d (a.gu g))
def opGo (E : Env) (F : Nat → List AV → Out → Prop) (ops : Array Oper) (Q : St → Prop) (op : Op) (d : Option Nat) (ty : Nat) (l : List Oper) (st : St) (g : Bool) : Prop :=
  bif Op.pureA op then opP E g op ty st (opsM E F ops Q l d st g)
  else match op with
    | .call ⟨.value (.func f), args, _⟩ => callG F g f (evs st args.toList) st (opsK E F ops Q l d st.pad)
    | _ => (g = true → opS E F op ty st (opsK E F ops Q l d)) ∧ (g = false → opsK E F ops Q l d st (.may false .no))

def brk (id : Nat) (Q : Exit → St → Prop) : Exit → St → Prop
  | .normal, st => Q .normal st
  | .exit i, st => bif i == id then Q .normal st else Q (.exit i) st
  | e, st => Q e st
def thn (K : St → Prop) (Q : Exit → St → Prop) : Exit → St → Prop
  | .normal, st => K st
  | e, st => Q e st


/-- No way to an object from number n on. -/
def T.under0 (n : Nat) : T → Bool
  | .n id _ _ _ _ => Nat.blt id n
  | .p id _ _ _ _ => Nat.blt id n
  | .b _ => false
  | .c _ _ => false
  | _ => true
def T.under (n : Nat) : T → Bool
  | .c _ caps => caps.all (T.under0 n)
  | t => t.under0 n
def AV.under1 (n : Nat) : AV → Bool
  | .one t => t.under n
  | .agg l => l.all (T.under n)
  | .no => true
  | _ => false
def AV.under (n : Nat) : AV → Bool
  | .may _ _ => false
  | .tup _ => false
  | a => a.under1 n
def tmBelow (n : Nat) : List (Nat × AV) → Bool
  | [] => true
  | (_, a) :: l => a.under n && tmBelow n l
def obBelow (n : Nat) : List (Option Ob) → Bool
  | [] => true
  | some ob :: l => (!ob.box || ob.rows.all fun r => r.all (T.under n)) && obBelow n l
  | none :: l => obBelow n l
def agrees (tm : List (Nat × AV)) : List (Nat × AV) → Prop
  | [] => True
  | (k, a) :: l => look tm k = a ∧ agrees tm l
/-- Fewer temporaries, fewer objects. -/
def cuts (st st2 : St) : Prop :=
  agrees st.tm st2.tm ∧ st.ob.take st2.ob.length = st2.ob ∧ st.pr = st2.pr ∧ (tmBelow st2.ob.length st2.tm = true ∧ obBelow st2.ob.length st2.ob = true ∧ st2.pr.all (T.under st2.ob.length) = true)
def nextA {α : Type} (S : α → St) (μ : α → Nat) (x : α) (st' : St) : Prop := ∃ x', μ x' < μ x ∧ cuts st' (S x')
def loopA (W : (Exit → St → Prop) → St → Prop) (Q : Exit → St → Prop) (st : St) : Prop :=
  ∃ (α : Type) (S : α → St) (μ : α → Nat), (∃ x0, cuts st (S x0)) ∧ ∀ x, W (thn (nextA S μ x) Q) (S x)
def condK (x y : St → Prop) (st : St) : AV → Prop
  | .one (.v (.bool b)) => (b = true → x st) ∧ (b = false → y st)
  | _ => False

/-- What can be seen of a piece of code without running it: that it writes to temporaries that are there, and that the regions that draw can be walked in one order. -/
def codeOk (N : Nat) : Code → Bool
  | .region _ ops fl => ops.toList.all (fun o => match o.dst with | some d => Nat.blt d N | none => true) && (!fl || Region.lexB .any ops)
  | .seq x y => codeOk N x && codeOk N y
  | .cond _ x y => codeOk N x && codeOk N y
  | .block _ c => codeOk N c
  | .loop c => codeOk N c
  | _ => true

/-- The weakest precondition of a piece of code, over the abstract states. -/
def wpA (E : Env) (F : Nat → List AV → Out → Prop) : Code → (Exit → St → Prop) → St → Prop
  | .skip, Q, st => Q .normal st
  | .region _ ops fl, Q, st => bif fl then wpOpsQ E F ops (Q .normal) ops.toList st else wpOps E F ops (Q .normal) ops.toList st
  | .seq x y, Q, st => wpA E F x (thn (wpA E F y Q) Q) st
  | .cond c x y, Q, st => condK (wpA E F x Q) (wpA E F y Q) st (st.ev c)
  | .block id c, Q, st => wpA E F c (brk id Q) st
  | .loop c, Q, st => loopA (wpA E F c) Q st
  | .exit i, Q, st => Q (.exit i) st
  | .ret, Q, st => Q .ret st
  | _, _, _ => False

end Go.Ev
