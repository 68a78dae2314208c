/- Rules by which the abstract machine is run (by simp). -/
import Derived.Test.YtbfbnamkgcanbaaEvR
namespace Go.Ev
open Go
section
variable {E : Env} {F : Nat → List AV → Out → Prop} {Q : Exit → St → Prop} {K K' : St → Prop} {tm : List (Nat × AV)} {ob : List (Option Ob)} {pr : List T}

/-- A choice, seen only when its Bool is known. -/
def brkB (b : Bool) (Q : Exit → St → Prop) (j : Nat) (st : St) : Prop := match b with | true => Q .normal st | false => Q (.exit j) st
def lookB (b : Bool) (a : AV) (l : List (Nat × AV)) (j : Nat) : AV := match b with | true => a | false => look l j
def readB (b : Bool) (K : AV → Prop) (m : Nat) (ti : TI) (row : List T) : Prop := match b with
  | true => (match readCells m (row.take ti.size) with | some l => l.length = ti.size ∧ K (.agg l) | none => False)
  | false => (match row with | t :: _ => (match readCell m t with | some t => K (.one t) | none => False) | [] => False)
def storeB (b : Bool) (st : St) (K : St → AV → Prop) (id row off : Nat) (cs : List T) (ob : Ob) : Prop := match b with
  | true => (row = 0 ∧ off + cs.length ≤ ob.k) ∧ K { st with ob := st.ob.set id (some { ob with rows := [fillRow (rowAt ob.rows 0) off cs] }) } .no
  | false => storeX K id row off (extCells st cs)
def plainB (b : Bool) (E : Env) (F : Nat → List AV → Out → Prop) (op : Op) (ty : Nat) (st : St) (K1 : AV → Prop) (K2 : St → AV → Prop) : Prop := match b with
  | true => opP E true op ty st K1
  | false => opS E F op ty st K2
def goB (b : Bool) (E : Env) (F : Nat → List AV → Out → Prop) (ops : Array Oper) (Q : St → Prop) (op : Op) (d : Option Nat) (ty : Nat) (l : List Oper) (st : St) (g : Bool) : Prop := match b with
  | true => opP E g op ty st (opsM E F ops Q l d st g)
  | false => match op with
    | .call ⟨.value (.func f), args, _⟩ => callG F g f (evs st args.toList) st (opsK E F ops Q l d st.pad)
    | _ => (g = true → opS E F op ty st (opsK E F ops Q l d)) ∧ (g = false → opsK E F ops Q l d st (.may false .no))
def opsKQ (E : Env) (F : Nat → List AV → Out → Prop) (ops : Array Oper) (Q : St → Prop) (l : List Oper) (d : Option Nat) (st : St) (a : AV) : Prop := wpOpsQ E F ops Q l (st.set d a)
def opsMQ (E : Env) (F : Nat → List AV → Out → Prop) (ops : Array Oper) (Q : St → Prop) (l : List Oper) (d : Option Nat) (st : St) (g : Bool) (a : AV) : Prop := wpOpsQ E F ops Q l (st.set d (a.gu g))
def opsUQ (E : Env) (F : Nat → List AV → Out → Prop) (ops : Array Oper) (Q : St → Prop) (l : List Oper) (d : Option Nat) (st : St) (a : AV) : Prop := wpOpsQ E F ops Q l (st.set d a.un)
def plainQ (b : Bool) (E : Env) (F : Nat → List AV → Out → Prop) (ops : Array Oper) (Q : St → Prop) (op : Op) (d : Option Nat) (ty : Nat) (l : List Oper) (st : St) : Prop := match b with
  | true => opP E true op ty st (opsKQ E F ops Q l d st)
  | false => match op with
    | .call ⟨.value (.func f), args, _⟩ => callG F true f (evs st args.toList) st (opsUQ E F ops Q l d st)
    | _ => False
def goQB (b : Bool) (E : Env) (F : Nat → List AV → Out → Prop) (ops : Array Oper) (Q : St → Prop) (op : Op) (d : Option Nat) (ty : Nat) (l : List Oper) (st : St) (g : Bool) : Prop := match b with
  | true => opP E g op ty st (opsMQ E F ops Q l d st g)
  | false => match op with
    | .call ⟨.value (.func f), args, _⟩ => callG F g f (evs st args.toList) st (opsKQ E F ops Q l d st)
    | _ => False
def goQ (E : Env) (F : Nat → List AV → Out → Prop) (ops : Array Oper) (Q : St → Prop) (op : Op) (d : Option Nat) (ty : Nat) (l : List Oper) (st : St) (g : Bool) : Prop := goQB (Op.pureA op) E F ops Q op d ty l st g

/-- A row of a slice, written. -/
def fillS (rows : List (List T)) (row off : Nat) (cs : List T) : List (List T) := rows.set row (fillRow (rowAt rows row) off cs)
theorem storeS_b {st : St} {K : St → AV → Prop} {id row off : Nat} {cs : List T} {ob : Ob} : storeS st K id row off cs (some ob) =
    ((row < ob.rows.length ∧ off + cs.length ≤ ob.k) ∧ K { st with ob := st.ob.set id (some { ob with rows := fillS ob.rows row off cs, ep := bif cs.all T.isV then ob.ep else ob.ep + 1 }) } .no) := rfl

/-- What stands behind a call's answer: opened when the answer is known. -/
def gK (K : AV → Prop) (g : Bool) (r : Value) : Prop := K (.may g (.one (.v r)))
def okAll (g : Bool) : List AV → Prop
  | [] => True
  | a :: l => a.ok g ∧ okAll g l
theorem okAll_iff {g : Bool} : ∀ {l : List AV}, okAll g l ↔ ∀ a ∈ l, a.ok g
  | [] => by simp [okAll]
  | a :: l => by simp [okAll, okAll_iff (l := l)]
def callR (F : Nat → List AV → Out → Prop) (g : Bool) (f : Nat) (args : List AV) (K : AV → Prop) : Option (List AV) → Prop
  | some as => okAll g args ∧ ∃ r, (g = true → F f as ⟨.one (.v r), [], [], false⟩) ∧ gK K g r
  | none => False
theorem callG_b {g : Bool} {f : Nat} {args : List AV} {st : St} {K : AV → Prop} : callG F g f args st K = callR F g f args K (roArgs st (args.map AV.un)) := by
  unfold callG callR
  split
  · rename_i as h
    rw [h]
    simp only [okAll_iff]
    rfl
  · rename_i h
    cases hr : roArgs st (args.map AV.un) with
    | none => rfl
    | some as => exact absurd hr (h as)

theorem wpA_skip {st} : wpA E F .skip Q st = Q .normal st := rfl
theorem wpA_region {i ops} : wpA E F (.region i ops false) Q ⟨tm, ob, pr⟩ = wpOps E F ops (Q .normal) ops.toList ⟨tm, ob, pr⟩ := rfl
theorem wpA_regionQ {i ops} : wpA E F (.region i ops true) Q ⟨tm, ob, pr⟩ = wpOpsQ E F ops (Q .normal) ops.toList ⟨tm, ob, pr⟩ := rfl
theorem wpA_seq {x y} : wpA E F (.seq x y) Q ⟨tm, ob, pr⟩ = wpA E F x (thn (wpA E F y Q) Q) ⟨tm, ob, pr⟩ := rfl
theorem wpA_cond {c x y} : wpA E F (.cond c x y) Q ⟨tm, ob, pr⟩ = condK (wpA E F x Q) (wpA E F y Q) ⟨tm, ob, pr⟩ (St.ev ⟨tm, ob, pr⟩ c) := rfl
theorem wpA_block {i c} : wpA E F (.block i c) Q ⟨tm, ob, pr⟩ = wpA E F c (brk i Q) ⟨tm, ob, pr⟩ := rfl
theorem wpA_loop {c} : wpA E F (.loop c) Q ⟨tm, ob, pr⟩ = loopA (wpA E F c) Q ⟨tm, ob, pr⟩ := rfl
theorem wpA_exit {i st} : wpA E F (.exit i) Q st = Q (.exit i) st := rfl
theorem wpA_ret {st} : wpA E F .ret Q st = Q .ret st := rfl
theorem thn_normal {st} : thn K Q .normal st = K st := rfl
theorem thn_exit {st i} : thn K Q (.exit i) st = Q (.exit i) st := rfl
theorem thn_ret {st} : thn K Q .ret st = Q .ret st := rfl
theorem brk_normal {st i} : brk i Q .normal st = Q .normal st := rfl
theorem brk_exit {st i j} : brk i Q (.exit j) st = brkB (j == i) Q j st := rfl
theorem brk_ret {st i} : brk i Q .ret st = Q .ret st := rfl
theorem condK_bool {x y : St → Prop} {st b} : condK x y st (.one (.v (.bool b))) = ((b = true → x st) ∧ (b = false → y st)) := rfl
theorem condK_true {x y : St → Prop} {st} : condK x y st (.one (.v (.bool true))) = x st := by simp [condK]
theorem condK_false {x y : St → Prop} {st} : condK x y st (.one (.v (.bool false))) = y st := by simp [condK]
theorem wpOps_nil' {Q : St → Prop} {ops st} : wpOps E F ops Q [] st = Q st := rfl
theorem wpOps_plain {Q : St → Prop} {ops d op ty pos af l} : wpOps E F ops Q (⟨d, op, ty, pos, af, none⟩ :: l) ⟨tm, ob, pr⟩ = plainB (Op.pureA op) E F op ty ⟨tm, ob, pr⟩ (opsK E F ops Q l d ⟨tm, ob, pr⟩) (opsK E F ops Q l d) := rfl
theorem wpOps_guard {Q : St → Prop} {ops d op ty pos af j want} {l : List Oper} : wpOps E F ops Q (⟨d, op, ty, pos, af, some (j, want)⟩ :: l) ⟨tm, ob, pr⟩ = guardD ⟨tm, ob, pr⟩ want (opGo E F ops Q op d ty l ⟨tm, ob, pr⟩) ((ops[j]?).bind (·.dst)) := rfl
theorem opGo_b {Q : St → Prop} {ops op d ty l st g} : opGo E F ops Q op d ty l st g = goB (Op.pureA op) E F ops Q op d ty l st g := rfl
theorem wpOpsQ_nil' {Q : St → Prop} {ops st} : wpOpsQ E F ops Q [] st = Q st := rfl
theorem wpOpsQ_plain {Q : St → Prop} {ops d op ty pos af l} : wpOpsQ E F ops Q (⟨d, op, ty, pos, af, none⟩ :: l) ⟨tm, ob, pr⟩ = plainQ (Op.pureA op) E F ops Q op d ty l ⟨tm, ob, pr⟩ := rfl
theorem wpOpsQ_guard {Q : St → Prop} {ops d op ty pos af j want} {l : List Oper} : wpOpsQ E F ops Q (⟨d, op, ty, pos, af, some (j, want)⟩ :: l) ⟨tm, ob, pr⟩ = guardD ⟨tm, ob, pr⟩ want (goQ E F ops Q op d ty l ⟨tm, ob, pr⟩) ((ops[j]?).bind (·.dst)) := rfl
theorem opsKQ_some {Q : St → Prop} {ops l d a} : opsKQ E F ops Q l (some d) ⟨tm, ob, pr⟩ a = wpOpsQ E F ops Q l ⟨(d, a) :: tm, ob, pr⟩ := rfl
theorem opsKQ_none {Q : St → Prop} {ops l a} : opsKQ E F ops Q l none ⟨tm, ob, pr⟩ a = wpOpsQ E F ops Q l ⟨tm, ob, pr⟩ := rfl
theorem opsUQ_some {Q : St → Prop} {ops l d a} : opsUQ E F ops Q l (some d) ⟨tm, ob, pr⟩ a = wpOpsQ E F ops Q l ⟨(d, a.un) :: tm, ob, pr⟩ := rfl
theorem opsMQ_some {Q : St → Prop} {ops l d g a} : opsMQ E F ops Q l (some d) ⟨tm, ob, pr⟩ g a = wpOpsQ E F ops Q l ⟨(d, a.gu g) :: tm, ob, pr⟩ := rfl
theorem opsK_some' {Q : St → Prop} {ops l d a} : opsK E F ops Q l (some d) ⟨tm, ob, pr⟩ a = wpOps E F ops Q l ⟨(d, a) :: tm, ob, pr⟩ := rfl
theorem opsK_none' {Q : St → Prop} {ops l a} : opsK E F ops Q l none ⟨tm, ob, pr⟩ a = wpOps E F ops Q l ⟨tm, ob, pr⟩ := rfl
theorem opsM_some' {Q : St → Prop} {ops l d g a} : opsM E F ops Q l (some d) ⟨tm, ob, pr⟩ g a = wpOps E F ops Q l ⟨(d, a.gu g) :: tm, ob, pr⟩ := rfl
theorem ev_tmp {t} : St.ev ⟨tm, ob, pr⟩ (.tmp t) = look tm t := rfl
theorem ev_int {st k n} : St.ev st (.const (.int k n)) = .one (.v (.int k n)) := rfl
theorem ev_bool {st n} : St.ev st (.const (.bool n)) = .one (.v (.bool n)) := rfl
theorem ev_string {st n} : St.ev st (.const (.string n)) = .one (.v (.string n)) := rfl
theorem ev_slice {st x n c} : St.ev st (.const (.slice x n c)) = .one (.v (.slice x n c)) := rfl
theorem ev_func {st f} : St.ev st (.func f) = .one (.c f []) := rfl
theorem look_cons {k a l j} : look ((k, a) :: l) j = lookB (k == j) a l j := rfl
theorem opRead_b {K : AV → Prop} {ti m row} : opRead K ti (some (m, row)) = readB (ti.kind == 1) K m ti row := rfl
theorem storeK_b {st : St} {K : St → AV → Prop} {id row off cs o} : storeK st K id row off cs (some o) = storeB o.box st K id row off cs o := rfl
theorem obj_mk {i} : St.obj ⟨tm, ob, pr⟩ i = (ob[i]?).join := rfl
theorem kill_mk {i} : St.kill ⟨tm, ob, pr⟩ i = ⟨tm, ob.set i none, pr⟩ := rfl
theorem add_mk {o} : St.add ⟨tm, ob, pr⟩ o = ⟨tm, ob ++ [some o], pr⟩ := rfl
theorem pad_mk : St.pad ⟨tm, ob, pr⟩ = ⟨tm, ob ++ [none], pr⟩ := rfl
theorem set_mk {d a} : St.set ⟨tm, ob, pr⟩ (some d) a = ⟨(d, a) :: tm, ob, pr⟩ := rfl
theorem entry_mk {args} : St.entry args = ⟨entryTm 0 args, [], []⟩ := rfl
theorem endA_ret {rs out st} : endA E rs out .ret st = resA E st (endK out st) rs := rfl
theorem endA_normal {rs out st} : endA E rs out .normal st = resA E st (endK out st) rs := rfl
end
attribute [go_sem] wpA_skip wpA_region wpA_regionQ wpA_seq wpA_cond wpA_block wpA_loop wpA_exit wpA_ret thn_normal thn_exit thn_ret brk_normal brk_exit brk_ret condK_bool brkB lookB readB storeB plainB goB opGo_b wpOpsQ_nil' wpOpsQ_plain wpOpsQ_guard opsKQ_some opsKQ_none opsUQ_some opsMQ_some plainQ goQ goQB opRead_b storeK_b wpOps_nil' wpOps_plain wpOps_guard opsK_some' opsK_none' opsM_some' guardD guardV callG_b callR okAll AV.scal AV.un AV.ok AV.pickOk AV.off AV.gu AV.bool? AV.isNo pickV op1 op2 evs ev_tmp ev_int ev_bool ev_string ev_slice ev_func look_cons 
  opP constT isNilT nilFix nilFixes St.ptr readCells readCell intA strA opMove opPick opLoad opField opIndexA opIndex opNil opEqs opBin opUn opConv opConvK opExtract opLenN opLen Env.ti Op.pureA St.res St.len obj_mk kill_mk add_mk pad_mk set_mk entry_mk entryTm endA_ret endA_normal resA resOf endK endX extAV extAV1 extAVs extCell extCells AV.cellsOf opS storeX storeS_b T.isV fillRow fillParts partsA rowAt cellsEq cellEq callA roArgs roAV roBox roCaps roCells ro inK inRes inAV inAVs inCell inCells AV.noRef T.noRef
  AV.Own AV.Own1 OwnL OwnAs
  cond_true cond_false eq_self true_implies List.set_cons_succ List.set_cons_zero Bool.false_eq_true false_implies implies_true List.getElem?_toArray List.getElem?_cons_zero List.getElem?_cons_succ Option.bind_some List.length_cons List.length_nil List.getD_cons_zero List.getD_cons_succ Nat.zero_add List.drop_succ_cons List.drop_zero Option.join_some List.nil_append List.cons_append and_self true_and and_true forall_const or_true List.take_succ_cons List.take_zero Option.map_some Option.isSome_some List.append_nil List.all_cons List.all_nil Bool.and_true Bool.true_and List.map_nil List.map_cons
theorem ownT_v {x : Value} : OwnT (.v x) = True := propext ⟨fun _ => trivial, fun _ => .v x⟩
attribute [go_sem] ownT_v
attribute [go_sem high] condK_true condK_false
end Go.Ev
