import Derived.Test.YtbfbnamkgcanbaaDoorLTabsD
import Derived.Test.YtbfbnamkgcanbaaDoorLItoa
import Derived.Test.YtbfbnamkgcanbaaDoorEvY
set_option linter.unusedSectionVars false
namespace Go.Proofs.Tryd.Ev
open Go Go.Ev Go.Proofs
set_option maxHeartbeats 4000000
set_option maxRecDepth 100000
set_option linter.unusedSimpArgs false
set_option linter.unusedVariables false
structure Attr where
  Key : ByteArray
  Num : Bool
  N : Int
  Text : ByteArray
deriving DecidableEq, Inhabited
def Attr.cells (x : Attr) : List T := [.v (.string x.Key), .v (.bool x.Num), .v (.int .i64 x.N), .v (.string x.Text)]
theorem own_Attr (x : Attr) : OwnL (Attr.cells x) := ⟨.v _, .v _, .v _, .v _, trivial⟩
theorem frz_Attr (x : Attr) : frzL (Attr.cells x) = Attr.cells x := rfl
theorem fz_Attr (x : Attr) : (Attr.cells x).map T.fz = Attr.cells x := rfl
theorem fl_Attr (x : Attr) : (Attr.cells x).map T.flat = Attr.cells x := rfl
def Attr.bd (M : Nat) (x : Attr) : Prop := x.Key.size ≤ M ∧ x.Text.size ≤ M
def Attr.rg (x : Attr) : Prop := (x.Key).size ≤ 9223372036854775807 ∧ True ∧ I64 x.N ∧ (x.Text).size ≤ 9223372036854775807 ∧ True
theorem rg_Attr {x : Attr} (h : fitL (Attr.cells x)) : Attr.rg x := ⟨(Nat.le_of_ble_eq_true h.1), trivial, (range_of_fit h.2.2.1), (Nat.le_of_ble_eq_true h.2.2.2.1), trivial⟩
theorem Attr.rg.Key {x : Attr} (h : Attr.rg x) : (x.Key).size ≤ 9223372036854775807 := h.1
theorem Attr.rg.N {x : Attr} (h : Attr.rg x) : I64 x.N := h.2.2.1
theorem Attr.rg.Text {x : Attr} (h : Attr.rg x) : (x.Text).size ≤ 9223372036854775807 := h.2.2.2.1
structure Span where
  Trace : Int
  Id : Int
  Start : Int
  End : Int
  Err : Bool
  Attrs : (List Attr)
deriving DecidableEq, Inhabited
def Span.cells (o : Bool) (x : Span) : List T := [.v (.int .i64 x.Trace), .v (.int .i64 x.Id), .v (.int .i64 x.Start), .v (.int .i64 x.End), .v (.bool x.Err), .s o 4 (List.map Attr.cells x.Attrs)]
theorem own_Span (x : Span) : OwnL (Span.cells true x) := ⟨.v _, .v _, .v _, .v _, .v _, ownSl own_Attr _, trivial⟩
theorem frz_Span {o : Bool} (x : Span) : frzL (Span.cells o x) = Span.cells false x := by
  show [T.v (.int .i64 x.Trace), T.v (.int .i64 x.Id), T.v (.int .i64 x.Start), T.v (.int .i64 x.End), T.v (.bool x.Err), T.s false 4 (frzLL (List.map Attr.cells x.Attrs))] = _
  rw [frzMap (f := Attr.cells) (g := Attr.cells) frz_Attr x.Attrs]
  rfl
theorem fz_Span {o : Bool} (x : Span) : (Span.cells o x).map T.fz = Span.cells false x := by
  show [T.v (.int .i64 x.Trace), T.v (.int .i64 x.Id), T.v (.int .i64 x.Start), T.v (.int .i64 x.End), T.v (.bool x.Err), T.s false 4 (frzLL (List.map Attr.cells x.Attrs))] = _
  rw [frzMap (f := Attr.cells) (g := Attr.cells) frz_Attr x.Attrs]
  rfl
def Span.bd (M : Nat) (x : Span) : Prop := bdS Attr.bd M x.Attrs
def Span.rg (x : Span) : Prop := I64 x.Trace ∧ I64 x.Id ∧ I64 x.Start ∧ I64 x.End ∧ True ∧ ((x.Attrs).length ≤ 9223372036854775807 ∧ ∀ y ∈ x.Attrs, Attr.rg y) ∧ True
theorem rg_Span {o : Bool} {x : Span} (h : fitL (Span.cells o x)) : Span.rg x := ⟨(range_of_fit h.1), (range_of_fit h.2.1), (range_of_fit h.2.2.1), (range_of_fit h.2.2.2.1), trivial, ⟨by simpa using h.2.2.2.2.2.1.1, fun y hy => (rg_Attr (fitLL_map h.2.2.2.2.2.1.2 y hy))⟩, trivial⟩
theorem Span.rg.Trace {x : Span} (h : Span.rg x) : I64 x.Trace := h.1
theorem Span.rg.Id {x : Span} (h : Span.rg x) : I64 x.Id := h.2.1
theorem Span.rg.Start {x : Span} (h : Span.rg x) : I64 x.Start := h.2.2.1
theorem Span.rg.End {x : Span} (h : Span.rg x) : I64 x.End := h.2.2.2.1
theorem Span.rg.Attrs {x : Span} (h : Span.rg x) : ((x.Attrs).length ≤ 9223372036854775807 ∧ ∀ y ∈ x.Attrs, Attr.rg y) := h.2.2.2.2.2.1
structure Item where
  Stamp : Int
  S : Span
deriving DecidableEq, Inhabited
def Item.cells (o : Bool) (x : Item) : List T := [.v (.int .i64 x.Stamp), .v (.int .i64 x.S.Trace), .v (.int .i64 x.S.Id), .v (.int .i64 x.S.Start), .v (.int .i64 x.S.End), .v (.bool x.S.Err), .s o 4 (List.map Attr.cells x.S.Attrs)]
theorem own_Item (x : Item) : OwnL (Item.cells true x) := ⟨.v _, .v _, .v _, .v _, .v _, .v _, ownSl own_Attr _, trivial⟩
theorem frz_Item {o : Bool} (x : Item) : frzL (Item.cells o x) = Item.cells false x := by
  show [T.v (.int .i64 x.Stamp), T.v (.int .i64 x.S.Trace), T.v (.int .i64 x.S.Id), T.v (.int .i64 x.S.Start), T.v (.int .i64 x.S.End), T.v (.bool x.S.Err), T.s false 4 (frzLL (List.map Attr.cells x.S.Attrs))] = _
  rw [frzMap (f := Attr.cells) (g := Attr.cells) frz_Attr x.S.Attrs]
  rfl
theorem fz_Item {o : Bool} (x : Item) : (Item.cells o x).map T.fz = Item.cells false x := by
  show [T.v (.int .i64 x.Stamp), T.v (.int .i64 x.S.Trace), T.v (.int .i64 x.S.Id), T.v (.int .i64 x.S.Start), T.v (.int .i64 x.S.End), T.v (.bool x.S.Err), T.s false 4 (frzLL (List.map Attr.cells x.S.Attrs))] = _
  rw [frzMap (f := Attr.cells) (g := Attr.cells) frz_Attr x.S.Attrs]
  rfl
def Item.bd (M : Nat) (x : Item) : Prop := Span.bd M x.S
def Item.rg (x : Item) : Prop := I64 x.Stamp ∧ I64 x.S.Trace ∧ I64 x.S.Id ∧ I64 x.S.Start ∧ I64 x.S.End ∧ True ∧ ((x.S.Attrs).length ≤ 9223372036854775807 ∧ ∀ y ∈ x.S.Attrs, Attr.rg y) ∧ True
theorem rg_Item {o : Bool} {x : Item} (h : fitL (Item.cells o x)) : Item.rg x := ⟨(range_of_fit h.1), (range_of_fit h.2.1), (range_of_fit h.2.2.1), (range_of_fit h.2.2.2.1), (range_of_fit h.2.2.2.2.1), trivial, ⟨by simpa using h.2.2.2.2.2.2.1.1, fun y hy => (rg_Attr (fitLL_map h.2.2.2.2.2.2.1.2 y hy))⟩, trivial⟩
theorem Item.rg.Stamp {x : Item} (h : Item.rg x) : I64 x.Stamp := h.1
theorem Item.rg.S {x : Item} (h : Item.rg x) : Span.rg x.S := ⟨h.2.1, h.2.2.1, h.2.2.2.1, h.2.2.2.2.1, h.2.2.2.2.2.1, h.2.2.2.2.2.2.1, trivial⟩
structure Task where
  Op : Int
  Pc : Int
  S : Span
  Trace : Int
  Stamp : Int
  Hand : (List Item)
  H : Int
deriving DecidableEq, Inhabited
def Task.cells (o : Bool) (x : Task) : List T := [.v (.int .i64 x.Op), .v (.int .i64 x.Pc), .v (.int .i64 x.S.Trace), .v (.int .i64 x.S.Id), .v (.int .i64 x.S.Start), .v (.int .i64 x.S.End), .v (.bool x.S.Err), .s o 4 (List.map Attr.cells x.S.Attrs), .v (.int .i64 x.Trace), .v (.int .i64 x.Stamp), .s o 7 (List.map (Item.cells o) x.Hand), .v (.int .i64 x.H)]
theorem own_Task (x : Task) : OwnL (Task.cells true x) := ⟨.v _, .v _, .v _, .v _, .v _, .v _, .v _, ownSl own_Attr _, .v _, .v _, ownSl own_Item _, .v _, trivial⟩
theorem frz_Task {o : Bool} (x : Task) : frzL (Task.cells o x) = Task.cells false x := by
  show [T.v (.int .i64 x.Op), T.v (.int .i64 x.Pc), T.v (.int .i64 x.S.Trace), T.v (.int .i64 x.S.Id), T.v (.int .i64 x.S.Start), T.v (.int .i64 x.S.End), T.v (.bool x.S.Err), T.s false 4 (frzLL (List.map Attr.cells x.S.Attrs)), T.v (.int .i64 x.Trace), T.v (.int .i64 x.Stamp), T.s false 7 (frzLL (List.map (Item.cells o) x.Hand)), T.v (.int .i64 x.H)] = _
  rw [frzMap (f := Attr.cells) (g := Attr.cells) frz_Attr x.S.Attrs]
  rw [frzMap (f := (Item.cells o)) (g := (Item.cells false)) frz_Item x.Hand]
  rfl
theorem fz_Task {o : Bool} (x : Task) : (Task.cells o x).map T.fz = Task.cells false x := by
  show [T.v (.int .i64 x.Op), T.v (.int .i64 x.Pc), T.v (.int .i64 x.S.Trace), T.v (.int .i64 x.S.Id), T.v (.int .i64 x.S.Start), T.v (.int .i64 x.S.End), T.v (.bool x.S.Err), T.s false 4 (frzLL (List.map Attr.cells x.S.Attrs)), T.v (.int .i64 x.Trace), T.v (.int .i64 x.Stamp), T.s false 7 (frzLL (List.map (Item.cells o) x.Hand)), T.v (.int .i64 x.H)] = _
  rw [frzMap (f := Attr.cells) (g := Attr.cells) frz_Attr x.S.Attrs]
  rw [frzMap (f := (Item.cells o)) (g := (Item.cells false)) frz_Item x.Hand]
  rfl
def Task.bd (M : Nat) (x : Task) : Prop := Span.bd M x.S ∧ bdS Item.bd M x.Hand
def Task.rg (x : Task) : Prop := I64 x.Op ∧ I64 x.Pc ∧ I64 x.S.Trace ∧ I64 x.S.Id ∧ I64 x.S.Start ∧ I64 x.S.End ∧ True ∧ ((x.S.Attrs).length ≤ 9223372036854775807 ∧ ∀ y ∈ x.S.Attrs, Attr.rg y) ∧ I64 x.Trace ∧ I64 x.Stamp ∧ ((x.Hand).length ≤ 9223372036854775807 ∧ ∀ y ∈ x.Hand, Item.rg y) ∧ I64 x.H ∧ True
theorem rg_Task {o : Bool} {x : Task} (h : fitL (Task.cells o x)) : Task.rg x := ⟨(range_of_fit h.1), (range_of_fit h.2.1), (range_of_fit h.2.2.1), (range_of_fit h.2.2.2.1), (range_of_fit h.2.2.2.2.1), (range_of_fit h.2.2.2.2.2.1), trivial, ⟨by simpa using h.2.2.2.2.2.2.2.1.1, fun y hy => (rg_Attr (fitLL_map h.2.2.2.2.2.2.2.1.2 y hy))⟩, (range_of_fit h.2.2.2.2.2.2.2.2.1), (range_of_fit h.2.2.2.2.2.2.2.2.2.1), ⟨by simpa using h.2.2.2.2.2.2.2.2.2.2.1.1, fun y hy => (rg_Item (fitLL_map h.2.2.2.2.2.2.2.2.2.2.1.2 y hy))⟩, (range_of_fit h.2.2.2.2.2.2.2.2.2.2.2.1), trivial⟩
theorem Task.rg.Op {x : Task} (h : Task.rg x) : I64 x.Op := h.1
theorem Task.rg.Pc {x : Task} (h : Task.rg x) : I64 x.Pc := h.2.1
theorem Task.rg.S {x : Task} (h : Task.rg x) : Span.rg x.S := ⟨h.2.2.1, h.2.2.2.1, h.2.2.2.2.1, h.2.2.2.2.2.1, h.2.2.2.2.2.2.1, h.2.2.2.2.2.2.2.1, trivial⟩
theorem Task.rg.Trace {x : Task} (h : Task.rg x) : I64 x.Trace := h.2.2.2.2.2.2.2.2.1
theorem Task.rg.Stamp {x : Task} (h : Task.rg x) : I64 x.Stamp := h.2.2.2.2.2.2.2.2.2.1
theorem Task.rg.Hand {x : Task} (h : Task.rg x) : ((x.Hand).length ≤ 9223372036854775807 ∧ ∀ y ∈ x.Hand, Item.rg y) := h.2.2.2.2.2.2.2.2.2.2.1
theorem Task.rg.H {x : Task} (h : Task.rg x) : I64 x.H := h.2.2.2.2.2.2.2.2.2.2.2.1
def ntInv (s : ByteArray × Int) : Prop := (s.1.size = 0 ∧ s.2.natAbs ≤ 9223372036854775808) ∨ s.1.size + s.2.natAbs ≤ 4611686018427387904
def ntM (s : ByteArray × Int) : Nat := s.2.natAbs
theorem size_str1 (c : Int) : (strOfNums [c]).size = 1 := rfl
theorem nt_abs {x : Int} (h : x.natAbs ≤ 9223372036854775808) : (IntKind.i64.wrap (x.tdiv 10)).natAbs = x.natAbs / 10 := by
  have e : (x.tdiv 10).natAbs = x.natAbs / 10 := by rw [Int.natAbs_tdiv]; rfl
  generalize x.tdiv 10 = q at e ⊢
  have hq : q.natAbs ≤ 922337203685477580 := by omega
  have hq1 : -9223372036854775808 ≤ q := by clear e; omega
  have hq2 : q ≤ 9223372036854775807 := by clear e; omega
  rw [Go.Ev.wrap_small hq1 hq2, e]
theorem nt_step {s : ByteArray} {x c : Int} (h : ntInv (s, x)) (hx : x ≠ 0) : ntInv (strOfNums [c] ++ s, IntKind.i64.wrap (x.tdiv 10)) ∧ ntM (strOfNums [c] ++ s, IntKind.i64.wrap (x.tdiv 10)) < ntM (s, x) := by
  unfold ntInv ntM at *
  simp only at h ⊢
  rw [nt_abs (by omega), ByteArray.size_append, size_str1]
  omega
theorem nt_cat {s : ByteArray} {x c : Int} (h : ntInv (s, x)) (hx : (x != 0) = true) : (((strOfNums [c]).size + s.size : Nat) : Int) ≤ 9223372036854775807 := by
  unfold ntInv at h
  simp only [bne_iff_ne] at h hx
  rw [size_str1]
  omega
theorem nt_cat2 {s : ByteArray} {x : Int} {b : UInt8} (h : ntInv (s, x)) : (((ByteArray.mk #[b]).size + s.size : Nat) : Int) ≤ 9223372036854775807 := by
  unfold ntInv at h
  simp only at h
  have : (ByteArray.mk #[b]).size = 1 := rfl
  omega
def laws_szAttr (p0 : Attr) (p1 : Int) : Int :=
  (bif (decide ((IntKind.i64.wrap (p1 - (((p0.Key).size : Nat) : Int))) < 0)) then (-1) else (bif (decide ((IntKind.i64.wrap ((IntKind.i64.wrap (p1 - (((p0.Key).size : Nat) : Int))) - (((p0.Text).size : Nat) : Int))) < 0)) then (-1) else (IntKind.i64.wrap ((IntKind.i64.wrap (p1 - (((p0.Key).size : Nat) : Int))) - (((p0.Text).size : Nat) : Int)))))
theorem c_laws_szAttr (p0 : Attr) (p1 : Int) : FnOk prog 29 [.agg (Attr.cells p0), .one (.v (.int .i64 p1))] ⟨.one (.v (.int .i64 (laws_szAttr p0 p1))), [], [], false⟩ := by
  refine FnOk.intro (E := env) envOk wide func29 rfl (by kernel_rfl) rfl rfl ?_
  refine litE (m := 0) rfl ?_
  refine fun hN => ?_
  have hN1 : (_ : Nat) ≤ 9223372036854775807 := hN rfl
  refine And.intro (fun (h2 : (decide ((IntKind.i64.wrap (p1 - (((p0.Key).size : Nat) : Int))) < 0)) = true) => ?_) (fun (h2 : (decide ((IntKind.i64.wrap (p1 - (((p0.Key).size : Nat) : Int))) < 0)) = false) => ?_)
  · refine And.intro (fun _ => .v _) ?_
    have hg : laws_szAttr p0 p1 = (-1) := by
      first | rfl | (simp only [laws_szAttr, h2, cond_true, cond_false, Step.fin_stop, Step.fin_done, Fin.get_fin, Fin.get_done, Step.fin_next, Bool.not_true, Bool.not_false, Option.getD_some]) | (simp [laws_szAttr, h2, cond_true, cond_false, Step.fin_stop, Step.fin_done, Fin.get_fin, Fin.get_done, Step.fin_next, Bool.not_true, Bool.not_false, Option.getD_some])
    exact congrArg (fun g : Int => AV.one (.v (.int .i64 g))) hg.symm
  · refine fun hN => ?_
    have hN3 : (_ : Nat) ≤ 9223372036854775807 := hN rfl
    refine And.intro (fun (h4 : (decide ((IntKind.i64.wrap ((IntKind.i64.wrap (p1 - (((p0.Key).size : Nat) : Int))) - (((p0.Text).size : Nat) : Int))) < 0)) = true) => ?_) (fun (h4 : (decide ((IntKind.i64.wrap ((IntKind.i64.wrap (p1 - (((p0.Key).size : Nat) : Int))) - (((p0.Text).size : Nat) : Int))) < 0)) = false) => ?_)
    · refine And.intro (fun _ => .v _) ?_
      have hg : laws_szAttr p0 p1 = (-1) := by
        first | rfl | (simp only [laws_szAttr, h2, h4, cond_true, cond_false, Step.fin_stop, Step.fin_done, Fin.get_fin, Fin.get_done, Step.fin_next, Bool.not_true, Bool.not_false, Option.getD_some]) | (simp [laws_szAttr, h2, h4, cond_true, cond_false, Step.fin_stop, Step.fin_done, Fin.get_fin, Fin.get_done, Step.fin_next, Bool.not_true, Bool.not_false, Option.getD_some])
      exact congrArg (fun g : Int => AV.one (.v (.int .i64 g))) hg.symm
    · refine And.intro (fun _ => .v _) ?_
      have hg : laws_szAttr p0 p1 = (IntKind.i64.wrap ((IntKind.i64.wrap (p1 - (((p0.Key).size : Nat) : Int))) - (((p0.Text).size : Nat) : Int))) := by
        first | rfl | (simp only [laws_szAttr, h2, h4, cond_true, cond_false, Step.fin_stop, Step.fin_done, Fin.get_fin, Fin.get_done, Step.fin_next, Bool.not_true, Bool.not_false, Option.getD_some]) | (simp [laws_szAttr, h2, h4, cond_true, cond_false, Step.fin_stop, Step.fin_done, Fin.get_fin, Fin.get_done, Step.fin_next, Bool.not_true, Bool.not_false, Option.getD_some])
      exact congrArg (fun g : Int => AV.one (.v (.int .i64 g))) hg.symm
theorem szd_laws_szAttr : Szd Attr.bd laws_szAttr := by
  intro x left hb h0 h1 h2
  unfold laws_szAttr at h2 ⊢
  unfold Attr.bd at hb ⊢
  cases c0 : decide ((IntKind.i64.wrap (left - (((x.Key).size : Nat) : Int))) < 0) with
  | true => simp [c0] at h2
  | false =>
  have p0 : 0 ≤ (IntKind.i64.wrap (left - (((x.Key).size : Nat) : Int))) := by simpa using c0
  have w0 : (IntKind.i64.wrap (left - (((x.Key).size : Nat) : Int))) = left - (((x.Key).size : Nat) : Int) := by have := hb.1; rw [Go.Ev.wrap_small] <;> omega
  have b0 : (x.Key).size ≤ 1048576 := by omega
  have u0 : (IntKind.i64.wrap (left - (((x.Key).size : Nat) : Int))) ≤ left := by omega
  have v0 : (IntKind.i64.wrap (left - (((x.Key).size : Nat) : Int))) ≤ 1048576 := by omega
  cases c1 : decide ((IntKind.i64.wrap ((IntKind.i64.wrap (left - (((x.Key).size : Nat) : Int))) - (((x.Text).size : Nat) : Int))) < 0) with
  | true => simp [c0, c1] at h2
  | false =>
  have p1 : 0 ≤ (IntKind.i64.wrap ((IntKind.i64.wrap (left - (((x.Key).size : Nat) : Int))) - (((x.Text).size : Nat) : Int))) := by simpa using c1
  have w1 : (IntKind.i64.wrap ((IntKind.i64.wrap (left - (((x.Key).size : Nat) : Int))) - (((x.Text).size : Nat) : Int))) = (IntKind.i64.wrap (left - (((x.Key).size : Nat) : Int))) - (((x.Text).size : Nat) : Int) := by have := hb.2; rw [Go.Ev.wrap_small] <;> omega
  have b1 : (x.Text).size ≤ 1048576 := by omega
  have u1 : (IntKind.i64.wrap ((IntKind.i64.wrap (left - (((x.Key).size : Nat) : Int))) - (((x.Text).size : Nat) : Int))) ≤ (IntKind.i64.wrap (left - (((x.Key).size : Nat) : Int))) := by omega
  have v1 : (IntKind.i64.wrap ((IntKind.i64.wrap (left - (((x.Key).size : Nat) : Int))) - (((x.Text).size : Nat) : Int))) ≤ 1048576 := by omega
  simp only [c0, c1, cond_false] at h2 ⊢
  exact ⟨⟨b0, b1⟩, by omega⟩
def laws_szAttrS_b1 (i1 : Nat) (s1 : Int) (a1 : Attr) : Step (Int) Int :=
  (bif (decide ((laws_szAttr a1 s1) < 0)) then (.done (-1)) else (.next (laws_szAttr a1 s1)))
def laws_szAttrS (p0 : (List Attr)) (p1 : Int) : Int :=
  (bif (decide ((IntKind.i64.wrap (p1 - (((p0).length : Nat) : Int))) < 0)) then (-1) else (Fin.get (fun s1 => s1) (loopL laws_szAttrS_b1 0 (IntKind.i64.wrap (p1 - (((p0).length : Nat) : Int))) p0)))
theorem c_laws_szAttrS (p0 : (List Attr)) (p1 : Int) : FnOk prog 22 [.one (.s false 4 (List.map Attr.cells p0)), .one (.v (.int .i64 p1))] ⟨.one (.v (.int .i64 (laws_szAttrS p0 p1))), [], [], false⟩ := by
  refine FnOk.intro (E := env) envOk wide func22 rfl (by kernel_rfl) rfl rfl ?_
  refine lenE (k := (p0).length) (by simp) (fun hN1 => ?_)
  refine And.intro (fun (h2 : (decide ((IntKind.i64.wrap (p1 - (((p0).length : Nat) : Int))) < 0)) = true) => ?_) (fun (h2 : (decide ((IntKind.i64.wrap (p1 - (((p0).length : Nat) : Int))) < 0)) = false) => ?_)
  · refine And.intro (fun _ => .v _) ?_
    have hg : laws_szAttrS p0 p1 = (-1) := by
      first | rfl | (simp only [laws_szAttrS, h2, cond_true, cond_false, Step.fin_stop, Step.fin_done, Fin.get_fin, Fin.get_done, Step.fin_next, Bool.not_true, Bool.not_false, Option.getD_some]) | (simp [laws_szAttrS, h2, cond_true, cond_false, Step.fin_stop, Step.fin_done, Fin.get_fin, Fin.get_done, Step.fin_next, Bool.not_true, Bool.not_false, Option.getD_some])
    exact congrArg (fun g : Int => AV.one (.v (.int .i64 g))) hg.symm
  · refine loop_rule (α := LstSt laws_szAttrS_b1 (IntKind.i64.wrap (p1 - (((p0).length : Nat) : Int))) p0) [0] (fun x1 => [(1, .one (.v (.int .i64 x1.s))), (5, .one (.v (.int .i64 ((x1.i : Nat) : Int))))]) (fun x1 => []) (fun x1 => (p0).length - x1.i) .init [] ?_ (fun x1 => ?_)
    · exact ⟨rfl, ⟨rfl, rfl, rfl, trivial⟩, trivial, trivial⟩
    · refine lenE (k := (p0).length) (by simp) (fun hN3 => ?_)
      refine And.intro (fun (h4 : (decide (((x1.i : Nat) : Int) < (((p0).length : Nat) : Int))) = true) => ?_) (fun (h4 : (decide (((x1.i : Nat) : Int) < (((p0).length : Nat) : Int))) = false) => ?_)
      · have hi1 : x1.i < (p0).length := by simpa using h4
        have hw1 : IntKind.i64.wrap ((x1.i : Int) + 1) = ((x1.i + 1 : Nat) : Int) := wrap_succ hi1 (by first | assumption | omega)
        refine And.intro (fun _ => by exact idx_at hi1) (rowAtE (i := x1.i) (l := p0) rfl hi1 ?_)
        refine ⟨_, _, c_laws_szAttr (p0[x1.i]'hi1) x1.s, (FzAs.same _), ?_⟩
        refine litE (m := 1) rfl ?_
        refine And.intro (fun (h5 : (decide ((laws_szAttr (p0[x1.i]'hi1) x1.s) < 0)) = true) => ?_) (fun (h5 : (decide ((laws_szAttr (p0[x1.i]'hi1) x1.s) < 0)) = false) => ?_)
        · have hb1 := x1.out hi1 (by first | rfl | simp only [laws_szAttrS_b1, h2, h4, h5, cond_true, cond_false, Bool.not_true, Bool.not_false, Option.getD_some, Step.isNext_stop, Step.isNext_done, Step.fin_stop, Step.fin_done, Fin.get_fin, Fin.get_done])
          refine And.intro (fun _ => .v _) ?_
          have hg : laws_szAttrS p0 p1 = (-1) := by
            first | rfl | (simp only [laws_szAttrS, laws_szAttrS_b1, h2, h4, h5, hb1, cond_true, cond_false, Step.fin_stop, Step.fin_done, Fin.get_fin, Fin.get_done, Step.fin_next, Bool.not_true, Bool.not_false, Option.getD_some]) | (simp [laws_szAttrS, laws_szAttrS_b1, h2, h4, h5, hb1, cond_true, cond_false, Step.fin_stop, Step.fin_done, Fin.get_fin, Fin.get_done, Step.fin_next, Bool.not_true, Bool.not_false, Option.getD_some])
          exact congrArg (fun g : Int => AV.one (.v (.int .i64 g))) hg.symm
        · refine x1.go hi1 (v := (laws_szAttr (p0[x1.i]'hi1) x1.s)) (by first | rfl | simp only [laws_szAttrS_b1, h2, h4, h5, cond_true, cond_false, Bool.not_true, Bool.not_false, Option.getD_some, Step.fin_stop, Step.fin_done, Fin.get_fin, Fin.get_done]) [] (by show _ - (x1.i + 1) < _ - x1.i; omega) ?_
          exact ⟨rfl, ⟨rfl, (eqInt hw1), rfl, trivial⟩, trivial, trivial⟩
      · have hf1 := x1.fin (show ¬ x1.i < (p0).length by simpa using h4)
        refine And.intro (fun _ => .v _) ?_
        have hg : laws_szAttrS p0 p1 = x1.s := by
          first | rfl | (simp only [laws_szAttrS, laws_szAttrS_b1, h2, h4, hf1, cond_true, cond_false, Step.fin_stop, Step.fin_done, Fin.get_fin, Fin.get_done, Step.fin_next, Bool.not_true, Bool.not_false, Option.getD_some]) | (simp [laws_szAttrS, laws_szAttrS_b1, h2, h4, hf1, cond_true, cond_false, Step.fin_stop, Step.fin_done, Fin.get_fin, Fin.get_done, Step.fin_next, Bool.not_true, Bool.not_false, Option.getD_some])
        exact congrArg (fun g : Int => AV.one (.v (.int .i64 g))) hg.symm
theorem szd_laws_szAttrS : Szd (bdS Attr.bd) laws_szAttrS := szS_ok (b := laws_szAttrS_b1) szd_laws_szAttr (fun _ _ _ => rfl) (fun _ _ => rfl)
def laws_szSpan (p0 : Span) (p1 : Int) : Int :=
  (bif (decide ((laws_szAttrS p0.Attrs p1) < 0)) then (-1) else (laws_szAttrS p0.Attrs p1))
theorem c_laws_szSpan (p0 : Span) (p1 : Int) : FnOk prog 15 [.agg ((Span.cells false) p0), .one (.v (.int .i64 p1))] ⟨.one (.v (.int .i64 (laws_szSpan p0 p1))), [], [], false⟩ := by
  refine FnOk.intro (E := env) envOk wide func15 rfl (by kernel_rfl) rfl rfl ?_
  refine litE (m := 0) rfl ?_
  refine ⟨_, _, c_laws_szAttrS p0.Attrs p1, (FzAs.same _), ?_⟩
  refine litE (m := 2) rfl ?_
  refine And.intro (fun (h1 : (decide ((laws_szAttrS p0.Attrs p1) < 0)) = true) => ?_) (fun (h1 : (decide ((laws_szAttrS p0.Attrs p1) < 0)) = false) => ?_)
  · refine And.intro (fun _ => .v _) ?_
    have hg : laws_szSpan p0 p1 = (-1) := by
      first | rfl | (simp only [laws_szSpan, h1, cond_true, cond_false, Step.fin_stop, Step.fin_done, Fin.get_fin, Fin.get_done, Step.fin_next, Bool.not_true, Bool.not_false, Option.getD_some]) | (simp [laws_szSpan, h1, cond_true, cond_false, Step.fin_stop, Step.fin_done, Fin.get_fin, Fin.get_done, Step.fin_next, Bool.not_true, Bool.not_false, Option.getD_some])
    exact congrArg (fun g : Int => AV.one (.v (.int .i64 g))) hg.symm
  · refine And.intro (fun _ => .v _) ?_
    have hg : laws_szSpan p0 p1 = (laws_szAttrS p0.Attrs p1) := by
      first | rfl | (simp only [laws_szSpan, h1, cond_true, cond_false, Step.fin_stop, Step.fin_done, Fin.get_fin, Fin.get_done, Step.fin_next, Bool.not_true, Bool.not_false, Option.getD_some]) | (simp [laws_szSpan, h1, cond_true, cond_false, Step.fin_stop, Step.fin_done, Fin.get_fin, Fin.get_done, Step.fin_next, Bool.not_true, Bool.not_false, Option.getD_some])
    exact congrArg (fun g : Int => AV.one (.v (.int .i64 g))) hg.symm
theorem szd_laws_szSpan : Szd Span.bd laws_szSpan := by
  intro x left hb h0 h1 h2
  unfold laws_szSpan at h2 ⊢
  unfold Span.bd at hb ⊢
  cases c0 : decide ((laws_szAttrS x.Attrs left) < 0) with
  | true => simp [c0] at h2
  | false =>
  have p0 : 0 ≤ (laws_szAttrS x.Attrs left) := by simpa using c0
  have z0 := szd_laws_szAttrS x.Attrs left hb h0 h1 p0
  have b0 := z0.1
  have u0 := z0.2
  have v0 : (laws_szAttrS x.Attrs left) ≤ 1048576 := by omega
  simp only [c0, cond_false] at h2 ⊢
  exact ⟨b0, by omega⟩
def laws_szItem (p0 : Item) (p1 : Int) : Int :=
  (bif (decide ((laws_szSpan p0.S p1) < 0)) then (-1) else (laws_szSpan p0.S p1))
theorem c_laws_szItem (p0 : Item) (p1 : Int) : FnOk prog 23 [.agg ((Item.cells false) p0), .one (.v (.int .i64 p1))] ⟨.one (.v (.int .i64 (laws_szItem p0 p1))), [], [], false⟩ := by
  refine FnOk.intro (E := env) envOk wide func23 rfl (by kernel_rfl) rfl rfl ?_
  refine litE (m := 0) rfl ?_
  refine ⟨_, _, c_laws_szSpan p0.S p1, (FzAs.same _), ?_⟩
  refine litE (m := 2) rfl ?_
  refine And.intro (fun (h1 : (decide ((laws_szSpan p0.S p1) < 0)) = true) => ?_) (fun (h1 : (decide ((laws_szSpan p0.S p1) < 0)) = false) => ?_)
  · refine And.intro (fun _ => .v _) ?_
    have hg : laws_szItem p0 p1 = (-1) := by
      first | rfl | (simp only [laws_szItem, h1, cond_true, cond_false, Step.fin_stop, Step.fin_done, Fin.get_fin, Fin.get_done, Step.fin_next, Bool.not_true, Bool.not_false, Option.getD_some]) | (simp [laws_szItem, h1, cond_true, cond_false, Step.fin_stop, Step.fin_done, Fin.get_fin, Fin.get_done, Step.fin_next, Bool.not_true, Bool.not_false, Option.getD_some])
    exact congrArg (fun g : Int => AV.one (.v (.int .i64 g))) hg.symm
  · refine And.intro (fun _ => .v _) ?_
    have hg : laws_szItem p0 p1 = (laws_szSpan p0.S p1) := by
      first | rfl | (simp only [laws_szItem, h1, cond_true, cond_false, Step.fin_stop, Step.fin_done, Fin.get_fin, Fin.get_done, Step.fin_next, Bool.not_true, Bool.not_false, Option.getD_some]) | (simp [laws_szItem, h1, cond_true, cond_false, Step.fin_stop, Step.fin_done, Fin.get_fin, Fin.get_done, Step.fin_next, Bool.not_true, Bool.not_false, Option.getD_some])
    exact congrArg (fun g : Int => AV.one (.v (.int .i64 g))) hg.symm
theorem szd_laws_szItem : Szd Item.bd laws_szItem := by
  intro x left hb h0 h1 h2
  unfold laws_szItem at h2 ⊢
  unfold Item.bd at hb ⊢
  cases c0 : decide ((laws_szSpan x.S left) < 0) with
  | true => simp [c0] at h2
  | false =>
  have p0 : 0 ≤ (laws_szSpan x.S left) := by simpa using c0
  have z0 := szd_laws_szSpan x.S left hb h0 h1 p0
  have b0 := z0.1
  have u0 := z0.2
  have v0 : (laws_szSpan x.S left) ≤ 1048576 := by omega
  simp only [c0, cond_false] at h2 ⊢
  exact ⟨b0, by omega⟩
def laws_szItemS_b1 (i1 : Nat) (s1 : Int) (a1 : Item) : Step (Int) Int :=
  (bif (decide ((laws_szItem a1 s1) < 0)) then (.done (-1)) else (.next (laws_szItem a1 s1)))
def laws_szItemS (p0 : (List Item)) (p1 : Int) : Int :=
  (bif (decide ((IntKind.i64.wrap (p1 - (((p0).length : Nat) : Int))) < 0)) then (-1) else (Fin.get (fun s1 => s1) (loopL laws_szItemS_b1 0 (IntKind.i64.wrap (p1 - (((p0).length : Nat) : Int))) p0)))
theorem c_laws_szItemS (p0 : (List Item)) (p1 : Int) : FnOk prog 16 [.one (.s false 7 (List.map (Item.cells false) p0)), .one (.v (.int .i64 p1))] ⟨.one (.v (.int .i64 (laws_szItemS p0 p1))), [], [], false⟩ := by
  refine FnOk.intro (E := env) envOk wide func16 rfl (by kernel_rfl) rfl rfl ?_
  refine lenE (k := (p0).length) (by simp) (fun hN1 => ?_)
  refine And.intro (fun (h2 : (decide ((IntKind.i64.wrap (p1 - (((p0).length : Nat) : Int))) < 0)) = true) => ?_) (fun (h2 : (decide ((IntKind.i64.wrap (p1 - (((p0).length : Nat) : Int))) < 0)) = false) => ?_)
  · refine And.intro (fun _ => .v _) ?_
    have hg : laws_szItemS p0 p1 = (-1) := by
      first | rfl | (simp only [laws_szItemS, h2, cond_true, cond_false, Step.fin_stop, Step.fin_done, Fin.get_fin, Fin.get_done, Step.fin_next, Bool.not_true, Bool.not_false, Option.getD_some]) | (simp [laws_szItemS, h2, cond_true, cond_false, Step.fin_stop, Step.fin_done, Fin.get_fin, Fin.get_done, Step.fin_next, Bool.not_true, Bool.not_false, Option.getD_some])
    exact congrArg (fun g : Int => AV.one (.v (.int .i64 g))) hg.symm
  · refine loop_rule (α := LstSt laws_szItemS_b1 (IntKind.i64.wrap (p1 - (((p0).length : Nat) : Int))) p0) [0] (fun x1 => [(1, .one (.v (.int .i64 x1.s))), (5, .one (.v (.int .i64 ((x1.i : Nat) : Int))))]) (fun x1 => []) (fun x1 => (p0).length - x1.i) .init [] ?_ (fun x1 => ?_)
    · exact ⟨rfl, ⟨rfl, rfl, rfl, trivial⟩, trivial, trivial⟩
    · refine lenE (k := (p0).length) (by simp) (fun hN3 => ?_)
      refine And.intro (fun (h4 : (decide (((x1.i : Nat) : Int) < (((p0).length : Nat) : Int))) = true) => ?_) (fun (h4 : (decide (((x1.i : Nat) : Int) < (((p0).length : Nat) : Int))) = false) => ?_)
      · have hi1 : x1.i < (p0).length := by simpa using h4
        have hw1 : IntKind.i64.wrap ((x1.i : Int) + 1) = ((x1.i + 1 : Nat) : Int) := wrap_succ hi1 (by first | assumption | omega)
        refine And.intro (fun _ => by exact idx_at hi1) (rowAtE (i := x1.i) (l := p0) rfl hi1 ?_)
        refine ⟨_, _, c_laws_szItem (p0[x1.i]'hi1) x1.s, (FzAs.same _), ?_⟩
        refine litE (m := 1) rfl ?_
        refine And.intro (fun (h5 : (decide ((laws_szItem (p0[x1.i]'hi1) x1.s) < 0)) = true) => ?_) (fun (h5 : (decide ((laws_szItem (p0[x1.i]'hi1) x1.s) < 0)) = false) => ?_)
        · have hb1 := x1.out hi1 (by first | rfl | simp only [laws_szItemS_b1, h2, h4, h5, cond_true, cond_false, Bool.not_true, Bool.not_false, Option.getD_some, Step.isNext_stop, Step.isNext_done, Step.fin_stop, Step.fin_done, Fin.get_fin, Fin.get_done])
          refine And.intro (fun _ => .v _) ?_
          have hg : laws_szItemS p0 p1 = (-1) := by
            first | rfl | (simp only [laws_szItemS, laws_szItemS_b1, h2, h4, h5, hb1, cond_true, cond_false, Step.fin_stop, Step.fin_done, Fin.get_fin, Fin.get_done, Step.fin_next, Bool.not_true, Bool.not_false, Option.getD_some]) | (simp [laws_szItemS, laws_szItemS_b1, h2, h4, h5, hb1, cond_true, cond_false, Step.fin_stop, Step.fin_done, Fin.get_fin, Fin.get_done, Step.fin_next, Bool.not_true, Bool.not_false, Option.getD_some])
          exact congrArg (fun g : Int => AV.one (.v (.int .i64 g))) hg.symm
        · refine x1.go hi1 (v := (laws_szItem (p0[x1.i]'hi1) x1.s)) (by first | rfl | simp only [laws_szItemS_b1, h2, h4, h5, cond_true, cond_false, Bool.not_true, Bool.not_false, Option.getD_some, Step.fin_stop, Step.fin_done, Fin.get_fin, Fin.get_done]) [] (by show _ - (x1.i + 1) < _ - x1.i; omega) ?_
          exact ⟨rfl, ⟨rfl, (eqInt hw1), rfl, trivial⟩, trivial, trivial⟩
      · have hf1 := x1.fin (show ¬ x1.i < (p0).length by simpa using h4)
        refine And.intro (fun _ => .v _) ?_
        have hg : laws_szItemS p0 p1 = x1.s := by
          first | rfl | (simp only [laws_szItemS, laws_szItemS_b1, h2, h4, hf1, cond_true, cond_false, Step.fin_stop, Step.fin_done, Fin.get_fin, Fin.get_done, Step.fin_next, Bool.not_true, Bool.not_false, Option.getD_some]) | (simp [laws_szItemS, laws_szItemS_b1, h2, h4, hf1, cond_true, cond_false, Step.fin_stop, Step.fin_done, Fin.get_fin, Fin.get_done, Step.fin_next, Bool.not_true, Bool.not_false, Option.getD_some])
        exact congrArg (fun g : Int => AV.one (.v (.int .i64 g))) hg.symm
theorem szd_laws_szItemS : Szd (bdS Item.bd) laws_szItemS := szS_ok (b := laws_szItemS_b1) szd_laws_szItem (fun _ _ _ => rfl) (fun _ _ => rfl)
def laws_szTask (p0 : Task) (p1 : Int) : Int :=
  (bif (decide ((laws_szSpan p0.S p1) < 0)) then (-1) else (bif (decide ((laws_szItemS p0.Hand (laws_szSpan p0.S p1)) < 0)) then (-1) else (laws_szItemS p0.Hand (laws_szSpan p0.S p1))))
theorem c_laws_szTask (p0 : Task) (p1 : Int) : FnOk prog 8 [.agg ((Task.cells false) p0), .one (.v (.int .i64 p1))] ⟨.one (.v (.int .i64 (laws_szTask p0 p1))), [], [], false⟩ := by
  refine FnOk.intro (E := env) envOk wide func8 rfl (by kernel_rfl) rfl rfl ?_
  refine litE (m := 0) rfl ?_
  refine ⟨_, _, c_laws_szSpan p0.S p1, (FzAs.same _), ?_⟩
  refine litE (m := 2) rfl ?_
  refine And.intro (fun (h1 : (decide ((laws_szSpan p0.S p1) < 0)) = true) => ?_) (fun (h1 : (decide ((laws_szSpan p0.S p1) < 0)) = false) => ?_)
  · refine And.intro (fun _ => .v _) ?_
    have hg : laws_szTask p0 p1 = (-1) := by
      first | rfl | (simp only [laws_szTask, h1, cond_true, cond_false, Step.fin_stop, Step.fin_done, Fin.get_fin, Fin.get_done, Step.fin_next, Bool.not_true, Bool.not_false, Option.getD_some]) | (simp [laws_szTask, h1, cond_true, cond_false, Step.fin_stop, Step.fin_done, Fin.get_fin, Fin.get_done, Step.fin_next, Bool.not_true, Bool.not_false, Option.getD_some])
    exact congrArg (fun g : Int => AV.one (.v (.int .i64 g))) hg.symm
  · refine ⟨_, _, c_laws_szItemS p0.Hand (laws_szSpan p0.S p1), (FzAs.same _), ?_⟩
    refine litE (m := 3) rfl ?_
    refine And.intro (fun (h2 : (decide ((laws_szItemS p0.Hand (laws_szSpan p0.S p1)) < 0)) = true) => ?_) (fun (h2 : (decide ((laws_szItemS p0.Hand (laws_szSpan p0.S p1)) < 0)) = false) => ?_)
    · refine And.intro (fun _ => .v _) ?_
      have hg : laws_szTask p0 p1 = (-1) := by
        first | rfl | (simp only [laws_szTask, h1, h2, cond_true, cond_false, Step.fin_stop, Step.fin_done, Fin.get_fin, Fin.get_done, Step.fin_next, Bool.not_true, Bool.not_false, Option.getD_some]) | (simp [laws_szTask, h1, h2, cond_true, cond_false, Step.fin_stop, Step.fin_done, Fin.get_fin, Fin.get_done, Step.fin_next, Bool.not_true, Bool.not_false, Option.getD_some])
      exact congrArg (fun g : Int => AV.one (.v (.int .i64 g))) hg.symm
    · refine And.intro (fun _ => .v _) ?_
      have hg : laws_szTask p0 p1 = (laws_szItemS p0.Hand (laws_szSpan p0.S p1)) := by
        first | rfl | (simp only [laws_szTask, h1, h2, cond_true, cond_false, Step.fin_stop, Step.fin_done, Fin.get_fin, Fin.get_done, Step.fin_next, Bool.not_true, Bool.not_false, Option.getD_some]) | (simp [laws_szTask, h1, h2, cond_true, cond_false, Step.fin_stop, Step.fin_done, Fin.get_fin, Fin.get_done, Step.fin_next, Bool.not_true, Bool.not_false, Option.getD_some])
      exact congrArg (fun g : Int => AV.one (.v (.int .i64 g))) hg.symm
theorem szd_laws_szTask : Szd Task.bd laws_szTask := by
  intro x left hb h0 h1 h2
  unfold laws_szTask at h2 ⊢
  unfold Task.bd at hb ⊢
  cases c0 : decide ((laws_szSpan x.S left) < 0) with
  | true => simp [c0] at h2
  | false =>
  have p0 : 0 ≤ (laws_szSpan x.S left) := by simpa using c0
  have z0 := szd_laws_szSpan x.S left hb.1 h0 h1 p0
  have b0 := z0.1
  have u0 := z0.2
  have v0 : (laws_szSpan x.S left) ≤ 1048576 := by omega
  cases c1 : decide ((laws_szItemS x.Hand (laws_szSpan x.S left)) < 0) with
  | true => simp [c0, c1] at h2
  | false =>
  have p1 : 0 ≤ (laws_szItemS x.Hand (laws_szSpan x.S left)) := by simpa using c1
  have z1 := szd_laws_szItemS x.Hand (laws_szSpan x.S left) hb.2 p0 v0 p1
  have b1 := z1.1
  have u1 := z1.2
  have v1 : (laws_szItemS x.Hand (laws_szSpan x.S left)) ≤ 1048576 := by omega
  simp only [c0, c1, cond_false] at h2 ⊢
  exact ⟨⟨b0, b1⟩, by omega⟩
def laws_toAttr (p0 : Attr) : Attr :=
  p0
theorem c_laws_toAttr (p0 : Attr) : FnOk prog 30 [.agg (Attr.cells p0)] ⟨.agg (Attr.cells (laws_toAttr p0)), [], [], false⟩ := by
  refine FnOk.intro (E := env) envOk wide func30 rfl (by kernel_rfl) rfl rfl ?_
  refine litE (m := 0) rfl ?_
  refine litE (m := 1) rfl ?_
  refine litE (m := 2) rfl ?_
  refine And.intro (fun _ => own_Attr _) ?_
  have hg : laws_toAttr p0 = p0 := by
    first | rfl | (simp only [laws_toAttr, cond_true, cond_false, Step.fin_stop, Step.fin_done, Fin.get_fin, Fin.get_done, Step.fin_next, Bool.not_true, Bool.not_false, Option.getD_some]) | (simp [laws_toAttr, cond_true, cond_false, Step.fin_stop, Step.fin_done, Fin.get_fin, Fin.get_done, Step.fin_next, Bool.not_true, Bool.not_false, Option.getD_some])
  exact congrArg (fun g : Attr => AV.agg (Attr.cells g)) hg.symm
theorem id_laws_toAttr (x : Attr) : laws_toAttr x = x := by
  first | rfl | (simp only [laws_toAttr]; done) | (simp only [laws_toAttr]; rfl)
def laws_toAttrS_b1 (i1 : Nat) (s1 : (List Attr)) (a1 : Attr) : Step ((List Attr)) (List Attr) :=
  (.next (List.set s1 i1 (laws_toAttr a1)))
def laws_toAttrS (p0 : (List Attr)) : (List Attr) :=
  (Fin.get (fun s1 => s1) (loopL laws_toAttrS_b1 0 (List.replicate (p0).length (default : Attr)) p0))
theorem c_laws_toAttrS (p0 : (List Attr)) (hs : bdS Attr.bd 1048576 p0) : FnOk prog 24 [.one (.s false 4 (List.map Attr.cells p0))] ⟨.one (.s true 4 (List.map Attr.cells (laws_toAttrS p0))), [], [], false⟩ := by
  refine FnOk.intro (E := env) envOk wide func24 rfl (by kernel_rfl) rfl rfl ?_
  have hs1 := hs.1
  refine lenE (k := (p0).length) (by simp) (fun hN1 => ?_)
  refine And.intro (by exact ⟨rfl, by omega, by show ((48 : Nat) : Int) * _ ≤ _; omega, by omega⟩) (rowsE (Y := List.map Attr.cells (List.replicate (p0).length (default : Attr))) (by rw [List.map_replicate]; rfl) ?_)
  refine litE (m := 0) rfl ?_
  refine loop_rule (α := LstInv (fun _ s => (s).length = (p0).length) laws_toAttrS_b1 (List.replicate (p0).length (default : Attr)) p0) [0] (fun x1 => [(3, .one (.n 0 [] 1 0 (x1.s).length)), (4, .one (.v (.int .i64 ((x1.i : Nat) : Int))))]) (fun x1 => [.new ⟨4, false, List.map Attr.cells x1.s, 0⟩]) (fun x1 => (p0).length - x1.i) (.init (by simp)) [some 0] ?_ (fun x1 => ?_)
  · exact ⟨rfl, ⟨⟨rfl, rfl, rfl, rfl, by (first | rfl | (simp; done) | (simp [LstSt.init, LstSt.step, LstInv.init, CntSt.init, CntSt.step, CntInv.init, WhlSt.init, WhlSt.step]; done) | (simp [LstSt.init, LstSt.step, LstInv.init, CntSt.init, CntSt.step, CntInv.init, WhlSt.init, WhlSt.step]; omega))⟩, rfl, rfl, trivial⟩, ⟨⟨rfl, rfl, rfl⟩, trivial⟩, trivial⟩
  · have hI1 : (x1.s).length = (p0).length := by simpa using x1.hI
    refine lenE (k := (p0).length) (by simp) (fun hN2 => ?_)
    refine And.intro (fun (h3 : (decide (((x1.i : Nat) : Int) < (((p0).length : Nat) : Int))) = true) => ?_) (fun (h3 : (decide (((x1.i : Nat) : Int) < (((p0).length : Nat) : Int))) = false) => ?_)
    · have hi1 : x1.i < (p0).length := by simpa using h3
      have hw1 : IntKind.i64.wrap ((x1.i : Int) + 1) = ((x1.i + 1 : Nat) : Int) := wrap_succ hi1 (by first | assumption | omega)
      refine And.intro (fun _ => by exact idx_at hi1) (rowAtE (i := x1.i) (l := p0) rfl hi1 ?_)
      refine ⟨_, _, c_laws_toAttr (p0[x1.i]'hi1), (FzAs.same _), ?_⟩
      refine litE (m := 2) rfl ?_
      refine And.intro (fun _ => by first | exact ⟨by omega, by omega⟩ | (first | omega | (simp; done) | (simp; omega) | (simp at *; omega) | (simp at *; done) | (simp_all; done) | (simp_all; omega))) ?_
      refine rowsE (Y := List.map Attr.cells (List.set x1.s x1.i (laws_toAttr (p0[x1.i]'hi1)))) (by exact setMapE (by simp) (fun a ha => by rfl)) ?_
      refine x1.go' hi1 (v := (List.set x1.s x1.i (laws_toAttr (p0[x1.i]'hi1)))) (by first | rfl | simp only [laws_toAttrS_b1, h3, cond_true, cond_false, Bool.not_true, Bool.not_false, Option.getD_some, Step.fin_stop, Step.fin_done, Fin.get_fin, Fin.get_done]) (by simpa using x1.hI) [some 0] (by show _ - (x1.i + 1) < _ - x1.i; omega) ?_
      exact ⟨rfl, ⟨⟨rfl, rfl, rfl, rfl, by (first | rfl | (simp; done) | (simp [LstSt.init, LstSt.step, LstInv.init, CntSt.init, CntSt.step, CntInv.init, WhlSt.init, WhlSt.step]; done) | (simp [LstSt.init, LstSt.step, LstInv.init, CntSt.init, CntSt.step, CntInv.init, WhlSt.init, WhlSt.step]; omega))⟩, (eqInt hw1), rfl, trivial⟩, ⟨⟨rfl, rfl, rfl⟩, trivial⟩, trivial⟩
    · have hf1 := x1.fin (show ¬ x1.i < (p0).length by simpa using h3)
      refine And.intro (fun _ => ownSl own_Attr _) ?_
      have hg : laws_toAttrS p0 = x1.s := by
        first | rfl | (simp only [laws_toAttrS, laws_toAttrS_b1, h3, hf1, cond_true, cond_false, Step.fin_stop, Step.fin_done, Fin.get_fin, Fin.get_done, Step.fin_next, Bool.not_true, Bool.not_false, Option.getD_some]) | (simp [laws_toAttrS, laws_toAttrS_b1, h3, hf1, cond_true, cond_false, Step.fin_stop, Step.fin_done, Fin.get_fin, Fin.get_done, Step.fin_next, Bool.not_true, Bool.not_false, Option.getD_some])
      exact congrArg (fun g : (List Attr) => AV.one (.s true 4 (List.map Attr.cells g))) hg.symm
theorem id_laws_toAttrS (x : (List Attr)) : laws_toAttrS x = x := setS_ok (b := laws_toAttrS_b1) id_laws_toAttr (fun _ _ _ => rfl) (fun _ => rfl) x
def laws_toSpan (p0 : Span) : Span :=
  (Span.mk p0.Trace p0.Id p0.Start p0.End p0.Err (laws_toAttrS p0.Attrs))
theorem c_laws_toSpan (p0 : Span) (hs : Span.bd 1048576 p0) : FnOk prog 17 [.agg ((Span.cells false) p0)] ⟨.agg ((Span.cells true) (laws_toSpan p0)), [], [], false⟩ := by
  refine FnOk.intro (E := env) envOk wide func17 rfl (by kernel_rfl) rfl rfl ?_
  unfold Span.bd at hs
  refine litE (m := 0) rfl ?_
  refine litE (m := 1) rfl ?_
  refine litE (m := 2) rfl ?_
  refine ⟨_, _, c_laws_toAttrS p0.Attrs (by exact hs), (FzAs.same _), ?_⟩
  refine litE (m := 4) rfl ?_
  refine And.intro (fun _ => own_Span _) ?_
  have hg : laws_toSpan p0 = (Span.mk p0.Trace p0.Id p0.Start p0.End p0.Err (laws_toAttrS p0.Attrs)) := by
    first | rfl | (simp only [laws_toSpan, cond_true, cond_false, Step.fin_stop, Step.fin_done, Fin.get_fin, Fin.get_done, Step.fin_next, Bool.not_true, Bool.not_false, Option.getD_some]) | (simp [laws_toSpan, cond_true, cond_false, Step.fin_stop, Step.fin_done, Fin.get_fin, Fin.get_done, Step.fin_next, Bool.not_true, Bool.not_false, Option.getD_some])
  exact congrArg (fun g : Span => AV.agg ((Span.cells true) g)) hg.symm
theorem id_laws_toSpan (x : Span) : laws_toSpan x = x := by
  first | rfl | (simp only [laws_toSpan, id_laws_toAttr, id_laws_toAttrS]; done) | (simp only [laws_toSpan, id_laws_toAttr, id_laws_toAttrS]; rfl)
def laws_toItem (p0 : Item) : Item :=
  (Item.mk p0.Stamp (laws_toSpan p0.S))
theorem c_laws_toItem (p0 : Item) (hs : Item.bd 1048576 p0) : FnOk prog 25 [.agg ((Item.cells false) p0)] ⟨.agg ((Item.cells true) (laws_toItem p0)), [], [], false⟩ := by
  refine FnOk.intro (E := env) envOk wide func25 rfl (by kernel_rfl) rfl rfl ?_
  unfold Item.bd at hs
  refine litE (m := 0) rfl ?_
  refine litE (m := 1) rfl ?_
  refine litE (m := 2) rfl ?_
  refine ⟨_, _, c_laws_toSpan p0.S (by exact hs), (FzAs.same _), ?_⟩
  refine litE (m := 4) rfl ?_
  refine And.intro (fun _ => own_Item _) ?_
  have hg : laws_toItem p0 = (Item.mk p0.Stamp (laws_toSpan p0.S)) := by
    first | rfl | (simp only [laws_toItem, cond_true, cond_false, Step.fin_stop, Step.fin_done, Fin.get_fin, Fin.get_done, Step.fin_next, Bool.not_true, Bool.not_false, Option.getD_some]) | (simp [laws_toItem, cond_true, cond_false, Step.fin_stop, Step.fin_done, Fin.get_fin, Fin.get_done, Step.fin_next, Bool.not_true, Bool.not_false, Option.getD_some])
  exact congrArg (fun g : Item => AV.agg ((Item.cells true) g)) hg.symm
theorem id_laws_toItem (x : Item) : laws_toItem x = x := by
  first | rfl | (simp only [laws_toItem, id_laws_toAttr, id_laws_toAttrS, id_laws_toSpan]; done) | (simp only [laws_toItem, id_laws_toAttr, id_laws_toAttrS, id_laws_toSpan]; rfl)
def laws_toItemS_b1 (i1 : Nat) (s1 : (List Item)) (a1 : Item) : Step ((List Item)) (List Item) :=
  (.next (List.set s1 i1 (laws_toItem a1)))
def laws_toItemS (p0 : (List Item)) : (List Item) :=
  (Fin.get (fun s1 => s1) (loopL laws_toItemS_b1 0 (List.replicate (p0).length (default : Item)) p0))
theorem c_laws_toItemS (p0 : (List Item)) (hs : bdS Item.bd 1048576 p0) : FnOk prog 18 [.one (.s false 7 (List.map (Item.cells false) p0))] ⟨.one (.s true 7 (List.map (Item.cells true) (laws_toItemS p0))), [], [], false⟩ := by
  refine FnOk.intro (E := env) envOk wide func18 rfl (by kernel_rfl) rfl rfl ?_
  have hs1 := hs.1
  refine lenE (k := (p0).length) (by simp) (fun hN1 => ?_)
  refine And.intro (by exact ⟨rfl, by omega, by show ((72 : Nat) : Int) * _ ≤ _; omega, by omega⟩) (rowsE (Y := List.map (Item.cells true) (List.replicate (p0).length (default : Item))) (by rw [List.map_replicate]; rfl) ?_)
  refine litE (m := 0) rfl ?_
  refine loop_rule (α := LstInv (fun _ s => (s).length = (p0).length) laws_toItemS_b1 (List.replicate (p0).length (default : Item)) p0) [0] (fun x1 => [(3, .one (.n 0 [] 1 0 (x1.s).length)), (4, .one (.v (.int .i64 ((x1.i : Nat) : Int))))]) (fun x1 => [.new ⟨7, false, List.map (Item.cells true) x1.s, 0⟩]) (fun x1 => (p0).length - x1.i) (.init (by simp)) [some 0] ?_ (fun x1 => ?_)
  · exact ⟨rfl, ⟨⟨rfl, rfl, rfl, rfl, by (first | rfl | (simp; done) | (simp [LstSt.init, LstSt.step, LstInv.init, CntSt.init, CntSt.step, CntInv.init, WhlSt.init, WhlSt.step]; done) | (simp [LstSt.init, LstSt.step, LstInv.init, CntSt.init, CntSt.step, CntInv.init, WhlSt.init, WhlSt.step]; omega))⟩, rfl, rfl, trivial⟩, ⟨⟨rfl, rfl, rfl⟩, trivial⟩, trivial⟩
  · have hI1 : (x1.s).length = (p0).length := by simpa using x1.hI
    refine lenE (k := (p0).length) (by simp) (fun hN2 => ?_)
    refine And.intro (fun (h3 : (decide (((x1.i : Nat) : Int) < (((p0).length : Nat) : Int))) = true) => ?_) (fun (h3 : (decide (((x1.i : Nat) : Int) < (((p0).length : Nat) : Int))) = false) => ?_)
    · have hi1 : x1.i < (p0).length := by simpa using h3
      have hw1 : IntKind.i64.wrap ((x1.i : Int) + 1) = ((x1.i + 1 : Nat) : Int) := wrap_succ hi1 (by first | assumption | omega)
      refine And.intro (fun _ => by exact idx_at hi1) (rowAtE (i := x1.i) (l := p0) rfl hi1 ?_)
      refine ⟨_, _, c_laws_toItem (p0[x1.i]'hi1) (by exact hs.get hi1), (FzAs.same _), ?_⟩
      refine litE (m := 2) rfl ?_
      refine And.intro (fun _ => by first | exact ⟨by omega, by omega⟩ | (first | omega | (simp; done) | (simp; omega) | (simp at *; omega) | (simp at *; done) | (simp_all; done) | (simp_all; omega))) ?_
      refine rowsE (Y := List.map (Item.cells true) (List.set x1.s x1.i (laws_toItem (p0[x1.i]'hi1)))) (by exact setMapE (by simp) (fun a ha => by rfl)) ?_
      refine x1.go' hi1 (v := (List.set x1.s x1.i (laws_toItem (p0[x1.i]'hi1)))) (by first | rfl | simp only [laws_toItemS_b1, h3, cond_true, cond_false, Bool.not_true, Bool.not_false, Option.getD_some, Step.fin_stop, Step.fin_done, Fin.get_fin, Fin.get_done]) (by simpa using x1.hI) [some 0] (by show _ - (x1.i + 1) < _ - x1.i; omega) ?_
      exact ⟨rfl, ⟨⟨rfl, rfl, rfl, rfl, by (first | rfl | (simp; done) | (simp [LstSt.init, LstSt.step, LstInv.init, CntSt.init, CntSt.step, CntInv.init, WhlSt.init, WhlSt.step]; done) | (simp [LstSt.init, LstSt.step, LstInv.init, CntSt.init, CntSt.step, CntInv.init, WhlSt.init, WhlSt.step]; omega))⟩, (eqInt hw1), rfl, trivial⟩, ⟨⟨rfl, rfl, rfl⟩, trivial⟩, trivial⟩
    · have hf1 := x1.fin (show ¬ x1.i < (p0).length by simpa using h3)
      refine And.intro (fun _ => ownSl own_Item _) ?_
      have hg : laws_toItemS p0 = x1.s := by
        first | rfl | (simp only [laws_toItemS, laws_toItemS_b1, h3, hf1, cond_true, cond_false, Step.fin_stop, Step.fin_done, Fin.get_fin, Fin.get_done, Step.fin_next, Bool.not_true, Bool.not_false, Option.getD_some]) | (simp [laws_toItemS, laws_toItemS_b1, h3, hf1, cond_true, cond_false, Step.fin_stop, Step.fin_done, Fin.get_fin, Fin.get_done, Step.fin_next, Bool.not_true, Bool.not_false, Option.getD_some])
      exact congrArg (fun g : (List Item) => AV.one (.s true 7 (List.map (Item.cells true) g))) hg.symm
theorem id_laws_toItemS (x : (List Item)) : laws_toItemS x = x := setS_ok (b := laws_toItemS_b1) id_laws_toItem (fun _ _ _ => rfl) (fun _ => rfl) x
def laws_toTask (p0 : Task) : Task :=
  (Task.mk p0.Op p0.Pc (laws_toSpan p0.S) p0.Trace p0.Stamp (laws_toItemS p0.Hand) p0.H)
theorem c_laws_toTask (p0 : Task) (hs : Task.bd 1048576 p0) : FnOk prog 10 [.agg ((Task.cells false) p0)] ⟨.agg ((Task.cells true) (laws_toTask p0)), [], [], false⟩ := by
  refine FnOk.intro (E := env) envOk wide func10 rfl (by kernel_rfl) rfl rfl ?_
  unfold Task.bd at hs
  refine litE (m := 0) rfl ?_
  refine litE (m := 1) rfl ?_
  refine litE (m := 2) rfl ?_
  refine ⟨_, _, c_laws_toSpan p0.S (by exact hs.1), (FzAs.same _), ?_⟩
  refine litE (m := 4) rfl ?_
  refine ⟨_, _, c_laws_toItemS p0.Hand (by exact hs.2), (FzAs.same _), ?_⟩
  refine litE (m := 6) rfl ?_
  refine And.intro (fun _ => own_Task _) ?_
  have hg : laws_toTask p0 = (Task.mk p0.Op p0.Pc (laws_toSpan p0.S) p0.Trace p0.Stamp (laws_toItemS p0.Hand) p0.H) := by
    first | rfl | (simp only [laws_toTask, cond_true, cond_false, Step.fin_stop, Step.fin_done, Fin.get_fin, Fin.get_done, Step.fin_next, Bool.not_true, Bool.not_false, Option.getD_some]) | (simp [laws_toTask, cond_true, cond_false, Step.fin_stop, Step.fin_done, Fin.get_fin, Fin.get_done, Step.fin_next, Bool.not_true, Bool.not_false, Option.getD_some])
  exact congrArg (fun g : Task => AV.agg ((Task.cells true) g)) hg.symm
theorem id_laws_toTask (x : Task) : laws_toTask x = x := by
  first | rfl | (simp only [laws_toTask, id_laws_toAttr, id_laws_toAttrS, id_laws_toSpan, id_laws_toItem, id_laws_toItemS]; done) | (simp only [laws_toTask, id_laws_toAttr, id_laws_toAttrS, id_laws_toSpan, id_laws_toItem, id_laws_toItemS]; rfl)
def spec_NumText_b1 (s1 : ByteArray × Int) : Step (ByteArray × Int) ByteArray :=
  (bif (s1.2 != 0) then (bif (decide ((Int.tmod s1.2 10) < 0)) then (.next (((strOfNums [(IntKind.u8.wrap (IntKind.i64.wrap (48 + (IntKind.i64.wrap (0 - (Int.tmod s1.2 10))))))]) ++ s1.1), (IntKind.i64.wrap (Int.tdiv s1.2 10)))) else (.next (((strOfNums [(IntKind.u8.wrap (IntKind.i64.wrap (48 + (Int.tmod s1.2 10))))]) ++ s1.1), (IntKind.i64.wrap (Int.tdiv s1.2 10))))) else (.stop (s1.1, s1.2)))
def spec_NumText (p0 : Int) : ByteArray :=
  (bif (p0 == 0) then (ByteArray.mk #[48]) else (Fin.get (fun s1 => (bif (decide (p0 < 0)) then ((ByteArray.mk #[45]) ++ s1.1) else s1.1)) (loopW spec_NumText_b1 (ntM ((ByteArray.mk #[]), p0)) ((ByteArray.mk #[]), p0))))
theorem cr_spec_NumText (p0 : Int) (hr0 : I64 p0) : FnOk prog 13 [.one (.v (.int .i64 p0))] ⟨.one (.v (.string (spec_NumText p0))), [], [], false⟩ := by
  refine FnOk.intro (E := env) envOk wide func13 rfl (by kernel_rfl) rfl rfl ?_
  refine And.intro (fun (h1 : (p0 == 0) = true) => ?_) (fun (h1 : (p0 == 0) = false) => ?_)
  · refine And.intro (fun _ => .v _) ?_
    have hg : spec_NumText p0 = (ByteArray.mk #[48]) := by
      first | rfl | (simp only [spec_NumText, h1, cond_true, cond_false, Step.fin_stop, Step.fin_done, Fin.get_fin, Fin.get_done, Step.fin_next, Bool.not_true, Bool.not_false, Option.getD_some]) | (simp [spec_NumText, h1, cond_true, cond_false, Step.fin_stop, Step.fin_done, Fin.get_fin, Fin.get_done, Step.fin_next, Bool.not_true, Bool.not_false, Option.getD_some])
    exact congrArg (fun g : ByteArray => AV.one (.v (.string g))) hg.symm
  · refine loop_rule (α := WhlSt ntInv ntM spec_NumText_b1 ((ByteArray.mk #[]), p0)) [0] (fun x1 => [(3, .one (.v (.string x1.s.1))), (4, .one (.v (.int .i64 x1.s.2)))]) (fun x1 => []) (fun x1 => ntM x1.s) (WhlSt.init (by left; have := hr0.1; have := hr0.2; exact ⟨rfl, by show Int.natAbs p0 ≤ _; omega⟩)) [] ?_ (fun x1 => ?_)
    · exact ⟨rfl, ⟨rfl, rfl, rfl, trivial⟩, trivial, trivial⟩
    · refine And.intro (fun (h2 : (x1.s.2 != 0) = true) => ?_) (fun (h2 : (x1.s.2 != 0) = false) => ?_)
      · refine And.intro (fun _ => by (first | omega | (simp; done) | (simp; omega) | (simp at *; omega) | (simp at *; done) | (simp_all; done) | (simp_all; omega))) ?_
        refine And.intro (fun (h3 : (decide ((Int.tmod x1.s.2 10) < 0)) = true) => ?_) (fun (h3 : (decide ((Int.tmod x1.s.2 10) < 0)) = false) => ?_)
        · refine litE (m := 0) rfl ?_
          refine And.intro (fun _ => by first | exact nt_cat x1.hI h2 | exact nt_cat2 x1.hI) ?_
          refine And.intro (fun _ => by (first | omega | (simp; done) | (simp; omega) | (simp at *; omega) | (simp at *; done) | (simp_all; done) | (simp_all; omega))) ?_
          have hm1 : ntInv (((strOfNums [(IntKind.u8.wrap (IntKind.i64.wrap (48 + (IntKind.i64.wrap (0 - (Int.tmod x1.s.2 10))))))]) ++ x1.s.1), (IntKind.i64.wrap (Int.tdiv x1.s.2 10))) ∧ ntM (((strOfNums [(IntKind.u8.wrap (IntKind.i64.wrap (48 + (IntKind.i64.wrap (0 - (Int.tmod x1.s.2 10))))))]) ++ x1.s.1), (IntKind.i64.wrap (Int.tdiv x1.s.2 10))) < ntM x1.s := by exact nt_step x1.hI (by simpa using h2)
          refine x1.go (v := (((strOfNums [(IntKind.u8.wrap (IntKind.i64.wrap (48 + (IntKind.i64.wrap (0 - (Int.tmod x1.s.2 10))))))]) ++ x1.s.1), (IntKind.i64.wrap (Int.tdiv x1.s.2 10)))) (by first | rfl | simp only [spec_NumText_b1, h1, h2, h3, cond_true, cond_false, Bool.not_true, Bool.not_false, Option.getD_some, Step.fin_stop, Step.fin_done, Fin.get_fin, Fin.get_done]) [] hm1 hm1.2 ?_
          exact ⟨rfl, ⟨rfl, rfl, rfl, trivial⟩, trivial, trivial⟩
        · refine litE (m := 0) rfl ?_
          refine And.intro (fun _ => by first | exact nt_cat x1.hI h2 | exact nt_cat2 x1.hI) ?_
          refine And.intro (fun _ => by (first | omega | (simp; done) | (simp; omega) | (simp at *; omega) | (simp at *; done) | (simp_all; done) | (simp_all; omega))) ?_
          have hm1 : ntInv (((strOfNums [(IntKind.u8.wrap (IntKind.i64.wrap (48 + (Int.tmod x1.s.2 10))))]) ++ x1.s.1), (IntKind.i64.wrap (Int.tdiv x1.s.2 10))) ∧ ntM (((strOfNums [(IntKind.u8.wrap (IntKind.i64.wrap (48 + (Int.tmod x1.s.2 10))))]) ++ x1.s.1), (IntKind.i64.wrap (Int.tdiv x1.s.2 10))) < ntM x1.s := by exact nt_step x1.hI (by simpa using h2)
          refine x1.go (v := (((strOfNums [(IntKind.u8.wrap (IntKind.i64.wrap (48 + (Int.tmod x1.s.2 10))))]) ++ x1.s.1), (IntKind.i64.wrap (Int.tdiv x1.s.2 10)))) (by first | rfl | simp only [spec_NumText_b1, h1, h2, h3, cond_true, cond_false, Bool.not_true, Bool.not_false, Option.getD_some, Step.fin_stop, Step.fin_done, Fin.get_fin, Fin.get_done]) [] hm1 hm1.2 ?_
          exact ⟨rfl, ⟨rfl, rfl, rfl, trivial⟩, trivial, trivial⟩
      · have hb1 := x1.out (by first | rfl | simp only [spec_NumText_b1, h1, h2, cond_true, cond_false, Bool.not_true, Bool.not_false, Option.getD_some, Step.isNext_stop, Step.isNext_done, Step.fin_stop, Step.fin_done, Fin.get_fin, Fin.get_done])
        refine And.intro (fun (h4 : (decide (p0 < 0)) = true) => ?_) (fun (h4 : (decide (p0 < 0)) = false) => ?_)
        · refine And.intro (fun _ => by first | exact nt_cat x1.hI h2 | exact nt_cat2 x1.hI) ?_
          refine And.intro (fun _ => .v _) ?_
          have hg : spec_NumText p0 = ((ByteArray.mk #[45]) ++ x1.s.1) := by
            first | rfl | (simp only [spec_NumText, spec_NumText_b1, h1, h2, hb1, h4, cond_true, cond_false, Step.fin_stop, Step.fin_done, Fin.get_fin, Fin.get_done, Step.fin_next, Bool.not_true, Bool.not_false, Option.getD_some]) | (simp [spec_NumText, spec_NumText_b1, h1, h2, hb1, h4, cond_true, cond_false, Step.fin_stop, Step.fin_done, Fin.get_fin, Fin.get_done, Step.fin_next, Bool.not_true, Bool.not_false, Option.getD_some])
          exact congrArg (fun g : ByteArray => AV.one (.v (.string g))) hg.symm
        · refine And.intro (fun _ => .v _) ?_
          have hg : spec_NumText p0 = x1.s.1 := by
            first | rfl | (simp only [spec_NumText, spec_NumText_b1, h1, h2, hb1, h4, cond_true, cond_false, Step.fin_stop, Step.fin_done, Fin.get_fin, Fin.get_done, Step.fin_next, Bool.not_true, Bool.not_false, Option.getD_some]) | (simp [spec_NumText, spec_NumText_b1, h1, h2, hb1, h4, cond_true, cond_false, Step.fin_stop, Step.fin_done, Fin.get_fin, Fin.get_done, Step.fin_next, Bool.not_true, Bool.not_false, Option.getD_some])
          exact congrArg (fun g : ByteArray => AV.one (.v (.string g))) hg.symm
theorem c_spec_NumText (p0 : Int) : FnOk prog 13 [.one (.v (.int .i64 p0))] ⟨.one (.v (.string (spec_NumText p0))), [], [], false⟩ :=
  FnOk.fits ⟨_, func13, by kernel_rfl, by kernel_rfl⟩ (fun hf => cr_spec_NumText p0 (range_of_fit hf.1))
theorem nt_b1 {s : ByteArray} {x : Int} (hx : x ≠ 0) (h : x.natAbs ≤ 9223372036854775808) : ∃ y, spec_NumText_b1 (s, x) = .next (ByteArray.mk #[UInt8.ofNat (48 + x.natAbs % 10)] ++ s, y) ∧ y.natAbs = x.natAbs / 10 := by
  refine ⟨_, ?_, nt_abs h⟩
  have h0 : (x != 0) = true := by simpa using hx
  have hm : (x.tmod 10).natAbs = x.natAbs % 10 := by rw [Int.natAbs_tmod]; rfl
  have u8w : ∀ k : Nat, k < 10 → strOfNums [IntKind.u8.wrap (IntKind.i64.wrap (48 + (k : Int)))] = ByteArray.mk #[UInt8.ofNat (48 + k)] := by
    intro k hk
    rw [Go.Ev.wrap_small (n := 48 + (k : Int)) (by omega) (by omega)]
    have : IntKind.u8.wrap (48 + (k : Int)) = ((48 + k : Nat) : Int) := by
      simp [IntKind.wrap, IntKind.bits, IntKind.signed]; omega
    rw [this]; rfl
  unfold spec_NumText_b1
  simp only [h0, cond_true]
  cases hd : decide (x.tmod 10 < 0) with
  | true =>
    rw [decide_eq_true_eq] at hd
    have e : IntKind.i64.wrap (0 - x.tmod 10) = ((x.natAbs % 10 : Nat) : Int) := by rw [Go.Ev.wrap_small (n := 0 - x.tmod 10) (by omega) (by omega)]; omega
    simp only [cond_true]
    rw [e, u8w _ (by omega)]
  | false =>
    rw [decide_eq_false_iff_not] at hd
    have e : x.tmod 10 = ((x.natAbs % 10 : Nat) : Int) := by omega
    simp only [cond_false]
    rw [e, u8w _ (by omega)]
theorem mk_app (a b : List UInt8) : ByteArray.mk (a ++ b).toArray = ByteArray.mk a.toArray ++ ByteArray.mk b.toArray := by
  apply ByteArray.ext
  simp [ByteArray.data_append]
theorem nt_loop : ∀ (u N : Nat) (s : ByteArray) (x : Int), x.natAbs = u → u ≤ N → u ≤ 9223372036854775808 → ∃ y, loopW spec_NumText_b1 N (s, x) = .fin ((if u = 0 then s else ByteArray.mk (Lib.decDigits u).toArray ++ s), y) := by
  intro u
  induction u using Nat.strongRecOn with
  | _ u ih =>
    intro N s x hx hN hu
    by_cases h0 : u = 0
    · have : x = 0 := by omega
      subst this
      refine ⟨0, ?_⟩
      cases N <;> simp [loopW, spec_NumText_b1, Step.fin, h0]
    · obtain ⟨N, rfl⟩ : ∃ n, N = n + 1 := ⟨N - 1, by omega⟩
      obtain ⟨y, e, hy⟩ := nt_b1 (s := s) (x := x) (by omega) (by omega)
      rw [loopW, e]
      simp only
      obtain ⟨z, hz⟩ := ih (u / 10) (by omega) N (ByteArray.mk #[UInt8.ofNat (48 + x.natAbs % 10)] ++ s) y (by omega) (by omega) (by omega)
      refine ⟨z, ?_⟩
      rw [hz, hx, if_neg h0]
      congr 2
      by_cases h1 : u / 10 = 0
      · rw [if_pos h1, Lib.decDigits, dif_pos (by omega), Nat.mod_eq_of_lt (by omega)]
      · rw [if_neg h1, ← ByteArray.append_assoc]
        congr 1
        conv => rhs; rw [Lib.decDigits, dif_neg (by omega : ¬ u < 10)]
        rw [mk_app]
theorem main_NumText {n : Int} (h : I64 n) : spec_NumText n = itoaS n := by
  have h1 := h.1
  have h2 := h.2
  unfold spec_NumText
  by_cases h0 : n = 0
  · subst h0
    simp [itoaS, Lib.itoa, Lib.decDigits]
  · have e0 : (n == 0) = false := by simpa using h0
    simp only [e0, cond_false]
    obtain ⟨y, hy⟩ := nt_loop n.natAbs n.natAbs (ByteArray.mk #[]) n rfl (Nat.le_refl _) (by omega)
    have e1 : ntM (ByteArray.mk #[], n) = n.natAbs := rfl
    rw [e1, hy, if_neg (by omega)]
    have ee : ∀ b : ByteArray, b ++ ByteArray.mk #[] = b := fun b => by apply ByteArray.ext; simp [ByteArray.data_append]
    simp only [Fin.get, ee]
    by_cases hn : n < 0
    · have e2 : decide (n < 0) = true := by simpa using hn
      simp only [e2, cond_true]
      rw [itoaS, Lib.itoa, if_pos hn]
      exact (mk_app [45] _).symm
    · have e2 : decide (n < 0) = false := by simpa using hn
      simp only [e2, cond_false]
      rw [itoaS, Lib.itoa, if_neg hn]
      congr 3
      omega
theorem size_spec_NumText {n : Int} (h : I64 n) : (spec_NumText n).size ≤ 20 := by
  rw [main_NumText h]; exact itoaS_size h.1 h.2
def spec_TaskText (p0 : Task) : ByteArray :=
  (bif (p0.Op == 0) then (ByteArray.mk #[105, 100, 108, 101]) else (bif (p0.Op == 1) then ((ByteArray.mk #[111, 102, 102, 101, 114, 32]) ++ (spec_NumText p0.Pc)) else (bif (p0.Op == 2) then ((ByteArray.mk #[106, 117, 100, 103, 101, 32]) ++ (spec_NumText p0.Pc)) else (ByteArray.mk #[]))))
theorem cr_spec_TaskText (p0 : Task) (hr0 : Task.rg p0) : FnOk prog 9 [.agg ((Task.cells false) p0)] ⟨.one (.v (.string (spec_TaskText p0))), [], [], false⟩ := by
  refine FnOk.intro (E := env) envOk wide func9 rfl (by kernel_rfl) rfl rfl ?_
  refine litE (m := 0) rfl ?_
  refine And.intro (fun (h1 : (p0.Op == 0) = true) => ?_) (fun (h1 : (p0.Op == 0) = false) => ?_)
  · refine And.intro (fun _ => .v _) ?_
    have hg : spec_TaskText p0 = (ByteArray.mk #[105, 100, 108, 101]) := by
      first | rfl | (simp only [spec_TaskText, h1, cond_true, cond_false, Step.fin_stop, Step.fin_done, Fin.get_fin, Fin.get_done, Step.fin_next, Bool.not_true, Bool.not_false, Option.getD_some]) | (simp [spec_TaskText, h1, cond_true, cond_false, Step.fin_stop, Step.fin_done, Fin.get_fin, Fin.get_done, Step.fin_next, Bool.not_true, Bool.not_false, Option.getD_some])
    exact congrArg (fun g : ByteArray => AV.one (.v (.string g))) hg.symm
  · refine And.intro (fun (h2 : (p0.Op == 1) = true) => ?_) (fun (h2 : (p0.Op == 1) = false) => ?_)
    · refine ⟨_, _, c_spec_NumText p0.Pc, (FzAs.same _), ?_⟩
      refine litE (m := 2) rfl ?_
      refine And.intro (fun _ => by have z1 := size_spec_NumText hr0.Pc; have q : (ByteArray.mk #[111, 102, 102, 101, 114, 32]).size = 6 := rfl; have q2 : (ByteArray.mk #[106, 117, 100, 103, 101, 32]).size = 6 := rfl; omega) ?_
      refine And.intro (fun _ => .v _) ?_
      have hg : spec_TaskText p0 = ((ByteArray.mk #[111, 102, 102, 101, 114, 32]) ++ (spec_NumText p0.Pc)) := by
        first | rfl | (simp only [spec_TaskText, h1, h2, cond_true, cond_false, Step.fin_stop, Step.fin_done, Fin.get_fin, Fin.get_done, Step.fin_next, Bool.not_true, Bool.not_false, Option.getD_some]) | (simp [spec_TaskText, h1, h2, cond_true, cond_false, Step.fin_stop, Step.fin_done, Fin.get_fin, Fin.get_done, Step.fin_next, Bool.not_true, Bool.not_false, Option.getD_some])
      exact congrArg (fun g : ByteArray => AV.one (.v (.string g))) hg.symm
    · refine And.intro (fun (h3 : (p0.Op == 2) = true) => ?_) (fun (h3 : (p0.Op == 2) = false) => ?_)
      · refine ⟨_, _, c_spec_NumText p0.Pc, (FzAs.same _), ?_⟩
        refine litE (m := 2) rfl ?_
        refine And.intro (fun _ => by have z1 := size_spec_NumText hr0.Pc; have q : (ByteArray.mk #[111, 102, 102, 101, 114, 32]).size = 6 := rfl; have q2 : (ByteArray.mk #[106, 117, 100, 103, 101, 32]).size = 6 := rfl; omega) ?_
        refine And.intro (fun _ => .v _) ?_
        have hg : spec_TaskText p0 = ((ByteArray.mk #[106, 117, 100, 103, 101, 32]) ++ (spec_NumText p0.Pc)) := by
          first | rfl | (simp only [spec_TaskText, h1, h2, h3, cond_true, cond_false, Step.fin_stop, Step.fin_done, Fin.get_fin, Fin.get_done, Step.fin_next, Bool.not_true, Bool.not_false, Option.getD_some]) | (simp [spec_TaskText, h1, h2, h3, cond_true, cond_false, Step.fin_stop, Step.fin_done, Fin.get_fin, Fin.get_done, Step.fin_next, Bool.not_true, Bool.not_false, Option.getD_some])
        exact congrArg (fun g : ByteArray => AV.one (.v (.string g))) hg.symm
      · refine And.intro (fun _ => .v _) ?_
        have hg : spec_TaskText p0 = (ByteArray.mk #[]) := by
          first | rfl | (simp only [spec_TaskText, h1, h2, h3, cond_true, cond_false, Step.fin_stop, Step.fin_done, Fin.get_fin, Fin.get_done, Step.fin_next, Bool.not_true, Bool.not_false, Option.getD_some]) | (simp [spec_TaskText, h1, h2, h3, cond_true, cond_false, Step.fin_stop, Step.fin_done, Fin.get_fin, Fin.get_done, Step.fin_next, Bool.not_true, Bool.not_false, Option.getD_some])
        exact congrArg (fun g : ByteArray => AV.one (.v (.string g))) hg.symm
theorem c_spec_TaskText (p0 : Task) : FnOk prog 9 [.agg ((Task.cells false) p0)] ⟨.one (.v (.string (spec_TaskText p0))), [], [], false⟩ :=
  FnOk.fits ⟨_, func9, by kernel_rfl, by kernel_rfl⟩ (fun hf => cr_spec_TaskText p0 (rg_Task hf.1))
def impl_NumText (p0 : Int) : ByteArray :=
  (itoaS p0)
theorem c_impl_NumText (p0 : Int) : FnOk prog 14 [.one (.v (.int .i64 p0))] ⟨.one (.v (.string (impl_NumText p0))), [], [], false⟩ := by
  refine FnOk.intro (E := env) envOk wide func14 rfl (by kernel_rfl) rfl rfl ?_
  refine ⟨_, _, c_itoa p0, (FzAs.same _), ?_⟩
  refine litE (m := 1) rfl ?_
  refine And.intro (fun _ => .v _) ?_
  have hg : impl_NumText p0 = (itoaS p0) := by
    first | rfl | (simp only [impl_NumText, cond_true, cond_false, Step.fin_stop, Step.fin_done, Fin.get_fin, Fin.get_done, Step.fin_next, Bool.not_true, Bool.not_false, Option.getD_some]) | (simp [impl_NumText, cond_true, cond_false, Step.fin_stop, Step.fin_done, Fin.get_fin, Fin.get_done, Step.fin_next, Bool.not_true, Bool.not_false, Option.getD_some])
  exact congrArg (fun g : ByteArray => AV.one (.v (.string g))) hg.symm
theorem size_impl_NumText {n : Int} (h : I64 n) : (impl_NumText n).size ≤ 20 := itoaS_size h.1 h.2
def impl_TaskText (p0 : Task) : ByteArray :=
  (bif (p0.Op == 0) then (ByteArray.mk #[105, 100, 108, 101]) else (bif (p0.Op == 1) then ((ByteArray.mk #[111, 102, 102, 101, 114, 32]) ++ (impl_NumText p0.Pc)) else (bif (p0.Op == 2) then ((ByteArray.mk #[106, 117, 100, 103, 101, 32]) ++ (impl_NumText p0.Pc)) else (ByteArray.mk #[]))))
theorem cr_impl_TaskText (p0 : Task) (hr0 : Task.rg p0) : FnOk prog 11 [.agg ((Task.cells false) p0)] ⟨.one (.v (.string (impl_TaskText p0))), [], [], false⟩ := by
  refine FnOk.intro (E := env) envOk wide func11 rfl (by kernel_rfl) rfl rfl ?_
  refine litE (m := 0) rfl ?_
  refine And.intro (fun (h1 : (p0.Op == 0) = true) => ?_) (fun (h1 : (p0.Op == 0) = false) => ?_)
  · refine And.intro (fun _ => .v _) ?_
    have hg : impl_TaskText p0 = (ByteArray.mk #[105, 100, 108, 101]) := by
      first | rfl | (simp only [impl_TaskText, h1, cond_true, cond_false, Step.fin_stop, Step.fin_done, Fin.get_fin, Fin.get_done, Step.fin_next, Bool.not_true, Bool.not_false, Option.getD_some]) | (simp [impl_TaskText, h1, cond_true, cond_false, Step.fin_stop, Step.fin_done, Fin.get_fin, Fin.get_done, Step.fin_next, Bool.not_true, Bool.not_false, Option.getD_some])
    exact congrArg (fun g : ByteArray => AV.one (.v (.string g))) hg.symm
  · refine And.intro (fun (h2 : (p0.Op == 1) = true) => ?_) (fun (h2 : (p0.Op == 1) = false) => ?_)
    · refine ⟨_, _, c_impl_NumText p0.Pc, (FzAs.same _), ?_⟩
      refine litE (m := 2) rfl ?_
      refine And.intro (fun _ => by have z1 := size_impl_NumText hr0.Pc; have q : (ByteArray.mk #[111, 102, 102, 101, 114, 32]).size = 6 := rfl; have q2 : (ByteArray.mk #[106, 117, 100, 103, 101, 32]).size = 6 := rfl; omega) ?_
      refine And.intro (fun _ => .v _) ?_
      have hg : impl_TaskText p0 = ((ByteArray.mk #[111, 102, 102, 101, 114, 32]) ++ (impl_NumText p0.Pc)) := by
        first | rfl | (simp only [impl_TaskText, h1, h2, cond_true, cond_false, Step.fin_stop, Step.fin_done, Fin.get_fin, Fin.get_done, Step.fin_next, Bool.not_true, Bool.not_false, Option.getD_some]) | (simp [impl_TaskText, h1, h2, cond_true, cond_false, Step.fin_stop, Step.fin_done, Fin.get_fin, Fin.get_done, Step.fin_next, Bool.not_true, Bool.not_false, Option.getD_some])
      exact congrArg (fun g : ByteArray => AV.one (.v (.string g))) hg.symm
    · refine And.intro (fun (h3 : (p0.Op == 2) = true) => ?_) (fun (h3 : (p0.Op == 2) = false) => ?_)
      · refine ⟨_, _, c_impl_NumText p0.Pc, (FzAs.same _), ?_⟩
        refine litE (m := 2) rfl ?_
        refine And.intro (fun _ => by have z1 := size_impl_NumText hr0.Pc; have q : (ByteArray.mk #[111, 102, 102, 101, 114, 32]).size = 6 := rfl; have q2 : (ByteArray.mk #[106, 117, 100, 103, 101, 32]).size = 6 := rfl; omega) ?_
        refine And.intro (fun _ => .v _) ?_
        have hg : impl_TaskText p0 = ((ByteArray.mk #[106, 117, 100, 103, 101, 32]) ++ (impl_NumText p0.Pc)) := by
          first | rfl | (simp only [impl_TaskText, h1, h2, h3, cond_true, cond_false, Step.fin_stop, Step.fin_done, Fin.get_fin, Fin.get_done, Step.fin_next, Bool.not_true, Bool.not_false, Option.getD_some]) | (simp [impl_TaskText, h1, h2, h3, cond_true, cond_false, Step.fin_stop, Step.fin_done, Fin.get_fin, Fin.get_done, Step.fin_next, Bool.not_true, Bool.not_false, Option.getD_some])
        exact congrArg (fun g : ByteArray => AV.one (.v (.string g))) hg.symm
      · refine And.intro (fun _ => .v _) ?_
        have hg : impl_TaskText p0 = (ByteArray.mk #[]) := by
          first | rfl | (simp only [impl_TaskText, h1, h2, h3, cond_true, cond_false, Step.fin_stop, Step.fin_done, Fin.get_fin, Fin.get_done, Step.fin_next, Bool.not_true, Bool.not_false, Option.getD_some]) | (simp [impl_TaskText, h1, h2, h3, cond_true, cond_false, Step.fin_stop, Step.fin_done, Fin.get_fin, Fin.get_done, Step.fin_next, Bool.not_true, Bool.not_false, Option.getD_some])
        exact congrArg (fun g : ByteArray => AV.one (.v (.string g))) hg.symm
theorem c_impl_TaskText (p0 : Task) : FnOk prog 11 [.agg ((Task.cells false) p0)] ⟨.one (.v (.string (impl_TaskText p0))), [], [], false⟩ :=
  FnOk.fits ⟨_, func11, by kernel_rfl, by kernel_rfl⟩ (fun hf => cr_impl_TaskText p0 (rg_Task hf.1))
def laws_eqAttr (p0 : Attr) (p1 : Attr) : Bool :=
  (bif (!decide (p0.Key = p1.Key)) then false else (bif (!(p0.Num == p1.Num)) then false else (bif (p0.N != p1.N) then false else (bif (!decide (p0.Text = p1.Text)) then false else true))))
theorem c_laws_eqAttr (p0 : Attr) (p1 : Attr) : FnOk prog 31 [.agg (Attr.cells p0), .agg (Attr.cells p1)] ⟨.one (.v (.bool (laws_eqAttr p0 p1))), [], [], false⟩ := by
  refine FnOk.intro (E := env) envOk wide func31 rfl (by kernel_rfl) rfl rfl ?_
  refine litE (m := 0) rfl ?_
  refine litE (m := 1) rfl ?_
  refine And.intro (fun (h1 : (!decide (p0.Key = p1.Key)) = true) => ?_) (fun (h1 : (!decide (p0.Key = p1.Key)) = false) => ?_)
  · refine And.intro (fun _ => .v _) ?_
    have hg : laws_eqAttr p0 p1 = false := by
      first | rfl | (simp only [laws_eqAttr, h1, cond_true, cond_false, Step.fin_stop, Step.fin_done, Fin.get_fin, Fin.get_done, Step.fin_next, Bool.not_true, Bool.not_false, Option.getD_some]) | (simp [laws_eqAttr, h1, cond_true, cond_false, Step.fin_stop, Step.fin_done, Fin.get_fin, Fin.get_done, Step.fin_next, Bool.not_true, Bool.not_false, Option.getD_some])
    exact congrArg (fun g : Bool => AV.one (.v (.bool g))) hg.symm
  · refine And.intro (fun (h2 : (!(p0.Num == p1.Num)) = true) => ?_) (fun (h2 : (!(p0.Num == p1.Num)) = false) => ?_)
    · refine And.intro (fun _ => .v _) ?_
      have hg : laws_eqAttr p0 p1 = false := by
        first | rfl | (simp only [laws_eqAttr, h1, h2, cond_true, cond_false, Step.fin_stop, Step.fin_done, Fin.get_fin, Fin.get_done, Step.fin_next, Bool.not_true, Bool.not_false, Option.getD_some]) | (simp [laws_eqAttr, h1, h2, cond_true, cond_false, Step.fin_stop, Step.fin_done, Fin.get_fin, Fin.get_done, Step.fin_next, Bool.not_true, Bool.not_false, Option.getD_some])
      exact congrArg (fun g : Bool => AV.one (.v (.bool g))) hg.symm
    · refine And.intro (fun (h3 : (p0.N != p1.N) = true) => ?_) (fun (h3 : (p0.N != p1.N) = false) => ?_)
      · refine And.intro (fun _ => .v _) ?_
        have hg : laws_eqAttr p0 p1 = false := by
          first | rfl | (simp only [laws_eqAttr, h1, h2, h3, cond_true, cond_false, Step.fin_stop, Step.fin_done, Fin.get_fin, Fin.get_done, Step.fin_next, Bool.not_true, Bool.not_false, Option.getD_some]) | (simp [laws_eqAttr, h1, h2, h3, cond_true, cond_false, Step.fin_stop, Step.fin_done, Fin.get_fin, Fin.get_done, Step.fin_next, Bool.not_true, Bool.not_false, Option.getD_some])
        exact congrArg (fun g : Bool => AV.one (.v (.bool g))) hg.symm
      · refine And.intro (fun (h4 : (!decide (p0.Text = p1.Text)) = true) => ?_) (fun (h4 : (!decide (p0.Text = p1.Text)) = false) => ?_)
        · refine And.intro (fun _ => .v _) ?_
          have hg : laws_eqAttr p0 p1 = false := by
            first | rfl | (simp only [laws_eqAttr, h1, h2, h3, h4, cond_true, cond_false, Step.fin_stop, Step.fin_done, Fin.get_fin, Fin.get_done, Step.fin_next, Bool.not_true, Bool.not_false, Option.getD_some]) | (simp [laws_eqAttr, h1, h2, h3, h4, cond_true, cond_false, Step.fin_stop, Step.fin_done, Fin.get_fin, Fin.get_done, Step.fin_next, Bool.not_true, Bool.not_false, Option.getD_some])
          exact congrArg (fun g : Bool => AV.one (.v (.bool g))) hg.symm
        · refine And.intro (fun _ => .v _) ?_
          have hg : laws_eqAttr p0 p1 = true := by
            first | rfl | (simp only [laws_eqAttr, h1, h2, h3, h4, cond_true, cond_false, Step.fin_stop, Step.fin_done, Fin.get_fin, Fin.get_done, Step.fin_next, Bool.not_true, Bool.not_false, Option.getD_some]) | (simp [laws_eqAttr, h1, h2, h3, h4, cond_true, cond_false, Step.fin_stop, Step.fin_done, Fin.get_fin, Fin.get_done, Step.fin_next, Bool.not_true, Bool.not_false, Option.getD_some])
          exact congrArg (fun g : Bool => AV.one (.v (.bool g))) hg.symm
theorem rf_laws_eqAttr (x : Attr) : laws_eqAttr x x = true := by
  simp [laws_eqAttr]
def laws_eqAttrS_b1 (p1 : (List Attr)) (i1 : Nat) (s1 : Unit) (a1 : Attr) : Step (Unit) Bool :=
  (bif (!(laws_eqAttr a1 (p1[i1]?.getD default))) then (.done false) else (.next ()))
def laws_eqAttrS (p0 : (List Attr)) (p1 : (List Attr)) : Bool :=
  (bif ((((p0).length : Nat) : Int) != (((p1).length : Nat) : Int)) then false else (Fin.get (fun s1 => true) (loopL (laws_eqAttrS_b1 p1) 0 () p0)))
theorem c_laws_eqAttrS (p0 : (List Attr)) (p1 : (List Attr)) : FnOk prog 26 [.one (.s false 4 (List.map Attr.cells p0)), .one (.s false 4 (List.map Attr.cells p1))] ⟨.one (.v (.bool (laws_eqAttrS p0 p1))), [], [], false⟩ := by
  refine FnOk.intro (E := env) envOk wide func26 rfl (by kernel_rfl) rfl rfl ?_
  refine lenE (k := (p0).length) (by simp) (fun hN1 => ?_)
  refine lenE (k := (p1).length) (by simp) (fun hN2 => ?_)
  refine And.intro (fun (h3 : ((((p0).length : Nat) : Int) != (((p1).length : Nat) : Int)) = true) => ?_) (fun (h3 : ((((p0).length : Nat) : Int) != (((p1).length : Nat) : Int)) = false) => ?_)
  · refine And.intro (fun _ => .v _) ?_
    have hg : laws_eqAttrS p0 p1 = false := by
      first | rfl | (simp only [laws_eqAttrS, h3, cond_true, cond_false, Step.fin_stop, Step.fin_done, Fin.get_fin, Fin.get_done, Step.fin_next, Bool.not_true, Bool.not_false, Option.getD_some]) | (simp [laws_eqAttrS, h3, cond_true, cond_false, Step.fin_stop, Step.fin_done, Fin.get_fin, Fin.get_done, Step.fin_next, Bool.not_true, Bool.not_false, Option.getD_some])
    exact congrArg (fun g : Bool => AV.one (.v (.bool g))) hg.symm
  · refine loop_rule (α := LstSt (laws_eqAttrS_b1 p1) () p0) [0, 1] (fun x1 => [(5, .one (.v (.int .i64 ((x1.i : Nat) : Int))))]) (fun x1 => []) (fun x1 => (p0).length - x1.i) .init [] ?_ (fun x1 => ?_)
    · exact ⟨rfl, ⟨rfl, rfl, rfl, trivial⟩, trivial, trivial⟩
    · refine lenE (k := (p0).length) (by simp) (fun hN4 => ?_)
      refine And.intro (fun (h5 : (decide (((x1.i : Nat) : Int) < (((p0).length : Nat) : Int))) = true) => ?_) (fun (h5 : (decide (((x1.i : Nat) : Int) < (((p0).length : Nat) : Int))) = false) => ?_)
      · have hi1 : x1.i < (p0).length := by simpa using h5
        have hw1 : IntKind.i64.wrap ((x1.i : Int) + 1) = ((x1.i + 1 : Nat) : Int) := wrap_succ hi1 (by first | assumption | omega)
        refine .inl ⟨by kernel_rfl, ?_⟩
        refine And.intro (fun _ => by exact idx_at hi1) (rowAtE (i := x1.i) (l := p0) rfl hi1 ?_)
        refine And.intro (fun _ => by (first | omega | (simp; done) | (simp; omega) | (simp at *; omega) | (simp at *; done) | (simp_all; done) | (simp_all; omega))) (rowOfE (i := x1.i) (l := p1) rfl (fun e6 he6 => ?_))
        refine ⟨_, _, c_laws_eqAttr (p0[x1.i]'hi1) e6, (FzAs.same _), ?_⟩
        refine And.intro (fun (h7 : (!(laws_eqAttr (p0[x1.i]'hi1) e6)) = true) => ?_) (fun (h7 : (!(laws_eqAttr (p0[x1.i]'hi1) e6)) = false) => ?_)
        · have hb1 := x1.out hi1 (by first | rfl | simp only [laws_eqAttrS_b1, h3, h5, he6, h7, cond_true, cond_false, Bool.not_true, Bool.not_false, Option.getD_some, Step.isNext_stop, Step.isNext_done, Step.fin_stop, Step.fin_done, Fin.get_fin, Fin.get_done])
          refine And.intro (fun _ => .v _) ?_
          have hg : laws_eqAttrS p0 p1 = false := by
            first | rfl | (simp only [laws_eqAttrS, laws_eqAttrS_b1, h3, h5, he6, h7, hb1, cond_true, cond_false, Step.fin_stop, Step.fin_done, Fin.get_fin, Fin.get_done, Step.fin_next, Bool.not_true, Bool.not_false, Option.getD_some]) | (simp [laws_eqAttrS, laws_eqAttrS_b1, h3, h5, he6, h7, hb1, cond_true, cond_false, Step.fin_stop, Step.fin_done, Fin.get_fin, Fin.get_done, Step.fin_next, Bool.not_true, Bool.not_false, Option.getD_some])
          exact congrArg (fun g : Bool => AV.one (.v (.bool g))) hg.symm
        · refine x1.go hi1 (v := ()) (by first | rfl | simp only [laws_eqAttrS_b1, h3, h5, he6, h7, cond_true, cond_false, Bool.not_true, Bool.not_false, Option.getD_some, Step.fin_stop, Step.fin_done, Fin.get_fin, Fin.get_done]) [] (by show _ - (x1.i + 1) < _ - x1.i; omega) ?_
          exact ⟨rfl, ⟨(eqInt hw1), rfl, rfl, trivial⟩, trivial, trivial⟩
      · have hf1 := x1.fin (show ¬ x1.i < (p0).length by simpa using h5)
        refine And.intro (fun _ => .v _) ?_
        have hg : laws_eqAttrS p0 p1 = true := by
          first | rfl | (simp only [laws_eqAttrS, laws_eqAttrS_b1, h3, h5, hf1, cond_true, cond_false, Step.fin_stop, Step.fin_done, Fin.get_fin, Fin.get_done, Step.fin_next, Bool.not_true, Bool.not_false, Option.getD_some]) | (simp [laws_eqAttrS, laws_eqAttrS_b1, h3, h5, hf1, cond_true, cond_false, Step.fin_stop, Step.fin_done, Fin.get_fin, Fin.get_done, Step.fin_next, Bool.not_true, Bool.not_false, Option.getD_some])
        exact congrArg (fun g : Bool => AV.one (.v (.bool g))) hg.symm
theorem rf_laws_eqAttrS (x : (List Attr)) : laws_eqAttrS x x = true := eqS_ok (b := laws_eqAttrS_b1) rf_laws_eqAttr (fun _ _ _ _ => rfl) (fun _ _ => rfl) x
def laws_eqSpan (p0 : Span) (p1 : Span) : Bool :=
  (bif (p0.Trace != p1.Trace) then false else (bif (p0.Id != p1.Id) then false else (bif (p0.Start != p1.Start) then false else (bif (p0.End != p1.End) then false else (bif (!(p0.Err == p1.Err)) then false else (bif (!(laws_eqAttrS p0.Attrs p1.Attrs)) then false else true))))))
theorem c_laws_eqSpan (p0 : Span) (p1 : Span) : FnOk prog 19 [.agg ((Span.cells false) p0), .agg ((Span.cells false) p1)] ⟨.one (.v (.bool (laws_eqSpan p0 p1))), [], [], false⟩ := by
  refine FnOk.intro (E := env) envOk wide func19 rfl (by kernel_rfl) rfl rfl ?_
  refine litE (m := 0) rfl ?_
  refine litE (m := 1) rfl ?_
  refine And.intro (fun (h1 : (p0.Trace != p1.Trace) = true) => ?_) (fun (h1 : (p0.Trace != p1.Trace) = false) => ?_)
  · refine And.intro (fun _ => .v _) ?_
    have hg : laws_eqSpan p0 p1 = false := by
      first | rfl | (simp only [laws_eqSpan, h1, cond_true, cond_false, Step.fin_stop, Step.fin_done, Fin.get_fin, Fin.get_done, Step.fin_next, Bool.not_true, Bool.not_false, Option.getD_some]) | (simp [laws_eqSpan, h1, cond_true, cond_false, Step.fin_stop, Step.fin_done, Fin.get_fin, Fin.get_done, Step.fin_next, Bool.not_true, Bool.not_false, Option.getD_some])
    exact congrArg (fun g : Bool => AV.one (.v (.bool g))) hg.symm
  · refine And.intro (fun (h2 : (p0.Id != p1.Id) = true) => ?_) (fun (h2 : (p0.Id != p1.Id) = false) => ?_)
    · refine And.intro (fun _ => .v _) ?_
      have hg : laws_eqSpan p0 p1 = false := by
        first | rfl | (simp only [laws_eqSpan, h1, h2, cond_true, cond_false, Step.fin_stop, Step.fin_done, Fin.get_fin, Fin.get_done, Step.fin_next, Bool.not_true, Bool.not_false, Option.getD_some]) | (simp [laws_eqSpan, h1, h2, cond_true, cond_false, Step.fin_stop, Step.fin_done, Fin.get_fin, Fin.get_done, Step.fin_next, Bool.not_true, Bool.not_false, Option.getD_some])
      exact congrArg (fun g : Bool => AV.one (.v (.bool g))) hg.symm
    · refine And.intro (fun (h3 : (p0.Start != p1.Start) = true) => ?_) (fun (h3 : (p0.Start != p1.Start) = false) => ?_)
      · refine And.intro (fun _ => .v _) ?_
        have hg : laws_eqSpan p0 p1 = false := by
          first | rfl | (simp only [laws_eqSpan, h1, h2, h3, cond_true, cond_false, Step.fin_stop, Step.fin_done, Fin.get_fin, Fin.get_done, Step.fin_next, Bool.not_true, Bool.not_false, Option.getD_some]) | (simp [laws_eqSpan, h1, h2, h3, cond_true, cond_false, Step.fin_stop, Step.fin_done, Fin.get_fin, Fin.get_done, Step.fin_next, Bool.not_true, Bool.not_false, Option.getD_some])
        exact congrArg (fun g : Bool => AV.one (.v (.bool g))) hg.symm
      · refine And.intro (fun (h4 : (p0.End != p1.End) = true) => ?_) (fun (h4 : (p0.End != p1.End) = false) => ?_)
        · refine And.intro (fun _ => .v _) ?_
          have hg : laws_eqSpan p0 p1 = false := by
            first | rfl | (simp only [laws_eqSpan, h1, h2, h3, h4, cond_true, cond_false, Step.fin_stop, Step.fin_done, Fin.get_fin, Fin.get_done, Step.fin_next, Bool.not_true, Bool.not_false, Option.getD_some]) | (simp [laws_eqSpan, h1, h2, h3, h4, cond_true, cond_false, Step.fin_stop, Step.fin_done, Fin.get_fin, Fin.get_done, Step.fin_next, Bool.not_true, Bool.not_false, Option.getD_some])
          exact congrArg (fun g : Bool => AV.one (.v (.bool g))) hg.symm
        · refine And.intro (fun (h5 : (!(p0.Err == p1.Err)) = true) => ?_) (fun (h5 : (!(p0.Err == p1.Err)) = false) => ?_)
          · refine And.intro (fun _ => .v _) ?_
            have hg : laws_eqSpan p0 p1 = false := by
              first | rfl | (simp only [laws_eqSpan, h1, h2, h3, h4, h5, cond_true, cond_false, Step.fin_stop, Step.fin_done, Fin.get_fin, Fin.get_done, Step.fin_next, Bool.not_true, Bool.not_false, Option.getD_some]) | (simp [laws_eqSpan, h1, h2, h3, h4, h5, cond_true, cond_false, Step.fin_stop, Step.fin_done, Fin.get_fin, Fin.get_done, Step.fin_next, Bool.not_true, Bool.not_false, Option.getD_some])
            exact congrArg (fun g : Bool => AV.one (.v (.bool g))) hg.symm
          · refine ⟨_, _, c_laws_eqAttrS p0.Attrs p1.Attrs, (FzAs.same _), ?_⟩
            refine litE (m := 3) rfl ?_
            refine And.intro (fun (h6 : (!(laws_eqAttrS p0.Attrs p1.Attrs)) = true) => ?_) (fun (h6 : (!(laws_eqAttrS p0.Attrs p1.Attrs)) = false) => ?_)
            · refine And.intro (fun _ => .v _) ?_
              have hg : laws_eqSpan p0 p1 = false := by
                first | rfl | (simp only [laws_eqSpan, h1, h2, h3, h4, h5, h6, cond_true, cond_false, Step.fin_stop, Step.fin_done, Fin.get_fin, Fin.get_done, Step.fin_next, Bool.not_true, Bool.not_false, Option.getD_some]) | (simp [laws_eqSpan, h1, h2, h3, h4, h5, h6, cond_true, cond_false, Step.fin_stop, Step.fin_done, Fin.get_fin, Fin.get_done, Step.fin_next, Bool.not_true, Bool.not_false, Option.getD_some])
              exact congrArg (fun g : Bool => AV.one (.v (.bool g))) hg.symm
            · refine And.intro (fun _ => .v _) ?_
              have hg : laws_eqSpan p0 p1 = true := by
                first | rfl | (simp only [laws_eqSpan, h1, h2, h3, h4, h5, h6, cond_true, cond_false, Step.fin_stop, Step.fin_done, Fin.get_fin, Fin.get_done, Step.fin_next, Bool.not_true, Bool.not_false, Option.getD_some]) | (simp [laws_eqSpan, h1, h2, h3, h4, h5, h6, cond_true, cond_false, Step.fin_stop, Step.fin_done, Fin.get_fin, Fin.get_done, Step.fin_next, Bool.not_true, Bool.not_false, Option.getD_some])
              exact congrArg (fun g : Bool => AV.one (.v (.bool g))) hg.symm
theorem rf_laws_eqSpan (x : Span) : laws_eqSpan x x = true := by
  simp [laws_eqSpan, rf_laws_eqAttr, rf_laws_eqAttrS]
def laws_eqItem (p0 : Item) (p1 : Item) : Bool :=
  (bif (p0.Stamp != p1.Stamp) then false else (bif (!(laws_eqSpan p0.S p1.S)) then false else true))
theorem c_laws_eqItem (p0 : Item) (p1 : Item) : FnOk prog 27 [.agg ((Item.cells false) p0), .agg ((Item.cells false) p1)] ⟨.one (.v (.bool (laws_eqItem p0 p1))), [], [], false⟩ := by
  refine FnOk.intro (E := env) envOk wide func27 rfl (by kernel_rfl) rfl rfl ?_
  refine litE (m := 0) rfl ?_
  refine litE (m := 1) rfl ?_
  refine And.intro (fun (h1 : (p0.Stamp != p1.Stamp) = true) => ?_) (fun (h1 : (p0.Stamp != p1.Stamp) = false) => ?_)
  · refine And.intro (fun _ => .v _) ?_
    have hg : laws_eqItem p0 p1 = false := by
      first | rfl | (simp only [laws_eqItem, h1, cond_true, cond_false, Step.fin_stop, Step.fin_done, Fin.get_fin, Fin.get_done, Step.fin_next, Bool.not_true, Bool.not_false, Option.getD_some]) | (simp [laws_eqItem, h1, cond_true, cond_false, Step.fin_stop, Step.fin_done, Fin.get_fin, Fin.get_done, Step.fin_next, Bool.not_true, Bool.not_false, Option.getD_some])
    exact congrArg (fun g : Bool => AV.one (.v (.bool g))) hg.symm
  · refine ⟨_, _, c_laws_eqSpan p0.S p1.S, (FzAs.same _), ?_⟩
    refine litE (m := 3) rfl ?_
    refine And.intro (fun (h2 : (!(laws_eqSpan p0.S p1.S)) = true) => ?_) (fun (h2 : (!(laws_eqSpan p0.S p1.S)) = false) => ?_)
    · refine And.intro (fun _ => .v _) ?_
      have hg : laws_eqItem p0 p1 = false := by
        first | rfl | (simp only [laws_eqItem, h1, h2, cond_true, cond_false, Step.fin_stop, Step.fin_done, Fin.get_fin, Fin.get_done, Step.fin_next, Bool.not_true, Bool.not_false, Option.getD_some]) | (simp [laws_eqItem, h1, h2, cond_true, cond_false, Step.fin_stop, Step.fin_done, Fin.get_fin, Fin.get_done, Step.fin_next, Bool.not_true, Bool.not_false, Option.getD_some])
      exact congrArg (fun g : Bool => AV.one (.v (.bool g))) hg.symm
    · refine And.intro (fun _ => .v _) ?_
      have hg : laws_eqItem p0 p1 = true := by
        first | rfl | (simp only [laws_eqItem, h1, h2, cond_true, cond_false, Step.fin_stop, Step.fin_done, Fin.get_fin, Fin.get_done, Step.fin_next, Bool.not_true, Bool.not_false, Option.getD_some]) | (simp [laws_eqItem, h1, h2, cond_true, cond_false, Step.fin_stop, Step.fin_done, Fin.get_fin, Fin.get_done, Step.fin_next, Bool.not_true, Bool.not_false, Option.getD_some])
      exact congrArg (fun g : Bool => AV.one (.v (.bool g))) hg.symm
theorem rf_laws_eqItem (x : Item) : laws_eqItem x x = true := by
  simp [laws_eqItem, rf_laws_eqAttr, rf_laws_eqAttrS, rf_laws_eqSpan]
def laws_eqItemS_b1 (p1 : (List Item)) (i1 : Nat) (s1 : Unit) (a1 : Item) : Step (Unit) Bool :=
  (bif (!(laws_eqItem a1 (p1[i1]?.getD default))) then (.done false) else (.next ()))
def laws_eqItemS (p0 : (List Item)) (p1 : (List Item)) : Bool :=
  (bif ((((p0).length : Nat) : Int) != (((p1).length : Nat) : Int)) then false else (Fin.get (fun s1 => true) (loopL (laws_eqItemS_b1 p1) 0 () p0)))
theorem c_laws_eqItemS (p0 : (List Item)) (p1 : (List Item)) : FnOk prog 20 [.one (.s false 7 (List.map (Item.cells false) p0)), .one (.s false 7 (List.map (Item.cells false) p1))] ⟨.one (.v (.bool (laws_eqItemS p0 p1))), [], [], false⟩ := by
  refine FnOk.intro (E := env) envOk wide func20 rfl (by kernel_rfl) rfl rfl ?_
  refine lenE (k := (p0).length) (by simp) (fun hN1 => ?_)
  refine lenE (k := (p1).length) (by simp) (fun hN2 => ?_)
  refine And.intro (fun (h3 : ((((p0).length : Nat) : Int) != (((p1).length : Nat) : Int)) = true) => ?_) (fun (h3 : ((((p0).length : Nat) : Int) != (((p1).length : Nat) : Int)) = false) => ?_)
  · refine And.intro (fun _ => .v _) ?_
    have hg : laws_eqItemS p0 p1 = false := by
      first | rfl | (simp only [laws_eqItemS, h3, cond_true, cond_false, Step.fin_stop, Step.fin_done, Fin.get_fin, Fin.get_done, Step.fin_next, Bool.not_true, Bool.not_false, Option.getD_some]) | (simp [laws_eqItemS, h3, cond_true, cond_false, Step.fin_stop, Step.fin_done, Fin.get_fin, Fin.get_done, Step.fin_next, Bool.not_true, Bool.not_false, Option.getD_some])
    exact congrArg (fun g : Bool => AV.one (.v (.bool g))) hg.symm
  · refine loop_rule (α := LstSt (laws_eqItemS_b1 p1) () p0) [0, 1] (fun x1 => [(5, .one (.v (.int .i64 ((x1.i : Nat) : Int))))]) (fun x1 => []) (fun x1 => (p0).length - x1.i) .init [] ?_ (fun x1 => ?_)
    · exact ⟨rfl, ⟨rfl, rfl, rfl, trivial⟩, trivial, trivial⟩
    · refine lenE (k := (p0).length) (by simp) (fun hN4 => ?_)
      refine And.intro (fun (h5 : (decide (((x1.i : Nat) : Int) < (((p0).length : Nat) : Int))) = true) => ?_) (fun (h5 : (decide (((x1.i : Nat) : Int) < (((p0).length : Nat) : Int))) = false) => ?_)
      · have hi1 : x1.i < (p0).length := by simpa using h5
        have hw1 : IntKind.i64.wrap ((x1.i : Int) + 1) = ((x1.i + 1 : Nat) : Int) := wrap_succ hi1 (by first | assumption | omega)
        refine .inl ⟨by kernel_rfl, ?_⟩
        refine And.intro (fun _ => by exact idx_at hi1) (rowAtE (i := x1.i) (l := p0) rfl hi1 ?_)
        refine And.intro (fun _ => by (first | omega | (simp; done) | (simp; omega) | (simp at *; omega) | (simp at *; done) | (simp_all; done) | (simp_all; omega))) (rowOfE (i := x1.i) (l := p1) rfl (fun e6 he6 => ?_))
        refine ⟨_, _, c_laws_eqItem (p0[x1.i]'hi1) e6, (FzAs.same _), ?_⟩
        refine And.intro (fun (h7 : (!(laws_eqItem (p0[x1.i]'hi1) e6)) = true) => ?_) (fun (h7 : (!(laws_eqItem (p0[x1.i]'hi1) e6)) = false) => ?_)
        · have hb1 := x1.out hi1 (by first | rfl | simp only [laws_eqItemS_b1, h3, h5, he6, h7, cond_true, cond_false, Bool.not_true, Bool.not_false, Option.getD_some, Step.isNext_stop, Step.isNext_done, Step.fin_stop, Step.fin_done, Fin.get_fin, Fin.get_done])
          refine And.intro (fun _ => .v _) ?_
          have hg : laws_eqItemS p0 p1 = false := by
            first | rfl | (simp only [laws_eqItemS, laws_eqItemS_b1, h3, h5, he6, h7, hb1, cond_true, cond_false, Step.fin_stop, Step.fin_done, Fin.get_fin, Fin.get_done, Step.fin_next, Bool.not_true, Bool.not_false, Option.getD_some]) | (simp [laws_eqItemS, laws_eqItemS_b1, h3, h5, he6, h7, hb1, cond_true, cond_false, Step.fin_stop, Step.fin_done, Fin.get_fin, Fin.get_done, Step.fin_next, Bool.not_true, Bool.not_false, Option.getD_some])
          exact congrArg (fun g : Bool => AV.one (.v (.bool g))) hg.symm
        · refine x1.go hi1 (v := ()) (by first | rfl | simp only [laws_eqItemS_b1, h3, h5, he6, h7, cond_true, cond_false, Bool.not_true, Bool.not_false, Option.getD_some, Step.fin_stop, Step.fin_done, Fin.get_fin, Fin.get_done]) [] (by show _ - (x1.i + 1) < _ - x1.i; omega) ?_
          exact ⟨rfl, ⟨(eqInt hw1), rfl, rfl, trivial⟩, trivial, trivial⟩
      · have hf1 := x1.fin (show ¬ x1.i < (p0).length by simpa using h5)
        refine And.intro (fun _ => .v _) ?_
        have hg : laws_eqItemS p0 p1 = true := by
          first | rfl | (simp only [laws_eqItemS, laws_eqItemS_b1, h3, h5, hf1, cond_true, cond_false, Step.fin_stop, Step.fin_done, Fin.get_fin, Fin.get_done, Step.fin_next, Bool.not_true, Bool.not_false, Option.getD_some]) | (simp [laws_eqItemS, laws_eqItemS_b1, h3, h5, hf1, cond_true, cond_false, Step.fin_stop, Step.fin_done, Fin.get_fin, Fin.get_done, Step.fin_next, Bool.not_true, Bool.not_false, Option.getD_some])
        exact congrArg (fun g : Bool => AV.one (.v (.bool g))) hg.symm
theorem rf_laws_eqItemS (x : (List Item)) : laws_eqItemS x x = true := eqS_ok (b := laws_eqItemS_b1) rf_laws_eqItem (fun _ _ _ _ => rfl) (fun _ _ => rfl) x
def laws_eqTask (p0 : Task) (p1 : Task) : Bool :=
  (bif (p0.Op != p1.Op) then false else (bif (p0.Pc != p1.Pc) then false else (bif (!(laws_eqSpan p0.S p1.S)) then false else (bif (p0.Trace != p1.Trace) then false else (bif (p0.Stamp != p1.Stamp) then false else (bif (!(laws_eqItemS p0.Hand p1.Hand)) then false else (bif (p0.H != p1.H) then false else true)))))))
theorem c_laws_eqTask (p0 : Task) (p1 : Task) : FnOk prog 12 [.agg ((Task.cells false) p0), .agg ((Task.cells false) p1)] ⟨.one (.v (.bool (laws_eqTask p0 p1))), [], [], false⟩ := by
  refine FnOk.intro (E := env) envOk wide func12 rfl (by kernel_rfl) rfl rfl ?_
  refine litE (m := 0) rfl ?_
  refine litE (m := 1) rfl ?_
  refine And.intro (fun (h1 : (p0.Op != p1.Op) = true) => ?_) (fun (h1 : (p0.Op != p1.Op) = false) => ?_)
  · refine And.intro (fun _ => .v _) ?_
    have hg : laws_eqTask p0 p1 = false := by
      first | rfl | (simp only [laws_eqTask, h1, cond_true, cond_false, Step.fin_stop, Step.fin_done, Fin.get_fin, Fin.get_done, Step.fin_next, Bool.not_true, Bool.not_false, Option.getD_some]) | (simp [laws_eqTask, h1, cond_true, cond_false, Step.fin_stop, Step.fin_done, Fin.get_fin, Fin.get_done, Step.fin_next, Bool.not_true, Bool.not_false, Option.getD_some])
    exact congrArg (fun g : Bool => AV.one (.v (.bool g))) hg.symm
  · refine And.intro (fun (h2 : (p0.Pc != p1.Pc) = true) => ?_) (fun (h2 : (p0.Pc != p1.Pc) = false) => ?_)
    · refine And.intro (fun _ => .v _) ?_
      have hg : laws_eqTask p0 p1 = false := by
        first | rfl | (simp only [laws_eqTask, h1, h2, cond_true, cond_false, Step.fin_stop, Step.fin_done, Fin.get_fin, Fin.get_done, Step.fin_next, Bool.not_true, Bool.not_false, Option.getD_some]) | (simp [laws_eqTask, h1, h2, cond_true, cond_false, Step.fin_stop, Step.fin_done, Fin.get_fin, Fin.get_done, Step.fin_next, Bool.not_true, Bool.not_false, Option.getD_some])
      exact congrArg (fun g : Bool => AV.one (.v (.bool g))) hg.symm
    · refine ⟨_, _, c_laws_eqSpan p0.S p1.S, (FzAs.same _), ?_⟩
      refine litE (m := 3) rfl ?_
      refine And.intro (fun (h3 : (!(laws_eqSpan p0.S p1.S)) = true) => ?_) (fun (h3 : (!(laws_eqSpan p0.S p1.S)) = false) => ?_)
      · refine And.intro (fun _ => .v _) ?_
        have hg : laws_eqTask p0 p1 = false := by
          first | rfl | (simp only [laws_eqTask, h1, h2, h3, cond_true, cond_false, Step.fin_stop, Step.fin_done, Fin.get_fin, Fin.get_done, Step.fin_next, Bool.not_true, Bool.not_false, Option.getD_some]) | (simp [laws_eqTask, h1, h2, h3, cond_true, cond_false, Step.fin_stop, Step.fin_done, Fin.get_fin, Fin.get_done, Step.fin_next, Bool.not_true, Bool.not_false, Option.getD_some])
        exact congrArg (fun g : Bool => AV.one (.v (.bool g))) hg.symm
      · refine And.intro (fun (h4 : (p0.Trace != p1.Trace) = true) => ?_) (fun (h4 : (p0.Trace != p1.Trace) = false) => ?_)
        · refine And.intro (fun _ => .v _) ?_
          have hg : laws_eqTask p0 p1 = false := by
            first | rfl | (simp only [laws_eqTask, h1, h2, h3, h4, cond_true, cond_false, Step.fin_stop, Step.fin_done, Fin.get_fin, Fin.get_done, Step.fin_next, Bool.not_true, Bool.not_false, Option.getD_some]) | (simp [laws_eqTask, h1, h2, h3, h4, cond_true, cond_false, Step.fin_stop, Step.fin_done, Fin.get_fin, Fin.get_done, Step.fin_next, Bool.not_true, Bool.not_false, Option.getD_some])
          exact congrArg (fun g : Bool => AV.one (.v (.bool g))) hg.symm
        · refine And.intro (fun (h5 : (p0.Stamp != p1.Stamp) = true) => ?_) (fun (h5 : (p0.Stamp != p1.Stamp) = false) => ?_)
          · refine And.intro (fun _ => .v _) ?_
            have hg : laws_eqTask p0 p1 = false := by
              first | rfl | (simp only [laws_eqTask, h1, h2, h3, h4, h5, cond_true, cond_false, Step.fin_stop, Step.fin_done, Fin.get_fin, Fin.get_done, Step.fin_next, Bool.not_true, Bool.not_false, Option.getD_some]) | (simp [laws_eqTask, h1, h2, h3, h4, h5, cond_true, cond_false, Step.fin_stop, Step.fin_done, Fin.get_fin, Fin.get_done, Step.fin_next, Bool.not_true, Bool.not_false, Option.getD_some])
            exact congrArg (fun g : Bool => AV.one (.v (.bool g))) hg.symm
          · refine ⟨_, _, c_laws_eqItemS p0.Hand p1.Hand, (FzAs.same _), ?_⟩
            refine litE (m := 4) rfl ?_
            refine And.intro (fun (h6 : (!(laws_eqItemS p0.Hand p1.Hand)) = true) => ?_) (fun (h6 : (!(laws_eqItemS p0.Hand p1.Hand)) = false) => ?_)
            · refine And.intro (fun _ => .v _) ?_
              have hg : laws_eqTask p0 p1 = false := by
                first | rfl | (simp only [laws_eqTask, h1, h2, h3, h4, h5, h6, cond_true, cond_false, Step.fin_stop, Step.fin_done, Fin.get_fin, Fin.get_done, Step.fin_next, Bool.not_true, Bool.not_false, Option.getD_some]) | (simp [laws_eqTask, h1, h2, h3, h4, h5, h6, cond_true, cond_false, Step.fin_stop, Step.fin_done, Fin.get_fin, Fin.get_done, Step.fin_next, Bool.not_true, Bool.not_false, Option.getD_some])
              exact congrArg (fun g : Bool => AV.one (.v (.bool g))) hg.symm
            · refine And.intro (fun (h7 : (p0.H != p1.H) = true) => ?_) (fun (h7 : (p0.H != p1.H) = false) => ?_)
              · refine And.intro (fun _ => .v _) ?_
                have hg : laws_eqTask p0 p1 = false := by
                  first | rfl | (simp only [laws_eqTask, h1, h2, h3, h4, h5, h6, h7, cond_true, cond_false, Step.fin_stop, Step.fin_done, Fin.get_fin, Fin.get_done, Step.fin_next, Bool.not_true, Bool.not_false, Option.getD_some]) | (simp [laws_eqTask, h1, h2, h3, h4, h5, h6, h7, cond_true, cond_false, Step.fin_stop, Step.fin_done, Fin.get_fin, Fin.get_done, Step.fin_next, Bool.not_true, Bool.not_false, Option.getD_some])
                exact congrArg (fun g : Bool => AV.one (.v (.bool g))) hg.symm
              · refine And.intro (fun _ => .v _) ?_
                have hg : laws_eqTask p0 p1 = true := by
                  first | rfl | (simp only [laws_eqTask, h1, h2, h3, h4, h5, h6, h7, cond_true, cond_false, Step.fin_stop, Step.fin_done, Fin.get_fin, Fin.get_done, Step.fin_next, Bool.not_true, Bool.not_false, Option.getD_some]) | (simp [laws_eqTask, h1, h2, h3, h4, h5, h6, h7, cond_true, cond_false, Step.fin_stop, Step.fin_done, Fin.get_fin, Fin.get_done, Step.fin_next, Bool.not_true, Bool.not_false, Option.getD_some])
                exact congrArg (fun g : Bool => AV.one (.v (.bool g))) hg.symm
theorem rf_laws_eqTask (x : Task) : laws_eqTask x x = true := by
  simp [laws_eqTask, rf_laws_eqAttr, rf_laws_eqAttrS, rf_laws_eqSpan, rf_laws_eqItem, rf_laws_eqItemS]
def laws_FnExactTaskText (p0 : Task) : Bool :=
  (bif (decide ((laws_szTask p0 1048576) < 0)) then true else (bif (!decide ((impl_TaskText (laws_toTask p0)) = (spec_TaskText (laws_toTask p0)))) then false else (bif (!(laws_eqTask (laws_toTask p0) (laws_toTask p0))) then false else true)))
theorem c_laws_FnExactTaskText (p0 : Task) (hw0 : Task.bd 9223372036854775807 p0) : FnOk prog 4 [.agg ((Task.cells false) p0)] ⟨.one (.v (.bool (laws_FnExactTaskText p0))), [], [], false⟩ := by
  refine FnOk.intro (E := env) envOk wide func4 rfl (by kernel_rfl) rfl rfl ?_
  refine litE (m := 0) rfl ?_
  refine ⟨_, _, c_laws_szTask p0 1048576, (FzAs.same _), ?_⟩
  refine litE (m := 2) rfl ?_
  refine And.intro (fun (h1 : (decide ((laws_szTask p0 1048576) < 0)) = true) => ?_) (fun (h1 : (decide ((laws_szTask p0 1048576) < 0)) = false) => ?_)
  · refine And.intro (fun _ => .v _) ?_
    have hg : laws_FnExactTaskText p0 = true := by
      first | rfl | (simp only [laws_FnExactTaskText, h1, cond_true, cond_false, Step.fin_stop, Step.fin_done, Fin.get_fin, Fin.get_done, Step.fin_next, Bool.not_true, Bool.not_false, Option.getD_some]) | (simp [laws_FnExactTaskText, h1, cond_true, cond_false, Step.fin_stop, Step.fin_done, Fin.get_fin, Fin.get_done, Step.fin_next, Bool.not_true, Bool.not_false, Option.getD_some])
    exact congrArg (fun g : Bool => AV.one (.v (.bool g))) hg.symm
  · have hz1 := szd_laws_szTask p0 1048576 (by assumption) (by decide) (by decide) (by simpa using h1)
    have hs1 := hz1.1
    have hl1 : (laws_szTask p0 1048576) ≤ 1048576 := Int.le_trans hz1.2 (by decide)
    refine ⟨_, _, c_laws_toTask p0 (by assumption), (FzAs.same _), ?_⟩
    refine litE (m := 3) rfl ?_
    refine ⟨_, _, c_spec_TaskText (laws_toTask p0), (.cons (.agg (.cons (.same _) (.cons (.same _) (.cons (.same _) (.cons (.same _) (.cons (.same _) (.cons (.same _) (.cons (.same _) (.cons (.same _) (.cons (.same _) (.cons (.same _) (.cons (.sl _ _ _ _ (frzMap frz_Item _)) (.cons (.same _) .nil))))))))))))) (.same _)), ?_⟩
    refine litE (m := 6) rfl ?_
    refine ⟨_, _, c_laws_toTask p0 (by assumption), (FzAs.same _), ?_⟩
    refine litE (m := 7) rfl ?_
    refine litE (m := 9) rfl ?_
    refine ⟨_, _, c_impl_TaskText (laws_toTask p0), (.cons (.agg (.cons (.same _) (.cons (.same _) (.cons (.same _) (.cons (.same _) (.cons (.same _) (.cons (.same _) (.cons (.same _) (.cons (.same _) (.cons (.same _) (.cons (.same _) (.cons (.sl _ _ _ _ (frzMap frz_Item _)) (.cons (.same _) .nil))))))))))))) (.same _)), ?_⟩
    refine litE (m := 11) rfl ?_
    refine And.intro (fun (h2 : (!decide ((impl_TaskText (laws_toTask p0)) = (spec_TaskText (laws_toTask p0)))) = true) => ?_) (fun (h2 : (!decide ((impl_TaskText (laws_toTask p0)) = (spec_TaskText (laws_toTask p0)))) = false) => ?_)
    · refine And.intro (fun _ => .v _) ?_
      have hg : laws_FnExactTaskText p0 = false := by
        first | rfl | (simp only [laws_FnExactTaskText, h1, h2, cond_true, cond_false, Step.fin_stop, Step.fin_done, Fin.get_fin, Fin.get_done, Step.fin_next, Bool.not_true, Bool.not_false, Option.getD_some]) | (simp [laws_FnExactTaskText, h1, h2, cond_true, cond_false, Step.fin_stop, Step.fin_done, Fin.get_fin, Fin.get_done, Step.fin_next, Bool.not_true, Bool.not_false, Option.getD_some])
      exact congrArg (fun g : Bool => AV.one (.v (.bool g))) hg.symm
    · refine .inr ⟨[0, 1, 2, 3, 4], by kernel_rfl, ?_⟩
      refine ⟨_, _, c_laws_toTask p0 (by assumption), (FzAs.same _), ?_⟩
      refine litE (m := 12) rfl ?_
      refine ⟨_, _, c_laws_eqTask (laws_toTask p0) (laws_toTask p0), (.cons (.agg (.cons (.same _) (.cons (.same _) (.cons (.same _) (.cons (.same _) (.cons (.same _) (.cons (.same _) (.cons (.same _) (.cons (.same _) (.cons (.same _) (.cons (.same _) (.cons (.sl _ _ _ _ (frzMap frz_Item _)) (.cons (.same _) .nil))))))))))))) (.cons (.agg (.cons (.same _) (.cons (.same _) (.cons (.same _) (.cons (.same _) (.cons (.same _) (.cons (.same _) (.cons (.same _) (.cons (.same _) (.cons (.same _) (.cons (.same _) (.cons (.sl _ _ _ _ (frzMap frz_Item _)) (.cons (.same _) .nil))))))))))))) (.same _))), ?_⟩
      refine litE (m := 15) rfl ?_
      refine And.intro (fun (h3 : (!(laws_eqTask (laws_toTask p0) (laws_toTask p0))) = true) => ?_) (fun (h3 : (!(laws_eqTask (laws_toTask p0) (laws_toTask p0))) = false) => ?_)
      · refine And.intro (fun _ => .v _) ?_
        have hg : laws_FnExactTaskText p0 = false := by
          first | rfl | (simp only [laws_FnExactTaskText, h1, h2, h3, cond_true, cond_false, Step.fin_stop, Step.fin_done, Fin.get_fin, Fin.get_done, Step.fin_next, Bool.not_true, Bool.not_false, Option.getD_some]) | (simp [laws_FnExactTaskText, h1, h2, h3, cond_true, cond_false, Step.fin_stop, Step.fin_done, Fin.get_fin, Fin.get_done, Step.fin_next, Bool.not_true, Bool.not_false, Option.getD_some])
        exact congrArg (fun g : Bool => AV.one (.v (.bool g))) hg.symm
      · refine And.intro (fun _ => .v _) ?_
        have hg : laws_FnExactTaskText p0 = true := by
          first | rfl | (simp only [laws_FnExactTaskText, h1, h2, h3, cond_true, cond_false, Step.fin_stop, Step.fin_done, Fin.get_fin, Fin.get_done, Step.fin_next, Bool.not_true, Bool.not_false, Option.getD_some]) | (simp [laws_FnExactTaskText, h1, h2, h3, cond_true, cond_false, Step.fin_stop, Step.fin_done, Fin.get_fin, Fin.get_done, Step.fin_next, Bool.not_true, Bool.not_false, Option.getD_some])
        exact congrArg (fun g : Bool => AV.one (.v (.bool g))) hg.symm
theorem law_TaskText (p0 : Task) (hr : Task.rg p0) : laws_FnExactTaskText p0 = true := by
  have e : impl_TaskText p0 = spec_TaskText p0 := by
    unfold impl_TaskText spec_TaskText
    rw [main_NumText hr.Pc]
    rfl
  unfold laws_FnExactTaskText
  cases decide (laws_szTask p0 1048576 < 0) with
  | true => rfl
  | false => simp only [cond_false, id_laws_toTask, e, rf_laws_eqTask, decide_true, Bool.not_true]
theorem rows_sl {α : Type} (f : α → List T) (W : α → Prop) : ∀ rows : List (List T), (∀ r ∈ rows, ∃ x, r = f x ∧ W x) → ∃ l : List α, rows = l.map f ∧ ∀ x ∈ l, W x
  | [], _ => ⟨[], rfl, by simp⟩
  | r :: rows, h => by
    obtain ⟨x, hx, hw⟩ := h r (by simp)
    obtain ⟨l, hl, hw'⟩ := rows_sl f W rows (fun r hr => h r (by simp [hr]))
    exact ⟨x :: l, by simp [hx, hl], fun y hy => by rcases List.mem_cons.1 hy with rfl | hy; exact hw; exact hw' y hy⟩
theorem shape_sl {α : Type} (f : α → List T) {P : Nat → α → Prop} (W : α → Prop) (hW : W = P 9223372036854775807) {n t e k : Nat} (ht : prog.underlying t = some (.slice e)) (hk : prog.cellsOf e = k) {y : List T} (h : Shape prog (n + 1) t y) (hr : ∀ r, Shape prog n e r → ∃ x, r = f x ∧ W x) :
    ∃ l : List α, y = [.s false k (l.map f)] ∧ bdS P 9223372036854775807 l := by
  subst hW
  unfold Shape at h
  rw [ht] at h
  obtain ⟨rows, h1, h2, h3⟩ := h
  rw [hk] at h1
  obtain ⟨l, rfl, hw⟩ := rows_sl f _ rows (fun r hr' => hr r (h3 r hr').2)
  exact ⟨l, h1, by simpa [maxLen] using h2, hw⟩
theorem shape3 {n : Nat} {l : List T} (h : Shape prog (n + 1) 3 l) : ∃ x : Int, l = [.v (.int .i64 x)] ∧ True := by
  simp only [Shape, underlying3] at h
  obtain ⟨x, hx, _⟩ := h
  exact ⟨x, hx, trivial⟩
theorem arg3 {y : T} (h : Shape prog 20 3 [y]) : ∃ x : Int, y = .v (.int .i64 x) ∧ True := by
  obtain ⟨x, hx, hw⟩ := shape3 (n := 19) h
  exact ⟨x, by simpa using hx, hw⟩
theorem shape4 {n : Nat} {l : List T} (h : Shape prog (n + 1) 4 l) : ∃ x : Bool, l = [.v (.bool x)] ∧ True := by
  simp only [Shape, underlying4] at h
  obtain ⟨x, hx⟩ := h
  exact ⟨x, hx, trivial⟩
theorem arg4 {y : T} (h : Shape prog 20 4 [y]) : ∃ x : Bool, y = .v (.bool x) ∧ True := by
  obtain ⟨x, hx, hw⟩ := shape4 (n := 19) h
  exact ⟨x, by simpa using hx, hw⟩
theorem shape9 {n : Nat} {l : List T} (h : Shape prog (n + 1) 9 l) : ∃ x : ByteArray, l = [.v (.string x)] ∧ (x).size ≤ 9223372036854775807 := by
  simp only [Shape, underlying9] at h
  obtain ⟨x, hx, hw⟩ := h
  exact ⟨x, hx, by simpa [maxLen] using hw⟩
theorem arg9 {y : T} (h : Shape prog 20 9 [y]) : ∃ x : ByteArray, y = .v (.string x) ∧ (x).size ≤ 9223372036854775807 := by
  obtain ⟨x, hx, hw⟩ := shape9 (n := 19) h
  exact ⟨x, by simpa using hx, hw⟩
theorem shape65 {n : Nat} {l : List T} (h : Shape prog (n + 2) 65 l) : ∃ x : Attr, l = Attr.cells x ∧ Attr.bd 9223372036854775807 x := by
  unfold Shape at h
  rw [underlying65] at h
  simp only [ShapeL] at h
  obtain ⟨_, _, rfl, h0, _, _, rfl, h1, _, _, rfl, h2, _, _, rfl, h3, rfl⟩ := h
  obtain ⟨x0, rfl, w0⟩ := shape9 h0
  obtain ⟨x1, rfl, w1⟩ := shape4 h1
  obtain ⟨x2, rfl, w2⟩ := shape3 h2
  obtain ⟨x3, rfl, w3⟩ := shape9 h3
  exact ⟨⟨x0, x1, x2, x3⟩, rfl, ⟨w0, w3⟩⟩
theorem arg65 {l : List T} (h : Shape prog 20 65 l) : ∃ x : Attr, l = Attr.cells x ∧ Attr.bd 9223372036854775807 x := shape65 (n := 18) h
theorem shape28 {n : Nat} {l : List T} (h : Shape prog (n + 3) 28 l) : ∃ x : (List Attr), l = [.s false 4 (List.map Attr.cells x)] ∧ bdS Attr.bd 9223372036854775807 x := by
  exact shape_sl Attr.cells (P := Attr.bd) _ rfl underlying28 (by kernel_rfl) h (fun r hr => shape65 hr)
theorem arg28 {y : T} (h : Shape prog 20 28 [y]) : ∃ x : (List Attr), y = .s false 4 (List.map Attr.cells x) ∧ bdS Attr.bd 9223372036854775807 x := by
  obtain ⟨x, hx, hw⟩ := shape28 (n := 17) h
  exact ⟨x, by simpa using hx, hw⟩
theorem shape30 {n : Nat} {l : List T} (h : Shape prog (n + 4) 30 l) : ∃ x : Span, l = (Span.cells false) x ∧ Span.bd 9223372036854775807 x := by
  unfold Shape at h
  rw [underlying30] at h
  simp only [ShapeL] at h
  obtain ⟨_, _, rfl, h0, _, _, rfl, h1, _, _, rfl, h2, _, _, rfl, h3, _, _, rfl, h4, _, _, rfl, h5, rfl⟩ := h
  obtain ⟨x0, rfl, w0⟩ := shape3 h0
  obtain ⟨x1, rfl, w1⟩ := shape3 h1
  obtain ⟨x2, rfl, w2⟩ := shape3 h2
  obtain ⟨x3, rfl, w3⟩ := shape3 h3
  obtain ⟨x4, rfl, w4⟩ := shape4 h4
  obtain ⟨x5, rfl, w5⟩ := shape28 h5
  exact ⟨⟨x0, x1, x2, x3, x4, x5⟩, rfl, w5⟩
theorem arg30 {l : List T} (h : Shape prog 20 30 l) : ∃ x : Span, l = (Span.cells false) x ∧ Span.bd 9223372036854775807 x := shape30 (n := 16) h
theorem shape56 {n : Nat} {l : List T} (h : Shape prog (n + 5) 56 l) : ∃ x : Item, l = (Item.cells false) x ∧ Item.bd 9223372036854775807 x := by
  unfold Shape at h
  rw [underlying56] at h
  simp only [ShapeL] at h
  obtain ⟨_, _, rfl, h0, _, _, rfl, h1, rfl⟩ := h
  obtain ⟨x0, rfl, w0⟩ := shape3 h0
  obtain ⟨x1, rfl, w1⟩ := shape30 h1
  exact ⟨⟨x0, x1⟩, rfl, w1⟩
theorem arg56 {l : List T} (h : Shape prog 20 56 l) : ∃ x : Item, l = (Item.cells false) x ∧ Item.bd 9223372036854775807 x := shape56 (n := 15) h
theorem shape31 {n : Nat} {l : List T} (h : Shape prog (n + 6) 31 l) : ∃ x : (List Item), l = [.s false 7 (List.map (Item.cells false) x)] ∧ bdS Item.bd 9223372036854775807 x := by
  exact shape_sl (Item.cells false) (P := Item.bd) _ rfl underlying31 (by kernel_rfl) h (fun r hr => shape56 hr)
theorem arg31 {y : T} (h : Shape prog 20 31 [y]) : ∃ x : (List Item), y = .s false 7 (List.map (Item.cells false) x) ∧ bdS Item.bd 9223372036854775807 x := by
  obtain ⟨x, hx, hw⟩ := shape31 (n := 14) h
  exact ⟨x, by simpa using hx, hw⟩
theorem shape33 {n : Nat} {l : List T} (h : Shape prog (n + 7) 33 l) : ∃ x : Task, l = (Task.cells false) x ∧ Task.bd 9223372036854775807 x := by
  unfold Shape at h
  rw [underlying33] at h
  simp only [ShapeL] at h
  obtain ⟨_, _, rfl, h0, _, _, rfl, h1, _, _, rfl, h2, _, _, rfl, h3, _, _, rfl, h4, _, _, rfl, h5, _, _, rfl, h6, rfl⟩ := h
  obtain ⟨x0, rfl, w0⟩ := shape3 h0
  obtain ⟨x1, rfl, w1⟩ := shape3 h1
  obtain ⟨x2, rfl, w2⟩ := shape30 h2
  obtain ⟨x3, rfl, w3⟩ := shape3 h3
  obtain ⟨x4, rfl, w4⟩ := shape3 h4
  obtain ⟨x5, rfl, w5⟩ := shape31 h5
  obtain ⟨x6, rfl, w6⟩ := shape3 h6
  exact ⟨⟨x0, x1, x2, x3, x4, x5, x6⟩, rfl, ⟨w2, w5⟩⟩
theorem arg33 {l : List T} (h : Shape prog 20 33 l) : ∃ x : Task, l = (Task.cells false) x ∧ Task.bd 9223372036854775807 x := shape33 (n := 13) h
theorem law_c (p0 : Task) (h0 : Task.bd 9223372036854775807 p0) : FnOk prog 4 [.agg ((Task.cells false) p0)] ⟨.one (.v (.bool true)), [], [], false⟩ :=
  FnOk.fits ⟨_, func4, by kernel_rfl, by kernel_rfl⟩ (fun hf => by
    have h := c_laws_FnExactTaskText p0 h0
    rw [law_TaskText p0 (rg_Task hf.1)] at h
    exact h)
end Go.Proofs.Tryd.Ev
