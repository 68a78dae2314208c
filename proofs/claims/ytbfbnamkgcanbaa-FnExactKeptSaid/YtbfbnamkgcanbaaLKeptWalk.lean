import Derived.Test.YtbfbnamkgcanbaaLTabs
import Derived.Test.YtbfbnamkgcanbaaEvX
set_option linter.unusedSectionVars false
namespace Go.Proofs.Try.Ev
open Go Go.Ev Go.Proofs
set_option maxHeartbeats 4000000
set_option maxRecDepth 100000
set_option linter.unusedSimpArgs false
set_option linter.unusedVariables false
structure Attr where
  Key : ByteArray
  Num : Bool
  N : Int
  Text : ByteArray
deriving DecidableEq, Inhabited
def Attr.cells (x : Attr) : List T := [.v (.string x.Key), .v (.bool x.Num), .v (.int .i64 x.N), .v (.string x.Text)]
theorem own_Attr (x : Attr) : OwnL (Attr.cells x) := ⟨.v _, .v _, .v _, .v _, trivial⟩
theorem frz_Attr (x : Attr) : frzL (Attr.cells x) = Attr.cells x := rfl
theorem fz_Attr (x : Attr) : (Attr.cells x).map T.fz = Attr.cells x := rfl
theorem fl_Attr (x : Attr) : (Attr.cells x).map T.flat = Attr.cells x := rfl
def Attr.bd (M : Nat) (x : Attr) : Prop := x.Key.size ≤ M ∧ x.Text.size ≤ M
structure Span where
  Trace : Int
  Id : Int
  Start : Int
  End : Int
  Err : Bool
  Attrs : (List Attr)
deriving DecidableEq, Inhabited
def Span.cells (o : Bool) (x : Span) : List T := [.v (.int .i64 x.Trace), .v (.int .i64 x.Id), .v (.int .i64 x.Start), .v (.int .i64 x.End), .v (.bool x.Err), .s o 4 (List.map Attr.cells x.Attrs)]
theorem own_Span (x : Span) : OwnL (Span.cells true x) := ⟨.v _, .v _, .v _, .v _, .v _, ownSl own_Attr _, trivial⟩
theorem frz_Span {o : Bool} (x : Span) : frzL (Span.cells o x) = Span.cells false x := by
  show [T.v (.int .i64 x.Trace), T.v (.int .i64 x.Id), T.v (.int .i64 x.Start), T.v (.int .i64 x.End), T.v (.bool x.Err), T.s false 4 (frzLL (List.map Attr.cells x.Attrs))] = _
  rw [frzMap (f := Attr.cells) (g := Attr.cells) frz_Attr x.Attrs]
  rfl
theorem fz_Span {o : Bool} (x : Span) : (Span.cells o x).map T.fz = Span.cells false x := by
  show [T.v (.int .i64 x.Trace), T.v (.int .i64 x.Id), T.v (.int .i64 x.Start), T.v (.int .i64 x.End), T.v (.bool x.Err), T.s false 4 (frzLL (List.map Attr.cells x.Attrs))] = _
  rw [frzMap (f := Attr.cells) (g := Attr.cells) frz_Attr x.Attrs]
  rfl
def Span.bd (M : Nat) (x : Span) : Prop := bdS Attr.bd M x.Attrs
structure Deed where
  Op : Int
  Task : Int
  S : Span
  Trace : Int
  Stamp : Int
  Code : Int
  Keep : Bool
  Void : Bool
  Took : Int
  N : Int
  Forgot : Int
  Now : Int
  Inv : Int
  Lin : Int
  Res : Int
deriving DecidableEq, Inhabited
def Deed.cells (o : Bool) (x : Deed) : List T := [.v (.int .i64 x.Op), .v (.int .i64 x.Task), .v (.int .i64 x.S.Trace), .v (.int .i64 x.S.Id), .v (.int .i64 x.S.Start), .v (.int .i64 x.S.End), .v (.bool x.S.Err), .s o 4 (List.map Attr.cells x.S.Attrs), .v (.int .i64 x.Trace), .v (.int .i64 x.Stamp), .v (.int .i64 x.Code), .v (.bool x.Keep), .v (.bool x.Void), .v (.int .i64 x.Took), .v (.int .i64 x.N), .v (.int .i64 x.Forgot), .v (.int .i64 x.Now), .v (.int .i64 x.Inv), .v (.int .i64 x.Lin), .v (.int .i64 x.Res)]
theorem own_Deed (x : Deed) : OwnL (Deed.cells true x) := ⟨.v _, .v _, .v _, .v _, .v _, .v _, .v _, ownSl own_Attr _, .v _, .v _, .v _, .v _, .v _, .v _, .v _, .v _, .v _, .v _, .v _, .v _, trivial⟩
theorem frz_Deed {o : Bool} (x : Deed) : frzL (Deed.cells o x) = Deed.cells false x := by
  show [T.v (.int .i64 x.Op), T.v (.int .i64 x.Task), T.v (.int .i64 x.S.Trace), T.v (.int .i64 x.S.Id), T.v (.int .i64 x.S.Start), T.v (.int .i64 x.S.End), T.v (.bool x.S.Err), T.s false 4 (frzLL (List.map Attr.cells x.S.Attrs)), T.v (.int .i64 x.Trace), T.v (.int .i64 x.Stamp), T.v (.int .i64 x.Code), T.v (.bool x.Keep), T.v (.bool x.Void), T.v (.int .i64 x.Took), T.v (.int .i64 x.N), T.v (.int .i64 x.Forgot), T.v (.int .i64 x.Now), T.v (.int .i64 x.Inv), T.v (.int .i64 x.Lin), T.v (.int .i64 x.Res)] = _
  rw [frzMap (f := Attr.cells) (g := Attr.cells) frz_Attr x.S.Attrs]
  rfl
theorem fz_Deed {o : Bool} (x : Deed) : (Deed.cells o x).map T.fz = Deed.cells false x := by
  show [T.v (.int .i64 x.Op), T.v (.int .i64 x.Task), T.v (.int .i64 x.S.Trace), T.v (.int .i64 x.S.Id), T.v (.int .i64 x.S.Start), T.v (.int .i64 x.S.End), T.v (.bool x.S.Err), T.s false 4 (frzLL (List.map Attr.cells x.S.Attrs)), T.v (.int .i64 x.Trace), T.v (.int .i64 x.Stamp), T.v (.int .i64 x.Code), T.v (.bool x.Keep), T.v (.bool x.Void), T.v (.int .i64 x.Took), T.v (.int .i64 x.N), T.v (.int .i64 x.Forgot), T.v (.int .i64 x.Now), T.v (.int .i64 x.Inv), T.v (.int .i64 x.Lin), T.v (.int .i64 x.Res)] = _
  rw [frzMap (f := Attr.cells) (g := Attr.cells) frz_Attr x.S.Attrs]
  rfl
def Deed.bd (M : Nat) (x : Deed) : Prop := Span.bd M x.S
def laws_szAttr (p0 : Attr) (p1 : Int) : Int :=
  (bif (decide ((IntKind.i64.wrap (p1 - (((p0.Key).size : Nat) : Int))) < 0)) then (-1) else (bif (decide ((IntKind.i64.wrap ((IntKind.i64.wrap (p1 - (((p0.Key).size : Nat) : Int))) - (((p0.Text).size : Nat) : Int))) < 0)) then (-1) else (IntKind.i64.wrap ((IntKind.i64.wrap (p1 - (((p0.Key).size : Nat) : Int))) - (((p0.Text).size : Nat) : Int)))))
theorem c_laws_szAttr (p0 : Attr) (p1 : Int) : FnOk prog 79 [.agg (Attr.cells p0), .one (.v (.int .i64 p1))] ⟨.one (.v (.int .i64 (laws_szAttr p0 p1))), [], [], false⟩ := by
  refine FnOk.intro (E := env) envOk wide func79 rfl (by kernel_rfl) rfl rfl ?_
  refine litE (m := 0) rfl ?_
  refine fun hN => ?_
  have hN1 : (_ : Nat) ≤ 9223372036854775807 := hN rfl
  refine And.intro (fun (h2 : (decide ((IntKind.i64.wrap (p1 - (((p0.Key).size : Nat) : Int))) < 0)) = true) => ?_) (fun (h2 : (decide ((IntKind.i64.wrap (p1 - (((p0.Key).size : Nat) : Int))) < 0)) = false) => ?_)
  · refine And.intro (fun _ => .v _) ?_
    have hg : laws_szAttr p0 p1 = (-1) := by
      first | rfl | (simp only [laws_szAttr, h2, cond_true, cond_false, Step.fin_stop, Step.fin_done, Fin.get_fin, Fin.get_done, Step.fin_next, Bool.not_true, Bool.not_false, Option.getD_some]) | (simp [laws_szAttr, h2, cond_true, cond_false, Step.fin_stop, Step.fin_done, Fin.get_fin, Fin.get_done, Step.fin_next, Bool.not_true, Bool.not_false, Option.getD_some])
    exact congrArg (fun g : Int => AV.one (.v (.int .i64 g))) hg.symm
  · refine fun hN => ?_
    have hN3 : (_ : Nat) ≤ 9223372036854775807 := hN rfl
    refine And.intro (fun (h4 : (decide ((IntKind.i64.wrap ((IntKind.i64.wrap (p1 - (((p0.Key).size : Nat) : Int))) - (((p0.Text).size : Nat) : Int))) < 0)) = true) => ?_) (fun (h4 : (decide ((IntKind.i64.wrap ((IntKind.i64.wrap (p1 - (((p0.Key).size : Nat) : Int))) - (((p0.Text).size : Nat) : Int))) < 0)) = false) => ?_)
    · refine And.intro (fun _ => .v _) ?_
      have hg : laws_szAttr p0 p1 = (-1) := by
        first | rfl | (simp only [laws_szAttr, h2, h4, cond_true, cond_false, Step.fin_stop, Step.fin_done, Fin.get_fin, Fin.get_done, Step.fin_next, Bool.not_true, Bool.not_false, Option.getD_some]) | (simp [laws_szAttr, h2, h4, cond_true, cond_false, Step.fin_stop, Step.fin_done, Fin.get_fin, Fin.get_done, Step.fin_next, Bool.not_true, Bool.not_false, Option.getD_some])
      exact congrArg (fun g : Int => AV.one (.v (.int .i64 g))) hg.symm
    · refine And.intro (fun _ => .v _) ?_
      have hg : laws_szAttr p0 p1 = (IntKind.i64.wrap ((IntKind.i64.wrap (p1 - (((p0.Key).size : Nat) : Int))) - (((p0.Text).size : Nat) : Int))) := by
        first | rfl | (simp only [laws_szAttr, h2, h4, cond_true, cond_false, Step.fin_stop, Step.fin_done, Fin.get_fin, Fin.get_done, Step.fin_next, Bool.not_true, Bool.not_false, Option.getD_some]) | (simp [laws_szAttr, h2, h4, cond_true, cond_false, Step.fin_stop, Step.fin_done, Fin.get_fin, Fin.get_done, Step.fin_next, Bool.not_true, Bool.not_false, Option.getD_some])
      exact congrArg (fun g : Int => AV.one (.v (.int .i64 g))) hg.symm
theorem szd_laws_szAttr : Szd Attr.bd laws_szAttr := by
  intro x left hb h0 h1 h2
  unfold laws_szAttr at h2 ⊢
  unfold Attr.bd at hb ⊢
  cases c0 : decide ((IntKind.i64.wrap (left - (((x.Key).size : Nat) : Int))) < 0) with
  | true => simp [c0] at h2
  | false =>
  have p0 : 0 ≤ (IntKind.i64.wrap (left - (((x.Key).size : Nat) : Int))) := by simpa using c0
  have w0 : (IntKind.i64.wrap (left - (((x.Key).size : Nat) : Int))) = left - (((x.Key).size : Nat) : Int) := by have := hb.1; rw [wrap_small] <;> omega
  have b0 : (x.Key).size ≤ 1048576 := by omega
  have u0 : (IntKind.i64.wrap (left - (((x.Key).size : Nat) : Int))) ≤ left := by omega
  have v0 : (IntKind.i64.wrap (left - (((x.Key).size : Nat) : Int))) ≤ 1048576 := by omega
  cases c1 : decide ((IntKind.i64.wrap ((IntKind.i64.wrap (left - (((x.Key).size : Nat) : Int))) - (((x.Text).size : Nat) : Int))) < 0) with
  | true => simp [c0, c1] at h2
  | false =>
  have p1 : 0 ≤ (IntKind.i64.wrap ((IntKind.i64.wrap (left - (((x.Key).size : Nat) : Int))) - (((x.Text).size : Nat) : Int))) := by simpa using c1
  have w1 : (IntKind.i64.wrap ((IntKind.i64.wrap (left - (((x.Key).size : Nat) : Int))) - (((x.Text).size : Nat) : Int))) = (IntKind.i64.wrap (left - (((x.Key).size : Nat) : Int))) - (((x.Text).size : Nat) : Int) := by have := hb.2; rw [wrap_small] <;> omega
  have b1 : (x.Text).size ≤ 1048576 := by omega
  have u1 : (IntKind.i64.wrap ((IntKind.i64.wrap (left - (((x.Key).size : Nat) : Int))) - (((x.Text).size : Nat) : Int))) ≤ (IntKind.i64.wrap (left - (((x.Key).size : Nat) : Int))) := by omega
  have v1 : (IntKind.i64.wrap ((IntKind.i64.wrap (left - (((x.Key).size : Nat) : Int))) - (((x.Text).size : Nat) : Int))) ≤ 1048576 := by omega
  simp only [c0, c1, cond_false] at h2 ⊢
  exact ⟨⟨b0, b1⟩, by omega⟩
def laws_szAttrS_b1 (i1 : Nat) (s1 : Int) (a1 : Attr) : Step (Int) Int :=
  (bif (decide ((laws_szAttr a1 s1) < 0)) then (.done (-1)) else (.next (laws_szAttr a1 s1)))
def laws_szAttrS (p0 : (List Attr)) (p1 : Int) : Int :=
  (bif (decide ((IntKind.i64.wrap (p1 - (((p0).length : Nat) : Int))) < 0)) then (-1) else (Fin.get (fun s1 => s1) (loopL laws_szAttrS_b1 0 (IntKind.i64.wrap (p1 - (((p0).length : Nat) : Int))) p0)))
theorem c_laws_szAttrS (p0 : (List Attr)) (p1 : Int) : FnOk prog 73 [.one (.s false 4 (List.map Attr.cells p0)), .one (.v (.int .i64 p1))] ⟨.one (.v (.int .i64 (laws_szAttrS p0 p1))), [], [], false⟩ := by
  refine FnOk.intro (E := env) envOk wide func73 rfl (by kernel_rfl) rfl rfl ?_
  refine lenE (k := (p0).length) (by simp) (fun hN1 => ?_)
  refine And.intro (fun (h2 : (decide ((IntKind.i64.wrap (p1 - (((p0).length : Nat) : Int))) < 0)) = true) => ?_) (fun (h2 : (decide ((IntKind.i64.wrap (p1 - (((p0).length : Nat) : Int))) < 0)) = false) => ?_)
  · refine And.intro (fun _ => .v _) ?_
    have hg : laws_szAttrS p0 p1 = (-1) := by
      first | rfl | (simp only [laws_szAttrS, h2, cond_true, cond_false, Step.fin_stop, Step.fin_done, Fin.get_fin, Fin.get_done, Step.fin_next, Bool.not_true, Bool.not_false, Option.getD_some]) | (simp [laws_szAttrS, h2, cond_true, cond_false, Step.fin_stop, Step.fin_done, Fin.get_fin, Fin.get_done, Step.fin_next, Bool.not_true, Bool.not_false, Option.getD_some])
    exact congrArg (fun g : Int => AV.one (.v (.int .i64 g))) hg.symm
  · refine loop_rule (α := LstSt laws_szAttrS_b1 (IntKind.i64.wrap (p1 - (((p0).length : Nat) : Int))) p0) [0] (fun x1 => [(1, .one (.v (.int .i64 x1.s))), (5, .one (.v (.int .i64 ((x1.i : Nat) : Int))))]) (fun x1 => []) (fun x1 => (p0).length - x1.i) .init [] ?_ (fun x1 => ?_)
    · exact ⟨rfl, ⟨rfl, rfl, rfl, trivial⟩, trivial, trivial⟩
    · refine lenE (k := (p0).length) (by simp) (fun hN3 => ?_)
      refine And.intro (fun (h4 : (decide (((x1.i : Nat) : Int) < (((p0).length : Nat) : Int))) = true) => ?_) (fun (h4 : (decide (((x1.i : Nat) : Int) < (((p0).length : Nat) : Int))) = false) => ?_)
      · have hi1 : x1.i < (p0).length := by simpa using h4
        have hw1 : IntKind.i64.wrap ((x1.i : Int) + 1) = ((x1.i + 1 : Nat) : Int) := wrap_succ hi1 (by first | assumption | omega)
        refine And.intro (fun _ => by exact idx_at hi1) (rowAtE (i := x1.i) (l := p0) rfl hi1 ?_)
        refine ⟨_, _, c_laws_szAttr (p0[x1.i]'hi1) x1.s, (FzAs.same _), ?_⟩
        refine litE (m := 1) rfl ?_
        refine And.intro (fun (h5 : (decide ((laws_szAttr (p0[x1.i]'hi1) x1.s) < 0)) = true) => ?_) (fun (h5 : (decide ((laws_szAttr (p0[x1.i]'hi1) x1.s) < 0)) = false) => ?_)
        · have hb1 := x1.out hi1 (by first | rfl | simp only [laws_szAttrS_b1, h2, h4, h5, cond_true, cond_false, Bool.not_true, Bool.not_false, Option.getD_some, Step.isNext_stop, Step.isNext_done, Step.fin_stop, Step.fin_done, Fin.get_fin, Fin.get_done])
          refine And.intro (fun _ => .v _) ?_
          have hg : laws_szAttrS p0 p1 = (-1) := by
            first | rfl | (simp only [laws_szAttrS, laws_szAttrS_b1, h2, h4, h5, hb1, cond_true, cond_false, Step.fin_stop, Step.fin_done, Fin.get_fin, Fin.get_done, Step.fin_next, Bool.not_true, Bool.not_false, Option.getD_some]) | (simp [laws_szAttrS, laws_szAttrS_b1, h2, h4, h5, hb1, cond_true, cond_false, Step.fin_stop, Step.fin_done, Fin.get_fin, Fin.get_done, Step.fin_next, Bool.not_true, Bool.not_false, Option.getD_some])
          exact congrArg (fun g : Int => AV.one (.v (.int .i64 g))) hg.symm
        · refine x1.go hi1 (v := (laws_szAttr (p0[x1.i]'hi1) x1.s)) (by first | rfl | simp only [laws_szAttrS_b1, h2, h4, h5, cond_true, cond_false, Bool.not_true, Bool.not_false, Option.getD_some, Step.fin_stop, Step.fin_done, Fin.get_fin, Fin.get_done]) [] (by show _ - (x1.i + 1) < _ - x1.i; omega) ?_
          exact ⟨rfl, ⟨rfl, (eqInt hw1), rfl, trivial⟩, trivial, trivial⟩
      · have hf1 := x1.fin (show ¬ x1.i < (p0).length by simpa using h4)
        refine And.intro (fun _ => .v _) ?_
        have hg : laws_szAttrS p0 p1 = x1.s := by
          first | rfl | (simp only [laws_szAttrS, laws_szAttrS_b1, h2, h4, hf1, cond_true, cond_false, Step.fin_stop, Step.fin_done, Fin.get_fin, Fin.get_done, Step.fin_next, Bool.not_true, Bool.not_false, Option.getD_some]) | (simp [laws_szAttrS, laws_szAttrS_b1, h2, h4, hf1, cond_true, cond_false, Step.fin_stop, Step.fin_done, Fin.get_fin, Fin.get_done, Step.fin_next, Bool.not_true, Bool.not_false, Option.getD_some])
        exact congrArg (fun g : Int => AV.one (.v (.int .i64 g))) hg.symm
theorem szd_laws_szAttrS : Szd (bdS Attr.bd) laws_szAttrS := szS_ok (b := laws_szAttrS_b1) szd_laws_szAttr (fun _ _ _ => rfl) (fun _ _ => rfl)
def laws_szSpan (p0 : Span) (p1 : Int) : Int :=
  (bif (decide ((laws_szAttrS p0.Attrs p1) < 0)) then (-1) else (laws_szAttrS p0.Attrs p1))
theorem c_laws_szSpan (p0 : Span) (p1 : Int) : FnOk prog 55 [.agg ((Span.cells false) p0), .one (.v (.int .i64 p1))] ⟨.one (.v (.int .i64 (laws_szSpan p0 p1))), [], [], false⟩ := by
  refine FnOk.intro (E := env) envOk wide func55 rfl (by kernel_rfl) rfl rfl ?_
  refine litE (m := 0) rfl ?_
  refine ⟨_, _, c_laws_szAttrS p0.Attrs p1, (FzAs.same _), ?_⟩
  refine litE (m := 2) rfl ?_
  refine And.intro (fun (h1 : (decide ((laws_szAttrS p0.Attrs p1) < 0)) = true) => ?_) (fun (h1 : (decide ((laws_szAttrS p0.Attrs p1) < 0)) = false) => ?_)
  · refine And.intro (fun _ => .v _) ?_
    have hg : laws_szSpan p0 p1 = (-1) := by
      first | rfl | (simp only [laws_szSpan, h1, cond_true, cond_false, Step.fin_stop, Step.fin_done, Fin.get_fin, Fin.get_done, Step.fin_next, Bool.not_true, Bool.not_false, Option.getD_some]) | (simp [laws_szSpan, h1, cond_true, cond_false, Step.fin_stop, Step.fin_done, Fin.get_fin, Fin.get_done, Step.fin_next, Bool.not_true, Bool.not_false, Option.getD_some])
    exact congrArg (fun g : Int => AV.one (.v (.int .i64 g))) hg.symm
  · refine And.intro (fun _ => .v _) ?_
    have hg : laws_szSpan p0 p1 = (laws_szAttrS p0.Attrs p1) := by
      first | rfl | (simp only [laws_szSpan, h1, cond_true, cond_false, Step.fin_stop, Step.fin_done, Fin.get_fin, Fin.get_done, Step.fin_next, Bool.not_true, Bool.not_false, Option.getD_some]) | (simp [laws_szSpan, h1, cond_true, cond_false, Step.fin_stop, Step.fin_done, Fin.get_fin, Fin.get_done, Step.fin_next, Bool.not_true, Bool.not_false, Option.getD_some])
    exact congrArg (fun g : Int => AV.one (.v (.int .i64 g))) hg.symm
theorem szd_laws_szSpan : Szd Span.bd laws_szSpan := by
  intro x left hb h0 h1 h2
  unfold laws_szSpan at h2 ⊢
  unfold Span.bd at hb ⊢
  cases c0 : decide ((laws_szAttrS x.Attrs left) < 0) with
  | true => simp [c0] at h2
  | false =>
  have p0 : 0 ≤ (laws_szAttrS x.Attrs left) := by simpa using c0
  have z0 := szd_laws_szAttrS x.Attrs left hb h0 h1 p0
  have b0 := z0.1
  have u0 := z0.2
  have v0 : (laws_szAttrS x.Attrs left) ≤ 1048576 := by omega
  simp only [c0, cond_false] at h2 ⊢
  exact ⟨b0, by omega⟩
def laws_szDeed (p0 : Deed) (p1 : Int) : Int :=
  (bif (decide ((laws_szSpan p0.S p1) < 0)) then (-1) else (laws_szSpan p0.S p1))
theorem c_laws_szDeed (p0 : Deed) (p1 : Int) : FnOk prog 58 [.agg ((Deed.cells false) p0), .one (.v (.int .i64 p1))] ⟨.one (.v (.int .i64 (laws_szDeed p0 p1))), [], [], false⟩ := by
  refine FnOk.intro (E := env) envOk wide func58 rfl (by kernel_rfl) rfl rfl ?_
  refine litE (m := 0) rfl ?_
  refine ⟨_, _, c_laws_szSpan p0.S p1, (FzAs.same _), ?_⟩
  refine litE (m := 2) rfl ?_
  refine And.intro (fun (h1 : (decide ((laws_szSpan p0.S p1) < 0)) = true) => ?_) (fun (h1 : (decide ((laws_szSpan p0.S p1) < 0)) = false) => ?_)
  · refine And.intro (fun _ => .v _) ?_
    have hg : laws_szDeed p0 p1 = (-1) := by
      first | rfl | (simp only [laws_szDeed, h1, cond_true, cond_false, Step.fin_stop, Step.fin_done, Fin.get_fin, Fin.get_done, Step.fin_next, Bool.not_true, Bool.not_false, Option.getD_some]) | (simp [laws_szDeed, h1, cond_true, cond_false, Step.fin_stop, Step.fin_done, Fin.get_fin, Fin.get_done, Step.fin_next, Bool.not_true, Bool.not_false, Option.getD_some])
    exact congrArg (fun g : Int => AV.one (.v (.int .i64 g))) hg.symm
  · refine And.intro (fun _ => .v _) ?_
    have hg : laws_szDeed p0 p1 = (laws_szSpan p0.S p1) := by
      first | rfl | (simp only [laws_szDeed, h1, cond_true, cond_false, Step.fin_stop, Step.fin_done, Fin.get_fin, Fin.get_done, Step.fin_next, Bool.not_true, Bool.not_false, Option.getD_some]) | (simp [laws_szDeed, h1, cond_true, cond_false, Step.fin_stop, Step.fin_done, Fin.get_fin, Fin.get_done, Step.fin_next, Bool.not_true, Bool.not_false, Option.getD_some])
    exact congrArg (fun g : Int => AV.one (.v (.int .i64 g))) hg.symm
theorem szd_laws_szDeed : Szd Deed.bd laws_szDeed := by
  intro x left hb h0 h1 h2
  unfold laws_szDeed at h2 ⊢
  unfold Deed.bd at hb ⊢
  cases c0 : decide ((laws_szSpan x.S left) < 0) with
  | true => simp [c0] at h2
  | false =>
  have p0 : 0 ≤ (laws_szSpan x.S left) := by simpa using c0
  have z0 := szd_laws_szSpan x.S left hb h0 h1 p0
  have b0 := z0.1
  have u0 := z0.2
  have v0 : (laws_szSpan x.S left) ≤ 1048576 := by omega
  simp only [c0, cond_false] at h2 ⊢
  exact ⟨b0, by omega⟩
def laws_szDeedS_b1 (i1 : Nat) (s1 : Int) (a1 : Deed) : Step (Int) Int :=
  (bif (decide ((laws_szDeed a1 s1) < 0)) then (.done (-1)) else (.next (laws_szDeed a1 s1)))
def laws_szDeedS (p0 : (List Deed)) (p1 : Int) : Int :=
  (bif (decide ((IntKind.i64.wrap (p1 - (((p0).length : Nat) : Int))) < 0)) then (-1) else (Fin.get (fun s1 => s1) (loopL laws_szDeedS_b1 0 (IntKind.i64.wrap (p1 - (((p0).length : Nat) : Int))) p0)))
theorem c_laws_szDeedS (p0 : (List Deed)) (p1 : Int) : FnOk prog 28 [.one (.s false 20 (List.map (Deed.cells false) p0)), .one (.v (.int .i64 p1))] ⟨.one (.v (.int .i64 (laws_szDeedS p0 p1))), [], [], false⟩ := by
  refine FnOk.intro (E := env) envOk wide func28 rfl (by kernel_rfl) rfl rfl ?_
  refine lenE (k := (p0).length) (by simp) (fun hN1 => ?_)
  refine And.intro (fun (h2 : (decide ((IntKind.i64.wrap (p1 - (((p0).length : Nat) : Int))) < 0)) = true) => ?_) (fun (h2 : (decide ((IntKind.i64.wrap (p1 - (((p0).length : Nat) : Int))) < 0)) = false) => ?_)
  · refine And.intro (fun _ => .v _) ?_
    have hg : laws_szDeedS p0 p1 = (-1) := by
      first | rfl | (simp only [laws_szDeedS, h2, cond_true, cond_false, Step.fin_stop, Step.fin_done, Fin.get_fin, Fin.get_done, Step.fin_next, Bool.not_true, Bool.not_false, Option.getD_some]) | (simp [laws_szDeedS, h2, cond_true, cond_false, Step.fin_stop, Step.fin_done, Fin.get_fin, Fin.get_done, Step.fin_next, Bool.not_true, Bool.not_false, Option.getD_some])
    exact congrArg (fun g : Int => AV.one (.v (.int .i64 g))) hg.symm
  · refine loop_rule (α := LstSt laws_szDeedS_b1 (IntKind.i64.wrap (p1 - (((p0).length : Nat) : Int))) p0) [0] (fun x1 => [(1, .one (.v (.int .i64 x1.s))), (5, .one (.v (.int .i64 ((x1.i : Nat) : Int))))]) (fun x1 => []) (fun x1 => (p0).length - x1.i) .init [] ?_ (fun x1 => ?_)
    · exact ⟨rfl, ⟨rfl, rfl, rfl, trivial⟩, trivial, trivial⟩
    · refine lenE (k := (p0).length) (by simp) (fun hN3 => ?_)
      refine And.intro (fun (h4 : (decide (((x1.i : Nat) : Int) < (((p0).length : Nat) : Int))) = true) => ?_) (fun (h4 : (decide (((x1.i : Nat) : Int) < (((p0).length : Nat) : Int))) = false) => ?_)
      · have hi1 : x1.i < (p0).length := by simpa using h4
        have hw1 : IntKind.i64.wrap ((x1.i : Int) + 1) = ((x1.i + 1 : Nat) : Int) := wrap_succ hi1 (by first | assumption | omega)
        refine And.intro (fun _ => by exact idx_at hi1) (rowAtE (i := x1.i) (l := p0) rfl hi1 ?_)
        refine ⟨_, _, c_laws_szDeed (p0[x1.i]'hi1) x1.s, (FzAs.same _), ?_⟩
        refine litE (m := 1) rfl ?_
        refine And.intro (fun (h5 : (decide ((laws_szDeed (p0[x1.i]'hi1) x1.s) < 0)) = true) => ?_) (fun (h5 : (decide ((laws_szDeed (p0[x1.i]'hi1) x1.s) < 0)) = false) => ?_)
        · have hb1 := x1.out hi1 (by first | rfl | simp only [laws_szDeedS_b1, h2, h4, h5, cond_true, cond_false, Bool.not_true, Bool.not_false, Option.getD_some, Step.isNext_stop, Step.isNext_done, Step.fin_stop, Step.fin_done, Fin.get_fin, Fin.get_done])
          refine And.intro (fun _ => .v _) ?_
          have hg : laws_szDeedS p0 p1 = (-1) := by
            first | rfl | (simp only [laws_szDeedS, laws_szDeedS_b1, h2, h4, h5, hb1, cond_true, cond_false, Step.fin_stop, Step.fin_done, Fin.get_fin, Fin.get_done, Step.fin_next, Bool.not_true, Bool.not_false, Option.getD_some]) | (simp [laws_szDeedS, laws_szDeedS_b1, h2, h4, h5, hb1, cond_true, cond_false, Step.fin_stop, Step.fin_done, Fin.get_fin, Fin.get_done, Step.fin_next, Bool.not_true, Bool.not_false, Option.getD_some])
          exact congrArg (fun g : Int => AV.one (.v (.int .i64 g))) hg.symm
        · refine x1.go hi1 (v := (laws_szDeed (p0[x1.i]'hi1) x1.s)) (by first | rfl | simp only [laws_szDeedS_b1, h2, h4, h5, cond_true, cond_false, Bool.not_true, Bool.not_false, Option.getD_some, Step.fin_stop, Step.fin_done, Fin.get_fin, Fin.get_done]) [] (by show _ - (x1.i + 1) < _ - x1.i; omega) ?_
          exact ⟨rfl, ⟨rfl, (eqInt hw1), rfl, trivial⟩, trivial, trivial⟩
      · have hf1 := x1.fin (show ¬ x1.i < (p0).length by simpa using h4)
        refine And.intro (fun _ => .v _) ?_
        have hg : laws_szDeedS p0 p1 = x1.s := by
          first | rfl | (simp only [laws_szDeedS, laws_szDeedS_b1, h2, h4, hf1, cond_true, cond_false, Step.fin_stop, Step.fin_done, Fin.get_fin, Fin.get_done, Step.fin_next, Bool.not_true, Bool.not_false, Option.getD_some]) | (simp [laws_szDeedS, laws_szDeedS_b1, h2, h4, hf1, cond_true, cond_false, Step.fin_stop, Step.fin_done, Fin.get_fin, Fin.get_done, Step.fin_next, Bool.not_true, Bool.not_false, Option.getD_some])
        exact congrArg (fun g : Int => AV.one (.v (.int .i64 g))) hg.symm
theorem szd_laws_szDeedS : Szd (bdS Deed.bd) laws_szDeedS := szS_ok (b := laws_szDeedS_b1) szd_laws_szDeed (fun _ _ _ => rfl) (fun _ _ => rfl)
def laws_toAttr (p0 : Attr) : Attr :=
  p0
theorem c_laws_toAttr (p0 : Attr) : FnOk prog 80 [.agg (Attr.cells p0)] ⟨.agg (Attr.cells (laws_toAttr p0)), [], [], false⟩ := by
  refine FnOk.intro (E := env) envOk wide func80 rfl (by kernel_rfl) rfl rfl ?_
  refine litE (m := 0) rfl ?_
  refine litE (m := 1) rfl ?_
  refine litE (m := 2) rfl ?_
  refine And.intro (fun _ => own_Attr _) ?_
  have hg : laws_toAttr p0 = p0 := by
    first | rfl | (simp only [laws_toAttr, cond_true, cond_false, Step.fin_stop, Step.fin_done, Fin.get_fin, Fin.get_done, Step.fin_next, Bool.not_true, Bool.not_false, Option.getD_some]) | (simp [laws_toAttr, cond_true, cond_false, Step.fin_stop, Step.fin_done, Fin.get_fin, Fin.get_done, Step.fin_next, Bool.not_true, Bool.not_false, Option.getD_some])
  exact congrArg (fun g : Attr => AV.agg (Attr.cells g)) hg.symm
theorem id_laws_toAttr (x : Attr) : laws_toAttr x = x := by
  first | rfl | (simp only [laws_toAttr]; done) | (simp only [laws_toAttr]; rfl)
def laws_toAttrS_b1 (i1 : Nat) (s1 : (List Attr)) (a1 : Attr) : Step ((List Attr)) (List Attr) :=
  (.next (List.set s1 i1 (laws_toAttr a1)))
def laws_toAttrS (p0 : (List Attr)) : (List Attr) :=
  (Fin.get (fun s1 => s1) (loopL laws_toAttrS_b1 0 (List.replicate (p0).length (default : Attr)) p0))
theorem c_laws_toAttrS (p0 : (List Attr)) (hs : bdS Attr.bd 1048576 p0) : FnOk prog 74 [.one (.s false 4 (List.map Attr.cells p0))] ⟨.one (.s true 4 (List.map Attr.cells (laws_toAttrS p0))), [], [], false⟩ := by
  refine FnOk.intro (E := env) envOk wide func74 rfl (by kernel_rfl) rfl rfl ?_
  have hs1 := hs.1
  refine lenE (k := (p0).length) (by simp) (fun hN1 => ?_)
  refine And.intro (by exact ⟨rfl, by omega, by show ((48 : Nat) : Int) * _ ≤ _; omega, by omega⟩) (rowsE (Y := List.map Attr.cells (List.replicate (p0).length (default : Attr))) (by rw [List.map_replicate]; rfl) ?_)
  refine litE (m := 0) rfl ?_
  refine loop_rule (α := LstInv (fun _ s => (s).length = (p0).length) laws_toAttrS_b1 (List.replicate (p0).length (default : Attr)) p0) [0] (fun x1 => [(3, .one (.n 0 [] 1 0 (x1.s).length)), (4, .one (.v (.int .i64 ((x1.i : Nat) : Int))))]) (fun x1 => [.new ⟨4, false, List.map Attr.cells x1.s, 0⟩]) (fun x1 => (p0).length - x1.i) (.init (by simp)) [some 0] ?_ (fun x1 => ?_)
  · exact ⟨rfl, ⟨⟨rfl, rfl, rfl, rfl, by (first | rfl | (simp; done) | (simp [LstSt.init, LstSt.step, LstInv.init, CntSt.init, CntSt.step, CntInv.init, WhlSt.init, WhlSt.step]; done) | (simp [LstSt.init, LstSt.step, LstInv.init, CntSt.init, CntSt.step, CntInv.init, WhlSt.init, WhlSt.step]; omega))⟩, rfl, rfl, trivial⟩, ⟨⟨rfl, rfl, rfl⟩, trivial⟩, trivial⟩
  · have hI1 : (x1.s).length = (p0).length := by simpa using x1.hI
    refine lenE (k := (p0).length) (by simp) (fun hN2 => ?_)
    refine And.intro (fun (h3 : (decide (((x1.i : Nat) : Int) < (((p0).length : Nat) : Int))) = true) => ?_) (fun (h3 : (decide (((x1.i : Nat) : Int) < (((p0).length : Nat) : Int))) = false) => ?_)
    · have hi1 : x1.i < (p0).length := by simpa using h3
      have hw1 : IntKind.i64.wrap ((x1.i : Int) + 1) = ((x1.i + 1 : Nat) : Int) := wrap_succ hi1 (by first | assumption | omega)
      refine And.intro (fun _ => by exact idx_at hi1) (rowAtE (i := x1.i) (l := p0) rfl hi1 ?_)
      refine ⟨_, _, c_laws_toAttr (p0[x1.i]'hi1), (FzAs.same _), ?_⟩
      refine litE (m := 2) rfl ?_
      refine And.intro (fun _ => by first | exact ⟨by omega, by omega⟩ | (first | omega | (simp; done) | (simp; omega) | (simp at *; omega) | (simp at *; done) | (simp_all; done) | (simp_all; omega))) ?_
      refine rowsE (Y := List.map Attr.cells (List.set x1.s x1.i (laws_toAttr (p0[x1.i]'hi1)))) (by exact setMapE (by simp) (fun a ha => by rfl)) ?_
      refine x1.go' hi1 (v := (List.set x1.s x1.i (laws_toAttr (p0[x1.i]'hi1)))) (by first | rfl | simp only [laws_toAttrS_b1, h3, cond_true, cond_false, Bool.not_true, Bool.not_false, Option.getD_some, Step.fin_stop, Step.fin_done, Fin.get_fin, Fin.get_done]) (by simpa using x1.hI) [some 0] (by show _ - (x1.i + 1) < _ - x1.i; omega) ?_
      exact ⟨rfl, ⟨⟨rfl, rfl, rfl, rfl, by (first | rfl | (simp; done) | (simp [LstSt.init, LstSt.step, LstInv.init, CntSt.init, CntSt.step, CntInv.init, WhlSt.init, WhlSt.step]; done) | (simp [LstSt.init, LstSt.step, LstInv.init, CntSt.init, CntSt.step, CntInv.init, WhlSt.init, WhlSt.step]; omega))⟩, (eqInt hw1), rfl, trivial⟩, ⟨⟨rfl, rfl, rfl⟩, trivial⟩, trivial⟩
    · have hf1 := x1.fin (show ¬ x1.i < (p0).length by simpa using h3)
      refine And.intro (fun _ => ownSl own_Attr _) ?_
      have hg : laws_toAttrS p0 = x1.s := by
        first | rfl | (simp only [laws_toAttrS, laws_toAttrS_b1, h3, hf1, cond_true, cond_false, Step.fin_stop, Step.fin_done, Fin.get_fin, Fin.get_done, Step.fin_next, Bool.not_true, Bool.not_false, Option.getD_some]) | (simp [laws_toAttrS, laws_toAttrS_b1, h3, hf1, cond_true, cond_false, Step.fin_stop, Step.fin_done, Fin.get_fin, Fin.get_done, Step.fin_next, Bool.not_true, Bool.not_false, Option.getD_some])
      exact congrArg (fun g : (List Attr) => AV.one (.s true 4 (List.map Attr.cells g))) hg.symm
theorem id_laws_toAttrS (x : (List Attr)) : laws_toAttrS x = x := setS_ok (b := laws_toAttrS_b1) id_laws_toAttr (fun _ _ _ => rfl) (fun _ => rfl) x
def laws_toSpan (p0 : Span) : Span :=
  (Span.mk p0.Trace p0.Id p0.Start p0.End p0.Err (laws_toAttrS p0.Attrs))
theorem c_laws_toSpan (p0 : Span) (hs : Span.bd 1048576 p0) : FnOk prog 56 [.agg ((Span.cells false) p0)] ⟨.agg ((Span.cells true) (laws_toSpan p0)), [], [], false⟩ := by
  refine FnOk.intro (E := env) envOk wide func56 rfl (by kernel_rfl) rfl rfl ?_
  unfold Span.bd at hs
  refine litE (m := 0) rfl ?_
  refine litE (m := 1) rfl ?_
  refine litE (m := 2) rfl ?_
  refine ⟨_, _, c_laws_toAttrS p0.Attrs (by exact hs), (FzAs.same _), ?_⟩
  refine litE (m := 4) rfl ?_
  refine And.intro (fun _ => own_Span _) ?_
  have hg : laws_toSpan p0 = (Span.mk p0.Trace p0.Id p0.Start p0.End p0.Err (laws_toAttrS p0.Attrs)) := by
    first | rfl | (simp only [laws_toSpan, cond_true, cond_false, Step.fin_stop, Step.fin_done, Fin.get_fin, Fin.get_done, Step.fin_next, Bool.not_true, Bool.not_false, Option.getD_some]) | (simp [laws_toSpan, cond_true, cond_false, Step.fin_stop, Step.fin_done, Fin.get_fin, Fin.get_done, Step.fin_next, Bool.not_true, Bool.not_false, Option.getD_some])
  exact congrArg (fun g : Span => AV.agg ((Span.cells true) g)) hg.symm
theorem id_laws_toSpan (x : Span) : laws_toSpan x = x := by
  first | rfl | (simp only [laws_toSpan, id_laws_toAttr, id_laws_toAttrS]; done) | (simp only [laws_toSpan, id_laws_toAttr, id_laws_toAttrS]; rfl)
def laws_toDeed (p0 : Deed) : Deed :=
  (Deed.mk p0.Op p0.Task (laws_toSpan p0.S) p0.Trace p0.Stamp p0.Code p0.Keep p0.Void p0.Took p0.N p0.Forgot p0.Now p0.Inv p0.Lin p0.Res)
theorem c_laws_toDeed (p0 : Deed) (hs : Deed.bd 1048576 p0) : FnOk prog 59 [.agg ((Deed.cells false) p0)] ⟨.agg ((Deed.cells true) (laws_toDeed p0)), [], [], false⟩ := by
  refine FnOk.intro (E := env) envOk wide func59 rfl (by kernel_rfl) rfl rfl ?_
  unfold Deed.bd at hs
  refine litE (m := 0) rfl ?_
  refine litE (m := 1) rfl ?_
  refine litE (m := 2) rfl ?_
  refine ⟨_, _, c_laws_toSpan p0.S (by exact hs), (FzAs.same _), ?_⟩
  refine litE (m := 4) rfl ?_
  refine And.intro (fun _ => own_Deed _) ?_
  have hg : laws_toDeed p0 = (Deed.mk p0.Op p0.Task (laws_toSpan p0.S) p0.Trace p0.Stamp p0.Code p0.Keep p0.Void p0.Took p0.N p0.Forgot p0.Now p0.Inv p0.Lin p0.Res) := by
    first | rfl | (simp only [laws_toDeed, cond_true, cond_false, Step.fin_stop, Step.fin_done, Fin.get_fin, Fin.get_done, Step.fin_next, Bool.not_true, Bool.not_false, Option.getD_some]) | (simp [laws_toDeed, cond_true, cond_false, Step.fin_stop, Step.fin_done, Fin.get_fin, Fin.get_done, Step.fin_next, Bool.not_true, Bool.not_false, Option.getD_some])
  exact congrArg (fun g : Deed => AV.agg ((Deed.cells true) g)) hg.symm
theorem id_laws_toDeed (x : Deed) : laws_toDeed x = x := by
  first | rfl | (simp only [laws_toDeed, id_laws_toAttr, id_laws_toAttrS, id_laws_toSpan]; done) | (simp only [laws_toDeed, id_laws_toAttr, id_laws_toAttrS, id_laws_toSpan]; rfl)
def laws_toDeedS_b1 (i1 : Nat) (s1 : (List Deed)) (a1 : Deed) : Step ((List Deed)) (List Deed) :=
  (.next (List.set s1 i1 (laws_toDeed a1)))
def laws_toDeedS (p0 : (List Deed)) : (List Deed) :=
  (Fin.get (fun s1 => s1) (loopL laws_toDeedS_b1 0 (List.replicate (p0).length (default : Deed)) p0))
theorem c_laws_toDeedS (p0 : (List Deed)) (hs : bdS Deed.bd 1048576 p0) : FnOk prog 30 [.one (.s false 20 (List.map (Deed.cells false) p0))] ⟨.one (.s true 20 (List.map (Deed.cells true) (laws_toDeedS p0))), [], [], false⟩ := by
  refine FnOk.intro (E := env) envOk wide func30 rfl (by kernel_rfl) rfl rfl ?_
  have hs1 := hs.1
  refine lenE (k := (p0).length) (by simp) (fun hN1 => ?_)
  refine And.intro (by exact ⟨rfl, by omega, by show ((168 : Nat) : Int) * _ ≤ _; omega, by omega⟩) (rowsE (Y := List.map (Deed.cells true) (List.replicate (p0).length (default : Deed))) (by rw [List.map_replicate]; rfl) ?_)
  refine litE (m := 0) rfl ?_
  refine loop_rule (α := LstInv (fun _ s => (s).length = (p0).length) laws_toDeedS_b1 (List.replicate (p0).length (default : Deed)) p0) [0] (fun x1 => [(3, .one (.n 0 [] 1 0 (x1.s).length)), (4, .one (.v (.int .i64 ((x1.i : Nat) : Int))))]) (fun x1 => [.new ⟨20, false, List.map (Deed.cells true) x1.s, 0⟩]) (fun x1 => (p0).length - x1.i) (.init (by simp)) [some 0] ?_ (fun x1 => ?_)
  · exact ⟨rfl, ⟨⟨rfl, rfl, rfl, rfl, by (first | rfl | (simp; done) | (simp [LstSt.init, LstSt.step, LstInv.init, CntSt.init, CntSt.step, CntInv.init, WhlSt.init, WhlSt.step]; done) | (simp [LstSt.init, LstSt.step, LstInv.init, CntSt.init, CntSt.step, CntInv.init, WhlSt.init, WhlSt.step]; omega))⟩, rfl, rfl, trivial⟩, ⟨⟨rfl, rfl, rfl⟩, trivial⟩, trivial⟩
  · have hI1 : (x1.s).length = (p0).length := by simpa using x1.hI
    refine lenE (k := (p0).length) (by simp) (fun hN2 => ?_)
    refine And.intro (fun (h3 : (decide (((x1.i : Nat) : Int) < (((p0).length : Nat) : Int))) = true) => ?_) (fun (h3 : (decide (((x1.i : Nat) : Int) < (((p0).length : Nat) : Int))) = false) => ?_)
    · have hi1 : x1.i < (p0).length := by simpa using h3
      have hw1 : IntKind.i64.wrap ((x1.i : Int) + 1) = ((x1.i + 1 : Nat) : Int) := wrap_succ hi1 (by first | assumption | omega)
      refine And.intro (fun _ => by exact idx_at hi1) (rowAtE (i := x1.i) (l := p0) rfl hi1 ?_)
      refine ⟨_, _, c_laws_toDeed (p0[x1.i]'hi1) (by exact hs.get hi1), (FzAs.same _), ?_⟩
      refine litE (m := 2) rfl ?_
      refine And.intro (fun _ => by first | exact ⟨by omega, by omega⟩ | (first | omega | (simp; done) | (simp; omega) | (simp at *; omega) | (simp at *; done) | (simp_all; done) | (simp_all; omega))) ?_
      refine rowsE (Y := List.map (Deed.cells true) (List.set x1.s x1.i (laws_toDeed (p0[x1.i]'hi1)))) (by exact setMapE (by simp) (fun a ha => by rfl)) ?_
      refine x1.go' hi1 (v := (List.set x1.s x1.i (laws_toDeed (p0[x1.i]'hi1)))) (by first | rfl | simp only [laws_toDeedS_b1, h3, cond_true, cond_false, Bool.not_true, Bool.not_false, Option.getD_some, Step.fin_stop, Step.fin_done, Fin.get_fin, Fin.get_done]) (by simpa using x1.hI) [some 0] (by show _ - (x1.i + 1) < _ - x1.i; omega) ?_
      exact ⟨rfl, ⟨⟨rfl, rfl, rfl, rfl, by (first | rfl | (simp; done) | (simp [LstSt.init, LstSt.step, LstInv.init, CntSt.init, CntSt.step, CntInv.init, WhlSt.init, WhlSt.step]; done) | (simp [LstSt.init, LstSt.step, LstInv.init, CntSt.init, CntSt.step, CntInv.init, WhlSt.init, WhlSt.step]; omega))⟩, (eqInt hw1), rfl, trivial⟩, ⟨⟨rfl, rfl, rfl⟩, trivial⟩, trivial⟩
    · have hf1 := x1.fin (show ¬ x1.i < (p0).length by simpa using h3)
      refine And.intro (fun _ => ownSl own_Deed _) ?_
      have hg : laws_toDeedS p0 = x1.s := by
        first | rfl | (simp only [laws_toDeedS, laws_toDeedS_b1, h3, hf1, cond_true, cond_false, Step.fin_stop, Step.fin_done, Fin.get_fin, Fin.get_done, Step.fin_next, Bool.not_true, Bool.not_false, Option.getD_some]) | (simp [laws_toDeedS, laws_toDeedS_b1, h3, hf1, cond_true, cond_false, Step.fin_stop, Step.fin_done, Fin.get_fin, Fin.get_done, Step.fin_next, Bool.not_true, Bool.not_false, Option.getD_some])
      exact congrArg (fun g : (List Deed) => AV.one (.s true 20 (List.map (Deed.cells true) g))) hg.symm
theorem id_laws_toDeedS (x : (List Deed)) : laws_toDeedS x = x := setS_ok (b := laws_toDeedS_b1) id_laws_toDeed (fun _ _ _ => rfl) (fun _ => rfl) x
def spec_Kept_b1 (p0 : (List Deed)) (p1 : Int) (i1 : Nat) (s1 : Unit) : Step (Unit) Bool :=
  (bif ((p0[i1]?.getD default).Op == 2) then (bif ((p0[i1]?.getD default).Stamp == p1) then (bif ((p0[i1]?.getD default).Lin != (-1)) then (bif (!(p0[i1]?.getD default).Void) then (bif (p0[i1]?.getD default).Keep then (.done true) else (.next ())) else (.next ())) else (.next ())) else (.next ())) else (.next ()))
def spec_Kept (p0 : (List Deed)) (p1 : Int) : Bool :=
  (Fin.get (fun s1 => false) (loopC (spec_Kept_b1 p0 p1) 0 () (p0).length))
theorem c_spec_Kept (p0 : (List Deed)) (p1 : Int) : FnOk prog 37 [.one (.s false 20 (List.map (Deed.cells false) p0)), .one (.v (.int .i64 p1))] ⟨.one (.v (.bool (spec_Kept p0 p1))), [], [], false⟩ := by
  refine FnOk.intro (E := env) envOk wide func37 rfl (by kernel_rfl) rfl rfl ?_
  refine loop_rule (α := CntSt (spec_Kept_b1 p0 p1) () (p0).length) [0, 1] (fun x1 => [(5, .one (.v (.int .i64 ((x1.i : Nat) : Int))))]) (fun x1 => []) (fun x1 => (p0).length - x1.i) .init [] ?_ (fun x1 => ?_)
  · exact ⟨rfl, ⟨rfl, rfl, rfl, trivial⟩, trivial, trivial⟩
  · refine lenE (k := (p0).length) (by simp) (fun hN1 => ?_)
    refine And.intro (fun (h2 : (decide (((x1.i : Nat) : Int) < (((p0).length : Nat) : Int))) = true) => ?_) (fun (h2 : (decide (((x1.i : Nat) : Int) < (((p0).length : Nat) : Int))) = false) => ?_)
    · have hi1 : x1.i < (p0).length := by (first | omega | (simp; done) | (simp; omega) | (simp at *; omega) | (simp at *; done) | (simp_all; done) | (simp_all; omega))
      have hw1 : IntKind.i64.wrap (((x1.i : Nat) : Int) + 1) = ((x1.i + 1 : Nat) : Int) := by (rw [wrap_small] <;> omega)
      refine And.intro (fun _ => by (first | omega | (simp; done) | (simp; omega) | (simp at *; omega) | (simp at *; done) | (simp_all; done) | (simp_all; omega))) (rowOfE (i := x1.i) (l := p0) rfl (fun e3 he3 => ?_))
      refine And.intro (fun (h4 : (e3.Op == 2) = true) => ?_) (fun (h4 : (e3.Op == 2) = false) => ?_)
      · refine And.intro (fun _ => by exact idx_of (by first | omega | (first | omega | (simp; done) | (simp; omega) | (simp at *; omega) | (simp at *; done) | (simp_all; done) | (simp_all; omega))) he3) (rowSameE (i := x1.i) (l := p0) rfl he3 ?_)
        refine And.intro (fun (h5 : (e3.Stamp == p1) = true) => ?_) (fun (h5 : (e3.Stamp == p1) = false) => ?_)
        · refine And.intro (fun _ => by exact idx_of (by first | omega | (first | omega | (simp; done) | (simp; omega) | (simp at *; omega) | (simp at *; done) | (simp_all; done) | (simp_all; omega))) he3) (rowSameE (i := x1.i) (l := p0) rfl he3 ?_)
          refine And.intro (fun (h6 : (e3.Lin != (-1)) = true) => ?_) (fun (h6 : (e3.Lin != (-1)) = false) => ?_)
          · refine And.intro (fun _ => by exact idx_of (by first | omega | (first | omega | (simp; done) | (simp; omega) | (simp at *; omega) | (simp at *; done) | (simp_all; done) | (simp_all; omega))) he3) (rowSameE (i := x1.i) (l := p0) rfl he3 ?_)
            refine And.intro (fun (h7 : (!e3.Void) = true) => ?_) (fun (h7 : (!e3.Void) = false) => ?_)
            · refine And.intro (fun _ => by exact idx_of (by first | omega | (first | omega | (simp; done) | (simp; omega) | (simp at *; omega) | (simp at *; done) | (simp_all; done) | (simp_all; omega))) he3) (rowSameE (i := x1.i) (l := p0) rfl he3 ?_)
              refine And.intro (fun (h8 : e3.Keep = true) => ?_) (fun (h8 : e3.Keep = false) => ?_)
              · have hb1 := x1.out hi1 (by first | rfl | simp only [spec_Kept_b1, h2, he3, h4, h5, h6, h7, h8, cond_true, cond_false, Bool.not_true, Bool.not_false, Option.getD_some, Step.isNext_stop, Step.isNext_done, Step.fin_stop, Step.fin_done, Fin.get_fin, Fin.get_done])
                refine And.intro (fun _ => .v _) ?_
                have hg : spec_Kept p0 p1 = true := by
                  first | rfl | (simp only [spec_Kept, spec_Kept_b1, h2, he3, h4, h5, h6, h7, h8, hb1, cond_true, cond_false, Step.fin_stop, Step.fin_done, Fin.get_fin, Fin.get_done, Step.fin_next, Bool.not_true, Bool.not_false, Option.getD_some]) | (simp [spec_Kept, spec_Kept_b1, h2, he3, h4, h5, h6, h7, h8, hb1, cond_true, cond_false, Step.fin_stop, Step.fin_done, Fin.get_fin, Fin.get_done, Step.fin_next, Bool.not_true, Bool.not_false, Option.getD_some])
                exact congrArg (fun g : Bool => AV.one (.v (.bool g))) hg.symm
              · refine x1.go hi1 (v := ()) (by first | rfl | simp only [spec_Kept_b1, h2, he3, h4, h5, h6, h7, h8, cond_true, cond_false, Bool.not_true, Bool.not_false, Option.getD_some, Step.fin_stop, Step.fin_done, Fin.get_fin, Fin.get_done]) [] (by show _ - (x1.i + 1) < _ - x1.i; omega) ?_
                exact ⟨rfl, ⟨(eqInt hw1), rfl, rfl, trivial⟩, trivial, trivial⟩
            · refine x1.go hi1 (v := ()) (by first | rfl | simp only [spec_Kept_b1, h2, he3, h4, h5, h6, h7, cond_true, cond_false, Bool.not_true, Bool.not_false, Option.getD_some, Step.fin_stop, Step.fin_done, Fin.get_fin, Fin.get_done]) [] (by show _ - (x1.i + 1) < _ - x1.i; omega) ?_
              exact ⟨rfl, ⟨(eqInt hw1), rfl, rfl, trivial⟩, trivial, trivial⟩
          · refine x1.go hi1 (v := ()) (by first | rfl | simp only [spec_Kept_b1, h2, he3, h4, h5, h6, cond_true, cond_false, Bool.not_true, Bool.not_false, Option.getD_some, Step.fin_stop, Step.fin_done, Fin.get_fin, Fin.get_done]) [] (by show _ - (x1.i + 1) < _ - x1.i; omega) ?_
            exact ⟨rfl, ⟨(eqInt hw1), rfl, rfl, trivial⟩, trivial, trivial⟩
        · refine x1.go hi1 (v := ()) (by first | rfl | simp only [spec_Kept_b1, h2, he3, h4, h5, cond_true, cond_false, Bool.not_true, Bool.not_false, Option.getD_some, Step.fin_stop, Step.fin_done, Fin.get_fin, Fin.get_done]) [] (by show _ - (x1.i + 1) < _ - x1.i; omega) ?_
          exact ⟨rfl, ⟨(eqInt hw1), rfl, rfl, trivial⟩, trivial, trivial⟩
      · refine x1.go hi1 (v := ()) (by first | rfl | simp only [spec_Kept_b1, h2, he3, h4, cond_true, cond_false, Bool.not_true, Bool.not_false, Option.getD_some, Step.fin_stop, Step.fin_done, Fin.get_fin, Fin.get_done]) [] (by show _ - (x1.i + 1) < _ - x1.i; omega) ?_
        exact ⟨rfl, ⟨(eqInt hw1), rfl, rfl, trivial⟩, trivial, trivial⟩
    · have hf1 := x1.fin (show ¬ x1.i < (p0).length by (first | omega | (simp; done) | (simp; omega) | (simp at *; omega) | (simp at *; done) | (simp_all; done) | (simp_all; omega)))
      refine And.intro (fun _ => .v _) ?_
      have hg : spec_Kept p0 p1 = false := by
        first | rfl | (simp only [spec_Kept, spec_Kept_b1, h2, hf1, cond_true, cond_false, Step.fin_stop, Step.fin_done, Fin.get_fin, Fin.get_done, Step.fin_next, Bool.not_true, Bool.not_false, Option.getD_some]) | (simp [spec_Kept, spec_Kept_b1, h2, hf1, cond_true, cond_false, Step.fin_stop, Step.fin_done, Fin.get_fin, Fin.get_done, Step.fin_next, Bool.not_true, Bool.not_false, Option.getD_some])
      exact congrArg (fun g : Bool => AV.one (.v (.bool g))) hg.symm
def impl_judged (p0 : Deed) : Bool :=
  (bif (p0.Op == 2) then (bif (p0.Lin != (-1)) then (!p0.Void) else false) else false)
theorem c_impl_judged (p0 : Deed) : FnOk prog 65 [.agg ((Deed.cells false) p0)] ⟨.one (.v (.bool (impl_judged p0))), [], [], false⟩ := by
  refine FnOk.intro (E := env) envOk wide func65 rfl (by kernel_rfl) rfl rfl ?_
  refine litE (m := 0) rfl ?_
  refine And.intro (fun (h1 : (p0.Op == 2) = true) => ?_) (fun (h1 : (p0.Op == 2) = false) => ?_)
  · refine And.intro (fun (h2 : (p0.Lin != (-1)) = true) => ?_) (fun (h2 : (p0.Lin != (-1)) = false) => ?_)
    · refine And.intro (fun _ => .v _) ?_
      have hg : impl_judged p0 = (!p0.Void) := by
        first | rfl | (simp only [impl_judged, h1, h2, cond_true, cond_false, Step.fin_stop, Step.fin_done, Fin.get_fin, Fin.get_done, Step.fin_next, Bool.not_true, Bool.not_false, Option.getD_some]) | (simp [impl_judged, h1, h2, cond_true, cond_false, Step.fin_stop, Step.fin_done, Fin.get_fin, Fin.get_done, Step.fin_next, Bool.not_true, Bool.not_false, Option.getD_some])
      exact congrArg (fun g : Bool => AV.one (.v (.bool g))) hg.symm
    · refine And.intro (fun _ => .v _) ?_
      have hg : impl_judged p0 = false := by
        first | rfl | (simp only [impl_judged, h1, h2, cond_true, cond_false, Step.fin_stop, Step.fin_done, Fin.get_fin, Fin.get_done, Step.fin_next, Bool.not_true, Bool.not_false, Option.getD_some]) | (simp [impl_judged, h1, h2, cond_true, cond_false, Step.fin_stop, Step.fin_done, Fin.get_fin, Fin.get_done, Step.fin_next, Bool.not_true, Bool.not_false, Option.getD_some])
      exact congrArg (fun g : Bool => AV.one (.v (.bool g))) hg.symm
  · refine And.intro (fun _ => .v _) ?_
    have hg : impl_judged p0 = false := by
      first | rfl | (simp only [impl_judged, h1, cond_true, cond_false, Step.fin_stop, Step.fin_done, Fin.get_fin, Fin.get_done, Step.fin_next, Bool.not_true, Bool.not_false, Option.getD_some]) | (simp [impl_judged, h1, cond_true, cond_false, Step.fin_stop, Step.fin_done, Fin.get_fin, Fin.get_done, Step.fin_next, Bool.not_true, Bool.not_false, Option.getD_some])
    exact congrArg (fun g : Bool => AV.one (.v (.bool g))) hg.symm
def impl_Kept_1 (p0 : Deed) (c0 : Int) : Bool :=
  (bif (impl_judged p0) then (bif p0.Keep then (p0.Stamp == c0) else false) else false)
theorem c_impl_Kept_1 (p0 : Deed) (c0 : Int) : FnOk prog 64 [.agg ((Deed.cells false) p0), .one (.q 1 [[.v (.int .i64 c0)]] 0 0)] ⟨.one (.v (.bool (impl_Kept_1 p0 c0))), [], [], false⟩ := by
  refine FnOk.intro (E := env) envOk wide func64 rfl (by kernel_rfl) rfl rfl ?_
  refine litE (m := 0) rfl ?_
  refine ⟨_, _, c_impl_judged p0, (FzAs.same _), ?_⟩
  refine litE (m := 2) rfl ?_
  refine And.intro (fun (h1 : (impl_judged p0) = true) => ?_) (fun (h1 : (impl_judged p0) = false) => ?_)
  · refine And.intro (fun (h2 : p0.Keep = true) => ?_) (fun (h2 : p0.Keep = false) => ?_)
    · refine And.intro (fun _ => .v _) ?_
      have hg : impl_Kept_1 p0 c0 = (p0.Stamp == c0) := by
        first | rfl | (simp only [impl_Kept_1, h1, h2, cond_true, cond_false, Step.fin_stop, Step.fin_done, Fin.get_fin, Fin.get_done, Step.fin_next, Bool.not_true, Bool.not_false, Option.getD_some]) | (simp [impl_Kept_1, h1, h2, cond_true, cond_false, Step.fin_stop, Step.fin_done, Fin.get_fin, Fin.get_done, Step.fin_next, Bool.not_true, Bool.not_false, Option.getD_some])
      exact congrArg (fun g : Bool => AV.one (.v (.bool g))) hg.symm
    · refine And.intro (fun _ => .v _) ?_
      have hg : impl_Kept_1 p0 c0 = false := by
        first | rfl | (simp only [impl_Kept_1, h1, h2, cond_true, cond_false, Step.fin_stop, Step.fin_done, Fin.get_fin, Fin.get_done, Step.fin_next, Bool.not_true, Bool.not_false, Option.getD_some]) | (simp [impl_Kept_1, h1, h2, cond_true, cond_false, Step.fin_stop, Step.fin_done, Fin.get_fin, Fin.get_done, Step.fin_next, Bool.not_true, Bool.not_false, Option.getD_some])
      exact congrArg (fun g : Bool => AV.one (.v (.bool g))) hg.symm
  · refine And.intro (fun _ => .v _) ?_
    have hg : impl_Kept_1 p0 c0 = false := by
      first | rfl | (simp only [impl_Kept_1, h1, cond_true, cond_false, Step.fin_stop, Step.fin_done, Fin.get_fin, Fin.get_done, Step.fin_next, Bool.not_true, Bool.not_false, Option.getD_some]) | (simp [impl_Kept_1, h1, cond_true, cond_false, Step.fin_stop, Step.fin_done, Fin.get_fin, Fin.get_done, Step.fin_next, Bool.not_true, Bool.not_false, Option.getD_some])
    exact congrArg (fun g : Bool => AV.one (.v (.bool g))) hg.symm
def slices_IndexFunc_76_c64_b1 (p1_0 : Int) (i1 : Nat) (s1 : Unit) (a1 : Deed) : Step (Unit) Int :=
  (bif (impl_Kept_1 a1 p1_0) then (.done ((i1 : Nat) : Int)) else (.next ()))
def slices_IndexFunc_76_c64 (p0 : (List Deed)) (p1_0 : Int) : Int :=
  (Fin.get (fun s1 => (-1)) (loopL (slices_IndexFunc_76_c64_b1 p1_0) 0 () p0))
theorem c_slices_IndexFunc_76_c64 (p0 : (List Deed)) (p1_0 : Int) : FnOk prog 76 [.one (.s false 20 (List.map (Deed.cells false) p0)), .one (.c 64 [.q 1 [[.v (.int .i64 p1_0)]] 0 0])] ⟨.one (.v (.int .i64 (slices_IndexFunc_76_c64 p0 p1_0))), [], [], false⟩ := by
  refine FnOk.intro (E := env) envOk wide func76 rfl (by kernel_rfl) rfl rfl ?_
  refine lenE (k := (p0).length) (by simp) (fun hN1 => ?_)
  refine loop_rule (α := LstSt (slices_IndexFunc_76_c64_b1 p1_0) () p0) [0, 1, 7] (fun x1 => [(8, .one (.v (.int .i64 ((x1.i : Nat) : Int))))]) (fun x1 => []) (fun x1 => (p0).length - x1.i) .init [] ?_ (fun x1 => ?_)
  · exact ⟨rfl, ⟨rfl, rfl, ⟨rfl, ⟨rfl, trivial⟩⟩, rfl, trivial⟩, trivial, trivial⟩
  · refine And.intro (fun (h2 : (decide (((x1.i : Nat) : Int) < (((p0).length : Nat) : Int))) = true) => ?_) (fun (h2 : (decide (((x1.i : Nat) : Int) < (((p0).length : Nat) : Int))) = false) => ?_)
    · have hi1 : x1.i < (p0).length := by simpa using h2
      have hw1 : IntKind.i64.wrap ((x1.i : Int) + 1) = ((x1.i + 1 : Nat) : Int) := wrap_succ hi1 (by first | assumption | omega)
      refine And.intro (fun _ => by exact idx_at hi1) (rowAtE (i := x1.i) (l := p0) rfl hi1 ?_)
      refine ⟨_, _, c_impl_Kept_1 (p0[x1.i]'hi1) p1_0, (FzAs.same _), ?_⟩
      refine litE (m := 1) rfl ?_
      refine And.intro (fun (h3 : (impl_Kept_1 (p0[x1.i]'hi1) p1_0) = true) => ?_) (fun (h3 : (impl_Kept_1 (p0[x1.i]'hi1) p1_0) = false) => ?_)
      · have hb1 := x1.out hi1 (by first | rfl | simp only [slices_IndexFunc_76_c64_b1, h2, h3, cond_true, cond_false, Bool.not_true, Bool.not_false, Option.getD_some, Step.isNext_stop, Step.isNext_done, Step.fin_stop, Step.fin_done, Fin.get_fin, Fin.get_done])
        refine And.intro (fun _ => .v _) ?_
        have hg : slices_IndexFunc_76_c64 p0 p1_0 = ((x1.i : Nat) : Int) := by
          first | rfl | (simp only [slices_IndexFunc_76_c64, slices_IndexFunc_76_c64_b1, h2, h3, hb1, cond_true, cond_false, Step.fin_stop, Step.fin_done, Fin.get_fin, Fin.get_done, Step.fin_next, Bool.not_true, Bool.not_false, Option.getD_some]) | (simp [slices_IndexFunc_76_c64, slices_IndexFunc_76_c64_b1, h2, h3, hb1, cond_true, cond_false, Step.fin_stop, Step.fin_done, Fin.get_fin, Fin.get_done, Step.fin_next, Bool.not_true, Bool.not_false, Option.getD_some])
        exact congrArg (fun g : Int => AV.one (.v (.int .i64 g))) hg.symm
      · refine x1.go hi1 (v := ()) (by first | rfl | simp only [slices_IndexFunc_76_c64_b1, h2, h3, cond_true, cond_false, Bool.not_true, Bool.not_false, Option.getD_some, Step.fin_stop, Step.fin_done, Fin.get_fin, Fin.get_done]) [] (by show _ - (x1.i + 1) < _ - x1.i; omega) ?_
        exact ⟨rfl, ⟨(eqInt hw1), rfl, ⟨rfl, ⟨rfl, trivial⟩⟩, rfl, trivial⟩, trivial, trivial⟩
    · have hf1 := x1.fin (show ¬ x1.i < (p0).length by simpa using h2)
      refine And.intro (fun _ => .v _) ?_
      have hg : slices_IndexFunc_76_c64 p0 p1_0 = (-1) := by
        first | rfl | (simp only [slices_IndexFunc_76_c64, slices_IndexFunc_76_c64_b1, h2, hf1, cond_true, cond_false, Step.fin_stop, Step.fin_done, Fin.get_fin, Fin.get_done, Step.fin_next, Bool.not_true, Bool.not_false, Option.getD_some]) | (simp [slices_IndexFunc_76_c64, slices_IndexFunc_76_c64_b1, h2, hf1, cond_true, cond_false, Step.fin_stop, Step.fin_done, Fin.get_fin, Fin.get_done, Step.fin_next, Bool.not_true, Bool.not_false, Option.getD_some])
      exact congrArg (fun g : Int => AV.one (.v (.int .i64 g))) hg.symm
def slices_ContainsFunc_63_c64 (p0 : (List Deed)) (p1_0 : Int) : Bool :=
  (decide ((slices_IndexFunc_76_c64 p0 p1_0) ≥ 0))
theorem c_slices_ContainsFunc_63_c64 (p0 : (List Deed)) (p1_0 : Int) : FnOk prog 63 [.one (.s false 20 (List.map (Deed.cells false) p0)), .one (.c 64 [.q 1 [[.v (.int .i64 p1_0)]] 0 0])] ⟨.one (.v (.bool (slices_ContainsFunc_63_c64 p0 p1_0))), [], [], false⟩ := by
  refine FnOk.intro (E := env) envOk wide func63 rfl (by kernel_rfl) rfl rfl ?_
  refine ⟨_, _, c_slices_IndexFunc_76_c64 p0 p1_0, (FzAs.same _), ?_⟩
  refine litE (m := 1) rfl ?_
  refine And.intro (fun _ => .v _) ?_
  have hg : slices_ContainsFunc_63_c64 p0 p1_0 = (decide ((slices_IndexFunc_76_c64 p0 p1_0) ≥ 0)) := by
    first | rfl | (simp only [slices_ContainsFunc_63_c64, cond_true, cond_false, Step.fin_stop, Step.fin_done, Fin.get_fin, Fin.get_done, Step.fin_next, Bool.not_true, Bool.not_false, Option.getD_some]) | (simp [slices_ContainsFunc_63_c64, cond_true, cond_false, Step.fin_stop, Step.fin_done, Fin.get_fin, Fin.get_done, Step.fin_next, Bool.not_true, Bool.not_false, Option.getD_some])
  exact congrArg (fun g : Bool => AV.one (.v (.bool g))) hg.symm
def impl_Kept (p0 : (List Deed)) (p1 : Int) : Bool :=
  (slices_ContainsFunc_63_c64 p0 p1)
theorem c_impl_Kept (p0 : (List Deed)) (p1 : Int) : FnOk prog 38 [.one (.s false 20 (List.map (Deed.cells false) p0)), .one (.v (.int .i64 p1))] ⟨.one (.v (.bool (impl_Kept p0 p1))), [], [], false⟩ := by
  refine FnOk.intro (E := env) envOk wide func38 rfl (by kernel_rfl) rfl rfl ?_
  refine litE (m := 0) rfl ?_
  refine ⟨_, _, c_slices_ContainsFunc_63_c64 p0 p1, (FzAs.same _), ?_⟩
  refine litE (m := 2) rfl ?_
  refine And.intro (fun _ => .v _) ?_
  have hg : impl_Kept p0 p1 = (slices_ContainsFunc_63_c64 p0 p1) := by
    first | rfl | (simp only [impl_Kept, cond_true, cond_false, Step.fin_stop, Step.fin_done, Fin.get_fin, Fin.get_done, Step.fin_next, Bool.not_true, Bool.not_false, Option.getD_some]) | (simp [impl_Kept, cond_true, cond_false, Step.fin_stop, Step.fin_done, Fin.get_fin, Fin.get_done, Step.fin_next, Bool.not_true, Bool.not_false, Option.getD_some])
  exact congrArg (fun g : Bool => AV.one (.v (.bool g))) hg.symm
def laws_eqAttr (p0 : Attr) (p1 : Attr) : Bool :=
  (bif (!decide (p0.Key = p1.Key)) then false else (bif (!(p0.Num == p1.Num)) then false else (bif (p0.N != p1.N) then false else (bif (!decide (p0.Text = p1.Text)) then false else true))))
theorem c_laws_eqAttr (p0 : Attr) (p1 : Attr) : FnOk prog 81 [.agg (Attr.cells p0), .agg (Attr.cells p1)] ⟨.one (.v (.bool (laws_eqAttr p0 p1))), [], [], false⟩ := by
  refine FnOk.intro (E := env) envOk wide func81 rfl (by kernel_rfl) rfl rfl ?_
  refine litE (m := 0) rfl ?_
  refine litE (m := 1) rfl ?_
  refine And.intro (fun (h1 : (!decide (p0.Key = p1.Key)) = true) => ?_) (fun (h1 : (!decide (p0.Key = p1.Key)) = false) => ?_)
  · refine And.intro (fun _ => .v _) ?_
    have hg : laws_eqAttr p0 p1 = false := by
      first | rfl | (simp only [laws_eqAttr, h1, cond_true, cond_false, Step.fin_stop, Step.fin_done, Fin.get_fin, Fin.get_done, Step.fin_next, Bool.not_true, Bool.not_false, Option.getD_some]) | (simp [laws_eqAttr, h1, cond_true, cond_false, Step.fin_stop, Step.fin_done, Fin.get_fin, Fin.get_done, Step.fin_next, Bool.not_true, Bool.not_false, Option.getD_some])
    exact congrArg (fun g : Bool => AV.one (.v (.bool g))) hg.symm
  · refine And.intro (fun (h2 : (!(p0.Num == p1.Num)) = true) => ?_) (fun (h2 : (!(p0.Num == p1.Num)) = false) => ?_)
    · refine And.intro (fun _ => .v _) ?_
      have hg : laws_eqAttr p0 p1 = false := by
        first | rfl | (simp only [laws_eqAttr, h1, h2, cond_true, cond_false, Step.fin_stop, Step.fin_done, Fin.get_fin, Fin.get_done, Step.fin_next, Bool.not_true, Bool.not_false, Option.getD_some]) | (simp [laws_eqAttr, h1, h2, cond_true, cond_false, Step.fin_stop, Step.fin_done, Fin.get_fin, Fin.get_done, Step.fin_next, Bool.not_true, Bool.not_false, Option.getD_some])
      exact congrArg (fun g : Bool => AV.one (.v (.bool g))) hg.symm
    · refine And.intro (fun (h3 : (p0.N != p1.N) = true) => ?_) (fun (h3 : (p0.N != p1.N) = false) => ?_)
      · refine And.intro (fun _ => .v _) ?_
        have hg : laws_eqAttr p0 p1 = false := by
          first | rfl | (simp only [laws_eqAttr, h1, h2, h3, cond_true, cond_false, Step.fin_stop, Step.fin_done, Fin.get_fin, Fin.get_done, Step.fin_next, Bool.not_true, Bool.not_false, Option.getD_some]) | (simp [laws_eqAttr, h1, h2, h3, cond_true, cond_false, Step.fin_stop, Step.fin_done, Fin.get_fin, Fin.get_done, Step.fin_next, Bool.not_true, Bool.not_false, Option.getD_some])
        exact congrArg (fun g : Bool => AV.one (.v (.bool g))) hg.symm
      · refine And.intro (fun (h4 : (!decide (p0.Text = p1.Text)) = true) => ?_) (fun (h4 : (!decide (p0.Text = p1.Text)) = false) => ?_)
        · refine And.intro (fun _ => .v _) ?_
          have hg : laws_eqAttr p0 p1 = false := by
            first | rfl | (simp only [laws_eqAttr, h1, h2, h3, h4, cond_true, cond_false, Step.fin_stop, Step.fin_done, Fin.get_fin, Fin.get_done, Step.fin_next, Bool.not_true, Bool.not_false, Option.getD_some]) | (simp [laws_eqAttr, h1, h2, h3, h4, cond_true, cond_false, Step.fin_stop, Step.fin_done, Fin.get_fin, Fin.get_done, Step.fin_next, Bool.not_true, Bool.not_false, Option.getD_some])
          exact congrArg (fun g : Bool => AV.one (.v (.bool g))) hg.symm
        · refine And.intro (fun _ => .v _) ?_
          have hg : laws_eqAttr p0 p1 = true := by
            first | rfl | (simp only [laws_eqAttr, h1, h2, h3, h4, cond_true, cond_false, Step.fin_stop, Step.fin_done, Fin.get_fin, Fin.get_done, Step.fin_next, Bool.not_true, Bool.not_false, Option.getD_some]) | (simp [laws_eqAttr, h1, h2, h3, h4, cond_true, cond_false, Step.fin_stop, Step.fin_done, Fin.get_fin, Fin.get_done, Step.fin_next, Bool.not_true, Bool.not_false, Option.getD_some])
          exact congrArg (fun g : Bool => AV.one (.v (.bool g))) hg.symm
theorem rf_laws_eqAttr (x : Attr) : laws_eqAttr x x = true := by
  simp [laws_eqAttr]
def laws_eqAttrS_b1 (p1 : (List Attr)) (i1 : Nat) (s1 : Unit) (a1 : Attr) : Step (Unit) Bool :=
  (bif (!(laws_eqAttr a1 (p1[i1]?.getD default))) then (.done false) else (.next ()))
def laws_eqAttrS (p0 : (List Attr)) (p1 : (List Attr)) : Bool :=
  (bif ((((p0).length : Nat) : Int) != (((p1).length : Nat) : Int)) then false else (Fin.get (fun s1 => true) (loopL (laws_eqAttrS_b1 p1) 0 () p0)))
theorem c_laws_eqAttrS (p0 : (List Attr)) (p1 : (List Attr)) : FnOk prog 75 [.one (.s false 4 (List.map Attr.cells p0)), .one (.s false 4 (List.map Attr.cells p1))] ⟨.one (.v (.bool (laws_eqAttrS p0 p1))), [], [], false⟩ := by
  refine FnOk.intro (E := env) envOk wide func75 rfl (by kernel_rfl) rfl rfl ?_
  refine lenE (k := (p0).length) (by simp) (fun hN1 => ?_)
  refine lenE (k := (p1).length) (by simp) (fun hN2 => ?_)
  refine And.intro (fun (h3 : ((((p0).length : Nat) : Int) != (((p1).length : Nat) : Int)) = true) => ?_) (fun (h3 : ((((p0).length : Nat) : Int) != (((p1).length : Nat) : Int)) = false) => ?_)
  · refine And.intro (fun _ => .v _) ?_
    have hg : laws_eqAttrS p0 p1 = false := by
      first | rfl | (simp only [laws_eqAttrS, h3, cond_true, cond_false, Step.fin_stop, Step.fin_done, Fin.get_fin, Fin.get_done, Step.fin_next, Bool.not_true, Bool.not_false, Option.getD_some]) | (simp [laws_eqAttrS, h3, cond_true, cond_false, Step.fin_stop, Step.fin_done, Fin.get_fin, Fin.get_done, Step.fin_next, Bool.not_true, Bool.not_false, Option.getD_some])
    exact congrArg (fun g : Bool => AV.one (.v (.bool g))) hg.symm
  · refine loop_rule (α := LstSt (laws_eqAttrS_b1 p1) () p0) [0, 1] (fun x1 => [(5, .one (.v (.int .i64 ((x1.i : Nat) : Int))))]) (fun x1 => []) (fun x1 => (p0).length - x1.i) .init [] ?_ (fun x1 => ?_)
    · exact ⟨rfl, ⟨rfl, rfl, rfl, trivial⟩, trivial, trivial⟩
    · refine lenE (k := (p0).length) (by simp) (fun hN4 => ?_)
      refine And.intro (fun (h5 : (decide (((x1.i : Nat) : Int) < (((p0).length : Nat) : Int))) = true) => ?_) (fun (h5 : (decide (((x1.i : Nat) : Int) < (((p0).length : Nat) : Int))) = false) => ?_)
      · have hi1 : x1.i < (p0).length := by simpa using h5
        have hw1 : IntKind.i64.wrap ((x1.i : Int) + 1) = ((x1.i + 1 : Nat) : Int) := wrap_succ hi1 (by first | assumption | omega)
        refine And.intro (fun _ => by exact idx_at hi1) (rowAtE (i := x1.i) (l := p0) rfl hi1 ?_)
        refine And.intro (fun _ => by (first | omega | (simp; done) | (simp; omega) | (simp at *; omega) | (simp at *; done) | (simp_all; done) | (simp_all; omega))) (rowOfE (i := x1.i) (l := p1) rfl (fun e6 he6 => ?_))
        refine ⟨_, _, c_laws_eqAttr (p0[x1.i]'hi1) e6, (FzAs.same _), ?_⟩
        refine And.intro (fun (h7 : (!(laws_eqAttr (p0[x1.i]'hi1) e6)) = true) => ?_) (fun (h7 : (!(laws_eqAttr (p0[x1.i]'hi1) e6)) = false) => ?_)
        · have hb1 := x1.out hi1 (by first | rfl | simp only [laws_eqAttrS_b1, h3, h5, he6, h7, cond_true, cond_false, Bool.not_true, Bool.not_false, Option.getD_some, Step.isNext_stop, Step.isNext_done, Step.fin_stop, Step.fin_done, Fin.get_fin, Fin.get_done])
          refine And.intro (fun _ => .v _) ?_
          have hg : laws_eqAttrS p0 p1 = false := by
            first | rfl | (simp only [laws_eqAttrS, laws_eqAttrS_b1, h3, h5, he6, h7, hb1, cond_true, cond_false, Step.fin_stop, Step.fin_done, Fin.get_fin, Fin.get_done, Step.fin_next, Bool.not_true, Bool.not_false, Option.getD_some]) | (simp [laws_eqAttrS, laws_eqAttrS_b1, h3, h5, he6, h7, hb1, cond_true, cond_false, Step.fin_stop, Step.fin_done, Fin.get_fin, Fin.get_done, Step.fin_next, Bool.not_true, Bool.not_false, Option.getD_some])
          exact congrArg (fun g : Bool => AV.one (.v (.bool g))) hg.symm
        · refine x1.go hi1 (v := ()) (by first | rfl | simp only [laws_eqAttrS_b1, h3, h5, he6, h7, cond_true, cond_false, Bool.not_true, Bool.not_false, Option.getD_some, Step.fin_stop, Step.fin_done, Fin.get_fin, Fin.get_done]) [] (by show _ - (x1.i + 1) < _ - x1.i; omega) ?_
          exact ⟨rfl, ⟨(eqInt hw1), rfl, rfl, trivial⟩, trivial, trivial⟩
      · have hf1 := x1.fin (show ¬ x1.i < (p0).length by simpa using h5)
        refine And.intro (fun _ => .v _) ?_
        have hg : laws_eqAttrS p0 p1 = true := by
          first | rfl | (simp only [laws_eqAttrS, laws_eqAttrS_b1, h3, h5, hf1, cond_true, cond_false, Step.fin_stop, Step.fin_done, Fin.get_fin, Fin.get_done, Step.fin_next, Bool.not_true, Bool.not_false, Option.getD_some]) | (simp [laws_eqAttrS, laws_eqAttrS_b1, h3, h5, hf1, cond_true, cond_false, Step.fin_stop, Step.fin_done, Fin.get_fin, Fin.get_done, Step.fin_next, Bool.not_true, Bool.not_false, Option.getD_some])
        exact congrArg (fun g : Bool => AV.one (.v (.bool g))) hg.symm
theorem rf_laws_eqAttrS (x : (List Attr)) : laws_eqAttrS x x = true := eqS_ok (b := laws_eqAttrS_b1) rf_laws_eqAttr (fun _ _ _ _ => rfl) (fun _ _ => rfl) x
def laws_eqSpan (p0 : Span) (p1 : Span) : Bool :=
  (bif (p0.Trace != p1.Trace) then false else (bif (p0.Id != p1.Id) then false else (bif (p0.Start != p1.Start) then false else (bif (p0.End != p1.End) then false else (bif (!(p0.Err == p1.Err)) then false else (bif (!(laws_eqAttrS p0.Attrs p1.Attrs)) then false else true))))))
theorem c_laws_eqSpan (p0 : Span) (p1 : Span) : FnOk prog 57 [.agg ((Span.cells false) p0), .agg ((Span.cells false) p1)] ⟨.one (.v (.bool (laws_eqSpan p0 p1))), [], [], false⟩ := by
  refine FnOk.intro (E := env) envOk wide func57 rfl (by kernel_rfl) rfl rfl ?_
  refine litE (m := 0) rfl ?_
  refine litE (m := 1) rfl ?_
  refine And.intro (fun (h1 : (p0.Trace != p1.Trace) = true) => ?_) (fun (h1 : (p0.Trace != p1.Trace) = false) => ?_)
  · refine And.intro (fun _ => .v _) ?_
    have hg : laws_eqSpan p0 p1 = false := by
      first | rfl | (simp only [laws_eqSpan, h1, cond_true, cond_false, Step.fin_stop, Step.fin_done, Fin.get_fin, Fin.get_done, Step.fin_next, Bool.not_true, Bool.not_false, Option.getD_some]) | (simp [laws_eqSpan, h1, cond_true, cond_false, Step.fin_stop, Step.fin_done, Fin.get_fin, Fin.get_done, Step.fin_next, Bool.not_true, Bool.not_false, Option.getD_some])
    exact congrArg (fun g : Bool => AV.one (.v (.bool g))) hg.symm
  · refine And.intro (fun (h2 : (p0.Id != p1.Id) = true) => ?_) (fun (h2 : (p0.Id != p1.Id) = false) => ?_)
    · refine And.intro (fun _ => .v _) ?_
      have hg : laws_eqSpan p0 p1 = false := by
        first | rfl | (simp only [laws_eqSpan, h1, h2, cond_true, cond_false, Step.fin_stop, Step.fin_done, Fin.get_fin, Fin.get_done, Step.fin_next, Bool.not_true, Bool.not_false, Option.getD_some]) | (simp [laws_eqSpan, h1, h2, cond_true, cond_false, Step.fin_stop, Step.fin_done, Fin.get_fin, Fin.get_done, Step.fin_next, Bool.not_true, Bool.not_false, Option.getD_some])
      exact congrArg (fun g : Bool => AV.one (.v (.bool g))) hg.symm
    · refine And.intro (fun (h3 : (p0.Start != p1.Start) = true) => ?_) (fun (h3 : (p0.Start != p1.Start) = false) => ?_)
      · refine And.intro (fun _ => .v _) ?_
        have hg : laws_eqSpan p0 p1 = false := by
          first | rfl | (simp only [laws_eqSpan, h1, h2, h3, cond_true, cond_false, Step.fin_stop, Step.fin_done, Fin.get_fin, Fin.get_done, Step.fin_next, Bool.not_true, Bool.not_false, Option.getD_some]) | (simp [laws_eqSpan, h1, h2, h3, cond_true, cond_false, Step.fin_stop, Step.fin_done, Fin.get_fin, Fin.get_done, Step.fin_next, Bool.not_true, Bool.not_false, Option.getD_some])
        exact congrArg (fun g : Bool => AV.one (.v (.bool g))) hg.symm
      · refine And.intro (fun (h4 : (p0.End != p1.End) = true) => ?_) (fun (h4 : (p0.End != p1.End) = false) => ?_)
        · refine And.intro (fun _ => .v _) ?_
          have hg : laws_eqSpan p0 p1 = false := by
            first | rfl | (simp only [laws_eqSpan, h1, h2, h3, h4, cond_true, cond_false, Step.fin_stop, Step.fin_done, Fin.get_fin, Fin.get_done, Step.fin_next, Bool.not_true, Bool.not_false, Option.getD_some]) | (simp [laws_eqSpan, h1, h2, h3, h4, cond_true, cond_false, Step.fin_stop, Step.fin_done, Fin.get_fin, Fin.get_done, Step.fin_next, Bool.not_true, Bool.not_false, Option.getD_some])
          exact congrArg (fun g : Bool => AV.one (.v (.bool g))) hg.symm
        · refine And.intro (fun (h5 : (!(p0.Err == p1.Err)) = true) => ?_) (fun (h5 : (!(p0.Err == p1.Err)) = false) => ?_)
          · refine And.intro (fun _ => .v _) ?_
            have hg : laws_eqSpan p0 p1 = false := by
              first | rfl | (simp only [laws_eqSpan, h1, h2, h3, h4, h5, cond_true, cond_false, Step.fin_stop, Step.fin_done, Fin.get_fin, Fin.get_done, Step.fin_next, Bool.not_true, Bool.not_false, Option.getD_some]) | (simp [laws_eqSpan, h1, h2, h3, h4, h5, cond_true, cond_false, Step.fin_stop, Step.fin_done, Fin.get_fin, Fin.get_done, Step.fin_next, Bool.not_true, Bool.not_false, Option.getD_some])
            exact congrArg (fun g : Bool => AV.one (.v (.bool g))) hg.symm
          · refine ⟨_, _, c_laws_eqAttrS p0.Attrs p1.Attrs, (FzAs.same _), ?_⟩
            refine litE (m := 3) rfl ?_
            refine And.intro (fun (h6 : (!(laws_eqAttrS p0.Attrs p1.Attrs)) = true) => ?_) (fun (h6 : (!(laws_eqAttrS p0.Attrs p1.Attrs)) = false) => ?_)
            · refine And.intro (fun _ => .v _) ?_
              have hg : laws_eqSpan p0 p1 = false := by
                first | rfl | (simp only [laws_eqSpan, h1, h2, h3, h4, h5, h6, cond_true, cond_false, Step.fin_stop, Step.fin_done, Fin.get_fin, Fin.get_done, Step.fin_next, Bool.not_true, Bool.not_false, Option.getD_some]) | (simp [laws_eqSpan, h1, h2, h3, h4, h5, h6, cond_true, cond_false, Step.fin_stop, Step.fin_done, Fin.get_fin, Fin.get_done, Step.fin_next, Bool.not_true, Bool.not_false, Option.getD_some])
              exact congrArg (fun g : Bool => AV.one (.v (.bool g))) hg.symm
            · refine And.intro (fun _ => .v _) ?_
              have hg : laws_eqSpan p0 p1 = true := by
                first | rfl | (simp only [laws_eqSpan, h1, h2, h3, h4, h5, h6, cond_true, cond_false, Step.fin_stop, Step.fin_done, Fin.get_fin, Fin.get_done, Step.fin_next, Bool.not_true, Bool.not_false, Option.getD_some]) | (simp [laws_eqSpan, h1, h2, h3, h4, h5, h6, cond_true, cond_false, Step.fin_stop, Step.fin_done, Fin.get_fin, Fin.get_done, Step.fin_next, Bool.not_true, Bool.not_false, Option.getD_some])
              exact congrArg (fun g : Bool => AV.one (.v (.bool g))) hg.symm
theorem rf_laws_eqSpan (x : Span) : laws_eqSpan x x = true := by
  simp [laws_eqSpan, rf_laws_eqAttr, rf_laws_eqAttrS]
def laws_eqDeed (p0 : Deed) (p1 : Deed) : Bool :=
  (bif (p0.Op != p1.Op) then false else (bif (p0.Task != p1.Task) then false else (bif (!(laws_eqSpan p0.S p1.S)) then false else (bif (p0.Trace != p1.Trace) then false else (bif (p0.Stamp != p1.Stamp) then false else (bif (p0.Code != p1.Code) then false else (bif (!(p0.Keep == p1.Keep)) then false else (bif (!(p0.Void == p1.Void)) then false else (bif (p0.Took != p1.Took) then false else (bif (p0.N != p1.N) then false else (bif (p0.Forgot != p1.Forgot) then false else (bif (p0.Now != p1.Now) then false else (bif (p0.Inv != p1.Inv) then false else (bif (p0.Lin != p1.Lin) then false else (bif (p0.Res != p1.Res) then false else true)))))))))))))))
theorem c_laws_eqDeed (p0 : Deed) (p1 : Deed) : FnOk prog 60 [.agg ((Deed.cells false) p0), .agg ((Deed.cells false) p1)] ⟨.one (.v (.bool (laws_eqDeed p0 p1))), [], [], false⟩ := by
  refine FnOk.intro (E := env) envOk wide func60 rfl (by kernel_rfl) rfl rfl ?_
  refine litE (m := 0) rfl ?_
  refine litE (m := 1) rfl ?_
  refine And.intro (fun (h1 : (p0.Op != p1.Op) = true) => ?_) (fun (h1 : (p0.Op != p1.Op) = false) => ?_)
  · refine And.intro (fun _ => .v _) ?_
    have hg : laws_eqDeed p0 p1 = false := by
      first | rfl | (simp only [laws_eqDeed, h1, cond_true, cond_false, Step.fin_stop, Step.fin_done, Fin.get_fin, Fin.get_done, Step.fin_next, Bool.not_true, Bool.not_false, Option.getD_some]) | (simp [laws_eqDeed, h1, cond_true, cond_false, Step.fin_stop, Step.fin_done, Fin.get_fin, Fin.get_done, Step.fin_next, Bool.not_true, Bool.not_false, Option.getD_some])
    exact congrArg (fun g : Bool => AV.one (.v (.bool g))) hg.symm
  · refine And.intro (fun (h2 : (p0.Task != p1.Task) = true) => ?_) (fun (h2 : (p0.Task != p1.Task) = false) => ?_)
    · refine And.intro (fun _ => .v _) ?_
      have hg : laws_eqDeed p0 p1 = false := by
        first | rfl | (simp only [laws_eqDeed, h1, h2, cond_true, cond_false, Step.fin_stop, Step.fin_done, Fin.get_fin, Fin.get_done, Step.fin_next, Bool.not_true, Bool.not_false, Option.getD_some]) | (simp [laws_eqDeed, h1, h2, cond_true, cond_false, Step.fin_stop, Step.fin_done, Fin.get_fin, Fin.get_done, Step.fin_next, Bool.not_true, Bool.not_false, Option.getD_some])
      exact congrArg (fun g : Bool => AV.one (.v (.bool g))) hg.symm
    · refine ⟨_, _, c_laws_eqSpan p0.S p1.S, (FzAs.same _), ?_⟩
      refine litE (m := 3) rfl ?_
      refine And.intro (fun (h3 : (!(laws_eqSpan p0.S p1.S)) = true) => ?_) (fun (h3 : (!(laws_eqSpan p0.S p1.S)) = false) => ?_)
      · refine And.intro (fun _ => .v _) ?_
        have hg : laws_eqDeed p0 p1 = false := by
          first | rfl | (simp only [laws_eqDeed, h1, h2, h3, cond_true, cond_false, Step.fin_stop, Step.fin_done, Fin.get_fin, Fin.get_done, Step.fin_next, Bool.not_true, Bool.not_false, Option.getD_some]) | (simp [laws_eqDeed, h1, h2, h3, cond_true, cond_false, Step.fin_stop, Step.fin_done, Fin.get_fin, Fin.get_done, Step.fin_next, Bool.not_true, Bool.not_false, Option.getD_some])
        exact congrArg (fun g : Bool => AV.one (.v (.bool g))) hg.symm
      · refine And.intro (fun (h4 : (p0.Trace != p1.Trace) = true) => ?_) (fun (h4 : (p0.Trace != p1.Trace) = false) => ?_)
        · refine And.intro (fun _ => .v _) ?_
          have hg : laws_eqDeed p0 p1 = false := by
            first | rfl | (simp only [laws_eqDeed, h1, h2, h3, h4, cond_true, cond_false, Step.fin_stop, Step.fin_done, Fin.get_fin, Fin.get_done, Step.fin_next, Bool.not_true, Bool.not_false, Option.getD_some]) | (simp [laws_eqDeed, h1, h2, h3, h4, cond_true, cond_false, Step.fin_stop, Step.fin_done, Fin.get_fin, Fin.get_done, Step.fin_next, Bool.not_true, Bool.not_false, Option.getD_some])
          exact congrArg (fun g : Bool => AV.one (.v (.bool g))) hg.symm
        · refine And.intro (fun (h5 : (p0.Stamp != p1.Stamp) = true) => ?_) (fun (h5 : (p0.Stamp != p1.Stamp) = false) => ?_)
          · refine And.intro (fun _ => .v _) ?_
            have hg : laws_eqDeed p0 p1 = false := by
              first | rfl | (simp only [laws_eqDeed, h1, h2, h3, h4, h5, cond_true, cond_false, Step.fin_stop, Step.fin_done, Fin.get_fin, Fin.get_done, Step.fin_next, Bool.not_true, Bool.not_false, Option.getD_some]) | (simp [laws_eqDeed, h1, h2, h3, h4, h5, cond_true, cond_false, Step.fin_stop, Step.fin_done, Fin.get_fin, Fin.get_done, Step.fin_next, Bool.not_true, Bool.not_false, Option.getD_some])
            exact congrArg (fun g : Bool => AV.one (.v (.bool g))) hg.symm
          · refine And.intro (fun (h6 : (p0.Code != p1.Code) = true) => ?_) (fun (h6 : (p0.Code != p1.Code) = false) => ?_)
            · refine And.intro (fun _ => .v _) ?_
              have hg : laws_eqDeed p0 p1 = false := by
                first | rfl | (simp only [laws_eqDeed, h1, h2, h3, h4, h5, h6, cond_true, cond_false, Step.fin_stop, Step.fin_done, Fin.get_fin, Fin.get_done, Step.fin_next, Bool.not_true, Bool.not_false, Option.getD_some]) | (simp [laws_eqDeed, h1, h2, h3, h4, h5, h6, cond_true, cond_false, Step.fin_stop, Step.fin_done, Fin.get_fin, Fin.get_done, Step.fin_next, Bool.not_true, Bool.not_false, Option.getD_some])
              exact congrArg (fun g : Bool => AV.one (.v (.bool g))) hg.symm
            · refine And.intro (fun (h7 : (!(p0.Keep == p1.Keep)) = true) => ?_) (fun (h7 : (!(p0.Keep == p1.Keep)) = false) => ?_)
              · refine And.intro (fun _ => .v _) ?_
                have hg : laws_eqDeed p0 p1 = false := by
                  first | rfl | (simp only [laws_eqDeed, h1, h2, h3, h4, h5, h6, h7, cond_true, cond_false, Step.fin_stop, Step.fin_done, Fin.get_fin, Fin.get_done, Step.fin_next, Bool.not_true, Bool.not_false, Option.getD_some]) | (simp [laws_eqDeed, h1, h2, h3, h4, h5, h6, h7, cond_true, cond_false, Step.fin_stop, Step.fin_done, Fin.get_fin, Fin.get_done, Step.fin_next, Bool.not_true, Bool.not_false, Option.getD_some])
                exact congrArg (fun g : Bool => AV.one (.v (.bool g))) hg.symm
              · refine And.intro (fun (h8 : (!(p0.Void == p1.Void)) = true) => ?_) (fun (h8 : (!(p0.Void == p1.Void)) = false) => ?_)
                · refine And.intro (fun _ => .v _) ?_
                  have hg : laws_eqDeed p0 p1 = false := by
                    first | rfl | (simp only [laws_eqDeed, h1, h2, h3, h4, h5, h6, h7, h8, cond_true, cond_false, Step.fin_stop, Step.fin_done, Fin.get_fin, Fin.get_done, Step.fin_next, Bool.not_true, Bool.not_false, Option.getD_some]) | (simp [laws_eqDeed, h1, h2, h3, h4, h5, h6, h7, h8, cond_true, cond_false, Step.fin_stop, Step.fin_done, Fin.get_fin, Fin.get_done, Step.fin_next, Bool.not_true, Bool.not_false, Option.getD_some])
                  exact congrArg (fun g : Bool => AV.one (.v (.bool g))) hg.symm
                · refine And.intro (fun (h9 : (p0.Took != p1.Took) = true) => ?_) (fun (h9 : (p0.Took != p1.Took) = false) => ?_)
                  · refine And.intro (fun _ => .v _) ?_
                    have hg : laws_eqDeed p0 p1 = false := by
                      first | rfl | (simp only [laws_eqDeed, h1, h2, h3, h4, h5, h6, h7, h8, h9, cond_true, cond_false, Step.fin_stop, Step.fin_done, Fin.get_fin, Fin.get_done, Step.fin_next, Bool.not_true, Bool.not_false, Option.getD_some]) | (simp [laws_eqDeed, h1, h2, h3, h4, h5, h6, h7, h8, h9, cond_true, cond_false, Step.fin_stop, Step.fin_done, Fin.get_fin, Fin.get_done, Step.fin_next, Bool.not_true, Bool.not_false, Option.getD_some])
                    exact congrArg (fun g : Bool => AV.one (.v (.bool g))) hg.symm
                  · refine And.intro (fun (h10 : (p0.N != p1.N) = true) => ?_) (fun (h10 : (p0.N != p1.N) = false) => ?_)
                    · refine And.intro (fun _ => .v _) ?_
                      have hg : laws_eqDeed p0 p1 = false := by
                        first | rfl | (simp only [laws_eqDeed, h1, h2, h3, h4, h5, h6, h7, h8, h9, h10, cond_true, cond_false, Step.fin_stop, Step.fin_done, Fin.get_fin, Fin.get_done, Step.fin_next, Bool.not_true, Bool.not_false, Option.getD_some]) | (simp [laws_eqDeed, h1, h2, h3, h4, h5, h6, h7, h8, h9, h10, cond_true, cond_false, Step.fin_stop, Step.fin_done, Fin.get_fin, Fin.get_done, Step.fin_next, Bool.not_true, Bool.not_false, Option.getD_some])
                      exact congrArg (fun g : Bool => AV.one (.v (.bool g))) hg.symm
                    · refine And.intro (fun (h11 : (p0.Forgot != p1.Forgot) = true) => ?_) (fun (h11 : (p0.Forgot != p1.Forgot) = false) => ?_)
                      · refine And.intro (fun _ => .v _) ?_
                        have hg : laws_eqDeed p0 p1 = false := by
                          first | rfl | (simp only [laws_eqDeed, h1, h2, h3, h4, h5, h6, h7, h8, h9, h10, h11, cond_true, cond_false, Step.fin_stop, Step.fin_done, Fin.get_fin, Fin.get_done, Step.fin_next, Bool.not_true, Bool.not_false, Option.getD_some]) | (simp [laws_eqDeed, h1, h2, h3, h4, h5, h6, h7, h8, h9, h10, h11, cond_true, cond_false, Step.fin_stop, Step.fin_done, Fin.get_fin, Fin.get_done, Step.fin_next, Bool.not_true, Bool.not_false, Option.getD_some])
                        exact congrArg (fun g : Bool => AV.one (.v (.bool g))) hg.symm
                      · refine And.intro (fun (h12 : (p0.Now != p1.Now) = true) => ?_) (fun (h12 : (p0.Now != p1.Now) = false) => ?_)
                        · refine And.intro (fun _ => .v _) ?_
                          have hg : laws_eqDeed p0 p1 = false := by
                            first | rfl | (simp only [laws_eqDeed, h1, h2, h3, h4, h5, h6, h7, h8, h9, h10, h11, h12, cond_true, cond_false, Step.fin_stop, Step.fin_done, Fin.get_fin, Fin.get_done, Step.fin_next, Bool.not_true, Bool.not_false, Option.getD_some]) | (simp [laws_eqDeed, h1, h2, h3, h4, h5, h6, h7, h8, h9, h10, h11, h12, cond_true, cond_false, Step.fin_stop, Step.fin_done, Fin.get_fin, Fin.get_done, Step.fin_next, Bool.not_true, Bool.not_false, Option.getD_some])
                          exact congrArg (fun g : Bool => AV.one (.v (.bool g))) hg.symm
                        · refine And.intro (fun (h13 : (p0.Inv != p1.Inv) = true) => ?_) (fun (h13 : (p0.Inv != p1.Inv) = false) => ?_)
                          · refine And.intro (fun _ => .v _) ?_
                            have hg : laws_eqDeed p0 p1 = false := by
                              first | rfl | (simp only [laws_eqDeed, h1, h2, h3, h4, h5, h6, h7, h8, h9, h10, h11, h12, h13, cond_true, cond_false, Step.fin_stop, Step.fin_done, Fin.get_fin, Fin.get_done, Step.fin_next, Bool.not_true, Bool.not_false, Option.getD_some]) | (simp [laws_eqDeed, h1, h2, h3, h4, h5, h6, h7, h8, h9, h10, h11, h12, h13, cond_true, cond_false, Step.fin_stop, Step.fin_done, Fin.get_fin, Fin.get_done, Step.fin_next, Bool.not_true, Bool.not_false, Option.getD_some])
                            exact congrArg (fun g : Bool => AV.one (.v (.bool g))) hg.symm
                          · refine And.intro (fun (h14 : (p0.Lin != p1.Lin) = true) => ?_) (fun (h14 : (p0.Lin != p1.Lin) = false) => ?_)
                            · refine And.intro (fun _ => .v _) ?_
                              have hg : laws_eqDeed p0 p1 = false := by
                                first | rfl | (simp only [laws_eqDeed, h1, h2, h3, h4, h5, h6, h7, h8, h9, h10, h11, h12, h13, h14, cond_true, cond_false, Step.fin_stop, Step.fin_done, Fin.get_fin, Fin.get_done, Step.fin_next, Bool.not_true, Bool.not_false, Option.getD_some]) | (simp [laws_eqDeed, h1, h2, h3, h4, h5, h6, h7, h8, h9, h10, h11, h12, h13, h14, cond_true, cond_false, Step.fin_stop, Step.fin_done, Fin.get_fin, Fin.get_done, Step.fin_next, Bool.not_true, Bool.not_false, Option.getD_some])
                              exact congrArg (fun g : Bool => AV.one (.v (.bool g))) hg.symm
                            · refine And.intro (fun (h15 : (p0.Res != p1.Res) = true) => ?_) (fun (h15 : (p0.Res != p1.Res) = false) => ?_)
                              · refine And.intro (fun _ => .v _) ?_
                                have hg : laws_eqDeed p0 p1 = false := by
                                  first | rfl | (simp only [laws_eqDeed, h1, h2, h3, h4, h5, h6, h7, h8, h9, h10, h11, h12, h13, h14, h15, cond_true, cond_false, Step.fin_stop, Step.fin_done, Fin.get_fin, Fin.get_done, Step.fin_next, Bool.not_true, Bool.not_false, Option.getD_some]) | (simp [laws_eqDeed, h1, h2, h3, h4, h5, h6, h7, h8, h9, h10, h11, h12, h13, h14, h15, cond_true, cond_false, Step.fin_stop, Step.fin_done, Fin.get_fin, Fin.get_done, Step.fin_next, Bool.not_true, Bool.not_false, Option.getD_some])
                                exact congrArg (fun g : Bool => AV.one (.v (.bool g))) hg.symm
                              · refine And.intro (fun _ => .v _) ?_
                                have hg : laws_eqDeed p0 p1 = true := by
                                  first | rfl | (simp only [laws_eqDeed, h1, h2, h3, h4, h5, h6, h7, h8, h9, h10, h11, h12, h13, h14, h15, cond_true, cond_false, Step.fin_stop, Step.fin_done, Fin.get_fin, Fin.get_done, Step.fin_next, Bool.not_true, Bool.not_false, Option.getD_some]) | (simp [laws_eqDeed, h1, h2, h3, h4, h5, h6, h7, h8, h9, h10, h11, h12, h13, h14, h15, cond_true, cond_false, Step.fin_stop, Step.fin_done, Fin.get_fin, Fin.get_done, Step.fin_next, Bool.not_true, Bool.not_false, Option.getD_some])
                                exact congrArg (fun g : Bool => AV.one (.v (.bool g))) hg.symm
theorem rf_laws_eqDeed (x : Deed) : laws_eqDeed x x = true := by
  simp [laws_eqDeed, rf_laws_eqAttr, rf_laws_eqAttrS, rf_laws_eqSpan]
def laws_eqDeedS_b1 (p1 : (List Deed)) (i1 : Nat) (s1 : Unit) (a1 : Deed) : Step (Unit) Bool :=
  (bif (!(laws_eqDeed a1 (p1[i1]?.getD default))) then (.done false) else (.next ()))
def laws_eqDeedS (p0 : (List Deed)) (p1 : (List Deed)) : Bool :=
  (bif ((((p0).length : Nat) : Int) != (((p1).length : Nat) : Int)) then false else (Fin.get (fun s1 => true) (loopL (laws_eqDeedS_b1 p1) 0 () p0)))
theorem c_laws_eqDeedS (p0 : (List Deed)) (p1 : (List Deed)) : FnOk prog 32 [.one (.s false 20 (List.map (Deed.cells false) p0)), .one (.s false 20 (List.map (Deed.cells false) p1))] ⟨.one (.v (.bool (laws_eqDeedS p0 p1))), [], [], false⟩ := by
  refine FnOk.intro (E := env) envOk wide func32 rfl (by kernel_rfl) rfl rfl ?_
  refine lenE (k := (p0).length) (by simp) (fun hN1 => ?_)
  refine lenE (k := (p1).length) (by simp) (fun hN2 => ?_)
  refine And.intro (fun (h3 : ((((p0).length : Nat) : Int) != (((p1).length : Nat) : Int)) = true) => ?_) (fun (h3 : ((((p0).length : Nat) : Int) != (((p1).length : Nat) : Int)) = false) => ?_)
  · refine And.intro (fun _ => .v _) ?_
    have hg : laws_eqDeedS p0 p1 = false := by
      first | rfl | (simp only [laws_eqDeedS, h3, cond_true, cond_false, Step.fin_stop, Step.fin_done, Fin.get_fin, Fin.get_done, Step.fin_next, Bool.not_true, Bool.not_false, Option.getD_some]) | (simp [laws_eqDeedS, h3, cond_true, cond_false, Step.fin_stop, Step.fin_done, Fin.get_fin, Fin.get_done, Step.fin_next, Bool.not_true, Bool.not_false, Option.getD_some])
    exact congrArg (fun g : Bool => AV.one (.v (.bool g))) hg.symm
  · refine loop_rule (α := LstSt (laws_eqDeedS_b1 p1) () p0) [0, 1] (fun x1 => [(5, .one (.v (.int .i64 ((x1.i : Nat) : Int))))]) (fun x1 => []) (fun x1 => (p0).length - x1.i) .init [] ?_ (fun x1 => ?_)
    · exact ⟨rfl, ⟨rfl, rfl, rfl, trivial⟩, trivial, trivial⟩
    · refine lenE (k := (p0).length) (by simp) (fun hN4 => ?_)
      refine And.intro (fun (h5 : (decide (((x1.i : Nat) : Int) < (((p0).length : Nat) : Int))) = true) => ?_) (fun (h5 : (decide (((x1.i : Nat) : Int) < (((p0).length : Nat) : Int))) = false) => ?_)
      · have hi1 : x1.i < (p0).length := by simpa using h5
        have hw1 : IntKind.i64.wrap ((x1.i : Int) + 1) = ((x1.i + 1 : Nat) : Int) := wrap_succ hi1 (by first | assumption | omega)
        refine And.intro (fun _ => by exact idx_at hi1) (rowAtE (i := x1.i) (l := p0) rfl hi1 ?_)
        refine And.intro (fun _ => by (first | omega | (simp; done) | (simp; omega) | (simp at *; omega) | (simp at *; done) | (simp_all; done) | (simp_all; omega))) (rowOfE (i := x1.i) (l := p1) rfl (fun e6 he6 => ?_))
        refine ⟨_, _, c_laws_eqDeed (p0[x1.i]'hi1) e6, (FzAs.same _), ?_⟩
        refine And.intro (fun (h7 : (!(laws_eqDeed (p0[x1.i]'hi1) e6)) = true) => ?_) (fun (h7 : (!(laws_eqDeed (p0[x1.i]'hi1) e6)) = false) => ?_)
        · have hb1 := x1.out hi1 (by first | rfl | simp only [laws_eqDeedS_b1, h3, h5, he6, h7, cond_true, cond_false, Bool.not_true, Bool.not_false, Option.getD_some, Step.isNext_stop, Step.isNext_done, Step.fin_stop, Step.fin_done, Fin.get_fin, Fin.get_done])
          refine And.intro (fun _ => .v _) ?_
          have hg : laws_eqDeedS p0 p1 = false := by
            first | rfl | (simp only [laws_eqDeedS, laws_eqDeedS_b1, h3, h5, he6, h7, hb1, cond_true, cond_false, Step.fin_stop, Step.fin_done, Fin.get_fin, Fin.get_done, Step.fin_next, Bool.not_true, Bool.not_false, Option.getD_some]) | (simp [laws_eqDeedS, laws_eqDeedS_b1, h3, h5, he6, h7, hb1, cond_true, cond_false, Step.fin_stop, Step.fin_done, Fin.get_fin, Fin.get_done, Step.fin_next, Bool.not_true, Bool.not_false, Option.getD_some])
          exact congrArg (fun g : Bool => AV.one (.v (.bool g))) hg.symm
        · refine x1.go hi1 (v := ()) (by first | rfl | simp only [laws_eqDeedS_b1, h3, h5, he6, h7, cond_true, cond_false, Bool.not_true, Bool.not_false, Option.getD_some, Step.fin_stop, Step.fin_done, Fin.get_fin, Fin.get_done]) [] (by show _ - (x1.i + 1) < _ - x1.i; omega) ?_
          exact ⟨rfl, ⟨(eqInt hw1), rfl, rfl, trivial⟩, trivial, trivial⟩
      · have hf1 := x1.fin (show ¬ x1.i < (p0).length by simpa using h5)
        refine And.intro (fun _ => .v _) ?_
        have hg : laws_eqDeedS p0 p1 = true := by
          first | rfl | (simp only [laws_eqDeedS, laws_eqDeedS_b1, h3, h5, hf1, cond_true, cond_false, Step.fin_stop, Step.fin_done, Fin.get_fin, Fin.get_done, Step.fin_next, Bool.not_true, Bool.not_false, Option.getD_some]) | (simp [laws_eqDeedS, laws_eqDeedS_b1, h3, h5, hf1, cond_true, cond_false, Step.fin_stop, Step.fin_done, Fin.get_fin, Fin.get_done, Step.fin_next, Bool.not_true, Bool.not_false, Option.getD_some])
        exact congrArg (fun g : Bool => AV.one (.v (.bool g))) hg.symm
theorem rf_laws_eqDeedS (x : (List Deed)) : laws_eqDeedS x x = true := eqS_ok (b := laws_eqDeedS_b1) rf_laws_eqDeed (fun _ _ _ _ => rfl) (fun _ _ => rfl) x
def laws_FnExactKept (p0 : (List Deed)) (p1 : Int) : Bool :=
  (bif (decide ((laws_szDeedS p0 1048576) < 0)) then true else (bif (!((impl_Kept (laws_toDeedS p0) p1) == (spec_Kept (laws_toDeedS p0) p1))) then false else (bif (!(laws_eqDeedS (laws_toDeedS p0) (laws_toDeedS p0))) then false else true)))
theorem c_laws_FnExactKept (p0 : (List Deed)) (p1 : Int) (hw0 : bdS Deed.bd 9223372036854775807 p0) : FnOk prog 10 [.one (.s false 20 (List.map (Deed.cells false) p0)), .one (.v (.int .i64 p1))] ⟨.one (.v (.bool (laws_FnExactKept p0 p1))), [], [], false⟩ := by
  refine FnOk.intro (E := env) envOk wide func10 rfl (by kernel_rfl) rfl rfl ?_
  refine ⟨_, _, c_laws_szDeedS p0 1048576, (FzAs.same _), ?_⟩
  refine litE (m := 1) rfl ?_
  refine And.intro (fun (h1 : (decide ((laws_szDeedS p0 1048576) < 0)) = true) => ?_) (fun (h1 : (decide ((laws_szDeedS p0 1048576) < 0)) = false) => ?_)
  · refine And.intro (fun _ => .v _) ?_
    have hg : laws_FnExactKept p0 p1 = true := by
      first | rfl | (simp only [laws_FnExactKept, h1, cond_true, cond_false, Step.fin_stop, Step.fin_done, Fin.get_fin, Fin.get_done, Step.fin_next, Bool.not_true, Bool.not_false, Option.getD_some]) | (simp [laws_FnExactKept, h1, cond_true, cond_false, Step.fin_stop, Step.fin_done, Fin.get_fin, Fin.get_done, Step.fin_next, Bool.not_true, Bool.not_false, Option.getD_some])
    exact congrArg (fun g : Bool => AV.one (.v (.bool g))) hg.symm
  · have hz1 := szd_laws_szDeedS p0 1048576 (by assumption) (by decide) (by decide) (by simpa using h1)
    have hs1 := hz1.1
    have hl1 : (laws_szDeedS p0 1048576) ≤ 1048576 := Int.le_trans hz1.2 (by decide)
    refine ⟨_, _, c_laws_toDeedS p0 (by assumption), (FzAs.same _), ?_⟩
    refine litE (m := 2) rfl ?_
    refine ⟨_, _, c_spec_Kept (laws_toDeedS p0) p1, (.cons (.one (.sl _ _ _ _ (frzMap frz_Deed _))) (.same _)), ?_⟩
    refine litE (m := 4) rfl ?_
    refine ⟨_, _, c_laws_toDeedS p0 (by assumption), (FzAs.same _), ?_⟩
    refine litE (m := 5) rfl ?_
    refine ⟨_, _, c_impl_Kept (laws_toDeedS p0) p1, (.cons (.one (.sl _ _ _ _ (frzMap frz_Deed _))) (.same _)), ?_⟩
    refine litE (m := 7) rfl ?_
    refine And.intro (fun (h2 : (!((impl_Kept (laws_toDeedS p0) p1) == (spec_Kept (laws_toDeedS p0) p1))) = true) => ?_) (fun (h2 : (!((impl_Kept (laws_toDeedS p0) p1) == (spec_Kept (laws_toDeedS p0) p1))) = false) => ?_)
    · refine And.intro (fun _ => .v _) ?_
      have hg : laws_FnExactKept p0 p1 = false := by
        first | rfl | (simp only [laws_FnExactKept, h1, h2, cond_true, cond_false, Step.fin_stop, Step.fin_done, Fin.get_fin, Fin.get_done, Step.fin_next, Bool.not_true, Bool.not_false, Option.getD_some]) | (simp [laws_FnExactKept, h1, h2, cond_true, cond_false, Step.fin_stop, Step.fin_done, Fin.get_fin, Fin.get_done, Step.fin_next, Bool.not_true, Bool.not_false, Option.getD_some])
      exact congrArg (fun g : Bool => AV.one (.v (.bool g))) hg.symm
    · refine ⟨_, _, c_laws_toDeedS p0 (by assumption), (FzAs.same _), ?_⟩
      refine litE (m := 8) rfl ?_
      refine ⟨_, _, c_laws_eqDeedS (laws_toDeedS p0) (laws_toDeedS p0), (.cons (.one (.sl _ _ _ _ (frzMap frz_Deed _))) (.cons (.one (.sl _ _ _ _ (frzMap frz_Deed _))) (.same _))), ?_⟩
      refine litE (m := 10) rfl ?_
      refine And.intro (fun (h3 : (!(laws_eqDeedS (laws_toDeedS p0) (laws_toDeedS p0))) = true) => ?_) (fun (h3 : (!(laws_eqDeedS (laws_toDeedS p0) (laws_toDeedS p0))) = false) => ?_)
      · refine And.intro (fun _ => .v _) ?_
        have hg : laws_FnExactKept p0 p1 = false := by
          first | rfl | (simp only [laws_FnExactKept, h1, h2, h3, cond_true, cond_false, Step.fin_stop, Step.fin_done, Fin.get_fin, Fin.get_done, Step.fin_next, Bool.not_true, Bool.not_false, Option.getD_some]) | (simp [laws_FnExactKept, h1, h2, h3, cond_true, cond_false, Step.fin_stop, Step.fin_done, Fin.get_fin, Fin.get_done, Step.fin_next, Bool.not_true, Bool.not_false, Option.getD_some])
        exact congrArg (fun g : Bool => AV.one (.v (.bool g))) hg.symm
      · refine And.intro (fun _ => .v _) ?_
        have hg : laws_FnExactKept p0 p1 = true := by
          first | rfl | (simp only [laws_FnExactKept, h1, h2, h3, cond_true, cond_false, Step.fin_stop, Step.fin_done, Fin.get_fin, Fin.get_done, Step.fin_next, Bool.not_true, Bool.not_false, Option.getD_some]) | (simp [laws_FnExactKept, h1, h2, h3, cond_true, cond_false, Step.fin_stop, Step.fin_done, Fin.get_fin, Fin.get_done, Step.fin_next, Bool.not_true, Bool.not_false, Option.getD_some])
        exact congrArg (fun g : Bool => AV.one (.v (.bool g))) hg.symm
theorem main_Kept (l : List Deed) (k : Int) : impl_Kept l k = spec_Kept l k := by
  unfold impl_Kept slices_ContainsFunc_63_c64 slices_IndexFunc_76_c64 spec_Kept
  rw [loopC_list (g := fun _ _ a => bif impl_Kept_1 a k then .done true else .next ())]
  · rcases any_loop (p := fun a => impl_Kept_1 a k) (r := fun i => ((i : Nat) : Int)) (b := slices_IndexFunc_76_c64_b1 k) (fun _ _ _ => rfl) l 0 with ⟨h, j, e⟩ | ⟨h, e⟩
    · rcases any_loop (p := fun a => impl_Kept_1 a k) (r := fun _ => true) (b := fun _ _ a => bif impl_Kept_1 a k then .done true else .next ()) (fun _ _ _ => rfl) l 0 with ⟨h', j', e'⟩ | ⟨h', e'⟩
      · rw [e, e']; simp [Fin.get]
      · rw [h] at h'; cases h'
    · rcases any_loop (p := fun a => impl_Kept_1 a k) (r := fun _ => true) (b := fun _ _ a => bif impl_Kept_1 a k then .done true else .next ()) (fun _ _ _ => rfl) l 0 with ⟨h', j', e'⟩ | ⟨h', e'⟩
      · rw [h] at h'; cases h'
      · rw [e, e']; simp [Fin.get]
  · intro i hi s
    simp only [spec_Kept_b1, impl_Kept_1, impl_judged, List.getElem?_eq_getElem hi, Option.getD_some]
    cases (l[i].Op == 2) <;> cases (l[i].Stamp == k) <;> cases (l[i].Lin != -1) <;> cases l[i].Void <;> cases l[i].Keep <;> rfl
theorem law_Kept (p0 : List Deed) (k : Int) : laws_FnExactKept p0 k = true := by
  unfold laws_FnExactKept
  cases decide (laws_szDeedS p0 1048576 < 0) with
  | true => rfl
  | false => simp only [cond_false, id_laws_toDeedS, main_Kept, rf_laws_eqDeedS, beq_self_eq_true, Bool.not_true]
theorem rows_sl {α : Type} (f : α → List T) (W : α → Prop) : ∀ rows : List (List T), (∀ r ∈ rows, ∃ x, r = f x ∧ W x) → ∃ l : List α, rows = l.map f ∧ ∀ x ∈ l, W x
  | [], _ => ⟨[], rfl, by simp⟩
  | r :: rows, h => by
    obtain ⟨x, hx, hw⟩ := h r (by simp)
    obtain ⟨l, hl, hw'⟩ := rows_sl f W rows (fun r hr => h r (by simp [hr]))
    exact ⟨x :: l, by simp [hx, hl], fun y hy => by rcases List.mem_cons.1 hy with rfl | hy; exact hw; exact hw' y hy⟩
theorem shape_sl {α : Type} (f : α → List T) {P : Nat → α → Prop} (W : α → Prop) (hW : W = P 9223372036854775807) {n t e k : Nat} (ht : prog.underlying t = some (.slice e)) (hk : prog.cellsOf e = k) {y : List T} (h : Shape prog (n + 1) t y) (hr : ∀ r, Shape prog n e r → ∃ x, r = f x ∧ W x) :
    ∃ l : List α, y = [.s false k (l.map f)] ∧ bdS P 9223372036854775807 l := by
  subst hW
  unfold Shape at h
  rw [ht] at h
  obtain ⟨rows, h1, h2, h3⟩ := h
  rw [hk] at h1
  obtain ⟨l, rfl, hw⟩ := rows_sl f _ rows (fun r hr' => hr r (h3 r hr').2)
  exact ⟨l, h1, by simpa [maxLen] using h2, hw⟩
theorem shape3 {n : Nat} {l : List T} (h : Shape prog (n + 1) 3 l) : ∃ x : Int, l = [.v (.int .i64 x)] ∧ True := by
  simp only [Shape, underlying3] at h
  obtain ⟨x, hx, _⟩ := h
  exact ⟨x, hx, trivial⟩
theorem arg3 {y : T} (h : Shape prog 20 3 [y]) : ∃ x : Int, y = .v (.int .i64 x) ∧ True := by
  obtain ⟨x, hx, hw⟩ := shape3 (n := 19) h
  exact ⟨x, by simpa using hx, hw⟩
theorem shape4 {n : Nat} {l : List T} (h : Shape prog (n + 1) 4 l) : ∃ x : Bool, l = [.v (.bool x)] ∧ True := by
  simp only [Shape, underlying4] at h
  obtain ⟨x, hx⟩ := h
  exact ⟨x, hx, trivial⟩
theorem arg4 {y : T} (h : Shape prog 20 4 [y]) : ∃ x : Bool, y = .v (.bool x) ∧ True := by
  obtain ⟨x, hx, hw⟩ := shape4 (n := 19) h
  exact ⟨x, by simpa using hx, hw⟩
theorem shape9 {n : Nat} {l : List T} (h : Shape prog (n + 1) 9 l) : ∃ x : ByteArray, l = [.v (.string x)] ∧ (x).size ≤ 9223372036854775807 := by
  simp only [Shape, underlying9] at h
  obtain ⟨x, hx, hw⟩ := h
  exact ⟨x, hx, by simpa [maxLen] using hw⟩
theorem arg9 {y : T} (h : Shape prog 20 9 [y]) : ∃ x : ByteArray, y = .v (.string x) ∧ (x).size ≤ 9223372036854775807 := by
  obtain ⟨x, hx, hw⟩ := shape9 (n := 19) h
  exact ⟨x, by simpa using hx, hw⟩
theorem shape107 {n : Nat} {l : List T} (h : Shape prog (n + 2) 107 l) : ∃ x : Attr, l = Attr.cells x ∧ Attr.bd 9223372036854775807 x := by
  unfold Shape at h
  rw [underlying107] at h
  simp only [ShapeL] at h
  obtain ⟨_, _, rfl, h0, _, _, rfl, h1, _, _, rfl, h2, _, _, rfl, h3, rfl⟩ := h
  obtain ⟨x0, rfl, w0⟩ := shape9 h0
  obtain ⟨x1, rfl, w1⟩ := shape4 h1
  obtain ⟨x2, rfl, w2⟩ := shape3 h2
  obtain ⟨x3, rfl, w3⟩ := shape9 h3
  exact ⟨⟨x0, x1, x2, x3⟩, rfl, ⟨w0, w3⟩⟩
theorem arg107 {l : List T} (h : Shape prog 20 107 l) : ∃ x : Attr, l = Attr.cells x ∧ Attr.bd 9223372036854775807 x := shape107 (n := 18) h
theorem shape75 {n : Nat} {l : List T} (h : Shape prog (n + 3) 75 l) : ∃ x : (List Attr), l = [.s false 4 (List.map Attr.cells x)] ∧ bdS Attr.bd 9223372036854775807 x := by
  exact shape_sl Attr.cells (P := Attr.bd) _ rfl underlying75 (by kernel_rfl) h (fun r hr => shape107 hr)
theorem arg75 {y : T} (h : Shape prog 20 75 [y]) : ∃ x : (List Attr), y = .s false 4 (List.map Attr.cells x) ∧ bdS Attr.bd 9223372036854775807 x := by
  obtain ⟨x, hx, hw⟩ := shape75 (n := 17) h
  exact ⟨x, by simpa using hx, hw⟩
theorem shape77 {n : Nat} {l : List T} (h : Shape prog (n + 4) 77 l) : ∃ x : Span, l = (Span.cells false) x ∧ Span.bd 9223372036854775807 x := by
  unfold Shape at h
  rw [underlying77] at h
  simp only [ShapeL] at h
  obtain ⟨_, _, rfl, h0, _, _, rfl, h1, _, _, rfl, h2, _, _, rfl, h3, _, _, rfl, h4, _, _, rfl, h5, rfl⟩ := h
  obtain ⟨x0, rfl, w0⟩ := shape3 h0
  obtain ⟨x1, rfl, w1⟩ := shape3 h1
  obtain ⟨x2, rfl, w2⟩ := shape3 h2
  obtain ⟨x3, rfl, w3⟩ := shape3 h3
  obtain ⟨x4, rfl, w4⟩ := shape4 h4
  obtain ⟨x5, rfl, w5⟩ := shape75 h5
  exact ⟨⟨x0, x1, x2, x3, x4, x5⟩, rfl, w5⟩
theorem arg77 {l : List T} (h : Shape prog 20 77 l) : ∃ x : Span, l = (Span.cells false) x ∧ Span.bd 9223372036854775807 x := shape77 (n := 16) h
theorem shape81 {n : Nat} {l : List T} (h : Shape prog (n + 5) 81 l) : ∃ x : Deed, l = (Deed.cells false) x ∧ Deed.bd 9223372036854775807 x := by
  unfold Shape at h
  rw [underlying81] at h
  simp only [ShapeL] at h
  obtain ⟨_, _, rfl, h0, _, _, rfl, h1, _, _, rfl, h2, _, _, rfl, h3, _, _, rfl, h4, _, _, rfl, h5, _, _, rfl, h6, _, _, rfl, h7, _, _, rfl, h8, _, _, rfl, h9, _, _, rfl, h10, _, _, rfl, h11, _, _, rfl, h12, _, _, rfl, h13, _, _, rfl, h14, rfl⟩ := h
  obtain ⟨x0, rfl, w0⟩ := shape3 h0
  obtain ⟨x1, rfl, w1⟩ := shape3 h1
  obtain ⟨x2, rfl, w2⟩ := shape77 h2
  obtain ⟨x3, rfl, w3⟩ := shape3 h3
  obtain ⟨x4, rfl, w4⟩ := shape3 h4
  obtain ⟨x5, rfl, w5⟩ := shape3 h5
  obtain ⟨x6, rfl, w6⟩ := shape4 h6
  obtain ⟨x7, rfl, w7⟩ := shape4 h7
  obtain ⟨x8, rfl, w8⟩ := shape3 h8
  obtain ⟨x9, rfl, w9⟩ := shape3 h9
  obtain ⟨x10, rfl, w10⟩ := shape3 h10
  obtain ⟨x11, rfl, w11⟩ := shape3 h11
  obtain ⟨x12, rfl, w12⟩ := shape3 h12
  obtain ⟨x13, rfl, w13⟩ := shape3 h13
  obtain ⟨x14, rfl, w14⟩ := shape3 h14
  exact ⟨⟨x0, x1, x2, x3, x4, x5, x6, x7, x8, x9, x10, x11, x12, x13, x14⟩, rfl, w2⟩
theorem arg81 {l : List T} (h : Shape prog 20 81 l) : ∃ x : Deed, l = (Deed.cells false) x ∧ Deed.bd 9223372036854775807 x := shape81 (n := 15) h
theorem shape47 {n : Nat} {l : List T} (h : Shape prog (n + 6) 47 l) : ∃ x : (List Deed), l = [.s false 20 (List.map (Deed.cells false) x)] ∧ bdS Deed.bd 9223372036854775807 x := by
  exact shape_sl (Deed.cells false) (P := Deed.bd) _ rfl underlying47 (by kernel_rfl) h (fun r hr => shape81 hr)
theorem arg47 {y : T} (h : Shape prog 20 47 [y]) : ∃ x : (List Deed), y = .s false 20 (List.map (Deed.cells false) x) ∧ bdS Deed.bd 9223372036854775807 x := by
  obtain ⟨x, hx, hw⟩ := shape47 (n := 14) h
  exact ⟨x, by simpa using hx, hw⟩
theorem law_c (p0 : (List Deed)) (p1 : Int) (h0 : bdS Deed.bd 9223372036854775807 p0) : FnOk prog 10 [.one (.s false 20 (List.map (Deed.cells false) p0)), .one (.v (.int .i64 p1))] ⟨.one (.v (.bool true)), [], [], false⟩ := by
  have h := c_laws_FnExactKept p0 p1 h0
  rw [law_Kept] at h
  exact h
end Go.Proofs.Try.Ev
