import Derived.Test.YtbfbnamkgcanbaaLTabs
import Derived.Test.YtbfbnamkgcanbaaEvY
set_option linter.unusedSectionVars false
namespace Go.Proofs.Try.Ev
open Go Go.Ev Go.Proofs
set_option maxHeartbeats 4000000
set_option maxRecDepth 100000
set_option linter.unusedSimpArgs false
set_option linter.unusedVariables false
structure Attr where
  Key : ByteArray
  Num : Bool
  N : Int
  Text : ByteArray
deriving DecidableEq, Inhabited
def Attr.cells (x : Attr) : List T := [.v (.string x.Key), .v (.bool x.Num), .v (.int .i64 x.N), .v (.string x.Text)]
theorem own_Attr (x : Attr) : OwnL (Attr.cells x) := ⟨.v _, .v _, .v _, .v _, trivial⟩
theorem frz_Attr (x : Attr) : frzL (Attr.cells x) = Attr.cells x := rfl
theorem fz_Attr (x : Attr) : (Attr.cells x).map T.fz = Attr.cells x := rfl
theorem fl_Attr (x : Attr) : (Attr.cells x).map T.flat = Attr.cells x := rfl
def Attr.bd (M : Nat) (x : Attr) : Prop := x.Key.size ≤ M ∧ x.Text.size ≤ M
structure Span where
  Trace : Int
  Id : Int
  Start : Int
  End : Int
  Err : Bool
  Attrs : (List Attr)
deriving DecidableEq, Inhabited
def Span.cells (o : Bool) (x : Span) : List T := [.v (.int .i64 x.Trace), .v (.int .i64 x.Id), .v (.int .i64 x.Start), .v (.int .i64 x.End), .v (.bool x.Err), .s o 4 (List.map Attr.cells x.Attrs)]
theorem own_Span (x : Span) : OwnL (Span.cells true x) := ⟨.v _, .v _, .v _, .v _, .v _, ownSl own_Attr _, trivial⟩
theorem frz_Span {o : Bool} (x : Span) : frzL (Span.cells o x) = Span.cells false x := by
  show [T.v (.int .i64 x.Trace), T.v (.int .i64 x.Id), T.v (.int .i64 x.Start), T.v (.int .i64 x.End), T.v (.bool x.Err), T.s false 4 (frzLL (List.map Attr.cells x.Attrs))] = _
  rw [frzMap (f := Attr.cells) (g := Attr.cells) frz_Attr x.Attrs]
  rfl
theorem fz_Span {o : Bool} (x : Span) : (Span.cells o x).map T.fz = Span.cells false x := by
  show [T.v (.int .i64 x.Trace), T.v (.int .i64 x.Id), T.v (.int .i64 x.Start), T.v (.int .i64 x.End), T.v (.bool x.Err), T.s false 4 (frzLL (List.map Attr.cells x.Attrs))] = _
  rw [frzMap (f := Attr.cells) (g := Attr.cells) frz_Attr x.Attrs]
  rfl
def Span.bd (M : Nat) (x : Span) : Prop := bdS Attr.bd M x.Attrs
def laws_szAttr (p0 : Attr) (p1 : Int) : Int :=
  (bif (decide ((IntKind.i64.wrap (p1 - (((p0.Key).size : Nat) : Int))) < 0)) then (-1) else (bif (decide ((IntKind.i64.wrap ((IntKind.i64.wrap (p1 - (((p0.Key).size : Nat) : Int))) - (((p0.Text).size : Nat) : Int))) < 0)) then (-1) else (IntKind.i64.wrap ((IntKind.i64.wrap (p1 - (((p0.Key).size : Nat) : Int))) - (((p0.Text).size : Nat) : Int)))))
theorem c_laws_szAttr (p0 : Attr) (p1 : Int) : FnOk prog 79 [.agg (Attr.cells p0), .one (.v (.int .i64 p1))] ⟨.one (.v (.int .i64 (laws_szAttr p0 p1))), [], [], false⟩ := by
  refine FnOk.intro (E := env) envOk wide func79 rfl (by kernel_rfl) rfl rfl ?_
  refine litE (m := 0) rfl ?_
  refine fun hN => ?_
  have hN1 : (_ : Nat) ≤ 9223372036854775807 := hN rfl
  refine And.intro (fun (h2 : (decide ((IntKind.i64.wrap (p1 - (((p0.Key).size : Nat) : Int))) < 0)) = true) => ?_) (fun (h2 : (decide ((IntKind.i64.wrap (p1 - (((p0.Key).size : Nat) : Int))) < 0)) = false) => ?_)
  · refine And.intro (fun _ => .v _) ?_
    have hg : laws_szAttr p0 p1 = (-1) := by
      first | rfl | (simp only [laws_szAttr, h2, cond_true, cond_false, Step.fin_stop, Step.fin_done, Fin.get_fin, Fin.get_done, Step.fin_next, Bool.not_true, Bool.not_false, Option.getD_some]) | (simp [laws_szAttr, h2, cond_true, cond_false, Step.fin_stop, Step.fin_done, Fin.get_fin, Fin.get_done, Step.fin_next, Bool.not_true, Bool.not_false, Option.getD_some])
    exact congrArg (fun g : Int => AV.one (.v (.int .i64 g))) hg.symm
  · refine fun hN => ?_
    have hN3 : (_ : Nat) ≤ 9223372036854775807 := hN rfl
    refine And.intro (fun (h4 : (decide ((IntKind.i64.wrap ((IntKind.i64.wrap (p1 - (((p0.Key).size : Nat) : Int))) - (((p0.Text).size : Nat) : Int))) < 0)) = true) => ?_) (fun (h4 : (decide ((IntKind.i64.wrap ((IntKind.i64.wrap (p1 - (((p0.Key).size : Nat) : Int))) - (((p0.Text).size : Nat) : Int))) < 0)) = false) => ?_)
    · refine And.intro (fun _ => .v _) ?_
      have hg : laws_szAttr p0 p1 = (-1) := by
        first | rfl | (simp only [laws_szAttr, h2, h4, cond_true, cond_false, Step.fin_stop, Step.fin_done, Fin.get_fin, Fin.get_done, Step.fin_next, Bool.not_true, Bool.not_false, Option.getD_some]) | (simp [laws_szAttr, h2, h4, cond_true, cond_false, Step.fin_stop, Step.fin_done, Fin.get_fin, Fin.get_done, Step.fin_next, Bool.not_true, Bool.not_false, Option.getD_some])
      exact congrArg (fun g : Int => AV.one (.v (.int .i64 g))) hg.symm
    · refine And.intro (fun _ => .v _) ?_
      have hg : laws_szAttr p0 p1 = (IntKind.i64.wrap ((IntKind.i64.wrap (p1 - (((p0.Key).size : Nat) : Int))) - (((p0.Text).size : Nat) : Int))) := by
        first | rfl | (simp only [laws_szAttr, h2, h4, cond_true, cond_false, Step.fin_stop, Step.fin_done, Fin.get_fin, Fin.get_done, Step.fin_next, Bool.not_true, Bool.not_false, Option.getD_some]) | (simp [laws_szAttr, h2, h4, cond_true, cond_false, Step.fin_stop, Step.fin_done, Fin.get_fin, Fin.get_done, Step.fin_next, Bool.not_true, Bool.not_false, Option.getD_some])
      exact congrArg (fun g : Int => AV.one (.v (.int .i64 g))) hg.symm
theorem szd_laws_szAttr : Szd Attr.bd laws_szAttr := by
  intro x left hb h0 h1 h2
  unfold laws_szAttr at h2 ⊢
  unfold Attr.bd at hb ⊢
  cases c0 : decide ((IntKind.i64.wrap (left - (((x.Key).size : Nat) : Int))) < 0) with
  | true => simp [c0] at h2
  | false =>
  have p0 : 0 ≤ (IntKind.i64.wrap (left - (((x.Key).size : Nat) : Int))) := by simpa using c0
  have w0 : (IntKind.i64.wrap (left - (((x.Key).size : Nat) : Int))) = left - (((x.Key).size : Nat) : Int) := by have := hb.1; rw [wrap_small] <;> omega
  have b0 : (x.Key).size ≤ 1048576 := by omega
  have u0 : (IntKind.i64.wrap (left - (((x.Key).size : Nat) : Int))) ≤ left := by omega
  have v0 : (IntKind.i64.wrap (left - (((x.Key).size : Nat) : Int))) ≤ 1048576 := by omega
  cases c1 : decide ((IntKind.i64.wrap ((IntKind.i64.wrap (left - (((x.Key).size : Nat) : Int))) - (((x.Text).size : Nat) : Int))) < 0) with
  | true => simp [c0, c1] at h2
  | false =>
  have p1 : 0 ≤ (IntKind.i64.wrap ((IntKind.i64.wrap (left - (((x.Key).size : Nat) : Int))) - (((x.Text).size : Nat) : Int))) := by simpa using c1
  have w1 : (IntKind.i64.wrap ((IntKind.i64.wrap (left - (((x.Key).size : Nat) : Int))) - (((x.Text).size : Nat) : Int))) = (IntKind.i64.wrap (left - (((x.Key).size : Nat) : Int))) - (((x.Text).size : Nat) : Int) := by have := hb.2; rw [wrap_small] <;> omega
  have b1 : (x.Text).size ≤ 1048576 := by omega
  have u1 : (IntKind.i64.wrap ((IntKind.i64.wrap (left - (((x.Key).size : Nat) : Int))) - (((x.Text).size : Nat) : Int))) ≤ (IntKind.i64.wrap (left - (((x.Key).size : Nat) : Int))) := by omega
  have v1 : (IntKind.i64.wrap ((IntKind.i64.wrap (left - (((x.Key).size : Nat) : Int))) - (((x.Text).size : Nat) : Int))) ≤ 1048576 := by omega
  simp only [c0, c1, cond_false] at h2 ⊢
  exact ⟨⟨b0, b1⟩, by omega⟩
def laws_szAttrS_b1 (i1 : Nat) (s1 : Int) (a1 : Attr) : Step (Int) Int :=
  (bif (decide ((laws_szAttr a1 s1) < 0)) then (.done (-1)) else (.next (laws_szAttr a1 s1)))
def laws_szAttrS (p0 : (List Attr)) (p1 : Int) : Int :=
  (bif (decide ((IntKind.i64.wrap (p1 - (((p0).length : Nat) : Int))) < 0)) then (-1) else (Fin.get (fun s1 => s1) (loopL laws_szAttrS_b1 0 (IntKind.i64.wrap (p1 - (((p0).length : Nat) : Int))) p0)))
theorem c_laws_szAttrS (p0 : (List Attr)) (p1 : Int) : FnOk prog 73 [.one (.s false 4 (List.map Attr.cells p0)), .one (.v (.int .i64 p1))] ⟨.one (.v (.int .i64 (laws_szAttrS p0 p1))), [], [], false⟩ := by
  refine FnOk.intro (E := env) envOk wide func73 rfl (by kernel_rfl) rfl rfl ?_
  refine lenE (k := (p0).length) (by simp) (fun hN1 => ?_)
  refine And.intro (fun (h2 : (decide ((IntKind.i64.wrap (p1 - (((p0).length : Nat) : Int))) < 0)) = true) => ?_) (fun (h2 : (decide ((IntKind.i64.wrap (p1 - (((p0).length : Nat) : Int))) < 0)) = false) => ?_)
  · refine And.intro (fun _ => .v _) ?_
    have hg : laws_szAttrS p0 p1 = (-1) := by
      first | rfl | (simp only [laws_szAttrS, h2, cond_true, cond_false, Step.fin_stop, Step.fin_done, Fin.get_fin, Fin.get_done, Step.fin_next, Bool.not_true, Bool.not_false, Option.getD_some]) | (simp [laws_szAttrS, h2, cond_true, cond_false, Step.fin_stop, Step.fin_done, Fin.get_fin, Fin.get_done, Step.fin_next, Bool.not_true, Bool.not_false, Option.getD_some])
    exact congrArg (fun g : Int => AV.one (.v (.int .i64 g))) hg.symm
  · refine loop_rule (α := LstSt laws_szAttrS_b1 (IntKind.i64.wrap (p1 - (((p0).length : Nat) : Int))) p0) [0] (fun x1 => [(1, .one (.v (.int .i64 x1.s))), (5, .one (.v (.int .i64 ((x1.i : Nat) : Int))))]) (fun x1 => []) (fun x1 => (p0).length - x1.i) .init [] ?_ (fun x1 => ?_)
    · exact ⟨rfl, ⟨rfl, rfl, rfl, trivial⟩, trivial, trivial⟩
    · refine lenE (k := (p0).length) (by simp) (fun hN3 => ?_)
      refine And.intro (fun (h4 : (decide (((x1.i : Nat) : Int) < (((p0).length : Nat) : Int))) = true) => ?_) (fun (h4 : (decide (((x1.i : Nat) : Int) < (((p0).length : Nat) : Int))) = false) => ?_)
      · have hi1 : x1.i < (p0).length := by simpa using h4
        have hw1 : IntKind.i64.wrap ((x1.i : Int) + 1) = ((x1.i + 1 : Nat) : Int) := wrap_succ hi1 (by first | assumption | omega)
        refine And.intro (fun _ => by exact idx_at hi1) (rowAtE (i := x1.i) (l := p0) rfl hi1 ?_)
        refine ⟨_, _, c_laws_szAttr (p0[x1.i]'hi1) x1.s, (FzAs.same _), ?_⟩
        refine litE (m := 1) rfl ?_
        refine And.intro (fun (h5 : (decide ((laws_szAttr (p0[x1.i]'hi1) x1.s) < 0)) = true) => ?_) (fun (h5 : (decide ((laws_szAttr (p0[x1.i]'hi1) x1.s) < 0)) = false) => ?_)
        · have hb1 := x1.out hi1 (by first | rfl | simp only [laws_szAttrS_b1, h2, h4, h5, cond_true, cond_false, Bool.not_true, Bool.not_false, Option.getD_some, Step.isNext_stop, Step.isNext_done, Step.fin_stop, Step.fin_done, Fin.get_fin, Fin.get_done])
          refine And.intro (fun _ => .v _) ?_
          have hg : laws_szAttrS p0 p1 = (-1) := by
            first | rfl | (simp only [laws_szAttrS, laws_szAttrS_b1, h2, h4, h5, hb1, cond_true, cond_false, Step.fin_stop, Step.fin_done, Fin.get_fin, Fin.get_done, Step.fin_next, Bool.not_true, Bool.not_false, Option.getD_some]) | (simp [laws_szAttrS, laws_szAttrS_b1, h2, h4, h5, hb1, cond_true, cond_false, Step.fin_stop, Step.fin_done, Fin.get_fin, Fin.get_done, Step.fin_next, Bool.not_true, Bool.not_false, Option.getD_some])
          exact congrArg (fun g : Int => AV.one (.v (.int .i64 g))) hg.symm
        · refine x1.go hi1 (v := (laws_szAttr (p0[x1.i]'hi1) x1.s)) (by first | rfl | simp only [laws_szAttrS_b1, h2, h4, h5, cond_true, cond_false, Bool.not_true, Bool.not_false, Option.getD_some, Step.fin_stop, Step.fin_done, Fin.get_fin, Fin.get_done]) [] (by show _ - (x1.i + 1) < _ - x1.i; omega) ?_
          exact ⟨rfl, ⟨rfl, (eqInt hw1), rfl, trivial⟩, trivial, trivial⟩
      · have hf1 := x1.fin (show ¬ x1.i < (p0).length by simpa using h4)
        refine And.intro (fun _ => .v _) ?_
        have hg : laws_szAttrS p0 p1 = x1.s := by
          first | rfl | (simp only [laws_szAttrS, laws_szAttrS_b1, h2, h4, hf1, cond_true, cond_false, Step.fin_stop, Step.fin_done, Fin.get_fin, Fin.get_done, Step.fin_next, Bool.not_true, Bool.not_false, Option.getD_some]) | (simp [laws_szAttrS, laws_szAttrS_b1, h2, h4, hf1, cond_true, cond_false, Step.fin_stop, Step.fin_done, Fin.get_fin, Fin.get_done, Step.fin_next, Bool.not_true, Bool.not_false, Option.getD_some])
        exact congrArg (fun g : Int => AV.one (.v (.int .i64 g))) hg.symm
theorem szd_laws_szAttrS : Szd (bdS Attr.bd) laws_szAttrS := szS_ok (b := laws_szAttrS_b1) szd_laws_szAttr (fun _ _ _ => rfl) (fun _ _ => rfl)
def laws_szSpan (p0 : Span) (p1 : Int) : Int :=
  (bif (decide ((laws_szAttrS p0.Attrs p1) < 0)) then (-1) else (laws_szAttrS p0.Attrs p1))
theorem c_laws_szSpan (p0 : Span) (p1 : Int) : FnOk prog 55 [.agg ((Span.cells false) p0), .one (.v (.int .i64 p1))] ⟨.one (.v (.int .i64 (laws_szSpan p0 p1))), [], [], false⟩ := by
  refine FnOk.intro (E := env) envOk wide func55 rfl (by kernel_rfl) rfl rfl ?_
  refine litE (m := 0) rfl ?_
  refine ⟨_, _, c_laws_szAttrS p0.Attrs p1, (FzAs.same _), ?_⟩
  refine litE (m := 2) rfl ?_
  refine And.intro (fun (h1 : (decide ((laws_szAttrS p0.Attrs p1) < 0)) = true) => ?_) (fun (h1 : (decide ((laws_szAttrS p0.Attrs p1) < 0)) = false) => ?_)
  · refine And.intro (fun _ => .v _) ?_
    have hg : laws_szSpan p0 p1 = (-1) := by
      first | rfl | (simp only [laws_szSpan, h1, cond_true, cond_false, Step.fin_stop, Step.fin_done, Fin.get_fin, Fin.get_done, Step.fin_next, Bool.not_true, Bool.not_false, Option.getD_some]) | (simp [laws_szSpan, h1, cond_true, cond_false, Step.fin_stop, Step.fin_done, Fin.get_fin, Fin.get_done, Step.fin_next, Bool.not_true, Bool.not_false, Option.getD_some])
    exact congrArg (fun g : Int => AV.one (.v (.int .i64 g))) hg.symm
  · refine And.intro (fun _ => .v _) ?_
    have hg : laws_szSpan p0 p1 = (laws_szAttrS p0.Attrs p1) := by
      first | rfl | (simp only [laws_szSpan, h1, cond_true, cond_false, Step.fin_stop, Step.fin_done, Fin.get_fin, Fin.get_done, Step.fin_next, Bool.not_true, Bool.not_false, Option.getD_some]) | (simp [laws_szSpan, h1, cond_true, cond_false, Step.fin_stop, Step.fin_done, Fin.get_fin, Fin.get_done, Step.fin_next, Bool.not_true, Bool.not_false, Option.getD_some])
    exact congrArg (fun g : Int => AV.one (.v (.int .i64 g))) hg.symm
theorem szd_laws_szSpan : Szd Span.bd laws_szSpan := by
  intro x left hb h0 h1 h2
  unfold laws_szSpan at h2 ⊢
  unfold Span.bd at hb ⊢
  cases c0 : decide ((laws_szAttrS x.Attrs left) < 0) with
  | true => simp [c0] at h2
  | false =>
  have p0 : 0 ≤ (laws_szAttrS x.Attrs left) := by simpa using c0
  have z0 := szd_laws_szAttrS x.Attrs left hb h0 h1 p0
  have b0 := z0.1
  have u0 := z0.2
  have v0 : (laws_szAttrS x.Attrs left) ≤ 1048576 := by omega
  simp only [c0, cond_false] at h2 ⊢
  exact ⟨b0, by omega⟩
def laws_szSpanS_b1 (i1 : Nat) (s1 : Int) (a1 : Span) : Step (Int) Int :=
  (bif (decide ((laws_szSpan a1 s1) < 0)) then (.done (-1)) else (.next (laws_szSpan a1 s1)))
def laws_szSpanS (p0 : (List Span)) (p1 : Int) : Int :=
  (bif (decide ((IntKind.i64.wrap (p1 - (((p0).length : Nat) : Int))) < 0)) then (-1) else (Fin.get (fun s1 => s1) (loopL laws_szSpanS_b1 0 (IntKind.i64.wrap (p1 - (((p0).length : Nat) : Int))) p0)))
theorem c_laws_szSpanS (p0 : (List Span)) (p1 : Int) : FnOk prog 25 [.one (.s false 6 (List.map (Span.cells false) p0)), .one (.v (.int .i64 p1))] ⟨.one (.v (.int .i64 (laws_szSpanS p0 p1))), [], [], false⟩ := by
  refine FnOk.intro (E := env) envOk wide func25 rfl (by kernel_rfl) rfl rfl ?_
  refine lenE (k := (p0).length) (by simp) (fun hN1 => ?_)
  refine And.intro (fun (h2 : (decide ((IntKind.i64.wrap (p1 - (((p0).length : Nat) : Int))) < 0)) = true) => ?_) (fun (h2 : (decide ((IntKind.i64.wrap (p1 - (((p0).length : Nat) : Int))) < 0)) = false) => ?_)
  · refine And.intro (fun _ => .v _) ?_
    have hg : laws_szSpanS p0 p1 = (-1) := by
      first | rfl | (simp only [laws_szSpanS, h2, cond_true, cond_false, Step.fin_stop, Step.fin_done, Fin.get_fin, Fin.get_done, Step.fin_next, Bool.not_true, Bool.not_false, Option.getD_some]) | (simp [laws_szSpanS, h2, cond_true, cond_false, Step.fin_stop, Step.fin_done, Fin.get_fin, Fin.get_done, Step.fin_next, Bool.not_true, Bool.not_false, Option.getD_some])
    exact congrArg (fun g : Int => AV.one (.v (.int .i64 g))) hg.symm
  · refine loop_rule (α := LstSt laws_szSpanS_b1 (IntKind.i64.wrap (p1 - (((p0).length : Nat) : Int))) p0) [0] (fun x1 => [(1, .one (.v (.int .i64 x1.s))), (5, .one (.v (.int .i64 ((x1.i : Nat) : Int))))]) (fun x1 => []) (fun x1 => (p0).length - x1.i) .init [] ?_ (fun x1 => ?_)
    · exact ⟨rfl, ⟨rfl, rfl, rfl, trivial⟩, trivial, trivial⟩
    · refine lenE (k := (p0).length) (by simp) (fun hN3 => ?_)
      refine And.intro (fun (h4 : (decide (((x1.i : Nat) : Int) < (((p0).length : Nat) : Int))) = true) => ?_) (fun (h4 : (decide (((x1.i : Nat) : Int) < (((p0).length : Nat) : Int))) = false) => ?_)
      · have hi1 : x1.i < (p0).length := by simpa using h4
        have hw1 : IntKind.i64.wrap ((x1.i : Int) + 1) = ((x1.i + 1 : Nat) : Int) := wrap_succ hi1 (by first | assumption | omega)
        refine And.intro (fun _ => by exact idx_at hi1) (rowAtE (i := x1.i) (l := p0) rfl hi1 ?_)
        refine ⟨_, _, c_laws_szSpan (p0[x1.i]'hi1) x1.s, (FzAs.same _), ?_⟩
        refine litE (m := 1) rfl ?_
        refine And.intro (fun (h5 : (decide ((laws_szSpan (p0[x1.i]'hi1) x1.s) < 0)) = true) => ?_) (fun (h5 : (decide ((laws_szSpan (p0[x1.i]'hi1) x1.s) < 0)) = false) => ?_)
        · have hb1 := x1.out hi1 (by first | rfl | simp only [laws_szSpanS_b1, h2, h4, h5, cond_true, cond_false, Bool.not_true, Bool.not_false, Option.getD_some, Step.isNext_stop, Step.isNext_done, Step.fin_stop, Step.fin_done, Fin.get_fin, Fin.get_done])
          refine And.intro (fun _ => .v _) ?_
          have hg : laws_szSpanS p0 p1 = (-1) := by
            first | rfl | (simp only [laws_szSpanS, laws_szSpanS_b1, h2, h4, h5, hb1, cond_true, cond_false, Step.fin_stop, Step.fin_done, Fin.get_fin, Fin.get_done, Step.fin_next, Bool.not_true, Bool.not_false, Option.getD_some]) | (simp [laws_szSpanS, laws_szSpanS_b1, h2, h4, h5, hb1, cond_true, cond_false, Step.fin_stop, Step.fin_done, Fin.get_fin, Fin.get_done, Step.fin_next, Bool.not_true, Bool.not_false, Option.getD_some])
          exact congrArg (fun g : Int => AV.one (.v (.int .i64 g))) hg.symm
        · refine x1.go hi1 (v := (laws_szSpan (p0[x1.i]'hi1) x1.s)) (by first | rfl | simp only [laws_szSpanS_b1, h2, h4, h5, cond_true, cond_false, Bool.not_true, Bool.not_false, Option.getD_some, Step.fin_stop, Step.fin_done, Fin.get_fin, Fin.get_done]) [] (by show _ - (x1.i + 1) < _ - x1.i; omega) ?_
          exact ⟨rfl, ⟨rfl, (eqInt hw1), rfl, trivial⟩, trivial, trivial⟩
      · have hf1 := x1.fin (show ¬ x1.i < (p0).length by simpa using h4)
        refine And.intro (fun _ => .v _) ?_
        have hg : laws_szSpanS p0 p1 = x1.s := by
          first | rfl | (simp only [laws_szSpanS, laws_szSpanS_b1, h2, h4, hf1, cond_true, cond_false, Step.fin_stop, Step.fin_done, Fin.get_fin, Fin.get_done, Step.fin_next, Bool.not_true, Bool.not_false, Option.getD_some]) | (simp [laws_szSpanS, laws_szSpanS_b1, h2, h4, hf1, cond_true, cond_false, Step.fin_stop, Step.fin_done, Fin.get_fin, Fin.get_done, Step.fin_next, Bool.not_true, Bool.not_false, Option.getD_some])
        exact congrArg (fun g : Int => AV.one (.v (.int .i64 g))) hg.symm
theorem szd_laws_szSpanS : Szd (bdS Span.bd) laws_szSpanS := szS_ok (b := laws_szSpanS_b1) szd_laws_szSpan (fun _ _ _ => rfl) (fun _ _ => rfl)
def laws_toAttr (p0 : Attr) : Attr :=
  p0
theorem c_laws_toAttr (p0 : Attr) : FnOk prog 80 [.agg (Attr.cells p0)] ⟨.agg (Attr.cells (laws_toAttr p0)), [], [], false⟩ := by
  refine FnOk.intro (E := env) envOk wide func80 rfl (by kernel_rfl) rfl rfl ?_
  refine litE (m := 0) rfl ?_
  refine litE (m := 1) rfl ?_
  refine litE (m := 2) rfl ?_
  refine And.intro (fun _ => own_Attr _) ?_
  have hg : laws_toAttr p0 = p0 := by
    first | rfl | (simp only [laws_toAttr, cond_true, cond_false, Step.fin_stop, Step.fin_done, Fin.get_fin, Fin.get_done, Step.fin_next, Bool.not_true, Bool.not_false, Option.getD_some]) | (simp [laws_toAttr, cond_true, cond_false, Step.fin_stop, Step.fin_done, Fin.get_fin, Fin.get_done, Step.fin_next, Bool.not_true, Bool.not_false, Option.getD_some])
  exact congrArg (fun g : Attr => AV.agg (Attr.cells g)) hg.symm
theorem id_laws_toAttr (x : Attr) : laws_toAttr x = x := by
  first | rfl | (simp only [laws_toAttr]; done) | (simp only [laws_toAttr]; rfl)
def laws_toAttrS_b1 (i1 : Nat) (s1 : (List Attr)) (a1 : Attr) : Step ((List Attr)) (List Attr) :=
  (.next (List.set s1 i1 (laws_toAttr a1)))
def laws_toAttrS (p0 : (List Attr)) : (List Attr) :=
  (Fin.get (fun s1 => s1) (loopL laws_toAttrS_b1 0 (List.replicate (p0).length (default : Attr)) p0))
theorem c_laws_toAttrS (p0 : (List Attr)) (hs : bdS Attr.bd 1048576 p0) : FnOk prog 74 [.one (.s false 4 (List.map Attr.cells p0))] ⟨.one (.s true 4 (List.map Attr.cells (laws_toAttrS p0))), [], [], false⟩ := by
  refine FnOk.intro (E := env) envOk wide func74 rfl (by kernel_rfl) rfl rfl ?_
  have hs1 := hs.1
  refine lenE (k := (p0).length) (by simp) (fun hN1 => ?_)
  refine And.intro (by exact ⟨rfl, by omega, by show ((48 : Nat) : Int) * _ ≤ _; omega, by omega⟩) (rowsE (Y := List.map Attr.cells (List.replicate (p0).length (default : Attr))) (by rw [List.map_replicate]; rfl) ?_)
  refine litE (m := 0) rfl ?_
  refine loop_rule (α := LstInv (fun _ s => (s).length = (p0).length) laws_toAttrS_b1 (List.replicate (p0).length (default : Attr)) p0) [0] (fun x1 => [(3, .one (.n 0 [] 1 0 (x1.s).length)), (4, .one (.v (.int .i64 ((x1.i : Nat) : Int))))]) (fun x1 => [.new ⟨4, false, List.map Attr.cells x1.s, 0⟩]) (fun x1 => (p0).length - x1.i) (.init (by simp)) [some 0] ?_ (fun x1 => ?_)
  · exact ⟨rfl, ⟨⟨rfl, rfl, rfl, rfl, by (first | rfl | (simp; done) | (simp [LstSt.init, LstSt.step, LstInv.init, CntSt.init, CntSt.step, CntInv.init, WhlSt.init, WhlSt.step]; done) | (simp [LstSt.init, LstSt.step, LstInv.init, CntSt.init, CntSt.step, CntInv.init, WhlSt.init, WhlSt.step]; omega))⟩, rfl, rfl, trivial⟩, ⟨⟨rfl, rfl, rfl⟩, trivial⟩, trivial⟩
  · have hI1 : (x1.s).length = (p0).length := by simpa using x1.hI
    refine lenE (k := (p0).length) (by simp) (fun hN2 => ?_)
    refine And.intro (fun (h3 : (decide (((x1.i : Nat) : Int) < (((p0).length : Nat) : Int))) = true) => ?_) (fun (h3 : (decide (((x1.i : Nat) : Int) < (((p0).length : Nat) : Int))) = false) => ?_)
    · have hi1 : x1.i < (p0).length := by simpa using h3
      have hw1 : IntKind.i64.wrap ((x1.i : Int) + 1) = ((x1.i + 1 : Nat) : Int) := wrap_succ hi1 (by first | assumption | omega)
      refine And.intro (fun _ => by exact idx_at hi1) (rowAtE (i := x1.i) (l := p0) rfl hi1 ?_)
      refine ⟨_, _, c_laws_toAttr (p0[x1.i]'hi1), (FzAs.same _), ?_⟩
      refine litE (m := 2) rfl ?_
      refine And.intro (fun _ => by first | exact ⟨by omega, by omega⟩ | (first | omega | (simp; done) | (simp; omega) | (simp at *; omega) | (simp at *; done) | (simp_all; done) | (simp_all; omega))) ?_
      refine rowsE (Y := List.map Attr.cells (List.set x1.s x1.i (laws_toAttr (p0[x1.i]'hi1)))) (by exact setMapE (by simp) (fun a ha => by rfl)) ?_
      refine x1.go' hi1 (v := (List.set x1.s x1.i (laws_toAttr (p0[x1.i]'hi1)))) (by first | rfl | simp only [laws_toAttrS_b1, h3, cond_true, cond_false, Bool.not_true, Bool.not_false, Option.getD_some, Step.fin_stop, Step.fin_done, Fin.get_fin, Fin.get_done]) (by simpa using x1.hI) [some 0] (by show _ - (x1.i + 1) < _ - x1.i; omega) ?_
      exact ⟨rfl, ⟨⟨rfl, rfl, rfl, rfl, by (first | rfl | (simp; done) | (simp [LstSt.init, LstSt.step, LstInv.init, CntSt.init, CntSt.step, CntInv.init, WhlSt.init, WhlSt.step]; done) | (simp [LstSt.init, LstSt.step, LstInv.init, CntSt.init, CntSt.step, CntInv.init, WhlSt.init, WhlSt.step]; omega))⟩, (eqInt hw1), rfl, trivial⟩, ⟨⟨rfl, rfl, rfl⟩, trivial⟩, trivial⟩
    · have hf1 := x1.fin (show ¬ x1.i < (p0).length by simpa using h3)
      refine And.intro (fun _ => ownSl own_Attr _) ?_
      have hg : laws_toAttrS p0 = x1.s := by
        first | rfl | (simp only [laws_toAttrS, laws_toAttrS_b1, h3, hf1, cond_true, cond_false, Step.fin_stop, Step.fin_done, Fin.get_fin, Fin.get_done, Step.fin_next, Bool.not_true, Bool.not_false, Option.getD_some]) | (simp [laws_toAttrS, laws_toAttrS_b1, h3, hf1, cond_true, cond_false, Step.fin_stop, Step.fin_done, Fin.get_fin, Fin.get_done, Step.fin_next, Bool.not_true, Bool.not_false, Option.getD_some])
      exact congrArg (fun g : (List Attr) => AV.one (.s true 4 (List.map Attr.cells g))) hg.symm
theorem id_laws_toAttrS (x : (List Attr)) : laws_toAttrS x = x := setS_ok (b := laws_toAttrS_b1) id_laws_toAttr (fun _ _ _ => rfl) (fun _ => rfl) x
def laws_toSpan (p0 : Span) : Span :=
  (Span.mk p0.Trace p0.Id p0.Start p0.End p0.Err (laws_toAttrS p0.Attrs))
theorem c_laws_toSpan (p0 : Span) (hs : Span.bd 1048576 p0) : FnOk prog 56 [.agg ((Span.cells false) p0)] ⟨.agg ((Span.cells true) (laws_toSpan p0)), [], [], false⟩ := by
  refine FnOk.intro (E := env) envOk wide func56 rfl (by kernel_rfl) rfl rfl ?_
  unfold Span.bd at hs
  refine litE (m := 0) rfl ?_
  refine litE (m := 1) rfl ?_
  refine litE (m := 2) rfl ?_
  refine ⟨_, _, c_laws_toAttrS p0.Attrs (by exact hs), (FzAs.same _), ?_⟩
  refine litE (m := 4) rfl ?_
  refine And.intro (fun _ => own_Span _) ?_
  have hg : laws_toSpan p0 = (Span.mk p0.Trace p0.Id p0.Start p0.End p0.Err (laws_toAttrS p0.Attrs)) := by
    first | rfl | (simp only [laws_toSpan, cond_true, cond_false, Step.fin_stop, Step.fin_done, Fin.get_fin, Fin.get_done, Step.fin_next, Bool.not_true, Bool.not_false, Option.getD_some]) | (simp [laws_toSpan, cond_true, cond_false, Step.fin_stop, Step.fin_done, Fin.get_fin, Fin.get_done, Step.fin_next, Bool.not_true, Bool.not_false, Option.getD_some])
  exact congrArg (fun g : Span => AV.agg ((Span.cells true) g)) hg.symm
theorem id_laws_toSpan (x : Span) : laws_toSpan x = x := by
  first | rfl | (simp only [laws_toSpan, id_laws_toAttr, id_laws_toAttrS]; done) | (simp only [laws_toSpan, id_laws_toAttr, id_laws_toAttrS]; rfl)
def laws_toSpanS_b1 (i1 : Nat) (s1 : (List Span)) (a1 : Span) : Step ((List Span)) (List Span) :=
  (.next (List.set s1 i1 (laws_toSpan a1)))
def laws_toSpanS (p0 : (List Span)) : (List Span) :=
  (Fin.get (fun s1 => s1) (loopL laws_toSpanS_b1 0 (List.replicate (p0).length (default : Span)) p0))
theorem c_laws_toSpanS (p0 : (List Span)) (hs : bdS Span.bd 1048576 p0) : FnOk prog 26 [.one (.s false 6 (List.map (Span.cells false) p0))] ⟨.one (.s true 6 (List.map (Span.cells true) (laws_toSpanS p0))), [], [], false⟩ := by
  refine FnOk.intro (E := env) envOk wide func26 rfl (by kernel_rfl) rfl rfl ?_
  have hs1 := hs.1
  refine lenE (k := (p0).length) (by simp) (fun hN1 => ?_)
  refine And.intro (by exact ⟨rfl, by omega, by show ((64 : Nat) : Int) * _ ≤ _; omega, by omega⟩) (rowsE (Y := List.map (Span.cells true) (List.replicate (p0).length (default : Span))) (by rw [List.map_replicate]; rfl) ?_)
  refine litE (m := 0) rfl ?_
  refine loop_rule (α := LstInv (fun _ s => (s).length = (p0).length) laws_toSpanS_b1 (List.replicate (p0).length (default : Span)) p0) [0] (fun x1 => [(3, .one (.n 0 [] 1 0 (x1.s).length)), (4, .one (.v (.int .i64 ((x1.i : Nat) : Int))))]) (fun x1 => [.new ⟨6, false, List.map (Span.cells true) x1.s, 0⟩]) (fun x1 => (p0).length - x1.i) (.init (by simp)) [some 0] ?_ (fun x1 => ?_)
  · exact ⟨rfl, ⟨⟨rfl, rfl, rfl, rfl, by (first | rfl | (simp; done) | (simp [LstSt.init, LstSt.step, LstInv.init, CntSt.init, CntSt.step, CntInv.init, WhlSt.init, WhlSt.step]; done) | (simp [LstSt.init, LstSt.step, LstInv.init, CntSt.init, CntSt.step, CntInv.init, WhlSt.init, WhlSt.step]; omega))⟩, rfl, rfl, trivial⟩, ⟨⟨rfl, rfl, rfl⟩, trivial⟩, trivial⟩
  · have hI1 : (x1.s).length = (p0).length := by simpa using x1.hI
    refine lenE (k := (p0).length) (by simp) (fun hN2 => ?_)
    refine And.intro (fun (h3 : (decide (((x1.i : Nat) : Int) < (((p0).length : Nat) : Int))) = true) => ?_) (fun (h3 : (decide (((x1.i : Nat) : Int) < (((p0).length : Nat) : Int))) = false) => ?_)
    · have hi1 : x1.i < (p0).length := by simpa using h3
      have hw1 : IntKind.i64.wrap ((x1.i : Int) + 1) = ((x1.i + 1 : Nat) : Int) := wrap_succ hi1 (by first | assumption | omega)
      refine And.intro (fun _ => by exact idx_at hi1) (rowAtE (i := x1.i) (l := p0) rfl hi1 ?_)
      refine ⟨_, _, c_laws_toSpan (p0[x1.i]'hi1) (by exact hs.get hi1), (FzAs.same _), ?_⟩
      refine litE (m := 2) rfl ?_
      refine And.intro (fun _ => by first | exact ⟨by omega, by omega⟩ | (first | omega | (simp; done) | (simp; omega) | (simp at *; omega) | (simp at *; done) | (simp_all; done) | (simp_all; omega))) ?_
      refine rowsE (Y := List.map (Span.cells true) (List.set x1.s x1.i (laws_toSpan (p0[x1.i]'hi1)))) (by exact setMapE (by simp) (fun a ha => by rfl)) ?_
      refine x1.go' hi1 (v := (List.set x1.s x1.i (laws_toSpan (p0[x1.i]'hi1)))) (by first | rfl | simp only [laws_toSpanS_b1, h3, cond_true, cond_false, Bool.not_true, Bool.not_false, Option.getD_some, Step.fin_stop, Step.fin_done, Fin.get_fin, Fin.get_done]) (by simpa using x1.hI) [some 0] (by show _ - (x1.i + 1) < _ - x1.i; omega) ?_
      exact ⟨rfl, ⟨⟨rfl, rfl, rfl, rfl, by (first | rfl | (simp; done) | (simp [LstSt.init, LstSt.step, LstInv.init, CntSt.init, CntSt.step, CntInv.init, WhlSt.init, WhlSt.step]; done) | (simp [LstSt.init, LstSt.step, LstInv.init, CntSt.init, CntSt.step, CntInv.init, WhlSt.init, WhlSt.step]; omega))⟩, (eqInt hw1), rfl, trivial⟩, ⟨⟨rfl, rfl, rfl⟩, trivial⟩, trivial⟩
    · have hf1 := x1.fin (show ¬ x1.i < (p0).length by simpa using h3)
      refine And.intro (fun _ => ownSl own_Span _) ?_
      have hg : laws_toSpanS p0 = x1.s := by
        first | rfl | (simp only [laws_toSpanS, laws_toSpanS_b1, h3, hf1, cond_true, cond_false, Step.fin_stop, Step.fin_done, Fin.get_fin, Fin.get_done, Step.fin_next, Bool.not_true, Bool.not_false, Option.getD_some]) | (simp [laws_toSpanS, laws_toSpanS_b1, h3, hf1, cond_true, cond_false, Step.fin_stop, Step.fin_done, Fin.get_fin, Fin.get_done, Step.fin_next, Bool.not_true, Bool.not_false, Option.getD_some])
      exact congrArg (fun g : (List Span) => AV.one (.s true 6 (List.map (Span.cells true) g))) hg.symm
theorem id_laws_toSpanS (x : (List Span)) : laws_toSpanS x = x := setS_ok (b := laws_toSpanS_b1) id_laws_toSpan (fun _ _ _ => rfl) (fun _ => rfl) x
def spec_SameSpan_b1 (p1 : Span) (i1 : Nat) (s1 : Unit) (a1 : Attr) : Step (Unit) Bool :=
  (bif (!((decide (a1.Key = (p1.Attrs[i1]?.getD default).Key)) && ((a1.Num == (p1.Attrs[i1]?.getD default).Num) && ((a1.N == (p1.Attrs[i1]?.getD default).N) && ((decide (a1.Text = (p1.Attrs[i1]?.getD default).Text)) && true))))) then (.done false) else (.next ()))
def spec_SameSpan (p0 : Span) (p1 : Span) : Bool :=
  (bif (p0.Trace != p1.Trace) then false else (bif (p0.Id != p1.Id) then false else (bif (p0.Start != p1.Start) then false else (bif (p0.End != p1.End) then false else (bif (!(p0.Err == p1.Err)) then false else (bif ((((p0.Attrs).length : Nat) : Int) != (((p1.Attrs).length : Nat) : Int)) then false else (Fin.get (fun s1 => true) (loopL (spec_SameSpan_b1 p1) 0 () p0.Attrs))))))))
theorem c_spec_SameSpan (p0 : Span) (p1 : Span) : FnOk prog 54 [.agg ((Span.cells false) p0), .agg ((Span.cells false) p1)] ⟨.one (.v (.bool (spec_SameSpan p0 p1))), [], [], false⟩ := by
  refine FnOk.intro (E := env) envOk wide func54 rfl (by kernel_rfl) rfl rfl ?_
  refine litE (m := 0) rfl ?_
  refine litE (m := 1) rfl ?_
  refine And.intro (fun (h1 : (p0.Trace != p1.Trace) = false) => ?_) (fun (h1 : (p0.Trace != p1.Trace) = true) => ?_)
  · refine And.intro (fun (h2 : (p0.Id != p1.Id) = false) => ?_) (fun (h2 : (p0.Id != p1.Id) = true) => ?_)
    · refine And.intro (fun (h3 : (p0.Start != p1.Start) = false) => ?_) (fun (h3 : (p0.Start != p1.Start) = true) => ?_)
      · refine And.intro (fun (h4 : (p0.End != p1.End) = false) => ?_) (fun (h4 : (p0.End != p1.End) = true) => ?_)
        · refine And.intro (fun (h5 : (!(p0.Err == p1.Err)) = false) => ?_) (fun (h5 : (!(p0.Err == p1.Err)) = true) => ?_)
          · refine lenE (k := (p0.Attrs).length) (by simp) (fun hN6 => ?_)
            refine lenE (k := (p1.Attrs).length) (by simp) (fun hN7 => ?_)
            refine And.intro (fun (h8 : ((((p0.Attrs).length : Nat) : Int) != (((p1.Attrs).length : Nat) : Int)) = true) => ?_) (fun (h8 : ((((p0.Attrs).length : Nat) : Int) != (((p1.Attrs).length : Nat) : Int)) = false) => ?_)
            · refine And.intro (fun _ => .v _) ?_
              have hg : spec_SameSpan p0 p1 = false := by
                first | rfl | (simp only [spec_SameSpan, h1, h2, h3, h4, h5, h8, cond_true, cond_false, Step.fin_stop, Step.fin_done, Fin.get_fin, Fin.get_done, Step.fin_next, Bool.not_true, Bool.not_false, Option.getD_some]) | (simp [spec_SameSpan, h1, h2, h3, h4, h5, h8, cond_true, cond_false, Step.fin_stop, Step.fin_done, Fin.get_fin, Fin.get_done, Step.fin_next, Bool.not_true, Bool.not_false, Option.getD_some])
              exact congrArg (fun g : Bool => AV.one (.v (.bool g))) hg.symm
            · refine loop_rule (α := LstSt (spec_SameSpan_b1 p1) () p0.Attrs) [2, 3] (fun x1 => [(5, .one (.v (.int .i64 ((x1.i : Nat) : Int))))]) (fun x1 => [.keep 0, .keep 1]) (fun x1 => (p0.Attrs).length - x1.i) .init [some 0, some 1] ?_ (fun x1 => ?_)
              · exact ⟨rfl, ⟨rfl, ⟨rfl, rfl, rfl, rfl⟩, ⟨rfl, rfl, rfl, rfl⟩, trivial⟩, ⟨⟨rfl, rfl, ⟨rfl, rfl, rfl, rfl, rfl, rfl, trivial⟩⟩, ⟨rfl, rfl, ⟨rfl, rfl, rfl, rfl, rfl, rfl, trivial⟩⟩, trivial⟩, trivial⟩
              · refine lenE (k := (p0.Attrs).length) (by simp) (fun hN9 => ?_)
                refine And.intro (fun (h10 : (decide (((x1.i : Nat) : Int) < (((p0.Attrs).length : Nat) : Int))) = true) => ?_) (fun (h10 : (decide (((x1.i : Nat) : Int) < (((p0.Attrs).length : Nat) : Int))) = false) => ?_)
                · have hi1 : x1.i < (p0.Attrs).length := by simpa using h10
                  have hw1 : IntKind.i64.wrap ((x1.i : Int) + 1) = ((x1.i + 1 : Nat) : Int) := wrap_succ hi1 (by first | assumption | omega)
                  refine And.intro (fun _ => by exact idx_at hi1) (rowAtE (i := x1.i) (l := p0.Attrs) rfl hi1 ?_)
                  refine And.intro (fun _ => by (first | omega | (simp; done) | (simp; omega) | (simp at *; omega) | (simp at *; done) | (simp_all; done) | (simp_all; omega))) (rowOfE (i := x1.i) (l := p1.Attrs) rfl (fun e11 he11 => ?_))
                  refine And.intro (fun (h12 : (!((decide ((p0.Attrs[x1.i]'hi1).Key = e11.Key)) && (((p0.Attrs[x1.i]'hi1).Num == e11.Num) && (((p0.Attrs[x1.i]'hi1).N == e11.N) && ((decide ((p0.Attrs[x1.i]'hi1).Text = e11.Text)) && true))))) = true) => ?_) (fun (h12 : (!((decide ((p0.Attrs[x1.i]'hi1).Key = e11.Key)) && (((p0.Attrs[x1.i]'hi1).Num == e11.Num) && (((p0.Attrs[x1.i]'hi1).N == e11.N) && ((decide ((p0.Attrs[x1.i]'hi1).Text = e11.Text)) && true))))) = false) => ?_)
                  · have hb1 := x1.out hi1 (by first | rfl | simp only [spec_SameSpan_b1, h1, h2, h3, h4, h5, h8, h10, he11, h12, cond_true, cond_false, Bool.not_true, Bool.not_false, Option.getD_some, Step.isNext_stop, Step.isNext_done, Step.fin_stop, Step.fin_done, Fin.get_fin, Fin.get_done])
                    refine And.intro (fun _ => .v _) ?_
                    have hg : spec_SameSpan p0 p1 = false := by
                      first | rfl | (simp only [spec_SameSpan, spec_SameSpan_b1, h1, h2, h3, h4, h5, h8, h10, he11, h12, hb1, cond_true, cond_false, Step.fin_stop, Step.fin_done, Fin.get_fin, Fin.get_done, Step.fin_next, Bool.not_true, Bool.not_false, Option.getD_some]) | (simp [spec_SameSpan, spec_SameSpan_b1, h1, h2, h3, h4, h5, h8, h10, he11, h12, hb1, cond_true, cond_false, Step.fin_stop, Step.fin_done, Fin.get_fin, Fin.get_done, Step.fin_next, Bool.not_true, Bool.not_false, Option.getD_some])
                    exact congrArg (fun g : Bool => AV.one (.v (.bool g))) hg.symm
                  · refine x1.go hi1 (v := ()) (by first | rfl | simp only [spec_SameSpan_b1, h1, h2, h3, h4, h5, h8, h10, he11, h12, cond_true, cond_false, Bool.not_true, Bool.not_false, Option.getD_some, Step.fin_stop, Step.fin_done, Fin.get_fin, Fin.get_done]) [some 0, some 1] (by show _ - (x1.i + 1) < _ - x1.i; omega) ?_
                    exact ⟨rfl, ⟨(eqInt hw1), ⟨rfl, rfl, rfl, rfl⟩, ⟨rfl, rfl, rfl, rfl⟩, trivial⟩, ⟨⟨rfl, rfl, ⟨rfl, rfl, rfl, rfl, rfl, rfl, trivial⟩⟩, ⟨rfl, rfl, ⟨rfl, rfl, rfl, rfl, rfl, rfl, trivial⟩⟩, trivial⟩, trivial⟩
                · have hf1 := x1.fin (show ¬ x1.i < (p0.Attrs).length by simpa using h10)
                  refine And.intro (fun _ => .v _) ?_
                  have hg : spec_SameSpan p0 p1 = true := by
                    first | rfl | (simp only [spec_SameSpan, spec_SameSpan_b1, h1, h2, h3, h4, h5, h8, h10, hf1, cond_true, cond_false, Step.fin_stop, Step.fin_done, Fin.get_fin, Fin.get_done, Step.fin_next, Bool.not_true, Bool.not_false, Option.getD_some]) | (simp [spec_SameSpan, spec_SameSpan_b1, h1, h2, h3, h4, h5, h8, h10, hf1, cond_true, cond_false, Step.fin_stop, Step.fin_done, Fin.get_fin, Fin.get_done, Step.fin_next, Bool.not_true, Bool.not_false, Option.getD_some])
                  exact congrArg (fun g : Bool => AV.one (.v (.bool g))) hg.symm
          · refine And.intro (fun _ => .v _) ?_
            have hg : spec_SameSpan p0 p1 = false := by
              first | rfl | (simp only [spec_SameSpan, spec_SameSpan_b1, h1, h2, h3, h4, h5, cond_true, cond_false, Step.fin_stop, Step.fin_done, Fin.get_fin, Fin.get_done, Step.fin_next, Bool.not_true, Bool.not_false, Option.getD_some]) | (simp [spec_SameSpan, spec_SameSpan_b1, h1, h2, h3, h4, h5, cond_true, cond_false, Step.fin_stop, Step.fin_done, Fin.get_fin, Fin.get_done, Step.fin_next, Bool.not_true, Bool.not_false, Option.getD_some])
            exact congrArg (fun g : Bool => AV.one (.v (.bool g))) hg.symm
        · refine And.intro (fun _ => .v _) ?_
          have hg : spec_SameSpan p0 p1 = false := by
            first | rfl | (simp only [spec_SameSpan, spec_SameSpan_b1, h1, h2, h3, h4, cond_true, cond_false, Step.fin_stop, Step.fin_done, Fin.get_fin, Fin.get_done, Step.fin_next, Bool.not_true, Bool.not_false, Option.getD_some]) | (simp [spec_SameSpan, spec_SameSpan_b1, h1, h2, h3, h4, cond_true, cond_false, Step.fin_stop, Step.fin_done, Fin.get_fin, Fin.get_done, Step.fin_next, Bool.not_true, Bool.not_false, Option.getD_some])
          exact congrArg (fun g : Bool => AV.one (.v (.bool g))) hg.symm
      · refine And.intro (fun _ => .v _) ?_
        have hg : spec_SameSpan p0 p1 = false := by
          first | rfl | (simp only [spec_SameSpan, spec_SameSpan_b1, h1, h2, h3, cond_true, cond_false, Step.fin_stop, Step.fin_done, Fin.get_fin, Fin.get_done, Step.fin_next, Bool.not_true, Bool.not_false, Option.getD_some]) | (simp [spec_SameSpan, spec_SameSpan_b1, h1, h2, h3, cond_true, cond_false, Step.fin_stop, Step.fin_done, Fin.get_fin, Fin.get_done, Step.fin_next, Bool.not_true, Bool.not_false, Option.getD_some])
        exact congrArg (fun g : Bool => AV.one (.v (.bool g))) hg.symm
    · refine And.intro (fun _ => .v _) ?_
      have hg : spec_SameSpan p0 p1 = false := by
        first | rfl | (simp only [spec_SameSpan, spec_SameSpan_b1, h1, h2, cond_true, cond_false, Step.fin_stop, Step.fin_done, Fin.get_fin, Fin.get_done, Step.fin_next, Bool.not_true, Bool.not_false, Option.getD_some]) | (simp [spec_SameSpan, spec_SameSpan_b1, h1, h2, cond_true, cond_false, Step.fin_stop, Step.fin_done, Fin.get_fin, Fin.get_done, Step.fin_next, Bool.not_true, Bool.not_false, Option.getD_some])
      exact congrArg (fun g : Bool => AV.one (.v (.bool g))) hg.symm
  · refine And.intro (fun _ => .v _) ?_
    have hg : spec_SameSpan p0 p1 = false := by
      first | rfl | (simp only [spec_SameSpan, spec_SameSpan_b1, h1, cond_true, cond_false, Step.fin_stop, Step.fin_done, Fin.get_fin, Fin.get_done, Step.fin_next, Bool.not_true, Bool.not_false, Option.getD_some]) | (simp [spec_SameSpan, spec_SameSpan_b1, h1, cond_true, cond_false, Step.fin_stop, Step.fin_done, Fin.get_fin, Fin.get_done, Step.fin_next, Bool.not_true, Bool.not_false, Option.getD_some])
    exact congrArg (fun g : Bool => AV.one (.v (.bool g))) hg.symm
def spec_SameBag_b2 (a1 : Span) (p1 : (List Span)) (i2 : Nat) (s2 : Int) (a2 : Span) : Step (Int) (Step (Unit) Bool) :=
  (bif (spec_SameSpan a2 a1) then (bif (spec_SameSpan (p1[i2]?.getD default) a1) then (.next (IntKind.i64.wrap ((IntKind.i64.wrap (s2 + 1)) - 1))) else (.next (IntKind.i64.wrap (s2 + 1)))) else (bif (spec_SameSpan (p1[i2]?.getD default) a1) then (.next (IntKind.i64.wrap (s2 - 1))) else (.next s2)))
def spec_SameBag_b1 (p1 : (List Span)) (p0 : (List Span)) (i1 : Nat) (s1 : Unit) (a1 : Span) : Step (Unit) Bool :=
  (Fin.get (fun s2 => (bif (s2 != 0) then (.done false) else (.next ()))) (loopL (spec_SameBag_b2 a1 p1) 0 0 p0))
def spec_SameBag (p0 : (List Span)) (p1 : (List Span)) : Bool :=
  (bif ((((p0).length : Nat) : Int) != (((p1).length : Nat) : Int)) then false else (Fin.get (fun s1 => true) (loopL (spec_SameBag_b1 p1 p0) 0 () p0)))
theorem c_spec_SameBag (p0 : (List Span)) (p1 : (List Span)) : FnOk prog 24 [.one (.s false 6 (List.map (Span.cells false) p0)), .one (.s false 6 (List.map (Span.cells false) p1))] ⟨.one (.v (.bool (spec_SameBag p0 p1))), [], [], false⟩ := by
  refine FnOk.intro (E := env) envOk wide func24 rfl (by kernel_rfl) rfl rfl ?_
  refine lenE (k := (p0).length) (by simp) (fun hN1 => ?_)
  refine lenE (k := (p1).length) (by simp) (fun hN2 => ?_)
  refine And.intro (fun (h3 : ((((p0).length : Nat) : Int) != (((p1).length : Nat) : Int)) = true) => ?_) (fun (h3 : ((((p0).length : Nat) : Int) != (((p1).length : Nat) : Int)) = false) => ?_)
  · refine And.intro (fun _ => .v _) ?_
    have hg : spec_SameBag p0 p1 = false := by
      first | rfl | (simp only [spec_SameBag, h3, cond_true, cond_false, Step.fin_stop, Step.fin_done, Fin.get_fin, Fin.get_done, Step.fin_next, Bool.not_true, Bool.not_false, Option.getD_some]) | (simp [spec_SameBag, h3, cond_true, cond_false, Step.fin_stop, Step.fin_done, Fin.get_fin, Fin.get_done, Step.fin_next, Bool.not_true, Bool.not_false, Option.getD_some])
    exact congrArg (fun g : Bool => AV.one (.v (.bool g))) hg.symm
  · refine loop_rule (α := LstSt (spec_SameBag_b1 p1 p0) () p0) [0, 1] (fun x1 => [(5, .one (.v (.int .i64 ((x1.i : Nat) : Int))))]) (fun x1 => []) (fun x1 => (p0).length - x1.i) .init [] ?_ (fun x1 => ?_)
    · exact ⟨rfl, ⟨rfl, rfl, rfl, trivial⟩, trivial, trivial⟩
    · refine lenE (k := (p0).length) (by simp) (fun hN4 => ?_)
      refine And.intro (fun (h5 : (decide (((x1.i : Nat) : Int) < (((p0).length : Nat) : Int))) = true) => ?_) (fun (h5 : (decide (((x1.i : Nat) : Int) < (((p0).length : Nat) : Int))) = false) => ?_)
      · have hi1 : x1.i < (p0).length := by simpa using h5
        have hw1 : IntKind.i64.wrap ((x1.i : Int) + 1) = ((x1.i + 1 : Nat) : Int) := wrap_succ hi1 (by first | assumption | omega)
        refine loop_rule (α := LstSt (spec_SameBag_b2 (p0[x1.i]'hi1) p1) 0 p0) [0, 1, 5] (fun x2 => [(6, .one (.v (.int .i64 x2.s))), (7, .one (.v (.int .i64 ((x2.i : Nat) : Int))))]) (fun x2 => []) (fun x2 => (p0).length - x2.i) .init [] ?_ (fun x2 => ?_)
        · exact ⟨rfl, ⟨rfl, rfl, rfl, rfl, rfl, trivial⟩, trivial, trivial⟩
        · refine lenE (k := (p0).length) (by simp) (fun hN6 => ?_)
          refine And.intro (fun (h7 : (decide (((x2.i : Nat) : Int) < (((p0).length : Nat) : Int))) = true) => ?_) (fun (h7 : (decide (((x2.i : Nat) : Int) < (((p0).length : Nat) : Int))) = false) => ?_)
          · have hi2 : x2.i < (p0).length := by simpa using h7
            have hw2 : IntKind.i64.wrap ((x2.i : Int) + 1) = ((x2.i + 1 : Nat) : Int) := wrap_succ hi2 (by first | assumption | omega)
            refine And.intro (fun _ => by exact idx_at hi2) (rowAtE (i := x2.i) (l := p0) rfl hi2 ?_)
            refine And.intro (fun _ => by exact idx_at hi1) (rowAtE (i := x1.i) (l := p0) rfl hi1 ?_)
            refine ⟨_, _, c_spec_SameSpan (p0[x2.i]'hi2) (p0[x1.i]'hi1), (FzAs.same _), ?_⟩
            refine And.intro (fun (h8 : (spec_SameSpan (p0[x2.i]'hi2) (p0[x1.i]'hi1)) = true) => ?_) (fun (h8 : (spec_SameSpan (p0[x2.i]'hi2) (p0[x1.i]'hi1)) = false) => ?_)
            · refine And.intro (fun _ => by (first | omega | (simp; done) | (simp; omega) | (simp at *; omega) | (simp at *; done) | (simp_all; done) | (simp_all; omega))) (rowOfE (i := x2.i) (l := p1) rfl (fun e9 he9 => ?_))
              refine And.intro (fun _ => by exact idx_at hi1) (rowAtE (i := x1.i) (l := p0) rfl hi1 ?_)
              refine ⟨_, _, c_spec_SameSpan e9 (p0[x1.i]'hi1), (FzAs.same _), ?_⟩
              refine And.intro (fun (h10 : (spec_SameSpan e9 (p0[x1.i]'hi1)) = true) => ?_) (fun (h10 : (spec_SameSpan e9 (p0[x1.i]'hi1)) = false) => ?_)
              · refine x2.go hi2 (v := (IntKind.i64.wrap ((IntKind.i64.wrap (x2.s + 1)) - 1))) (by first | rfl | simp only [spec_SameBag_b1, spec_SameBag_b2, h3, h5, h7, h8, he9, h10, cond_true, cond_false, Bool.not_true, Bool.not_false, Option.getD_some, Step.fin_stop, Step.fin_done, Fin.get_fin, Fin.get_done]) [] (by show _ - (x2.i + 1) < _ - x2.i; omega) ?_
                exact ⟨rfl, ⟨rfl, (eqInt hw2), rfl, rfl, rfl, trivial⟩, trivial, trivial⟩
              · refine x2.go hi2 (v := (IntKind.i64.wrap (x2.s + 1))) (by first | rfl | simp only [spec_SameBag_b1, spec_SameBag_b2, h3, h5, h7, h8, he9, h10, cond_true, cond_false, Bool.not_true, Bool.not_false, Option.getD_some, Step.fin_stop, Step.fin_done, Fin.get_fin, Fin.get_done]) [] (by show _ - (x2.i + 1) < _ - x2.i; omega) ?_
                exact ⟨rfl, ⟨rfl, (eqInt hw2), rfl, rfl, rfl, trivial⟩, trivial, trivial⟩
            · refine And.intro (fun _ => by (first | omega | (simp; done) | (simp; omega) | (simp at *; omega) | (simp at *; done) | (simp_all; done) | (simp_all; omega))) (rowOfE (i := x2.i) (l := p1) rfl (fun e11 he11 => ?_))
              refine And.intro (fun _ => by exact idx_at hi1) (rowAtE (i := x1.i) (l := p0) rfl hi1 ?_)
              refine ⟨_, _, c_spec_SameSpan e11 (p0[x1.i]'hi1), (FzAs.same _), ?_⟩
              refine And.intro (fun (h12 : (spec_SameSpan e11 (p0[x1.i]'hi1)) = true) => ?_) (fun (h12 : (spec_SameSpan e11 (p0[x1.i]'hi1)) = false) => ?_)
              · refine x2.go hi2 (v := (IntKind.i64.wrap (x2.s - 1))) (by first | rfl | simp only [spec_SameBag_b1, spec_SameBag_b2, h3, h5, h7, h8, he11, h12, cond_true, cond_false, Bool.not_true, Bool.not_false, Option.getD_some, Step.fin_stop, Step.fin_done, Fin.get_fin, Fin.get_done]) [] (by show _ - (x2.i + 1) < _ - x2.i; omega) ?_
                exact ⟨rfl, ⟨rfl, (eqInt hw2), rfl, rfl, rfl, trivial⟩, trivial, trivial⟩
              · refine x2.go hi2 (v := x2.s) (by first | rfl | simp only [spec_SameBag_b1, spec_SameBag_b2, h3, h5, h7, h8, he11, h12, cond_true, cond_false, Bool.not_true, Bool.not_false, Option.getD_some, Step.fin_stop, Step.fin_done, Fin.get_fin, Fin.get_done]) [] (by show _ - (x2.i + 1) < _ - x2.i; omega) ?_
                exact ⟨rfl, ⟨rfl, (eqInt hw2), rfl, rfl, rfl, trivial⟩, trivial, trivial⟩
          · have hf2 := x2.fin (show ¬ x2.i < (p0).length by simpa using h7)
            refine And.intro (fun (h13 : (x2.s != 0) = true) => ?_) (fun (h13 : (x2.s != 0) = false) => ?_)
            · have hb1 := x1.out hi1 (by first | rfl | simp only [spec_SameBag_b1, spec_SameBag_b2, h3, h5, h7, hf2, h13, cond_true, cond_false, Bool.not_true, Bool.not_false, Option.getD_some, Step.isNext_stop, Step.isNext_done, Step.fin_stop, Step.fin_done, Fin.get_fin, Fin.get_done])
              refine And.intro (fun _ => .v _) ?_
              have hg : spec_SameBag p0 p1 = false := by
                first | rfl | (simp only [spec_SameBag, spec_SameBag_b1, spec_SameBag_b2, h3, h5, h7, hf2, h13, hb1, cond_true, cond_false, Step.fin_stop, Step.fin_done, Fin.get_fin, Fin.get_done, Step.fin_next, Bool.not_true, Bool.not_false, Option.getD_some]) | (simp [spec_SameBag, spec_SameBag_b1, spec_SameBag_b2, h3, h5, h7, hf2, h13, hb1, cond_true, cond_false, Step.fin_stop, Step.fin_done, Fin.get_fin, Fin.get_done, Step.fin_next, Bool.not_true, Bool.not_false, Option.getD_some])
              exact congrArg (fun g : Bool => AV.one (.v (.bool g))) hg.symm
            · refine x1.go hi1 (v := ()) (by first | rfl | simp only [spec_SameBag_b1, spec_SameBag_b2, h3, h5, h7, hf2, h13, cond_true, cond_false, Bool.not_true, Bool.not_false, Option.getD_some, Step.fin_stop, Step.fin_done, Fin.get_fin, Fin.get_done]) [] (by show _ - (x1.i + 1) < _ - x1.i; omega) ?_
              exact ⟨rfl, ⟨(eqInt hw1), rfl, rfl, trivial⟩, trivial, trivial⟩
      · have hf1 := x1.fin (show ¬ x1.i < (p0).length by simpa using h5)
        refine And.intro (fun _ => .v _) ?_
        have hg : spec_SameBag p0 p1 = true := by
          first | rfl | (simp only [spec_SameBag, spec_SameBag_b1, spec_SameBag_b2, h3, h5, hf1, cond_true, cond_false, Step.fin_stop, Step.fin_done, Fin.get_fin, Fin.get_done, Step.fin_next, Bool.not_true, Bool.not_false, Option.getD_some]) | (simp [spec_SameBag, spec_SameBag_b1, spec_SameBag_b2, h3, h5, hf1, cond_true, cond_false, Step.fin_stop, Step.fin_done, Fin.get_fin, Fin.get_done, Step.fin_next, Bool.not_true, Bool.not_false, Option.getD_some])
        exact congrArg (fun g : Bool => AV.one (.v (.bool g))) hg.symm
def slices_Equal_72_b1 (p1 : (List Attr)) (i1 : Nat) (s1 : Unit) (a1 : Attr) : Step (Unit) Bool :=
  (bif (!((decide (a1.Key = (p1[i1]?.getD default).Key)) && ((a1.Num == (p1[i1]?.getD default).Num) && ((a1.N == (p1[i1]?.getD default).N) && ((decide (a1.Text = (p1[i1]?.getD default).Text)) && true))))) then (.done false) else (.next ()))
def slices_Equal_72 (p0 : (List Attr)) (p1 : (List Attr)) : Bool :=
  (bif ((((p0).length : Nat) : Int) != (((p1).length : Nat) : Int)) then false else (Fin.get (fun s1 => true) (loopL (slices_Equal_72_b1 p1) 0 () p0)))
theorem c_slices_Equal_72 (p0 : (List Attr)) (p1 : (List Attr)) : FnOk prog 72 [.one (.s false 4 (List.map Attr.cells p0)), .one (.s false 4 (List.map Attr.cells p1))] ⟨.one (.v (.bool (slices_Equal_72 p0 p1))), [], [], false⟩ := by
  refine FnOk.intro (E := env) envOk wide func72 rfl (by kernel_rfl) rfl rfl ?_
  refine lenE (k := (p0).length) (by simp) (fun hN1 => ?_)
  refine lenE (k := (p1).length) (by simp) (fun hN2 => ?_)
  refine And.intro (fun (h3 : ((((p0).length : Nat) : Int) != (((p1).length : Nat) : Int)) = true) => ?_) (fun (h3 : ((((p0).length : Nat) : Int) != (((p1).length : Nat) : Int)) = false) => ?_)
  · refine And.intro (fun _ => .v _) ?_
    have hg : slices_Equal_72 p0 p1 = false := by
      first | rfl | (simp only [slices_Equal_72, h3, cond_true, cond_false, Step.fin_stop, Step.fin_done, Fin.get_fin, Fin.get_done, Step.fin_next, Bool.not_true, Bool.not_false, Option.getD_some]) | (simp [slices_Equal_72, h3, cond_true, cond_false, Step.fin_stop, Step.fin_done, Fin.get_fin, Fin.get_done, Step.fin_next, Bool.not_true, Bool.not_false, Option.getD_some])
    exact congrArg (fun g : Bool => AV.one (.v (.bool g))) hg.symm
  · refine lenE (k := (p0).length) (by simp) (fun hN4 => ?_)
    refine loop_rule (α := LstSt (slices_Equal_72_b1 p1) () p0) [0, 1, 12] (fun x1 => [(13, .one (.v (.int .i64 ((x1.i : Nat) : Int))))]) (fun x1 => []) (fun x1 => (p0).length - x1.i) .init [] ?_ (fun x1 => ?_)
    · exact ⟨rfl, ⟨rfl, rfl, rfl, rfl, trivial⟩, trivial, trivial⟩
    · refine And.intro (fun (h5 : (decide (((x1.i : Nat) : Int) < (((p0).length : Nat) : Int))) = true) => ?_) (fun (h5 : (decide (((x1.i : Nat) : Int) < (((p0).length : Nat) : Int))) = false) => ?_)
      · have hi1 : x1.i < (p0).length := by simpa using h5
        have hw1 : IntKind.i64.wrap ((x1.i : Int) + 1) = ((x1.i + 1 : Nat) : Int) := wrap_succ hi1 (by first | assumption | omega)
        refine And.intro (fun _ => by exact idx_at hi1) (rowAtE (i := x1.i) (l := p0) rfl hi1 ?_)
        refine And.intro (fun _ => by (first | omega | (simp; done) | (simp; omega) | (simp at *; omega) | (simp at *; done) | (simp_all; done) | (simp_all; omega))) (rowOfE (i := x1.i) (l := p1) rfl (fun e6 he6 => ?_))
        refine And.intro (fun (h7 : (!((decide ((p0[x1.i]'hi1).Key = e6.Key)) && (((p0[x1.i]'hi1).Num == e6.Num) && (((p0[x1.i]'hi1).N == e6.N) && ((decide ((p0[x1.i]'hi1).Text = e6.Text)) && true))))) = true) => ?_) (fun (h7 : (!((decide ((p0[x1.i]'hi1).Key = e6.Key)) && (((p0[x1.i]'hi1).Num == e6.Num) && (((p0[x1.i]'hi1).N == e6.N) && ((decide ((p0[x1.i]'hi1).Text = e6.Text)) && true))))) = false) => ?_)
        · have hb1 := x1.out hi1 (by first | rfl | simp only [slices_Equal_72_b1, h3, h5, he6, h7, cond_true, cond_false, Bool.not_true, Bool.not_false, Option.getD_some, Step.isNext_stop, Step.isNext_done, Step.fin_stop, Step.fin_done, Fin.get_fin, Fin.get_done])
          refine And.intro (fun _ => .v _) ?_
          have hg : slices_Equal_72 p0 p1 = false := by
            first | rfl | (simp only [slices_Equal_72, slices_Equal_72_b1, h3, h5, he6, h7, hb1, cond_true, cond_false, Step.fin_stop, Step.fin_done, Fin.get_fin, Fin.get_done, Step.fin_next, Bool.not_true, Bool.not_false, Option.getD_some]) | (simp [slices_Equal_72, slices_Equal_72_b1, h3, h5, he6, h7, hb1, cond_true, cond_false, Step.fin_stop, Step.fin_done, Fin.get_fin, Fin.get_done, Step.fin_next, Bool.not_true, Bool.not_false, Option.getD_some])
          exact congrArg (fun g : Bool => AV.one (.v (.bool g))) hg.symm
        · refine x1.go hi1 (v := ()) (by first | rfl | simp only [slices_Equal_72_b1, h3, h5, he6, h7, cond_true, cond_false, Bool.not_true, Bool.not_false, Option.getD_some, Step.fin_stop, Step.fin_done, Fin.get_fin, Fin.get_done]) [] (by show _ - (x1.i + 1) < _ - x1.i; omega) ?_
          exact ⟨rfl, ⟨(eqInt hw1), rfl, rfl, rfl, trivial⟩, trivial, trivial⟩
      · have hf1 := x1.fin (show ¬ x1.i < (p0).length by simpa using h5)
        refine And.intro (fun _ => .v _) ?_
        have hg : slices_Equal_72 p0 p1 = true := by
          first | rfl | (simp only [slices_Equal_72, slices_Equal_72_b1, h3, h5, hf1, cond_true, cond_false, Step.fin_stop, Step.fin_done, Fin.get_fin, Fin.get_done, Step.fin_next, Bool.not_true, Bool.not_false, Option.getD_some]) | (simp [slices_Equal_72, slices_Equal_72_b1, h3, h5, hf1, cond_true, cond_false, Step.fin_stop, Step.fin_done, Fin.get_fin, Fin.get_done, Step.fin_next, Bool.not_true, Bool.not_false, Option.getD_some])
        exact congrArg (fun g : Bool => AV.one (.v (.bool g))) hg.symm
def impl_SameSpan (p0 : Span) (p1 : Span) : Bool :=
  (bif (p0.Trace == p1.Trace) then (bif (p0.Id == p1.Id) then (bif (p0.Start == p1.Start) then (bif (p0.End == p1.End) then (bif (p0.Err == p1.Err) then (slices_Equal_72 p0.Attrs p1.Attrs) else false) else false) else false) else false) else false)
theorem c_impl_SameSpan (p0 : Span) (p1 : Span) : FnOk prog 53 [.agg ((Span.cells false) p0), .agg ((Span.cells false) p1)] ⟨.one (.v (.bool (impl_SameSpan p0 p1))), [], [], false⟩ := by
  refine FnOk.intro (E := env) envOk wide func53 rfl (by kernel_rfl) rfl rfl ?_
  refine litE (m := 0) rfl ?_
  refine litE (m := 1) rfl ?_
  refine And.intro (fun (h1 : (p0.Trace == p1.Trace) = true) => ?_) (fun (h1 : (p0.Trace == p1.Trace) = false) => ?_)
  · refine And.intro (fun (h2 : (p0.Id == p1.Id) = true) => ?_) (fun (h2 : (p0.Id == p1.Id) = false) => ?_)
    · refine And.intro (fun (h3 : (p0.Start == p1.Start) = true) => ?_) (fun (h3 : (p0.Start == p1.Start) = false) => ?_)
      · refine And.intro (fun (h4 : (p0.End == p1.End) = true) => ?_) (fun (h4 : (p0.End == p1.End) = false) => ?_)
        · refine And.intro (fun (h5 : (p0.Err == p1.Err) = true) => ?_) (fun (h5 : (p0.Err == p1.Err) = false) => ?_)
          · refine ⟨_, _, c_slices_Equal_72 p0.Attrs p1.Attrs, (FzAs.same _), ?_⟩
            refine litE (m := 3) rfl ?_
            refine And.intro (fun _ => .v _) ?_
            have hg : impl_SameSpan p0 p1 = (slices_Equal_72 p0.Attrs p1.Attrs) := by
              first | rfl | (simp only [impl_SameSpan, h1, h2, h3, h4, h5, cond_true, cond_false, Step.fin_stop, Step.fin_done, Fin.get_fin, Fin.get_done, Step.fin_next, Bool.not_true, Bool.not_false, Option.getD_some]) | (simp [impl_SameSpan, h1, h2, h3, h4, h5, cond_true, cond_false, Step.fin_stop, Step.fin_done, Fin.get_fin, Fin.get_done, Step.fin_next, Bool.not_true, Bool.not_false, Option.getD_some])
            exact congrArg (fun g : Bool => AV.one (.v (.bool g))) hg.symm
          · refine And.intro (fun _ => .v _) ?_
            have hg : impl_SameSpan p0 p1 = false := by
              first | rfl | (simp only [impl_SameSpan, h1, h2, h3, h4, h5, cond_true, cond_false, Step.fin_stop, Step.fin_done, Fin.get_fin, Fin.get_done, Step.fin_next, Bool.not_true, Bool.not_false, Option.getD_some]) | (simp [impl_SameSpan, h1, h2, h3, h4, h5, cond_true, cond_false, Step.fin_stop, Step.fin_done, Fin.get_fin, Fin.get_done, Step.fin_next, Bool.not_true, Bool.not_false, Option.getD_some])
            exact congrArg (fun g : Bool => AV.one (.v (.bool g))) hg.symm
        · refine And.intro (fun _ => .v _) ?_
          have hg : impl_SameSpan p0 p1 = false := by
            first | rfl | (simp only [impl_SameSpan, h1, h2, h3, h4, cond_true, cond_false, Step.fin_stop, Step.fin_done, Fin.get_fin, Fin.get_done, Step.fin_next, Bool.not_true, Bool.not_false, Option.getD_some]) | (simp [impl_SameSpan, h1, h2, h3, h4, cond_true, cond_false, Step.fin_stop, Step.fin_done, Fin.get_fin, Fin.get_done, Step.fin_next, Bool.not_true, Bool.not_false, Option.getD_some])
          exact congrArg (fun g : Bool => AV.one (.v (.bool g))) hg.symm
      · refine And.intro (fun _ => .v _) ?_
        have hg : impl_SameSpan p0 p1 = false := by
          first | rfl | (simp only [impl_SameSpan, h1, h2, h3, cond_true, cond_false, Step.fin_stop, Step.fin_done, Fin.get_fin, Fin.get_done, Step.fin_next, Bool.not_true, Bool.not_false, Option.getD_some]) | (simp [impl_SameSpan, h1, h2, h3, cond_true, cond_false, Step.fin_stop, Step.fin_done, Fin.get_fin, Fin.get_done, Step.fin_next, Bool.not_true, Bool.not_false, Option.getD_some])
        exact congrArg (fun g : Bool => AV.one (.v (.bool g))) hg.symm
    · refine And.intro (fun _ => .v _) ?_
      have hg : impl_SameSpan p0 p1 = false := by
        first | rfl | (simp only [impl_SameSpan, h1, h2, cond_true, cond_false, Step.fin_stop, Step.fin_done, Fin.get_fin, Fin.get_done, Step.fin_next, Bool.not_true, Bool.not_false, Option.getD_some]) | (simp [impl_SameSpan, h1, h2, cond_true, cond_false, Step.fin_stop, Step.fin_done, Fin.get_fin, Fin.get_done, Step.fin_next, Bool.not_true, Bool.not_false, Option.getD_some])
      exact congrArg (fun g : Bool => AV.one (.v (.bool g))) hg.symm
  · refine And.intro (fun _ => .v _) ?_
    have hg : impl_SameSpan p0 p1 = false := by
      first | rfl | (simp only [impl_SameSpan, h1, cond_true, cond_false, Step.fin_stop, Step.fin_done, Fin.get_fin, Fin.get_done, Step.fin_next, Bool.not_true, Bool.not_false, Option.getD_some]) | (simp [impl_SameSpan, h1, cond_true, cond_false, Step.fin_stop, Step.fin_done, Fin.get_fin, Fin.get_done, Step.fin_next, Bool.not_true, Bool.not_false, Option.getD_some])
    exact congrArg (fun g : Bool => AV.one (.v (.bool g))) hg.symm
def impl_SameBag_1_b1 (p1 : Span) (i1 : Nat) (s1 : Int) (a1 : Span) : Step (Int) Int :=
  (bif (impl_SameSpan a1 p1) then (.next (IntKind.i64.wrap (s1 + 1))) else (.next s1))
def impl_SameBag_1 (p0 : (List Span)) (p1 : Span) : Int :=
  (Fin.get (fun s1 => s1) (loopL (impl_SameBag_1_b1 p1) 0 0 p0))
theorem c_impl_SameBag_1 (p0 : (List Span)) (p1 : Span) : FnOk prog 52 [.one (.s false 6 (List.map (Span.cells false) p0)), .agg ((Span.cells false) p1)] ⟨.one (.v (.int .i64 (impl_SameBag_1 p0 p1))), [], [], false⟩ := by
  refine FnOk.intro (E := env) envOk wide func52 rfl (by kernel_rfl) rfl rfl ?_
  refine litE (m := 0) rfl ?_
  refine lenE (k := (p0).length) (by simp) (fun hN1 => ?_)
  refine loop_rule (α := LstSt (impl_SameBag_1_b1 p1) 0 p0) [3, 8, 9] (fun x1 => [(5, .one (.v (.int .i64 x1.s))), (10, .one (.v (.int .i64 ((x1.i : Nat) : Int))))]) (fun x1 => [.keep 0]) (fun x1 => (p0).length - x1.i) .init [some 0] ?_ (fun x1 => ?_)
  · exact ⟨rfl, ⟨rfl, rfl, ⟨rfl, rfl, rfl, rfl⟩, rfl, rfl, trivial⟩, ⟨⟨rfl, rfl, ⟨rfl, rfl, rfl, rfl, rfl, rfl, trivial⟩⟩, trivial⟩, trivial⟩
  · refine And.intro (fun (h2 : (decide (((x1.i : Nat) : Int) < (((p0).length : Nat) : Int))) = true) => ?_) (fun (h2 : (decide (((x1.i : Nat) : Int) < (((p0).length : Nat) : Int))) = false) => ?_)
    · have hi1 : x1.i < (p0).length := by simpa using h2
      have hw1 : IntKind.i64.wrap ((x1.i : Int) + 1) = ((x1.i + 1 : Nat) : Int) := wrap_succ hi1 (by first | assumption | omega)
      refine And.intro (fun _ => by exact idx_at hi1) (rowAtE (i := x1.i) (l := p0) rfl hi1 ?_)
      refine litE (m := 1) rfl ?_
      refine ⟨_, _, c_impl_SameSpan (p0[x1.i]'hi1) p1, (FzAs.same _), ?_⟩
      refine litE (m := 3) rfl ?_
      refine And.intro (fun (h3 : (impl_SameSpan (p0[x1.i]'hi1) p1) = true) => ?_) (fun (h3 : (impl_SameSpan (p0[x1.i]'hi1) p1) = false) => ?_)
      · refine x1.go hi1 (v := (IntKind.i64.wrap (x1.s + 1))) (by first | rfl | simp only [impl_SameBag_1_b1, h2, h3, cond_true, cond_false, Bool.not_true, Bool.not_false, Option.getD_some, Step.fin_stop, Step.fin_done, Fin.get_fin, Fin.get_done]) [some 0] (by show _ - (x1.i + 1) < _ - x1.i; omega) ?_
        exact ⟨rfl, ⟨rfl, (eqInt hw1), ⟨rfl, rfl, rfl, rfl⟩, rfl, rfl, trivial⟩, ⟨⟨rfl, rfl, ⟨rfl, rfl, rfl, rfl, rfl, rfl, trivial⟩⟩, trivial⟩, trivial⟩
      · refine x1.go hi1 (v := x1.s) (by first | rfl | simp only [impl_SameBag_1_b1, h2, h3, cond_true, cond_false, Bool.not_true, Bool.not_false, Option.getD_some, Step.fin_stop, Step.fin_done, Fin.get_fin, Fin.get_done]) [some 0] (by show _ - (x1.i + 1) < _ - x1.i; omega) ?_
        exact ⟨rfl, ⟨rfl, (eqInt hw1), ⟨rfl, rfl, rfl, rfl⟩, rfl, rfl, trivial⟩, ⟨⟨rfl, rfl, ⟨rfl, rfl, rfl, rfl, rfl, rfl, trivial⟩⟩, trivial⟩, trivial⟩
    · have hf1 := x1.fin (show ¬ x1.i < (p0).length by simpa using h2)
      refine And.intro (fun _ => .v _) ?_
      have hg : impl_SameBag_1 p0 p1 = x1.s := by
        first | rfl | (simp only [impl_SameBag_1, impl_SameBag_1_b1, h2, hf1, cond_true, cond_false, Step.fin_stop, Step.fin_done, Fin.get_fin, Fin.get_done, Step.fin_next, Bool.not_true, Bool.not_false, Option.getD_some]) | (simp [impl_SameBag_1, impl_SameBag_1_b1, h2, hf1, cond_true, cond_false, Step.fin_stop, Step.fin_done, Fin.get_fin, Fin.get_done, Step.fin_next, Bool.not_true, Bool.not_false, Option.getD_some])
      exact congrArg (fun g : Int => AV.one (.v (.int .i64 g))) hg.symm
def impl_SameBag_b1 (p0 : (List Span)) (p1 : (List Span)) (i1 : Nat) (s1 : Unit) (a1 : Span) : Step (Unit) Bool :=
  (bif ((impl_SameBag_1 p0 a1) != (impl_SameBag_1 p1 a1)) then (.done false) else (.next ()))
def impl_SameBag (p0 : (List Span)) (p1 : (List Span)) : Bool :=
  (Fin.get (fun s1 => ((((p0).length : Nat) : Int) == (((p1).length : Nat) : Int))) (loopL (impl_SameBag_b1 p0 p1) 0 () p0))
theorem c_impl_SameBag (p0 : (List Span)) (p1 : (List Span)) : FnOk prog 23 [.one (.s false 6 (List.map (Span.cells false) p0)), .one (.s false 6 (List.map (Span.cells false) p1))] ⟨.one (.v (.bool (impl_SameBag p0 p1))), [], [], false⟩ := by
  refine FnOk.intro (E := env) envOk wide func23 rfl (by kernel_rfl) rfl rfl ?_
  refine lenE (k := (p0).length) (by simp) (fun hN1 => ?_)
  refine loop_rule (α := LstSt (impl_SameBag_b1 p0 p1) () p0) [0, 1, 5, 8, 9] (fun x1 => [(10, .one (.v (.int .i64 ((x1.i : Nat) : Int))))]) (fun x1 => []) (fun x1 => (p0).length - x1.i) .init [] ?_ (fun x1 => ?_)
  · exact ⟨rfl, ⟨rfl, rfl, rfl, ⟨rfl, trivial⟩, rfl, rfl, trivial⟩, trivial, trivial⟩
  · refine And.intro (fun (h2 : (decide (((x1.i : Nat) : Int) < (((p0).length : Nat) : Int))) = true) => ?_) (fun (h2 : (decide (((x1.i : Nat) : Int) < (((p0).length : Nat) : Int))) = false) => ?_)
    · have hi1 : x1.i < (p0).length := by simpa using h2
      have hw1 : IntKind.i64.wrap ((x1.i : Int) + 1) = ((x1.i + 1 : Nat) : Int) := wrap_succ hi1 (by first | assumption | omega)
      refine And.intro (fun _ => by exact idx_at hi1) (rowAtE (i := x1.i) (l := p0) rfl hi1 ?_)
      refine litE (m := 0) rfl ?_
      refine ⟨_, _, c_impl_SameBag_1 p0 (p0[x1.i]'hi1), (FzAs.same _), ?_⟩
      refine ⟨_, _, c_impl_SameBag_1 p1 (p0[x1.i]'hi1), (FzAs.same _), ?_⟩
      refine And.intro (fun (h3 : ((impl_SameBag_1 p0 (p0[x1.i]'hi1)) != (impl_SameBag_1 p1 (p0[x1.i]'hi1))) = true) => ?_) (fun (h3 : ((impl_SameBag_1 p0 (p0[x1.i]'hi1)) != (impl_SameBag_1 p1 (p0[x1.i]'hi1))) = false) => ?_)
      · have hb1 := x1.out hi1 (by first | rfl | simp only [impl_SameBag_b1, h2, h3, cond_true, cond_false, Bool.not_true, Bool.not_false, Option.getD_some, Step.isNext_stop, Step.isNext_done, Step.fin_stop, Step.fin_done, Fin.get_fin, Fin.get_done])
        refine And.intro (fun _ => .v _) ?_
        have hg : impl_SameBag p0 p1 = false := by
          first | rfl | (simp only [impl_SameBag, impl_SameBag_b1, h2, h3, hb1, cond_true, cond_false, Step.fin_stop, Step.fin_done, Fin.get_fin, Fin.get_done, Step.fin_next, Bool.not_true, Bool.not_false, Option.getD_some]) | (simp [impl_SameBag, impl_SameBag_b1, h2, h3, hb1, cond_true, cond_false, Step.fin_stop, Step.fin_done, Fin.get_fin, Fin.get_done, Step.fin_next, Bool.not_true, Bool.not_false, Option.getD_some])
        exact congrArg (fun g : Bool => AV.one (.v (.bool g))) hg.symm
      · refine x1.go hi1 (v := ()) (by first | rfl | simp only [impl_SameBag_b1, h2, h3, cond_true, cond_false, Bool.not_true, Bool.not_false, Option.getD_some, Step.fin_stop, Step.fin_done, Fin.get_fin, Fin.get_done]) [] (by show _ - (x1.i + 1) < _ - x1.i; omega) ?_
        exact ⟨rfl, ⟨(eqInt hw1), rfl, rfl, ⟨rfl, trivial⟩, rfl, rfl, trivial⟩, trivial, trivial⟩
    · have hf1 := x1.fin (show ¬ x1.i < (p0).length by simpa using h2)
      refine lenE (k := (p0).length) (by simp) (fun hN4 => ?_)
      refine lenE (k := (p1).length) (by simp) (fun hN5 => ?_)
      refine And.intro (fun _ => .v _) ?_
      have hg : impl_SameBag p0 p1 = ((((p0).length : Nat) : Int) == (((p1).length : Nat) : Int)) := by
        first | rfl | (simp only [impl_SameBag, impl_SameBag_b1, h2, hf1, cond_true, cond_false, Step.fin_stop, Step.fin_done, Fin.get_fin, Fin.get_done, Step.fin_next, Bool.not_true, Bool.not_false, Option.getD_some]) | (simp [impl_SameBag, impl_SameBag_b1, h2, hf1, cond_true, cond_false, Step.fin_stop, Step.fin_done, Fin.get_fin, Fin.get_done, Step.fin_next, Bool.not_true, Bool.not_false, Option.getD_some])
      exact congrArg (fun g : Bool => AV.one (.v (.bool g))) hg.symm
def laws_eqAttr (p0 : Attr) (p1 : Attr) : Bool :=
  (bif (!decide (p0.Key = p1.Key)) then false else (bif (!(p0.Num == p1.Num)) then false else (bif (p0.N != p1.N) then false else (bif (!decide (p0.Text = p1.Text)) then false else true))))
theorem c_laws_eqAttr (p0 : Attr) (p1 : Attr) : FnOk prog 81 [.agg (Attr.cells p0), .agg (Attr.cells p1)] ⟨.one (.v (.bool (laws_eqAttr p0 p1))), [], [], false⟩ := by
  refine FnOk.intro (E := env) envOk wide func81 rfl (by kernel_rfl) rfl rfl ?_
  refine litE (m := 0) rfl ?_
  refine litE (m := 1) rfl ?_
  refine And.intro (fun (h1 : (!decide (p0.Key = p1.Key)) = true) => ?_) (fun (h1 : (!decide (p0.Key = p1.Key)) = false) => ?_)
  · refine And.intro (fun _ => .v _) ?_
    have hg : laws_eqAttr p0 p1 = false := by
      first | rfl | (simp only [laws_eqAttr, h1, cond_true, cond_false, Step.fin_stop, Step.fin_done, Fin.get_fin, Fin.get_done, Step.fin_next, Bool.not_true, Bool.not_false, Option.getD_some]) | (simp [laws_eqAttr, h1, cond_true, cond_false, Step.fin_stop, Step.fin_done, Fin.get_fin, Fin.get_done, Step.fin_next, Bool.not_true, Bool.not_false, Option.getD_some])
    exact congrArg (fun g : Bool => AV.one (.v (.bool g))) hg.symm
  · refine And.intro (fun (h2 : (!(p0.Num == p1.Num)) = true) => ?_) (fun (h2 : (!(p0.Num == p1.Num)) = false) => ?_)
    · refine And.intro (fun _ => .v _) ?_
      have hg : laws_eqAttr p0 p1 = false := by
        first | rfl | (simp only [laws_eqAttr, h1, h2, cond_true, cond_false, Step.fin_stop, Step.fin_done, Fin.get_fin, Fin.get_done, Step.fin_next, Bool.not_true, Bool.not_false, Option.getD_some]) | (simp [laws_eqAttr, h1, h2, cond_true, cond_false, Step.fin_stop, Step.fin_done, Fin.get_fin, Fin.get_done, Step.fin_next, Bool.not_true, Bool.not_false, Option.getD_some])
      exact congrArg (fun g : Bool => AV.one (.v (.bool g))) hg.symm
    · refine And.intro (fun (h3 : (p0.N != p1.N) = true) => ?_) (fun (h3 : (p0.N != p1.N) = false) => ?_)
      · refine And.intro (fun _ => .v _) ?_
        have hg : laws_eqAttr p0 p1 = false := by
          first | rfl | (simp only [laws_eqAttr, h1, h2, h3, cond_true, cond_false, Step.fin_stop, Step.fin_done, Fin.get_fin, Fin.get_done, Step.fin_next, Bool.not_true, Bool.not_false, Option.getD_some]) | (simp [laws_eqAttr, h1, h2, h3, cond_true, cond_false, Step.fin_stop, Step.fin_done, Fin.get_fin, Fin.get_done, Step.fin_next, Bool.not_true, Bool.not_false, Option.getD_some])
        exact congrArg (fun g : Bool => AV.one (.v (.bool g))) hg.symm
      · refine And.intro (fun (h4 : (!decide (p0.Text = p1.Text)) = true) => ?_) (fun (h4 : (!decide (p0.Text = p1.Text)) = false) => ?_)
        · refine And.intro (fun _ => .v _) ?_
          have hg : laws_eqAttr p0 p1 = false := by
            first | rfl | (simp only [laws_eqAttr, h1, h2, h3, h4, cond_true, cond_false, Step.fin_stop, Step.fin_done, Fin.get_fin, Fin.get_done, Step.fin_next, Bool.not_true, Bool.not_false, Option.getD_some]) | (simp [laws_eqAttr, h1, h2, h3, h4, cond_true, cond_false, Step.fin_stop, Step.fin_done, Fin.get_fin, Fin.get_done, Step.fin_next, Bool.not_true, Bool.not_false, Option.getD_some])
          exact congrArg (fun g : Bool => AV.one (.v (.bool g))) hg.symm
        · refine And.intro (fun _ => .v _) ?_
          have hg : laws_eqAttr p0 p1 = true := by
            first | rfl | (simp only [laws_eqAttr, h1, h2, h3, h4, cond_true, cond_false, Step.fin_stop, Step.fin_done, Fin.get_fin, Fin.get_done, Step.fin_next, Bool.not_true, Bool.not_false, Option.getD_some]) | (simp [laws_eqAttr, h1, h2, h3, h4, cond_true, cond_false, Step.fin_stop, Step.fin_done, Fin.get_fin, Fin.get_done, Step.fin_next, Bool.not_true, Bool.not_false, Option.getD_some])
          exact congrArg (fun g : Bool => AV.one (.v (.bool g))) hg.symm
theorem rf_laws_eqAttr (x : Attr) : laws_eqAttr x x = true := by
  simp [laws_eqAttr]
def laws_eqAttrS_b1 (p1 : (List Attr)) (i1 : Nat) (s1 : Unit) (a1 : Attr) : Step (Unit) Bool :=
  (bif (!(laws_eqAttr a1 (p1[i1]?.getD default))) then (.done false) else (.next ()))
def laws_eqAttrS (p0 : (List Attr)) (p1 : (List Attr)) : Bool :=
  (bif ((((p0).length : Nat) : Int) != (((p1).length : Nat) : Int)) then false else (Fin.get (fun s1 => true) (loopL (laws_eqAttrS_b1 p1) 0 () p0)))
theorem c_laws_eqAttrS (p0 : (List Attr)) (p1 : (List Attr)) : FnOk prog 75 [.one (.s false 4 (List.map Attr.cells p0)), .one (.s false 4 (List.map Attr.cells p1))] ⟨.one (.v (.bool (laws_eqAttrS p0 p1))), [], [], false⟩ := by
  refine FnOk.intro (E := env) envOk wide func75 rfl (by kernel_rfl) rfl rfl ?_
  refine lenE (k := (p0).length) (by simp) (fun hN1 => ?_)
  refine lenE (k := (p1).length) (by simp) (fun hN2 => ?_)
  refine And.intro (fun (h3 : ((((p0).length : Nat) : Int) != (((p1).length : Nat) : Int)) = true) => ?_) (fun (h3 : ((((p0).length : Nat) : Int) != (((p1).length : Nat) : Int)) = false) => ?_)
  · refine And.intro (fun _ => .v _) ?_
    have hg : laws_eqAttrS p0 p1 = false := by
      first | rfl | (simp only [laws_eqAttrS, h3, cond_true, cond_false, Step.fin_stop, Step.fin_done, Fin.get_fin, Fin.get_done, Step.fin_next, Bool.not_true, Bool.not_false, Option.getD_some]) | (simp [laws_eqAttrS, h3, cond_true, cond_false, Step.fin_stop, Step.fin_done, Fin.get_fin, Fin.get_done, Step.fin_next, Bool.not_true, Bool.not_false, Option.getD_some])
    exact congrArg (fun g : Bool => AV.one (.v (.bool g))) hg.symm
  · refine loop_rule (α := LstSt (laws_eqAttrS_b1 p1) () p0) [0, 1] (fun x1 => [(5, .one (.v (.int .i64 ((x1.i : Nat) : Int))))]) (fun x1 => []) (fun x1 => (p0).length - x1.i) .init [] ?_ (fun x1 => ?_)
    · exact ⟨rfl, ⟨rfl, rfl, rfl, trivial⟩, trivial, trivial⟩
    · refine lenE (k := (p0).length) (by simp) (fun hN4 => ?_)
      refine And.intro (fun (h5 : (decide (((x1.i : Nat) : Int) < (((p0).length : Nat) : Int))) = true) => ?_) (fun (h5 : (decide (((x1.i : Nat) : Int) < (((p0).length : Nat) : Int))) = false) => ?_)
      · have hi1 : x1.i < (p0).length := by simpa using h5
        have hw1 : IntKind.i64.wrap ((x1.i : Int) + 1) = ((x1.i + 1 : Nat) : Int) := wrap_succ hi1 (by first | assumption | omega)
        refine And.intro (fun _ => by exact idx_at hi1) (rowAtE (i := x1.i) (l := p0) rfl hi1 ?_)
        refine And.intro (fun _ => by (first | omega | (simp; done) | (simp; omega) | (simp at *; omega) | (simp at *; done) | (simp_all; done) | (simp_all; omega))) (rowOfE (i := x1.i) (l := p1) rfl (fun e6 he6 => ?_))
        refine ⟨_, _, c_laws_eqAttr (p0[x1.i]'hi1) e6, (FzAs.same _), ?_⟩
        refine And.intro (fun (h7 : (!(laws_eqAttr (p0[x1.i]'hi1) e6)) = true) => ?_) (fun (h7 : (!(laws_eqAttr (p0[x1.i]'hi1) e6)) = false) => ?_)
        · have hb1 := x1.out hi1 (by first | rfl | simp only [laws_eqAttrS_b1, h3, h5, he6, h7, cond_true, cond_false, Bool.not_true, Bool.not_false, Option.getD_some, Step.isNext_stop, Step.isNext_done, Step.fin_stop, Step.fin_done, Fin.get_fin, Fin.get_done])
          refine And.intro (fun _ => .v _) ?_
          have hg : laws_eqAttrS p0 p1 = false := by
            first | rfl | (simp only [laws_eqAttrS, laws_eqAttrS_b1, h3, h5, he6, h7, hb1, cond_true, cond_false, Step.fin_stop, Step.fin_done, Fin.get_fin, Fin.get_done, Step.fin_next, Bool.not_true, Bool.not_false, Option.getD_some]) | (simp [laws_eqAttrS, laws_eqAttrS_b1, h3, h5, he6, h7, hb1, cond_true, cond_false, Step.fin_stop, Step.fin_done, Fin.get_fin, Fin.get_done, Step.fin_next, Bool.not_true, Bool.not_false, Option.getD_some])
          exact congrArg (fun g : Bool => AV.one (.v (.bool g))) hg.symm
        · refine x1.go hi1 (v := ()) (by first | rfl | simp only [laws_eqAttrS_b1, h3, h5, he6, h7, cond_true, cond_false, Bool.not_true, Bool.not_false, Option.getD_some, Step.fin_stop, Step.fin_done, Fin.get_fin, Fin.get_done]) [] (by show _ - (x1.i + 1) < _ - x1.i; omega) ?_
          exact ⟨rfl, ⟨(eqInt hw1), rfl, rfl, trivial⟩, trivial, trivial⟩
      · have hf1 := x1.fin (show ¬ x1.i < (p0).length by simpa using h5)
        refine And.intro (fun _ => .v _) ?_
        have hg : laws_eqAttrS p0 p1 = true := by
          first | rfl | (simp only [laws_eqAttrS, laws_eqAttrS_b1, h3, h5, hf1, cond_true, cond_false, Step.fin_stop, Step.fin_done, Fin.get_fin, Fin.get_done, Step.fin_next, Bool.not_true, Bool.not_false, Option.getD_some]) | (simp [laws_eqAttrS, laws_eqAttrS_b1, h3, h5, hf1, cond_true, cond_false, Step.fin_stop, Step.fin_done, Fin.get_fin, Fin.get_done, Step.fin_next, Bool.not_true, Bool.not_false, Option.getD_some])
        exact congrArg (fun g : Bool => AV.one (.v (.bool g))) hg.symm
theorem rf_laws_eqAttrS (x : (List Attr)) : laws_eqAttrS x x = true := eqS_ok (b := laws_eqAttrS_b1) rf_laws_eqAttr (fun _ _ _ _ => rfl) (fun _ _ => rfl) x
def laws_eqSpan (p0 : Span) (p1 : Span) : Bool :=
  (bif (p0.Trace != p1.Trace) then false else (bif (p0.Id != p1.Id) then false else (bif (p0.Start != p1.Start) then false else (bif (p0.End != p1.End) then false else (bif (!(p0.Err == p1.Err)) then false else (bif (!(laws_eqAttrS p0.Attrs p1.Attrs)) then false else true))))))
theorem c_laws_eqSpan (p0 : Span) (p1 : Span) : FnOk prog 57 [.agg ((Span.cells false) p0), .agg ((Span.cells false) p1)] ⟨.one (.v (.bool (laws_eqSpan p0 p1))), [], [], false⟩ := by
  refine FnOk.intro (E := env) envOk wide func57 rfl (by kernel_rfl) rfl rfl ?_
  refine litE (m := 0) rfl ?_
  refine litE (m := 1) rfl ?_
  refine And.intro (fun (h1 : (p0.Trace != p1.Trace) = true) => ?_) (fun (h1 : (p0.Trace != p1.Trace) = false) => ?_)
  · refine And.intro (fun _ => .v _) ?_
    have hg : laws_eqSpan p0 p1 = false := by
      first | rfl | (simp only [laws_eqSpan, h1, cond_true, cond_false, Step.fin_stop, Step.fin_done, Fin.get_fin, Fin.get_done, Step.fin_next, Bool.not_true, Bool.not_false, Option.getD_some]) | (simp [laws_eqSpan, h1, cond_true, cond_false, Step.fin_stop, Step.fin_done, Fin.get_fin, Fin.get_done, Step.fin_next, Bool.not_true, Bool.not_false, Option.getD_some])
    exact congrArg (fun g : Bool => AV.one (.v (.bool g))) hg.symm
  · refine And.intro (fun (h2 : (p0.Id != p1.Id) = true) => ?_) (fun (h2 : (p0.Id != p1.Id) = false) => ?_)
    · refine And.intro (fun _ => .v _) ?_
      have hg : laws_eqSpan p0 p1 = false := by
        first | rfl | (simp only [laws_eqSpan, h1, h2, cond_true, cond_false, Step.fin_stop, Step.fin_done, Fin.get_fin, Fin.get_done, Step.fin_next, Bool.not_true, Bool.not_false, Option.getD_some]) | (simp [laws_eqSpan, h1, h2, cond_true, cond_false, Step.fin_stop, Step.fin_done, Fin.get_fin, Fin.get_done, Step.fin_next, Bool.not_true, Bool.not_false, Option.getD_some])
      exact congrArg (fun g : Bool => AV.one (.v (.bool g))) hg.symm
    · refine And.intro (fun (h3 : (p0.Start != p1.Start) = true) => ?_) (fun (h3 : (p0.Start != p1.Start) = false) => ?_)
      · refine And.intro (fun _ => .v _) ?_
        have hg : laws_eqSpan p0 p1 = false := by
          first | rfl | (simp only [laws_eqSpan, h1, h2, h3, cond_true, cond_false, Step.fin_stop, Step.fin_done, Fin.get_fin, Fin.get_done, Step.fin_next, Bool.not_true, Bool.not_false, Option.getD_some]) | (simp [laws_eqSpan, h1, h2, h3, cond_true, cond_false, Step.fin_stop, Step.fin_done, Fin.get_fin, Fin.get_done, Step.fin_next, Bool.not_true, Bool.not_false, Option.getD_some])
        exact congrArg (fun g : Bool => AV.one (.v (.bool g))) hg.symm
      · refine And.intro (fun (h4 : (p0.End != p1.End) = true) => ?_) (fun (h4 : (p0.End != p1.End) = false) => ?_)
        · refine And.intro (fun _ => .v _) ?_
          have hg : laws_eqSpan p0 p1 = false := by
            first | rfl | (simp only [laws_eqSpan, h1, h2, h3, h4, cond_true, cond_false, Step.fin_stop, Step.fin_done, Fin.get_fin, Fin.get_done, Step.fin_next, Bool.not_true, Bool.not_false, Option.getD_some]) | (simp [laws_eqSpan, h1, h2, h3, h4, cond_true, cond_false, Step.fin_stop, Step.fin_done, Fin.get_fin, Fin.get_done, Step.fin_next, Bool.not_true, Bool.not_false, Option.getD_some])
          exact congrArg (fun g : Bool => AV.one (.v (.bool g))) hg.symm
        · refine And.intro (fun (h5 : (!(p0.Err == p1.Err)) = true) => ?_) (fun (h5 : (!(p0.Err == p1.Err)) = false) => ?_)
          · refine And.intro (fun _ => .v _) ?_
            have hg : laws_eqSpan p0 p1 = false := by
              first | rfl | (simp only [laws_eqSpan, h1, h2, h3, h4, h5, cond_true, cond_false, Step.fin_stop, Step.fin_done, Fin.get_fin, Fin.get_done, Step.fin_next, Bool.not_true, Bool.not_false, Option.getD_some]) | (simp [laws_eqSpan, h1, h2, h3, h4, h5, cond_true, cond_false, Step.fin_stop, Step.fin_done, Fin.get_fin, Fin.get_done, Step.fin_next, Bool.not_true, Bool.not_false, Option.getD_some])
            exact congrArg (fun g : Bool => AV.one (.v (.bool g))) hg.symm
          · refine ⟨_, _, c_laws_eqAttrS p0.Attrs p1.Attrs, (FzAs.same _), ?_⟩
            refine litE (m := 3) rfl ?_
            refine And.intro (fun (h6 : (!(laws_eqAttrS p0.Attrs p1.Attrs)) = true) => ?_) (fun (h6 : (!(laws_eqAttrS p0.Attrs p1.Attrs)) = false) => ?_)
            · refine And.intro (fun _ => .v _) ?_
              have hg : laws_eqSpan p0 p1 = false := by
                first | rfl | (simp only [laws_eqSpan, h1, h2, h3, h4, h5, h6, cond_true, cond_false, Step.fin_stop, Step.fin_done, Fin.get_fin, Fin.get_done, Step.fin_next, Bool.not_true, Bool.not_false, Option.getD_some]) | (simp [laws_eqSpan, h1, h2, h3, h4, h5, h6, cond_true, cond_false, Step.fin_stop, Step.fin_done, Fin.get_fin, Fin.get_done, Step.fin_next, Bool.not_true, Bool.not_false, Option.getD_some])
              exact congrArg (fun g : Bool => AV.one (.v (.bool g))) hg.symm
            · refine And.intro (fun _ => .v _) ?_
              have hg : laws_eqSpan p0 p1 = true := by
                first | rfl | (simp only [laws_eqSpan, h1, h2, h3, h4, h5, h6, cond_true, cond_false, Step.fin_stop, Step.fin_done, Fin.get_fin, Fin.get_done, Step.fin_next, Bool.not_true, Bool.not_false, Option.getD_some]) | (simp [laws_eqSpan, h1, h2, h3, h4, h5, h6, cond_true, cond_false, Step.fin_stop, Step.fin_done, Fin.get_fin, Fin.get_done, Step.fin_next, Bool.not_true, Bool.not_false, Option.getD_some])
              exact congrArg (fun g : Bool => AV.one (.v (.bool g))) hg.symm
theorem rf_laws_eqSpan (x : Span) : laws_eqSpan x x = true := by
  simp [laws_eqSpan, rf_laws_eqAttr, rf_laws_eqAttrS]
def laws_eqSpanS_b1 (p1 : (List Span)) (i1 : Nat) (s1 : Unit) (a1 : Span) : Step (Unit) Bool :=
  (bif (!(laws_eqSpan a1 (p1[i1]?.getD default))) then (.done false) else (.next ()))
def laws_eqSpanS (p0 : (List Span)) (p1 : (List Span)) : Bool :=
  (bif ((((p0).length : Nat) : Int) != (((p1).length : Nat) : Int)) then false else (Fin.get (fun s1 => true) (loopL (laws_eqSpanS_b1 p1) 0 () p0)))
theorem c_laws_eqSpanS (p0 : (List Span)) (p1 : (List Span)) : FnOk prog 27 [.one (.s false 6 (List.map (Span.cells false) p0)), .one (.s false 6 (List.map (Span.cells false) p1))] ⟨.one (.v (.bool (laws_eqSpanS p0 p1))), [], [], false⟩ := by
  refine FnOk.intro (E := env) envOk wide func27 rfl (by kernel_rfl) rfl rfl ?_
  refine lenE (k := (p0).length) (by simp) (fun hN1 => ?_)
  refine lenE (k := (p1).length) (by simp) (fun hN2 => ?_)
  refine And.intro (fun (h3 : ((((p0).length : Nat) : Int) != (((p1).length : Nat) : Int)) = true) => ?_) (fun (h3 : ((((p0).length : Nat) : Int) != (((p1).length : Nat) : Int)) = false) => ?_)
  · refine And.intro (fun _ => .v _) ?_
    have hg : laws_eqSpanS p0 p1 = false := by
      first | rfl | (simp only [laws_eqSpanS, h3, cond_true, cond_false, Step.fin_stop, Step.fin_done, Fin.get_fin, Fin.get_done, Step.fin_next, Bool.not_true, Bool.not_false, Option.getD_some]) | (simp [laws_eqSpanS, h3, cond_true, cond_false, Step.fin_stop, Step.fin_done, Fin.get_fin, Fin.get_done, Step.fin_next, Bool.not_true, Bool.not_false, Option.getD_some])
    exact congrArg (fun g : Bool => AV.one (.v (.bool g))) hg.symm
  · refine loop_rule (α := LstSt (laws_eqSpanS_b1 p1) () p0) [0, 1] (fun x1 => [(5, .one (.v (.int .i64 ((x1.i : Nat) : Int))))]) (fun x1 => []) (fun x1 => (p0).length - x1.i) .init [] ?_ (fun x1 => ?_)
    · exact ⟨rfl, ⟨rfl, rfl, rfl, trivial⟩, trivial, trivial⟩
    · refine lenE (k := (p0).length) (by simp) (fun hN4 => ?_)
      refine And.intro (fun (h5 : (decide (((x1.i : Nat) : Int) < (((p0).length : Nat) : Int))) = true) => ?_) (fun (h5 : (decide (((x1.i : Nat) : Int) < (((p0).length : Nat) : Int))) = false) => ?_)
      · have hi1 : x1.i < (p0).length := by simpa using h5
        have hw1 : IntKind.i64.wrap ((x1.i : Int) + 1) = ((x1.i + 1 : Nat) : Int) := wrap_succ hi1 (by first | assumption | omega)
        refine And.intro (fun _ => by exact idx_at hi1) (rowAtE (i := x1.i) (l := p0) rfl hi1 ?_)
        refine And.intro (fun _ => by (first | omega | (simp; done) | (simp; omega) | (simp at *; omega) | (simp at *; done) | (simp_all; done) | (simp_all; omega))) (rowOfE (i := x1.i) (l := p1) rfl (fun e6 he6 => ?_))
        refine ⟨_, _, c_laws_eqSpan (p0[x1.i]'hi1) e6, (FzAs.same _), ?_⟩
        refine And.intro (fun (h7 : (!(laws_eqSpan (p0[x1.i]'hi1) e6)) = true) => ?_) (fun (h7 : (!(laws_eqSpan (p0[x1.i]'hi1) e6)) = false) => ?_)
        · have hb1 := x1.out hi1 (by first | rfl | simp only [laws_eqSpanS_b1, h3, h5, he6, h7, cond_true, cond_false, Bool.not_true, Bool.not_false, Option.getD_some, Step.isNext_stop, Step.isNext_done, Step.fin_stop, Step.fin_done, Fin.get_fin, Fin.get_done])
          refine And.intro (fun _ => .v _) ?_
          have hg : laws_eqSpanS p0 p1 = false := by
            first | rfl | (simp only [laws_eqSpanS, laws_eqSpanS_b1, h3, h5, he6, h7, hb1, cond_true, cond_false, Step.fin_stop, Step.fin_done, Fin.get_fin, Fin.get_done, Step.fin_next, Bool.not_true, Bool.not_false, Option.getD_some]) | (simp [laws_eqSpanS, laws_eqSpanS_b1, h3, h5, he6, h7, hb1, cond_true, cond_false, Step.fin_stop, Step.fin_done, Fin.get_fin, Fin.get_done, Step.fin_next, Bool.not_true, Bool.not_false, Option.getD_some])
          exact congrArg (fun g : Bool => AV.one (.v (.bool g))) hg.symm
        · refine x1.go hi1 (v := ()) (by first | rfl | simp only [laws_eqSpanS_b1, h3, h5, he6, h7, cond_true, cond_false, Bool.not_true, Bool.not_false, Option.getD_some, Step.fin_stop, Step.fin_done, Fin.get_fin, Fin.get_done]) [] (by show _ - (x1.i + 1) < _ - x1.i; omega) ?_
          exact ⟨rfl, ⟨(eqInt hw1), rfl, rfl, trivial⟩, trivial, trivial⟩
      · have hf1 := x1.fin (show ¬ x1.i < (p0).length by simpa using h5)
        refine And.intro (fun _ => .v _) ?_
        have hg : laws_eqSpanS p0 p1 = true := by
          first | rfl | (simp only [laws_eqSpanS, laws_eqSpanS_b1, h3, h5, hf1, cond_true, cond_false, Step.fin_stop, Step.fin_done, Fin.get_fin, Fin.get_done, Step.fin_next, Bool.not_true, Bool.not_false, Option.getD_some]) | (simp [laws_eqSpanS, laws_eqSpanS_b1, h3, h5, hf1, cond_true, cond_false, Step.fin_stop, Step.fin_done, Fin.get_fin, Fin.get_done, Step.fin_next, Bool.not_true, Bool.not_false, Option.getD_some])
        exact congrArg (fun g : Bool => AV.one (.v (.bool g))) hg.symm
theorem rf_laws_eqSpanS (x : (List Span)) : laws_eqSpanS x x = true := eqS_ok (b := laws_eqSpanS_b1) rf_laws_eqSpan (fun _ _ _ _ => rfl) (fun _ _ => rfl) x
def laws_FnExactSameBag (p0 : (List Span)) (p1 : (List Span)) : Bool :=
  (bif (decide ((laws_szSpanS p0 1048576) < 0)) then true else (bif (decide ((laws_szSpanS p1 (laws_szSpanS p0 1048576)) < 0)) then true else (bif (!((impl_SameBag (laws_toSpanS p0) (laws_toSpanS p1)) == (spec_SameBag (laws_toSpanS p0) (laws_toSpanS p1)))) then false else (bif (!(laws_eqSpanS (laws_toSpanS p0) (laws_toSpanS p0))) then false else (bif (!(laws_eqSpanS (laws_toSpanS p1) (laws_toSpanS p1))) then false else true)))))
theorem c_laws_FnExactSameBag (p0 : (List Span)) (p1 : (List Span)) (hw0 : bdS Span.bd 9223372036854775807 p0) (hw1 : bdS Span.bd 9223372036854775807 p1) : FnOk prog 6 [.one (.s false 6 (List.map (Span.cells false) p0)), .one (.s false 6 (List.map (Span.cells false) p1))] ⟨.one (.v (.bool (laws_FnExactSameBag p0 p1))), [], [], false⟩ := by
  refine FnOk.intro (E := env) envOk wide func6 rfl (by kernel_rfl) rfl rfl ?_
  refine ⟨_, _, c_laws_szSpanS p0 1048576, (FzAs.same _), ?_⟩
  refine litE (m := 1) rfl ?_
  refine And.intro (fun (h1 : (decide ((laws_szSpanS p0 1048576) < 0)) = true) => ?_) (fun (h1 : (decide ((laws_szSpanS p0 1048576) < 0)) = false) => ?_)
  · refine And.intro (fun _ => .v _) ?_
    have hg : laws_FnExactSameBag p0 p1 = true := by
      first | rfl | (simp only [laws_FnExactSameBag, h1, cond_true, cond_false, Step.fin_stop, Step.fin_done, Fin.get_fin, Fin.get_done, Step.fin_next, Bool.not_true, Bool.not_false, Option.getD_some]) | (simp [laws_FnExactSameBag, h1, cond_true, cond_false, Step.fin_stop, Step.fin_done, Fin.get_fin, Fin.get_done, Step.fin_next, Bool.not_true, Bool.not_false, Option.getD_some])
    exact congrArg (fun g : Bool => AV.one (.v (.bool g))) hg.symm
  · have hz1 := szd_laws_szSpanS p0 1048576 (by assumption) (by decide) (by decide) (by simpa using h1)
    have hs1 := hz1.1
    have hl1 : (laws_szSpanS p0 1048576) ≤ 1048576 := Int.le_trans hz1.2 (by decide)
    refine ⟨_, _, c_laws_szSpanS p1 (laws_szSpanS p0 1048576), (FzAs.same _), ?_⟩
    refine litE (m := 2) rfl ?_
    refine And.intro (fun (h2 : (decide ((laws_szSpanS p1 (laws_szSpanS p0 1048576)) < 0)) = true) => ?_) (fun (h2 : (decide ((laws_szSpanS p1 (laws_szSpanS p0 1048576)) < 0)) = false) => ?_)
    · refine And.intro (fun _ => .v _) ?_
      have hg : laws_FnExactSameBag p0 p1 = true := by
        first | rfl | (simp only [laws_FnExactSameBag, h1, h2, cond_true, cond_false, Step.fin_stop, Step.fin_done, Fin.get_fin, Fin.get_done, Step.fin_next, Bool.not_true, Bool.not_false, Option.getD_some]) | (simp [laws_FnExactSameBag, h1, h2, cond_true, cond_false, Step.fin_stop, Step.fin_done, Fin.get_fin, Fin.get_done, Step.fin_next, Bool.not_true, Bool.not_false, Option.getD_some])
      exact congrArg (fun g : Bool => AV.one (.v (.bool g))) hg.symm
    · have hz2 := szd_laws_szSpanS p1 (laws_szSpanS p0 1048576) (by assumption) (by simpa using h1) hl1 (by simpa using h2)
      have hs2 := hz2.1
      have hl2 : (laws_szSpanS p1 (laws_szSpanS p0 1048576)) ≤ 1048576 := Int.le_trans hz2.2 hl1
      refine ⟨_, _, c_laws_toSpanS p0 (by assumption), (FzAs.same _), ?_⟩
      refine litE (m := 3) rfl ?_
      refine ⟨_, _, c_laws_toSpanS p1 (by assumption), (FzAs.same _), ?_⟩
      refine litE (m := 5) rfl ?_
      refine ⟨_, _, c_spec_SameBag (laws_toSpanS p0) (laws_toSpanS p1), (.cons (.one (.sl _ _ _ _ (frzMap frz_Span _))) (.cons (.one (.sl _ _ _ _ (frzMap frz_Span _))) (.same _))), ?_⟩
      refine litE (m := 7) rfl ?_
      refine ⟨_, _, c_laws_toSpanS p0 (by assumption), (FzAs.same _), ?_⟩
      refine litE (m := 8) rfl ?_
      refine ⟨_, _, c_laws_toSpanS p1 (by assumption), (FzAs.same _), ?_⟩
      refine litE (m := 10) rfl ?_
      refine ⟨_, _, c_impl_SameBag (laws_toSpanS p0) (laws_toSpanS p1), (.cons (.one (.sl _ _ _ _ (frzMap frz_Span _))) (.cons (.one (.sl _ _ _ _ (frzMap frz_Span _))) (.same _))), ?_⟩
      refine litE (m := 12) rfl ?_
      refine And.intro (fun (h3 : (!((impl_SameBag (laws_toSpanS p0) (laws_toSpanS p1)) == (spec_SameBag (laws_toSpanS p0) (laws_toSpanS p1)))) = true) => ?_) (fun (h3 : (!((impl_SameBag (laws_toSpanS p0) (laws_toSpanS p1)) == (spec_SameBag (laws_toSpanS p0) (laws_toSpanS p1)))) = false) => ?_)
      · refine And.intro (fun _ => .v _) ?_
        have hg : laws_FnExactSameBag p0 p1 = false := by
          first | rfl | (simp only [laws_FnExactSameBag, h1, h2, h3, cond_true, cond_false, Step.fin_stop, Step.fin_done, Fin.get_fin, Fin.get_done, Step.fin_next, Bool.not_true, Bool.not_false, Option.getD_some]) | (simp [laws_FnExactSameBag, h1, h2, h3, cond_true, cond_false, Step.fin_stop, Step.fin_done, Fin.get_fin, Fin.get_done, Step.fin_next, Bool.not_true, Bool.not_false, Option.getD_some])
        exact congrArg (fun g : Bool => AV.one (.v (.bool g))) hg.symm
      · refine ⟨_, _, c_laws_toSpanS p0 (by assumption), (FzAs.same _), ?_⟩
        refine litE (m := 13) rfl ?_
        refine ⟨_, _, c_laws_eqSpanS (laws_toSpanS p0) (laws_toSpanS p0), (.cons (.one (.sl _ _ _ _ (frzMap frz_Span _))) (.cons (.one (.sl _ _ _ _ (frzMap frz_Span _))) (.same _))), ?_⟩
        refine litE (m := 15) rfl ?_
        refine And.intro (fun (h4 : (!(laws_eqSpanS (laws_toSpanS p0) (laws_toSpanS p0))) = true) => ?_) (fun (h4 : (!(laws_eqSpanS (laws_toSpanS p0) (laws_toSpanS p0))) = false) => ?_)
        · refine And.intro (fun _ => .v _) ?_
          have hg : laws_FnExactSameBag p0 p1 = false := by
            first | rfl | (simp only [laws_FnExactSameBag, h1, h2, h3, h4, cond_true, cond_false, Step.fin_stop, Step.fin_done, Fin.get_fin, Fin.get_done, Step.fin_next, Bool.not_true, Bool.not_false, Option.getD_some]) | (simp [laws_FnExactSameBag, h1, h2, h3, h4, cond_true, cond_false, Step.fin_stop, Step.fin_done, Fin.get_fin, Fin.get_done, Step.fin_next, Bool.not_true, Bool.not_false, Option.getD_some])
          exact congrArg (fun g : Bool => AV.one (.v (.bool g))) hg.symm
        · refine ⟨_, _, c_laws_toSpanS p1 (by assumption), (FzAs.same _), ?_⟩
          refine litE (m := 16) rfl ?_
          refine ⟨_, _, c_laws_eqSpanS (laws_toSpanS p1) (laws_toSpanS p1), (.cons (.one (.sl _ _ _ _ (frzMap frz_Span _))) (.cons (.one (.sl _ _ _ _ (frzMap frz_Span _))) (.same _))), ?_⟩
          refine litE (m := 18) rfl ?_
          refine And.intro (fun (h5 : (!(laws_eqSpanS (laws_toSpanS p1) (laws_toSpanS p1))) = true) => ?_) (fun (h5 : (!(laws_eqSpanS (laws_toSpanS p1) (laws_toSpanS p1))) = false) => ?_)
          · refine And.intro (fun _ => .v _) ?_
            have hg : laws_FnExactSameBag p0 p1 = false := by
              first | rfl | (simp only [laws_FnExactSameBag, h1, h2, h3, h4, h5, cond_true, cond_false, Step.fin_stop, Step.fin_done, Fin.get_fin, Fin.get_done, Step.fin_next, Bool.not_true, Bool.not_false, Option.getD_some]) | (simp [laws_FnExactSameBag, h1, h2, h3, h4, h5, cond_true, cond_false, Step.fin_stop, Step.fin_done, Fin.get_fin, Fin.get_done, Step.fin_next, Bool.not_true, Bool.not_false, Option.getD_some])
            exact congrArg (fun g : Bool => AV.one (.v (.bool g))) hg.symm
          · refine And.intro (fun _ => .v _) ?_
            have hg : laws_FnExactSameBag p0 p1 = true := by
              first | rfl | (simp only [laws_FnExactSameBag, h1, h2, h3, h4, h5, cond_true, cond_false, Step.fin_stop, Step.fin_done, Fin.get_fin, Fin.get_done, Step.fin_next, Bool.not_true, Bool.not_false, Option.getD_some]) | (simp [laws_FnExactSameBag, h1, h2, h3, h4, h5, cond_true, cond_false, Step.fin_stop, Step.fin_done, Fin.get_fin, Fin.get_done, Step.fin_next, Bool.not_true, Bool.not_false, Option.getD_some])
            exact congrArg (fun g : Bool => AV.one (.v (.bool g))) hg.symm
theorem main_SameSpan (a b : Span) : spec_SameSpan a b = impl_SameSpan a b := by
  unfold spec_SameSpan impl_SameSpan slices_Equal_72
  have e : spec_SameSpan_b1 b = slices_Equal_72_b1 b.Attrs := rfl
  rw [e]
  simp only [bne]
  cases (a.Trace == b.Trace) <;> cases (a.Id == b.Id) <;> cases (a.Start == b.Start) <;> cases (a.End == b.End) <;> cases (a.Err == b.Err) <;> rfl
theorem count_loop {α ρ : Type} {p : α → Bool} {b : Nat → Int → α → Step Int ρ} (hb : ∀ i s a, b i s a = bif p a then .next (IntKind.i64.wrap (s + 1)) else .next s) : ∀ (l : List α) (i : Nat) (s : Int), 0 ≤ s → s + (l.length : Int) ≤ 4611686018427387904 → loopL b i s l = .fin (s + ((l.countP p : Nat) : Int))
  | [], i, s, h0, h1 => by simp [loopL]
  | a :: l, i, s, h0, h1 => by
    simp only [List.length_cons, Int.natCast_add, Int.cast_ofNat_Int] at h1
    unfold loopL
    rw [hb, List.countP_cons]
    cases p a with
    | true =>
      simp only [cond_true, if_true]
      rw [wrap_small (by omega) (by omega), count_loop hb l (i + 1) (s + 1) (by omega) (by omega)]
      congr 1
      omega
    | false =>
      simp only [cond_false]
      rw [count_loop hb l (i + 1) s h0 (by omega)]
      simp
theorem diff_loop {α ρ : Type} [Inhabited α] {p : α → Bool} {q : List α} {b : Nat → Int → α → Step Int ρ} (hb : ∀ i s a, b i s a = bif p a then (bif p (q[i]?.getD default) then .next (IntKind.i64.wrap (IntKind.i64.wrap (s + 1) - 1)) else .next (IntKind.i64.wrap (s + 1))) else (bif p (q[i]?.getD default) then .next (IntKind.i64.wrap (s - 1)) else .next s)) :
    ∀ (l : List α) (i : Nat) (s : Int), i + l.length = q.length → -4611686018427387904 ≤ s - (l.length : Int) → s + (l.length : Int) ≤ 4611686018427387904 → loopL b i s l = .fin (s + ((l.countP p : Nat) : Int) - (((q.drop i).countP p : Nat) : Int))
  | [], i, s, he, h0, h1 => by
    rw [List.drop_eq_nil_of_le (by simp at he; omega)]
    simp [loopL]
  | a :: l, i, s, he, h0, h1 => by
    simp only [List.length_cons, Int.natCast_add, Int.cast_ofNat_Int] at h0 h1 he
    have hi : i < q.length := by omega
    unfold loopL
    rw [hb, List.countP_cons, List.drop_eq_getElem_cons hi, List.countP_cons]
    simp only [List.getElem?_eq_getElem hi, Option.getD_some]
    cases p a <;> cases p q[i] <;> simp only [cond_true, cond_false, if_true, if_false, Bool.false_eq_true]
    · rw [diff_loop hb l (i + 1) s (by omega) (by omega) (by omega)]; congr 1
    · rw [wrap_small (by omega) (by omega), diff_loop hb l (i + 1) (s - 1) (by omega) (by omega) (by omega)]; congr 1; omega
    · rw [wrap_small (by omega) (by omega), diff_loop hb l (i + 1) (s + 1) (by omega) (by omega) (by omega)]; congr 1; omega
    · rw [wrap_small (n := s + 1) (by omega) (by omega), wrap_small (by omega) (by omega), diff_loop hb l (i + 1) (s + 1 - 1) (by omega) (by omega) (by omega)]; congr 1; omega
theorem main_SameBag (a b : List Span) (ha : a.length ≤ 1048576) (hb : b.length ≤ 1048576) : impl_SameBag a b = spec_SameBag a b := by
  have hc : ∀ (l : List Span) (s : Span), l.length ≤ 1048576 → impl_SameBag_1 l s = ((l.countP (fun x => impl_SameSpan x s) : Nat) : Int) := by
    intro l s hl
    unfold impl_SameBag_1
    rw [count_loop (p := fun x => impl_SameSpan x s) (b := impl_SameBag_1_b1 s) (fun _ _ _ => rfl) l 0 0 (by omega) (by omega)]
    simp [Fin.get]
  unfold impl_SameBag spec_SameBag
  by_cases hl : a.length = b.length
  · have e1 : (((a.length : Nat) : Int) != ((b.length : Nat) : Int)) = false := by simp [hl]
    have e2 : (((a.length : Nat) : Int) == ((b.length : Nat) : Int)) = true := by simp [hl]
    rw [e1, e2, cond_false]
    congr 1
    congr 1
    funext i s x
    unfold impl_SameBag_b1 spec_SameBag_b1
    rw [hc a x ha, hc b x hb, diff_loop (p := fun y => impl_SameSpan y x) (q := b) (b := spec_SameBag_b2 x b) (fun i s y => by unfold spec_SameBag_b2; simp only [main_SameSpan]) a 0 0 (by omega) (by omega) (by omega)]
    simp only [Fin.get, List.drop_zero]
    congr 1
    rw [Bool.eq_iff_iff]
    simp
    omega
  · have e1 : (((a.length : Nat) : Int) != ((b.length : Nat) : Int)) = true := by simp; omega
    have e2 : (((a.length : Nat) : Int) == ((b.length : Nat) : Int)) = false := by simp; omega
    rw [e1, e2, cond_true]
    rcases any_loop (p := fun x => impl_SameBag_1 a x != impl_SameBag_1 b x) (r := fun _ => false) (b := impl_SameBag_b1 a b) (fun _ _ _ => rfl) a 0 with ⟨_, j, e⟩ | ⟨_, e⟩ <;> rw [e] <;> rfl
theorem law_SameBag (p0 p1 : List Span) (hw0 : bdS Span.bd 9223372036854775807 p0) (hw1 : bdS Span.bd 9223372036854775807 p1) : laws_FnExactSameBag p0 p1 = true := by
  unfold laws_FnExactSameBag
  cases h0 : decide (laws_szSpanS p0 1048576 < 0) with
  | true => rfl
  | false =>
    rw [decide_eq_false_iff_not] at h0
    obtain ⟨b0, l0⟩ := szd_laws_szSpanS p0 1048576 hw0 (by omega) (by omega) (by omega)
    cases h1 : decide (laws_szSpanS p1 (laws_szSpanS p0 1048576) < 0) with
    | true => rfl
    | false =>
      rw [decide_eq_false_iff_not] at h1
      obtain ⟨b1, l1⟩ := szd_laws_szSpanS p1 _ hw1 (by omega) l0 (by omega)
      simp only [cond_false, id_laws_toSpanS, main_SameBag p0 p1 b0.1 b1.1, rf_laws_eqSpanS, beq_self_eq_true, Bool.not_true]
theorem rows_sl {α : Type} (f : α → List T) (W : α → Prop) : ∀ rows : List (List T), (∀ r ∈ rows, ∃ x, r = f x ∧ W x) → ∃ l : List α, rows = l.map f ∧ ∀ x ∈ l, W x
  | [], _ => ⟨[], rfl, by simp⟩
  | r :: rows, h => by
    obtain ⟨x, hx, hw⟩ := h r (by simp)
    obtain ⟨l, hl, hw'⟩ := rows_sl f W rows (fun r hr => h r (by simp [hr]))
    exact ⟨x :: l, by simp [hx, hl], fun y hy => by rcases List.mem_cons.1 hy with rfl | hy; exact hw; exact hw' y hy⟩
theorem shape_sl {α : Type} (f : α → List T) {P : Nat → α → Prop} (W : α → Prop) (hW : W = P 9223372036854775807) {n t e k : Nat} (ht : prog.underlying t = some (.slice e)) (hk : prog.cellsOf e = k) {y : List T} (h : Shape prog (n + 1) t y) (hr : ∀ r, Shape prog n e r → ∃ x, r = f x ∧ W x) :
    ∃ l : List α, y = [.s false k (l.map f)] ∧ bdS P 9223372036854775807 l := by
  subst hW
  unfold Shape at h
  rw [ht] at h
  obtain ⟨rows, h1, h2, h3⟩ := h
  rw [hk] at h1
  obtain ⟨l, rfl, hw⟩ := rows_sl f _ rows (fun r hr' => hr r (h3 r hr').2)
  exact ⟨l, h1, by simpa [maxLen] using h2, hw⟩
theorem shape3 {n : Nat} {l : List T} (h : Shape prog (n + 1) 3 l) : ∃ x : Int, l = [.v (.int .i64 x)] ∧ True := by
  simp only [Shape, underlying3] at h
  obtain ⟨x, hx, _⟩ := h
  exact ⟨x, hx, trivial⟩
theorem arg3 {y : T} (h : Shape prog 20 3 [y]) : ∃ x : Int, y = .v (.int .i64 x) ∧ True := by
  obtain ⟨x, hx, hw⟩ := shape3 (n := 19) h
  exact ⟨x, by simpa using hx, hw⟩
theorem shape4 {n : Nat} {l : List T} (h : Shape prog (n + 1) 4 l) : ∃ x : Bool, l = [.v (.bool x)] ∧ True := by
  simp only [Shape, underlying4] at h
  obtain ⟨x, hx⟩ := h
  exact ⟨x, hx, trivial⟩
theorem arg4 {y : T} (h : Shape prog 20 4 [y]) : ∃ x : Bool, y = .v (.bool x) ∧ True := by
  obtain ⟨x, hx, hw⟩ := shape4 (n := 19) h
  exact ⟨x, by simpa using hx, hw⟩
theorem shape9 {n : Nat} {l : List T} (h : Shape prog (n + 1) 9 l) : ∃ x : ByteArray, l = [.v (.string x)] ∧ (x).size ≤ 9223372036854775807 := by
  simp only [Shape, underlying9] at h
  obtain ⟨x, hx, hw⟩ := h
  exact ⟨x, hx, by simpa [maxLen] using hw⟩
theorem arg9 {y : T} (h : Shape prog 20 9 [y]) : ∃ x : ByteArray, y = .v (.string x) ∧ (x).size ≤ 9223372036854775807 := by
  obtain ⟨x, hx, hw⟩ := shape9 (n := 19) h
  exact ⟨x, by simpa using hx, hw⟩
theorem shape107 {n : Nat} {l : List T} (h : Shape prog (n + 2) 107 l) : ∃ x : Attr, l = Attr.cells x ∧ Attr.bd 9223372036854775807 x := by
  unfold Shape at h
  rw [underlying107] at h
  simp only [ShapeL] at h
  obtain ⟨_, _, rfl, h0, _, _, rfl, h1, _, _, rfl, h2, _, _, rfl, h3, rfl⟩ := h
  obtain ⟨x0, rfl, w0⟩ := shape9 h0
  obtain ⟨x1, rfl, w1⟩ := shape4 h1
  obtain ⟨x2, rfl, w2⟩ := shape3 h2
  obtain ⟨x3, rfl, w3⟩ := shape9 h3
  exact ⟨⟨x0, x1, x2, x3⟩, rfl, ⟨w0, w3⟩⟩
theorem arg107 {l : List T} (h : Shape prog 20 107 l) : ∃ x : Attr, l = Attr.cells x ∧ Attr.bd 9223372036854775807 x := shape107 (n := 18) h
theorem shape75 {n : Nat} {l : List T} (h : Shape prog (n + 3) 75 l) : ∃ x : (List Attr), l = [.s false 4 (List.map Attr.cells x)] ∧ bdS Attr.bd 9223372036854775807 x := by
  exact shape_sl Attr.cells (P := Attr.bd) _ rfl underlying75 (by kernel_rfl) h (fun r hr => shape107 hr)
theorem arg75 {y : T} (h : Shape prog 20 75 [y]) : ∃ x : (List Attr), y = .s false 4 (List.map Attr.cells x) ∧ bdS Attr.bd 9223372036854775807 x := by
  obtain ⟨x, hx, hw⟩ := shape75 (n := 17) h
  exact ⟨x, by simpa using hx, hw⟩
theorem shape77 {n : Nat} {l : List T} (h : Shape prog (n + 4) 77 l) : ∃ x : Span, l = (Span.cells false) x ∧ Span.bd 9223372036854775807 x := by
  unfold Shape at h
  rw [underlying77] at h
  simp only [ShapeL] at h
  obtain ⟨_, _, rfl, h0, _, _, rfl, h1, _, _, rfl, h2, _, _, rfl, h3, _, _, rfl, h4, _, _, rfl, h5, rfl⟩ := h
  obtain ⟨x0, rfl, w0⟩ := shape3 h0
  obtain ⟨x1, rfl, w1⟩ := shape3 h1
  obtain ⟨x2, rfl, w2⟩ := shape3 h2
  obtain ⟨x3, rfl, w3⟩ := shape3 h3
  obtain ⟨x4, rfl, w4⟩ := shape4 h4
  obtain ⟨x5, rfl, w5⟩ := shape75 h5
  exact ⟨⟨x0, x1, x2, x3, x4, x5⟩, rfl, w5⟩
theorem arg77 {l : List T} (h : Shape prog 20 77 l) : ∃ x : Span, l = (Span.cells false) x ∧ Span.bd 9223372036854775807 x := shape77 (n := 16) h
theorem shape43 {n : Nat} {l : List T} (h : Shape prog (n + 5) 43 l) : ∃ x : (List Span), l = [.s false 6 (List.map (Span.cells false) x)] ∧ bdS Span.bd 9223372036854775807 x := by
  exact shape_sl (Span.cells false) (P := Span.bd) _ rfl underlying43 (by kernel_rfl) h (fun r hr => shape77 hr)
theorem arg43 {y : T} (h : Shape prog 20 43 [y]) : ∃ x : (List Span), y = .s false 6 (List.map (Span.cells false) x) ∧ bdS Span.bd 9223372036854775807 x := by
  obtain ⟨x, hx, hw⟩ := shape43 (n := 15) h
  exact ⟨x, by simpa using hx, hw⟩
theorem law_c (p0 : (List Span)) (p1 : (List Span)) (h0 : bdS Span.bd 9223372036854775807 p0) (h1 : bdS Span.bd 9223372036854775807 p1) : FnOk prog 6 [.one (.s false 6 (List.map (Span.cells false) p0)), .one (.s false 6 (List.map (Span.cells false) p1))] ⟨.one (.v (.bool true)), [], [], false⟩ := by
  have h := c_laws_FnExactSameBag p0 p1 h0 h1
  rw [law_SameBag p0 p1 h0 h1] at h
  exact h
end Go.Proofs.Try.Ev
