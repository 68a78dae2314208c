import Derived.Test.YtepchngnmfbffaaLBoundWalk
set_option linter.unusedSectionVars false

namespace Go.Proofs.Try.Ev
open Go Go.Ev Go.Proofs
set_option maxHeartbeats 4000000
set_option maxRecDepth 100000
set_option linter.unusedSimpArgs false
set_option linter.unusedVariables false
theorem c_spec_CountOf (p0 : World) : FnOk prog 18 [.agg ((World.cells false) p0)] ⟨.agg (Count.cells (spec_CountOf p0)), [], [], false⟩ := by
  refine FnOk.intro (E := env) envOk wide func18 rfl (by kernel_rfl) rfl rfl ?_
  refine litE (m := 0) rfl ?_
  refine litE (m := 1) rfl ?_
  refine lenE (k := (p0.Out).length) (by simp) (fun hN1 => ?_)
  refine lenE (k := (p0.Queue).length) (by simp) (fun hN2 => ?_)
  refine litE (m := 2) rfl ?_
  refine loop_rule (α := LstSt spec_CountOf_b1 (0, 0) p0.Deeds) [1, 2, 3] (fun x1 => [(4, .one (.v (.int .i64 ((x1.i : Nat) : Int))))]) (fun x1 => [.keep 0, .keep 1, .new ⟨5, true, [[.v (.int .i64 x1.s.1), .v (.int .i64 (((p0.Out).length : Nat) : Int)), .v (.int .i64 (((p0.Queue).length : Nat) : Int)), .v (.int .i64 0), .v (.int .i64 x1.s.2)]], 0⟩]) (fun x1 => (p0.Deeds).length - x1.i) .init [some 0, some 1, some 2] ?_ (fun x1 => ?_)
  · exact ⟨rfl, ⟨rfl, ⟨rfl, rfl, rfl, rfl⟩, ⟨rfl, rfl, rfl, rfl⟩, ⟨rfl, rfl, rfl, rfl⟩, trivial⟩, ⟨⟨rfl, rfl, ⟨rfl, rfl, rfl, rfl, rfl, rfl, rfl, rfl, rfl, rfl, rfl, rfl, rfl, rfl, rfl, rfl, rfl, rfl, rfl, rfl, rfl, rfl, rfl, rfl, rfl, rfl, rfl, rfl, rfl, rfl, rfl, rfl, trivial⟩⟩, ⟨rfl, rfl, ⟨rfl, rfl, rfl, rfl, rfl, trivial⟩⟩, ⟨rfl, rfl, ⟨rfl, rfl, rfl, rfl, rfl, trivial⟩⟩, trivial⟩, trivial⟩
  · refine lenE (k := (p0.Deeds).length) (by simp) (fun hN3 => ?_)
    refine And.intro (fun (h4 : (decide (((x1.i : Nat) : Int) < (((p0.Deeds).length : Nat) : Int))) = true) => ?_) (fun (h4 : (decide (((x1.i : Nat) : Int) < (((p0.Deeds).length : Nat) : Int))) = false) => ?_)
    · have hi1 : x1.i < (p0.Deeds).length := by simpa using h4
      have hw1 : IntKind.i64.wrap ((x1.i : Int) + 1) = ((x1.i + 1 : Nat) : Int) := wrap_succ hi1 (by first | assumption | omega)
      refine And.intro (fun _ => by exact idx_at hi1) (rowAtE (i := x1.i) (l := p0.Deeds) rfl hi1 ?_)
      refine litE (m := 3) rfl ?_
      refine And.intro (fun (h5 : ((p0.Deeds[x1.i]'hi1).Lin == (-1)) = true) => ?_) (fun (h5 : ((p0.Deeds[x1.i]'hi1).Lin == (-1)) = false) => ?_)
      · refine x1.go hi1 (v := (x1.s.1, x1.s.2)) (by first | rfl | (simp only [spec_CountOf_b1, h4, h5, cond_true, cond_false, Bool.not_true, Bool.not_false, Option.getD_some, Step.fin_stop, Step.fin_done, Fin.get_fin, Fin.get_done]; done) | (exfalso; simp_all; done)) [some 0, some 1, some 2] (by show _ - (x1.i + 1) < _ - x1.i; omega) ?_
        exact ⟨rfl, ⟨(eqInt hw1), ⟨rfl, rfl, rfl, rfl⟩, ⟨rfl, rfl, rfl, rfl⟩, ⟨rfl, rfl, rfl, rfl⟩, trivial⟩, ⟨⟨rfl, rfl, ⟨rfl, rfl, rfl, rfl, rfl, rfl, rfl, rfl, rfl, rfl, rfl, rfl, rfl, rfl, rfl, rfl, rfl, rfl, rfl, rfl, rfl, rfl, rfl, rfl, rfl, rfl, rfl, rfl, rfl, rfl, rfl, rfl, trivial⟩⟩, ⟨rfl, rfl, ⟨rfl, rfl, rfl, rfl, rfl, trivial⟩⟩, ⟨rfl, rfl, ⟨rfl, rfl, rfl, rfl, rfl, trivial⟩⟩, trivial⟩, trivial⟩
      · refine And.intro (fun (h6 : ((p0.Deeds[x1.i]'hi1).Op == 1) = true) => ?_) (fun (h6 : ((p0.Deeds[x1.i]'hi1).Op == 1) = false) => ?_)
        · refine And.intro (fun (h7 : ((p0.Deeds[x1.i]'hi1).Code == 1) = false) => ?_) (fun (h7 : ((p0.Deeds[x1.i]'hi1).Code == 1) = true) => ?_)
          · refine And.intro (fun (h8 : ((p0.Deeds[x1.i]'hi1).Code == 2) = true) => ?_) (fun (h8 : ((p0.Deeds[x1.i]'hi1).Code == 2) = false) => ?_)
            · refine x1.go hi1 (v := ((IntKind.i64.wrap (x1.s.1 + 1)), x1.s.2)) (by first | rfl | (simp only [spec_CountOf_b1, h4, h5, h6, h7, h8, cond_true, cond_false, Bool.not_true, Bool.not_false, Option.getD_some, Step.fin_stop, Step.fin_done, Fin.get_fin, Fin.get_done]; done) | (exfalso; simp_all; done)) [some 0, some 1, some 2] (by show _ - (x1.i + 1) < _ - x1.i; omega) ?_
              exact ⟨rfl, ⟨(eqInt hw1), ⟨rfl, rfl, rfl, rfl⟩, ⟨rfl, rfl, rfl, rfl⟩, ⟨rfl, rfl, rfl, rfl⟩, trivial⟩, ⟨⟨rfl, rfl, ⟨rfl, rfl, rfl, rfl, rfl, rfl, rfl, rfl, rfl, rfl, rfl, rfl, rfl, rfl, rfl, rfl, rfl, rfl, rfl, rfl, rfl, rfl, rfl, rfl, rfl, rfl, rfl, rfl, rfl, rfl, rfl, rfl, trivial⟩⟩, ⟨rfl, rfl, ⟨rfl, rfl, rfl, rfl, rfl, trivial⟩⟩, ⟨rfl, rfl, ⟨rfl, rfl, rfl, rfl, rfl, trivial⟩⟩, trivial⟩, trivial⟩
            · refine And.intro (fun (h9 : ((p0.Deeds[x1.i]'hi1).Op == 3) = true) => ?_) (fun (h9 : ((p0.Deeds[x1.i]'hi1).Op == 3) = false) => ?_)
              · refine And.intro (fun (h10 : ((p0.Deeds[x1.i]'hi1).Op == 3) = true) => ?_) (fun (h10 : ((p0.Deeds[x1.i]'hi1).Op == 3) = false) => ?_)
                · refine x1.go hi1 (v := (x1.s.1, (IntKind.i64.wrap (x1.s.2 + (p0.Deeds[x1.i]'hi1).N)))) (by first | rfl | (simp only [spec_CountOf_b1, h4, h5, h6, h7, h8, h9, h10, cond_true, cond_false, Bool.not_true, Bool.not_false, Option.getD_some, Step.fin_stop, Step.fin_done, Fin.get_fin, Fin.get_done]; done) | (exfalso; simp_all; done)) [some 0, some 1, some 2] (by show _ - (x1.i + 1) < _ - x1.i; omega) ?_
                  exact ⟨rfl, ⟨(eqInt hw1), ⟨rfl, rfl, rfl, rfl⟩, ⟨rfl, rfl, rfl, rfl⟩, ⟨rfl, rfl, rfl, rfl⟩, trivial⟩, ⟨⟨rfl, rfl, ⟨rfl, rfl, rfl, rfl, rfl, rfl, rfl, rfl, rfl, rfl, rfl, rfl, rfl, rfl, rfl, rfl, rfl, rfl, rfl, rfl, rfl, rfl, rfl, rfl, rfl, rfl, rfl, rfl, rfl, rfl, rfl, rfl, trivial⟩⟩, ⟨rfl, rfl, ⟨rfl, rfl, rfl, rfl, rfl, trivial⟩⟩, ⟨rfl, rfl, ⟨rfl, rfl, rfl, rfl, rfl, trivial⟩⟩, trivial⟩, trivial⟩
                · refine x1.go hi1 (v := (x1.s.1, x1.s.2)) (by first | rfl | (simp only [spec_CountOf_b1, h4, h5, h6, h7, h8, h9, h10, cond_true, cond_false, Bool.not_true, Bool.not_false, Option.getD_some, Step.fin_stop, Step.fin_done, Fin.get_fin, Fin.get_done]; done) | (exfalso; simp_all; done)) [some 0, some 1, some 2] (by show _ - (x1.i + 1) < _ - x1.i; omega) ?_
                  exact ⟨rfl, ⟨(eqInt hw1), ⟨rfl, rfl, rfl, rfl⟩, ⟨rfl, rfl, rfl, rfl⟩, ⟨rfl, rfl, rfl, rfl⟩, trivial⟩, ⟨⟨rfl, rfl, ⟨rfl, rfl, rfl, rfl, rfl, rfl, rfl, rfl, rfl, rfl, rfl, rfl, rfl, rfl, rfl, rfl, rfl, rfl, rfl, rfl, rfl, rfl, rfl, rfl, rfl, rfl, rfl, rfl, rfl, rfl, rfl, rfl, trivial⟩⟩, ⟨rfl, rfl, ⟨rfl, rfl, rfl, rfl, rfl, trivial⟩⟩, ⟨rfl, rfl, ⟨rfl, rfl, rfl, rfl, rfl, trivial⟩⟩, trivial⟩, trivial⟩
              · refine And.intro (fun (h11 : ((p0.Deeds[x1.i]'hi1).Op == 2) = true) => ?_) (fun (h11 : ((p0.Deeds[x1.i]'hi1).Op == 2) = false) => ?_)
                · refine And.intro (fun (h12 : (!(p0.Deeds[x1.i]'hi1).Void) = true) => ?_) (fun (h12 : (!(p0.Deeds[x1.i]'hi1).Void) = false) => ?_)
                  · refine And.intro (fun (h13 : (!(p0.Deeds[x1.i]'hi1).Keep) = true) => ?_) (fun (h13 : (!(p0.Deeds[x1.i]'hi1).Keep) = false) => ?_)
                    · refine x1.go hi1 (v := (x1.s.1, (IntKind.i64.wrap (x1.s.2 + (p0.Deeds[x1.i]'hi1).N)))) (by first | rfl | (simp only [spec_CountOf_b1, h4, h5, h6, h7, h8, h9, h11, h12, h13, cond_true, cond_false, Bool.not_true, Bool.not_false, Option.getD_some, Step.fin_stop, Step.fin_done, Fin.get_fin, Fin.get_done]; done) | (exfalso; simp_all; done)) [some 0, some 1, some 2] (by show _ - (x1.i + 1) < _ - x1.i; omega) ?_
                      exact ⟨rfl, ⟨(eqInt hw1), ⟨rfl, rfl, rfl, rfl⟩, ⟨rfl, rfl, rfl, rfl⟩, ⟨rfl, rfl, rfl, rfl⟩, trivial⟩, ⟨⟨rfl, rfl, ⟨rfl, rfl, rfl, rfl, rfl, rfl, rfl, rfl, rfl, rfl, rfl, rfl, rfl, rfl, rfl, rfl, rfl, rfl, rfl, rfl, rfl, rfl, rfl, rfl, rfl, rfl, rfl, rfl, rfl, rfl, rfl, rfl, trivial⟩⟩, ⟨rfl, rfl, ⟨rfl, rfl, rfl, rfl, rfl, trivial⟩⟩, ⟨rfl, rfl, ⟨rfl, rfl, rfl, rfl, rfl, trivial⟩⟩, trivial⟩, trivial⟩
                    · refine x1.go hi1 (v := (x1.s.1, x1.s.2)) (by first | rfl | (simp only [spec_CountOf_b1, h4, h5, h6, h7, h8, h9, h11, h12, h13, cond_true, cond_false, Bool.not_true, Bool.not_false, Option.getD_some, Step.fin_stop, Step.fin_done, Fin.get_fin, Fin.get_done]; done) | (exfalso; simp_all; done)) [some 0, some 1, some 2] (by show _ - (x1.i + 1) < _ - x1.i; omega) ?_
                      exact ⟨rfl, ⟨(eqInt hw1), ⟨rfl, rfl, rfl, rfl⟩, ⟨rfl, rfl, rfl, rfl⟩, ⟨rfl, rfl, rfl, rfl⟩, trivial⟩, ⟨⟨rfl, rfl, ⟨rfl, rfl, rfl, rfl, rfl, rfl, rfl, rfl, rfl, rfl, rfl, rfl, rfl, rfl, rfl, rfl, rfl, rfl, rfl, rfl, rfl, rfl, rfl, rfl, rfl, rfl, rfl, rfl, rfl, rfl, rfl, rfl, trivial⟩⟩, ⟨rfl, rfl, ⟨rfl, rfl, rfl, rfl, rfl, trivial⟩⟩, ⟨rfl, rfl, ⟨rfl, rfl, rfl, rfl, rfl, trivial⟩⟩, trivial⟩, trivial⟩
                  · refine x1.go hi1 (v := (x1.s.1, x1.s.2)) (by first | rfl | (simp only [spec_CountOf_b1, h4, h5, h6, h7, h8, h9, h11, h12, cond_true, cond_false, Bool.not_true, Bool.not_false, Option.getD_some, Step.fin_stop, Step.fin_done, Fin.get_fin, Fin.get_done]; done) | (exfalso; simp_all; done)) [some 0, some 1, some 2] (by show _ - (x1.i + 1) < _ - x1.i; omega) ?_
                    exact ⟨rfl, ⟨(eqInt hw1), ⟨rfl, rfl, rfl, rfl⟩, ⟨rfl, rfl, rfl, rfl⟩, ⟨rfl, rfl, rfl, rfl⟩, trivial⟩, ⟨⟨rfl, rfl, ⟨rfl, rfl, rfl, rfl, rfl, rfl, rfl, rfl, rfl, rfl, rfl, rfl, rfl, rfl, rfl, rfl, rfl, rfl, rfl, rfl, rfl, rfl, rfl, rfl, rfl, rfl, rfl, rfl, rfl, rfl, rfl, rfl, trivial⟩⟩, ⟨rfl, rfl, ⟨rfl, rfl, rfl, rfl, rfl, trivial⟩⟩, ⟨rfl, rfl, ⟨rfl, rfl, rfl, rfl, rfl, trivial⟩⟩, trivial⟩, trivial⟩
                · refine x1.go hi1 (v := (x1.s.1, x1.s.2)) (by first | rfl | (simp only [spec_CountOf_b1, h4, h5, h6, h7, h8, h9, h11, cond_true, cond_false, Bool.not_true, Bool.not_false, Option.getD_some, Step.fin_stop, Step.fin_done, Fin.get_fin, Fin.get_done]; done) | (exfalso; simp_all; done)) [some 0, some 1, some 2] (by show _ - (x1.i + 1) < _ - x1.i; omega) ?_
                  exact ⟨rfl, ⟨(eqInt hw1), ⟨rfl, rfl, rfl, rfl⟩, ⟨rfl, rfl, rfl, rfl⟩, ⟨rfl, rfl, rfl, rfl⟩, trivial⟩, ⟨⟨rfl, rfl, ⟨rfl, rfl, rfl, rfl, rfl, rfl, rfl, rfl, rfl, rfl, rfl, rfl, rfl, rfl, rfl, rfl, rfl, rfl, rfl, rfl, rfl, rfl, rfl, rfl, rfl, rfl, rfl, rfl, rfl, rfl, rfl, rfl, trivial⟩⟩, ⟨rfl, rfl, ⟨rfl, rfl, rfl, rfl, rfl, trivial⟩⟩, ⟨rfl, rfl, ⟨rfl, rfl, rfl, rfl, rfl, trivial⟩⟩, trivial⟩, trivial⟩
          · refine x1.go hi1 (v := ((IntKind.i64.wrap (x1.s.1 + 1)), x1.s.2)) (by first | rfl | (simp only [spec_CountOf_b1, h4, h5, h6, h7, cond_true, cond_false, Bool.not_true, Bool.not_false, Option.getD_some, Step.fin_stop, Step.fin_done, Fin.get_fin, Fin.get_done]; done) | (exfalso; simp_all; done)) [some 0, some 1, some 2] (by show _ - (x1.i + 1) < _ - x1.i; omega) ?_
            exact ⟨rfl, ⟨(eqInt hw1), ⟨rfl, rfl, rfl, rfl⟩, ⟨rfl, rfl, rfl, rfl⟩, ⟨rfl, rfl, rfl, rfl⟩, trivial⟩, ⟨⟨rfl, rfl, ⟨rfl, rfl, rfl, rfl, rfl, rfl, rfl, rfl, rfl, rfl, rfl, rfl, rfl, rfl, rfl, rfl, rfl, rfl, rfl, rfl, rfl, rfl, rfl, rfl, rfl, rfl, rfl, rfl, rfl, rfl, rfl, rfl, trivial⟩⟩, ⟨rfl, rfl, ⟨rfl, rfl, rfl, rfl, rfl, trivial⟩⟩, ⟨rfl, rfl, ⟨rfl, rfl, rfl, rfl, rfl, trivial⟩⟩, trivial⟩, trivial⟩
        · refine And.intro (fun (h14 : ((p0.Deeds[x1.i]'hi1).Op == 3) = true) => ?_) (fun (h14 : ((p0.Deeds[x1.i]'hi1).Op == 3) = false) => ?_)
          · refine And.intro (fun (h15 : ((p0.Deeds[x1.i]'hi1).Op == 3) = true) => ?_) (fun (h15 : ((p0.Deeds[x1.i]'hi1).Op == 3) = false) => ?_)
            · refine x1.go hi1 (v := (x1.s.1, (IntKind.i64.wrap (x1.s.2 + (p0.Deeds[x1.i]'hi1).N)))) (by first | rfl | (simp only [spec_CountOf_b1, h4, h5, h6, h14, h15, cond_true, cond_false, Bool.not_true, Bool.not_false, Option.getD_some, Step.fin_stop, Step.fin_done, Fin.get_fin, Fin.get_done]; done) | (exfalso; simp_all; done)) [some 0, some 1, some 2] (by show _ - (x1.i + 1) < _ - x1.i; omega) ?_
              exact ⟨rfl, ⟨(eqInt hw1), ⟨rfl, rfl, rfl, rfl⟩, ⟨rfl, rfl, rfl, rfl⟩, ⟨rfl, rfl, rfl, rfl⟩, trivial⟩, ⟨⟨rfl, rfl, ⟨rfl, rfl, rfl, rfl, rfl, rfl, rfl, rfl, rfl, rfl, rfl, rfl, rfl, rfl, rfl, rfl, rfl, rfl, rfl, rfl, rfl, rfl, rfl, rfl, rfl, rfl, rfl, rfl, rfl, rfl, rfl, rfl, trivial⟩⟩, ⟨rfl, rfl, ⟨rfl, rfl, rfl, rfl, rfl, trivial⟩⟩, ⟨rfl, rfl, ⟨rfl, rfl, rfl, rfl, rfl, trivial⟩⟩, trivial⟩, trivial⟩
            · refine x1.go hi1 (v := (x1.s.1, x1.s.2)) (by first | rfl | (simp only [spec_CountOf_b1, h4, h5, h6, h14, h15, cond_true, cond_false, Bool.not_true, Bool.not_false, Option.getD_some, Step.fin_stop, Step.fin_done, Fin.get_fin, Fin.get_done]; done) | (exfalso; simp_all; done)) [some 0, some 1, some 2] (by show _ - (x1.i + 1) < _ - x1.i; omega) ?_
              exact ⟨rfl, ⟨(eqInt hw1), ⟨rfl, rfl, rfl, rfl⟩, ⟨rfl, rfl, rfl, rfl⟩, ⟨rfl, rfl, rfl, rfl⟩, trivial⟩, ⟨⟨rfl, rfl, ⟨rfl, rfl, rfl, rfl, rfl, rfl, rfl, rfl, rfl, rfl, rfl, rfl, rfl, rfl, rfl, rfl, rfl, rfl, rfl, rfl, rfl, rfl, rfl, rfl, rfl, rfl, rfl, rfl, rfl, rfl, rfl, rfl, trivial⟩⟩, ⟨rfl, rfl, ⟨rfl, rfl, rfl, rfl, rfl, trivial⟩⟩, ⟨rfl, rfl, ⟨rfl, rfl, rfl, rfl, rfl, trivial⟩⟩, trivial⟩, trivial⟩
          · refine And.intro (fun (h16 : ((p0.Deeds[x1.i]'hi1).Op == 2) = true) => ?_) (fun (h16 : ((p0.Deeds[x1.i]'hi1).Op == 2) = false) => ?_)
            · refine And.intro (fun (h17 : (!(p0.Deeds[x1.i]'hi1).Void) = true) => ?_) (fun (h17 : (!(p0.Deeds[x1.i]'hi1).Void) = false) => ?_)
              · refine And.intro (fun (h18 : (!(p0.Deeds[x1.i]'hi1).Keep) = true) => ?_) (fun (h18 : (!(p0.Deeds[x1.i]'hi1).Keep) = false) => ?_)
                · refine x1.go hi1 (v := (x1.s.1, (IntKind.i64.wrap (x1.s.2 + (p0.Deeds[x1.i]'hi1).N)))) (by first | rfl | (simp only [spec_CountOf_b1, h4, h5, h6, h14, h16, h17, h18, cond_true, cond_false, Bool.not_true, Bool.not_false, Option.getD_some, Step.fin_stop, Step.fin_done, Fin.get_fin, Fin.get_done]; done) | (exfalso; simp_all; done)) [some 0, some 1, some 2] (by show _ - (x1.i + 1) < _ - x1.i; omega) ?_
                  exact ⟨rfl, ⟨(eqInt hw1), ⟨rfl, rfl, rfl, rfl⟩, ⟨rfl, rfl, rfl, rfl⟩, ⟨rfl, rfl, rfl, rfl⟩, trivial⟩, ⟨⟨rfl, rfl, ⟨rfl, rfl, rfl, rfl, rfl, rfl, rfl, rfl, rfl, rfl, rfl, rfl, rfl, rfl, rfl, rfl, rfl, rfl, rfl, rfl, rfl, rfl, rfl, rfl, rfl, rfl, rfl, rfl, rfl, rfl, rfl, rfl, trivial⟩⟩, ⟨rfl, rfl, ⟨rfl, rfl, rfl, rfl, rfl, trivial⟩⟩, ⟨rfl, rfl, ⟨rfl, rfl, rfl, rfl, rfl, trivial⟩⟩, trivial⟩, trivial⟩
                · refine x1.go hi1 (v := (x1.s.1, x1.s.2)) (by first | rfl | (simp only [spec_CountOf_b1, h4, h5, h6, h14, h16, h17, h18, cond_true, cond_false, Bool.not_true, Bool.not_false, Option.getD_some, Step.fin_stop, Step.fin_done, Fin.get_fin, Fin.get_done]; done) | (exfalso; simp_all; done)) [some 0, some 1, some 2] (by show _ - (x1.i + 1) < _ - x1.i; omega) ?_
                  exact ⟨rfl, ⟨(eqInt hw1), ⟨rfl, rfl, rfl, rfl⟩, ⟨rfl, rfl, rfl, rfl⟩, ⟨rfl, rfl, rfl, rfl⟩, trivial⟩, ⟨⟨rfl, rfl, ⟨rfl, rfl, rfl, rfl, rfl, rfl, rfl, rfl, rfl, rfl, rfl, rfl, rfl, rfl, rfl, rfl, rfl, rfl, rfl, rfl, rfl, rfl, rfl, rfl, rfl, rfl, rfl, rfl, rfl, rfl, rfl, rfl, trivial⟩⟩, ⟨rfl, rfl, ⟨rfl, rfl, rfl, rfl, rfl, trivial⟩⟩, ⟨rfl, rfl, ⟨rfl, rfl, rfl, rfl, rfl, trivial⟩⟩, trivial⟩, trivial⟩
              · refine x1.go hi1 (v := (x1.s.1, x1.s.2)) (by first | rfl | (simp only [spec_CountOf_b1, h4, h5, h6, h14, h16, h17, cond_true, cond_false, Bool.not_true, Bool.not_false, Option.getD_some, Step.fin_stop, Step.fin_done, Fin.get_fin, Fin.get_done]; done) | (exfalso; simp_all; done)) [some 0, some 1, some 2] (by show _ - (x1.i + 1) < _ - x1.i; omega) ?_
                exact ⟨rfl, ⟨(eqInt hw1), ⟨rfl, rfl, rfl, rfl⟩, ⟨rfl, rfl, rfl, rfl⟩, ⟨rfl, rfl, rfl, rfl⟩, trivial⟩, ⟨⟨rfl, rfl, ⟨rfl, rfl, rfl, rfl, rfl, rfl, rfl, rfl, rfl, rfl, rfl, rfl, rfl, rfl, rfl, rfl, rfl, rfl, rfl, rfl, rfl, rfl, rfl, rfl, rfl, rfl, rfl, rfl, rfl, rfl, rfl, rfl, trivial⟩⟩, ⟨rfl, rfl, ⟨rfl, rfl, rfl, rfl, rfl, trivial⟩⟩, ⟨rfl, rfl, ⟨rfl, rfl, rfl, rfl, rfl, trivial⟩⟩, trivial⟩, trivial⟩
            · refine x1.go hi1 (v := (x1.s.1, x1.s.2)) (by first | rfl | (simp only [spec_CountOf_b1, h4, h5, h6, h14, h16, cond_true, cond_false, Bool.not_true, Bool.not_false, Option.getD_some, Step.fin_stop, Step.fin_done, Fin.get_fin, Fin.get_done]; done) | (exfalso; simp_all; done)) [some 0, some 1, some 2] (by show _ - (x1.i + 1) < _ - x1.i; omega) ?_
              exact ⟨rfl, ⟨(eqInt hw1), ⟨rfl, rfl, rfl, rfl⟩, ⟨rfl, rfl, rfl, rfl⟩, ⟨rfl, rfl, rfl, rfl⟩, trivial⟩, ⟨⟨rfl, rfl, ⟨rfl, rfl, rfl, rfl, rfl, rfl, rfl, rfl, rfl, rfl, rfl, rfl, rfl, rfl, rfl, rfl, rfl, rfl, rfl, rfl, rfl, rfl, rfl, rfl, rfl, rfl, rfl, rfl, rfl, rfl, rfl, rfl, trivial⟩⟩, ⟨rfl, rfl, ⟨rfl, rfl, rfl, rfl, rfl, trivial⟩⟩, ⟨rfl, rfl, ⟨rfl, rfl, rfl, rfl, rfl, trivial⟩⟩, trivial⟩, trivial⟩
    · have hf1 := x1.fin (show ¬ x1.i < (p0.Deeds).length by simpa using h4)
      refine loop_rule (α := LstSt spec_CountOf_b2 (((p0.Queue).length : Nat) : Int) p0.Tasks) [1, 2, 3] (fun x2 => [(6, .one (.v (.int .i64 ((x2.i : Nat) : Int))))]) (fun x2 => [.keep 0, .keep 1, .new ⟨5, true, [[.v (.int .i64 x1.s.1), .v (.int .i64 (((p0.Out).length : Nat) : Int)), .v (.int .i64 x2.s), .v (.int .i64 0), .v (.int .i64 x1.s.2)]], 0⟩]) (fun x2 => (p0.Tasks).length - x2.i) .init [some 0, some 1, some 2] ?_ (fun x2 => ?_)
      · exact ⟨rfl, ⟨rfl, ⟨rfl, rfl, rfl, rfl⟩, ⟨rfl, rfl, rfl, rfl⟩, ⟨rfl, rfl, rfl, rfl⟩, trivial⟩, ⟨⟨rfl, rfl, ⟨rfl, rfl, rfl, rfl, rfl, rfl, rfl, rfl, rfl, rfl, rfl, rfl, rfl, rfl, rfl, rfl, rfl, rfl, rfl, rfl, rfl, rfl, rfl, rfl, rfl, rfl, rfl, rfl, rfl, rfl, rfl, rfl, trivial⟩⟩, ⟨rfl, rfl, ⟨rfl, rfl, rfl, rfl, rfl, trivial⟩⟩, ⟨rfl, rfl, ⟨rfl, rfl, rfl, rfl, rfl, trivial⟩⟩, trivial⟩, trivial⟩
      · refine lenE (k := (p0.Tasks).length) (by simp) (fun hN19 => ?_)
        refine And.intro (fun (h20 : (decide (((x2.i : Nat) : Int) < (((p0.Tasks).length : Nat) : Int))) = true) => ?_) (fun (h20 : (decide (((x2.i : Nat) : Int) < (((p0.Tasks).length : Nat) : Int))) = false) => ?_)
        · have hi2 : x2.i < (p0.Tasks).length := by simpa using h20
          have hw2 : IntKind.i64.wrap ((x2.i : Int) + 1) = ((x2.i + 1 : Nat) : Int) := wrap_succ hi2 (by first | assumption | omega)
          refine .inr (.inl ⟨11, [(0, true), (1, true), (2, true), (3, true), (4, true), (5, true), (6, true), (7, true), (8, true), (9, true), (10, true)], by kernel_rfl, ?_⟩)
          refine And.intro (fun _ => by exact idx_at hi2) (rowAtE (i := x2.i) (l := p0.Tasks) rfl hi2 ?_)
          refine lenE (k := ((p0.Tasks[x2.i]'hi2).Hand).length) (by simp) (fun hN21 => ?_)
          refine x2.go hi2 (v := (IntKind.i64.wrap (x2.s + ((((p0.Tasks[x2.i]'hi2).Hand).length : Nat) : Int)))) (by first | rfl | (simp only [spec_CountOf_b1, spec_CountOf_b2, h4, hf1, h20, cond_true, cond_false, Bool.not_true, Bool.not_false, Option.getD_some, Step.fin_stop, Step.fin_done, Fin.get_fin, Fin.get_done]; done) | (exfalso; simp_all; done)) [some 0, some 1, some 2] (by show _ - (x2.i + 1) < _ - x2.i; omega) ?_
          exact ⟨rfl, ⟨(eqInt hw2), ⟨rfl, rfl, rfl, rfl⟩, ⟨rfl, rfl, rfl, rfl⟩, ⟨rfl, rfl, rfl, rfl⟩, trivial⟩, ⟨⟨rfl, rfl, ⟨rfl, rfl, rfl, rfl, rfl, rfl, rfl, rfl, rfl, rfl, rfl, rfl, rfl, rfl, rfl, rfl, rfl, rfl, rfl, rfl, rfl, rfl, rfl, rfl, rfl, rfl, rfl, rfl, rfl, rfl, rfl, rfl, trivial⟩⟩, ⟨rfl, rfl, ⟨rfl, rfl, rfl, rfl, rfl, trivial⟩⟩, ⟨rfl, rfl, ⟨rfl, rfl, rfl, rfl, rfl, trivial⟩⟩, trivial⟩, trivial⟩
        · have hf2 := x2.fin (show ¬ x2.i < (p0.Tasks).length by simpa using h20)
          refine loop_rule (α := LstSt spec_CountOf_b3 0 p0.St) [1, 2, 3] (fun x3 => [(7, .one (.v (.int .i64 ((x3.i : Nat) : Int))))]) (fun x3 => [.keep 0, .keep 1, .new ⟨5, true, [[.v (.int .i64 x1.s.1), .v (.int .i64 (((p0.Out).length : Nat) : Int)), .v (.int .i64 x2.s), .v (.int .i64 x3.s), .v (.int .i64 x1.s.2)]], 0⟩]) (fun x3 => (p0.St).length - x3.i) .init [some 0, some 1, some 2] ?_ (fun x3 => ?_)
          · exact ⟨rfl, ⟨rfl, ⟨rfl, rfl, rfl, rfl⟩, ⟨rfl, rfl, rfl, rfl⟩, ⟨rfl, rfl, rfl, rfl⟩, trivial⟩, ⟨⟨rfl, rfl, ⟨rfl, rfl, rfl, rfl, rfl, rfl, rfl, rfl, rfl, rfl, rfl, rfl, rfl, rfl, rfl, rfl, rfl, rfl, rfl, rfl, rfl, rfl, rfl, rfl, rfl, rfl, rfl, rfl, rfl, rfl, rfl, rfl, trivial⟩⟩, ⟨rfl, rfl, ⟨rfl, rfl, rfl, rfl, rfl, trivial⟩⟩, ⟨rfl, rfl, ⟨rfl, rfl, rfl, rfl, rfl, trivial⟩⟩, trivial⟩, trivial⟩
          · refine lenE (k := (p0.St).length) (by simp) (fun hN22 => ?_)
            refine And.intro (fun (h23 : (decide (((x3.i : Nat) : Int) < (((p0.St).length : Nat) : Int))) = true) => ?_) (fun (h23 : (decide (((x3.i : Nat) : Int) < (((p0.St).length : Nat) : Int))) = false) => ?_)
            · have hi3 : x3.i < (p0.St).length := by simpa using h23
              have hw3 : IntKind.i64.wrap ((x3.i : Int) + 1) = ((x3.i + 1 : Nat) : Int) := wrap_succ hi3 (by first | assumption | omega)
              refine loop_rule (α := LstSt spec_CountOf_b4 x3.s (p0.St[x3.i]'hi3).L) [1, 2, 3, 7] (fun x4 => [(8, .one (.v (.int .i64 ((x4.i : Nat) : Int))))]) (fun x4 => [.keep 0, .keep 1, .new ⟨5, true, [[.v (.int .i64 x1.s.1), .v (.int .i64 (((p0.Out).length : Nat) : Int)), .v (.int .i64 x2.s), .v (.int .i64 x4.s), .v (.int .i64 x1.s.2)]], 0⟩]) (fun x4 => ((p0.St[x3.i]'hi3).L).length - x4.i) .init [some 0, some 1, some 2] ?_ (fun x4 => ?_)
              · exact ⟨rfl, ⟨rfl, ⟨rfl, rfl, rfl, rfl⟩, ⟨rfl, rfl, rfl, rfl⟩, ⟨rfl, rfl, rfl, rfl⟩, rfl, trivial⟩, ⟨⟨rfl, rfl, ⟨rfl, rfl, rfl, rfl, rfl, rfl, rfl, rfl, rfl, rfl, rfl, rfl, rfl, rfl, rfl, rfl, rfl, rfl, rfl, rfl, rfl, rfl, rfl, rfl, rfl, rfl, rfl, rfl, rfl, rfl, rfl, rfl, trivial⟩⟩, ⟨rfl, rfl, ⟨rfl, rfl, rfl, rfl, rfl, trivial⟩⟩, ⟨rfl, rfl, ⟨rfl, rfl, rfl, rfl, rfl, trivial⟩⟩, trivial⟩, trivial⟩
              · refine And.intro (fun _ => by exact idx_at hi3) (rowAtE (i := x3.i) (l := p0.St) rfl hi3 ?_)
                refine lenE (k := ((p0.St[x3.i]'hi3).L).length) (by simp) (fun hN24 => ?_)
                refine And.intro (fun (h25 : (decide (((x4.i : Nat) : Int) < ((((p0.St[x3.i]'hi3).L).length : Nat) : Int))) = true) => ?_) (fun (h25 : (decide (((x4.i : Nat) : Int) < ((((p0.St[x3.i]'hi3).L).length : Nat) : Int))) = false) => ?_)
                · have hi4 : x4.i < ((p0.St[x3.i]'hi3).L).length := by simpa using h25
                  have hw4 : IntKind.i64.wrap ((x4.i : Int) + 1) = ((x4.i + 1 : Nat) : Int) := wrap_succ hi4 (by first | assumption | omega)
                  refine .inr (.inl ⟨15, [(0, true), (1, true), (2, true), (3, true), (4, true), (5, true), (6, true), (7, true), (8, true), (9, true), (10, true), (11, true), (12, true), (13, true), (14, true)], by kernel_rfl, ?_⟩)
                  refine And.intro (fun _ => by exact idx_at hi3) (rowAtE (i := x3.i) (l := p0.St) rfl hi3 ?_)
                  refine And.intro (fun _ => by exact idx_at hi4) (rowAtE (i := x4.i) (l := (p0.St[x3.i]'hi3).L) rfl hi4 ?_)
                  refine lenE (k := (((p0.St[x3.i]'hi3).L[x4.i]'hi4).Spans).length) (by simp) (fun hN26 => ?_)
                  refine x4.go hi4 (v := (IntKind.i64.wrap (x4.s + (((((p0.St[x3.i]'hi3).L[x4.i]'hi4).Spans).length : Nat) : Int)))) (by first | rfl | (simp only [spec_CountOf_b1, spec_CountOf_b2, spec_CountOf_b3, spec_CountOf_b4, h4, hf1, h20, hf2, h23, h25, cond_true, cond_false, Bool.not_true, Bool.not_false, Option.getD_some, Step.fin_stop, Step.fin_done, Fin.get_fin, Fin.get_done]; done) | (exfalso; simp_all; done)) [some 0, some 1, some 2] (by show _ - (x4.i + 1) < _ - x4.i; omega) ?_
                  exact ⟨rfl, ⟨(eqInt hw4), ⟨rfl, rfl, rfl, rfl⟩, ⟨rfl, rfl, rfl, rfl⟩, ⟨rfl, rfl, rfl, rfl⟩, rfl, trivial⟩, ⟨⟨rfl, rfl, ⟨rfl, rfl, rfl, rfl, rfl, rfl, rfl, rfl, rfl, rfl, rfl, rfl, rfl, rfl, rfl, rfl, rfl, rfl, rfl, rfl, rfl, rfl, rfl, rfl, rfl, rfl, rfl, rfl, rfl, rfl, rfl, rfl, trivial⟩⟩, ⟨rfl, rfl, ⟨rfl, rfl, rfl, rfl, rfl, trivial⟩⟩, ⟨rfl, rfl, ⟨rfl, rfl, rfl, rfl, rfl, trivial⟩⟩, trivial⟩, trivial⟩
                · have hf4 := x4.fin (show ¬ x4.i < ((p0.St[x3.i]'hi3).L).length by simpa using h25)
                  refine x3.go hi3 (v := x4.s) (by first | rfl | (simp only [spec_CountOf_b1, spec_CountOf_b2, spec_CountOf_b3, spec_CountOf_b4, h4, hf1, h20, hf2, h23, h25, hf4, cond_true, cond_false, Bool.not_true, Bool.not_false, Option.getD_some, Step.fin_stop, Step.fin_done, Fin.get_fin, Fin.get_done]; done) | (exfalso; simp_all; done)) [some 0, some 1, some 2] (by show _ - (x3.i + 1) < _ - x3.i; omega) ?_
                  exact ⟨rfl, ⟨(eqInt hw3), ⟨rfl, rfl, rfl, rfl⟩, ⟨rfl, rfl, rfl, rfl⟩, ⟨rfl, rfl, rfl, rfl⟩, trivial⟩, ⟨⟨rfl, rfl, ⟨rfl, rfl, rfl, rfl, rfl, rfl, rfl, rfl, rfl, rfl, rfl, rfl, rfl, rfl, rfl, rfl, rfl, rfl, rfl, rfl, rfl, rfl, rfl, rfl, rfl, rfl, rfl, rfl, rfl, rfl, rfl, rfl, trivial⟩⟩, ⟨rfl, rfl, ⟨rfl, rfl, rfl, rfl, rfl, trivial⟩⟩, ⟨rfl, rfl, ⟨rfl, rfl, rfl, rfl, rfl, trivial⟩⟩, trivial⟩, trivial⟩
            · have hf3 := x3.fin (show ¬ x3.i < (p0.St).length by simpa using h23)
              refine And.intro (fun _ => own_Count _) ?_
              have hg : spec_CountOf p0 = (Count.mk x1.s.1 (((p0.Out).length : Nat) : Int) x2.s x3.s x1.s.2) := by
                first | rfl | (simp only [spec_CountOf, spec_CountOf_b1, spec_CountOf_b2, spec_CountOf_b3, spec_CountOf_b4, h4, hf1, h20, hf2, h23, hf3, cond_true, cond_false, Step.fin_stop, Step.fin_done, Fin.get_fin, Fin.get_done, Step.fin_next, Bool.not_true, Bool.not_false, Option.getD_some]; done) | (simp [spec_CountOf, spec_CountOf_b1, spec_CountOf_b2, spec_CountOf_b3, spec_CountOf_b4, h4, hf1, h20, hf2, h23, hf3, cond_true, cond_false, Step.fin_stop, Step.fin_done, Fin.get_fin, Fin.get_done, Step.fin_next, Bool.not_true, Bool.not_false, Option.getD_some]; done) | (exfalso; simp_all; done)
              exact congrArg (fun g : Count => AV.agg (Count.cells g)) hg.symm
def spec_Busy_b1 (i1 : Nat) (s1 : Int) (a1 : Task) : Step (Int) Int :=
  (bif (a1.Op != 0) then (.next (IntKind.i64.wrap (s1 + 1))) else (.next s1))
def spec_Busy (p0 : World) : Int :=
  (Fin.get (fun s1 => s1) (loopL spec_Busy_b1 0 0 p0.Tasks))
theorem c_spec_Busy (p0 : World) : FnOk prog 102 [.agg ((World.cells false) p0)] ⟨.one (.v (.int .i64 (spec_Busy p0))), [], [], false⟩ := by
  refine FnOk.intro (E := env) envOk wide func102 rfl (by kernel_rfl) rfl rfl ?_
  refine litE (m := 0) rfl ?_
  refine loop_rule (α := LstSt spec_Busy_b1 0 p0.Tasks) [1] (fun x1 => [(3, .one (.v (.int .i64 x1.s))), (4, .one (.v (.int .i64 ((x1.i : Nat) : Int))))]) (fun x1 => [.keep 0]) (fun x1 => (p0.Tasks).length - x1.i) .init [some 0] ?_ (fun x1 => ?_)
  · exact ⟨rfl, ⟨rfl, rfl, ⟨rfl, rfl, rfl, rfl⟩, trivial⟩, ⟨⟨rfl, rfl, ⟨rfl, rfl, rfl, rfl, rfl, rfl, rfl, rfl, rfl, rfl, rfl, rfl, rfl, rfl, rfl, rfl, rfl, rfl, rfl, rfl, rfl, rfl, rfl, rfl, rfl, rfl, rfl, rfl, rfl, rfl, rfl, rfl, trivial⟩⟩, trivial⟩, trivial⟩
  · refine lenE (k := (p0.Tasks).length) (by simp) (fun hN1 => ?_)
    refine And.intro (fun (h2 : (decide (((x1.i : Nat) : Int) < (((p0.Tasks).length : Nat) : Int))) = true) => ?_) (fun (h2 : (decide (((x1.i : Nat) : Int) < (((p0.Tasks).length : Nat) : Int))) = false) => ?_)
    · have hi1 : x1.i < (p0.Tasks).length := by simpa using h2
      have hw1 : IntKind.i64.wrap ((x1.i : Int) + 1) = ((x1.i + 1 : Nat) : Int) := wrap_succ hi1 (by first | assumption | omega)
      refine And.intro (fun _ => by exact idx_at hi1) (rowAtE (i := x1.i) (l := p0.Tasks) rfl hi1 ?_)
      refine And.intro (fun (h3 : ((p0.Tasks[x1.i]'hi1).Op != 0) = true) => ?_) (fun (h3 : ((p0.Tasks[x1.i]'hi1).Op != 0) = false) => ?_)
      · refine x1.go hi1 (v := (IntKind.i64.wrap (x1.s + 1))) (by first | rfl | (simp only [spec_Busy_b1, h2, h3, cond_true, cond_false, Bool.not_true, Bool.not_false, Option.getD_some, Step.fin_stop, Step.fin_done, Fin.get_fin, Fin.get_done]; done) | (exfalso; simp_all; done)) [some 0] (by show _ - (x1.i + 1) < _ - x1.i; omega) ?_
        exact ⟨rfl, ⟨rfl, (eqInt hw1), ⟨rfl, rfl, rfl, rfl⟩, trivial⟩, ⟨⟨rfl, rfl, ⟨rfl, rfl, rfl, rfl, rfl, rfl, rfl, rfl, rfl, rfl, rfl, rfl, rfl, rfl, rfl, rfl, rfl, rfl, rfl, rfl, rfl, rfl, rfl, rfl, rfl, rfl, rfl, rfl, rfl, rfl, rfl, rfl, trivial⟩⟩, trivial⟩, trivial⟩
      · refine x1.go hi1 (v := x1.s) (by first | rfl | (simp only [spec_Busy_b1, h2, h3, cond_true, cond_false, Bool.not_true, Bool.not_false, Option.getD_some, Step.fin_stop, Step.fin_done, Fin.get_fin, Fin.get_done]; done) | (exfalso; simp_all; done)) [some 0] (by show _ - (x1.i + 1) < _ - x1.i; omega) ?_
        exact ⟨rfl, ⟨rfl, (eqInt hw1), ⟨rfl, rfl, rfl, rfl⟩, trivial⟩, ⟨⟨rfl, rfl, ⟨rfl, rfl, rfl, rfl, rfl, rfl, rfl, rfl, rfl, rfl, rfl, rfl, rfl, rfl, rfl, rfl, rfl, rfl, rfl, rfl, rfl, rfl, rfl, rfl, rfl, rfl, rfl, rfl, rfl, rfl, rfl, rfl, trivial⟩⟩, trivial⟩, trivial⟩
    · have hf1 := x1.fin (show ¬ x1.i < (p0.Tasks).length by simpa using h2)
      refine And.intro (fun _ => .v _) ?_
      have hg : spec_Busy p0 = x1.s := by
        first | rfl | (simp only [spec_Busy, spec_Busy_b1, h2, hf1, cond_true, cond_false, Step.fin_stop, Step.fin_done, Fin.get_fin, Fin.get_done, Step.fin_next, Bool.not_true, Bool.not_false, Option.getD_some]; done) | (simp [spec_Busy, spec_Busy_b1, h2, hf1, cond_true, cond_false, Step.fin_stop, Step.fin_done, Fin.get_fin, Fin.get_done, Step.fin_next, Bool.not_true, Bool.not_false, Option.getD_some]; done) | (exfalso; simp_all; done)
      exact congrArg (fun g : Int => AV.one (.v (.int .i64 g))) hg.symm
def spec_Timers_b2 (i2 : Nat) (s2 : (List Timer)) (a2 : (List Timer)) : Step ((List Timer)) (List Timer) :=
  (.next (s2 ++ a2))
def spec_Timers_b1 (i1 : Nat) (s1 : (List Timer)) (a1 : (List Timer)) : Step ((List Timer)) (List Timer) :=
  (.next (s1 ++ a1))
def spec_Timers (p0 : Wheel) : (List Timer) :=
  (Fin.get (fun s1 => (Fin.get (fun s2 => (s2 ++ p0.Rest)) (loopL spec_Timers_b2 0 s1 p0.Far))) (loopL spec_Timers_b1 0 ([] : List Timer) p0.Near))
theorem c_spec_Timers (p0 : Wheel) (hs : Wheel.bd 1048576 p0) : FnOk prog 103 [.agg ((Wheel.cells false) p0)] ⟨.one (.s true 3 (List.map Timer.cells (spec_Timers p0))), [], [], false⟩ := by
  refine FnOk.intro (E := env) envOk wide func103 rfl (by kernel_rfl) rfl rfl ?_
  refine litE (m := 0) rfl ?_
  refine litE (m := 1) rfl ?_
  refine loop_rule (α := LstInv (fun i s => s.length ≤ 1048576 * i) spec_Timers_b1 ([] : List Timer) p0.Near) [1] (fun x1 => [(3, .one (.n 1 [] 1 0 (x1.s).length)), (4, .one (.v (.int .i64 ((x1.i : Nat) : Int))))]) (fun x1 => [.keep 0, .new ⟨3, false, List.map Timer.cells x1.s, 0⟩]) (fun x1 => (p0.Near).length - x1.i) (.init (by show 0 ≤ _; omega)) [some 0, some 1] ?_ (fun x1 => ?_)
  · exact ⟨rfl, ⟨⟨rfl, rfl, rfl, rfl, by (first | rfl | (simp; done) | (simp [LstSt.init, LstSt.step, LstInv.init, CntSt.init, CntSt.step, CntInv.init, WhlSt.init, WhlSt.step]; done) | (simp [LstSt.init, LstSt.step, LstInv.init, CntSt.init, CntSt.step, CntInv.init, WhlSt.init, WhlSt.step]; omega))⟩, rfl, ⟨rfl, rfl, rfl, rfl⟩, trivial⟩, ⟨⟨rfl, rfl, ⟨rfl, rfl, rfl, rfl, trivial⟩⟩, ⟨rfl, rfl, rfl⟩, trivial⟩, trivial⟩
  · have hI1 : List.length x1.s ≤ 1048576 * x1.i := by simpa using x1.hI
    refine lenE (k := (p0.Near).length) (by simp) (fun hN1 => ?_)
    refine And.intro (fun (h2 : (decide (((x1.i : Nat) : Int) < (((p0.Near).length : Nat) : Int))) = true) => ?_) (fun (h2 : (decide (((x1.i : Nat) : Int) < (((p0.Near).length : Nat) : Int))) = false) => ?_)
    · have hi1 : x1.i < (p0.Near).length := by simpa using h2
      have hw1 : IntKind.i64.wrap ((x1.i : Int) + 1) = ((x1.i + 1 : Nat) : Int) := wrap_succ hi1 (by first | assumption | omega)
      refine And.intro (fun _ => by exact idx_at hi1) (rowAtE (i := x1.i) (l := p0.Near) rfl hi1 ?_)
      refine rowsE (Y := List.map Timer.cells (x1.s ++ (p0.Near[x1.i]'hi1))) (by first | rfl | (simp [subR, take_map', drop_map', fz_Timer, fl_Timer, fzMap fz_Timer, flMap fl_Timer]; done) | (simp [subR, take_map', drop_map', fz_Timer, fl_Timer, fzMap fz_Timer, flMap fl_Timer]; rfl)) ?_
      refine And.intro (by have hl := hs.1.1; have hl2 := hs.2.1.1; have hl3 := hs.2.2.1; (try have hq := (hs.1.get hi1).1); (try have hq := (hs.2.1.get hi2).1); (try have hq3 := x2.h); refine ⟨?_, ?_⟩; (show List.length _ * 24 ≤ _); (try simp only [List.length_map, List.length_append, List.length_cons, List.length_nil]); omega; (try simp only [List.length_map, List.length_append, List.length_cons, List.length_nil]); omega) ?_
      refine litE (m := 2) rfl ?_
      refine x1.go' hi1 (v := (x1.s ++ (p0.Near[x1.i]'hi1))) (by first | rfl | (simp only [spec_Timers_b1, h2, cond_true, cond_false, Bool.not_true, Bool.not_false, Option.getD_some, Step.fin_stop, Step.fin_done, Fin.get_fin, Fin.get_done]; done) | (exfalso; simp_all; done)) (by have hq := (hs.1.get hi1).1; show List.length (_ ++ _) ≤ _; rw [List.length_append]; omega) [some 0, some 2] (by show _ - (x1.i + 1) < _ - x1.i; omega) ?_
      exact ⟨rfl, ⟨⟨rfl, rfl, rfl, rfl, by (first | rfl | (simp; done) | (simp [LstSt.init, LstSt.step, LstInv.init, CntSt.init, CntSt.step, CntInv.init, WhlSt.init, WhlSt.step]; done) | (simp [LstSt.init, LstSt.step, LstInv.init, CntSt.init, CntSt.step, CntInv.init, WhlSt.init, WhlSt.step]; omega))⟩, (eqInt hw1), ⟨rfl, rfl, rfl, rfl⟩, trivial⟩, ⟨⟨rfl, rfl, ⟨rfl, rfl, rfl, rfl, trivial⟩⟩, ⟨rfl, rfl, rfl⟩, trivial⟩, trivial⟩
    · have hf1 := x1.fin (show ¬ x1.i < (p0.Near).length by simpa using h2)
      refine loop_rule (α := LstInv (fun i s => s.length ≤ 1099511627776 + 1048576 * i) spec_Timers_b2 x1.s p0.Far) [1] (fun x2 => [(3, .one (.n 1 [] 1 0 (x2.s).length)), (5, .one (.v (.int .i64 ((x2.i : Nat) : Int))))]) (fun x2 => [.keep 0, .new ⟨3, false, List.map Timer.cells x2.s, 0⟩]) (fun x2 => (p0.Far).length - x2.i) (.init (by have hq := x1.h; have hq2 := hs.1.1; show List.length x1.s ≤ _; omega)) [some 0, some 1] ?_ (fun x2 => ?_)
      · exact ⟨rfl, ⟨⟨rfl, rfl, rfl, rfl, by (first | rfl | (simp; done) | (simp [LstSt.init, LstSt.step, LstInv.init, CntSt.init, CntSt.step, CntInv.init, WhlSt.init, WhlSt.step]; done) | (simp [LstSt.init, LstSt.step, LstInv.init, CntSt.init, CntSt.step, CntInv.init, WhlSt.init, WhlSt.step]; omega))⟩, rfl, ⟨rfl, rfl, rfl, rfl⟩, trivial⟩, ⟨⟨rfl, rfl, ⟨rfl, rfl, rfl, rfl, trivial⟩⟩, ⟨rfl, rfl, rfl⟩, trivial⟩, trivial⟩
      · have hI2 : List.length x2.s ≤ 1099511627776 + 1048576 * x2.i := by simpa using x2.hI
        refine lenE (k := (p0.Far).length) (by simp) (fun hN3 => ?_)
        refine And.intro (fun (h4 : (decide (((x2.i : Nat) : Int) < (((p0.Far).length : Nat) : Int))) = true) => ?_) (fun (h4 : (decide (((x2.i : Nat) : Int) < (((p0.Far).length : Nat) : Int))) = false) => ?_)
        · have hi2 : x2.i < (p0.Far).length := by simpa using h4
          have hw2 : IntKind.i64.wrap ((x2.i : Int) + 1) = ((x2.i + 1 : Nat) : Int) := wrap_succ hi2 (by first | assumption | omega)
          refine And.intro (fun _ => by exact idx_at hi2) (rowAtE (i := x2.i) (l := p0.Far) rfl hi2 ?_)
          refine rowsE (Y := List.map Timer.cells (x2.s ++ (p0.Far[x2.i]'hi2))) (by first | rfl | (simp [subR, take_map', drop_map', fz_Timer, fl_Timer, fzMap fz_Timer, flMap fl_Timer]; done) | (simp [subR, take_map', drop_map', fz_Timer, fl_Timer, fzMap fz_Timer, flMap fl_Timer]; rfl)) ?_
          refine And.intro (by have hl := hs.1.1; have hl2 := hs.2.1.1; have hl3 := hs.2.2.1; (try have hq := (hs.1.get hi1).1); (try have hq := (hs.2.1.get hi2).1); (try have hq3 := x2.h); refine ⟨?_, ?_⟩; (show List.length _ * 24 ≤ _); (try simp only [List.length_map, List.length_append, List.length_cons, List.length_nil]); omega; (try simp only [List.length_map, List.length_append, List.length_cons, List.length_nil]); omega) ?_
          refine litE (m := 2) rfl ?_
          refine x2.go' hi2 (v := (x2.s ++ (p0.Far[x2.i]'hi2))) (by first | rfl | (simp only [spec_Timers_b1, spec_Timers_b2, h2, hf1, h4, cond_true, cond_false, Bool.not_true, Bool.not_false, Option.getD_some, Step.fin_stop, Step.fin_done, Fin.get_fin, Fin.get_done]; done) | (exfalso; simp_all; done)) (by have hq := (hs.2.1.get hi2).1; show List.length (_ ++ _) ≤ _; rw [List.length_append]; omega) [some 0, some 2] (by show _ - (x2.i + 1) < _ - x2.i; omega) ?_
          exact ⟨rfl, ⟨⟨rfl, rfl, rfl, rfl, by (first | rfl | (simp; done) | (simp [LstSt.init, LstSt.step, LstInv.init, CntSt.init, CntSt.step, CntInv.init, WhlSt.init, WhlSt.step]; done) | (simp [LstSt.init, LstSt.step, LstInv.init, CntSt.init, CntSt.step, CntInv.init, WhlSt.init, WhlSt.step]; omega))⟩, (eqInt hw2), ⟨rfl, rfl, rfl, rfl⟩, trivial⟩, ⟨⟨rfl, rfl, ⟨rfl, rfl, rfl, rfl, trivial⟩⟩, ⟨rfl, rfl, rfl⟩, trivial⟩, trivial⟩
        · have hf2 := x2.fin (show ¬ x2.i < (p0.Far).length by simpa using h4)
          refine rowsE (Y := List.map Timer.cells (x2.s ++ p0.Rest)) (by first | rfl | (simp [subR, take_map', drop_map', fz_Timer, fl_Timer, fzMap fz_Timer, flMap fl_Timer]; done) | (simp [subR, take_map', drop_map', fz_Timer, fl_Timer, fzMap fz_Timer, flMap fl_Timer]; rfl)) ?_
          refine And.intro (by have hl := hs.1.1; have hl2 := hs.2.1.1; have hl3 := hs.2.2.1; (try have hq := (hs.1.get hi1).1); (try have hq := (hs.2.1.get hi2).1); (try have hq3 := x2.h); refine ⟨?_, ?_⟩; (show List.length _ * 24 ≤ _); (try simp only [List.length_map, List.length_append, List.length_cons, List.length_nil]); omega; (try simp only [List.length_map, List.length_append, List.length_cons, List.length_nil]); omega) ?_
          refine litE (m := 2) rfl ?_
          refine And.intro (fun _ => ownSl own_Timer _) ?_
          have hg : spec_Timers p0 = (x2.s ++ p0.Rest) := by
            first | rfl | (simp only [spec_Timers, spec_Timers_b1, spec_Timers_b2, h2, hf1, h4, hf2, cond_true, cond_false, Step.fin_stop, Step.fin_done, Fin.get_fin, Fin.get_done, Step.fin_next, Bool.not_true, Bool.not_false, Option.getD_some]; done) | (simp [spec_Timers, spec_Timers_b1, spec_Timers_b2, h2, hf1, h4, hf2, cond_true, cond_false, Step.fin_stop, Step.fin_done, Fin.get_fin, Fin.get_done, Step.fin_next, Bool.not_true, Bool.not_false, Option.getD_some]; done) | (exfalso; simp_all; done)
          exact congrArg (fun g : (List Timer) => AV.one (.s true 3 (List.map Timer.cells g))) hg.symm
def spec_Bound (p0 : World) : Int :=
  (IntKind.i64.wrap ((IntKind.i64.wrap (20 + (IntKind.i64.wrap (2 * (IntKind.i64.wrap ((spec_CountOf p0).Held + (spec_CountOf p0).Moving)))))) + (IntKind.i64.wrap (6 * (IntKind.i64.wrap ((IntKind.i64.wrap ((spec_Busy p0) + (((p0.Due).length : Nat) : Int))) + ((((spec_Timers p0.W)).length : Nat) : Int)))))))
theorem c_spec_Bound (p0 : World) (hs : World.bd 1048576 p0) : FnOk prog 26 [.agg ((World.cells false) p0)] ⟨.one (.v (.int .i64 (spec_Bound p0))), [], [], false⟩ := by
  refine FnOk.intro (E := env) envOk wide func26 rfl (by kernel_rfl) rfl rfl ?_
  refine litE (m := 0) rfl ?_
  refine ⟨_, _, c_spec_CountOf p0, (FzAs.same _), ?_⟩
  refine litE (m := 2) rfl ?_
  refine litE (m := 2) rfl ?_
  refine .inr (.inl ⟨21, [(0, true), (1, true), (2, true), (3, true), (4, true), (5, true), (6, true), (7, true), (8, true), (9, true), (10, true), (11, true), (12, true), (13, true), (14, true), (15, false), (16, false), (17, false), (18, false), (19, false), (20, false)], by kernel_rfl, ?_⟩)
  refine ⟨_, _, c_spec_Busy p0, (FzAs.same _), ?_⟩
  refine lenE (k := (p0.Due).length) (by simp) (fun hN1 => ?_)
  refine ⟨_, _, c_spec_Timers p0.W (by first | exact hs | exact hs.2.2.2.1), (FzAs.same _), ?_⟩
  refine litE (m := 4) rfl ?_
  refine lenE (k := ((spec_Timers p0.W)).length) (by simp) (fun hN2 => ?_)
  refine And.intro (fun _ => .v _) ?_
  have hg : spec_Bound p0 = (IntKind.i64.wrap ((IntKind.i64.wrap (20 + (IntKind.i64.wrap (2 * (IntKind.i64.wrap ((spec_CountOf p0).Held + (spec_CountOf p0).Moving)))))) + (IntKind.i64.wrap (6 * (IntKind.i64.wrap ((IntKind.i64.wrap ((spec_Busy p0) + (((p0.Due).length : Nat) : Int))) + ((((spec_Timers p0.W)).length : Nat) : Int))))))) := by
    first | rfl | (simp only [spec_Bound, cond_true, cond_false, Step.fin_stop, Step.fin_done, Fin.get_fin, Fin.get_done, Step.fin_next, Bool.not_true, Bool.not_false, Option.getD_some]; done) | (simp [spec_Bound, cond_true, cond_false, Step.fin_stop, Step.fin_done, Fin.get_fin, Fin.get_done, Step.fin_next, Bool.not_true, Bool.not_false, Option.getD_some]; done) | (exfalso; simp_all; done)
  exact congrArg (fun g : Int => AV.one (.v (.int .i64 g))) hg.symm
def impl_copySpan (p0 : Span) : Span :=
  p0
theorem c_impl_copySpan (p0 : Span) (hs : Span.bd 1048576 p0) : FnOk prog 114 [.agg ((Span.cells false) p0)] ⟨.agg ((Span.cells true) (impl_copySpan p0)), [], [], false⟩ := by
  refine FnOk.intro (E := env) envOk wide func114 rfl (by kernel_rfl) rfl rfl ?_
  refine litE (m := 0) rfl ?_
  refine litE (m := 1) rfl ?_
  refine rowsE (Y := List.map Attr.cells p0.Attrs) (by first | rfl | (simp [subR, take_map', drop_map', fz_Attr, fl_Attr, fzMap fz_Attr, flMap fl_Attr]; done) | (simp [subR, take_map', drop_map', fz_Attr, fl_Attr, fzMap fz_Attr, flMap fl_Attr]; rfl)) ?_
  refine And.intro (by have hl := hs.1; refine ⟨?_, ?_⟩; (show List.length _ * 48 ≤ _); (try simp only [List.length_map, List.length_append, List.length_cons, List.length_nil]); omega; (try simp only [List.length_map, List.length_append, List.length_cons, List.length_nil]); omega) ?_
  refine litE (m := 2) rfl ?_
  refine And.intro (fun _ => own_Span _) ?_
  have hg : impl_copySpan p0 = p0 := by
    first | rfl | (simp only [impl_copySpan, cond_true, cond_false, Step.fin_stop, Step.fin_done, Fin.get_fin, Fin.get_done, Step.fin_next, Bool.not_true, Bool.not_false, Option.getD_some]; done) | (simp [impl_copySpan, cond_true, cond_false, Step.fin_stop, Step.fin_done, Fin.get_fin, Fin.get_done, Step.fin_next, Bool.not_true, Bool.not_false, Option.getD_some]; done) | (exfalso; simp_all; done)
  exact congrArg (fun g : Span => AV.agg ((Span.cells true) g)) hg.symm
def impl_copySpans_b1 (i1 : Nat) (s1 : (List Span)) (a1 : Span) : Step ((List Span)) (List Span) :=
  (.next (s1 ++ [(impl_copySpan a1)]))
def impl_copySpans (p0 : (List Span)) : (List Span) :=
  (Fin.get (fun s1 => s1) (loopL impl_copySpans_b1 0 ([] : List Span) p0))
theorem c_impl_copySpans (p0 : (List Span)) (hs : bdS Span.bd 1048576 p0) : FnOk prog 234 [.one (.s false 6 (List.map (Span.cells false) p0))] ⟨.one (.s true 6 (List.map (Span.cells true) (impl_copySpans p0))), [], [], false⟩ := by
  refine FnOk.intro (E := env) envOk wide func234 rfl (by kernel_rfl) rfl rfl ?_
  refine lenE (k := (p0).length) (by simp) (fun hN1 => ?_)
  refine loop_rule (α := LstInv (fun i s => s.length = i) impl_copySpans_b1 ([] : List Span) p0) [6, 7] (fun x1 => [(3, .one (.n 0 [] 1 0 (x1.s).length)), (8, .one (.v (.int .i64 ((x1.i : Nat) : Int))))]) (fun x1 => [.new ⟨6, false, List.map (Span.cells true) x1.s, 0⟩]) (fun x1 => (p0).length - x1.i) (.init (by rfl)) [none] ?_ (fun x1 => ?_)
  · exact ⟨rfl, ⟨⟨rfl, rfl, rfl, rfl, by (first | rfl | (simp; done) | (simp [LstSt.init, LstSt.step, LstInv.init, CntSt.init, CntSt.step, CntInv.init, WhlSt.init, WhlSt.step]; done) | (simp [LstSt.init, LstSt.step, LstInv.init, CntSt.init, CntSt.step, CntInv.init, WhlSt.init, WhlSt.step]; omega))⟩, rfl, rfl, rfl, trivial⟩, ⟨⟨rfl, rfl⟩, trivial⟩, trivial⟩
  · have hI1 : List.length x1.s = x1.i := by simpa using x1.hI
    refine And.intro (fun (h2 : (decide (((x1.i : Nat) : Int) < (((p0).length : Nat) : Int))) = true) => ?_) (fun (h2 : (decide (((x1.i : Nat) : Int) < (((p0).length : Nat) : Int))) = false) => ?_)
    · have hi1 : x1.i < (p0).length := by simpa using h2
      have hw1 : IntKind.i64.wrap ((x1.i : Int) + 1) = ((x1.i + 1 : Nat) : Int) := wrap_succ hi1 (by first | assumption | omega)
      refine And.intro (fun _ => by exact idx_at hi1) (rowAtE (i := x1.i) (l := p0) rfl hi1 ?_)
      refine litE (m := 1) rfl ?_
      refine ⟨_, _, c_impl_copySpan (p0[x1.i]'hi1) (by exact hs.get hi1), (FzAs.same _), ?_⟩
      refine litE (m := 3) rfl ?_
      refine litE (m := 4) rfl ?_
      refine rowsE (Y := List.map (Span.cells true) (x1.s ++ [(impl_copySpan (p0[x1.i]'hi1))])) (by first | rfl | (simp [subR, take_map', drop_map', fz_Span, fzMap fz_Span]; done) | (simp [subR, take_map', drop_map', fz_Span, fzMap fz_Span]; rfl)) ?_
      refine And.intro (by have hl := hs.1; refine ⟨?_, ?_⟩; (show List.length _ * 64 ≤ _); (try simp only [List.length_map, List.length_append, List.length_cons, List.length_nil]); omega; (try simp only [List.length_map, List.length_append, List.length_cons, List.length_nil]); omega) ?_
      refine litE (m := 5) rfl ?_
      refine x1.go' hi1 (v := (x1.s ++ [(impl_copySpan (p0[x1.i]'hi1))])) (by first | rfl | (simp only [impl_copySpans_b1, h2, cond_true, cond_false, Bool.not_true, Bool.not_false, Option.getD_some, Step.fin_stop, Step.fin_done, Fin.get_fin, Fin.get_done]; done) | (exfalso; simp_all; done)) (by show List.length (_ ++ _) = _; simp only [List.length_append, List.length_cons, List.length_nil]; omega) [some 5] (by show _ - (x1.i + 1) < _ - x1.i; omega) ?_
      exact ⟨rfl, ⟨⟨rfl, rfl, rfl, rfl, by (first | rfl | (simp; done) | (simp [LstSt.init, LstSt.step, LstInv.init, CntSt.init, CntSt.step, CntInv.init, WhlSt.init, WhlSt.step]; done) | (simp [LstSt.init, LstSt.step, LstInv.init, CntSt.init, CntSt.step, CntInv.init, WhlSt.init, WhlSt.step]; omega))⟩, (eqInt hw1), rfl, rfl, trivial⟩, ⟨⟨rfl, rfl, rfl⟩, trivial⟩, trivial⟩
    · have hf1 := x1.fin (show ¬ x1.i < (p0).length by simpa using h2)
      refine And.intro (fun _ => ownSl own_Span _) ?_
      have hg : impl_copySpans p0 = x1.s := by
        first | rfl | (simp only [impl_copySpans, impl_copySpans_b1, h2, hf1, cond_true, cond_false, Step.fin_stop, Step.fin_done, Fin.get_fin, Fin.get_done, Step.fin_next, Bool.not_true, Bool.not_false, Option.getD_some]; done) | (simp [impl_copySpans, impl_copySpans_b1, h2, hf1, cond_true, cond_false, Step.fin_stop, Step.fin_done, Fin.get_fin, Fin.get_done, Step.fin_next, Bool.not_true, Bool.not_false, Option.getD_some]; done) | (exfalso; simp_all; done)
      exact congrArg (fun g : (List Span) => AV.one (.s true 6 (List.map (Span.cells true) g))) hg.symm
theorem copySpans_id (l : List Span) : impl_copySpans l = l := by
  unfold impl_copySpans
  rw [app_loop (f := fun a => [a]) (b := impl_copySpans_b1) (fun _ _ _ => rfl)]
  simp [Fin.get]
def impl_copyTrail (p0 : Trail) : Trail :=
  (Trail.mk p0.Id p0.Stamp p0.First (impl_copySpans p0.Spans))
theorem c_impl_copyTrail (p0 : Trail) (hs : Trail.bd 1048576 p0) : FnOk prog 218 [.agg ((Trail.cells false) p0)] ⟨.agg ((Trail.cells true) (impl_copyTrail p0)), [], [], false⟩ := by
  refine FnOk.intro (E := env) envOk wide func218 rfl (by kernel_rfl) rfl rfl ?_
  refine litE (m := 0) rfl ?_
  refine litE (m := 1) rfl ?_
  refine ⟨_, _, c_impl_copySpans p0.Spans (by exact hs), (FzAs.same _), ?_⟩
  refine litE (m := 3) rfl ?_
  refine And.intro (fun _ => own_Trail _) ?_
  have hg : impl_copyTrail p0 = (Trail.mk p0.Id p0.Stamp p0.First (impl_copySpans p0.Spans)) := by
    first | rfl | (simp only [impl_copyTrail, cond_true, cond_false, Step.fin_stop, Step.fin_done, Fin.get_fin, Fin.get_done, Step.fin_next, Bool.not_true, Bool.not_false, Option.getD_some]; done) | (simp [impl_copyTrail, cond_true, cond_false, Step.fin_stop, Step.fin_done, Fin.get_fin, Fin.get_done, Step.fin_next, Bool.not_true, Bool.not_false, Option.getD_some]; done) | (exfalso; simp_all; done)
  exact congrArg (fun g : Trail => AV.agg ((Trail.cells true) g)) hg.symm
theorem copyTrail_id (t : Trail) : impl_copyTrail t = t := by
  unfold impl_copyTrail
  rw [copySpans_id]
def impl_copyTrails_b1 (i1 : Nat) (s1 : (List Trail)) (a1 : Trail) : Step ((List Trail)) (List Trail) :=
  (.next (s1 ++ [(impl_copyTrail a1)]))
def impl_copyTrails (p0 : (List Trail)) : (List Trail) :=
  (Fin.get (fun s1 => s1) (loopL impl_copyTrails_b1 0 ([] : List Trail) p0))
theorem c_impl_copyTrails (p0 : (List Trail)) (hs : bdS Trail.bd 1048576 p0) : FnOk prog 188 [.one (.s false 4 (List.map (Trail.cells false) p0))] ⟨.one (.s true 4 (List.map (Trail.cells true) (impl_copyTrails p0))), [], [], false⟩ := by
  refine FnOk.intro (E := env) envOk wide func188 rfl (by kernel_rfl) rfl rfl ?_
  refine lenE (k := (p0).length) (by simp) (fun hN1 => ?_)
  refine loop_rule (α := LstInv (fun i s => s.length = i) impl_copyTrails_b1 ([] : List Trail) p0) [6, 7] (fun x1 => [(3, .one (.n 0 [] 1 0 (x1.s).length)), (8, .one (.v (.int .i64 ((x1.i : Nat) : Int))))]) (fun x1 => [.new ⟨4, false, List.map (Trail.cells true) x1.s, 0⟩]) (fun x1 => (p0).length - x1.i) (.init (by rfl)) [none] ?_ (fun x1 => ?_)
  · exact ⟨rfl, ⟨⟨rfl, rfl, rfl, rfl, by (first | rfl | (simp; done) | (simp [LstSt.init, LstSt.step, LstInv.init, CntSt.init, CntSt.step, CntInv.init, WhlSt.init, WhlSt.step]; done) | (simp [LstSt.init, LstSt.step, LstInv.init, CntSt.init, CntSt.step, CntInv.init, WhlSt.init, WhlSt.step]; omega))⟩, rfl, rfl, rfl, trivial⟩, ⟨⟨rfl, rfl⟩, trivial⟩, trivial⟩
  · have hI1 : List.length x1.s = x1.i := by simpa using x1.hI
    refine And.intro (fun (h2 : (decide (((x1.i : Nat) : Int) < (((p0).length : Nat) : Int))) = true) => ?_) (fun (h2 : (decide (((x1.i : Nat) : Int) < (((p0).length : Nat) : Int))) = false) => ?_)
    · have hi1 : x1.i < (p0).length := by simpa using h2
      have hw1 : IntKind.i64.wrap ((x1.i : Int) + 1) = ((x1.i + 1 : Nat) : Int) := wrap_succ hi1 (by first | assumption | omega)
      refine And.intro (fun _ => by exact idx_at hi1) (rowAtE (i := x1.i) (l := p0) rfl hi1 ?_)
      refine litE (m := 1) rfl ?_
      refine ⟨_, _, c_impl_copyTrail (p0[x1.i]'hi1) (by exact hs.get hi1), (FzAs.same _), ?_⟩
      refine litE (m := 3) rfl ?_
      refine litE (m := 4) rfl ?_
      refine rowsE (Y := List.map (Trail.cells true) (x1.s ++ [(impl_copyTrail (p0[x1.i]'hi1))])) (by first | rfl | (simp [subR, take_map', drop_map', fz_Trail, fzMap fz_Trail]; done) | (simp [subR, take_map', drop_map', fz_Trail, fzMap fz_Trail]; rfl)) ?_
      refine And.intro (by have hl := hs.1; refine ⟨?_, ?_⟩; (show List.length _ * 48 ≤ _); (try simp only [List.length_map, List.length_append, List.length_cons, List.length_nil]); omega; (try simp only [List.length_map, List.length_append, List.length_cons, List.length_nil]); omega) ?_
      refine litE (m := 5) rfl ?_
      refine x1.go' hi1 (v := (x1.s ++ [(impl_copyTrail (p0[x1.i]'hi1))])) (by first | rfl | (simp only [impl_copyTrails_b1, h2, cond_true, cond_false, Bool.not_true, Bool.not_false, Option.getD_some, Step.fin_stop, Step.fin_done, Fin.get_fin, Fin.get_done]; done) | (exfalso; simp_all; done)) (by show List.length (_ ++ _) = _; simp only [List.length_append, List.length_cons, List.length_nil]; omega) [some 5] (by show _ - (x1.i + 1) < _ - x1.i; omega) ?_
      exact ⟨rfl, ⟨⟨rfl, rfl, rfl, rfl, by (first | rfl | (simp; done) | (simp [LstSt.init, LstSt.step, LstInv.init, CntSt.init, CntSt.step, CntInv.init, WhlSt.init, WhlSt.step]; done) | (simp [LstSt.init, LstSt.step, LstInv.init, CntSt.init, CntSt.step, CntInv.init, WhlSt.init, WhlSt.step]; omega))⟩, (eqInt hw1), rfl, rfl, trivial⟩, ⟨⟨rfl, rfl, rfl⟩, trivial⟩, trivial⟩
    · have hf1 := x1.fin (show ¬ x1.i < (p0).length by simpa using h2)
      refine And.intro (fun _ => ownSl own_Trail _) ?_
      have hg : impl_copyTrails p0 = x1.s := by
        first | rfl | (simp only [impl_copyTrails, impl_copyTrails_b1, h2, hf1, cond_true, cond_false, Step.fin_stop, Step.fin_done, Fin.get_fin, Fin.get_done, Step.fin_next, Bool.not_true, Bool.not_false, Option.getD_some]; done) | (simp [impl_copyTrails, impl_copyTrails_b1, h2, hf1, cond_true, cond_false, Step.fin_stop, Step.fin_done, Fin.get_fin, Fin.get_done, Step.fin_next, Bool.not_true, Bool.not_false, Option.getD_some]; done) | (exfalso; simp_all; done)
      exact congrArg (fun g : (List Trail) => AV.one (.s true 4 (List.map (Trail.cells true) g))) hg.symm
theorem copyTrails_id (l : List Trail) : impl_copyTrails l = l := by
  unfold impl_copyTrails
  rw [app_loop (f := fun a => [a]) (b := impl_copyTrails_b1) (fun _ s a => by unfold impl_copyTrails_b1; rw [copyTrail_id])]
  simp [Fin.get]
def impl_allTrails_b1 (i1 : Nat) (s1 : (List Trail)) (a1 : Stripe) : Step ((List Trail)) (List Trail) :=
  (.next (s1 ++ (impl_copyTrails a1.L)))
def impl_allTrails (p0 : (List Stripe)) : (List Trail) :=
  (Fin.get (fun s1 => s1) (loopL impl_allTrails_b1 0 ([] : List Trail) p0))
theorem c_impl_allTrails (p0 : (List Stripe)) (hs : bdS Stripe.bd 1048576 p0) : FnOk prog 158 [.one (.s false 2 (List.map (Stripe.cells false) p0))] ⟨.one (.s true 4 (List.map (Trail.cells true) (impl_allTrails p0))), [], [], false⟩ := by
  refine FnOk.intro (E := env) envOk wide func158 rfl (by kernel_rfl) rfl rfl ?_
  refine lenE (k := (p0).length) (by simp) (fun hN1 => ?_)
  refine loop_rule (α := LstInv (fun i s => s.length ≤ 1048576 * i) impl_allTrails_b1 ([] : List Trail) p0) [6, 7] (fun x1 => [(3, .one (.n 0 [] 1 0 (x1.s).length)), (8, .one (.v (.int .i64 ((x1.i : Nat) : Int))))]) (fun x1 => [.new ⟨4, false, List.map (Trail.cells true) x1.s, 0⟩]) (fun x1 => (p0).length - x1.i) (.init (by show 0 ≤ _; omega)) [none] ?_ (fun x1 => ?_)
  · exact ⟨rfl, ⟨⟨rfl, rfl, rfl, rfl, by (first | rfl | (simp; done) | (simp [LstSt.init, LstSt.step, LstInv.init, CntSt.init, CntSt.step, CntInv.init, WhlSt.init, WhlSt.step]; done) | (simp [LstSt.init, LstSt.step, LstInv.init, CntSt.init, CntSt.step, CntInv.init, WhlSt.init, WhlSt.step]; omega))⟩, rfl, rfl, rfl, trivial⟩, ⟨⟨rfl, rfl⟩, trivial⟩, trivial⟩
  · have hI1 : List.length x1.s ≤ 1048576 * x1.i := by simpa using x1.hI
    refine And.intro (fun (h2 : (decide (((x1.i : Nat) : Int) < (((p0).length : Nat) : Int))) = true) => ?_) (fun (h2 : (decide (((x1.i : Nat) : Int) < (((p0).length : Nat) : Int))) = false) => ?_)
    · have hi1 : x1.i < (p0).length := by simpa using h2
      have hw1 : IntKind.i64.wrap ((x1.i : Int) + 1) = ((x1.i + 1 : Nat) : Int) := wrap_succ hi1 (by first | assumption | omega)
      refine And.intro (fun _ => by exact idx_at hi1) (rowAtE (i := x1.i) (l := p0) rfl hi1 ?_)
      refine litE (m := 1) rfl ?_
      refine ⟨_, _, c_impl_copyTrails (p0[x1.i]'hi1).L (by exact hs.get hi1), (FzAs.same _), ?_⟩
      refine litE (m := 3) rfl ?_
      refine rowsE (Y := List.map (Trail.cells true) (x1.s ++ (impl_copyTrails (p0[x1.i]'hi1).L))) (by first | rfl | (simp [subR, take_map', drop_map', fz_Trail, fzMap fz_Trail]; done) | (simp [subR, take_map', drop_map', fz_Trail, fzMap fz_Trail]; rfl)) ?_
      refine And.intro (by have hl := hs.1; have hq : bdS Trail.bd 1048576 (p0[x1.i]'hi1).L := hs.get hi1; have hq1 := hq.1; have hq2 := copyTrails_id (p0[x1.i]'hi1).L; (try rw [hq2]); refine ⟨?_, ?_⟩; (show List.length _ * 48 ≤ _); (try simp only [List.length_map, List.length_append, List.length_cons, List.length_nil]); omega; (try simp only [List.length_map, List.length_append, List.length_cons, List.length_nil]); omega) ?_
      refine litE (m := 4) rfl ?_
      refine x1.go' hi1 (v := (x1.s ++ (impl_copyTrails (p0[x1.i]'hi1).L))) (by first | rfl | (simp only [impl_allTrails_b1, h2, cond_true, cond_false, Bool.not_true, Bool.not_false, Option.getD_some, Step.fin_stop, Step.fin_done, Fin.get_fin, Fin.get_done]; done) | (exfalso; simp_all; done)) (by have hq : bdS Trail.bd 1048576 (p0[x1.i]'hi1).L := hs.get hi1; show List.length (_ ++ _) ≤ _; rw [List.length_append, copyTrails_id]; have := hq.1; omega) [some 4] (by show _ - (x1.i + 1) < _ - x1.i; omega) ?_
      exact ⟨rfl, ⟨⟨rfl, rfl, rfl, rfl, by (first | rfl | (simp; done) | (simp [LstSt.init, LstSt.step, LstInv.init, CntSt.init, CntSt.step, CntInv.init, WhlSt.init, WhlSt.step]; done) | (simp [LstSt.init, LstSt.step, LstInv.init, CntSt.init, CntSt.step, CntInv.init, WhlSt.init, WhlSt.step]; omega))⟩, (eqInt hw1), rfl, rfl, trivial⟩, ⟨⟨rfl, rfl, rfl⟩, trivial⟩, trivial⟩
    · have hf1 := x1.fin (show ¬ x1.i < (p0).length by simpa using h2)
      refine And.intro (fun _ => ownSl own_Trail _) ?_
      have hg : impl_allTrails p0 = x1.s := by
        first | rfl | (simp only [impl_allTrails, impl_allTrails_b1, h2, hf1, cond_true, cond_false, Step.fin_stop, Step.fin_done, Fin.get_fin, Fin.get_done, Step.fin_next, Bool.not_true, Bool.not_false, Option.getD_some]; done) | (simp [impl_allTrails, impl_allTrails_b1, h2, hf1, cond_true, cond_false, Step.fin_stop, Step.fin_done, Fin.get_fin, Fin.get_done, Step.fin_next, Bool.not_true, Bool.not_false, Option.getD_some]; done) | (exfalso; simp_all; done)
      exact congrArg (fun g : (List Trail) => AV.one (.s true 4 (List.map (Trail.cells true) g))) hg.symm
theorem allTrails_eq (l : List Stripe) : impl_allTrails l = l.flatMap (fun x => x.L) := by
  unfold impl_allTrails
  rw [app_loop (f := fun x : Stripe => x.L) (b := impl_allTrails_b1) (fun _ s a => by unfold impl_allTrails_b1; rw [copyTrails_id])]
  simp [Fin.get]
def impl_heldThings_b1 (i1 : Nat) (s1 : Int) (a1 : Trail) : Step (Int) Int :=
  (.next (IntKind.i64.wrap (s1 + (((a1.Spans).length : Nat) : Int))))
def impl_heldThings (p0 : World) : Int :=
  (Fin.get (fun s1 => s1) (loopL impl_heldThings_b1 0 0 (impl_allTrails p0.St)))
theorem c_impl_heldThings (p0 : World) (hs : World.bd 1048576 p0) : FnOk prog 84 [.agg ((World.cells false) p0)] ⟨.one (.v (.int .i64 (impl_heldThings p0))), [], [], false⟩ := by
  refine FnOk.intro (E := env) envOk wide func84 rfl (by kernel_rfl) rfl rfl ?_
  refine litE (m := 0) rfl ?_
  refine ⟨_, _, (FnOk.frz1 rfl (frzMap frz_Trail _) (c_impl_allTrails p0.St (by exact hs.2.1))), (FzAs.same _), ?_⟩
  refine litE (m := 2) rfl ?_
  refine lenE (k := ((impl_allTrails p0.St)).length) (by simp) (fun hN1 => ?_)
  refine loop_rule (α := LstSt impl_heldThings_b1 0 (impl_allTrails p0.St)) [8, 9] (fun x1 => [(3, .one (.v (.int .i64 x1.s))), (10, .one (.v (.int .i64 ((x1.i : Nat) : Int))))]) (fun x1 => [.dead, .dead]) (fun x1 => ((impl_allTrails p0.St)).length - x1.i) .init [none, none] ?_ (fun x1 => ?_)
  · exact ⟨rfl, ⟨rfl, rfl, rfl, rfl, trivial⟩, trivial, trivial⟩
  · refine And.intro (fun (h2 : (decide (((x1.i : Nat) : Int) < ((((impl_allTrails p0.St)).length : Nat) : Int))) = true) => ?_) (fun (h2 : (decide (((x1.i : Nat) : Int) < ((((impl_allTrails p0.St)).length : Nat) : Int))) = false) => ?_)
    · have hi1 : x1.i < ((impl_allTrails p0.St)).length := by simpa using h2
      have hw1 : IntKind.i64.wrap ((x1.i : Int) + 1) = ((x1.i + 1 : Nat) : Int) := wrap_succ hi1 (by first | assumption | omega)
      refine And.intro (fun _ => by exact idx_at hi1) (rowAtE (i := x1.i) (l := (impl_allTrails p0.St)) rfl hi1 ?_)
      refine litE (m := 2) rfl ?_
      refine lenE (k := (((impl_allTrails p0.St)[x1.i]'hi1).Spans).length) (by simp) (fun hN3 => ?_)
      refine x1.go hi1 (v := (IntKind.i64.wrap (x1.s + (((((impl_allTrails p0.St)[x1.i]'hi1).Spans).length : Nat) : Int)))) (by first | rfl | (simp only [impl_heldThings_b1, h2, cond_true, cond_false, Bool.not_true, Bool.not_false, Option.getD_some, Step.fin_stop, Step.fin_done, Fin.get_fin, Fin.get_done]; done) | (exfalso; simp_all; done)) [none, none] (by show _ - (x1.i + 1) < _ - x1.i; omega) ?_
      exact ⟨rfl, ⟨rfl, (eqInt hw1), rfl, rfl, trivial⟩, trivial, trivial⟩
    · have hf1 := x1.fin (show ¬ x1.i < ((impl_allTrails p0.St)).length by simpa using h2)
      refine And.intro (fun _ => .v _) ?_
      have hg : impl_heldThings p0 = x1.s := by
        first | rfl | (simp only [impl_heldThings, impl_heldThings_b1, h2, hf1, cond_true, cond_false, Step.fin_stop, Step.fin_done, Fin.get_fin, Fin.get_done, Step.fin_next, Bool.not_true, Bool.not_false, Option.getD_some]; done) | (simp [impl_heldThings, impl_heldThings_b1, h2, hf1, cond_true, cond_false, Step.fin_stop, Step.fin_done, Fin.get_fin, Fin.get_done, Step.fin_next, Bool.not_true, Bool.not_false, Option.getD_some]; done) | (exfalso; simp_all; done)
      exact congrArg (fun g : Int => AV.one (.v (.int .i64 g))) hg.symm
theorem heldThings_eq (w : World) : impl_heldThings w = IntKind.i64.wrap (isum (fun x : Stripe => isum (fun t : Trail => ((t.Spans.length : Nat) : Int)) x.L) w.St) := by
  unfold impl_heldThings
  rw [sum_loop (f := fun t : Trail => ((t.Spans.length : Nat) : Int)) (b := impl_heldThings_b1) _ 0 0 rfl (fun _ _ _ _ _ => rfl), allTrails_eq, isum_flat]
  simp [Fin.get]
def impl_inHand_b1 (i1 : Nat) (s1 : Int) (a1 : Task) : Step (Int) Int :=
  (.next (IntKind.i64.wrap (s1 + (((a1.Hand).length : Nat) : Int))))
def impl_inHand (p0 : World) : Int :=
  (Fin.get (fun s1 => s1) (loopL impl_inHand_b1 0 0 p0.Tasks))
theorem c_impl_inHand (p0 : World) : FnOk prog 83 [.agg ((World.cells false) p0)] ⟨.one (.v (.int .i64 (impl_inHand p0))), [], [], false⟩ := by
  refine FnOk.intro (E := env) envOk wide func83 rfl (by kernel_rfl) rfl rfl ?_
  refine litE (m := 0) rfl ?_
  refine lenE (k := (p0.Tasks).length) (by simp) (fun hN1 => ?_)
  refine loop_rule (α := LstSt impl_inHand_b1 0 p0.Tasks) [7, 8] (fun x1 => [(3, .one (.v (.int .i64 x1.s))), (9, .one (.v (.int .i64 ((x1.i : Nat) : Int))))]) (fun x1 => [.dead]) (fun x1 => (p0.Tasks).length - x1.i) .init [none] ?_ (fun x1 => ?_)
  · exact ⟨rfl, ⟨rfl, rfl, rfl, rfl, trivial⟩, trivial, trivial⟩
  · refine And.intro (fun (h2 : (decide (((x1.i : Nat) : Int) < (((p0.Tasks).length : Nat) : Int))) = true) => ?_) (fun (h2 : (decide (((x1.i : Nat) : Int) < (((p0.Tasks).length : Nat) : Int))) = false) => ?_)
    · have hi1 : x1.i < (p0.Tasks).length := by simpa using h2
      have hw1 : IntKind.i64.wrap ((x1.i : Int) + 1) = ((x1.i + 1 : Nat) : Int) := wrap_succ hi1 (by first | assumption | omega)
      refine And.intro (fun _ => by exact idx_at hi1) (rowAtE (i := x1.i) (l := p0.Tasks) rfl hi1 ?_)
      refine litE (m := 1) rfl ?_
      refine lenE (k := ((p0.Tasks[x1.i]'hi1).Hand).length) (by simp) (fun hN3 => ?_)
      refine x1.go hi1 (v := (IntKind.i64.wrap (x1.s + ((((p0.Tasks[x1.i]'hi1).Hand).length : Nat) : Int)))) (by first | rfl | (simp only [impl_inHand_b1, h2, cond_true, cond_false, Bool.not_true, Bool.not_false, Option.getD_some, Step.fin_stop, Step.fin_done, Fin.get_fin, Fin.get_done]; done) | (exfalso; simp_all; done)) [none] (by show _ - (x1.i + 1) < _ - x1.i; omega) ?_
      exact ⟨rfl, ⟨rfl, (eqInt hw1), rfl, rfl, trivial⟩, trivial, trivial⟩
    · have hf1 := x1.fin (show ¬ x1.i < (p0.Tasks).length by simpa using h2)
      refine And.intro (fun _ => .v _) ?_
      have hg : impl_inHand p0 = x1.s := by
        first | rfl | (simp only [impl_inHand, impl_inHand_b1, h2, hf1, cond_true, cond_false, Step.fin_stop, Step.fin_done, Fin.get_fin, Fin.get_done, Step.fin_next, Bool.not_true, Bool.not_false, Option.getD_some]; done) | (simp [impl_inHand, impl_inHand_b1, h2, hf1, cond_true, cond_false, Step.fin_stop, Step.fin_done, Fin.get_fin, Fin.get_done, Step.fin_next, Bool.not_true, Bool.not_false, Option.getD_some]; done) | (exfalso; simp_all; done)
      exact congrArg (fun g : Int => AV.one (.v (.int .i64 g))) hg.symm
theorem inHand_eq (w : World) : impl_inHand w = IntKind.i64.wrap (isum (fun t : Task => ((t.Hand.length : Nat) : Int)) w.Tasks) := by
  unfold impl_inHand
  rw [sum_loop (f := fun t : Task => ((t.Hand.length : Nat) : Int)) (b := impl_inHand_b1) _ 0 0 rfl (fun _ _ _ _ _ => rfl)]
  simp [Fin.get]
def impl_Busy_b1 (i1 : Nat) (s1 : Int) (a1 : Task) : Step (Int) Int :=
  (bif (a1.Op != 0) then (.next (IntKind.i64.wrap (s1 + 1))) else (.next s1))
def impl_Busy (p0 : World) : Int :=
  (Fin.get (fun s1 => s1) (loopL impl_Busy_b1 0 0 p0.Tasks))
theorem c_impl_Busy (p0 : World) : FnOk prog 104 [.agg ((World.cells false) p0)] ⟨.one (.v (.int .i64 (impl_Busy p0))), [], [], false⟩ := by
  refine FnOk.intro (E := env) envOk wide func104 rfl (by kernel_rfl) rfl rfl ?_
  refine litE (m := 0) rfl ?_
  refine lenE (k := (p0.Tasks).length) (by simp) (fun hN1 => ?_)
  refine loop_rule (α := LstSt impl_Busy_b1 0 p0.Tasks) [7, 8] (fun x1 => [(3, .one (.v (.int .i64 x1.s))), (9, .one (.v (.int .i64 ((x1.i : Nat) : Int))))]) (fun x1 => [.dead]) (fun x1 => (p0.Tasks).length - x1.i) .init [none] ?_ (fun x1 => ?_)
  · exact ⟨rfl, ⟨rfl, rfl, rfl, rfl, trivial⟩, trivial, trivial⟩
  · refine And.intro (fun (h2 : (decide (((x1.i : Nat) : Int) < (((p0.Tasks).length : Nat) : Int))) = true) => ?_) (fun (h2 : (decide (((x1.i : Nat) : Int) < (((p0.Tasks).length : Nat) : Int))) = false) => ?_)
    · have hi1 : x1.i < (p0.Tasks).length := by simpa using h2
      have hw1 : IntKind.i64.wrap ((x1.i : Int) + 1) = ((x1.i + 1 : Nat) : Int) := wrap_succ hi1 (by first | assumption | omega)
      refine And.intro (fun _ => by exact idx_at hi1) (rowAtE (i := x1.i) (l := p0.Tasks) rfl hi1 ?_)
      refine litE (m := 1) rfl ?_
      refine And.intro (fun (h3 : ((p0.Tasks[x1.i]'hi1).Op != 0) = true) => ?_) (fun (h3 : ((p0.Tasks[x1.i]'hi1).Op != 0) = false) => ?_)
      · refine x1.go hi1 (v := (IntKind.i64.wrap (x1.s + 1))) (by first | rfl | (simp only [impl_Busy_b1, h2, h3, cond_true, cond_false, Bool.not_true, Bool.not_false, Option.getD_some, Step.fin_stop, Step.fin_done, Fin.get_fin, Fin.get_done]; done) | (exfalso; simp_all; done)) [none] (by show _ - (x1.i + 1) < _ - x1.i; omega) ?_
        exact ⟨rfl, ⟨rfl, (eqInt hw1), rfl, rfl, trivial⟩, trivial, trivial⟩
      · refine x1.go hi1 (v := x1.s) (by first | rfl | (simp only [impl_Busy_b1, h2, h3, cond_true, cond_false, Bool.not_true, Bool.not_false, Option.getD_some, Step.fin_stop, Step.fin_done, Fin.get_fin, Fin.get_done]; done) | (exfalso; simp_all; done)) [none] (by show _ - (x1.i + 1) < _ - x1.i; omega) ?_
        exact ⟨rfl, ⟨rfl, (eqInt hw1), rfl, rfl, trivial⟩, trivial, trivial⟩
    · have hf1 := x1.fin (show ¬ x1.i < (p0.Tasks).length by simpa using h2)
      refine And.intro (fun _ => .v _) ?_
      have hg : impl_Busy p0 = x1.s := by
        first | rfl | (simp only [impl_Busy, impl_Busy_b1, h2, hf1, cond_true, cond_false, Step.fin_stop, Step.fin_done, Fin.get_fin, Fin.get_done, Step.fin_next, Bool.not_true, Bool.not_false, Option.getD_some]; done) | (simp [impl_Busy, impl_Busy_b1, h2, hf1, cond_true, cond_false, Step.fin_stop, Step.fin_done, Fin.get_fin, Fin.get_done, Step.fin_next, Bool.not_true, Bool.not_false, Option.getD_some]; done) | (exfalso; simp_all; done)
      exact congrArg (fun g : Int => AV.one (.v (.int .i64 g))) hg.symm
def impl_Timers_b2 (i2 : Nat) (s2 : (List Timer)) (a2 : (List Timer)) : Step ((List Timer)) (List Timer) :=
  (.next (s2 ++ a2))
def impl_Timers_b1 (i1 : Nat) (s1 : (List Timer)) (a1 : (List Timer)) : Step ((List Timer)) (List Timer) :=
  (.next (s1 ++ a1))
def impl_Timers (p0 : Wheel) : (List Timer) :=
  (Fin.get (fun s1 => (Fin.get (fun s2 => (s2 ++ p0.Rest)) (loopL impl_Timers_b2 0 s1 p0.Far))) (loopL impl_Timers_b1 0 ([] : List Timer) p0.Near))
theorem c_impl_Timers (p0 : Wheel) (hs : Wheel.bd 1048576 p0) : FnOk prog 105 [.agg ((Wheel.cells false) p0)] ⟨.one (.s true 3 (List.map Timer.cells (impl_Timers p0))), [], [], false⟩ := by
  refine FnOk.intro (E := env) envOk wide func105 rfl (by kernel_rfl) rfl rfl ?_
  refine litE (m := 0) rfl ?_
  refine lenE (k := (p0.Near).length) (by simp) (fun hN1 => ?_)
  refine loop_rule (α := LstInv (fun i s => s.length ≤ 1048576 * i) impl_Timers_b1 ([] : List Timer) p0.Near) [1, 9, 10] (fun x1 => [(3, .one (.n 1 [] 1 0 (x1.s).length)), (11, .one (.v (.int .i64 ((x1.i : Nat) : Int))))]) (fun x1 => [.keep 0, .new ⟨3, false, List.map Timer.cells x1.s, 0⟩]) (fun x1 => (p0.Near).length - x1.i) (.init (by show 0 ≤ _; omega)) [some 0, none] ?_ (fun x1 => ?_)
  · exact ⟨rfl, ⟨⟨rfl, rfl, rfl, rfl, by (first | rfl | (simp; done) | (simp [LstSt.init, LstSt.step, LstInv.init, CntSt.init, CntSt.step, CntInv.init, WhlSt.init, WhlSt.step]; done) | (simp [LstSt.init, LstSt.step, LstInv.init, CntSt.init, CntSt.step, CntInv.init, WhlSt.init, WhlSt.step]; omega))⟩, rfl, ⟨rfl, rfl, rfl, rfl⟩, rfl, rfl, trivial⟩, ⟨⟨rfl, rfl, ⟨rfl, rfl, rfl, rfl, trivial⟩⟩, ⟨rfl, rfl⟩, trivial⟩, trivial⟩
  · have hI1 : List.length x1.s ≤ 1048576 * x1.i := by simpa using x1.hI
    refine And.intro (fun (h2 : (decide (((x1.i : Nat) : Int) < (((p0.Near).length : Nat) : Int))) = true) => ?_) (fun (h2 : (decide (((x1.i : Nat) : Int) < (((p0.Near).length : Nat) : Int))) = false) => ?_)
    · have hi1 : x1.i < (p0.Near).length := by simpa using h2
      have hw1 : IntKind.i64.wrap ((x1.i : Int) + 1) = ((x1.i + 1 : Nat) : Int) := wrap_succ hi1 (by first | assumption | omega)
      refine And.intro (fun _ => by exact idx_at hi1) (rowAtE (i := x1.i) (l := p0.Near) rfl hi1 ?_)
      refine rowsE (Y := List.map Timer.cells (x1.s ++ (p0.Near[x1.i]'hi1))) (by first | rfl | (simp [subR, take_map', drop_map', fz_Timer, fl_Timer, fzMap fz_Timer, flMap fl_Timer]; done) | (simp [subR, take_map', drop_map', fz_Timer, fl_Timer, fzMap fz_Timer, flMap fl_Timer]; rfl)) ?_
      refine And.intro (by have hl := hs.1.1; have hl2 := hs.2.1.1; have hl3 := hs.2.2.1; (try have hq := (hs.1.get hi1).1); (try have hq := (hs.2.1.get hi2).1); (try have hq3 := x2.h); refine ⟨?_, ?_⟩; (show List.length _ * 24 ≤ _); (try simp only [List.length_map, List.length_append, List.length_cons, List.length_nil]); omega; (try simp only [List.length_map, List.length_append, List.length_cons, List.length_nil]); omega) ?_
      refine litE (m := 2) rfl ?_
      refine x1.go' hi1 (v := (x1.s ++ (p0.Near[x1.i]'hi1))) (by first | rfl | (simp only [impl_Timers_b1, h2, cond_true, cond_false, Bool.not_true, Bool.not_false, Option.getD_some, Step.fin_stop, Step.fin_done, Fin.get_fin, Fin.get_done]; done) | (exfalso; simp_all; done)) (by have hq := (hs.1.get hi1).1; show List.length (_ ++ _) ≤ _; rw [List.length_append]; omega) [some 0, some 2] (by show _ - (x1.i + 1) < _ - x1.i; omega) ?_
      exact ⟨rfl, ⟨⟨rfl, rfl, rfl, rfl, by (first | rfl | (simp; done) | (simp [LstSt.init, LstSt.step, LstInv.init, CntSt.init, CntSt.step, CntInv.init, WhlSt.init, WhlSt.step]; done) | (simp [LstSt.init, LstSt.step, LstInv.init, CntSt.init, CntSt.step, CntInv.init, WhlSt.init, WhlSt.step]; omega))⟩, (eqInt hw1), ⟨rfl, rfl, rfl, rfl⟩, rfl, rfl, trivial⟩, ⟨⟨rfl, rfl, ⟨rfl, rfl, rfl, rfl, trivial⟩⟩, ⟨rfl, rfl, rfl⟩, trivial⟩, trivial⟩
    · have hf1 := x1.fin (show ¬ x1.i < (p0.Near).length by simpa using h2)
      refine lenE (k := (p0.Far).length) (by simp) (fun hN3 => ?_)
      refine loop_rule (α := LstInv (fun i s => s.length ≤ 1099511627776 + 1048576 * i) impl_Timers_b2 x1.s p0.Far) [1, 20, 21] (fun x2 => [(3, .one (.n 1 [] 1 0 (x2.s).length)), (22, .one (.v (.int .i64 ((x2.i : Nat) : Int))))]) (fun x2 => [.keep 0, .new ⟨3, false, List.map Timer.cells x2.s, 0⟩]) (fun x2 => (p0.Far).length - x2.i) (.init (by have hq := x1.h; have hq2 := hs.1.1; show List.length x1.s ≤ _; omega)) [some 0, some 1] ?_ (fun x2 => ?_)
      · exact ⟨rfl, ⟨⟨rfl, rfl, rfl, rfl, by (first | rfl | (simp; done) | (simp [LstSt.init, LstSt.step, LstInv.init, CntSt.init, CntSt.step, CntInv.init, WhlSt.init, WhlSt.step]; done) | (simp [LstSt.init, LstSt.step, LstInv.init, CntSt.init, CntSt.step, CntInv.init, WhlSt.init, WhlSt.step]; omega))⟩, rfl, ⟨rfl, rfl, rfl, rfl⟩, rfl, rfl, trivial⟩, ⟨⟨rfl, rfl, ⟨rfl, rfl, rfl, rfl, trivial⟩⟩, ⟨rfl, rfl, rfl⟩, trivial⟩, trivial⟩
      · have hI2 : List.length x2.s ≤ 1099511627776 + 1048576 * x2.i := by simpa using x2.hI
        refine And.intro (fun (h4 : (decide (((x2.i : Nat) : Int) < (((p0.Far).length : Nat) : Int))) = true) => ?_) (fun (h4 : (decide (((x2.i : Nat) : Int) < (((p0.Far).length : Nat) : Int))) = false) => ?_)
        · have hi2 : x2.i < (p0.Far).length := by simpa using h4
          have hw2 : IntKind.i64.wrap ((x2.i : Int) + 1) = ((x2.i + 1 : Nat) : Int) := wrap_succ hi2 (by first | assumption | omega)
          refine And.intro (fun _ => by exact idx_at hi2) (rowAtE (i := x2.i) (l := p0.Far) rfl hi2 ?_)
          refine rowsE (Y := List.map Timer.cells (x2.s ++ (p0.Far[x2.i]'hi2))) (by first | rfl | (simp [subR, take_map', drop_map', fz_Timer, fl_Timer, fzMap fz_Timer, flMap fl_Timer]; done) | (simp [subR, take_map', drop_map', fz_Timer, fl_Timer, fzMap fz_Timer, flMap fl_Timer]; rfl)) ?_
          refine And.intro (by have hl := hs.1.1; have hl2 := hs.2.1.1; have hl3 := hs.2.2.1; (try have hq := (hs.1.get hi1).1); (try have hq := (hs.2.1.get hi2).1); (try have hq3 := x2.h); refine ⟨?_, ?_⟩; (show List.length _ * 24 ≤ _); (try simp only [List.length_map, List.length_append, List.length_cons, List.length_nil]); omega; (try simp only [List.length_map, List.length_append, List.length_cons, List.length_nil]); omega) ?_
          refine litE (m := 2) rfl ?_
          refine x2.go' hi2 (v := (x2.s ++ (p0.Far[x2.i]'hi2))) (by first | rfl | (simp only [impl_Timers_b1, impl_Timers_b2, h2, hf1, h4, cond_true, cond_false, Bool.not_true, Bool.not_false, Option.getD_some, Step.fin_stop, Step.fin_done, Fin.get_fin, Fin.get_done]; done) | (exfalso; simp_all; done)) (by have hq := (hs.2.1.get hi2).1; show List.length (_ ++ _) ≤ _; rw [List.length_append]; omega) [some 0, some 2] (by show _ - (x2.i + 1) < _ - x2.i; omega) ?_
          exact ⟨rfl, ⟨⟨rfl, rfl, rfl, rfl, by (first | rfl | (simp; done) | (simp [LstSt.init, LstSt.step, LstInv.init, CntSt.init, CntSt.step, CntInv.init, WhlSt.init, WhlSt.step]; done) | (simp [LstSt.init, LstSt.step, LstInv.init, CntSt.init, CntSt.step, CntInv.init, WhlSt.init, WhlSt.step]; omega))⟩, (eqInt hw2), ⟨rfl, rfl, rfl, rfl⟩, rfl, rfl, trivial⟩, ⟨⟨rfl, rfl, ⟨rfl, rfl, rfl, rfl, trivial⟩⟩, ⟨rfl, rfl, rfl⟩, trivial⟩, trivial⟩
        · have hf2 := x2.fin (show ¬ x2.i < (p0.Far).length by simpa using h4)
          refine rowsE (Y := List.map Timer.cells (x2.s ++ p0.Rest)) (by first | rfl | (simp [subR, take_map', drop_map', fz_Timer, fl_Timer, fzMap fz_Timer, flMap fl_Timer]; done) | (simp [subR, take_map', drop_map', fz_Timer, fl_Timer, fzMap fz_Timer, flMap fl_Timer]; rfl)) ?_
          refine And.intro (by have hl := hs.1.1; have hl2 := hs.2.1.1; have hl3 := hs.2.2.1; (try have hq := (hs.1.get hi1).1); (try have hq := (hs.2.1.get hi2).1); (try have hq3 := x2.h); refine ⟨?_, ?_⟩; (show List.length _ * 24 ≤ _); (try simp only [List.length_map, List.length_append, List.length_cons, List.length_nil]); omega; (try simp only [List.length_map, List.length_append, List.length_cons, List.length_nil]); omega) ?_
          refine litE (m := 2) rfl ?_
          refine And.intro (fun _ => ownSl own_Timer _) ?_
          have hg : impl_Timers p0 = (x2.s ++ p0.Rest) := by
            first | rfl | (simp only [impl_Timers, impl_Timers_b1, impl_Timers_b2, h2, hf1, h4, hf2, cond_true, cond_false, Step.fin_stop, Step.fin_done, Fin.get_fin, Fin.get_done, Step.fin_next, Bool.not_true, Bool.not_false, Option.getD_some]; done) | (simp [impl_Timers, impl_Timers_b1, impl_Timers_b2, h2, hf1, h4, hf2, cond_true, cond_false, Step.fin_stop, Step.fin_done, Fin.get_fin, Fin.get_done, Step.fin_next, Bool.not_true, Bool.not_false, Option.getD_some]; done) | (exfalso; simp_all; done)
          exact congrArg (fun g : (List Timer) => AV.one (.s true 3 (List.map Timer.cells g))) hg.symm
def impl_Bound (p0 : World) : Int :=
  (IntKind.i64.wrap ((IntKind.i64.wrap (20 + (IntKind.i64.wrap (2 * (IntKind.i64.wrap ((IntKind.i64.wrap ((impl_heldThings p0) + (impl_inHand p0))) + (((p0.Queue).length : Nat) : Int))))))) + (IntKind.i64.wrap (6 * (IntKind.i64.wrap ((IntKind.i64.wrap ((impl_Busy p0) + (((p0.Due).length : Nat) : Int))) + ((((impl_Timers p0.W)).length : Nat) : Int)))))))
theorem c_impl_Bound (p0 : World) (hs : World.bd 1048576 p0) : FnOk prog 27 [.agg ((World.cells false) p0)] ⟨.one (.v (.int .i64 (impl_Bound p0))), [], [], false⟩ := by
  refine FnOk.intro (E := env) envOk wide func27 rfl (by kernel_rfl) rfl rfl ?_
  refine litE (m := 0) rfl ?_
  refine .inr (.inl ⟨25, [(0, true), (1, true), (2, true), (3, true), (4, true), (5, true), (6, true), (7, true), (8, true), (9, true), (10, true), (11, true), (12, true), (13, true), (14, true), (15, true), (16, true), (17, true), (18, true), (19, false), (20, false), (21, false), (22, false), (23, false), (24, false)], by kernel_rfl, ?_⟩)
  refine ⟨_, _, c_impl_heldThings p0 (by first | exact hs | exact hs.2.2.2.1), (FzAs.same _), ?_⟩
  refine ⟨_, _, c_impl_inHand p0, (FzAs.same _), ?_⟩
  refine lenE (k := (p0.Queue).length) (by simp) (fun hN1 => ?_)
  refine ⟨_, _, c_impl_Busy p0, (FzAs.same _), ?_⟩
  refine lenE (k := (p0.Due).length) (by simp) (fun hN2 => ?_)
  refine ⟨_, _, c_impl_Timers p0.W (by first | exact hs | exact hs.2.2.2.1), (FzAs.same _), ?_⟩
  refine litE (m := 2) rfl ?_
  refine lenE (k := ((impl_Timers p0.W)).length) (by simp) (fun hN3 => ?_)
  refine And.intro (fun _ => .v _) ?_
  have hg : impl_Bound p0 = (IntKind.i64.wrap ((IntKind.i64.wrap (20 + (IntKind.i64.wrap (2 * (IntKind.i64.wrap ((IntKind.i64.wrap ((impl_heldThings p0) + (impl_inHand p0))) + (((p0.Queue).length : Nat) : Int))))))) + (IntKind.i64.wrap (6 * (IntKind.i64.wrap ((IntKind.i64.wrap ((impl_Busy p0) + (((p0.Due).length : Nat) : Int))) + ((((impl_Timers p0.W)).length : Nat) : Int))))))) := by
    first | rfl | (simp only [impl_Bound, cond_true, cond_false, Step.fin_stop, Step.fin_done, Fin.get_fin, Fin.get_done, Step.fin_next, Bool.not_true, Bool.not_false, Option.getD_some]; done) | (simp [impl_Bound, cond_true, cond_false, Step.fin_stop, Step.fin_done, Fin.get_fin, Fin.get_done, Step.fin_next, Bool.not_true, Bool.not_false, Option.getD_some]; done) | (exfalso; simp_all; done)
  exact congrArg (fun g : Int => AV.one (.v (.int .i64 g))) hg.symm
def laws_eqPolS_b1 (r0 : (Pol → Pol → Bool)) (p1 : (List Pol)) (i1 : Nat) (s1 : Unit) (a1 : Pol) : Step (Unit) Bool :=
  (bif (!(r0 a1 (p1[i1]?.getD default))) then (.done false) else (.next ()))
def laws_eqPolS (r0 : Pol → Pol → Bool) (p0 : (List Pol)) (p1 : (List Pol)) : Bool :=
  (bif ((((p0).length : Nat) : Int) != (((p1).length : Nat) : Int)) then false else (Fin.get (fun s1 => true) (loopL (laws_eqPolS_b1 r0 p1) 0 () p0)))
theorem c_laws_eqPolS (r0 : Pol → Pol → Bool) (p0 : (List Pol)) (p1 : (List Pol)) (m0 : Nat) (hrec0 : ∀ (z0 : Pol) (z1 : Pol), Pol.dep z0 < m0 → FnOk prog 125 [.agg (Pol.opn false z0), .agg (Pol.opn false z1)] ⟨.one (.v (.bool (r0 z0 z1))), [], [], false⟩) (hm0 : ∀ x ∈ p0, Pol.dep x < m0) : FnOk prog 182 [.one (.s false 5 (List.map (Pol.cells false) p0)), .one (.s false 5 (List.map (Pol.cells false) p1))] ⟨.one (.v (.bool (laws_eqPolS r0 p0 p1))), [], [], false⟩ := by
  refine FnOk.intro (E := env) envOk wide func182 rfl (by kernel_rfl) rfl rfl ?_
  refine lenE (k := (p0).length) (by simp) (fun hN1 => ?_)
  refine lenE (k := (p1).length) (by simp) (fun hN2 => ?_)
  refine And.intro (fun (h3 : ((((p0).length : Nat) : Int) != (((p1).length : Nat) : Int)) = true) => ?_) (fun (h3 : ((((p0).length : Nat) : Int) != (((p1).length : Nat) : Int)) = false) => ?_)
  · refine And.intro (fun _ => .v _) ?_
    have hg : laws_eqPolS r0 p0 p1 = false := by
      first | rfl | (simp only [laws_eqPolS, h3, cond_true, cond_false, Step.fin_stop, Step.fin_done, Fin.get_fin, Fin.get_done, Step.fin_next, Bool.not_true, Bool.not_false, Option.getD_some]; done) | (simp [laws_eqPolS, h3, cond_true, cond_false, Step.fin_stop, Step.fin_done, Fin.get_fin, Fin.get_done, Step.fin_next, Bool.not_true, Bool.not_false, Option.getD_some]; done) | (exfalso; simp_all; done)
    exact congrArg (fun g : Bool => AV.one (.v (.bool g))) hg.symm
  · refine loop_rule (α := LstSt (laws_eqPolS_b1 r0 p1) () p0) [0, 1] (fun x1 => [(5, .one (.v (.int .i64 ((x1.i : Nat) : Int))))]) (fun x1 => []) (fun x1 => (p0).length - x1.i) .init [] ?_ (fun x1 => ?_)
    · exact ⟨rfl, ⟨rfl, rfl, rfl, trivial⟩, trivial, trivial⟩
    · refine lenE (k := (p0).length) (by simp) (fun hN4 => ?_)
      refine And.intro (fun (h5 : (decide (((x1.i : Nat) : Int) < (((p0).length : Nat) : Int))) = true) => ?_) (fun (h5 : (decide (((x1.i : Nat) : Int) < (((p0).length : Nat) : Int))) = false) => ?_)
      · have hi1 : x1.i < (p0).length := by simpa using h5
        have hw1 : IntKind.i64.wrap ((x1.i : Int) + 1) = ((x1.i + 1 : Nat) : Int) := wrap_succ hi1 (by first | assumption | omega)
        refine .inl ⟨by kernel_rfl, ?_⟩
        refine And.intro (fun _ => by (first | omega | (simp; done) | (simp; omega) | (simp at *; omega) | (simp at *; done) | (simp_all; done) | (simp_all; omega))) (rowAtR (Pol.cells_eq false) (i := x1.i) (l := p0) rfl hi1 ?_)
        refine And.intro (fun _ => by (first | omega | (simp; done) | (simp; omega) | (simp at *; omega) | (simp at *; done) | (simp_all; done) | (simp_all; omega))) (rowOfR (Pol.cells_eq false) (i := x1.i) (l := p1) rfl (fun e6 he6 => ?_))
        refine ⟨_, _, hrec0 (p0[x1.i]'hi1) e6 (by first | exact hm0 _ (List.getElem_mem _) | exact hm0 _ (List.mem_of_getElem? (by assumption)) | exact Nat.lt_of_lt_of_le (Pol.dep_lt (List.getElem_mem _)) (Nat.le_of_lt_succ hd0) | exact Nat.lt_of_lt_of_le (Pol.dep_lt (List.mem_of_getElem? (by assumption))) (Nat.le_of_lt_succ hd0)), (FzAs.same _), ?_⟩
        refine And.intro (fun (h7 : (!(r0 (p0[x1.i]'hi1) e6)) = true) => ?_) (fun (h7 : (!(r0 (p0[x1.i]'hi1) e6)) = false) => ?_)
        · have hb1 := x1.out hi1 (by first | rfl | (simp only [laws_eqPolS_b1, h3, h5, he6, h7, cond_true, cond_false, Bool.not_true, Bool.not_false, Option.getD_some, Step.isNext_stop, Step.isNext_done, Step.fin_stop, Step.fin_done, Fin.get_fin, Fin.get_done]; done) | (exfalso; simp_all; done))
          refine And.intro (fun _ => .v _) ?_
          have hg : laws_eqPolS r0 p0 p1 = false := by
            first | rfl | (simp only [laws_eqPolS, laws_eqPolS_b1, h3, h5, he6, h7, hb1, cond_true, cond_false, Step.fin_stop, Step.fin_done, Fin.get_fin, Fin.get_done, Step.fin_next, Bool.not_true, Bool.not_false, Option.getD_some]; done) | (simp [laws_eqPolS, laws_eqPolS_b1, h3, h5, he6, h7, hb1, cond_true, cond_false, Step.fin_stop, Step.fin_done, Fin.get_fin, Fin.get_done, Step.fin_next, Bool.not_true, Bool.not_false, Option.getD_some]; done) | (exfalso; simp_all; done)
          exact congrArg (fun g : Bool => AV.one (.v (.bool g))) hg.symm
        · refine x1.go hi1 (v := ()) (by first | rfl | (simp only [laws_eqPolS_b1, h3, h5, he6, h7, cond_true, cond_false, Bool.not_true, Bool.not_false, Option.getD_some, Step.fin_stop, Step.fin_done, Fin.get_fin, Fin.get_done]; done) | (exfalso; simp_all; done)) [] (by show _ - (x1.i + 1) < _ - x1.i; omega) ?_
          exact ⟨rfl, ⟨(eqInt hw1), rfl, rfl, trivial⟩, trivial, trivial⟩
      · have hf1 := x1.fin (show ¬ x1.i < (p0).length by simpa using h5)
        refine And.intro (fun _ => .v _) ?_
        have hg : laws_eqPolS r0 p0 p1 = true := by
          first | rfl | (simp only [laws_eqPolS, laws_eqPolS_b1, h3, h5, hf1, cond_true, cond_false, Step.fin_stop, Step.fin_done, Fin.get_fin, Fin.get_done, Step.fin_next, Bool.not_true, Bool.not_false, Option.getD_some]; done) | (simp [laws_eqPolS, laws_eqPolS_b1, h3, h5, hf1, cond_true, cond_false, Step.fin_stop, Step.fin_done, Fin.get_fin, Fin.get_done, Step.fin_next, Bool.not_true, Bool.not_false, Option.getD_some]; done) | (exfalso; simp_all; done)
        exact congrArg (fun g : Bool => AV.one (.v (.bool g))) hg.symm
def laws_eqPolR : Nat → Pol → Pol → Bool
  | 0, _, _ => default
  | n + 1, p0, p1 => (bif (p0.Kind != p1.Kind) then false else (bif (p0.N != p1.N) then false else (bif (!decide (p0.Key = p1.Key)) then false else (bif (!decide (p0.Text = p1.Text)) then false else (bif (!(laws_eqPolS (laws_eqPolR n) p0.L p1.L)) then false else true)))))
theorem cR_laws_eqPol : ∀ (n : Nat) (p0 : Pol) (p1 : Pol), Pol.dep p0 < n → FnOk prog 125 [.agg (Pol.opn false p0), .agg (Pol.opn false p1)] ⟨.one (.v (.bool (laws_eqPolR n p0 p1))), [], [], false⟩ := by
  intro n
  induction n with
  | zero => intro p0 p1 hd0; omega
  | succ n ih =>
    intro p0 p1 hd0
    refine FnOk.intro (E := env) envOk wide func125 rfl (by kernel_rfl) rfl rfl ?_
    refine litE (m := 0) rfl ?_
    refine litE (m := 1) rfl ?_
    refine And.intro (fun (h1 : (p0.Kind != p1.Kind) = true) => ?_) (fun (h1 : (p0.Kind != p1.Kind) = false) => ?_)
    · refine And.intro (fun _ => .v _) ?_
      have hg : (laws_eqPolR (n + 1) p0 p1) = false := by
        first | rfl | (simp only [laws_eqPolR, h1, cond_true, cond_false, Step.fin_stop, Step.fin_done, Fin.get_fin, Fin.get_done, Step.fin_next, Bool.not_true, Bool.not_false, Option.getD_some]; done) | (simp [laws_eqPolR, h1, cond_true, cond_false, Step.fin_stop, Step.fin_done, Fin.get_fin, Fin.get_done, Step.fin_next, Bool.not_true, Bool.not_false, Option.getD_some]; done) | (exfalso; simp_all; done)
      exact congrArg (fun g : Bool => AV.one (.v (.bool g))) hg.symm
    · refine And.intro (fun (h2 : (p0.N != p1.N) = true) => ?_) (fun (h2 : (p0.N != p1.N) = false) => ?_)
      · refine And.intro (fun _ => .v _) ?_
        have hg : (laws_eqPolR (n + 1) p0 p1) = false := by
          first | rfl | (simp only [laws_eqPolR, h1, h2, cond_true, cond_false, Step.fin_stop, Step.fin_done, Fin.get_fin, Fin.get_done, Step.fin_next, Bool.not_true, Bool.not_false, Option.getD_some]; done) | (simp [laws_eqPolR, h1, h2, cond_true, cond_false, Step.fin_stop, Step.fin_done, Fin.get_fin, Fin.get_done, Step.fin_next, Bool.not_true, Bool.not_false, Option.getD_some]; done) | (exfalso; simp_all; done)
        exact congrArg (fun g : Bool => AV.one (.v (.bool g))) hg.symm
      · refine And.intro (fun (h3 : (!decide (p0.Key = p1.Key)) = true) => ?_) (fun (h3 : (!decide (p0.Key = p1.Key)) = false) => ?_)
        · refine And.intro (fun _ => .v _) ?_
          have hg : (laws_eqPolR (n + 1) p0 p1) = false := by
            first | rfl | (simp only [laws_eqPolR, h1, h2, h3, cond_true, cond_false, Step.fin_stop, Step.fin_done, Fin.get_fin, Fin.get_done, Step.fin_next, Bool.not_true, Bool.not_false, Option.getD_some]; done) | (simp [laws_eqPolR, h1, h2, h3, cond_true, cond_false, Step.fin_stop, Step.fin_done, Fin.get_fin, Fin.get_done, Step.fin_next, Bool.not_true, Bool.not_false, Option.getD_some]; done) | (exfalso; simp_all; done)
          exact congrArg (fun g : Bool => AV.one (.v (.bool g))) hg.symm
        · refine And.intro (fun (h4 : (!decide (p0.Text = p1.Text)) = true) => ?_) (fun (h4 : (!decide (p0.Text = p1.Text)) = false) => ?_)
          · refine And.intro (fun _ => .v _) ?_
            have hg : (laws_eqPolR (n + 1) p0 p1) = false := by
              first | rfl | (simp only [laws_eqPolR, h1, h2, h3, h4, cond_true, cond_false, Step.fin_stop, Step.fin_done, Fin.get_fin, Fin.get_done, Step.fin_next, Bool.not_true, Bool.not_false, Option.getD_some]; done) | (simp [laws_eqPolR, h1, h2, h3, h4, cond_true, cond_false, Step.fin_stop, Step.fin_done, Fin.get_fin, Fin.get_done, Step.fin_next, Bool.not_true, Bool.not_false, Option.getD_some]; done) | (exfalso; simp_all; done)
            exact congrArg (fun g : Bool => AV.one (.v (.bool g))) hg.symm
          · refine ⟨_, _, c_laws_eqPolS (laws_eqPolR n) p0.L p1.L n ih (by first | exact hm0 | exact fun x hx => Nat.lt_of_lt_of_le (Pol.dep_lt hx) (Nat.le_of_lt_succ hd0)), (FzAs.same _), ?_⟩
            refine litE (m := 3) rfl ?_
            refine And.intro (fun (h5 : (!(laws_eqPolS (laws_eqPolR n) p0.L p1.L)) = true) => ?_) (fun (h5 : (!(laws_eqPolS (laws_eqPolR n) p0.L p1.L)) = false) => ?_)
            · refine And.intro (fun _ => .v _) ?_
              have hg : (laws_eqPolR (n + 1) p0 p1) = false := by
                first | rfl | (simp only [laws_eqPolR, h1, h2, h3, h4, h5, cond_true, cond_false, Step.fin_stop, Step.fin_done, Fin.get_fin, Fin.get_done, Step.fin_next, Bool.not_true, Bool.not_false, Option.getD_some]; done) | (simp [laws_eqPolR, h1, h2, h3, h4, h5, cond_true, cond_false, Step.fin_stop, Step.fin_done, Fin.get_fin, Fin.get_done, Step.fin_next, Bool.not_true, Bool.not_false, Option.getD_some]; done) | (exfalso; simp_all; done)
              exact congrArg (fun g : Bool => AV.one (.v (.bool g))) hg.symm
            · refine And.intro (fun _ => .v _) ?_
              have hg : (laws_eqPolR (n + 1) p0 p1) = true := by
                first | rfl | (simp only [laws_eqPolR, h1, h2, h3, h4, h5, cond_true, cond_false, Step.fin_stop, Step.fin_done, Fin.get_fin, Fin.get_done, Step.fin_next, Bool.not_true, Bool.not_false, Option.getD_some]; done) | (simp [laws_eqPolR, h1, h2, h3, h4, h5, cond_true, cond_false, Step.fin_stop, Step.fin_done, Fin.get_fin, Fin.get_done, Step.fin_next, Bool.not_true, Bool.not_false, Option.getD_some]; done) | (exfalso; simp_all; done)
              exact congrArg (fun g : Bool => AV.one (.v (.bool g))) hg.symm
def laws_eqPol (p0 : Pol) (p1 : Pol) : Bool := laws_eqPolR (Pol.dep p0 + 1) p0 p1
theorem c_laws_eqPol (p0 : Pol) (p1 : Pol) : FnOk prog 125 [.agg (Pol.opn false p0), .agg (Pol.opn false p1)] ⟨.one (.v (.bool (laws_eqPol p0 p1))), [], [], false⟩ := cR_laws_eqPol _ p0 p1 (Nat.lt_succ_self _)
theorem rfR_laws_eqPol : ∀ (n : Nat) (x : Pol), Pol.dep x < n → laws_eqPolR n x x = true := by
  intro n
  induction n with
  | zero => intro x h; omega
  | succ n ih =>
    intro x h
    have e : laws_eqPolS (laws_eqPolR n) x.L x.L = true := eqS_okM (b := laws_eqPolS_b1 (laws_eqPolR n)) x.L (fun a ha => ih a (Nat.lt_of_lt_of_le (Pol.dep_lt ha) (Nat.le_of_lt_succ h))) (fun _ _ _ _ => rfl) (fun _ _ => rfl)
    simp [laws_eqPolR, e]
theorem rf_laws_eqPol (x : Pol) : laws_eqPol x x = true := rfR_laws_eqPol _ x (Nat.lt_succ_self _)
def laws_eqConf (p0 : Conf) (p1 : Conf) : Bool :=
  (bif (p0.Stripes != p1.Stripes) then false else (bif (p0.Wait != p1.Wait) then false else (bif (p0.Budget != p1.Budget) then false else (bif (p0.Cache != p1.Cache) then false else (bif (p0.Queue != p1.Queue) then false else (bif (p0.Rate != p1.Rate) then false else (bif (p0.Burst != p1.Burst) then false else (bif (!(laws_eqPol p0.Rule p1.Rule)) then false else true))))))))
theorem c_laws_eqConf (p0 : Conf) (p1 : Conf) : FnOk prog 53 [.agg ((Conf.cells false) p0), .agg ((Conf.cells false) p1)] ⟨.one (.v (.bool (laws_eqConf p0 p1))), [], [], false⟩ := by
  refine FnOk.intro (E := env) envOk wide func53 rfl (by kernel_rfl) rfl rfl ?_
  refine litE (m := 0) rfl ?_
  refine litE (m := 1) rfl ?_
  refine And.intro (fun (h1 : (p0.Stripes != p1.Stripes) = true) => ?_) (fun (h1 : (p0.Stripes != p1.Stripes) = false) => ?_)
  · refine And.intro (fun _ => .v _) ?_
    have hg : laws_eqConf p0 p1 = false := by
      first | rfl | (simp only [laws_eqConf, h1, cond_true, cond_false, Step.fin_stop, Step.fin_done, Fin.get_fin, Fin.get_done, Step.fin_next, Bool.not_true, Bool.not_false, Option.getD_some]; done) | (simp [laws_eqConf, h1, cond_true, cond_false, Step.fin_stop, Step.fin_done, Fin.get_fin, Fin.get_done, Step.fin_next, Bool.not_true, Bool.not_false, Option.getD_some]; done) | (exfalso; simp_all; done)
    exact congrArg (fun g : Bool => AV.one (.v (.bool g))) hg.symm
  · refine And.intro (fun (h2 : (p0.Wait != p1.Wait) = true) => ?_) (fun (h2 : (p0.Wait != p1.Wait) = false) => ?_)
    · refine And.intro (fun _ => .v _) ?_
      have hg : laws_eqConf p0 p1 = false := by
        first | rfl | (simp only [laws_eqConf, h1, h2, cond_true, cond_false, Step.fin_stop, Step.fin_done, Fin.get_fin, Fin.get_done, Step.fin_next, Bool.not_true, Bool.not_false, Option.getD_some]; done) | (simp [laws_eqConf, h1, h2, cond_true, cond_false, Step.fin_stop, Step.fin_done, Fin.get_fin, Fin.get_done, Step.fin_next, Bool.not_true, Bool.not_false, Option.getD_some]; done) | (exfalso; simp_all; done)
      exact congrArg (fun g : Bool => AV.one (.v (.bool g))) hg.symm
    · refine And.intro (fun (h3 : (p0.Budget != p1.Budget) = true) => ?_) (fun (h3 : (p0.Budget != p1.Budget) = false) => ?_)
      · refine And.intro (fun _ => .v _) ?_
        have hg : laws_eqConf p0 p1 = false := by
          first | rfl | (simp only [laws_eqConf, h1, h2, h3, cond_true, cond_false, Step.fin_stop, Step.fin_done, Fin.get_fin, Fin.get_done, Step.fin_next, Bool.not_true, Bool.not_false, Option.getD_some]; done) | (simp [laws_eqConf, h1, h2, h3, cond_true, cond_false, Step.fin_stop, Step.fin_done, Fin.get_fin, Fin.get_done, Step.fin_next, Bool.not_true, Bool.not_false, Option.getD_some]; done) | (exfalso; simp_all; done)
        exact congrArg (fun g : Bool => AV.one (.v (.bool g))) hg.symm
      · refine And.intro (fun (h4 : (p0.Cache != p1.Cache) = true) => ?_) (fun (h4 : (p0.Cache != p1.Cache) = false) => ?_)
        · refine And.intro (fun _ => .v _) ?_
          have hg : laws_eqConf p0 p1 = false := by
            first | rfl | (simp only [laws_eqConf, h1, h2, h3, h4, cond_true, cond_false, Step.fin_stop, Step.fin_done, Fin.get_fin, Fin.get_done, Step.fin_next, Bool.not_true, Bool.not_false, Option.getD_some]; done) | (simp [laws_eqConf, h1, h2, h3, h4, cond_true, cond_false, Step.fin_stop, Step.fin_done, Fin.get_fin, Fin.get_done, Step.fin_next, Bool.not_true, Bool.not_false, Option.getD_some]; done) | (exfalso; simp_all; done)
          exact congrArg (fun g : Bool => AV.one (.v (.bool g))) hg.symm
        · refine And.intro (fun (h5 : (p0.Queue != p1.Queue) = true) => ?_) (fun (h5 : (p0.Queue != p1.Queue) = false) => ?_)
          · refine And.intro (fun _ => .v _) ?_
            have hg : laws_eqConf p0 p1 = false := by
              first | rfl | (simp only [laws_eqConf, h1, h2, h3, h4, h5, cond_true, cond_false, Step.fin_stop, Step.fin_done, Fin.get_fin, Fin.get_done, Step.fin_next, Bool.not_true, Bool.not_false, Option.getD_some]; done) | (simp [laws_eqConf, h1, h2, h3, h4, h5, cond_true, cond_false, Step.fin_stop, Step.fin_done, Fin.get_fin, Fin.get_done, Step.fin_next, Bool.not_true, Bool.not_false, Option.getD_some]; done) | (exfalso; simp_all; done)
            exact congrArg (fun g : Bool => AV.one (.v (.bool g))) hg.symm
          · refine And.intro (fun (h6 : (p0.Rate != p1.Rate) = true) => ?_) (fun (h6 : (p0.Rate != p1.Rate) = false) => ?_)
            · refine And.intro (fun _ => .v _) ?_
              have hg : laws_eqConf p0 p1 = false := by
                first | rfl | (simp only [laws_eqConf, h1, h2, h3, h4, h5, h6, cond_true, cond_false, Step.fin_stop, Step.fin_done, Fin.get_fin, Fin.get_done, Step.fin_next, Bool.not_true, Bool.not_false, Option.getD_some]; done) | (simp [laws_eqConf, h1, h2, h3, h4, h5, h6, cond_true, cond_false, Step.fin_stop, Step.fin_done, Fin.get_fin, Fin.get_done, Step.fin_next, Bool.not_true, Bool.not_false, Option.getD_some]; done) | (exfalso; simp_all; done)
              exact congrArg (fun g : Bool => AV.one (.v (.bool g))) hg.symm
            · refine And.intro (fun (h7 : (p0.Burst != p1.Burst) = true) => ?_) (fun (h7 : (p0.Burst != p1.Burst) = false) => ?_)
              · refine And.intro (fun _ => .v _) ?_
                have hg : laws_eqConf p0 p1 = false := by
                  first | rfl | (simp only [laws_eqConf, h1, h2, h3, h4, h5, h6, h7, cond_true, cond_false, Step.fin_stop, Step.fin_done, Fin.get_fin, Fin.get_done, Step.fin_next, Bool.not_true, Bool.not_false, Option.getD_some]; done) | (simp [laws_eqConf, h1, h2, h3, h4, h5, h6, h7, cond_true, cond_false, Step.fin_stop, Step.fin_done, Fin.get_fin, Fin.get_done, Step.fin_next, Bool.not_true, Bool.not_false, Option.getD_some]; done) | (exfalso; simp_all; done)
                exact congrArg (fun g : Bool => AV.one (.v (.bool g))) hg.symm
              · refine ⟨_, _, c_laws_eqPol p0.Rule p1.Rule, (FzAs.same _), ?_⟩
                refine litE (m := 3) rfl ?_
                refine And.intro (fun (h8 : (!(laws_eqPol p0.Rule p1.Rule)) = true) => ?_) (fun (h8 : (!(laws_eqPol p0.Rule p1.Rule)) = false) => ?_)
                · refine And.intro (fun _ => .v _) ?_
                  have hg : laws_eqConf p0 p1 = false := by
                    first | rfl | (simp only [laws_eqConf, h1, h2, h3, h4, h5, h6, h7, h8, cond_true, cond_false, Step.fin_stop, Step.fin_done, Fin.get_fin, Fin.get_done, Step.fin_next, Bool.not_true, Bool.not_false, Option.getD_some]; done) | (simp [laws_eqConf, h1, h2, h3, h4, h5, h6, h7, h8, cond_true, cond_false, Step.fin_stop, Step.fin_done, Fin.get_fin, Fin.get_done, Step.fin_next, Bool.not_true, Bool.not_false, Option.getD_some]; done) | (exfalso; simp_all; done)
                  exact congrArg (fun g : Bool => AV.one (.v (.bool g))) hg.symm
                · refine And.intro (fun _ => .v _) ?_
                  have hg : laws_eqConf p0 p1 = true := by
                    first | rfl | (simp only [laws_eqConf, h1, h2, h3, h4, h5, h6, h7, h8, cond_true, cond_false, Step.fin_stop, Step.fin_done, Fin.get_fin, Fin.get_done, Step.fin_next, Bool.not_true, Bool.not_false, Option.getD_some]; done) | (simp [laws_eqConf, h1, h2, h3, h4, h5, h6, h7, h8, cond_true, cond_false, Step.fin_stop, Step.fin_done, Fin.get_fin, Fin.get_done, Step.fin_next, Bool.not_true, Bool.not_false, Option.getD_some]; done) | (exfalso; simp_all; done)
                  exact congrArg (fun g : Bool => AV.one (.v (.bool g))) hg.symm
theorem rf_laws_eqConf (x : Conf) : laws_eqConf x x = true := by
  simp [laws_eqConf, rf_laws_eqPol]
def laws_eqAttr (p0 : Attr) (p1 : Attr) : Bool :=
  (bif (!decide (p0.Key = p1.Key)) then false else (bif (!(p0.Num == p1.Num)) then false else (bif (p0.N != p1.N) then false else (bif (!decide (p0.Text = p1.Text)) then false else true))))
theorem c_laws_eqAttr (p0 : Attr) (p1 : Attr) : FnOk prog 205 [.agg (Attr.cells p0), .agg (Attr.cells p1)] ⟨.one (.v (.bool (laws_eqAttr p0 p1))), [], [], false⟩ := by
  refine FnOk.intro (E := env) envOk wide func205 rfl (by kernel_rfl) rfl rfl ?_
  refine litE (m := 0) rfl ?_
  refine litE (m := 1) rfl ?_
  refine And.intro (fun (h1 : (!decide (p0.Key = p1.Key)) = true) => ?_) (fun (h1 : (!decide (p0.Key = p1.Key)) = false) => ?_)
  · refine And.intro (fun _ => .v _) ?_
    have hg : laws_eqAttr p0 p1 = false := by
      first | rfl | (simp only [laws_eqAttr, h1, cond_true, cond_false, Step.fin_stop, Step.fin_done, Fin.get_fin, Fin.get_done, Step.fin_next, Bool.not_true, Bool.not_false, Option.getD_some]; done) | (simp [laws_eqAttr, h1, cond_true, cond_false, Step.fin_stop, Step.fin_done, Fin.get_fin, Fin.get_done, Step.fin_next, Bool.not_true, Bool.not_false, Option.getD_some]; done) | (exfalso; simp_all; done)
    exact congrArg (fun g : Bool => AV.one (.v (.bool g))) hg.symm
  · refine And.intro (fun (h2 : (!(p0.Num == p1.Num)) = true) => ?_) (fun (h2 : (!(p0.Num == p1.Num)) = false) => ?_)
    · refine And.intro (fun _ => .v _) ?_
      have hg : laws_eqAttr p0 p1 = false := by
        first | rfl | (simp only [laws_eqAttr, h1, h2, cond_true, cond_false, Step.fin_stop, Step.fin_done, Fin.get_fin, Fin.get_done, Step.fin_next, Bool.not_true, Bool.not_false, Option.getD_some]; done) | (simp [laws_eqAttr, h1, h2, cond_true, cond_false, Step.fin_stop, Step.fin_done, Fin.get_fin, Fin.get_done, Step.fin_next, Bool.not_true, Bool.not_false, Option.getD_some]; done) | (exfalso; simp_all; done)
      exact congrArg (fun g : Bool => AV.one (.v (.bool g))) hg.symm
    · refine And.intro (fun (h3 : (p0.N != p1.N) = true) => ?_) (fun (h3 : (p0.N != p1.N) = false) => ?_)
      · refine And.intro (fun _ => .v _) ?_
        have hg : laws_eqAttr p0 p1 = false := by
          first | rfl | (simp only [laws_eqAttr, h1, h2, h3, cond_true, cond_false, Step.fin_stop, Step.fin_done, Fin.get_fin, Fin.get_done, Step.fin_next, Bool.not_true, Bool.not_false, Option.getD_some]; done) | (simp [laws_eqAttr, h1, h2, h3, cond_true, cond_false, Step.fin_stop, Step.fin_done, Fin.get_fin, Fin.get_done, Step.fin_next, Bool.not_true, Bool.not_false, Option.getD_some]; done) | (exfalso; simp_all; done)
        exact congrArg (fun g : Bool => AV.one (.v (.bool g))) hg.symm
      · refine And.intro (fun (h4 : (!decide (p0.Text = p1.Text)) = true) => ?_) (fun (h4 : (!decide (p0.Text = p1.Text)) = false) => ?_)
        · refine And.intro (fun _ => .v _) ?_
          have hg : laws_eqAttr p0 p1 = false := by
            first | rfl | (simp only [laws_eqAttr, h1, h2, h3, h4, cond_true, cond_false, Step.fin_stop, Step.fin_done, Fin.get_fin, Fin.get_done, Step.fin_next, Bool.not_true, Bool.not_false, Option.getD_some]; done) | (simp [laws_eqAttr, h1, h2, h3, h4, cond_true, cond_false, Step.fin_stop, Step.fin_done, Fin.get_fin, Fin.get_done, Step.fin_next, Bool.not_true, Bool.not_false, Option.getD_some]; done) | (exfalso; simp_all; done)
          exact congrArg (fun g : Bool => AV.one (.v (.bool g))) hg.symm
        · refine And.intro (fun _ => .v _) ?_
          have hg : laws_eqAttr p0 p1 = true := by
            first | rfl | (simp only [laws_eqAttr, h1, h2, h3, h4, cond_true, cond_false, Step.fin_stop, Step.fin_done, Fin.get_fin, Fin.get_done, Step.fin_next, Bool.not_true, Bool.not_false, Option.getD_some]; done) | (simp [laws_eqAttr, h1, h2, h3, h4, cond_true, cond_false, Step.fin_stop, Step.fin_done, Fin.get_fin, Fin.get_done, Step.fin_next, Bool.not_true, Bool.not_false, Option.getD_some]; done) | (exfalso; simp_all; done)
          exact congrArg (fun g : Bool => AV.one (.v (.bool g))) hg.symm
theorem rf_laws_eqAttr (x : Attr) : laws_eqAttr x x = true := by
  simp [laws_eqAttr]
def laws_eqAttrS_b1 (p1 : (List Attr)) (i1 : Nat) (s1 : Unit) (a1 : Attr) : Step (Unit) Bool :=
  (bif (!(laws_eqAttr a1 (p1[i1]?.getD default))) then (.done false) else (.next ()))
def laws_eqAttrS (p0 : (List Attr)) (p1 : (List Attr)) : Bool :=
  (bif ((((p0).length : Nat) : Int) != (((p1).length : Nat) : Int)) then false else (Fin.get (fun s1 => true) (loopL (laws_eqAttrS_b1 p1) 0 () p0)))
theorem c_laws_eqAttrS (p0 : (List Attr)) (p1 : (List Attr)) : FnOk prog 175 [.one (.s false 4 (List.map Attr.cells p0)), .one (.s false 4 (List.map Attr.cells p1))] ⟨.one (.v (.bool (laws_eqAttrS p0 p1))), [], [], false⟩ := by
  refine FnOk.intro (E := env) envOk wide func175 rfl (by kernel_rfl) rfl rfl ?_
  refine lenE (k := (p0).length) (by simp) (fun hN1 => ?_)
  refine lenE (k := (p1).length) (by simp) (fun hN2 => ?_)
  refine And.intro (fun (h3 : ((((p0).length : Nat) : Int) != (((p1).length : Nat) : Int)) = true) => ?_) (fun (h3 : ((((p0).length : Nat) : Int) != (((p1).length : Nat) : Int)) = false) => ?_)
  · refine And.intro (fun _ => .v _) ?_
    have hg : laws_eqAttrS p0 p1 = false := by
      first | rfl | (simp only [laws_eqAttrS, h3, cond_true, cond_false, Step.fin_stop, Step.fin_done, Fin.get_fin, Fin.get_done, Step.fin_next, Bool.not_true, Bool.not_false, Option.getD_some]; done) | (simp [laws_eqAttrS, h3, cond_true, cond_false, Step.fin_stop, Step.fin_done, Fin.get_fin, Fin.get_done, Step.fin_next, Bool.not_true, Bool.not_false, Option.getD_some]; done) | (exfalso; simp_all; done)
    exact congrArg (fun g : Bool => AV.one (.v (.bool g))) hg.symm
  · refine loop_rule (α := LstSt (laws_eqAttrS_b1 p1) () p0) [0, 1] (fun x1 => [(5, .one (.v (.int .i64 ((x1.i : Nat) : Int))))]) (fun x1 => []) (fun x1 => (p0).length - x1.i) .init [] ?_ (fun x1 => ?_)
    · exact ⟨rfl, ⟨rfl, rfl, rfl, trivial⟩, trivial, trivial⟩
    · refine lenE (k := (p0).length) (by simp) (fun hN4 => ?_)
      refine And.intro (fun (h5 : (decide (((x1.i : Nat) : Int) < (((p0).length : Nat) : Int))) = true) => ?_) (fun (h5 : (decide (((x1.i : Nat) : Int) < (((p0).length : Nat) : Int))) = false) => ?_)
      · have hi1 : x1.i < (p0).length := by simpa using h5
        have hw1 : IntKind.i64.wrap ((x1.i : Int) + 1) = ((x1.i + 1 : Nat) : Int) := wrap_succ hi1 (by first | assumption | omega)
        refine .inl ⟨by kernel_rfl, ?_⟩
        refine And.intro (fun _ => by exact idx_at hi1) (rowAtE (i := x1.i) (l := p0) rfl hi1 ?_)
        refine And.intro (fun _ => by (first | omega | (simp; done) | (simp; omega) | (simp at *; omega) | (simp at *; done) | (simp_all; done) | (simp_all; omega))) (rowOfE (i := x1.i) (l := p1) rfl (fun e6 he6 => ?_))
        refine ⟨_, _, c_laws_eqAttr (p0[x1.i]'hi1) e6, (FzAs.same _), ?_⟩
        refine And.intro (fun (h7 : (!(laws_eqAttr (p0[x1.i]'hi1) e6)) = true) => ?_) (fun (h7 : (!(laws_eqAttr (p0[x1.i]'hi1) e6)) = false) => ?_)
        · have hb1 := x1.out hi1 (by first | rfl | (simp only [laws_eqAttrS_b1, h3, h5, he6, h7, cond_true, cond_false, Bool.not_true, Bool.not_false, Option.getD_some, Step.isNext_stop, Step.isNext_done, Step.fin_stop, Step.fin_done, Fin.get_fin, Fin.get_done]; done) | (exfalso; simp_all; done))
          refine And.intro (fun _ => .v _) ?_
          have hg : laws_eqAttrS p0 p1 = false := by
            first | rfl | (simp only [laws_eqAttrS, laws_eqAttrS_b1, h3, h5, he6, h7, hb1, cond_true, cond_false, Step.fin_stop, Step.fin_done, Fin.get_fin, Fin.get_done, Step.fin_next, Bool.not_true, Bool.not_false, Option.getD_some]; done) | (simp [laws_eqAttrS, laws_eqAttrS_b1, h3, h5, he6, h7, hb1, cond_true, cond_false, Step.fin_stop, Step.fin_done, Fin.get_fin, Fin.get_done, Step.fin_next, Bool.not_true, Bool.not_false, Option.getD_some]; done) | (exfalso; simp_all; done)
          exact congrArg (fun g : Bool => AV.one (.v (.bool g))) hg.symm
        · refine x1.go hi1 (v := ()) (by first | rfl | (simp only [laws_eqAttrS_b1, h3, h5, he6, h7, cond_true, cond_false, Bool.not_true, Bool.not_false, Option.getD_some, Step.fin_stop, Step.fin_done, Fin.get_fin, Fin.get_done]; done) | (exfalso; simp_all; done)) [] (by show _ - (x1.i + 1) < _ - x1.i; omega) ?_
          exact ⟨rfl, ⟨(eqInt hw1), rfl, rfl, trivial⟩, trivial, trivial⟩
      · have hf1 := x1.fin (show ¬ x1.i < (p0).length by simpa using h5)
        refine And.intro (fun _ => .v _) ?_
        have hg : laws_eqAttrS p0 p1 = true := by
          first | rfl | (simp only [laws_eqAttrS, laws_eqAttrS_b1, h3, h5, hf1, cond_true, cond_false, Step.fin_stop, Step.fin_done, Fin.get_fin, Fin.get_done, Step.fin_next, Bool.not_true, Bool.not_false, Option.getD_some]; done) | (simp [laws_eqAttrS, laws_eqAttrS_b1, h3, h5, hf1, cond_true, cond_false, Step.fin_stop, Step.fin_done, Fin.get_fin, Fin.get_done, Step.fin_next, Bool.not_true, Bool.not_false, Option.getD_some]; done) | (exfalso; simp_all; done)
        exact congrArg (fun g : Bool => AV.one (.v (.bool g))) hg.symm
theorem rf_laws_eqAttrS (x : (List Attr)) : laws_eqAttrS x x = true := eqS_ok (b := laws_eqAttrS_b1) rf_laws_eqAttr (fun _ _ _ _ => rfl) (fun _ _ => rfl) x
def laws_eqSpan (p0 : Span) (p1 : Span) : Bool :=
  (bif (p0.Trace != p1.Trace) then false else (bif (p0.Id != p1.Id) then false else (bif (p0.Start != p1.Start) then false else (bif (p0.End != p1.End) then false else (bif (!(p0.Err == p1.Err)) then false else (bif (!(laws_eqAttrS p0.Attrs p1.Attrs)) then false else true))))))
theorem c_laws_eqSpan (p0 : Span) (p1 : Span) : FnOk prog 115 [.agg ((Span.cells false) p0), .agg ((Span.cells false) p1)] ⟨.one (.v (.bool (laws_eqSpan p0 p1))), [], [], false⟩ := by
  refine FnOk.intro (E := env) envOk wide func115 rfl (by kernel_rfl) rfl rfl ?_
  refine litE (m := 0) rfl ?_
  refine litE (m := 1) rfl ?_
  refine And.intro (fun (h1 : (p0.Trace != p1.Trace) = true) => ?_) (fun (h1 : (p0.Trace != p1.Trace) = false) => ?_)
  · refine And.intro (fun _ => .v _) ?_
    have hg : laws_eqSpan p0 p1 = false := by
      first | rfl | (simp only [laws_eqSpan, h1, cond_true, cond_false, Step.fin_stop, Step.fin_done, Fin.get_fin, Fin.get_done, Step.fin_next, Bool.not_true, Bool.not_false, Option.getD_some]; done) | (simp [laws_eqSpan, h1, cond_true, cond_false, Step.fin_stop, Step.fin_done, Fin.get_fin, Fin.get_done, Step.fin_next, Bool.not_true, Bool.not_false, Option.getD_some]; done) | (exfalso; simp_all; done)
    exact congrArg (fun g : Bool => AV.one (.v (.bool g))) hg.symm
  · refine And.intro (fun (h2 : (p0.Id != p1.Id) = true) => ?_) (fun (h2 : (p0.Id != p1.Id) = false) => ?_)
    · refine And.intro (fun _ => .v _) ?_
      have hg : laws_eqSpan p0 p1 = false := by
        first | rfl | (simp only [laws_eqSpan, h1, h2, cond_true, cond_false, Step.fin_stop, Step.fin_done, Fin.get_fin, Fin.get_done, Step.fin_next, Bool.not_true, Bool.not_false, Option.getD_some]; done) | (simp [laws_eqSpan, h1, h2, cond_true, cond_false, Step.fin_stop, Step.fin_done, Fin.get_fin, Fin.get_done, Step.fin_next, Bool.not_true, Bool.not_false, Option.getD_some]; done) | (exfalso; simp_all; done)
      exact congrArg (fun g : Bool => AV.one (.v (.bool g))) hg.symm
    · refine And.intro (fun (h3 : (p0.Start != p1.Start) = true) => ?_) (fun (h3 : (p0.Start != p1.Start) = false) => ?_)
      · refine And.intro (fun _ => .v _) ?_
        have hg : laws_eqSpan p0 p1 = false := by
          first | rfl | (simp only [laws_eqSpan, h1, h2, h3, cond_true, cond_false, Step.fin_stop, Step.fin_done, Fin.get_fin, Fin.get_done, Step.fin_next, Bool.not_true, Bool.not_false, Option.getD_some]; done) | (simp [laws_eqSpan, h1, h2, h3, cond_true, cond_false, Step.fin_stop, Step.fin_done, Fin.get_fin, Fin.get_done, Step.fin_next, Bool.not_true, Bool.not_false, Option.getD_some]; done) | (exfalso; simp_all; done)
        exact congrArg (fun g : Bool => AV.one (.v (.bool g))) hg.symm
      · refine And.intro (fun (h4 : (p0.End != p1.End) = true) => ?_) (fun (h4 : (p0.End != p1.End) = false) => ?_)
        · refine And.intro (fun _ => .v _) ?_
          have hg : laws_eqSpan p0 p1 = false := by
            first | rfl | (simp only [laws_eqSpan, h1, h2, h3, h4, cond_true, cond_false, Step.fin_stop, Step.fin_done, Fin.get_fin, Fin.get_done, Step.fin_next, Bool.not_true, Bool.not_false, Option.getD_some]; done) | (simp [laws_eqSpan, h1, h2, h3, h4, cond_true, cond_false, Step.fin_stop, Step.fin_done, Fin.get_fin, Fin.get_done, Step.fin_next, Bool.not_true, Bool.not_false, Option.getD_some]; done) | (exfalso; simp_all; done)
          exact congrArg (fun g : Bool => AV.one (.v (.bool g))) hg.symm
        · refine And.intro (fun (h5 : (!(p0.Err == p1.Err)) = true) => ?_) (fun (h5 : (!(p0.Err == p1.Err)) = false) => ?_)
          · refine And.intro (fun _ => .v _) ?_
            have hg : laws_eqSpan p0 p1 = false := by
              first | rfl | (simp only [laws_eqSpan, h1, h2, h3, h4, h5, cond_true, cond_false, Step.fin_stop, Step.fin_done, Fin.get_fin, Fin.get_done, Step.fin_next, Bool.not_true, Bool.not_false, Option.getD_some]; done) | (simp [laws_eqSpan, h1, h2, h3, h4, h5, cond_true, cond_false, Step.fin_stop, Step.fin_done, Fin.get_fin, Fin.get_done, Step.fin_next, Bool.not_true, Bool.not_false, Option.getD_some]; done) | (exfalso; simp_all; done)
            exact congrArg (fun g : Bool => AV.one (.v (.bool g))) hg.symm
          · refine ⟨_, _, c_laws_eqAttrS p0.Attrs p1.Attrs, (FzAs.same _), ?_⟩
            refine litE (m := 3) rfl ?_
            refine And.intro (fun (h6 : (!(laws_eqAttrS p0.Attrs p1.Attrs)) = true) => ?_) (fun (h6 : (!(laws_eqAttrS p0.Attrs p1.Attrs)) = false) => ?_)
            · refine And.intro (fun _ => .v _) ?_
              have hg : laws_eqSpan p0 p1 = false := by
                first | rfl | (simp only [laws_eqSpan, h1, h2, h3, h4, h5, h6, cond_true, cond_false, Step.fin_stop, Step.fin_done, Fin.get_fin, Fin.get_done, Step.fin_next, Bool.not_true, Bool.not_false, Option.getD_some]; done) | (simp [laws_eqSpan, h1, h2, h3, h4, h5, h6, cond_true, cond_false, Step.fin_stop, Step.fin_done, Fin.get_fin, Fin.get_done, Step.fin_next, Bool.not_true, Bool.not_false, Option.getD_some]; done) | (exfalso; simp_all; done)
              exact congrArg (fun g : Bool => AV.one (.v (.bool g))) hg.symm
            · refine And.intro (fun _ => .v _) ?_
              have hg : laws_eqSpan p0 p1 = true := by
                first | rfl | (simp only [laws_eqSpan, h1, h2, h3, h4, h5, h6, cond_true, cond_false, Step.fin_stop, Step.fin_done, Fin.get_fin, Fin.get_done, Step.fin_next, Bool.not_true, Bool.not_false, Option.getD_some]; done) | (simp [laws_eqSpan, h1, h2, h3, h4, h5, h6, cond_true, cond_false, Step.fin_stop, Step.fin_done, Fin.get_fin, Fin.get_done, Step.fin_next, Bool.not_true, Bool.not_false, Option.getD_some]; done) | (exfalso; simp_all; done)
              exact congrArg (fun g : Bool => AV.one (.v (.bool g))) hg.symm
theorem rf_laws_eqSpan (x : Span) : laws_eqSpan x x = true := by
  simp [laws_eqSpan, rf_laws_eqAttrS]
def laws_eqSpanS_b1 (p1 : (List Span)) (i1 : Nat) (s1 : Unit) (a1 : Span) : Step (Unit) Bool :=
  (bif (!(laws_eqSpan a1 (p1[i1]?.getD default))) then (.done false) else (.next ()))
def laws_eqSpanS (p0 : (List Span)) (p1 : (List Span)) : Bool :=
  (bif ((((p0).length : Nat) : Int) != (((p1).length : Nat) : Int)) then false else (Fin.get (fun s1 => true) (loopL (laws_eqSpanS_b1 p1) 0 () p0)))
theorem c_laws_eqSpanS (p0 : (List Span)) (p1 : (List Span)) : FnOk prog 44 [.one (.s false 6 (List.map (Span.cells false) p0)), .one (.s false 6 (List.map (Span.cells false) p1))] ⟨.one (.v (.bool (laws_eqSpanS p0 p1))), [], [], false⟩ := by
  refine FnOk.intro (E := env) envOk wide func44 rfl (by kernel_rfl) rfl rfl ?_
  refine lenE (k := (p0).length) (by simp) (fun hN1 => ?_)
  refine lenE (k := (p1).length) (by simp) (fun hN2 => ?_)
  refine And.intro (fun (h3 : ((((p0).length : Nat) : Int) != (((p1).length : Nat) : Int)) = true) => ?_) (fun (h3 : ((((p0).length : Nat) : Int) != (((p1).length : Nat) : Int)) = false) => ?_)
  · refine And.intro (fun _ => .v _) ?_
    have hg : laws_eqSpanS p0 p1 = false := by
      first | rfl | (simp only [laws_eqSpanS, h3, cond_true, cond_false, Step.fin_stop, Step.fin_done, Fin.get_fin, Fin.get_done, Step.fin_next, Bool.not_true, Bool.not_false, Option.getD_some]; done) | (simp [laws_eqSpanS, h3, cond_true, cond_false, Step.fin_stop, Step.fin_done, Fin.get_fin, Fin.get_done, Step.fin_next, Bool.not_true, Bool.not_false, Option.getD_some]; done) | (exfalso; simp_all; done)
    exact congrArg (fun g : Bool => AV.one (.v (.bool g))) hg.symm
  · refine loop_rule (α := LstSt (laws_eqSpanS_b1 p1) () p0) [0, 1] (fun x1 => [(5, .one (.v (.int .i64 ((x1.i : Nat) : Int))))]) (fun x1 => []) (fun x1 => (p0).length - x1.i) .init [] ?_ (fun x1 => ?_)
    · exact ⟨rfl, ⟨rfl, rfl, rfl, trivial⟩, trivial, trivial⟩
    · refine lenE (k := (p0).length) (by simp) (fun hN4 => ?_)
      refine And.intro (fun (h5 : (decide (((x1.i : Nat) : Int) < (((p0).length : Nat) : Int))) = true) => ?_) (fun (h5 : (decide (((x1.i : Nat) : Int) < (((p0).length : Nat) : Int))) = false) => ?_)
      · have hi1 : x1.i < (p0).length := by simpa using h5
        have hw1 : IntKind.i64.wrap ((x1.i : Int) + 1) = ((x1.i + 1 : Nat) : Int) := wrap_succ hi1 (by first | assumption | omega)
        refine .inl ⟨by kernel_rfl, ?_⟩
        refine And.intro (fun _ => by exact idx_at hi1) (rowAtE (i := x1.i) (l := p0) rfl hi1 ?_)
        refine And.intro (fun _ => by (first | omega | (simp; done) | (simp; omega) | (simp at *; omega) | (simp at *; done) | (simp_all; done) | (simp_all; omega))) (rowOfE (i := x1.i) (l := p1) rfl (fun e6 he6 => ?_))
        refine ⟨_, _, c_laws_eqSpan (p0[x1.i]'hi1) e6, (FzAs.same _), ?_⟩
        refine And.intro (fun (h7 : (!(laws_eqSpan (p0[x1.i]'hi1) e6)) = true) => ?_) (fun (h7 : (!(laws_eqSpan (p0[x1.i]'hi1) e6)) = false) => ?_)
        · have hb1 := x1.out hi1 (by first | rfl | (simp only [laws_eqSpanS_b1, h3, h5, he6, h7, cond_true, cond_false, Bool.not_true, Bool.not_false, Option.getD_some, Step.isNext_stop, Step.isNext_done, Step.fin_stop, Step.fin_done, Fin.get_fin, Fin.get_done]; done) | (exfalso; simp_all; done))
          refine And.intro (fun _ => .v _) ?_
          have hg : laws_eqSpanS p0 p1 = false := by
            first | rfl | (simp only [laws_eqSpanS, laws_eqSpanS_b1, h3, h5, he6, h7, hb1, cond_true, cond_false, Step.fin_stop, Step.fin_done, Fin.get_fin, Fin.get_done, Step.fin_next, Bool.not_true, Bool.not_false, Option.getD_some]; done) | (simp [laws_eqSpanS, laws_eqSpanS_b1, h3, h5, he6, h7, hb1, cond_true, cond_false, Step.fin_stop, Step.fin_done, Fin.get_fin, Fin.get_done, Step.fin_next, Bool.not_true, Bool.not_false, Option.getD_some]; done) | (exfalso; simp_all; done)
          exact congrArg (fun g : Bool => AV.one (.v (.bool g))) hg.symm
        · refine x1.go hi1 (v := ()) (by first | rfl | (simp only [laws_eqSpanS_b1, h3, h5, he6, h7, cond_true, cond_false, Bool.not_true, Bool.not_false, Option.getD_some, Step.fin_stop, Step.fin_done, Fin.get_fin, Fin.get_done]; done) | (exfalso; simp_all; done)) [] (by show _ - (x1.i + 1) < _ - x1.i; omega) ?_
          exact ⟨rfl, ⟨(eqInt hw1), rfl, rfl, trivial⟩, trivial, trivial⟩
      · have hf1 := x1.fin (show ¬ x1.i < (p0).length by simpa using h5)
        refine And.intro (fun _ => .v _) ?_
        have hg : laws_eqSpanS p0 p1 = true := by
          first | rfl | (simp only [laws_eqSpanS, laws_eqSpanS_b1, h3, h5, hf1, cond_true, cond_false, Step.fin_stop, Step.fin_done, Fin.get_fin, Fin.get_done, Step.fin_next, Bool.not_true, Bool.not_false, Option.getD_some]; done) | (simp [laws_eqSpanS, laws_eqSpanS_b1, h3, h5, hf1, cond_true, cond_false, Step.fin_stop, Step.fin_done, Fin.get_fin, Fin.get_done, Step.fin_next, Bool.not_true, Bool.not_false, Option.getD_some]; done) | (exfalso; simp_all; done)
        exact congrArg (fun g : Bool => AV.one (.v (.bool g))) hg.symm
theorem rf_laws_eqSpanS (x : (List Span)) : laws_eqSpanS x x = true := eqS_ok (b := laws_eqSpanS_b1) rf_laws_eqSpan (fun _ _ _ _ => rfl) (fun _ _ => rfl) x
def laws_eqTrail (p0 : Trail) (p1 : Trail) : Bool :=
  (bif (p0.Id != p1.Id) then false else (bif (p0.Stamp != p1.Stamp) then false else (bif (p0.First != p1.First) then false else (bif (!(laws_eqSpanS p0.Spans p1.Spans)) then false else true))))
theorem c_laws_eqTrail (p0 : Trail) (p1 : Trail) : FnOk prog 170 [.agg ((Trail.cells false) p0), .agg ((Trail.cells false) p1)] ⟨.one (.v (.bool (laws_eqTrail p0 p1))), [], [], false⟩ := by
  refine FnOk.intro (E := env) envOk wide func170 rfl (by kernel_rfl) rfl rfl ?_
  refine litE (m := 0) rfl ?_
  refine litE (m := 1) rfl ?_
  refine And.intro (fun (h1 : (p0.Id != p1.Id) = true) => ?_) (fun (h1 : (p0.Id != p1.Id) = false) => ?_)
  · refine And.intro (fun _ => .v _) ?_
    have hg : laws_eqTrail p0 p1 = false := by
      first | rfl | (simp only [laws_eqTrail, h1, cond_true, cond_false, Step.fin_stop, Step.fin_done, Fin.get_fin, Fin.get_done, Step.fin_next, Bool.not_true, Bool.not_false, Option.getD_some]; done) | (simp [laws_eqTrail, h1, cond_true, cond_false, Step.fin_stop, Step.fin_done, Fin.get_fin, Fin.get_done, Step.fin_next, Bool.not_true, Bool.not_false, Option.getD_some]; done) | (exfalso; simp_all; done)
    exact congrArg (fun g : Bool => AV.one (.v (.bool g))) hg.symm
  · refine And.intro (fun (h2 : (p0.Stamp != p1.Stamp) = true) => ?_) (fun (h2 : (p0.Stamp != p1.Stamp) = false) => ?_)
    · refine And.intro (fun _ => .v _) ?_
      have hg : laws_eqTrail p0 p1 = false := by
        first | rfl | (simp only [laws_eqTrail, h1, h2, cond_true, cond_false, Step.fin_stop, Step.fin_done, Fin.get_fin, Fin.get_done, Step.fin_next, Bool.not_true, Bool.not_false, Option.getD_some]; done) | (simp [laws_eqTrail, h1, h2, cond_true, cond_false, Step.fin_stop, Step.fin_done, Fin.get_fin, Fin.get_done, Step.fin_next, Bool.not_true, Bool.not_false, Option.getD_some]; done) | (exfalso; simp_all; done)
      exact congrArg (fun g : Bool => AV.one (.v (.bool g))) hg.symm
    · refine And.intro (fun (h3 : (p0.First != p1.First) = true) => ?_) (fun (h3 : (p0.First != p1.First) = false) => ?_)
      · refine And.intro (fun _ => .v _) ?_
        have hg : laws_eqTrail p0 p1 = false := by
          first | rfl | (simp only [laws_eqTrail, h1, h2, h3, cond_true, cond_false, Step.fin_stop, Step.fin_done, Fin.get_fin, Fin.get_done, Step.fin_next, Bool.not_true, Bool.not_false, Option.getD_some]; done) | (simp [laws_eqTrail, h1, h2, h3, cond_true, cond_false, Step.fin_stop, Step.fin_done, Fin.get_fin, Fin.get_done, Step.fin_next, Bool.not_true, Bool.not_false, Option.getD_some]; done) | (exfalso; simp_all; done)
        exact congrArg (fun g : Bool => AV.one (.v (.bool g))) hg.symm
      · refine ⟨_, _, c_laws_eqSpanS p0.Spans p1.Spans, (FzAs.same _), ?_⟩
        refine litE (m := 3) rfl ?_
        refine And.intro (fun (h4 : (!(laws_eqSpanS p0.Spans p1.Spans)) = true) => ?_) (fun (h4 : (!(laws_eqSpanS p0.Spans p1.Spans)) = false) => ?_)
        · refine And.intro (fun _ => .v _) ?_
          have hg : laws_eqTrail p0 p1 = false := by
            first | rfl | (simp only [laws_eqTrail, h1, h2, h3, h4, cond_true, cond_false, Step.fin_stop, Step.fin_done, Fin.get_fin, Fin.get_done, Step.fin_next, Bool.not_true, Bool.not_false, Option.getD_some]; done) | (simp [laws_eqTrail, h1, h2, h3, h4, cond_true, cond_false, Step.fin_stop, Step.fin_done, Fin.get_fin, Fin.get_done, Step.fin_next, Bool.not_true, Bool.not_false, Option.getD_some]; done) | (exfalso; simp_all; done)
          exact congrArg (fun g : Bool => AV.one (.v (.bool g))) hg.symm
        · refine And.intro (fun _ => .v _) ?_
          have hg : laws_eqTrail p0 p1 = true := by
            first | rfl | (simp only [laws_eqTrail, h1, h2, h3, h4, cond_true, cond_false, Step.fin_stop, Step.fin_done, Fin.get_fin, Fin.get_done, Step.fin_next, Bool.not_true, Bool.not_false, Option.getD_some]; done) | (simp [laws_eqTrail, h1, h2, h3, h4, cond_true, cond_false, Step.fin_stop, Step.fin_done, Fin.get_fin, Fin.get_done, Step.fin_next, Bool.not_true, Bool.not_false, Option.getD_some]; done) | (exfalso; simp_all; done)
          exact congrArg (fun g : Bool => AV.one (.v (.bool g))) hg.symm
theorem rf_laws_eqTrail (x : Trail) : laws_eqTrail x x = true := by
  simp [laws_eqTrail, rf_laws_eqSpanS]
def laws_eqTrailS_b1 (p1 : (List Trail)) (i1 : Nat) (s1 : Unit) (a1 : Trail) : Step (Unit) Bool :=
  (bif (!(laws_eqTrail a1 (p1[i1]?.getD default))) then (.done false) else (.next ()))
def laws_eqTrailS (p0 : (List Trail)) (p1 : (List Trail)) : Bool :=
  (bif ((((p0).length : Nat) : Int) != (((p1).length : Nat) : Int)) then false else (Fin.get (fun s1 => true) (loopL (laws_eqTrailS_b1 p1) 0 () p0)))
theorem c_laws_eqTrailS (p0 : (List Trail)) (p1 : (List Trail)) : FnOk prog 101 [.one (.s false 4 (List.map (Trail.cells false) p0)), .one (.s false 4 (List.map (Trail.cells false) p1))] ⟨.one (.v (.bool (laws_eqTrailS p0 p1))), [], [], false⟩ := by
  refine FnOk.intro (E := env) envOk wide func101 rfl (by kernel_rfl) rfl rfl ?_
  refine lenE (k := (p0).length) (by simp) (fun hN1 => ?_)
  refine lenE (k := (p1).length) (by simp) (fun hN2 => ?_)
  refine And.intro (fun (h3 : ((((p0).length : Nat) : Int) != (((p1).length : Nat) : Int)) = true) => ?_) (fun (h3 : ((((p0).length : Nat) : Int) != (((p1).length : Nat) : Int)) = false) => ?_)
  · refine And.intro (fun _ => .v _) ?_
    have hg : laws_eqTrailS p0 p1 = false := by
      first | rfl | (simp only [laws_eqTrailS, h3, cond_true, cond_false, Step.fin_stop, Step.fin_done, Fin.get_fin, Fin.get_done, Step.fin_next, Bool.not_true, Bool.not_false, Option.getD_some]; done) | (simp [laws_eqTrailS, h3, cond_true, cond_false, Step.fin_stop, Step.fin_done, Fin.get_fin, Fin.get_done, Step.fin_next, Bool.not_true, Bool.not_false, Option.getD_some]; done) | (exfalso; simp_all; done)
    exact congrArg (fun g : Bool => AV.one (.v (.bool g))) hg.symm
  · refine loop_rule (α := LstSt (laws_eqTrailS_b1 p1) () p0) [0, 1] (fun x1 => [(5, .one (.v (.int .i64 ((x1.i : Nat) : Int))))]) (fun x1 => []) (fun x1 => (p0).length - x1.i) .init [] ?_ (fun x1 => ?_)
    · exact ⟨rfl, ⟨rfl, rfl, rfl, trivial⟩, trivial, trivial⟩
    · refine lenE (k := (p0).length) (by simp) (fun hN4 => ?_)
      refine And.intro (fun (h5 : (decide (((x1.i : Nat) : Int) < (((p0).length : Nat) : Int))) = true) => ?_) (fun (h5 : (decide (((x1.i : Nat) : Int) < (((p0).length : Nat) : Int))) = false) => ?_)
      · have hi1 : x1.i < (p0).length := by simpa using h5
        have hw1 : IntKind.i64.wrap ((x1.i : Int) + 1) = ((x1.i + 1 : Nat) : Int) := wrap_succ hi1 (by first | assumption | omega)
        refine .inl ⟨by kernel_rfl, ?_⟩
        refine And.intro (fun _ => by exact idx_at hi1) (rowAtE (i := x1.i) (l := p0) rfl hi1 ?_)
        refine And.intro (fun _ => by (first | omega | (simp; done) | (simp; omega) | (simp at *; omega) | (simp at *; done) | (simp_all; done) | (simp_all; omega))) (rowOfE (i := x1.i) (l := p1) rfl (fun e6 he6 => ?_))
        refine ⟨_, _, c_laws_eqTrail (p0[x1.i]'hi1) e6, (FzAs.same _), ?_⟩
        refine And.intro (fun (h7 : (!(laws_eqTrail (p0[x1.i]'hi1) e6)) = true) => ?_) (fun (h7 : (!(laws_eqTrail (p0[x1.i]'hi1) e6)) = false) => ?_)
        · have hb1 := x1.out hi1 (by first | rfl | (simp only [laws_eqTrailS_b1, h3, h5, he6, h7, cond_true, cond_false, Bool.not_true, Bool.not_false, Option.getD_some, Step.isNext_stop, Step.isNext_done, Step.fin_stop, Step.fin_done, Fin.get_fin, Fin.get_done]; done) | (exfalso; simp_all; done))
          refine And.intro (fun _ => .v _) ?_
          have hg : laws_eqTrailS p0 p1 = false := by
            first | rfl | (simp only [laws_eqTrailS, laws_eqTrailS_b1, h3, h5, he6, h7, hb1, cond_true, cond_false, Step.fin_stop, Step.fin_done, Fin.get_fin, Fin.get_done, Step.fin_next, Bool.not_true, Bool.not_false, Option.getD_some]; done) | (simp [laws_eqTrailS, laws_eqTrailS_b1, h3, h5, he6, h7, hb1, cond_true, cond_false, Step.fin_stop, Step.fin_done, Fin.get_fin, Fin.get_done, Step.fin_next, Bool.not_true, Bool.not_false, Option.getD_some]; done) | (exfalso; simp_all; done)
          exact congrArg (fun g : Bool => AV.one (.v (.bool g))) hg.symm
        · refine x1.go hi1 (v := ()) (by first | rfl | (simp only [laws_eqTrailS_b1, h3, h5, he6, h7, cond_true, cond_false, Bool.not_true, Bool.not_false, Option.getD_some, Step.fin_stop, Step.fin_done, Fin.get_fin, Fin.get_done]; done) | (exfalso; simp_all; done)) [] (by show _ - (x1.i + 1) < _ - x1.i; omega) ?_
          exact ⟨rfl, ⟨(eqInt hw1), rfl, rfl, trivial⟩, trivial, trivial⟩
      · have hf1 := x1.fin (show ¬ x1.i < (p0).length by simpa using h5)
        refine And.intro (fun _ => .v _) ?_
        have hg : laws_eqTrailS p0 p1 = true := by
          first | rfl | (simp only [laws_eqTrailS, laws_eqTrailS_b1, h3, h5, hf1, cond_true, cond_false, Step.fin_stop, Step.fin_done, Fin.get_fin, Fin.get_done, Step.fin_next, Bool.not_true, Bool.not_false, Option.getD_some]; done) | (simp [laws_eqTrailS, laws_eqTrailS_b1, h3, h5, hf1, cond_true, cond_false, Step.fin_stop, Step.fin_done, Fin.get_fin, Fin.get_done, Step.fin_next, Bool.not_true, Bool.not_false, Option.getD_some]; done) | (exfalso; simp_all; done)
        exact congrArg (fun g : Bool => AV.one (.v (.bool g))) hg.symm
theorem rf_laws_eqTrailS (x : (List Trail)) : laws_eqTrailS x x = true := eqS_ok (b := laws_eqTrailS_b1) rf_laws_eqTrail (fun _ _ _ _ => rfl) (fun _ _ => rfl) x
def laws_eqStripe (p0 : Stripe) (p1 : Stripe) : Bool :=
  (bif (p0.Held != p1.Held) then false else (bif (!(laws_eqTrailS p0.L p1.L)) then false else true))
theorem c_laws_eqStripe (p0 : Stripe) (p1 : Stripe) : FnOk prog 153 [.agg ((Stripe.cells false) p0), .agg ((Stripe.cells false) p1)] ⟨.one (.v (.bool (laws_eqStripe p0 p1))), [], [], false⟩ := by
  refine FnOk.intro (E := env) envOk wide func153 rfl (by kernel_rfl) rfl rfl ?_
  refine litE (m := 0) rfl ?_
  refine litE (m := 1) rfl ?_
  refine And.intro (fun (h1 : (p0.Held != p1.Held) = true) => ?_) (fun (h1 : (p0.Held != p1.Held) = false) => ?_)
  · refine And.intro (fun _ => .v _) ?_
    have hg : laws_eqStripe p0 p1 = false := by
      first | rfl | (simp only [laws_eqStripe, h1, cond_true, cond_false, Step.fin_stop, Step.fin_done, Fin.get_fin, Fin.get_done, Step.fin_next, Bool.not_true, Bool.not_false, Option.getD_some]; done) | (simp [laws_eqStripe, h1, cond_true, cond_false, Step.fin_stop, Step.fin_done, Fin.get_fin, Fin.get_done, Step.fin_next, Bool.not_true, Bool.not_false, Option.getD_some]; done) | (exfalso; simp_all; done)
    exact congrArg (fun g : Bool => AV.one (.v (.bool g))) hg.symm
  · refine ⟨_, _, c_laws_eqTrailS p0.L p1.L, (FzAs.same _), ?_⟩
    refine litE (m := 3) rfl ?_
    refine And.intro (fun (h2 : (!(laws_eqTrailS p0.L p1.L)) = true) => ?_) (fun (h2 : (!(laws_eqTrailS p0.L p1.L)) = false) => ?_)
    · refine And.intro (fun _ => .v _) ?_
      have hg : laws_eqStripe p0 p1 = false := by
        first | rfl | (simp only [laws_eqStripe, h1, h2, cond_true, cond_false, Step.fin_stop, Step.fin_done, Fin.get_fin, Fin.get_done, Step.fin_next, Bool.not_true, Bool.not_false, Option.getD_some]; done) | (simp [laws_eqStripe, h1, h2, cond_true, cond_false, Step.fin_stop, Step.fin_done, Fin.get_fin, Fin.get_done, Step.fin_next, Bool.not_true, Bool.not_false, Option.getD_some]; done) | (exfalso; simp_all; done)
      exact congrArg (fun g : Bool => AV.one (.v (.bool g))) hg.symm
    · refine And.intro (fun _ => .v _) ?_
      have hg : laws_eqStripe p0 p1 = true := by
        first | rfl | (simp only [laws_eqStripe, h1, h2, cond_true, cond_false, Step.fin_stop, Step.fin_done, Fin.get_fin, Fin.get_done, Step.fin_next, Bool.not_true, Bool.not_false, Option.getD_some]; done) | (simp [laws_eqStripe, h1, h2, cond_true, cond_false, Step.fin_stop, Step.fin_done, Fin.get_fin, Fin.get_done, Step.fin_next, Bool.not_true, Bool.not_false, Option.getD_some]; done) | (exfalso; simp_all; done)
      exact congrArg (fun g : Bool => AV.one (.v (.bool g))) hg.symm
theorem rf_laws_eqStripe (x : Stripe) : laws_eqStripe x x = true := by
  simp [laws_eqStripe, rf_laws_eqTrailS]
def laws_eqStripeS_b1 (p1 : (List Stripe)) (i1 : Nat) (s1 : Unit) (a1 : Stripe) : Step (Unit) Bool :=
  (bif (!(laws_eqStripe a1 (p1[i1]?.getD default))) then (.done false) else (.next ()))
def laws_eqStripeS (p0 : (List Stripe)) (p1 : (List Stripe)) : Bool :=
  (bif ((((p0).length : Nat) : Int) != (((p1).length : Nat) : Int)) then false else (Fin.get (fun s1 => true) (loopL (laws_eqStripeS_b1 p1) 0 () p0)))
theorem c_laws_eqStripeS (p0 : (List Stripe)) (p1 : (List Stripe)) : FnOk prog 77 [.one (.s false 2 (List.map (Stripe.cells false) p0)), .one (.s false 2 (List.map (Stripe.cells false) p1))] ⟨.one (.v (.bool (laws_eqStripeS p0 p1))), [], [], false⟩ := by
  refine FnOk.intro (E := env) envOk wide func77 rfl (by kernel_rfl) rfl rfl ?_
  refine lenE (k := (p0).length) (by simp) (fun hN1 => ?_)
  refine lenE (k := (p1).length) (by simp) (fun hN2 => ?_)
  refine And.intro (fun (h3 : ((((p0).length : Nat) : Int) != (((p1).length : Nat) : Int)) = true) => ?_) (fun (h3 : ((((p0).length : Nat) : Int) != (((p1).length : Nat) : Int)) = false) => ?_)
  · refine And.intro (fun _ => .v _) ?_
    have hg : laws_eqStripeS p0 p1 = false := by
      first | rfl | (simp only [laws_eqStripeS, h3, cond_true, cond_false, Step.fin_stop, Step.fin_done, Fin.get_fin, Fin.get_done, Step.fin_next, Bool.not_true, Bool.not_false, Option.getD_some]; done) | (simp [laws_eqStripeS, h3, cond_true, cond_false, Step.fin_stop, Step.fin_done, Fin.get_fin, Fin.get_done, Step.fin_next, Bool.not_true, Bool.not_false, Option.getD_some]; done) | (exfalso; simp_all; done)
    exact congrArg (fun g : Bool => AV.one (.v (.bool g))) hg.symm
  · refine loop_rule (α := LstSt (laws_eqStripeS_b1 p1) () p0) [0, 1] (fun x1 => [(5, .one (.v (.int .i64 ((x1.i : Nat) : Int))))]) (fun x1 => []) (fun x1 => (p0).length - x1.i) .init [] ?_ (fun x1 => ?_)
    · exact ⟨rfl, ⟨rfl, rfl, rfl, trivial⟩, trivial, trivial⟩
    · refine lenE (k := (p0).length) (by simp) (fun hN4 => ?_)
      refine And.intro (fun (h5 : (decide (((x1.i : Nat) : Int) < (((p0).length : Nat) : Int))) = true) => ?_) (fun (h5 : (decide (((x1.i : Nat) : Int) < (((p0).length : Nat) : Int))) = false) => ?_)
      · have hi1 : x1.i < (p0).length := by simpa using h5
        have hw1 : IntKind.i64.wrap ((x1.i : Int) + 1) = ((x1.i + 1 : Nat) : Int) := wrap_succ hi1 (by first | assumption | omega)
        refine .inl ⟨by kernel_rfl, ?_⟩
        refine And.intro (fun _ => by exact idx_at hi1) (rowAtE (i := x1.i) (l := p0) rfl hi1 ?_)
        refine And.intro (fun _ => by (first | omega | (simp; done) | (simp; omega) | (simp at *; omega) | (simp at *; done) | (simp_all; done) | (simp_all; omega))) (rowOfE (i := x1.i) (l := p1) rfl (fun e6 he6 => ?_))
        refine ⟨_, _, c_laws_eqStripe (p0[x1.i]'hi1) e6, (FzAs.same _), ?_⟩
        refine And.intro (fun (h7 : (!(laws_eqStripe (p0[x1.i]'hi1) e6)) = true) => ?_) (fun (h7 : (!(laws_eqStripe (p0[x1.i]'hi1) e6)) = false) => ?_)
        · have hb1 := x1.out hi1 (by first | rfl | (simp only [laws_eqStripeS_b1, h3, h5, he6, h7, cond_true, cond_false, Bool.not_true, Bool.not_false, Option.getD_some, Step.isNext_stop, Step.isNext_done, Step.fin_stop, Step.fin_done, Fin.get_fin, Fin.get_done]; done) | (exfalso; simp_all; done))
          refine And.intro (fun _ => .v _) ?_
          have hg : laws_eqStripeS p0 p1 = false := by
            first | rfl | (simp only [laws_eqStripeS, laws_eqStripeS_b1, h3, h5, he6, h7, hb1, cond_true, cond_false, Step.fin_stop, Step.fin_done, Fin.get_fin, Fin.get_done, Step.fin_next, Bool.not_true, Bool.not_false, Option.getD_some]; done) | (simp [laws_eqStripeS, laws_eqStripeS_b1, h3, h5, he6, h7, hb1, cond_true, cond_false, Step.fin_stop, Step.fin_done, Fin.get_fin, Fin.get_done, Step.fin_next, Bool.not_true, Bool.not_false, Option.getD_some]; done) | (exfalso; simp_all; done)
          exact congrArg (fun g : Bool => AV.one (.v (.bool g))) hg.symm
        · refine x1.go hi1 (v := ()) (by first | rfl | (simp only [laws_eqStripeS_b1, h3, h5, he6, h7, cond_true, cond_false, Bool.not_true, Bool.not_false, Option.getD_some, Step.fin_stop, Step.fin_done, Fin.get_fin, Fin.get_done]; done) | (exfalso; simp_all; done)) [] (by show _ - (x1.i + 1) < _ - x1.i; omega) ?_
          exact ⟨rfl, ⟨(eqInt hw1), rfl, rfl, trivial⟩, trivial, trivial⟩
      · have hf1 := x1.fin (show ¬ x1.i < (p0).length by simpa using h5)
        refine And.intro (fun _ => .v _) ?_
        have hg : laws_eqStripeS p0 p1 = true := by
          first | rfl | (simp only [laws_eqStripeS, laws_eqStripeS_b1, h3, h5, hf1, cond_true, cond_false, Step.fin_stop, Step.fin_done, Fin.get_fin, Fin.get_done, Step.fin_next, Bool.not_true, Bool.not_false, Option.getD_some]; done) | (simp [laws_eqStripeS, laws_eqStripeS_b1, h3, h5, hf1, cond_true, cond_false, Step.fin_stop, Step.fin_done, Fin.get_fin, Fin.get_done, Step.fin_next, Bool.not_true, Bool.not_false, Option.getD_some]; done) | (exfalso; simp_all; done)
        exact congrArg (fun g : Bool => AV.one (.v (.bool g))) hg.symm
theorem rf_laws_eqStripeS (x : (List Stripe)) : laws_eqStripeS x x = true := eqS_ok (b := laws_eqStripeS_b1) rf_laws_eqStripe (fun _ _ _ _ => rfl) (fun _ _ => rfl) x
def laws_eqBucket (p0 : Bucket) (p1 : Bucket) : Bool :=
  (bif (p0.Rate != p1.Rate) then false else (bif (p0.Burst != p1.Burst) then false else (bif (p0.Tokens != p1.Tokens) then false else (bif (p0.At != p1.At) then false else true))))
theorem c_laws_eqBucket (p0 : Bucket) (p1 : Bucket) : FnOk prog 78 [.agg (Bucket.cells p0), .agg (Bucket.cells p1)] ⟨.one (.v (.bool (laws_eqBucket p0 p1))), [], [], false⟩ := by
  refine FnOk.intro (E := env) envOk wide func78 rfl (by kernel_rfl) rfl rfl ?_
  refine litE (m := 0) rfl ?_
  refine litE (m := 1) rfl ?_
  refine And.intro (fun (h1 : (p0.Rate != p1.Rate) = true) => ?_) (fun (h1 : (p0.Rate != p1.Rate) = false) => ?_)
  · refine And.intro (fun _ => .v _) ?_
    have hg : laws_eqBucket p0 p1 = false := by
      first | rfl | (simp only [laws_eqBucket, h1, cond_true, cond_false, Step.fin_stop, Step.fin_done, Fin.get_fin, Fin.get_done, Step.fin_next, Bool.not_true, Bool.not_false, Option.getD_some]; done) | (simp [laws_eqBucket, h1, cond_true, cond_false, Step.fin_stop, Step.fin_done, Fin.get_fin, Fin.get_done, Step.fin_next, Bool.not_true, Bool.not_false, Option.getD_some]; done) | (exfalso; simp_all; done)
    exact congrArg (fun g : Bool => AV.one (.v (.bool g))) hg.symm
  · refine And.intro (fun (h2 : (p0.Burst != p1.Burst) = true) => ?_) (fun (h2 : (p0.Burst != p1.Burst) = false) => ?_)
    · refine And.intro (fun _ => .v _) ?_
      have hg : laws_eqBucket p0 p1 = false := by
        first | rfl | (simp only [laws_eqBucket, h1, h2, cond_true, cond_false, Step.fin_stop, Step.fin_done, Fin.get_fin, Fin.get_done, Step.fin_next, Bool.not_true, Bool.not_false, Option.getD_some]; done) | (simp [laws_eqBucket, h1, h2, cond_true, cond_false, Step.fin_stop, Step.fin_done, Fin.get_fin, Fin.get_done, Step.fin_next, Bool.not_true, Bool.not_false, Option.getD_some]; done) | (exfalso; simp_all; done)
      exact congrArg (fun g : Bool => AV.one (.v (.bool g))) hg.symm
    · refine And.intro (fun (h3 : (p0.Tokens != p1.Tokens) = true) => ?_) (fun (h3 : (p0.Tokens != p1.Tokens) = false) => ?_)
      · refine And.intro (fun _ => .v _) ?_
        have hg : laws_eqBucket p0 p1 = false := by
          first | rfl | (simp only [laws_eqBucket, h1, h2, h3, cond_true, cond_false, Step.fin_stop, Step.fin_done, Fin.get_fin, Fin.get_done, Step.fin_next, Bool.not_true, Bool.not_false, Option.getD_some]; done) | (simp [laws_eqBucket, h1, h2, h3, cond_true, cond_false, Step.fin_stop, Step.fin_done, Fin.get_fin, Fin.get_done, Step.fin_next, Bool.not_true, Bool.not_false, Option.getD_some]; done) | (exfalso; simp_all; done)
        exact congrArg (fun g : Bool => AV.one (.v (.bool g))) hg.symm
      · refine And.intro (fun (h4 : (p0.At != p1.At) = true) => ?_) (fun (h4 : (p0.At != p1.At) = false) => ?_)
        · refine And.intro (fun _ => .v _) ?_
          have hg : laws_eqBucket p0 p1 = false := by
            first | rfl | (simp only [laws_eqBucket, h1, h2, h3, h4, cond_true, cond_false, Step.fin_stop, Step.fin_done, Fin.get_fin, Fin.get_done, Step.fin_next, Bool.not_true, Bool.not_false, Option.getD_some]; done) | (simp [laws_eqBucket, h1, h2, h3, h4, cond_true, cond_false, Step.fin_stop, Step.fin_done, Fin.get_fin, Fin.get_done, Step.fin_next, Bool.not_true, Bool.not_false, Option.getD_some]; done) | (exfalso; simp_all; done)
          exact congrArg (fun g : Bool => AV.one (.v (.bool g))) hg.symm
        · refine And.intro (fun _ => .v _) ?_
          have hg : laws_eqBucket p0 p1 = true := by
            first | rfl | (simp only [laws_eqBucket, h1, h2, h3, h4, cond_true, cond_false, Step.fin_stop, Step.fin_done, Fin.get_fin, Fin.get_done, Step.fin_next, Bool.not_true, Bool.not_false, Option.getD_some]; done) | (simp [laws_eqBucket, h1, h2, h3, h4, cond_true, cond_false, Step.fin_stop, Step.fin_done, Fin.get_fin, Fin.get_done, Step.fin_next, Bool.not_true, Bool.not_false, Option.getD_some]; done) | (exfalso; simp_all; done)
          exact congrArg (fun g : Bool => AV.one (.v (.bool g))) hg.symm
theorem rf_laws_eqBucket (x : Bucket) : laws_eqBucket x x = true := by
  simp [laws_eqBucket]
def laws_eqVerdict (p0 : Verdict) (p1 : Verdict) : Bool :=
  (bif (p0.Trace != p1.Trace) then false else (bif (p0.Stamp != p1.Stamp) then false else (bif (!(p0.Keep == p1.Keep)) then false else true)))
theorem c_laws_eqVerdict (p0 : Verdict) (p1 : Verdict) : FnOk prog 112 [.agg (Verdict.cells p0), .agg (Verdict.cells p1)] ⟨.one (.v (.bool (laws_eqVerdict p0 p1))), [], [], false⟩ := by
  refine FnOk.intro (E := env) envOk wide func112 rfl (by kernel_rfl) rfl rfl ?_
  refine litE (m := 0) rfl ?_
  refine litE (m := 1) rfl ?_
  refine And.intro (fun (h1 : (p0.Trace != p1.Trace) = true) => ?_) (fun (h1 : (p0.Trace != p1.Trace) = false) => ?_)
  · refine And.intro (fun _ => .v _) ?_
    have hg : laws_eqVerdict p0 p1 = false := by
      first | rfl | (simp only [laws_eqVerdict, h1, cond_true, cond_false, Step.fin_stop, Step.fin_done, Fin.get_fin, Fin.get_done, Step.fin_next, Bool.not_true, Bool.not_false, Option.getD_some]; done) | (simp [laws_eqVerdict, h1, cond_true, cond_false, Step.fin_stop, Step.fin_done, Fin.get_fin, Fin.get_done, Step.fin_next, Bool.not_true, Bool.not_false, Option.getD_some]; done) | (exfalso; simp_all; done)
    exact congrArg (fun g : Bool => AV.one (.v (.bool g))) hg.symm
  · refine And.intro (fun (h2 : (p0.Stamp != p1.Stamp) = true) => ?_) (fun (h2 : (p0.Stamp != p1.Stamp) = false) => ?_)
    · refine And.intro (fun _ => .v _) ?_
      have hg : laws_eqVerdict p0 p1 = false := by
        first | rfl | (simp only [laws_eqVerdict, h1, h2, cond_true, cond_false, Step.fin_stop, Step.fin_done, Fin.get_fin, Fin.get_done, Step.fin_next, Bool.not_true, Bool.not_false, Option.getD_some]; done) | (simp [laws_eqVerdict, h1, h2, cond_true, cond_false, Step.fin_stop, Step.fin_done, Fin.get_fin, Fin.get_done, Step.fin_next, Bool.not_true, Bool.not_false, Option.getD_some]; done) | (exfalso; simp_all; done)
      exact congrArg (fun g : Bool => AV.one (.v (.bool g))) hg.symm
    · refine And.intro (fun (h3 : (!(p0.Keep == p1.Keep)) = true) => ?_) (fun (h3 : (!(p0.Keep == p1.Keep)) = false) => ?_)
      · refine And.intro (fun _ => .v _) ?_
        have hg : laws_eqVerdict p0 p1 = false := by
          first | rfl | (simp only [laws_eqVerdict, h1, h2, h3, cond_true, cond_false, Step.fin_stop, Step.fin_done, Fin.get_fin, Fin.get_done, Step.fin_next, Bool.not_true, Bool.not_false, Option.getD_some]; done) | (simp [laws_eqVerdict, h1, h2, h3, cond_true, cond_false, Step.fin_stop, Step.fin_done, Fin.get_fin, Fin.get_done, Step.fin_next, Bool.not_true, Bool.not_false, Option.getD_some]; done) | (exfalso; simp_all; done)
        exact congrArg (fun g : Bool => AV.one (.v (.bool g))) hg.symm
      · refine And.intro (fun _ => .v _) ?_
        have hg : laws_eqVerdict p0 p1 = true := by
          first | rfl | (simp only [laws_eqVerdict, h1, h2, h3, cond_true, cond_false, Step.fin_stop, Step.fin_done, Fin.get_fin, Fin.get_done, Step.fin_next, Bool.not_true, Bool.not_false, Option.getD_some]; done) | (simp [laws_eqVerdict, h1, h2, h3, cond_true, cond_false, Step.fin_stop, Step.fin_done, Fin.get_fin, Fin.get_done, Step.fin_next, Bool.not_true, Bool.not_false, Option.getD_some]; done) | (exfalso; simp_all; done)
        exact congrArg (fun g : Bool => AV.one (.v (.bool g))) hg.symm
theorem rf_laws_eqVerdict (x : Verdict) : laws_eqVerdict x x = true := by
  simp [laws_eqVerdict]
def laws_eqVerdictS_b1 (p1 : (List Verdict)) (i1 : Nat) (s1 : Unit) (a1 : Verdict) : Step (Unit) Bool :=
  (bif (!(laws_eqVerdict a1 (p1[i1]?.getD default))) then (.done false) else (.next ()))
def laws_eqVerdictS (p0 : (List Verdict)) (p1 : (List Verdict)) : Bool :=
  (bif ((((p0).length : Nat) : Int) != (((p1).length : Nat) : Int)) then false else (Fin.get (fun s1 => true) (loopL (laws_eqVerdictS_b1 p1) 0 () p0)))
theorem c_laws_eqVerdictS (p0 : (List Verdict)) (p1 : (List Verdict)) : FnOk prog 39 [.one (.s false 3 (List.map Verdict.cells p0)), .one (.s false 3 (List.map Verdict.cells p1))] ⟨.one (.v (.bool (laws_eqVerdictS p0 p1))), [], [], false⟩ := by
  refine FnOk.intro (E := env) envOk wide func39 rfl (by kernel_rfl) rfl rfl ?_
  refine lenE (k := (p0).length) (by simp) (fun hN1 => ?_)
  refine lenE (k := (p1).length) (by simp) (fun hN2 => ?_)
  refine And.intro (fun (h3 : ((((p0).length : Nat) : Int) != (((p1).length : Nat) : Int)) = true) => ?_) (fun (h3 : ((((p0).length : Nat) : Int) != (((p1).length : Nat) : Int)) = false) => ?_)
  · refine And.intro (fun _ => .v _) ?_
    have hg : laws_eqVerdictS p0 p1 = false := by
      first | rfl | (simp only [laws_eqVerdictS, h3, cond_true, cond_false, Step.fin_stop, Step.fin_done, Fin.get_fin, Fin.get_done, Step.fin_next, Bool.not_true, Bool.not_false, Option.getD_some]; done) | (simp [laws_eqVerdictS, h3, cond_true, cond_false, Step.fin_stop, Step.fin_done, Fin.get_fin, Fin.get_done, Step.fin_next, Bool.not_true, Bool.not_false, Option.getD_some]; done) | (exfalso; simp_all; done)
    exact congrArg (fun g : Bool => AV.one (.v (.bool g))) hg.symm
  · refine loop_rule (α := LstSt (laws_eqVerdictS_b1 p1) () p0) [0, 1] (fun x1 => [(5, .one (.v (.int .i64 ((x1.i : Nat) : Int))))]) (fun x1 => []) (fun x1 => (p0).length - x1.i) .init [] ?_ (fun x1 => ?_)
    · exact ⟨rfl, ⟨rfl, rfl, rfl, trivial⟩, trivial, trivial⟩
    · refine lenE (k := (p0).length) (by simp) (fun hN4 => ?_)
      refine And.intro (fun (h5 : (decide (((x1.i : Nat) : Int) < (((p0).length : Nat) : Int))) = true) => ?_) (fun (h5 : (decide (((x1.i : Nat) : Int) < (((p0).length : Nat) : Int))) = false) => ?_)
      · have hi1 : x1.i < (p0).length := by simpa using h5
        have hw1 : IntKind.i64.wrap ((x1.i : Int) + 1) = ((x1.i + 1 : Nat) : Int) := wrap_succ hi1 (by first | assumption | omega)
        refine .inl ⟨by kernel_rfl, ?_⟩
        refine And.intro (fun _ => by exact idx_at hi1) (rowAtE (i := x1.i) (l := p0) rfl hi1 ?_)
        refine And.intro (fun _ => by (first | omega | (simp; done) | (simp; omega) | (simp at *; omega) | (simp at *; done) | (simp_all; done) | (simp_all; omega))) (rowOfE (i := x1.i) (l := p1) rfl (fun e6 he6 => ?_))
        refine ⟨_, _, c_laws_eqVerdict (p0[x1.i]'hi1) e6, (FzAs.same _), ?_⟩
        refine And.intro (fun (h7 : (!(laws_eqVerdict (p0[x1.i]'hi1) e6)) = true) => ?_) (fun (h7 : (!(laws_eqVerdict (p0[x1.i]'hi1) e6)) = false) => ?_)
        · have hb1 := x1.out hi1 (by first | rfl | (simp only [laws_eqVerdictS_b1, h3, h5, he6, h7, cond_true, cond_false, Bool.not_true, Bool.not_false, Option.getD_some, Step.isNext_stop, Step.isNext_done, Step.fin_stop, Step.fin_done, Fin.get_fin, Fin.get_done]; done) | (exfalso; simp_all; done))
          refine And.intro (fun _ => .v _) ?_
          have hg : laws_eqVerdictS p0 p1 = false := by
            first | rfl | (simp only [laws_eqVerdictS, laws_eqVerdictS_b1, h3, h5, he6, h7, hb1, cond_true, cond_false, Step.fin_stop, Step.fin_done, Fin.get_fin, Fin.get_done, Step.fin_next, Bool.not_true, Bool.not_false, Option.getD_some]; done) | (simp [laws_eqVerdictS, laws_eqVerdictS_b1, h3, h5, he6, h7, hb1, cond_true, cond_false, Step.fin_stop, Step.fin_done, Fin.get_fin, Fin.get_done, Step.fin_next, Bool.not_true, Bool.not_false, Option.getD_some]; done) | (exfalso; simp_all; done)
          exact congrArg (fun g : Bool => AV.one (.v (.bool g))) hg.symm
        · refine x1.go hi1 (v := ()) (by first | rfl | (simp only [laws_eqVerdictS_b1, h3, h5, he6, h7, cond_true, cond_false, Bool.not_true, Bool.not_false, Option.getD_some, Step.fin_stop, Step.fin_done, Fin.get_fin, Fin.get_done]; done) | (exfalso; simp_all; done)) [] (by show _ - (x1.i + 1) < _ - x1.i; omega) ?_
          exact ⟨rfl, ⟨(eqInt hw1), rfl, rfl, trivial⟩, trivial, trivial⟩
      · have hf1 := x1.fin (show ¬ x1.i < (p0).length by simpa using h5)
        refine And.intro (fun _ => .v _) ?_
        have hg : laws_eqVerdictS p0 p1 = true := by
          first | rfl | (simp only [laws_eqVerdictS, laws_eqVerdictS_b1, h3, h5, hf1, cond_true, cond_false, Step.fin_stop, Step.fin_done, Fin.get_fin, Fin.get_done, Step.fin_next, Bool.not_true, Bool.not_false, Option.getD_some]; done) | (simp [laws_eqVerdictS, laws_eqVerdictS_b1, h3, h5, hf1, cond_true, cond_false, Step.fin_stop, Step.fin_done, Fin.get_fin, Fin.get_done, Step.fin_next, Bool.not_true, Bool.not_false, Option.getD_some]; done) | (exfalso; simp_all; done)
        exact congrArg (fun g : Bool => AV.one (.v (.bool g))) hg.symm
theorem rf_laws_eqVerdictS (x : (List Verdict)) : laws_eqVerdictS x x = true := eqS_ok (b := laws_eqVerdictS_b1) rf_laws_eqVerdict (fun _ _ _ _ => rfl) (fun _ _ => rfl) x
def laws_eqTimer (p0 : Timer) (p1 : Timer) : Bool :=
  (bif (p0.Id != p1.Id) then false else (bif (p0.Trace != p1.Trace) then false else (bif (p0.At != p1.At) then false else true)))
theorem c_laws_eqTimer (p0 : Timer) (p1 : Timer) : FnOk prog 155 [.agg (Timer.cells p0), .agg (Timer.cells p1)] ⟨.one (.v (.bool (laws_eqTimer p0 p1))), [], [], false⟩ := by
  refine FnOk.intro (E := env) envOk wide func155 rfl (by kernel_rfl) rfl rfl ?_
  refine litE (m := 0) rfl ?_
  refine litE (m := 1) rfl ?_
  refine And.intro (fun (h1 : (p0.Id != p1.Id) = true) => ?_) (fun (h1 : (p0.Id != p1.Id) = false) => ?_)
  · refine And.intro (fun _ => .v _) ?_
    have hg : laws_eqTimer p0 p1 = false := by
      first | rfl | (simp only [laws_eqTimer, h1, cond_true, cond_false, Step.fin_stop, Step.fin_done, Fin.get_fin, Fin.get_done, Step.fin_next, Bool.not_true, Bool.not_false, Option.getD_some]; done) | (simp [laws_eqTimer, h1, cond_true, cond_false, Step.fin_stop, Step.fin_done, Fin.get_fin, Fin.get_done, Step.fin_next, Bool.not_true, Bool.not_false, Option.getD_some]; done) | (exfalso; simp_all; done)
    exact congrArg (fun g : Bool => AV.one (.v (.bool g))) hg.symm
  · refine And.intro (fun (h2 : (p0.Trace != p1.Trace) = true) => ?_) (fun (h2 : (p0.Trace != p1.Trace) = false) => ?_)
    · refine And.intro (fun _ => .v _) ?_
      have hg : laws_eqTimer p0 p1 = false := by
        first | rfl | (simp only [laws_eqTimer, h1, h2, cond_true, cond_false, Step.fin_stop, Step.fin_done, Fin.get_fin, Fin.get_done, Step.fin_next, Bool.not_true, Bool.not_false, Option.getD_some]; done) | (simp [laws_eqTimer, h1, h2, cond_true, cond_false, Step.fin_stop, Step.fin_done, Fin.get_fin, Fin.get_done, Step.fin_next, Bool.not_true, Bool.not_false, Option.getD_some]; done) | (exfalso; simp_all; done)
      exact congrArg (fun g : Bool => AV.one (.v (.bool g))) hg.symm
    · refine And.intro (fun (h3 : (p0.At != p1.At) = true) => ?_) (fun (h3 : (p0.At != p1.At) = false) => ?_)
      · refine And.intro (fun _ => .v _) ?_
        have hg : laws_eqTimer p0 p1 = false := by
          first | rfl | (simp only [laws_eqTimer, h1, h2, h3, cond_true, cond_false, Step.fin_stop, Step.fin_done, Fin.get_fin, Fin.get_done, Step.fin_next, Bool.not_true, Bool.not_false, Option.getD_some]; done) | (simp [laws_eqTimer, h1, h2, h3, cond_true, cond_false, Step.fin_stop, Step.fin_done, Fin.get_fin, Fin.get_done, Step.fin_next, Bool.not_true, Bool.not_false, Option.getD_some]; done) | (exfalso; simp_all; done)
        exact congrArg (fun g : Bool => AV.one (.v (.bool g))) hg.symm
      · refine And.intro (fun _ => .v _) ?_
        have hg : laws_eqTimer p0 p1 = true := by
          first | rfl | (simp only [laws_eqTimer, h1, h2, h3, cond_true, cond_false, Step.fin_stop, Step.fin_done, Fin.get_fin, Fin.get_done, Step.fin_next, Bool.not_true, Bool.not_false, Option.getD_some]; done) | (simp [laws_eqTimer, h1, h2, h3, cond_true, cond_false, Step.fin_stop, Step.fin_done, Fin.get_fin, Fin.get_done, Step.fin_next, Bool.not_true, Bool.not_false, Option.getD_some]; done) | (exfalso; simp_all; done)
        exact congrArg (fun g : Bool => AV.one (.v (.bool g))) hg.symm
theorem rf_laws_eqTimer (x : Timer) : laws_eqTimer x x = true := by
  simp [laws_eqTimer]
def laws_eqTimerS_b1 (p1 : (List Timer)) (i1 : Nat) (s1 : Unit) (a1 : Timer) : Step (Unit) Bool :=
  (bif (!(laws_eqTimer a1 (p1[i1]?.getD default))) then (.done false) else (.next ()))
def laws_eqTimerS (p0 : (List Timer)) (p1 : (List Timer)) : Bool :=
  (bif ((((p0).length : Nat) : Int) != (((p1).length : Nat) : Int)) then false else (Fin.get (fun s1 => true) (loopL (laws_eqTimerS_b1 p1) 0 () p0)))
theorem c_laws_eqTimerS (p0 : (List Timer)) (p1 : (List Timer)) : FnOk prog 80 [.one (.s false 3 (List.map Timer.cells p0)), .one (.s false 3 (List.map Timer.cells p1))] ⟨.one (.v (.bool (laws_eqTimerS p0 p1))), [], [], false⟩ := by
  refine FnOk.intro (E := env) envOk wide func80 rfl (by kernel_rfl) rfl rfl ?_
  refine lenE (k := (p0).length) (by simp) (fun hN1 => ?_)
  refine lenE (k := (p1).length) (by simp) (fun hN2 => ?_)
  refine And.intro (fun (h3 : ((((p0).length : Nat) : Int) != (((p1).length : Nat) : Int)) = true) => ?_) (fun (h3 : ((((p0).length : Nat) : Int) != (((p1).length : Nat) : Int)) = false) => ?_)
  · refine And.intro (fun _ => .v _) ?_
    have hg : laws_eqTimerS p0 p1 = false := by
      first | rfl | (simp only [laws_eqTimerS, h3, cond_true, cond_false, Step.fin_stop, Step.fin_done, Fin.get_fin, Fin.get_done, Step.fin_next, Bool.not_true, Bool.not_false, Option.getD_some]; done) | (simp [laws_eqTimerS, h3, cond_true, cond_false, Step.fin_stop, Step.fin_done, Fin.get_fin, Fin.get_done, Step.fin_next, Bool.not_true, Bool.not_false, Option.getD_some]; done) | (exfalso; simp_all; done)
    exact congrArg (fun g : Bool => AV.one (.v (.bool g))) hg.symm
  · refine loop_rule (α := LstSt (laws_eqTimerS_b1 p1) () p0) [0, 1] (fun x1 => [(5, .one (.v (.int .i64 ((x1.i : Nat) : Int))))]) (fun x1 => []) (fun x1 => (p0).length - x1.i) .init [] ?_ (fun x1 => ?_)
    · exact ⟨rfl, ⟨rfl, rfl, rfl, trivial⟩, trivial, trivial⟩
    · refine lenE (k := (p0).length) (by simp) (fun hN4 => ?_)
      refine And.intro (fun (h5 : (decide (((x1.i : Nat) : Int) < (((p0).length : Nat) : Int))) = true) => ?_) (fun (h5 : (decide (((x1.i : Nat) : Int) < (((p0).length : Nat) : Int))) = false) => ?_)
      · have hi1 : x1.i < (p0).length := by simpa using h5
        have hw1 : IntKind.i64.wrap ((x1.i : Int) + 1) = ((x1.i + 1 : Nat) : Int) := wrap_succ hi1 (by first | assumption | omega)
        refine .inl ⟨by kernel_rfl, ?_⟩
        refine And.intro (fun _ => by exact idx_at hi1) (rowAtE (i := x1.i) (l := p0) rfl hi1 ?_)
        refine And.intro (fun _ => by (first | omega | (simp; done) | (simp; omega) | (simp at *; omega) | (simp at *; done) | (simp_all; done) | (simp_all; omega))) (rowOfE (i := x1.i) (l := p1) rfl (fun e6 he6 => ?_))
        refine ⟨_, _, c_laws_eqTimer (p0[x1.i]'hi1) e6, (FzAs.same _), ?_⟩
        refine And.intro (fun (h7 : (!(laws_eqTimer (p0[x1.i]'hi1) e6)) = true) => ?_) (fun (h7 : (!(laws_eqTimer (p0[x1.i]'hi1) e6)) = false) => ?_)
        · have hb1 := x1.out hi1 (by first | rfl | (simp only [laws_eqTimerS_b1, h3, h5, he6, h7, cond_true, cond_false, Bool.not_true, Bool.not_false, Option.getD_some, Step.isNext_stop, Step.isNext_done, Step.fin_stop, Step.fin_done, Fin.get_fin, Fin.get_done]; done) | (exfalso; simp_all; done))
          refine And.intro (fun _ => .v _) ?_
          have hg : laws_eqTimerS p0 p1 = false := by
            first | rfl | (simp only [laws_eqTimerS, laws_eqTimerS_b1, h3, h5, he6, h7, hb1, cond_true, cond_false, Step.fin_stop, Step.fin_done, Fin.get_fin, Fin.get_done, Step.fin_next, Bool.not_true, Bool.not_false, Option.getD_some]; done) | (simp [laws_eqTimerS, laws_eqTimerS_b1, h3, h5, he6, h7, hb1, cond_true, cond_false, Step.fin_stop, Step.fin_done, Fin.get_fin, Fin.get_done, Step.fin_next, Bool.not_true, Bool.not_false, Option.getD_some]; done) | (exfalso; simp_all; done)
          exact congrArg (fun g : Bool => AV.one (.v (.bool g))) hg.symm
        · refine x1.go hi1 (v := ()) (by first | rfl | (simp only [laws_eqTimerS_b1, h3, h5, he6, h7, cond_true, cond_false, Bool.not_true, Bool.not_false, Option.getD_some, Step.fin_stop, Step.fin_done, Fin.get_fin, Fin.get_done]; done) | (exfalso; simp_all; done)) [] (by show _ - (x1.i + 1) < _ - x1.i; omega) ?_
          exact ⟨rfl, ⟨(eqInt hw1), rfl, rfl, trivial⟩, trivial, trivial⟩
      · have hf1 := x1.fin (show ¬ x1.i < (p0).length by simpa using h5)
        refine And.intro (fun _ => .v _) ?_
        have hg : laws_eqTimerS p0 p1 = true := by
          first | rfl | (simp only [laws_eqTimerS, laws_eqTimerS_b1, h3, h5, hf1, cond_true, cond_false, Step.fin_stop, Step.fin_done, Fin.get_fin, Fin.get_done, Step.fin_next, Bool.not_true, Bool.not_false, Option.getD_some]; done) | (simp [laws_eqTimerS, laws_eqTimerS_b1, h3, h5, hf1, cond_true, cond_false, Step.fin_stop, Step.fin_done, Fin.get_fin, Fin.get_done, Step.fin_next, Bool.not_true, Bool.not_false, Option.getD_some]; done) | (exfalso; simp_all; done)
        exact congrArg (fun g : Bool => AV.one (.v (.bool g))) hg.symm
theorem rf_laws_eqTimerS (x : (List Timer)) : laws_eqTimerS x x = true := eqS_ok (b := laws_eqTimerS_b1) rf_laws_eqTimer (fun _ _ _ _ => rfl) (fun _ _ => rfl) x
def laws_eqTimerSS_b1 (p1 : (List (List Timer))) (i1 : Nat) (s1 : Unit) (a1 : (List Timer)) : Step (Unit) Bool :=
  (bif (!(laws_eqTimerS a1 (p1[i1]?.getD default))) then (.done false) else (.next ()))
def laws_eqTimerSS (p0 : (List (List Timer))) (p1 : (List (List Timer))) : Bool :=
  (bif ((((p0).length : Nat) : Int) != (((p1).length : Nat) : Int)) then false else (Fin.get (fun s1 => true) (loopL (laws_eqTimerSS_b1 p1) 0 () p0)))
theorem c_laws_eqTimerSS (p0 : (List (List Timer))) (p1 : (List (List Timer))) : FnOk prog 154 [.one (.s false 1 (List.map (cSl false 3 Timer.cells) p0)), .one (.s false 1 (List.map (cSl false 3 Timer.cells) p1))] ⟨.one (.v (.bool (laws_eqTimerSS p0 p1))), [], [], false⟩ := by
  refine FnOk.intro (E := env) envOk wide func154 rfl (by kernel_rfl) rfl rfl ?_
  refine lenE (k := (p0).length) (by simp) (fun hN1 => ?_)
  refine lenE (k := (p1).length) (by simp) (fun hN2 => ?_)
  refine And.intro (fun (h3 : ((((p0).length : Nat) : Int) != (((p1).length : Nat) : Int)) = true) => ?_) (fun (h3 : ((((p0).length : Nat) : Int) != (((p1).length : Nat) : Int)) = false) => ?_)
  · refine And.intro (fun _ => .v _) ?_
    have hg : laws_eqTimerSS p0 p1 = false := by
      first | rfl | (simp only [laws_eqTimerSS, h3, cond_true, cond_false, Step.fin_stop, Step.fin_done, Fin.get_fin, Fin.get_done, Step.fin_next, Bool.not_true, Bool.not_false, Option.getD_some]; done) | (simp [laws_eqTimerSS, h3, cond_true, cond_false, Step.fin_stop, Step.fin_done, Fin.get_fin, Fin.get_done, Step.fin_next, Bool.not_true, Bool.not_false, Option.getD_some]; done) | (exfalso; simp_all; done)
    exact congrArg (fun g : Bool => AV.one (.v (.bool g))) hg.symm
  · refine loop_rule (α := LstSt (laws_eqTimerSS_b1 p1) () p0) [0, 1] (fun x1 => [(5, .one (.v (.int .i64 ((x1.i : Nat) : Int))))]) (fun x1 => []) (fun x1 => (p0).length - x1.i) .init [] ?_ (fun x1 => ?_)
    · exact ⟨rfl, ⟨rfl, rfl, rfl, trivial⟩, trivial, trivial⟩
    · refine lenE (k := (p0).length) (by simp) (fun hN4 => ?_)
      refine And.intro (fun (h5 : (decide (((x1.i : Nat) : Int) < (((p0).length : Nat) : Int))) = true) => ?_) (fun (h5 : (decide (((x1.i : Nat) : Int) < (((p0).length : Nat) : Int))) = false) => ?_)
      · have hi1 : x1.i < (p0).length := by simpa using h5
        have hw1 : IntKind.i64.wrap ((x1.i : Int) + 1) = ((x1.i + 1 : Nat) : Int) := wrap_succ hi1 (by first | assumption | omega)
        refine .inl ⟨by kernel_rfl, ?_⟩
        refine And.intro (fun _ => by exact idx_at hi1) (rowAtE (i := x1.i) (l := p0) rfl hi1 ?_)
        refine And.intro (fun _ => by (first | omega | (simp; done) | (simp; omega) | (simp at *; omega) | (simp at *; done) | (simp_all; done) | (simp_all; omega))) (rowOfE (i := x1.i) (l := p1) rfl (fun e6 he6 => ?_))
        refine ⟨_, _, c_laws_eqTimerS (p0[x1.i]'hi1) e6, (FzAs.same _), ?_⟩
        refine And.intro (fun (h7 : (!(laws_eqTimerS (p0[x1.i]'hi1) e6)) = true) => ?_) (fun (h7 : (!(laws_eqTimerS (p0[x1.i]'hi1) e6)) = false) => ?_)
        · have hb1 := x1.out hi1 (by first | rfl | (simp only [laws_eqTimerSS_b1, h3, h5, he6, h7, cond_true, cond_false, Bool.not_true, Bool.not_false, Option.getD_some, Step.isNext_stop, Step.isNext_done, Step.fin_stop, Step.fin_done, Fin.get_fin, Fin.get_done]; done) | (exfalso; simp_all; done))
          refine And.intro (fun _ => .v _) ?_
          have hg : laws_eqTimerSS p0 p1 = false := by
            first | rfl | (simp only [laws_eqTimerSS, laws_eqTimerSS_b1, h3, h5, he6, h7, hb1, cond_true, cond_false, Step.fin_stop, Step.fin_done, Fin.get_fin, Fin.get_done, Step.fin_next, Bool.not_true, Bool.not_false, Option.getD_some]; done) | (simp [laws_eqTimerSS, laws_eqTimerSS_b1, h3, h5, he6, h7, hb1, cond_true, cond_false, Step.fin_stop, Step.fin_done, Fin.get_fin, Fin.get_done, Step.fin_next, Bool.not_true, Bool.not_false, Option.getD_some]; done) | (exfalso; simp_all; done)
          exact congrArg (fun g : Bool => AV.one (.v (.bool g))) hg.symm
        · refine x1.go hi1 (v := ()) (by first | rfl | (simp only [laws_eqTimerSS_b1, h3, h5, he6, h7, cond_true, cond_false, Bool.not_true, Bool.not_false, Option.getD_some, Step.fin_stop, Step.fin_done, Fin.get_fin, Fin.get_done]; done) | (exfalso; simp_all; done)) [] (by show _ - (x1.i + 1) < _ - x1.i; omega) ?_
          exact ⟨rfl, ⟨(eqInt hw1), rfl, rfl, trivial⟩, trivial, trivial⟩
      · have hf1 := x1.fin (show ¬ x1.i < (p0).length by simpa using h5)
        refine And.intro (fun _ => .v _) ?_
        have hg : laws_eqTimerSS p0 p1 = true := by
          first | rfl | (simp only [laws_eqTimerSS, laws_eqTimerSS_b1, h3, h5, hf1, cond_true, cond_false, Step.fin_stop, Step.fin_done, Fin.get_fin, Fin.get_done, Step.fin_next, Bool.not_true, Bool.not_false, Option.getD_some]; done) | (simp [laws_eqTimerSS, laws_eqTimerSS_b1, h3, h5, hf1, cond_true, cond_false, Step.fin_stop, Step.fin_done, Fin.get_fin, Fin.get_done, Step.fin_next, Bool.not_true, Bool.not_false, Option.getD_some]; done) | (exfalso; simp_all; done)
        exact congrArg (fun g : Bool => AV.one (.v (.bool g))) hg.symm
theorem rf_laws_eqTimerSS (x : (List (List Timer))) : laws_eqTimerSS x x = true := eqS_ok (b := laws_eqTimerSS_b1) rf_laws_eqTimerS (fun _ _ _ _ => rfl) (fun _ _ => rfl) x
def laws_eqWheel (p0 : Wheel) (p1 : Wheel) : Bool :=
  (bif (p0.Now != p1.Now) then false else (bif (!(laws_eqTimerSS p0.Near p1.Near)) then false else (bif (!(laws_eqTimerSS p0.Far p1.Far)) then false else (bif (!(laws_eqTimerS p0.Rest p1.Rest)) then false else true))))
theorem c_laws_eqWheel (p0 : Wheel) (p1 : Wheel) : FnOk prog 79 [.agg ((Wheel.cells false) p0), .agg ((Wheel.cells false) p1)] ⟨.one (.v (.bool (laws_eqWheel p0 p1))), [], [], false⟩ := by
  refine FnOk.intro (E := env) envOk wide func79 rfl (by kernel_rfl) rfl rfl ?_
  refine litE (m := 0) rfl ?_
  refine litE (m := 1) rfl ?_
  refine And.intro (fun (h1 : (p0.Now != p1.Now) = true) => ?_) (fun (h1 : (p0.Now != p1.Now) = false) => ?_)
  · refine And.intro (fun _ => .v _) ?_
    have hg : laws_eqWheel p0 p1 = false := by
      first | rfl | (simp only [laws_eqWheel, h1, cond_true, cond_false, Step.fin_stop, Step.fin_done, Fin.get_fin, Fin.get_done, Step.fin_next, Bool.not_true, Bool.not_false, Option.getD_some]; done) | (simp [laws_eqWheel, h1, cond_true, cond_false, Step.fin_stop, Step.fin_done, Fin.get_fin, Fin.get_done, Step.fin_next, Bool.not_true, Bool.not_false, Option.getD_some]; done) | (exfalso; simp_all; done)
    exact congrArg (fun g : Bool => AV.one (.v (.bool g))) hg.symm
  · refine ⟨_, _, c_laws_eqTimerSS p0.Near p1.Near, (FzAs.same _), ?_⟩
    refine litE (m := 3) rfl ?_
    refine And.intro (fun (h2 : (!(laws_eqTimerSS p0.Near p1.Near)) = true) => ?_) (fun (h2 : (!(laws_eqTimerSS p0.Near p1.Near)) = false) => ?_)
    · refine And.intro (fun _ => .v _) ?_
      have hg : laws_eqWheel p0 p1 = false := by
        first | rfl | (simp only [laws_eqWheel, h1, h2, cond_true, cond_false, Step.fin_stop, Step.fin_done, Fin.get_fin, Fin.get_done, Step.fin_next, Bool.not_true, Bool.not_false, Option.getD_some]; done) | (simp [laws_eqWheel, h1, h2, cond_true, cond_false, Step.fin_stop, Step.fin_done, Fin.get_fin, Fin.get_done, Step.fin_next, Bool.not_true, Bool.not_false, Option.getD_some]; done) | (exfalso; simp_all; done)
      exact congrArg (fun g : Bool => AV.one (.v (.bool g))) hg.symm
    · refine ⟨_, _, c_laws_eqTimerSS p0.Far p1.Far, (FzAs.same _), ?_⟩
      refine litE (m := 4) rfl ?_
      refine And.intro (fun (h3 : (!(laws_eqTimerSS p0.Far p1.Far)) = true) => ?_) (fun (h3 : (!(laws_eqTimerSS p0.Far p1.Far)) = false) => ?_)
      · refine And.intro (fun _ => .v _) ?_
        have hg : laws_eqWheel p0 p1 = false := by
          first | rfl | (simp only [laws_eqWheel, h1, h2, h3, cond_true, cond_false, Step.fin_stop, Step.fin_done, Fin.get_fin, Fin.get_done, Step.fin_next, Bool.not_true, Bool.not_false, Option.getD_some]; done) | (simp [laws_eqWheel, h1, h2, h3, cond_true, cond_false, Step.fin_stop, Step.fin_done, Fin.get_fin, Fin.get_done, Step.fin_next, Bool.not_true, Bool.not_false, Option.getD_some]; done) | (exfalso; simp_all; done)
        exact congrArg (fun g : Bool => AV.one (.v (.bool g))) hg.symm
      · refine ⟨_, _, c_laws_eqTimerS p0.Rest p1.Rest, (FzAs.same _), ?_⟩
        refine litE (m := 5) rfl ?_
        refine And.intro (fun (h4 : (!(laws_eqTimerS p0.Rest p1.Rest)) = true) => ?_) (fun (h4 : (!(laws_eqTimerS p0.Rest p1.Rest)) = false) => ?_)
        · refine And.intro (fun _ => .v _) ?_
          have hg : laws_eqWheel p0 p1 = false := by
            first | rfl | (simp only [laws_eqWheel, h1, h2, h3, h4, cond_true, cond_false, Step.fin_stop, Step.fin_done, Fin.get_fin, Fin.get_done, Step.fin_next, Bool.not_true, Bool.not_false, Option.getD_some]; done) | (simp [laws_eqWheel, h1, h2, h3, h4, cond_true, cond_false, Step.fin_stop, Step.fin_done, Fin.get_fin, Fin.get_done, Step.fin_next, Bool.not_true, Bool.not_false, Option.getD_some]; done) | (exfalso; simp_all; done)
          exact congrArg (fun g : Bool => AV.one (.v (.bool g))) hg.symm
        · refine And.intro (fun _ => .v _) ?_
          have hg : laws_eqWheel p0 p1 = true := by
            first | rfl | (simp only [laws_eqWheel, h1, h2, h3, h4, cond_true, cond_false, Step.fin_stop, Step.fin_done, Fin.get_fin, Fin.get_done, Step.fin_next, Bool.not_true, Bool.not_false, Option.getD_some]; done) | (simp [laws_eqWheel, h1, h2, h3, h4, cond_true, cond_false, Step.fin_stop, Step.fin_done, Fin.get_fin, Fin.get_done, Step.fin_next, Bool.not_true, Bool.not_false, Option.getD_some]; done) | (exfalso; simp_all; done)
          exact congrArg (fun g : Bool => AV.one (.v (.bool g))) hg.symm
theorem rf_laws_eqWheel (x : Wheel) : laws_eqWheel x x = true := by
  simp [laws_eqWheel, rf_laws_eqTimerS, rf_laws_eqTimerSS]
def laws_eqItem (p0 : Item) (p1 : Item) : Bool :=
  (bif (p0.Stamp != p1.Stamp) then false else (bif (!(laws_eqSpan p0.S p1.S)) then false else true))
theorem c_laws_eqItem (p0 : Item) (p1 : Item) : FnOk prog 156 [.agg ((Item.cells false) p0), .agg ((Item.cells false) p1)] ⟨.one (.v (.bool (laws_eqItem p0 p1))), [], [], false⟩ := by
  refine FnOk.intro (E := env) envOk wide func156 rfl (by kernel_rfl) rfl rfl ?_
  refine litE (m := 0) rfl ?_
  refine litE (m := 1) rfl ?_
  refine And.intro (fun (h1 : (p0.Stamp != p1.Stamp) = true) => ?_) (fun (h1 : (p0.Stamp != p1.Stamp) = false) => ?_)
  · refine And.intro (fun _ => .v _) ?_
    have hg : laws_eqItem p0 p1 = false := by
      first | rfl | (simp only [laws_eqItem, h1, cond_true, cond_false, Step.fin_stop, Step.fin_done, Fin.get_fin, Fin.get_done, Step.fin_next, Bool.not_true, Bool.not_false, Option.getD_some]; done) | (simp [laws_eqItem, h1, cond_true, cond_false, Step.fin_stop, Step.fin_done, Fin.get_fin, Fin.get_done, Step.fin_next, Bool.not_true, Bool.not_false, Option.getD_some]; done) | (exfalso; simp_all; done)
    exact congrArg (fun g : Bool => AV.one (.v (.bool g))) hg.symm
  · refine ⟨_, _, c_laws_eqSpan p0.S p1.S, (FzAs.same _), ?_⟩
    refine litE (m := 3) rfl ?_
    refine And.intro (fun (h2 : (!(laws_eqSpan p0.S p1.S)) = true) => ?_) (fun (h2 : (!(laws_eqSpan p0.S p1.S)) = false) => ?_)
    · refine And.intro (fun _ => .v _) ?_
      have hg : laws_eqItem p0 p1 = false := by
        first | rfl | (simp only [laws_eqItem, h1, h2, cond_true, cond_false, Step.fin_stop, Step.fin_done, Fin.get_fin, Fin.get_done, Step.fin_next, Bool.not_true, Bool.not_false, Option.getD_some]; done) | (simp [laws_eqItem, h1, h2, cond_true, cond_false, Step.fin_stop, Step.fin_done, Fin.get_fin, Fin.get_done, Step.fin_next, Bool.not_true, Bool.not_false, Option.getD_some]; done) | (exfalso; simp_all; done)
      exact congrArg (fun g : Bool => AV.one (.v (.bool g))) hg.symm
    · refine And.intro (fun _ => .v _) ?_
      have hg : laws_eqItem p0 p1 = true := by
        first | rfl | (simp only [laws_eqItem, h1, h2, cond_true, cond_false, Step.fin_stop, Step.fin_done, Fin.get_fin, Fin.get_done, Step.fin_next, Bool.not_true, Bool.not_false, Option.getD_some]; done) | (simp [laws_eqItem, h1, h2, cond_true, cond_false, Step.fin_stop, Step.fin_done, Fin.get_fin, Fin.get_done, Step.fin_next, Bool.not_true, Bool.not_false, Option.getD_some]; done) | (exfalso; simp_all; done)
      exact congrArg (fun g : Bool => AV.one (.v (.bool g))) hg.symm
theorem rf_laws_eqItem (x : Item) : laws_eqItem x x = true := by
  simp [laws_eqItem, rf_laws_eqSpan]
def laws_eqItemS_b1 (p1 : (List Item)) (i1 : Nat) (s1 : Unit) (a1 : Item) : Step (Unit) Bool :=
  (bif (!(laws_eqItem a1 (p1[i1]?.getD default))) then (.done false) else (.next ()))
def laws_eqItemS (p0 : (List Item)) (p1 : (List Item)) : Bool :=
  (bif ((((p0).length : Nat) : Int) != (((p1).length : Nat) : Int)) then false else (Fin.get (fun s1 => true) (loopL (laws_eqItemS_b1 p1) 0 () p0)))
theorem c_laws_eqItemS (p0 : (List Item)) (p1 : (List Item)) : FnOk prog 81 [.one (.s false 7 (List.map (Item.cells false) p0)), .one (.s false 7 (List.map (Item.cells false) p1))] ⟨.one (.v (.bool (laws_eqItemS p0 p1))), [], [], false⟩ := by
  refine FnOk.intro (E := env) envOk wide func81 rfl (by kernel_rfl) rfl rfl ?_
  refine lenE (k := (p0).length) (by simp) (fun hN1 => ?_)
  refine lenE (k := (p1).length) (by simp) (fun hN2 => ?_)
  refine And.intro (fun (h3 : ((((p0).length : Nat) : Int) != (((p1).length : Nat) : Int)) = true) => ?_) (fun (h3 : ((((p0).length : Nat) : Int) != (((p1).length : Nat) : Int)) = false) => ?_)
  · refine And.intro (fun _ => .v _) ?_
    have hg : laws_eqItemS p0 p1 = false := by
      first | rfl | (simp only [laws_eqItemS, h3, cond_true, cond_false, Step.fin_stop, Step.fin_done, Fin.get_fin, Fin.get_done, Step.fin_next, Bool.not_true, Bool.not_false, Option.getD_some]; done) | (simp [laws_eqItemS, h3, cond_true, cond_false, Step.fin_stop, Step.fin_done, Fin.get_fin, Fin.get_done, Step.fin_next, Bool.not_true, Bool.not_false, Option.getD_some]; done) | (exfalso; simp_all; done)
    exact congrArg (fun g : Bool => AV.one (.v (.bool g))) hg.symm
  · refine loop_rule (α := LstSt (laws_eqItemS_b1 p1) () p0) [0, 1] (fun x1 => [(5, .one (.v (.int .i64 ((x1.i : Nat) : Int))))]) (fun x1 => []) (fun x1 => (p0).length - x1.i) .init [] ?_ (fun x1 => ?_)
    · exact ⟨rfl, ⟨rfl, rfl, rfl, trivial⟩, trivial, trivial⟩
    · refine lenE (k := (p0).length) (by simp) (fun hN4 => ?_)
      refine And.intro (fun (h5 : (decide (((x1.i : Nat) : Int) < (((p0).length : Nat) : Int))) = true) => ?_) (fun (h5 : (decide (((x1.i : Nat) : Int) < (((p0).length : Nat) : Int))) = false) => ?_)
      · have hi1 : x1.i < (p0).length := by simpa using h5
        have hw1 : IntKind.i64.wrap ((x1.i : Int) + 1) = ((x1.i + 1 : Nat) : Int) := wrap_succ hi1 (by first | assumption | omega)
        refine .inl ⟨by kernel_rfl, ?_⟩
        refine And.intro (fun _ => by exact idx_at hi1) (rowAtE (i := x1.i) (l := p0) rfl hi1 ?_)
        refine And.intro (fun _ => by (first | omega | (simp; done) | (simp; omega) | (simp at *; omega) | (simp at *; done) | (simp_all; done) | (simp_all; omega))) (rowOfE (i := x1.i) (l := p1) rfl (fun e6 he6 => ?_))
        refine ⟨_, _, c_laws_eqItem (p0[x1.i]'hi1) e6, (FzAs.same _), ?_⟩
        refine And.intro (fun (h7 : (!(laws_eqItem (p0[x1.i]'hi1) e6)) = true) => ?_) (fun (h7 : (!(laws_eqItem (p0[x1.i]'hi1) e6)) = false) => ?_)
        · have hb1 := x1.out hi1 (by first | rfl | (simp only [laws_eqItemS_b1, h3, h5, he6, h7, cond_true, cond_false, Bool.not_true, Bool.not_false, Option.getD_some, Step.isNext_stop, Step.isNext_done, Step.fin_stop, Step.fin_done, Fin.get_fin, Fin.get_done]; done) | (exfalso; simp_all; done))
          refine And.intro (fun _ => .v _) ?_
          have hg : laws_eqItemS p0 p1 = false := by
            first | rfl | (simp only [laws_eqItemS, laws_eqItemS_b1, h3, h5, he6, h7, hb1, cond_true, cond_false, Step.fin_stop, Step.fin_done, Fin.get_fin, Fin.get_done, Step.fin_next, Bool.not_true, Bool.not_false, Option.getD_some]; done) | (simp [laws_eqItemS, laws_eqItemS_b1, h3, h5, he6, h7, hb1, cond_true, cond_false, Step.fin_stop, Step.fin_done, Fin.get_fin, Fin.get_done, Step.fin_next, Bool.not_true, Bool.not_false, Option.getD_some]; done) | (exfalso; simp_all; done)
          exact congrArg (fun g : Bool => AV.one (.v (.bool g))) hg.symm
        · refine x1.go hi1 (v := ()) (by first | rfl | (simp only [laws_eqItemS_b1, h3, h5, he6, h7, cond_true, cond_false, Bool.not_true, Bool.not_false, Option.getD_some, Step.fin_stop, Step.fin_done, Fin.get_fin, Fin.get_done]; done) | (exfalso; simp_all; done)) [] (by show _ - (x1.i + 1) < _ - x1.i; omega) ?_
          exact ⟨rfl, ⟨(eqInt hw1), rfl, rfl, trivial⟩, trivial, trivial⟩
      · have hf1 := x1.fin (show ¬ x1.i < (p0).length by simpa using h5)
        refine And.intro (fun _ => .v _) ?_
        have hg : laws_eqItemS p0 p1 = true := by
          first | rfl | (simp only [laws_eqItemS, laws_eqItemS_b1, h3, h5, hf1, cond_true, cond_false, Step.fin_stop, Step.fin_done, Fin.get_fin, Fin.get_done, Step.fin_next, Bool.not_true, Bool.not_false, Option.getD_some]; done) | (simp [laws_eqItemS, laws_eqItemS_b1, h3, h5, hf1, cond_true, cond_false, Step.fin_stop, Step.fin_done, Fin.get_fin, Fin.get_done, Step.fin_next, Bool.not_true, Bool.not_false, Option.getD_some]; done) | (exfalso; simp_all; done)
        exact congrArg (fun g : Bool => AV.one (.v (.bool g))) hg.symm
theorem rf_laws_eqItemS (x : (List Item)) : laws_eqItemS x x = true := eqS_ok (b := laws_eqItemS_b1) rf_laws_eqItem (fun _ _ _ _ => rfl) (fun _ _ => rfl) x
def laws_eqTask (p0 : Task) (p1 : Task) : Bool :=
  (bif (p0.Op != p1.Op) then false else (bif (p0.Pc != p1.Pc) then false else (bif (!(laws_eqSpan p0.S p1.S)) then false else (bif (p0.Trace != p1.Trace) then false else (bif (p0.Stamp != p1.Stamp) then false else (bif (!(laws_eqItemS p0.Hand p1.Hand)) then false else (bif (p0.H != p1.H) then false else true)))))))
theorem c_laws_eqTask (p0 : Task) (p1 : Task) : FnOk prog 157 [.agg ((Task.cells false) p0), .agg ((Task.cells false) p1)] ⟨.one (.v (.bool (laws_eqTask p0 p1))), [], [], false⟩ := by
  refine FnOk.intro (E := env) envOk wide func157 rfl (by kernel_rfl) rfl rfl ?_
  refine litE (m := 0) rfl ?_
  refine litE (m := 1) rfl ?_
  refine And.intro (fun (h1 : (p0.Op != p1.Op) = true) => ?_) (fun (h1 : (p0.Op != p1.Op) = false) => ?_)
  · refine And.intro (fun _ => .v _) ?_
    have hg : laws_eqTask p0 p1 = false := by
      first | rfl | (simp only [laws_eqTask, h1, cond_true, cond_false, Step.fin_stop, Step.fin_done, Fin.get_fin, Fin.get_done, Step.fin_next, Bool.not_true, Bool.not_false, Option.getD_some]; done) | (simp [laws_eqTask, h1, cond_true, cond_false, Step.fin_stop, Step.fin_done, Fin.get_fin, Fin.get_done, Step.fin_next, Bool.not_true, Bool.not_false, Option.getD_some]; done) | (exfalso; simp_all; done)
    exact congrArg (fun g : Bool => AV.one (.v (.bool g))) hg.symm
  · refine And.intro (fun (h2 : (p0.Pc != p1.Pc) = true) => ?_) (fun (h2 : (p0.Pc != p1.Pc) = false) => ?_)
    · refine And.intro (fun _ => .v _) ?_
      have hg : laws_eqTask p0 p1 = false := by
        first | rfl | (simp only [laws_eqTask, h1, h2, cond_true, cond_false, Step.fin_stop, Step.fin_done, Fin.get_fin, Fin.get_done, Step.fin_next, Bool.not_true, Bool.not_false, Option.getD_some]; done) | (simp [laws_eqTask, h1, h2, cond_true, cond_false, Step.fin_stop, Step.fin_done, Fin.get_fin, Fin.get_done, Step.fin_next, Bool.not_true, Bool.not_false, Option.getD_some]; done) | (exfalso; simp_all; done)
      exact congrArg (fun g : Bool => AV.one (.v (.bool g))) hg.symm
    · refine ⟨_, _, c_laws_eqSpan p0.S p1.S, (FzAs.same _), ?_⟩
      refine litE (m := 3) rfl ?_
      refine And.intro (fun (h3 : (!(laws_eqSpan p0.S p1.S)) = true) => ?_) (fun (h3 : (!(laws_eqSpan p0.S p1.S)) = false) => ?_)
      · refine And.intro (fun _ => .v _) ?_
        have hg : laws_eqTask p0 p1 = false := by
          first | rfl | (simp only [laws_eqTask, h1, h2, h3, cond_true, cond_false, Step.fin_stop, Step.fin_done, Fin.get_fin, Fin.get_done, Step.fin_next, Bool.not_true, Bool.not_false, Option.getD_some]; done) | (simp [laws_eqTask, h1, h2, h3, cond_true, cond_false, Step.fin_stop, Step.fin_done, Fin.get_fin, Fin.get_done, Step.fin_next, Bool.not_true, Bool.not_false, Option.getD_some]; done) | (exfalso; simp_all; done)
        exact congrArg (fun g : Bool => AV.one (.v (.bool g))) hg.symm
      · refine And.intro (fun (h4 : (p0.Trace != p1.Trace) = true) => ?_) (fun (h4 : (p0.Trace != p1.Trace) = false) => ?_)
        · refine And.intro (fun _ => .v _) ?_
          have hg : laws_eqTask p0 p1 = false := by
            first | rfl | (simp only [laws_eqTask, h1, h2, h3, h4, cond_true, cond_false, Step.fin_stop, Step.fin_done, Fin.get_fin, Fin.get_done, Step.fin_next, Bool.not_true, Bool.not_false, Option.getD_some]; done) | (simp [laws_eqTask, h1, h2, h3, h4, cond_true, cond_false, Step.fin_stop, Step.fin_done, Fin.get_fin, Fin.get_done, Step.fin_next, Bool.not_true, Bool.not_false, Option.getD_some]; done) | (exfalso; simp_all; done)
          exact congrArg (fun g : Bool => AV.one (.v (.bool g))) hg.symm
        · refine And.intro (fun (h5 : (p0.Stamp != p1.Stamp) = true) => ?_) (fun (h5 : (p0.Stamp != p1.Stamp) = false) => ?_)
          · refine And.intro (fun _ => .v _) ?_
            have hg : laws_eqTask p0 p1 = false := by
              first | rfl | (simp only [laws_eqTask, h1, h2, h3, h4, h5, cond_true, cond_false, Step.fin_stop, Step.fin_done, Fin.get_fin, Fin.get_done, Step.fin_next, Bool.not_true, Bool.not_false, Option.getD_some]; done) | (simp [laws_eqTask, h1, h2, h3, h4, h5, cond_true, cond_false, Step.fin_stop, Step.fin_done, Fin.get_fin, Fin.get_done, Step.fin_next, Bool.not_true, Bool.not_false, Option.getD_some]; done) | (exfalso; simp_all; done)
            exact congrArg (fun g : Bool => AV.one (.v (.bool g))) hg.symm
          · refine ⟨_, _, c_laws_eqItemS p0.Hand p1.Hand, (FzAs.same _), ?_⟩
            refine litE (m := 4) rfl ?_
            refine And.intro (fun (h6 : (!(laws_eqItemS p0.Hand p1.Hand)) = true) => ?_) (fun (h6 : (!(laws_eqItemS p0.Hand p1.Hand)) = false) => ?_)
            · refine And.intro (fun _ => .v _) ?_
              have hg : laws_eqTask p0 p1 = false := by
                first | rfl | (simp only [laws_eqTask, h1, h2, h3, h4, h5, h6, cond_true, cond_false, Step.fin_stop, Step.fin_done, Fin.get_fin, Fin.get_done, Step.fin_next, Bool.not_true, Bool.not_false, Option.getD_some]; done) | (simp [laws_eqTask, h1, h2, h3, h4, h5, h6, cond_true, cond_false, Step.fin_stop, Step.fin_done, Fin.get_fin, Fin.get_done, Step.fin_next, Bool.not_true, Bool.not_false, Option.getD_some]; done) | (exfalso; simp_all; done)
              exact congrArg (fun g : Bool => AV.one (.v (.bool g))) hg.symm
            · refine And.intro (fun (h7 : (p0.H != p1.H) = true) => ?_) (fun (h7 : (p0.H != p1.H) = false) => ?_)
              · refine And.intro (fun _ => .v _) ?_
                have hg : laws_eqTask p0 p1 = false := by
                  first | rfl | (simp only [laws_eqTask, h1, h2, h3, h4, h5, h6, h7, cond_true, cond_false, Step.fin_stop, Step.fin_done, Fin.get_fin, Fin.get_done, Step.fin_next, Bool.not_true, Bool.not_false, Option.getD_some]; done) | (simp [laws_eqTask, h1, h2, h3, h4, h5, h6, h7, cond_true, cond_false, Step.fin_stop, Step.fin_done, Fin.get_fin, Fin.get_done, Step.fin_next, Bool.not_true, Bool.not_false, Option.getD_some]; done) | (exfalso; simp_all; done)
                exact congrArg (fun g : Bool => AV.one (.v (.bool g))) hg.symm
              · refine And.intro (fun _ => .v _) ?_
                have hg : laws_eqTask p0 p1 = true := by
                  first | rfl | (simp only [laws_eqTask, h1, h2, h3, h4, h5, h6, h7, cond_true, cond_false, Step.fin_stop, Step.fin_done, Fin.get_fin, Fin.get_done, Step.fin_next, Bool.not_true, Bool.not_false, Option.getD_some]; done) | (simp [laws_eqTask, h1, h2, h3, h4, h5, h6, h7, cond_true, cond_false, Step.fin_stop, Step.fin_done, Fin.get_fin, Fin.get_done, Step.fin_next, Bool.not_true, Bool.not_false, Option.getD_some]; done) | (exfalso; simp_all; done)
                exact congrArg (fun g : Bool => AV.one (.v (.bool g))) hg.symm
theorem rf_laws_eqTask (x : Task) : laws_eqTask x x = true := by
  simp [laws_eqTask, rf_laws_eqSpan, rf_laws_eqItemS]
def laws_eqTaskS_b1 (p1 : (List Task)) (i1 : Nat) (s1 : Unit) (a1 : Task) : Step (Unit) Bool :=
  (bif (!(laws_eqTask a1 (p1[i1]?.getD default))) then (.done false) else (.next ()))
def laws_eqTaskS (p0 : (List Task)) (p1 : (List Task)) : Bool :=
  (bif ((((p0).length : Nat) : Int) != (((p1).length : Nat) : Int)) then false else (Fin.get (fun s1 => true) (loopL (laws_eqTaskS_b1 p1) 0 () p0)))
theorem c_laws_eqTaskS (p0 : (List Task)) (p1 : (List Task)) : FnOk prog 82 [.one (.s false 12 (List.map (Task.cells false) p0)), .one (.s false 12 (List.map (Task.cells false) p1))] ⟨.one (.v (.bool (laws_eqTaskS p0 p1))), [], [], false⟩ := by
  refine FnOk.intro (E := env) envOk wide func82 rfl (by kernel_rfl) rfl rfl ?_
  refine lenE (k := (p0).length) (by simp) (fun hN1 => ?_)
  refine lenE (k := (p1).length) (by simp) (fun hN2 => ?_)
  refine And.intro (fun (h3 : ((((p0).length : Nat) : Int) != (((p1).length : Nat) : Int)) = true) => ?_) (fun (h3 : ((((p0).length : Nat) : Int) != (((p1).length : Nat) : Int)) = false) => ?_)
  · refine And.intro (fun _ => .v _) ?_
    have hg : laws_eqTaskS p0 p1 = false := by
      first | rfl | (simp only [laws_eqTaskS, h3, cond_true, cond_false, Step.fin_stop, Step.fin_done, Fin.get_fin, Fin.get_done, Step.fin_next, Bool.not_true, Bool.not_false, Option.getD_some]; done) | (simp [laws_eqTaskS, h3, cond_true, cond_false, Step.fin_stop, Step.fin_done, Fin.get_fin, Fin.get_done, Step.fin_next, Bool.not_true, Bool.not_false, Option.getD_some]; done) | (exfalso; simp_all; done)
    exact congrArg (fun g : Bool => AV.one (.v (.bool g))) hg.symm
  · refine loop_rule (α := LstSt (laws_eqTaskS_b1 p1) () p0) [0, 1] (fun x1 => [(5, .one (.v (.int .i64 ((x1.i : Nat) : Int))))]) (fun x1 => []) (fun x1 => (p0).length - x1.i) .init [] ?_ (fun x1 => ?_)
    · exact ⟨rfl, ⟨rfl, rfl, rfl, trivial⟩, trivial, trivial⟩
    · refine lenE (k := (p0).length) (by simp) (fun hN4 => ?_)
      refine And.intro (fun (h5 : (decide (((x1.i : Nat) : Int) < (((p0).length : Nat) : Int))) = true) => ?_) (fun (h5 : (decide (((x1.i : Nat) : Int) < (((p0).length : Nat) : Int))) = false) => ?_)
      · have hi1 : x1.i < (p0).length := by simpa using h5
        have hw1 : IntKind.i64.wrap ((x1.i : Int) + 1) = ((x1.i + 1 : Nat) : Int) := wrap_succ hi1 (by first | assumption | omega)
        refine .inl ⟨by kernel_rfl, ?_⟩
        refine And.intro (fun _ => by exact idx_at hi1) (rowAtE (i := x1.i) (l := p0) rfl hi1 ?_)
        refine And.intro (fun _ => by (first | omega | (simp; done) | (simp; omega) | (simp at *; omega) | (simp at *; done) | (simp_all; done) | (simp_all; omega))) (rowOfE (i := x1.i) (l := p1) rfl (fun e6 he6 => ?_))
        refine ⟨_, _, c_laws_eqTask (p0[x1.i]'hi1) e6, (FzAs.same _), ?_⟩
        refine And.intro (fun (h7 : (!(laws_eqTask (p0[x1.i]'hi1) e6)) = true) => ?_) (fun (h7 : (!(laws_eqTask (p0[x1.i]'hi1) e6)) = false) => ?_)
        · have hb1 := x1.out hi1 (by first | rfl | (simp only [laws_eqTaskS_b1, h3, h5, he6, h7, cond_true, cond_false, Bool.not_true, Bool.not_false, Option.getD_some, Step.isNext_stop, Step.isNext_done, Step.fin_stop, Step.fin_done, Fin.get_fin, Fin.get_done]; done) | (exfalso; simp_all; done))
          refine And.intro (fun _ => .v _) ?_
          have hg : laws_eqTaskS p0 p1 = false := by
            first | rfl | (simp only [laws_eqTaskS, laws_eqTaskS_b1, h3, h5, he6, h7, hb1, cond_true, cond_false, Step.fin_stop, Step.fin_done, Fin.get_fin, Fin.get_done, Step.fin_next, Bool.not_true, Bool.not_false, Option.getD_some]; done) | (simp [laws_eqTaskS, laws_eqTaskS_b1, h3, h5, he6, h7, hb1, cond_true, cond_false, Step.fin_stop, Step.fin_done, Fin.get_fin, Fin.get_done, Step.fin_next, Bool.not_true, Bool.not_false, Option.getD_some]; done) | (exfalso; simp_all; done)
          exact congrArg (fun g : Bool => AV.one (.v (.bool g))) hg.symm
        · refine x1.go hi1 (v := ()) (by first | rfl | (simp only [laws_eqTaskS_b1, h3, h5, he6, h7, cond_true, cond_false, Bool.not_true, Bool.not_false, Option.getD_some, Step.fin_stop, Step.fin_done, Fin.get_fin, Fin.get_done]; done) | (exfalso; simp_all; done)) [] (by show _ - (x1.i + 1) < _ - x1.i; omega) ?_
          exact ⟨rfl, ⟨(eqInt hw1), rfl, rfl, trivial⟩, trivial, trivial⟩
      · have hf1 := x1.fin (show ¬ x1.i < (p0).length by simpa using h5)
        refine And.intro (fun _ => .v _) ?_
        have hg : laws_eqTaskS p0 p1 = true := by
          first | rfl | (simp only [laws_eqTaskS, laws_eqTaskS_b1, h3, h5, hf1, cond_true, cond_false, Step.fin_stop, Step.fin_done, Fin.get_fin, Fin.get_done, Step.fin_next, Bool.not_true, Bool.not_false, Option.getD_some]; done) | (simp [laws_eqTaskS, laws_eqTaskS_b1, h3, h5, hf1, cond_true, cond_false, Step.fin_stop, Step.fin_done, Fin.get_fin, Fin.get_done, Step.fin_next, Bool.not_true, Bool.not_false, Option.getD_some]; done) | (exfalso; simp_all; done)
        exact congrArg (fun g : Bool => AV.one (.v (.bool g))) hg.symm
theorem rf_laws_eqTaskS (x : (List Task)) : laws_eqTaskS x x = true := eqS_ok (b := laws_eqTaskS_b1) rf_laws_eqTask (fun _ _ _ _ => rfl) (fun _ _ => rfl) x
def laws_eqDeed (p0 : Deed) (p1 : Deed) : Bool :=
  (bif (p0.Op != p1.Op) then false else (bif (p0.Task != p1.Task) then false else (bif (!(laws_eqSpan p0.S p1.S)) then false else (bif (p0.Trace != p1.Trace) then false else (bif (p0.Stamp != p1.Stamp) then false else (bif (p0.Code != p1.Code) then false else (bif (!(p0.Keep == p1.Keep)) then false else (bif (!(p0.Void == p1.Void)) then false else (bif (p0.Took != p1.Took) then false else (bif (p0.N != p1.N) then false else (bif (p0.Forgot != p1.Forgot) then false else (bif (p0.Now != p1.Now) then false else (bif (p0.Inv != p1.Inv) then false else (bif (p0.Lin != p1.Lin) then false else (bif (p0.Res != p1.Res) then false else true)))))))))))))))
theorem c_laws_eqDeed (p0 : Deed) (p1 : Deed) : FnOk prog 110 [.agg ((Deed.cells false) p0), .agg ((Deed.cells false) p1)] ⟨.one (.v (.bool (laws_eqDeed p0 p1))), [], [], false⟩ := by
  refine FnOk.intro (E := env) envOk wide func110 rfl (by kernel_rfl) rfl rfl ?_
  refine litE (m := 0) rfl ?_
  refine litE (m := 1) rfl ?_
  refine And.intro (fun (h1 : (p0.Op != p1.Op) = true) => ?_) (fun (h1 : (p0.Op != p1.Op) = false) => ?_)
  · refine And.intro (fun _ => .v _) ?_
    have hg : laws_eqDeed p0 p1 = false := by
      first | rfl | (simp only [laws_eqDeed, h1, cond_true, cond_false, Step.fin_stop, Step.fin_done, Fin.get_fin, Fin.get_done, Step.fin_next, Bool.not_true, Bool.not_false, Option.getD_some]; done) | (simp [laws_eqDeed, h1, cond_true, cond_false, Step.fin_stop, Step.fin_done, Fin.get_fin, Fin.get_done, Step.fin_next, Bool.not_true, Bool.not_false, Option.getD_some]; done) | (exfalso; simp_all; done)
    exact congrArg (fun g : Bool => AV.one (.v (.bool g))) hg.symm
  · refine And.intro (fun (h2 : (p0.Task != p1.Task) = true) => ?_) (fun (h2 : (p0.Task != p1.Task) = false) => ?_)
    · refine And.intro (fun _ => .v _) ?_
      have hg : laws_eqDeed p0 p1 = false := by
        first | rfl | (simp only [laws_eqDeed, h1, h2, cond_true, cond_false, Step.fin_stop, Step.fin_done, Fin.get_fin, Fin.get_done, Step.fin_next, Bool.not_true, Bool.not_false, Option.getD_some]; done) | (simp [laws_eqDeed, h1, h2, cond_true, cond_false, Step.fin_stop, Step.fin_done, Fin.get_fin, Fin.get_done, Step.fin_next, Bool.not_true, Bool.not_false, Option.getD_some]; done) | (exfalso; simp_all; done)
      exact congrArg (fun g : Bool => AV.one (.v (.bool g))) hg.symm
    · refine ⟨_, _, c_laws_eqSpan p0.S p1.S, (FzAs.same _), ?_⟩
      refine litE (m := 3) rfl ?_
      refine And.intro (fun (h3 : (!(laws_eqSpan p0.S p1.S)) = true) => ?_) (fun (h3 : (!(laws_eqSpan p0.S p1.S)) = false) => ?_)
      · refine And.intro (fun _ => .v _) ?_
        have hg : laws_eqDeed p0 p1 = false := by
          first | rfl | (simp only [laws_eqDeed, h1, h2, h3, cond_true, cond_false, Step.fin_stop, Step.fin_done, Fin.get_fin, Fin.get_done, Step.fin_next, Bool.not_true, Bool.not_false, Option.getD_some]; done) | (simp [laws_eqDeed, h1, h2, h3, cond_true, cond_false, Step.fin_stop, Step.fin_done, Fin.get_fin, Fin.get_done, Step.fin_next, Bool.not_true, Bool.not_false, Option.getD_some]; done) | (exfalso; simp_all; done)
        exact congrArg (fun g : Bool => AV.one (.v (.bool g))) hg.symm
      · refine And.intro (fun (h4 : (p0.Trace != p1.Trace) = true) => ?_) (fun (h4 : (p0.Trace != p1.Trace) = false) => ?_)
        · refine And.intro (fun _ => .v _) ?_
          have hg : laws_eqDeed p0 p1 = false := by
            first | rfl | (simp only [laws_eqDeed, h1, h2, h3, h4, cond_true, cond_false, Step.fin_stop, Step.fin_done, Fin.get_fin, Fin.get_done, Step.fin_next, Bool.not_true, Bool.not_false, Option.getD_some]; done) | (simp [laws_eqDeed, h1, h2, h3, h4, cond_true, cond_false, Step.fin_stop, Step.fin_done, Fin.get_fin, Fin.get_done, Step.fin_next, Bool.not_true, Bool.not_false, Option.getD_some]; done) | (exfalso; simp_all; done)
          exact congrArg (fun g : Bool => AV.one (.v (.bool g))) hg.symm
        · refine And.intro (fun (h5 : (p0.Stamp != p1.Stamp) = true) => ?_) (fun (h5 : (p0.Stamp != p1.Stamp) = false) => ?_)
          · refine And.intro (fun _ => .v _) ?_
            have hg : laws_eqDeed p0 p1 = false := by
              first | rfl | (simp only [laws_eqDeed, h1, h2, h3, h4, h5, cond_true, cond_false, Step.fin_stop, Step.fin_done, Fin.get_fin, Fin.get_done, Step.fin_next, Bool.not_true, Bool.not_false, Option.getD_some]; done) | (simp [laws_eqDeed, h1, h2, h3, h4, h5, cond_true, cond_false, Step.fin_stop, Step.fin_done, Fin.get_fin, Fin.get_done, Step.fin_next, Bool.not_true, Bool.not_false, Option.getD_some]; done) | (exfalso; simp_all; done)
            exact congrArg (fun g : Bool => AV.one (.v (.bool g))) hg.symm
          · refine And.intro (fun (h6 : (p0.Code != p1.Code) = true) => ?_) (fun (h6 : (p0.Code != p1.Code) = false) => ?_)
            · refine And.intro (fun _ => .v _) ?_
              have hg : laws_eqDeed p0 p1 = false := by
                first | rfl | (simp only [laws_eqDeed, h1, h2, h3, h4, h5, h6, cond_true, cond_false, Step.fin_stop, Step.fin_done, Fin.get_fin, Fin.get_done, Step.fin_next, Bool.not_true, Bool.not_false, Option.getD_some]; done) | (simp [laws_eqDeed, h1, h2, h3, h4, h5, h6, cond_true, cond_false, Step.fin_stop, Step.fin_done, Fin.get_fin, Fin.get_done, Step.fin_next, Bool.not_true, Bool.not_false, Option.getD_some]; done) | (exfalso; simp_all; done)
              exact congrArg (fun g : Bool => AV.one (.v (.bool g))) hg.symm
            · refine And.intro (fun (h7 : (!(p0.Keep == p1.Keep)) = true) => ?_) (fun (h7 : (!(p0.Keep == p1.Keep)) = false) => ?_)
              · refine And.intro (fun _ => .v _) ?_
                have hg : laws_eqDeed p0 p1 = false := by
                  first | rfl | (simp only [laws_eqDeed, h1, h2, h3, h4, h5, h6, h7, cond_true, cond_false, Step.fin_stop, Step.fin_done, Fin.get_fin, Fin.get_done, Step.fin_next, Bool.not_true, Bool.not_false, Option.getD_some]; done) | (simp [laws_eqDeed, h1, h2, h3, h4, h5, h6, h7, cond_true, cond_false, Step.fin_stop, Step.fin_done, Fin.get_fin, Fin.get_done, Step.fin_next, Bool.not_true, Bool.not_false, Option.getD_some]; done) | (exfalso; simp_all; done)
                exact congrArg (fun g : Bool => AV.one (.v (.bool g))) hg.symm
              · refine And.intro (fun (h8 : (!(p0.Void == p1.Void)) = true) => ?_) (fun (h8 : (!(p0.Void == p1.Void)) = false) => ?_)
                · refine And.intro (fun _ => .v _) ?_
                  have hg : laws_eqDeed p0 p1 = false := by
                    first | rfl | (simp only [laws_eqDeed, h1, h2, h3, h4, h5, h6, h7, h8, cond_true, cond_false, Step.fin_stop, Step.fin_done, Fin.get_fin, Fin.get_done, Step.fin_next, Bool.not_true, Bool.not_false, Option.getD_some]; done) | (simp [laws_eqDeed, h1, h2, h3, h4, h5, h6, h7, h8, cond_true, cond_false, Step.fin_stop, Step.fin_done, Fin.get_fin, Fin.get_done, Step.fin_next, Bool.not_true, Bool.not_false, Option.getD_some]; done) | (exfalso; simp_all; done)
                  exact congrArg (fun g : Bool => AV.one (.v (.bool g))) hg.symm
                · refine And.intro (fun (h9 : (p0.Took != p1.Took) = true) => ?_) (fun (h9 : (p0.Took != p1.Took) = false) => ?_)
                  · refine And.intro (fun _ => .v _) ?_
                    have hg : laws_eqDeed p0 p1 = false := by
                      first | rfl | (simp only [laws_eqDeed, h1, h2, h3, h4, h5, h6, h7, h8, h9, cond_true, cond_false, Step.fin_stop, Step.fin_done, Fin.get_fin, Fin.get_done, Step.fin_next, Bool.not_true, Bool.not_false, Option.getD_some]; done) | (simp [laws_eqDeed, h1, h2, h3, h4, h5, h6, h7, h8, h9, cond_true, cond_false, Step.fin_stop, Step.fin_done, Fin.get_fin, Fin.get_done, Step.fin_next, Bool.not_true, Bool.not_false, Option.getD_some]; done) | (exfalso; simp_all; done)
                    exact congrArg (fun g : Bool => AV.one (.v (.bool g))) hg.symm
                  · refine And.intro (fun (h10 : (p0.N != p1.N) = true) => ?_) (fun (h10 : (p0.N != p1.N) = false) => ?_)
                    · refine And.intro (fun _ => .v _) ?_
                      have hg : laws_eqDeed p0 p1 = false := by
                        first | rfl | (simp only [laws_eqDeed, h1, h2, h3, h4, h5, h6, h7, h8, h9, h10, cond_true, cond_false, Step.fin_stop, Step.fin_done, Fin.get_fin, Fin.get_done, Step.fin_next, Bool.not_true, Bool.not_false, Option.getD_some]; done) | (simp [laws_eqDeed, h1, h2, h3, h4, h5, h6, h7, h8, h9, h10, cond_true, cond_false, Step.fin_stop, Step.fin_done, Fin.get_fin, Fin.get_done, Step.fin_next, Bool.not_true, Bool.not_false, Option.getD_some]; done) | (exfalso; simp_all; done)
                      exact congrArg (fun g : Bool => AV.one (.v (.bool g))) hg.symm
                    · refine And.intro (fun (h11 : (p0.Forgot != p1.Forgot) = true) => ?_) (fun (h11 : (p0.Forgot != p1.Forgot) = false) => ?_)
                      · refine And.intro (fun _ => .v _) ?_
                        have hg : laws_eqDeed p0 p1 = false := by
                          first | rfl | (simp only [laws_eqDeed, h1, h2, h3, h4, h5, h6, h7, h8, h9, h10, h11, cond_true, cond_false, Step.fin_stop, Step.fin_done, Fin.get_fin, Fin.get_done, Step.fin_next, Bool.not_true, Bool.not_false, Option.getD_some]; done) | (simp [laws_eqDeed, h1, h2, h3, h4, h5, h6, h7, h8, h9, h10, h11, cond_true, cond_false, Step.fin_stop, Step.fin_done, Fin.get_fin, Fin.get_done, Step.fin_next, Bool.not_true, Bool.not_false, Option.getD_some]; done) | (exfalso; simp_all; done)
                        exact congrArg (fun g : Bool => AV.one (.v (.bool g))) hg.symm
                      · refine And.intro (fun (h12 : (p0.Now != p1.Now) = true) => ?_) (fun (h12 : (p0.Now != p1.Now) = false) => ?_)
                        · refine And.intro (fun _ => .v _) ?_
                          have hg : laws_eqDeed p0 p1 = false := by
                            first | rfl | (simp only [laws_eqDeed, h1, h2, h3, h4, h5, h6, h7, h8, h9, h10, h11, h12, cond_true, cond_false, Step.fin_stop, Step.fin_done, Fin.get_fin, Fin.get_done, Step.fin_next, Bool.not_true, Bool.not_false, Option.getD_some]; done) | (simp [laws_eqDeed, h1, h2, h3, h4, h5, h6, h7, h8, h9, h10, h11, h12, cond_true, cond_false, Step.fin_stop, Step.fin_done, Fin.get_fin, Fin.get_done, Step.fin_next, Bool.not_true, Bool.not_false, Option.getD_some]; done) | (exfalso; simp_all; done)
                          exact congrArg (fun g : Bool => AV.one (.v (.bool g))) hg.symm
                        · refine And.intro (fun (h13 : (p0.Inv != p1.Inv) = true) => ?_) (fun (h13 : (p0.Inv != p1.Inv) = false) => ?_)
                          · refine And.intro (fun _ => .v _) ?_
                            have hg : laws_eqDeed p0 p1 = false := by
                              first | rfl | (simp only [laws_eqDeed, h1, h2, h3, h4, h5, h6, h7, h8, h9, h10, h11, h12, h13, cond_true, cond_false, Step.fin_stop, Step.fin_done, Fin.get_fin, Fin.get_done, Step.fin_next, Bool.not_true, Bool.not_false, Option.getD_some]; done) | (simp [laws_eqDeed, h1, h2, h3, h4, h5, h6, h7, h8, h9, h10, h11, h12, h13, cond_true, cond_false, Step.fin_stop, Step.fin_done, Fin.get_fin, Fin.get_done, Step.fin_next, Bool.not_true, Bool.not_false, Option.getD_some]; done) | (exfalso; simp_all; done)
                            exact congrArg (fun g : Bool => AV.one (.v (.bool g))) hg.symm
                          · refine And.intro (fun (h14 : (p0.Lin != p1.Lin) = true) => ?_) (fun (h14 : (p0.Lin != p1.Lin) = false) => ?_)
                            · refine And.intro (fun _ => .v _) ?_
                              have hg : laws_eqDeed p0 p1 = false := by
                                first | rfl | (simp only [laws_eqDeed, h1, h2, h3, h4, h5, h6, h7, h8, h9, h10, h11, h12, h13, h14, cond_true, cond_false, Step.fin_stop, Step.fin_done, Fin.get_fin, Fin.get_done, Step.fin_next, Bool.not_true, Bool.not_false, Option.getD_some]; done) | (simp [laws_eqDeed, h1, h2, h3, h4, h5, h6, h7, h8, h9, h10, h11, h12, h13, h14, cond_true, cond_false, Step.fin_stop, Step.fin_done, Fin.get_fin, Fin.get_done, Step.fin_next, Bool.not_true, Bool.not_false, Option.getD_some]; done) | (exfalso; simp_all; done)
                              exact congrArg (fun g : Bool => AV.one (.v (.bool g))) hg.symm
                            · refine And.intro (fun (h15 : (p0.Res != p1.Res) = true) => ?_) (fun (h15 : (p0.Res != p1.Res) = false) => ?_)
                              · refine And.intro (fun _ => .v _) ?_
                                have hg : laws_eqDeed p0 p1 = false := by
                                  first | rfl | (simp only [laws_eqDeed, h1, h2, h3, h4, h5, h6, h7, h8, h9, h10, h11, h12, h13, h14, h15, cond_true, cond_false, Step.fin_stop, Step.fin_done, Fin.get_fin, Fin.get_done, Step.fin_next, Bool.not_true, Bool.not_false, Option.getD_some]; done) | (simp [laws_eqDeed, h1, h2, h3, h4, h5, h6, h7, h8, h9, h10, h11, h12, h13, h14, h15, cond_true, cond_false, Step.fin_stop, Step.fin_done, Fin.get_fin, Fin.get_done, Step.fin_next, Bool.not_true, Bool.not_false, Option.getD_some]; done) | (exfalso; simp_all; done)
                                exact congrArg (fun g : Bool => AV.one (.v (.bool g))) hg.symm
                              · refine And.intro (fun _ => .v _) ?_
                                have hg : laws_eqDeed p0 p1 = true := by
                                  first | rfl | (simp only [laws_eqDeed, h1, h2, h3, h4, h5, h6, h7, h8, h9, h10, h11, h12, h13, h14, h15, cond_true, cond_false, Step.fin_stop, Step.fin_done, Fin.get_fin, Fin.get_done, Step.fin_next, Bool.not_true, Bool.not_false, Option.getD_some]; done) | (simp [laws_eqDeed, h1, h2, h3, h4, h5, h6, h7, h8, h9, h10, h11, h12, h13, h14, h15, cond_true, cond_false, Step.fin_stop, Step.fin_done, Fin.get_fin, Fin.get_done, Step.fin_next, Bool.not_true, Bool.not_false, Option.getD_some]; done) | (exfalso; simp_all; done)
                                exact congrArg (fun g : Bool => AV.one (.v (.bool g))) hg.symm
theorem rf_laws_eqDeed (x : Deed) : laws_eqDeed x x = true := by
  simp [laws_eqDeed, rf_laws_eqSpan]
def laws_eqDeedS_b1 (p1 : (List Deed)) (i1 : Nat) (s1 : Unit) (a1 : Deed) : Step (Unit) Bool :=
  (bif (!(laws_eqDeed a1 (p1[i1]?.getD default))) then (.done false) else (.next ()))
def laws_eqDeedS (p0 : (List Deed)) (p1 : (List Deed)) : Bool :=
  (bif ((((p0).length : Nat) : Int) != (((p1).length : Nat) : Int)) then false else (Fin.get (fun s1 => true) (loopL (laws_eqDeedS_b1 p1) 0 () p0)))
theorem c_laws_eqDeedS (p0 : (List Deed)) (p1 : (List Deed)) : FnOk prog 33 [.one (.s false 20 (List.map (Deed.cells false) p0)), .one (.s false 20 (List.map (Deed.cells false) p1))] ⟨.one (.v (.bool (laws_eqDeedS p0 p1))), [], [], false⟩ := by
  refine FnOk.intro (E := env) envOk wide func33 rfl (by kernel_rfl) rfl rfl ?_
  refine lenE (k := (p0).length) (by simp) (fun hN1 => ?_)
  refine lenE (k := (p1).length) (by simp) (fun hN2 => ?_)
  refine And.intro (fun (h3 : ((((p0).length : Nat) : Int) != (((p1).length : Nat) : Int)) = true) => ?_) (fun (h3 : ((((p0).length : Nat) : Int) != (((p1).length : Nat) : Int)) = false) => ?_)
  · refine And.intro (fun _ => .v _) ?_
    have hg : laws_eqDeedS p0 p1 = false := by
      first | rfl | (simp only [laws_eqDeedS, h3, cond_true, cond_false, Step.fin_stop, Step.fin_done, Fin.get_fin, Fin.get_done, Step.fin_next, Bool.not_true, Bool.not_false, Option.getD_some]; done) | (simp [laws_eqDeedS, h3, cond_true, cond_false, Step.fin_stop, Step.fin_done, Fin.get_fin, Fin.get_done, Step.fin_next, Bool.not_true, Bool.not_false, Option.getD_some]; done) | (exfalso; simp_all; done)
    exact congrArg (fun g : Bool => AV.one (.v (.bool g))) hg.symm
  · refine loop_rule (α := LstSt (laws_eqDeedS_b1 p1) () p0) [0, 1] (fun x1 => [(5, .one (.v (.int .i64 ((x1.i : Nat) : Int))))]) (fun x1 => []) (fun x1 => (p0).length - x1.i) .init [] ?_ (fun x1 => ?_)
    · exact ⟨rfl, ⟨rfl, rfl, rfl, trivial⟩, trivial, trivial⟩
    · refine lenE (k := (p0).length) (by simp) (fun hN4 => ?_)
      refine And.intro (fun (h5 : (decide (((x1.i : Nat) : Int) < (((p0).length : Nat) : Int))) = true) => ?_) (fun (h5 : (decide (((x1.i : Nat) : Int) < (((p0).length : Nat) : Int))) = false) => ?_)
      · have hi1 : x1.i < (p0).length := by simpa using h5
        have hw1 : IntKind.i64.wrap ((x1.i : Int) + 1) = ((x1.i + 1 : Nat) : Int) := wrap_succ hi1 (by first | assumption | omega)
        refine .inl ⟨by kernel_rfl, ?_⟩
        refine And.intro (fun _ => by exact idx_at hi1) (rowAtE (i := x1.i) (l := p0) rfl hi1 ?_)
        refine And.intro (fun _ => by (first | omega | (simp; done) | (simp; omega) | (simp at *; omega) | (simp at *; done) | (simp_all; done) | (simp_all; omega))) (rowOfE (i := x1.i) (l := p1) rfl (fun e6 he6 => ?_))
        refine ⟨_, _, c_laws_eqDeed (p0[x1.i]'hi1) e6, (FzAs.same _), ?_⟩
        refine And.intro (fun (h7 : (!(laws_eqDeed (p0[x1.i]'hi1) e6)) = true) => ?_) (fun (h7 : (!(laws_eqDeed (p0[x1.i]'hi1) e6)) = false) => ?_)
        · have hb1 := x1.out hi1 (by first | rfl | (simp only [laws_eqDeedS_b1, h3, h5, he6, h7, cond_true, cond_false, Bool.not_true, Bool.not_false, Option.getD_some, Step.isNext_stop, Step.isNext_done, Step.fin_stop, Step.fin_done, Fin.get_fin, Fin.get_done]; done) | (exfalso; simp_all; done))
          refine And.intro (fun _ => .v _) ?_
          have hg : laws_eqDeedS p0 p1 = false := by
            first | rfl | (simp only [laws_eqDeedS, laws_eqDeedS_b1, h3, h5, he6, h7, hb1, cond_true, cond_false, Step.fin_stop, Step.fin_done, Fin.get_fin, Fin.get_done, Step.fin_next, Bool.not_true, Bool.not_false, Option.getD_some]; done) | (simp [laws_eqDeedS, laws_eqDeedS_b1, h3, h5, he6, h7, hb1, cond_true, cond_false, Step.fin_stop, Step.fin_done, Fin.get_fin, Fin.get_done, Step.fin_next, Bool.not_true, Bool.not_false, Option.getD_some]; done) | (exfalso; simp_all; done)
          exact congrArg (fun g : Bool => AV.one (.v (.bool g))) hg.symm
        · refine x1.go hi1 (v := ()) (by first | rfl | (simp only [laws_eqDeedS_b1, h3, h5, he6, h7, cond_true, cond_false, Bool.not_true, Bool.not_false, Option.getD_some, Step.fin_stop, Step.fin_done, Fin.get_fin, Fin.get_done]; done) | (exfalso; simp_all; done)) [] (by show _ - (x1.i + 1) < _ - x1.i; omega) ?_
          exact ⟨rfl, ⟨(eqInt hw1), rfl, rfl, trivial⟩, trivial, trivial⟩
      · have hf1 := x1.fin (show ¬ x1.i < (p0).length by simpa using h5)
        refine And.intro (fun _ => .v _) ?_
        have hg : laws_eqDeedS p0 p1 = true := by
          first | rfl | (simp only [laws_eqDeedS, laws_eqDeedS_b1, h3, h5, hf1, cond_true, cond_false, Step.fin_stop, Step.fin_done, Fin.get_fin, Fin.get_done, Step.fin_next, Bool.not_true, Bool.not_false, Option.getD_some]; done) | (simp [laws_eqDeedS, laws_eqDeedS_b1, h3, h5, hf1, cond_true, cond_false, Step.fin_stop, Step.fin_done, Fin.get_fin, Fin.get_done, Step.fin_next, Bool.not_true, Bool.not_false, Option.getD_some]; done) | (exfalso; simp_all; done)
        exact congrArg (fun g : Bool => AV.one (.v (.bool g))) hg.symm
theorem rf_laws_eqDeedS (x : (List Deed)) : laws_eqDeedS x x = true := eqS_ok (b := laws_eqDeedS_b1) rf_laws_eqDeed (fun _ _ _ _ => rfl) (fun _ _ => rfl) x
def laws_eqWorld (p0 : World) (p1 : World) : Bool :=
  (bif (!(laws_eqConf p0.C p1.C)) then false else (bif (p0.Time != p1.Time) then false else (bif (!(p0.Shut == p1.Shut)) then false else (bif (!(laws_eqStripeS p0.St p1.St)) then false else (bif (p0.RuleHeld != p1.RuleHeld) then false else (bif (!(laws_eqBucket p0.B p1.B)) then false else (bif (!(laws_eqVerdictS p0.Cache p1.Cache)) then false else (bif (p0.Used != p1.Used) then false else (bif (!(laws_eqWheel p0.W p1.W)) then false else (bif (!(laws_eqTimerS p0.Due p1.Due)) then false else (bif (!(laws_eqItemS p0.Queue p1.Queue)) then false else (bif (!(laws_eqItemS p0.Out p1.Out)) then false else (bif (!(laws_eqTaskS p0.Tasks p1.Tasks)) then false else (bif (!(laws_eqDeedS p0.Deeds p1.Deeds)) then false else (bif (p0.Next != p1.Next) then false else true)))))))))))))))
theorem c_laws_eqWorld (p0 : World) (p1 : World) : FnOk prog 17 [.agg ((World.cells false) p0), .agg ((World.cells false) p1)] ⟨.one (.v (.bool (laws_eqWorld p0 p1))), [], [], false⟩ := by
  refine FnOk.intro (E := env) envOk wide func17 rfl (by kernel_rfl) rfl rfl ?_
  refine litE (m := 0) rfl ?_
  refine litE (m := 1) rfl ?_
  refine ⟨_, _, c_laws_eqConf p0.C p1.C, (FzAs.same _), ?_⟩
  refine litE (m := 3) rfl ?_
  refine And.intro (fun (h1 : (!(laws_eqConf p0.C p1.C)) = true) => ?_) (fun (h1 : (!(laws_eqConf p0.C p1.C)) = false) => ?_)
  · refine And.intro (fun _ => .v _) ?_
    have hg : laws_eqWorld p0 p1 = false := by
      first | rfl | (simp only [laws_eqWorld, h1, cond_true, cond_false, Step.fin_stop, Step.fin_done, Fin.get_fin, Fin.get_done, Step.fin_next, Bool.not_true, Bool.not_false, Option.getD_some]; done) | (simp [laws_eqWorld, h1, cond_true, cond_false, Step.fin_stop, Step.fin_done, Fin.get_fin, Fin.get_done, Step.fin_next, Bool.not_true, Bool.not_false, Option.getD_some]; done) | (exfalso; simp_all; done)
    exact congrArg (fun g : Bool => AV.one (.v (.bool g))) hg.symm
  · refine And.intro (fun (h2 : (p0.Time != p1.Time) = true) => ?_) (fun (h2 : (p0.Time != p1.Time) = false) => ?_)
    · refine And.intro (fun _ => .v _) ?_
      have hg : laws_eqWorld p0 p1 = false := by
        first | rfl | (simp only [laws_eqWorld, h1, h2, cond_true, cond_false, Step.fin_stop, Step.fin_done, Fin.get_fin, Fin.get_done, Step.fin_next, Bool.not_true, Bool.not_false, Option.getD_some]; done) | (simp [laws_eqWorld, h1, h2, cond_true, cond_false, Step.fin_stop, Step.fin_done, Fin.get_fin, Fin.get_done, Step.fin_next, Bool.not_true, Bool.not_false, Option.getD_some]; done) | (exfalso; simp_all; done)
      exact congrArg (fun g : Bool => AV.one (.v (.bool g))) hg.symm
    · refine And.intro (fun (h3 : (!(p0.Shut == p1.Shut)) = true) => ?_) (fun (h3 : (!(p0.Shut == p1.Shut)) = false) => ?_)
      · refine And.intro (fun _ => .v _) ?_
        have hg : laws_eqWorld p0 p1 = false := by
          first | rfl | (simp only [laws_eqWorld, h1, h2, h3, cond_true, cond_false, Step.fin_stop, Step.fin_done, Fin.get_fin, Fin.get_done, Step.fin_next, Bool.not_true, Bool.not_false, Option.getD_some]; done) | (simp [laws_eqWorld, h1, h2, h3, cond_true, cond_false, Step.fin_stop, Step.fin_done, Fin.get_fin, Fin.get_done, Step.fin_next, Bool.not_true, Bool.not_false, Option.getD_some]; done) | (exfalso; simp_all; done)
        exact congrArg (fun g : Bool => AV.one (.v (.bool g))) hg.symm
      · refine ⟨_, _, c_laws_eqStripeS p0.St p1.St, (FzAs.same _), ?_⟩
        refine litE (m := 4) rfl ?_
        refine And.intro (fun (h4 : (!(laws_eqStripeS p0.St p1.St)) = true) => ?_) (fun (h4 : (!(laws_eqStripeS p0.St p1.St)) = false) => ?_)
        · refine And.intro (fun _ => .v _) ?_
          have hg : laws_eqWorld p0 p1 = false := by
            first | rfl | (simp only [laws_eqWorld, h1, h2, h3, h4, cond_true, cond_false, Step.fin_stop, Step.fin_done, Fin.get_fin, Fin.get_done, Step.fin_next, Bool.not_true, Bool.not_false, Option.getD_some]; done) | (simp [laws_eqWorld, h1, h2, h3, h4, cond_true, cond_false, Step.fin_stop, Step.fin_done, Fin.get_fin, Fin.get_done, Step.fin_next, Bool.not_true, Bool.not_false, Option.getD_some]; done) | (exfalso; simp_all; done)
          exact congrArg (fun g : Bool => AV.one (.v (.bool g))) hg.symm
        · refine And.intro (fun (h5 : (p0.RuleHeld != p1.RuleHeld) = true) => ?_) (fun (h5 : (p0.RuleHeld != p1.RuleHeld) = false) => ?_)
          · refine And.intro (fun _ => .v _) ?_
            have hg : laws_eqWorld p0 p1 = false := by
              first | rfl | (simp only [laws_eqWorld, h1, h2, h3, h4, h5, cond_true, cond_false, Step.fin_stop, Step.fin_done, Fin.get_fin, Fin.get_done, Step.fin_next, Bool.not_true, Bool.not_false, Option.getD_some]; done) | (simp [laws_eqWorld, h1, h2, h3, h4, h5, cond_true, cond_false, Step.fin_stop, Step.fin_done, Fin.get_fin, Fin.get_done, Step.fin_next, Bool.not_true, Bool.not_false, Option.getD_some]; done) | (exfalso; simp_all; done)
            exact congrArg (fun g : Bool => AV.one (.v (.bool g))) hg.symm
          · refine ⟨_, _, c_laws_eqBucket p0.B p1.B, (FzAs.same _), ?_⟩
            refine litE (m := 5) rfl ?_
            refine And.intro (fun (h6 : (!(laws_eqBucket p0.B p1.B)) = true) => ?_) (fun (h6 : (!(laws_eqBucket p0.B p1.B)) = false) => ?_)
            · refine And.intro (fun _ => .v _) ?_
              have hg : laws_eqWorld p0 p1 = false := by
                first | rfl | (simp only [laws_eqWorld, h1, h2, h3, h4, h5, h6, cond_true, cond_false, Step.fin_stop, Step.fin_done, Fin.get_fin, Fin.get_done, Step.fin_next, Bool.not_true, Bool.not_false, Option.getD_some]; done) | (simp [laws_eqWorld, h1, h2, h3, h4, h5, h6, cond_true, cond_false, Step.fin_stop, Step.fin_done, Fin.get_fin, Fin.get_done, Step.fin_next, Bool.not_true, Bool.not_false, Option.getD_some]; done) | (exfalso; simp_all; done)
              exact congrArg (fun g : Bool => AV.one (.v (.bool g))) hg.symm
            · refine ⟨_, _, c_laws_eqVerdictS p0.Cache p1.Cache, (FzAs.same _), ?_⟩
              refine litE (m := 6) rfl ?_
              refine And.intro (fun (h7 : (!(laws_eqVerdictS p0.Cache p1.Cache)) = true) => ?_) (fun (h7 : (!(laws_eqVerdictS p0.Cache p1.Cache)) = false) => ?_)
              · refine And.intro (fun _ => .v _) ?_
                have hg : laws_eqWorld p0 p1 = false := by
                  first | rfl | (simp only [laws_eqWorld, h1, h2, h3, h4, h5, h6, h7, cond_true, cond_false, Step.fin_stop, Step.fin_done, Fin.get_fin, Fin.get_done, Step.fin_next, Bool.not_true, Bool.not_false, Option.getD_some]; done) | (simp [laws_eqWorld, h1, h2, h3, h4, h5, h6, h7, cond_true, cond_false, Step.fin_stop, Step.fin_done, Fin.get_fin, Fin.get_done, Step.fin_next, Bool.not_true, Bool.not_false, Option.getD_some]; done) | (exfalso; simp_all; done)
                exact congrArg (fun g : Bool => AV.one (.v (.bool g))) hg.symm
              · refine And.intro (fun (h8 : (p0.Used != p1.Used) = true) => ?_) (fun (h8 : (p0.Used != p1.Used) = false) => ?_)
                · refine And.intro (fun _ => .v _) ?_
                  have hg : laws_eqWorld p0 p1 = false := by
                    first | rfl | (simp only [laws_eqWorld, h1, h2, h3, h4, h5, h6, h7, h8, cond_true, cond_false, Step.fin_stop, Step.fin_done, Fin.get_fin, Fin.get_done, Step.fin_next, Bool.not_true, Bool.not_false, Option.getD_some]; done) | (simp [laws_eqWorld, h1, h2, h3, h4, h5, h6, h7, h8, cond_true, cond_false, Step.fin_stop, Step.fin_done, Fin.get_fin, Fin.get_done, Step.fin_next, Bool.not_true, Bool.not_false, Option.getD_some]; done) | (exfalso; simp_all; done)
                  exact congrArg (fun g : Bool => AV.one (.v (.bool g))) hg.symm
                · refine ⟨_, _, c_laws_eqWheel p0.W p1.W, (FzAs.same _), ?_⟩
                  refine litE (m := 7) rfl ?_
                  refine And.intro (fun (h9 : (!(laws_eqWheel p0.W p1.W)) = true) => ?_) (fun (h9 : (!(laws_eqWheel p0.W p1.W)) = false) => ?_)
                  · refine And.intro (fun _ => .v _) ?_
                    have hg : laws_eqWorld p0 p1 = false := by
                      first | rfl | (simp only [laws_eqWorld, h1, h2, h3, h4, h5, h6, h7, h8, h9, cond_true, cond_false, Step.fin_stop, Step.fin_done, Fin.get_fin, Fin.get_done, Step.fin_next, Bool.not_true, Bool.not_false, Option.getD_some]; done) | (simp [laws_eqWorld, h1, h2, h3, h4, h5, h6, h7, h8, h9, cond_true, cond_false, Step.fin_stop, Step.fin_done, Fin.get_fin, Fin.get_done, Step.fin_next, Bool.not_true, Bool.not_false, Option.getD_some]; done) | (exfalso; simp_all; done)
                    exact congrArg (fun g : Bool => AV.one (.v (.bool g))) hg.symm
                  · refine ⟨_, _, c_laws_eqTimerS p0.Due p1.Due, (FzAs.same _), ?_⟩
                    refine litE (m := 8) rfl ?_
                    refine And.intro (fun (h10 : (!(laws_eqTimerS p0.Due p1.Due)) = true) => ?_) (fun (h10 : (!(laws_eqTimerS p0.Due p1.Due)) = false) => ?_)
                    · refine And.intro (fun _ => .v _) ?_
                      have hg : laws_eqWorld p0 p1 = false := by
                        first | rfl | (simp only [laws_eqWorld, h1, h2, h3, h4, h5, h6, h7, h8, h9, h10, cond_true, cond_false, Step.fin_stop, Step.fin_done, Fin.get_fin, Fin.get_done, Step.fin_next, Bool.not_true, Bool.not_false, Option.getD_some]; done) | (simp [laws_eqWorld, h1, h2, h3, h4, h5, h6, h7, h8, h9, h10, cond_true, cond_false, Step.fin_stop, Step.fin_done, Fin.get_fin, Fin.get_done, Step.fin_next, Bool.not_true, Bool.not_false, Option.getD_some]; done) | (exfalso; simp_all; done)
                      exact congrArg (fun g : Bool => AV.one (.v (.bool g))) hg.symm
                    · refine ⟨_, _, c_laws_eqItemS p0.Queue p1.Queue, (FzAs.same _), ?_⟩
                      refine litE (m := 9) rfl ?_
                      refine And.intro (fun (h11 : (!(laws_eqItemS p0.Queue p1.Queue)) = true) => ?_) (fun (h11 : (!(laws_eqItemS p0.Queue p1.Queue)) = false) => ?_)
                      · refine And.intro (fun _ => .v _) ?_
                        have hg : laws_eqWorld p0 p1 = false := by
                          first | rfl | (simp only [laws_eqWorld, h1, h2, h3, h4, h5, h6, h7, h8, h9, h10, h11, cond_true, cond_false, Step.fin_stop, Step.fin_done, Fin.get_fin, Fin.get_done, Step.fin_next, Bool.not_true, Bool.not_false, Option.getD_some]; done) | (simp [laws_eqWorld, h1, h2, h3, h4, h5, h6, h7, h8, h9, h10, h11, cond_true, cond_false, Step.fin_stop, Step.fin_done, Fin.get_fin, Fin.get_done, Step.fin_next, Bool.not_true, Bool.not_false, Option.getD_some]; done) | (exfalso; simp_all; done)
                        exact congrArg (fun g : Bool => AV.one (.v (.bool g))) hg.symm
                      · refine ⟨_, _, c_laws_eqItemS p0.Out p1.Out, (FzAs.same _), ?_⟩
                        refine litE (m := 10) rfl ?_
                        refine And.intro (fun (h12 : (!(laws_eqItemS p0.Out p1.Out)) = true) => ?_) (fun (h12 : (!(laws_eqItemS p0.Out p1.Out)) = false) => ?_)
                        · refine And.intro (fun _ => .v _) ?_
                          have hg : laws_eqWorld p0 p1 = false := by
                            first | rfl | (simp only [laws_eqWorld, h1, h2, h3, h4, h5, h6, h7, h8, h9, h10, h11, h12, cond_true, cond_false, Step.fin_stop, Step.fin_done, Fin.get_fin, Fin.get_done, Step.fin_next, Bool.not_true, Bool.not_false, Option.getD_some]; done) | (simp [laws_eqWorld, h1, h2, h3, h4, h5, h6, h7, h8, h9, h10, h11, h12, cond_true, cond_false, Step.fin_stop, Step.fin_done, Fin.get_fin, Fin.get_done, Step.fin_next, Bool.not_true, Bool.not_false, Option.getD_some]; done) | (exfalso; simp_all; done)
                          exact congrArg (fun g : Bool => AV.one (.v (.bool g))) hg.symm
                        · refine ⟨_, _, c_laws_eqTaskS p0.Tasks p1.Tasks, (FzAs.same _), ?_⟩
                          refine litE (m := 11) rfl ?_
                          refine And.intro (fun (h13 : (!(laws_eqTaskS p0.Tasks p1.Tasks)) = true) => ?_) (fun (h13 : (!(laws_eqTaskS p0.Tasks p1.Tasks)) = false) => ?_)
                          · refine And.intro (fun _ => .v _) ?_
                            have hg : laws_eqWorld p0 p1 = false := by
                              first | rfl | (simp only [laws_eqWorld, h1, h2, h3, h4, h5, h6, h7, h8, h9, h10, h11, h12, h13, cond_true, cond_false, Step.fin_stop, Step.fin_done, Fin.get_fin, Fin.get_done, Step.fin_next, Bool.not_true, Bool.not_false, Option.getD_some]; done) | (simp [laws_eqWorld, h1, h2, h3, h4, h5, h6, h7, h8, h9, h10, h11, h12, h13, cond_true, cond_false, Step.fin_stop, Step.fin_done, Fin.get_fin, Fin.get_done, Step.fin_next, Bool.not_true, Bool.not_false, Option.getD_some]; done) | (exfalso; simp_all; done)
                            exact congrArg (fun g : Bool => AV.one (.v (.bool g))) hg.symm
                          · refine ⟨_, _, c_laws_eqDeedS p0.Deeds p1.Deeds, (FzAs.same _), ?_⟩
                            refine litE (m := 12) rfl ?_
                            refine And.intro (fun (h14 : (!(laws_eqDeedS p0.Deeds p1.Deeds)) = true) => ?_) (fun (h14 : (!(laws_eqDeedS p0.Deeds p1.Deeds)) = false) => ?_)
                            · refine And.intro (fun _ => .v _) ?_
                              have hg : laws_eqWorld p0 p1 = false := by
                                first | rfl | (simp only [laws_eqWorld, h1, h2, h3, h4, h5, h6, h7, h8, h9, h10, h11, h12, h13, h14, cond_true, cond_false, Step.fin_stop, Step.fin_done, Fin.get_fin, Fin.get_done, Step.fin_next, Bool.not_true, Bool.not_false, Option.getD_some]; done) | (simp [laws_eqWorld, h1, h2, h3, h4, h5, h6, h7, h8, h9, h10, h11, h12, h13, h14, cond_true, cond_false, Step.fin_stop, Step.fin_done, Fin.get_fin, Fin.get_done, Step.fin_next, Bool.not_true, Bool.not_false, Option.getD_some]; done) | (exfalso; simp_all; done)
                              exact congrArg (fun g : Bool => AV.one (.v (.bool g))) hg.symm
                            · refine And.intro (fun (h15 : (p0.Next != p1.Next) = true) => ?_) (fun (h15 : (p0.Next != p1.Next) = false) => ?_)
                              · refine And.intro (fun _ => .v _) ?_
                                have hg : laws_eqWorld p0 p1 = false := by
                                  first | rfl | (simp only [laws_eqWorld, h1, h2, h3, h4, h5, h6, h7, h8, h9, h10, h11, h12, h13, h14, h15, cond_true, cond_false, Step.fin_stop, Step.fin_done, Fin.get_fin, Fin.get_done, Step.fin_next, Bool.not_true, Bool.not_false, Option.getD_some]; done) | (simp [laws_eqWorld, h1, h2, h3, h4, h5, h6, h7, h8, h9, h10, h11, h12, h13, h14, h15, cond_true, cond_false, Step.fin_stop, Step.fin_done, Fin.get_fin, Fin.get_done, Step.fin_next, Bool.not_true, Bool.not_false, Option.getD_some]; done) | (exfalso; simp_all; done)
                                exact congrArg (fun g : Bool => AV.one (.v (.bool g))) hg.symm
                              · refine And.intro (fun _ => .v _) ?_
                                have hg : laws_eqWorld p0 p1 = true := by
                                  first | rfl | (simp only [laws_eqWorld, h1, h2, h3, h4, h5, h6, h7, h8, h9, h10, h11, h12, h13, h14, h15, cond_true, cond_false, Step.fin_stop, Step.fin_done, Fin.get_fin, Fin.get_done, Step.fin_next, Bool.not_true, Bool.not_false, Option.getD_some]; done) | (simp [laws_eqWorld, h1, h2, h3, h4, h5, h6, h7, h8, h9, h10, h11, h12, h13, h14, h15, cond_true, cond_false, Step.fin_stop, Step.fin_done, Fin.get_fin, Fin.get_done, Step.fin_next, Bool.not_true, Bool.not_false, Option.getD_some]; done) | (exfalso; simp_all; done)
                                exact congrArg (fun g : Bool => AV.one (.v (.bool g))) hg.symm
theorem rf_laws_eqWorld (x : World) : laws_eqWorld x x = true := by
  simp [laws_eqWorld, rf_laws_eqConf, rf_laws_eqStripeS, rf_laws_eqBucket, rf_laws_eqVerdictS, rf_laws_eqTimerS, rf_laws_eqWheel, rf_laws_eqItemS, rf_laws_eqTaskS, rf_laws_eqDeedS]
def laws_FnExactBound (p0 : World) : Bool :=
  (bif (decide ((laws_szWorld p0 1048576) < 0)) then true else (bif ((impl_Bound (laws_toWorld p0)) != (spec_Bound (laws_toWorld p0))) then false else (bif (!(laws_eqWorld (laws_toWorld p0) (laws_toWorld p0))) then false else true)))
theorem c_laws_FnExactBound (p0 : World) (hw0 : World.bd 9223372036854775807 p0) : FnOk prog 6 [.agg ((World.cells false) p0)] ⟨.one (.v (.bool (laws_FnExactBound p0))), [], [], false⟩ := by
  refine FnOk.intro (E := env) envOk wide func6 rfl (by kernel_rfl) rfl rfl ?_
  refine litE (m := 0) rfl ?_
  refine ⟨_, _, c_laws_szWorld p0 1048576, (FzAs.same _), ?_⟩
  refine litE (m := 2) rfl ?_
  refine And.intro (fun (h1 : (decide ((laws_szWorld p0 1048576) < 0)) = true) => ?_) (fun (h1 : (decide ((laws_szWorld p0 1048576) < 0)) = false) => ?_)
  · refine And.intro (fun _ => .v _) ?_
    have hg : laws_FnExactBound p0 = true := by
      first | rfl | (simp only [laws_FnExactBound, h1, cond_true, cond_false, Step.fin_stop, Step.fin_done, Fin.get_fin, Fin.get_done, Step.fin_next, Bool.not_true, Bool.not_false, Option.getD_some]; done) | (simp [laws_FnExactBound, h1, cond_true, cond_false, Step.fin_stop, Step.fin_done, Fin.get_fin, Fin.get_done, Step.fin_next, Bool.not_true, Bool.not_false, Option.getD_some]; done) | (exfalso; simp_all; done)
    exact congrArg (fun g : Bool => AV.one (.v (.bool g))) hg.symm
  · have hz1 := szd_laws_szWorld p0 1048576 (by assumption) (by decide) (by decide) (by simpa using h1)
    have hs1 := hz1.1
    have hl1 : (laws_szWorld p0 1048576) ≤ 1048576 := Int.le_trans hz1.2 (by decide)
    refine ⟨_, _, c_laws_toWorld p0 (by first | assumption | (simp only [id_laws_toWorld]; assumption)), (FzAs.same _), ?_⟩
    refine litE (m := 3) rfl ?_
    refine ⟨_, _, c_spec_Bound (laws_toWorld p0) (by first | assumption | (simp only [id_laws_toWorld]; assumption)), (.cons (.agg (.cons (.same _) (.cons (.same _) (.cons (.same _) (.cons (.same _) (.cons (.same _) (.cons (.same _) (.cons (.same _) (.cons (.same _) (.cons (.same _) (.cons (.same _) (.cons (.same _) (.cons (.sl _ _ _ _ (frzMap frz_Pol _)) (.cons (.same _) (.cons (.same _) (.cons (.sl _ _ _ _ (frzMap frz_Stripe _)) (.cons (.same _) (.cons (.same _) (.cons (.same _) (.cons (.same _) (.cons (.same _) (.cons (.same _) (.cons (.same _) (.cons (.same _) (.cons (.sl _ _ _ _ (frzMap (frz_cSl frz_Timer) _)) (.cons (.sl _ _ _ _ (frzMap (frz_cSl frz_Timer) _)) (.cons (.same _) (.cons (.same _) (.cons (.sl _ _ _ _ (frzMap frz_Item _)) (.cons (.sl _ _ _ _ (frzMap frz_Item _)) (.cons (.sl _ _ _ _ (frzMap frz_Task _)) (.cons (.sl _ _ _ _ (frzMap frz_Deed _)) (.cons (.same _) .nil))))))))))))))))))))))))))))))))) (.same _)), ?_⟩
    refine litE (m := 15) rfl ?_
    refine ⟨_, _, c_laws_toWorld p0 (by first | assumption | (simp only [id_laws_toWorld]; assumption)), (FzAs.same _), ?_⟩
    refine litE (m := 16) rfl ?_
    refine litE (m := 27) rfl ?_
    refine ⟨_, _, c_impl_Bound (laws_toWorld p0) (by first | assumption | (simp only [id_laws_toWorld]; assumption)), (.cons (.agg (.cons (.same _) (.cons (.same _) (.cons (.same _) (.cons (.same _) (.cons (.same _) (.cons (.same _) (.cons (.same _) (.cons (.same _) (.cons (.same _) (.cons (.same _) (.cons (.same _) (.cons (.sl _ _ _ _ (frzMap frz_Pol _)) (.cons (.same _) (.cons (.same _) (.cons (.sl _ _ _ _ (frzMap frz_Stripe _)) (.cons (.same _) (.cons (.same _) (.cons (.same _) (.cons (.same _) (.cons (.same _) (.cons (.same _) (.cons (.same _) (.cons (.same _) (.cons (.sl _ _ _ _ (frzMap (frz_cSl frz_Timer) _)) (.cons (.sl _ _ _ _ (frzMap (frz_cSl frz_Timer) _)) (.cons (.same _) (.cons (.same _) (.cons (.sl _ _ _ _ (frzMap frz_Item _)) (.cons (.sl _ _ _ _ (frzMap frz_Item _)) (.cons (.sl _ _ _ _ (frzMap frz_Task _)) (.cons (.sl _ _ _ _ (frzMap frz_Deed _)) (.cons (.same _) .nil))))))))))))))))))))))))))))))))) (.same _)), ?_⟩
    refine litE (m := 29) rfl ?_
    refine And.intro (fun (h2 : ((impl_Bound (laws_toWorld p0)) != (spec_Bound (laws_toWorld p0))) = true) => ?_) (fun (h2 : ((impl_Bound (laws_toWorld p0)) != (spec_Bound (laws_toWorld p0))) = false) => ?_)
    · refine And.intro (fun _ => .v _) ?_
      have hg : laws_FnExactBound p0 = false := by
        first | rfl | (simp only [laws_FnExactBound, h1, h2, cond_true, cond_false, Step.fin_stop, Step.fin_done, Fin.get_fin, Fin.get_done, Step.fin_next, Bool.not_true, Bool.not_false, Option.getD_some]; done) | (simp [laws_FnExactBound, h1, h2, cond_true, cond_false, Step.fin_stop, Step.fin_done, Fin.get_fin, Fin.get_done, Step.fin_next, Bool.not_true, Bool.not_false, Option.getD_some]; done) | (exfalso; simp_all; done)
      exact congrArg (fun g : Bool => AV.one (.v (.bool g))) hg.symm
    · refine .inr (.inl ⟨5, [(0, true), (1, true), (2, false), (3, false), (4, false)], by kernel_rfl, ?_⟩)
      refine ⟨_, _, c_laws_toWorld p0 (by first | assumption | (simp only [id_laws_toWorld]; assumption)), (FzAs.same _), ?_⟩
      refine litE (m := 30) rfl ?_
      refine ⟨_, _, c_laws_eqWorld (laws_toWorld p0) (laws_toWorld p0), (.cons (.agg (.cons (.same _) (.cons (.same _) (.cons (.same _) (.cons (.same _) (.cons (.same _) (.cons (.same _) (.cons (.same _) (.cons (.same _) (.cons (.same _) (.cons (.same _) (.cons (.same _) (.cons (.sl _ _ _ _ (frzMap frz_Pol _)) (.cons (.same _) (.cons (.same _) (.cons (.sl _ _ _ _ (frzMap frz_Stripe _)) (.cons (.same _) (.cons (.same _) (.cons (.same _) (.cons (.same _) (.cons (.same _) (.cons (.same _) (.cons (.same _) (.cons (.same _) (.cons (.sl _ _ _ _ (frzMap (frz_cSl frz_Timer) _)) (.cons (.sl _ _ _ _ (frzMap (frz_cSl frz_Timer) _)) (.cons (.same _) (.cons (.same _) (.cons (.sl _ _ _ _ (frzMap frz_Item _)) (.cons (.sl _ _ _ _ (frzMap frz_Item _)) (.cons (.sl _ _ _ _ (frzMap frz_Task _)) (.cons (.sl _ _ _ _ (frzMap frz_Deed _)) (.cons (.same _) .nil))))))))))))))))))))))))))))))))) (.cons (.agg (.cons (.same _) (.cons (.same _) (.cons (.same _) (.cons (.same _) (.cons (.same _) (.cons (.same _) (.cons (.same _) (.cons (.same _) (.cons (.same _) (.cons (.same _) (.cons (.same _) (.cons (.sl _ _ _ _ (frzMap frz_Pol _)) (.cons (.same _) (.cons (.same _) (.cons (.sl _ _ _ _ (frzMap frz_Stripe _)) (.cons (.same _) (.cons (.same _) (.cons (.same _) (.cons (.same _) (.cons (.same _) (.cons (.same _) (.cons (.same _) (.cons (.same _) (.cons (.sl _ _ _ _ (frzMap (frz_cSl frz_Timer) _)) (.cons (.sl _ _ _ _ (frzMap (frz_cSl frz_Timer) _)) (.cons (.same _) (.cons (.same _) (.cons (.sl _ _ _ _ (frzMap frz_Item _)) (.cons (.sl _ _ _ _ (frzMap frz_Item _)) (.cons (.sl _ _ _ _ (frzMap frz_Task _)) (.cons (.sl _ _ _ _ (frzMap frz_Deed _)) (.cons (.same _) .nil))))))))))))))))))))))))))))))))) (.same _))), ?_⟩
      refine litE (m := 42) rfl ?_
      refine And.intro (fun (h3 : (!(laws_eqWorld (laws_toWorld p0) (laws_toWorld p0))) = true) => ?_) (fun (h3 : (!(laws_eqWorld (laws_toWorld p0) (laws_toWorld p0))) = false) => ?_)
      · refine And.intro (fun _ => .v _) ?_
        have hg : laws_FnExactBound p0 = false := by
          first | rfl | (simp only [laws_FnExactBound, h1, h2, h3, cond_true, cond_false, Step.fin_stop, Step.fin_done, Fin.get_fin, Fin.get_done, Step.fin_next, Bool.not_true, Bool.not_false, Option.getD_some]; done) | (simp [laws_FnExactBound, h1, h2, h3, cond_true, cond_false, Step.fin_stop, Step.fin_done, Fin.get_fin, Fin.get_done, Step.fin_next, Bool.not_true, Bool.not_false, Option.getD_some]; done) | (exfalso; simp_all; done)
        exact congrArg (fun g : Bool => AV.one (.v (.bool g))) hg.symm
      · refine And.intro (fun _ => .v _) ?_
        have hg : laws_FnExactBound p0 = true := by
          first | rfl | (simp only [laws_FnExactBound, h1, h2, h3, cond_true, cond_false, Step.fin_stop, Step.fin_done, Fin.get_fin, Fin.get_done, Step.fin_next, Bool.not_true, Bool.not_false, Option.getD_some]; done) | (simp [laws_FnExactBound, h1, h2, h3, cond_true, cond_false, Step.fin_stop, Step.fin_done, Fin.get_fin, Fin.get_done, Step.fin_next, Bool.not_true, Bool.not_false, Option.getD_some]; done) | (exfalso; simp_all; done)
        exact congrArg (fun g : Bool => AV.one (.v (.bool g))) hg.symm
theorem cnt_fin : ∀ (l : List Deed) (i : Nat) (s : Int × Int), ∃ t, loopL spec_CountOf_b1 i s l = .fin t
  | [], i, s => ⟨s, rfl⟩
  | d :: l, i, s => by
    have h : ∃ t, spec_CountOf_b1 i s d = .next t := by
      unfold spec_CountOf_b1
      cases (d.Lin == (-1)) <;> cases (d.Op == 1) <;> cases (d.Op == 2) <;> cases (d.Op == 3) <;> cases (d.Code == 1) <;> cases (d.Code == 2) <;> cases d.Void <;> cases d.Keep <;> exact ⟨_, rfl⟩
    obtain ⟨t, h⟩ := h
    unfold loopL
    rw [h]
    exact cnt_fin l (i + 1) t
theorem count_held (l : List Stripe) : loopL spec_CountOf_b3 0 0 l = .fin (IntKind.i64.wrap (isum (fun x : Stripe => isum (fun t : Trail => ((t.Spans.length : Nat) : Int)) x.L) l)) := by
  rw [sum_loop (f := fun x : Stripe => isum (fun t : Trail => ((t.Spans.length : Nat) : Int)) x.L) l 0 0 rfl]
  · simp
  · intro i s x hx hs
    unfold spec_CountOf_b3
    rw [sum_loop (f := fun t : Trail => ((t.Spans.length : Nat) : Int)) (b := spec_CountOf_b4) x.L 0 s hs (fun _ _ _ _ _ => rfl)]
    rfl
theorem count_hand (l : List Task) (s : Int) (hs : IntKind.i64.wrap s = s) : loopL spec_CountOf_b2 0 s l = .fin (IntKind.i64.wrap (s + isum (fun t : Task => ((t.Hand.length : Nat) : Int)) l)) :=
  sum_loop (f := fun t : Task => ((t.Hand.length : Nat) : Int)) (b := spec_CountOf_b2) l 0 s hs (fun _ _ _ _ _ => rfl)
theorem main_Bound (w : World) (hq : w.Queue.length ≤ 9223372036854775807) : impl_Bound w = spec_Bound w := by
  have e : ∃ t : Int × Int, spec_CountOf w = Count.mk t.1 (((w.Out).length : Nat) : Int) (IntKind.i64.wrap (((w.Queue.length : Nat) : Int) + isum (fun t : Task => ((t.Hand.length : Nat) : Int)) w.Tasks)) (IntKind.i64.wrap (isum (fun x : Stripe => isum (fun t : Trail => ((t.Spans.length : Nat) : Int)) x.L) w.St)) t.2 := by
    obtain ⟨t, h⟩ := cnt_fin w.Deeds 0 (0, 0)
    refine ⟨t, ?_⟩
    unfold spec_CountOf
    rw [h, count_held, count_hand _ _ (wrap_len hq)]
    rfl
  obtain ⟨t, e⟩ := e
  unfold impl_Bound spec_Bound
  rw [e, heldThings_eq, inHand_eq]
  simp only
  rw [show impl_Busy w = spec_Busy w from rfl, show impl_Timers w.W = spec_Timers w.W from rfl]
  generalize isum (fun x : Stripe => isum (fun t : Trail => ((t.Spans.length : Nat) : Int)) x.L) w.St = H
  generalize isum (fun t : Task => ((t.Hand.length : Nat) : Int)) w.Tasks = B
  have ew : ∀ Q : Int, IntKind.i64.wrap (IntKind.i64.wrap (IntKind.i64.wrap H + IntKind.i64.wrap B) + Q) = IntKind.i64.wrap (IntKind.i64.wrap H + IntKind.i64.wrap (Q + B)) := by
    intro Q
    rw [wrap_wrap_add (IntKind.i64.wrap H + IntKind.i64.wrap B) Q, Int.add_assoc, wrap_wrap_add H, wrap_wrap_add H, wrap_add_wrap H (Q + B), show H + (IntKind.i64.wrap B + Q) = (H + Q) + IntKind.i64.wrap B by omega, wrap_add_wrap (H + Q) B]
    congr 1
    omega
  rw [ew]
theorem law_Bound (p0 : World) (hw0 : World.bd 9223372036854775807 p0) : laws_FnExactBound p0 = true := by
  have hq : p0.Queue.length ≤ 9223372036854775807 := by
    unfold World.bd at hw0
    obtain ⟨_, _, _, _, _, hQ, _⟩ := hw0
    exact hQ.1
  unfold laws_FnExactBound
  cases decide (laws_szWorld p0 1048576 < 0) with
  | true => rfl
  | false => simp only [cond_false, id_laws_toWorld, main_Bound p0 hq, rf_laws_eqWorld, bne_self_eq_false, Bool.not_true]
theorem rows_sl {α : Type} (f : α → List T) (W : α → Prop) : ∀ rows : List (List T), (∀ r ∈ rows, ∃ x, r = f x ∧ W x) → ∃ l : List α, rows = l.map f ∧ ∀ x ∈ l, W x
  | [], _ => ⟨[], rfl, by simp⟩
  | r :: rows, h => by
    obtain ⟨x, hx, hw⟩ := h r (by simp)
    obtain ⟨l, hl, hw'⟩ := rows_sl f W rows (fun r hr => h r (by simp [hr]))
    exact ⟨x :: l, by simp [hx, hl], fun y hy => by rcases List.mem_cons.1 hy with rfl | hy; exact hw; exact hw' y hy⟩
theorem shape_sl {α : Type} (f : α → List T) {P : Nat → α → Prop} (W : α → Prop) (hW : W = P 9223372036854775807) {n t e k : Nat} (ht : prog.underlying t = some (.slice e)) (hk : prog.cellsOf e = k) {y : List T} (h : Shape prog (n + 1) t y) (hr : ∀ r, Shape prog n e r → ∃ x, r = f x ∧ W x) :
    ∃ l : List α, y = [.s false k (l.map f)] ∧ bdS P 9223372036854775807 l := by
  subst hW
  unfold Shape at h
  rw [ht] at h
  obtain ⟨rows, h1, h2, h3⟩ := h
  rw [hk] at h1
  obtain ⟨l, rfl, hw⟩ := rows_sl f _ rows (fun r hr' => hr r (h3 r hr').2)
  exact ⟨l, h1, by simpa [maxLen] using h2, hw⟩
theorem shape3 (n : Nat) {l : List T} (h : Shape prog n 3 l) : ∃ x : Int, l = [.v (.int .i64 x)] ∧ True := by
  cases n with
  | zero => exact (h : False).elim
  | succ n =>
    simp only [Shape, underlying3] at h
    obtain ⟨x, hx, _⟩ := h
    exact ⟨x, hx, trivial⟩
theorem shape9 (n : Nat) {l : List T} (h : Shape prog n 9 l) : ∃ x : ByteArray, l = [.v (.string x)] ∧ (x).size ≤ 9223372036854775807 := by
  cases n with
  | zero => exact (h : False).elim
  | succ n =>
    simp only [Shape, underlying9] at h
    obtain ⟨x, hx, hw⟩ := h
    exact ⟨x, hx, by simpa [maxLen] using hw⟩
theorem shape24 : ∀ (n : Nat) {l : List T}, Shape prog n 24 l → ∃ x : Pol, l = Pol.cells false x ∧ Pol.bd 9223372036854775807 x := by
  intro n
  induction n using Nat.strongRecOn with
  | _ n ih =>
    intro l h
    cases n with
    | zero => exact (h : False).elim
    | succ n =>
      unfold Shape at h
      rw [underlying24] at h
      simp only [ShapeL] at h
      obtain ⟨l0, _, rfl, h0, l1, _, rfl, h1, l2, _, rfl, h2, l3, _, rfl, h3, l4, _, rfl, h4, rfl⟩ := h
      obtain ⟨x0, rfl, w0⟩ := shape3 n h0
      obtain ⟨x1, rfl, w1⟩ := shape3 n h1
      obtain ⟨x2, rfl, w2⟩ := shape9 n h2
      obtain ⟨x3, rfl, w3⟩ := shape9 n h3
      obtain ⟨x4, rfl, w4⟩ : ∃ x : List Pol, l4 = [.s false 5 (List.map (Pol.cells false) x)] ∧ bdS Pol.bd 9223372036854775807 x := by
        cases n with
        | zero => exact (h4 : False).elim
        | succ n => exact shape_sl (Pol.cells false) (P := Pol.bd) _ rfl underlying22 (by kernel_rfl) h4 (fun r hr => ih n (by omega) hr)
      refine ⟨⟨x0, x1, x2, x3, x4⟩, ?_, ?_⟩
      · rw [Pol.cells_eq]; rfl
      · rw [Pol.bd_eq]; exact ⟨w2, w3, w4⟩
theorem shape22 (n : Nat) {l : List T} (h : Shape prog n 22 l) : ∃ x : (List Pol), l = [.s false 5 (List.map (Pol.cells false) x)] ∧ bdS Pol.bd 9223372036854775807 x := by
  cases n with
  | zero => exact (h : False).elim
  | succ n =>
    exact shape_sl (Pol.cells false) (P := Pol.bd) _ rfl underlying22 (by kernel_rfl) h (fun r hr => shape24 n hr)
theorem shape26 (n : Nat) {l : List T} (h : Shape prog n 26 l) : ∃ x : Conf, l = (Conf.cells false) x ∧ Conf.bd 9223372036854775807 x := by
  cases n with
  | zero => exact (h : False).elim
  | succ n =>
    unfold Shape at h
    rw [underlying26] at h
    simp only [ShapeL] at h
    obtain ⟨_, _, rfl, h0, _, _, rfl, h1, _, _, rfl, h2, _, _, rfl, h3, _, _, rfl, h4, _, _, rfl, h5, _, _, rfl, h6, _, _, rfl, h7, rfl⟩ := h
    obtain ⟨x0, rfl, w0⟩ := shape3 n h0
    obtain ⟨x1, rfl, w1⟩ := shape3 n h1
    obtain ⟨x2, rfl, w2⟩ := shape3 n h2
    obtain ⟨x3, rfl, w3⟩ := shape3 n h3
    obtain ⟨x4, rfl, w4⟩ := shape3 n h4
    obtain ⟨x5, rfl, w5⟩ := shape3 n h5
    obtain ⟨x6, rfl, w6⟩ := shape3 n h6
    obtain ⟨x7, e7, w7⟩ := shape24 n h7
    rw [Pol.cells_eq] at e7
    subst e7
    exact ⟨⟨x0, x1, x2, x3, x4, x5, x6, x7⟩, rfl, w7⟩
theorem shape4 (n : Nat) {l : List T} (h : Shape prog n 4 l) : ∃ x : Bool, l = [.v (.bool x)] ∧ True := by
  cases n with
  | zero => exact (h : False).elim
  | succ n =>
    simp only [Shape, underlying4] at h
    obtain ⟨x, hx⟩ := h
    exact ⟨x, hx, trivial⟩
theorem shape266 (n : Nat) {l : List T} (h : Shape prog n 266 l) : ∃ x : Attr, l = Attr.cells x ∧ Attr.bd 9223372036854775807 x := by
  cases n with
  | zero => exact (h : False).elim
  | succ n =>
    unfold Shape at h
    rw [underlying266] at h
    simp only [ShapeL] at h
    obtain ⟨_, _, rfl, h0, _, _, rfl, h1, _, _, rfl, h2, _, _, rfl, h3, rfl⟩ := h
    obtain ⟨x0, rfl, w0⟩ := shape9 n h0
    obtain ⟨x1, rfl, w1⟩ := shape4 n h1
    obtain ⟨x2, rfl, w2⟩ := shape3 n h2
    obtain ⟨x3, rfl, w3⟩ := shape9 n h3
    exact ⟨⟨x0, x1, x2, x3⟩, rfl, ⟨w0, w3⟩⟩
theorem shape150 (n : Nat) {l : List T} (h : Shape prog n 150 l) : ∃ x : (List Attr), l = [.s false 4 (List.map Attr.cells x)] ∧ bdS Attr.bd 9223372036854775807 x := by
  cases n with
  | zero => exact (h : False).elim
  | succ n =>
    exact shape_sl Attr.cells (P := Attr.bd) _ rfl underlying150 (by kernel_rfl) h (fun r hr => shape266 n hr)
theorem shape152 (n : Nat) {l : List T} (h : Shape prog n 152 l) : ∃ x : Span, l = (Span.cells false) x ∧ Span.bd 9223372036854775807 x := by
  cases n with
  | zero => exact (h : False).elim
  | succ n =>
    unfold Shape at h
    rw [underlying152] at h
    simp only [ShapeL] at h
    obtain ⟨_, _, rfl, h0, _, _, rfl, h1, _, _, rfl, h2, _, _, rfl, h3, _, _, rfl, h4, _, _, rfl, h5, rfl⟩ := h
    obtain ⟨x0, rfl, w0⟩ := shape3 n h0
    obtain ⟨x1, rfl, w1⟩ := shape3 n h1
    obtain ⟨x2, rfl, w2⟩ := shape3 n h2
    obtain ⟨x3, rfl, w3⟩ := shape3 n h3
    obtain ⟨x4, rfl, w4⟩ := shape4 n h4
    obtain ⟨x5, rfl, w5⟩ := shape150 n h5
    exact ⟨⟨x0, x1, x2, x3, x4, x5⟩, rfl, w5⟩
theorem shape211 (n : Nat) {l : List T} (h : Shape prog n 211 l) : ∃ x : (List Span), l = [.s false 6 (List.map (Span.cells false) x)] ∧ bdS Span.bd 9223372036854775807 x := by
  cases n with
  | zero => exact (h : False).elim
  | succ n =>
    exact shape_sl (Span.cells false) (P := Span.bd) _ rfl underlying211 (by kernel_rfl) h (fun r hr => shape152 n hr)
theorem shape213 (n : Nat) {l : List T} (h : Shape prog n 213 l) : ∃ x : Trail, l = (Trail.cells false) x ∧ Trail.bd 9223372036854775807 x := by
  cases n with
  | zero => exact (h : False).elim
  | succ n =>
    unfold Shape at h
    rw [underlying213] at h
    simp only [ShapeL] at h
    obtain ⟨_, _, rfl, h0, _, _, rfl, h1, _, _, rfl, h2, _, _, rfl, h3, rfl⟩ := h
    obtain ⟨x0, rfl, w0⟩ := shape3 n h0
    obtain ⟨x1, rfl, w1⟩ := shape3 n h1
    obtain ⟨x2, rfl, w2⟩ := shape3 n h2
    obtain ⟨x3, rfl, w3⟩ := shape211 n h3
    exact ⟨⟨x0, x1, x2, x3⟩, rfl, w3⟩
theorem shape67 (n : Nat) {l : List T} (h : Shape prog n 67 l) : ∃ x : (List Trail), l = [.s false 4 (List.map (Trail.cells false) x)] ∧ bdS Trail.bd 9223372036854775807 x := by
  cases n with
  | zero => exact (h : False).elim
  | succ n =>
    exact shape_sl (Trail.cells false) (P := Trail.bd) _ rfl underlying67 (by kernel_rfl) h (fun r hr => shape213 n hr)
end Go.Proofs.Try.Ev
