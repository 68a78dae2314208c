import Derived.Test.YtepchngnmfbffaaLModelOkWalk
set_option linter.unusedSectionVars false

namespace Go.Proofs.Try.Ev
open Go Go.Ev Go.Proofs
set_option maxHeartbeats 4000000
set_option maxRecDepth 100000
set_option linter.unusedSimpArgs false
set_option linter.unusedVariables false
theorem c_spec_l5One (p0 : Pol) : FnOk prog 221 [.agg (Pol.opn false p0)] ⟨.one (.v (.bool (spec_l5One p0))), [], [], false⟩ := by
  refine FnOk.intro (E := env) envOk wide func221 rfl (by kernel_rfl) rfl rfl ?_
  refine litE (m := 0) rfl ?_
  refine And.intro (fun (h1 : (p0.Kind == 1) = true) => ?_) (fun (h1 : (p0.Kind == 1) = false) => ?_)
  · refine And.intro (fun (h2 : (p0.Kind == 1) = true) => ?_) (fun (h2 : (p0.Kind == 1) = false) => ?_)
    · refine And.intro (fun (h3 : (p0.N == 0) = true) => ?_) (fun (h3 : (p0.N == 0) = false) => ?_)
      · refine And.intro (fun (h4 : (decide (p0.Key = (ByteArray.mk #[]))) = true) => ?_) (fun (h4 : (decide (p0.Key = (ByteArray.mk #[]))) = false) => ?_)
        · refine And.intro (fun (h5 : (decide (p0.Text = (ByteArray.mk #[]))) = true) => ?_) (fun (h5 : (decide (p0.Text = (ByteArray.mk #[]))) = false) => ?_)
          · refine lenE (k := (p0.L).length) (by simp) (fun hN6 => ?_)
            refine And.intro (fun _ => .v _) ?_
            have hg : spec_l5One p0 = ((((p0.L).length : Nat) : Int) == 0) := by
              first | rfl | (simp only [spec_l5One, h1, h2, h3, h4, h5, cond_true, cond_false, Step.fin_stop, Step.fin_done, Fin.get_fin, Fin.get_done, Step.fin_next, Bool.not_true, Bool.not_false, Option.getD_some]; done) | (simp [spec_l5One, h1, h2, h3, h4, h5, cond_true, cond_false, Step.fin_stop, Step.fin_done, Fin.get_fin, Fin.get_done, Step.fin_next, Bool.not_true, Bool.not_false, Option.getD_some]; done) | (exfalso; simp_all; done)
            exact congrArg (fun g : Bool => AV.one (.v (.bool g))) hg.symm
          · refine And.intro (fun _ => .v _) ?_
            have hg : spec_l5One p0 = false := by
              first | rfl | (simp only [spec_l5One, h1, h2, h3, h4, h5, cond_true, cond_false, Step.fin_stop, Step.fin_done, Fin.get_fin, Fin.get_done, Step.fin_next, Bool.not_true, Bool.not_false, Option.getD_some]; done) | (simp [spec_l5One, h1, h2, h3, h4, h5, cond_true, cond_false, Step.fin_stop, Step.fin_done, Fin.get_fin, Fin.get_done, Step.fin_next, Bool.not_true, Bool.not_false, Option.getD_some]; done) | (exfalso; simp_all; done)
            exact congrArg (fun g : Bool => AV.one (.v (.bool g))) hg.symm
        · refine And.intro (fun _ => .v _) ?_
          have hg : spec_l5One p0 = false := by
            first | rfl | (simp only [spec_l5One, h1, h2, h3, h4, cond_true, cond_false, Step.fin_stop, Step.fin_done, Fin.get_fin, Fin.get_done, Step.fin_next, Bool.not_true, Bool.not_false, Option.getD_some]; done) | (simp [spec_l5One, h1, h2, h3, h4, cond_true, cond_false, Step.fin_stop, Step.fin_done, Fin.get_fin, Fin.get_done, Step.fin_next, Bool.not_true, Bool.not_false, Option.getD_some]; done) | (exfalso; simp_all; done)
          exact congrArg (fun g : Bool => AV.one (.v (.bool g))) hg.symm
      · refine And.intro (fun _ => .v _) ?_
        have hg : spec_l5One p0 = false := by
          first | rfl | (simp only [spec_l5One, h1, h2, h3, cond_true, cond_false, Step.fin_stop, Step.fin_done, Fin.get_fin, Fin.get_done, Step.fin_next, Bool.not_true, Bool.not_false, Option.getD_some]; done) | (simp [spec_l5One, h1, h2, h3, cond_true, cond_false, Step.fin_stop, Step.fin_done, Fin.get_fin, Fin.get_done, Step.fin_next, Bool.not_true, Bool.not_false, Option.getD_some]; done) | (exfalso; simp_all; done)
        exact congrArg (fun g : Bool => AV.one (.v (.bool g))) hg.symm
    · refine And.intro (fun (h7 : (p0.Kind == 3) = true) => ?_) (fun (h7 : (p0.Kind == 3) = false) => ?_)
      · refine ⟨_, _, c_spec_l1In p0.N 0 2147483647, (FzAs.same _), ?_⟩
        refine litE (m := 2) rfl ?_
        refine And.intro (fun (h8 : (spec_l1In p0.N 0 2147483647) = true) => ?_) (fun (h8 : (spec_l1In p0.N 0 2147483647) = false) => ?_)
        · refine And.intro (fun (h9 : (decide (p0.Key = (ByteArray.mk #[]))) = true) => ?_) (fun (h9 : (decide (p0.Key = (ByteArray.mk #[]))) = false) => ?_)
          · refine And.intro (fun (h10 : (decide (p0.Text = (ByteArray.mk #[]))) = true) => ?_) (fun (h10 : (decide (p0.Text = (ByteArray.mk #[]))) = false) => ?_)
            · refine lenE (k := (p0.L).length) (by simp) (fun hN11 => ?_)
              refine And.intro (fun _ => .v _) ?_
              have hg : spec_l5One p0 = ((((p0.L).length : Nat) : Int) == 0) := by
                first | rfl | (simp only [spec_l5One, h1, h2, h7, h8, h9, h10, cond_true, cond_false, Step.fin_stop, Step.fin_done, Fin.get_fin, Fin.get_done, Step.fin_next, Bool.not_true, Bool.not_false, Option.getD_some]; done) | (simp [spec_l5One, h1, h2, h7, h8, h9, h10, cond_true, cond_false, Step.fin_stop, Step.fin_done, Fin.get_fin, Fin.get_done, Step.fin_next, Bool.not_true, Bool.not_false, Option.getD_some]; done) | (exfalso; simp_all; done)
              exact congrArg (fun g : Bool => AV.one (.v (.bool g))) hg.symm
            · refine And.intro (fun _ => .v _) ?_
              have hg : spec_l5One p0 = false := by
                first | rfl | (simp only [spec_l5One, h1, h2, h7, h8, h9, h10, cond_true, cond_false, Step.fin_stop, Step.fin_done, Fin.get_fin, Fin.get_done, Step.fin_next, Bool.not_true, Bool.not_false, Option.getD_some]; done) | (simp [spec_l5One, h1, h2, h7, h8, h9, h10, cond_true, cond_false, Step.fin_stop, Step.fin_done, Fin.get_fin, Fin.get_done, Step.fin_next, Bool.not_true, Bool.not_false, Option.getD_some]; done) | (exfalso; simp_all; done)
              exact congrArg (fun g : Bool => AV.one (.v (.bool g))) hg.symm
          · refine And.intro (fun _ => .v _) ?_
            have hg : spec_l5One p0 = false := by
              first | rfl | (simp only [spec_l5One, h1, h2, h7, h8, h9, cond_true, cond_false, Step.fin_stop, Step.fin_done, Fin.get_fin, Fin.get_done, Step.fin_next, Bool.not_true, Bool.not_false, Option.getD_some]; done) | (simp [spec_l5One, h1, h2, h7, h8, h9, cond_true, cond_false, Step.fin_stop, Step.fin_done, Fin.get_fin, Fin.get_done, Step.fin_next, Bool.not_true, Bool.not_false, Option.getD_some]; done) | (exfalso; simp_all; done)
            exact congrArg (fun g : Bool => AV.one (.v (.bool g))) hg.symm
        · refine And.intro (fun _ => .v _) ?_
          have hg : spec_l5One p0 = false := by
            first | rfl | (simp only [spec_l5One, h1, h2, h7, h8, cond_true, cond_false, Step.fin_stop, Step.fin_done, Fin.get_fin, Fin.get_done, Step.fin_next, Bool.not_true, Bool.not_false, Option.getD_some]; done) | (simp [spec_l5One, h1, h2, h7, h8, cond_true, cond_false, Step.fin_stop, Step.fin_done, Fin.get_fin, Fin.get_done, Step.fin_next, Bool.not_true, Bool.not_false, Option.getD_some]; done) | (exfalso; simp_all; done)
          exact congrArg (fun g : Bool => AV.one (.v (.bool g))) hg.symm
      · refine And.intro (fun (h12 : (p0.Kind == 4) = true) => ?_) (fun (h12 : (p0.Kind == 4) = false) => ?_)
        · refine And.intro (fun (h13 : (p0.N == 0) = true) => ?_) (fun (h13 : (p0.N == 0) = false) => ?_)
          · refine ⟨_, _, c_spec_NameOk p0.Key, (FzAs.same _), ?_⟩
            refine litE (m := 2) rfl ?_
            refine And.intro (fun (h14 : (spec_NameOk p0.Key) = true) => ?_) (fun (h14 : (spec_NameOk p0.Key) = false) => ?_)
            · refine ⟨_, _, c_spec_PlainOk p0.Text, (FzAs.same _), ?_⟩
              refine litE (m := 3) rfl ?_
              refine And.intro (fun (h15 : (spec_PlainOk p0.Text) = true) => ?_) (fun (h15 : (spec_PlainOk p0.Text) = false) => ?_)
              · refine lenE (k := (p0.L).length) (by simp) (fun hN16 => ?_)
                refine And.intro (fun _ => .v _) ?_
                have hg : spec_l5One p0 = ((((p0.L).length : Nat) : Int) == 0) := by
                  first | rfl | (simp only [spec_l5One, h1, h2, h7, h12, h13, h14, h15, cond_true, cond_false, Step.fin_stop, Step.fin_done, Fin.get_fin, Fin.get_done, Step.fin_next, Bool.not_true, Bool.not_false, Option.getD_some]; done) | (simp [spec_l5One, h1, h2, h7, h12, h13, h14, h15, cond_true, cond_false, Step.fin_stop, Step.fin_done, Fin.get_fin, Fin.get_done, Step.fin_next, Bool.not_true, Bool.not_false, Option.getD_some]; done) | (exfalso; simp_all; done)
                exact congrArg (fun g : Bool => AV.one (.v (.bool g))) hg.symm
              · refine And.intro (fun _ => .v _) ?_
                have hg : spec_l5One p0 = false := by
                  first | rfl | (simp only [spec_l5One, h1, h2, h7, h12, h13, h14, h15, cond_true, cond_false, Step.fin_stop, Step.fin_done, Fin.get_fin, Fin.get_done, Step.fin_next, Bool.not_true, Bool.not_false, Option.getD_some]; done) | (simp [spec_l5One, h1, h2, h7, h12, h13, h14, h15, cond_true, cond_false, Step.fin_stop, Step.fin_done, Fin.get_fin, Fin.get_done, Step.fin_next, Bool.not_true, Bool.not_false, Option.getD_some]; done) | (exfalso; simp_all; done)
                exact congrArg (fun g : Bool => AV.one (.v (.bool g))) hg.symm
            · refine And.intro (fun _ => .v _) ?_
              have hg : spec_l5One p0 = false := by
                first | rfl | (simp only [spec_l5One, h1, h2, h7, h12, h13, h14, cond_true, cond_false, Step.fin_stop, Step.fin_done, Fin.get_fin, Fin.get_done, Step.fin_next, Bool.not_true, Bool.not_false, Option.getD_some]; done) | (simp [spec_l5One, h1, h2, h7, h12, h13, h14, cond_true, cond_false, Step.fin_stop, Step.fin_done, Fin.get_fin, Fin.get_done, Step.fin_next, Bool.not_true, Bool.not_false, Option.getD_some]; done) | (exfalso; simp_all; done)
              exact congrArg (fun g : Bool => AV.one (.v (.bool g))) hg.symm
          · refine And.intro (fun _ => .v _) ?_
            have hg : spec_l5One p0 = false := by
              first | rfl | (simp only [spec_l5One, h1, h2, h7, h12, h13, cond_true, cond_false, Step.fin_stop, Step.fin_done, Fin.get_fin, Fin.get_done, Step.fin_next, Bool.not_true, Bool.not_false, Option.getD_some]; done) | (simp [spec_l5One, h1, h2, h7, h12, h13, cond_true, cond_false, Step.fin_stop, Step.fin_done, Fin.get_fin, Fin.get_done, Step.fin_next, Bool.not_true, Bool.not_false, Option.getD_some]; done) | (exfalso; simp_all; done)
            exact congrArg (fun g : Bool => AV.one (.v (.bool g))) hg.symm
        · refine And.intro (fun (h17 : (p0.Kind == 5) = true) => ?_) (fun (h17 : (p0.Kind == 5) = false) => ?_)
          · refine ⟨_, _, c_spec_l1In p0.N 0 2147483647, (FzAs.same _), ?_⟩
            refine litE (m := 2) rfl ?_
            refine And.intro (fun (h18 : (spec_l1In p0.N 0 2147483647) = true) => ?_) (fun (h18 : (spec_l1In p0.N 0 2147483647) = false) => ?_)
            · refine ⟨_, _, c_spec_NameOk p0.Key, (FzAs.same _), ?_⟩
              refine litE (m := 3) rfl ?_
              refine And.intro (fun (h19 : (spec_NameOk p0.Key) = true) => ?_) (fun (h19 : (spec_NameOk p0.Key) = false) => ?_)
              · refine And.intro (fun (h20 : (decide (p0.Text = (ByteArray.mk #[]))) = true) => ?_) (fun (h20 : (decide (p0.Text = (ByteArray.mk #[]))) = false) => ?_)
                · refine lenE (k := (p0.L).length) (by simp) (fun hN21 => ?_)
                  refine And.intro (fun _ => .v _) ?_
                  have hg : spec_l5One p0 = ((((p0.L).length : Nat) : Int) == 0) := by
                    first | rfl | (simp only [spec_l5One, h1, h2, h7, h12, h17, h18, h19, h20, cond_true, cond_false, Step.fin_stop, Step.fin_done, Fin.get_fin, Fin.get_done, Step.fin_next, Bool.not_true, Bool.not_false, Option.getD_some]; done) | (simp [spec_l5One, h1, h2, h7, h12, h17, h18, h19, h20, cond_true, cond_false, Step.fin_stop, Step.fin_done, Fin.get_fin, Fin.get_done, Step.fin_next, Bool.not_true, Bool.not_false, Option.getD_some]; done) | (exfalso; simp_all; done)
                  exact congrArg (fun g : Bool => AV.one (.v (.bool g))) hg.symm
                · refine And.intro (fun _ => .v _) ?_
                  have hg : spec_l5One p0 = false := by
                    first | rfl | (simp only [spec_l5One, h1, h2, h7, h12, h17, h18, h19, h20, cond_true, cond_false, Step.fin_stop, Step.fin_done, Fin.get_fin, Fin.get_done, Step.fin_next, Bool.not_true, Bool.not_false, Option.getD_some]; done) | (simp [spec_l5One, h1, h2, h7, h12, h17, h18, h19, h20, cond_true, cond_false, Step.fin_stop, Step.fin_done, Fin.get_fin, Fin.get_done, Step.fin_next, Bool.not_true, Bool.not_false, Option.getD_some]; done) | (exfalso; simp_all; done)
                  exact congrArg (fun g : Bool => AV.one (.v (.bool g))) hg.symm
              · refine And.intro (fun _ => .v _) ?_
                have hg : spec_l5One p0 = false := by
                  first | rfl | (simp only [spec_l5One, h1, h2, h7, h12, h17, h18, h19, cond_true, cond_false, Step.fin_stop, Step.fin_done, Fin.get_fin, Fin.get_done, Step.fin_next, Bool.not_true, Bool.not_false, Option.getD_some]; done) | (simp [spec_l5One, h1, h2, h7, h12, h17, h18, h19, cond_true, cond_false, Step.fin_stop, Step.fin_done, Fin.get_fin, Fin.get_done, Step.fin_next, Bool.not_true, Bool.not_false, Option.getD_some]; done) | (exfalso; simp_all; done)
                exact congrArg (fun g : Bool => AV.one (.v (.bool g))) hg.symm
            · refine And.intro (fun _ => .v _) ?_
              have hg : spec_l5One p0 = false := by
                first | rfl | (simp only [spec_l5One, h1, h2, h7, h12, h17, h18, cond_true, cond_false, Step.fin_stop, Step.fin_done, Fin.get_fin, Fin.get_done, Step.fin_next, Bool.not_true, Bool.not_false, Option.getD_some]; done) | (simp [spec_l5One, h1, h2, h7, h12, h17, h18, cond_true, cond_false, Step.fin_stop, Step.fin_done, Fin.get_fin, Fin.get_done, Step.fin_next, Bool.not_true, Bool.not_false, Option.getD_some]; done) | (exfalso; simp_all; done)
              exact congrArg (fun g : Bool => AV.one (.v (.bool g))) hg.symm
          · refine And.intro (fun (h22 : (p0.Kind == 7) = true) => ?_) (fun (h22 : (p0.Kind == 7) = false) => ?_)
            · refine And.intro (fun (h23 : (p0.Kind == 7) = true) => ?_) (fun (h23 : (p0.Kind == 7) = false) => ?_)
              · refine And.intro (fun (h24 : (p0.N == 0) = true) => ?_) (fun (h24 : (p0.N == 0) = false) => ?_)
                · refine And.intro (fun (h25 : (decide (p0.Key = (ByteArray.mk #[]))) = true) => ?_) (fun (h25 : (decide (p0.Key = (ByteArray.mk #[]))) = false) => ?_)
                  · refine And.intro (fun (h26 : (decide (p0.Text = (ByteArray.mk #[]))) = true) => ?_) (fun (h26 : (decide (p0.Text = (ByteArray.mk #[]))) = false) => ?_)
                    · refine lenE (k := (p0.L).length) (by simp) (fun hN27 => ?_)
                      refine ⟨_, _, c_spec_l1In (((p0.L).length : Nat) : Int) 1 4, (FzAs.same _), ?_⟩
                      refine litE (m := 2) rfl ?_
                      refine And.intro (fun _ => .v _) ?_
                      have hg : spec_l5One p0 = (spec_l1In (((p0.L).length : Nat) : Int) 1 4) := by
                        first | rfl | (simp only [spec_l5One, h1, h2, h7, h12, h17, h22, h23, h24, h25, h26, cond_true, cond_false, Step.fin_stop, Step.fin_done, Fin.get_fin, Fin.get_done, Step.fin_next, Bool.not_true, Bool.not_false, Option.getD_some]; done) | (simp [spec_l5One, h1, h2, h7, h12, h17, h22, h23, h24, h25, h26, cond_true, cond_false, Step.fin_stop, Step.fin_done, Fin.get_fin, Fin.get_done, Step.fin_next, Bool.not_true, Bool.not_false, Option.getD_some]; done) | (exfalso; simp_all; done)
                      exact congrArg (fun g : Bool => AV.one (.v (.bool g))) hg.symm
                    · refine And.intro (fun _ => .v _) ?_
                      have hg : spec_l5One p0 = false := by
                        first | rfl | (simp only [spec_l5One, h1, h2, h7, h12, h17, h22, h23, h24, h25, h26, cond_true, cond_false, Step.fin_stop, Step.fin_done, Fin.get_fin, Fin.get_done, Step.fin_next, Bool.not_true, Bool.not_false, Option.getD_some]; done) | (simp [spec_l5One, h1, h2, h7, h12, h17, h22, h23, h24, h25, h26, cond_true, cond_false, Step.fin_stop, Step.fin_done, Fin.get_fin, Fin.get_done, Step.fin_next, Bool.not_true, Bool.not_false, Option.getD_some]; done) | (exfalso; simp_all; done)
                      exact congrArg (fun g : Bool => AV.one (.v (.bool g))) hg.symm
                  · refine And.intro (fun _ => .v _) ?_
                    have hg : spec_l5One p0 = false := by
                      first | rfl | (simp only [spec_l5One, h1, h2, h7, h12, h17, h22, h23, h24, h25, cond_true, cond_false, Step.fin_stop, Step.fin_done, Fin.get_fin, Fin.get_done, Step.fin_next, Bool.not_true, Bool.not_false, Option.getD_some]; done) | (simp [spec_l5One, h1, h2, h7, h12, h17, h22, h23, h24, h25, cond_true, cond_false, Step.fin_stop, Step.fin_done, Fin.get_fin, Fin.get_done, Step.fin_next, Bool.not_true, Bool.not_false, Option.getD_some]; done) | (exfalso; simp_all; done)
                    exact congrArg (fun g : Bool => AV.one (.v (.bool g))) hg.symm
                · refine And.intro (fun _ => .v _) ?_
                  have hg : spec_l5One p0 = false := by
                    first | rfl | (simp only [spec_l5One, h1, h2, h7, h12, h17, h22, h23, h24, cond_true, cond_false, Step.fin_stop, Step.fin_done, Fin.get_fin, Fin.get_done, Step.fin_next, Bool.not_true, Bool.not_false, Option.getD_some]; done) | (simp [spec_l5One, h1, h2, h7, h12, h17, h22, h23, h24, cond_true, cond_false, Step.fin_stop, Step.fin_done, Fin.get_fin, Fin.get_done, Step.fin_next, Bool.not_true, Bool.not_false, Option.getD_some]; done) | (exfalso; simp_all; done)
                  exact congrArg (fun g : Bool => AV.one (.v (.bool g))) hg.symm
              · refine And.intro (fun (h28 : (p0.Kind == 9) = true) => ?_) (fun (h28 : (p0.Kind == 9) = false) => ?_)
                · refine And.intro (fun (h29 : (p0.N == 0) = true) => ?_) (fun (h29 : (p0.N == 0) = false) => ?_)
                  · refine And.intro (fun (h30 : (decide (p0.Key = (ByteArray.mk #[]))) = true) => ?_) (fun (h30 : (decide (p0.Key = (ByteArray.mk #[]))) = false) => ?_)
                    · refine And.intro (fun (h31 : (decide (p0.Text = (ByteArray.mk #[]))) = true) => ?_) (fun (h31 : (decide (p0.Text = (ByteArray.mk #[]))) = false) => ?_)
                      · refine lenE (k := (p0.L).length) (by simp) (fun hN32 => ?_)
                        refine And.intro (fun _ => .v _) ?_
                        have hg : spec_l5One p0 = ((((p0.L).length : Nat) : Int) == 1) := by
                          first | rfl | (simp only [spec_l5One, h1, h2, h7, h12, h17, h22, h23, h28, h29, h30, h31, cond_true, cond_false, Step.fin_stop, Step.fin_done, Fin.get_fin, Fin.get_done, Step.fin_next, Bool.not_true, Bool.not_false, Option.getD_some]; done) | (simp [spec_l5One, h1, h2, h7, h12, h17, h22, h23, h28, h29, h30, h31, cond_true, cond_false, Step.fin_stop, Step.fin_done, Fin.get_fin, Fin.get_done, Step.fin_next, Bool.not_true, Bool.not_false, Option.getD_some]; done) | (exfalso; simp_all; done)
                        exact congrArg (fun g : Bool => AV.one (.v (.bool g))) hg.symm
                      · refine And.intro (fun _ => .v _) ?_
                        have hg : spec_l5One p0 = false := by
                          first | rfl | (simp only [spec_l5One, h1, h2, h7, h12, h17, h22, h23, h28, h29, h30, h31, cond_true, cond_false, Step.fin_stop, Step.fin_done, Fin.get_fin, Fin.get_done, Step.fin_next, Bool.not_true, Bool.not_false, Option.getD_some]; done) | (simp [spec_l5One, h1, h2, h7, h12, h17, h22, h23, h28, h29, h30, h31, cond_true, cond_false, Step.fin_stop, Step.fin_done, Fin.get_fin, Fin.get_done, Step.fin_next, Bool.not_true, Bool.not_false, Option.getD_some]; done) | (exfalso; simp_all; done)
                        exact congrArg (fun g : Bool => AV.one (.v (.bool g))) hg.symm
                    · refine And.intro (fun _ => .v _) ?_
                      have hg : spec_l5One p0 = false := by
                        first | rfl | (simp only [spec_l5One, h1, h2, h7, h12, h17, h22, h23, h28, h29, h30, cond_true, cond_false, Step.fin_stop, Step.fin_done, Fin.get_fin, Fin.get_done, Step.fin_next, Bool.not_true, Bool.not_false, Option.getD_some]; done) | (simp [spec_l5One, h1, h2, h7, h12, h17, h22, h23, h28, h29, h30, cond_true, cond_false, Step.fin_stop, Step.fin_done, Fin.get_fin, Fin.get_done, Step.fin_next, Bool.not_true, Bool.not_false, Option.getD_some]; done) | (exfalso; simp_all; done)
                      exact congrArg (fun g : Bool => AV.one (.v (.bool g))) hg.symm
                  · refine And.intro (fun _ => .v _) ?_
                    have hg : spec_l5One p0 = false := by
                      first | rfl | (simp only [spec_l5One, h1, h2, h7, h12, h17, h22, h23, h28, h29, cond_true, cond_false, Step.fin_stop, Step.fin_done, Fin.get_fin, Fin.get_done, Step.fin_next, Bool.not_true, Bool.not_false, Option.getD_some]; done) | (simp [spec_l5One, h1, h2, h7, h12, h17, h22, h23, h28, h29, cond_true, cond_false, Step.fin_stop, Step.fin_done, Fin.get_fin, Fin.get_done, Step.fin_next, Bool.not_true, Bool.not_false, Option.getD_some]; done) | (exfalso; simp_all; done)
                    exact congrArg (fun g : Bool => AV.one (.v (.bool g))) hg.symm
                · refine And.intro (fun _ => .v _) ?_
                  have hg : spec_l5One p0 = false := by
                    first | rfl | (simp only [spec_l5One, h1, h2, h7, h12, h17, h22, h23, h28, cond_true, cond_false, Step.fin_stop, Step.fin_done, Fin.get_fin, Fin.get_done, Step.fin_next, Bool.not_true, Bool.not_false, Option.getD_some]; done) | (simp [spec_l5One, h1, h2, h7, h12, h17, h22, h23, h28, cond_true, cond_false, Step.fin_stop, Step.fin_done, Fin.get_fin, Fin.get_done, Step.fin_next, Bool.not_true, Bool.not_false, Option.getD_some]; done) | (exfalso; simp_all; done)
                  exact congrArg (fun g : Bool => AV.one (.v (.bool g))) hg.symm
            · refine And.intro (fun (h33 : (p0.Kind == 8) = true) => ?_) (fun (h33 : (p0.Kind == 8) = false) => ?_)
              · refine And.intro (fun (h34 : (p0.N == 0) = true) => ?_) (fun (h34 : (p0.N == 0) = false) => ?_)
                · refine And.intro (fun (h35 : (decide (p0.Key = (ByteArray.mk #[]))) = true) => ?_) (fun (h35 : (decide (p0.Key = (ByteArray.mk #[]))) = false) => ?_)
                  · refine And.intro (fun (h36 : (decide (p0.Text = (ByteArray.mk #[]))) = true) => ?_) (fun (h36 : (decide (p0.Text = (ByteArray.mk #[]))) = false) => ?_)
                    · refine lenE (k := (p0.L).length) (by simp) (fun hN37 => ?_)
                      refine ⟨_, _, c_spec_l1In (((p0.L).length : Nat) : Int) 1 4, (FzAs.same _), ?_⟩
                      refine litE (m := 2) rfl ?_
                      refine And.intro (fun _ => .v _) ?_
                      have hg : spec_l5One p0 = (spec_l1In (((p0.L).length : Nat) : Int) 1 4) := by
                        first | rfl | (simp only [spec_l5One, h1, h2, h7, h12, h17, h22, h33, h34, h35, h36, cond_true, cond_false, Step.fin_stop, Step.fin_done, Fin.get_fin, Fin.get_done, Step.fin_next, Bool.not_true, Bool.not_false, Option.getD_some]; done) | (simp [spec_l5One, h1, h2, h7, h12, h17, h22, h33, h34, h35, h36, cond_true, cond_false, Step.fin_stop, Step.fin_done, Fin.get_fin, Fin.get_done, Step.fin_next, Bool.not_true, Bool.not_false, Option.getD_some]; done) | (exfalso; simp_all; done)
                      exact congrArg (fun g : Bool => AV.one (.v (.bool g))) hg.symm
                    · refine And.intro (fun _ => .v _) ?_
                      have hg : spec_l5One p0 = false := by
                        first | rfl | (simp only [spec_l5One, h1, h2, h7, h12, h17, h22, h33, h34, h35, h36, cond_true, cond_false, Step.fin_stop, Step.fin_done, Fin.get_fin, Fin.get_done, Step.fin_next, Bool.not_true, Bool.not_false, Option.getD_some]; done) | (simp [spec_l5One, h1, h2, h7, h12, h17, h22, h33, h34, h35, h36, cond_true, cond_false, Step.fin_stop, Step.fin_done, Fin.get_fin, Fin.get_done, Step.fin_next, Bool.not_true, Bool.not_false, Option.getD_some]; done) | (exfalso; simp_all; done)
                      exact congrArg (fun g : Bool => AV.one (.v (.bool g))) hg.symm
                  · refine And.intro (fun _ => .v _) ?_
                    have hg : spec_l5One p0 = false := by
                      first | rfl | (simp only [spec_l5One, h1, h2, h7, h12, h17, h22, h33, h34, h35, cond_true, cond_false, Step.fin_stop, Step.fin_done, Fin.get_fin, Fin.get_done, Step.fin_next, Bool.not_true, Bool.not_false, Option.getD_some]; done) | (simp [spec_l5One, h1, h2, h7, h12, h17, h22, h33, h34, h35, cond_true, cond_false, Step.fin_stop, Step.fin_done, Fin.get_fin, Fin.get_done, Step.fin_next, Bool.not_true, Bool.not_false, Option.getD_some]; done) | (exfalso; simp_all; done)
                    exact congrArg (fun g : Bool => AV.one (.v (.bool g))) hg.symm
                · refine And.intro (fun _ => .v _) ?_
                  have hg : spec_l5One p0 = false := by
                    first | rfl | (simp only [spec_l5One, h1, h2, h7, h12, h17, h22, h33, h34, cond_true, cond_false, Step.fin_stop, Step.fin_done, Fin.get_fin, Fin.get_done, Step.fin_next, Bool.not_true, Bool.not_false, Option.getD_some]; done) | (simp [spec_l5One, h1, h2, h7, h12, h17, h22, h33, h34, cond_true, cond_false, Step.fin_stop, Step.fin_done, Fin.get_fin, Fin.get_done, Step.fin_next, Bool.not_true, Bool.not_false, Option.getD_some]; done) | (exfalso; simp_all; done)
                  exact congrArg (fun g : Bool => AV.one (.v (.bool g))) hg.symm
              · refine And.intro (fun (h38 : (p0.Kind == 9) = true) => ?_) (fun (h38 : (p0.Kind == 9) = false) => ?_)
                · refine And.intro (fun (h39 : (p0.N == 0) = true) => ?_) (fun (h39 : (p0.N == 0) = false) => ?_)
                  · refine And.intro (fun (h40 : (decide (p0.Key = (ByteArray.mk #[]))) = true) => ?_) (fun (h40 : (decide (p0.Key = (ByteArray.mk #[]))) = false) => ?_)
                    · refine And.intro (fun (h41 : (decide (p0.Text = (ByteArray.mk #[]))) = true) => ?_) (fun (h41 : (decide (p0.Text = (ByteArray.mk #[]))) = false) => ?_)
                      · refine lenE (k := (p0.L).length) (by simp) (fun hN42 => ?_)
                        refine And.intro (fun _ => .v _) ?_
                        have hg : spec_l5One p0 = ((((p0.L).length : Nat) : Int) == 1) := by
                          first | rfl | (simp only [spec_l5One, h1, h2, h7, h12, h17, h22, h33, h38, h39, h40, h41, cond_true, cond_false, Step.fin_stop, Step.fin_done, Fin.get_fin, Fin.get_done, Step.fin_next, Bool.not_true, Bool.not_false, Option.getD_some]; done) | (simp [spec_l5One, h1, h2, h7, h12, h17, h22, h33, h38, h39, h40, h41, cond_true, cond_false, Step.fin_stop, Step.fin_done, Fin.get_fin, Fin.get_done, Step.fin_next, Bool.not_true, Bool.not_false, Option.getD_some]; done) | (exfalso; simp_all; done)
                        exact congrArg (fun g : Bool => AV.one (.v (.bool g))) hg.symm
                      · refine And.intro (fun _ => .v _) ?_
                        have hg : spec_l5One p0 = false := by
                          first | rfl | (simp only [spec_l5One, h1, h2, h7, h12, h17, h22, h33, h38, h39, h40, h41, cond_true, cond_false, Step.fin_stop, Step.fin_done, Fin.get_fin, Fin.get_done, Step.fin_next, Bool.not_true, Bool.not_false, Option.getD_some]; done) | (simp [spec_l5One, h1, h2, h7, h12, h17, h22, h33, h38, h39, h40, h41, cond_true, cond_false, Step.fin_stop, Step.fin_done, Fin.get_fin, Fin.get_done, Step.fin_next, Bool.not_true, Bool.not_false, Option.getD_some]; done) | (exfalso; simp_all; done)
                        exact congrArg (fun g : Bool => AV.one (.v (.bool g))) hg.symm
                    · refine And.intro (fun _ => .v _) ?_
                      have hg : spec_l5One p0 = false := by
                        first | rfl | (simp only [spec_l5One, h1, h2, h7, h12, h17, h22, h33, h38, h39, h40, cond_true, cond_false, Step.fin_stop, Step.fin_done, Fin.get_fin, Fin.get_done, Step.fin_next, Bool.not_true, Bool.not_false, Option.getD_some]; done) | (simp [spec_l5One, h1, h2, h7, h12, h17, h22, h33, h38, h39, h40, cond_true, cond_false, Step.fin_stop, Step.fin_done, Fin.get_fin, Fin.get_done, Step.fin_next, Bool.not_true, Bool.not_false, Option.getD_some]; done) | (exfalso; simp_all; done)
                      exact congrArg (fun g : Bool => AV.one (.v (.bool g))) hg.symm
                  · refine And.intro (fun _ => .v _) ?_
                    have hg : spec_l5One p0 = false := by
                      first | rfl | (simp only [spec_l5One, h1, h2, h7, h12, h17, h22, h33, h38, h39, cond_true, cond_false, Step.fin_stop, Step.fin_done, Fin.get_fin, Fin.get_done, Step.fin_next, Bool.not_true, Bool.not_false, Option.getD_some]; done) | (simp [spec_l5One, h1, h2, h7, h12, h17, h22, h33, h38, h39, cond_true, cond_false, Step.fin_stop, Step.fin_done, Fin.get_fin, Fin.get_done, Step.fin_next, Bool.not_true, Bool.not_false, Option.getD_some]; done) | (exfalso; simp_all; done)
                    exact congrArg (fun g : Bool => AV.one (.v (.bool g))) hg.symm
                · refine And.intro (fun _ => .v _) ?_
                  have hg : spec_l5One p0 = false := by
                    first | rfl | (simp only [spec_l5One, h1, h2, h7, h12, h17, h22, h33, h38, cond_true, cond_false, Step.fin_stop, Step.fin_done, Fin.get_fin, Fin.get_done, Step.fin_next, Bool.not_true, Bool.not_false, Option.getD_some]; done) | (simp [spec_l5One, h1, h2, h7, h12, h17, h22, h33, h38, cond_true, cond_false, Step.fin_stop, Step.fin_done, Fin.get_fin, Fin.get_done, Step.fin_next, Bool.not_true, Bool.not_false, Option.getD_some]; done) | (exfalso; simp_all; done)
                  exact congrArg (fun g : Bool => AV.one (.v (.bool g))) hg.symm
  · refine And.intro (fun (h43 : (p0.Kind == 2) = true) => ?_) (fun (h43 : (p0.Kind == 2) = false) => ?_)
    · refine And.intro (fun (h44 : (p0.Kind == 2) = true) => ?_) (fun (h44 : (p0.Kind == 2) = false) => ?_)
      · refine And.intro (fun (h45 : (p0.N == 0) = true) => ?_) (fun (h45 : (p0.N == 0) = false) => ?_)
        · refine And.intro (fun (h46 : (decide (p0.Key = (ByteArray.mk #[]))) = true) => ?_) (fun (h46 : (decide (p0.Key = (ByteArray.mk #[]))) = false) => ?_)
          · refine And.intro (fun (h47 : (decide (p0.Text = (ByteArray.mk #[]))) = true) => ?_) (fun (h47 : (decide (p0.Text = (ByteArray.mk #[]))) = false) => ?_)
            · refine lenE (k := (p0.L).length) (by simp) (fun hN48 => ?_)
              refine And.intro (fun _ => .v _) ?_
              have hg : spec_l5One p0 = ((((p0.L).length : Nat) : Int) == 0) := by
                first | rfl | (simp only [spec_l5One, h1, h43, h44, h45, h46, h47, cond_true, cond_false, Step.fin_stop, Step.fin_done, Fin.get_fin, Fin.get_done, Step.fin_next, Bool.not_true, Bool.not_false, Option.getD_some]; done) | (simp [spec_l5One, h1, h43, h44, h45, h46, h47, cond_true, cond_false, Step.fin_stop, Step.fin_done, Fin.get_fin, Fin.get_done, Step.fin_next, Bool.not_true, Bool.not_false, Option.getD_some]; done) | (exfalso; simp_all; done)
              exact congrArg (fun g : Bool => AV.one (.v (.bool g))) hg.symm
            · refine And.intro (fun _ => .v _) ?_
              have hg : spec_l5One p0 = false := by
                first | rfl | (simp only [spec_l5One, h1, h43, h44, h45, h46, h47, cond_true, cond_false, Step.fin_stop, Step.fin_done, Fin.get_fin, Fin.get_done, Step.fin_next, Bool.not_true, Bool.not_false, Option.getD_some]; done) | (simp [spec_l5One, h1, h43, h44, h45, h46, h47, cond_true, cond_false, Step.fin_stop, Step.fin_done, Fin.get_fin, Fin.get_done, Step.fin_next, Bool.not_true, Bool.not_false, Option.getD_some]; done) | (exfalso; simp_all; done)
              exact congrArg (fun g : Bool => AV.one (.v (.bool g))) hg.symm
          · refine And.intro (fun _ => .v _) ?_
            have hg : spec_l5One p0 = false := by
              first | rfl | (simp only [spec_l5One, h1, h43, h44, h45, h46, cond_true, cond_false, Step.fin_stop, Step.fin_done, Fin.get_fin, Fin.get_done, Step.fin_next, Bool.not_true, Bool.not_false, Option.getD_some]; done) | (simp [spec_l5One, h1, h43, h44, h45, h46, cond_true, cond_false, Step.fin_stop, Step.fin_done, Fin.get_fin, Fin.get_done, Step.fin_next, Bool.not_true, Bool.not_false, Option.getD_some]; done) | (exfalso; simp_all; done)
            exact congrArg (fun g : Bool => AV.one (.v (.bool g))) hg.symm
        · refine And.intro (fun _ => .v _) ?_
          have hg : spec_l5One p0 = false := by
            first | rfl | (simp only [spec_l5One, h1, h43, h44, h45, cond_true, cond_false, Step.fin_stop, Step.fin_done, Fin.get_fin, Fin.get_done, Step.fin_next, Bool.not_true, Bool.not_false, Option.getD_some]; done) | (simp [spec_l5One, h1, h43, h44, h45, cond_true, cond_false, Step.fin_stop, Step.fin_done, Fin.get_fin, Fin.get_done, Step.fin_next, Bool.not_true, Bool.not_false, Option.getD_some]; done) | (exfalso; simp_all; done)
          exact congrArg (fun g : Bool => AV.one (.v (.bool g))) hg.symm
      · refine And.intro (fun (h49 : (p0.Kind == 3) = true) => ?_) (fun (h49 : (p0.Kind == 3) = false) => ?_)
        · refine ⟨_, _, c_spec_l1In p0.N 0 2147483647, (FzAs.same _), ?_⟩
          refine litE (m := 2) rfl ?_
          refine And.intro (fun (h50 : (spec_l1In p0.N 0 2147483647) = true) => ?_) (fun (h50 : (spec_l1In p0.N 0 2147483647) = false) => ?_)
          · refine And.intro (fun (h51 : (decide (p0.Key = (ByteArray.mk #[]))) = true) => ?_) (fun (h51 : (decide (p0.Key = (ByteArray.mk #[]))) = false) => ?_)
            · refine And.intro (fun (h52 : (decide (p0.Text = (ByteArray.mk #[]))) = true) => ?_) (fun (h52 : (decide (p0.Text = (ByteArray.mk #[]))) = false) => ?_)
              · refine lenE (k := (p0.L).length) (by simp) (fun hN53 => ?_)
                refine And.intro (fun _ => .v _) ?_
                have hg : spec_l5One p0 = ((((p0.L).length : Nat) : Int) == 0) := by
                  first | rfl | (simp only [spec_l5One, h1, h43, h44, h49, h50, h51, h52, cond_true, cond_false, Step.fin_stop, Step.fin_done, Fin.get_fin, Fin.get_done, Step.fin_next, Bool.not_true, Bool.not_false, Option.getD_some]; done) | (simp [spec_l5One, h1, h43, h44, h49, h50, h51, h52, cond_true, cond_false, Step.fin_stop, Step.fin_done, Fin.get_fin, Fin.get_done, Step.fin_next, Bool.not_true, Bool.not_false, Option.getD_some]; done) | (exfalso; simp_all; done)
                exact congrArg (fun g : Bool => AV.one (.v (.bool g))) hg.symm
              · refine And.intro (fun _ => .v _) ?_
                have hg : spec_l5One p0 = false := by
                  first | rfl | (simp only [spec_l5One, h1, h43, h44, h49, h50, h51, h52, cond_true, cond_false, Step.fin_stop, Step.fin_done, Fin.get_fin, Fin.get_done, Step.fin_next, Bool.not_true, Bool.not_false, Option.getD_some]; done) | (simp [spec_l5One, h1, h43, h44, h49, h50, h51, h52, cond_true, cond_false, Step.fin_stop, Step.fin_done, Fin.get_fin, Fin.get_done, Step.fin_next, Bool.not_true, Bool.not_false, Option.getD_some]; done) | (exfalso; simp_all; done)
                exact congrArg (fun g : Bool => AV.one (.v (.bool g))) hg.symm
            · refine And.intro (fun _ => .v _) ?_
              have hg : spec_l5One p0 = false := by
                first | rfl | (simp only [spec_l5One, h1, h43, h44, h49, h50, h51, cond_true, cond_false, Step.fin_stop, Step.fin_done, Fin.get_fin, Fin.get_done, Step.fin_next, Bool.not_true, Bool.not_false, Option.getD_some]; done) | (simp [spec_l5One, h1, h43, h44, h49, h50, h51, cond_true, cond_false, Step.fin_stop, Step.fin_done, Fin.get_fin, Fin.get_done, Step.fin_next, Bool.not_true, Bool.not_false, Option.getD_some]; done) | (exfalso; simp_all; done)
              exact congrArg (fun g : Bool => AV.one (.v (.bool g))) hg.symm
          · refine And.intro (fun _ => .v _) ?_
            have hg : spec_l5One p0 = false := by
              first | rfl | (simp only [spec_l5One, h1, h43, h44, h49, h50, cond_true, cond_false, Step.fin_stop, Step.fin_done, Fin.get_fin, Fin.get_done, Step.fin_next, Bool.not_true, Bool.not_false, Option.getD_some]; done) | (simp [spec_l5One, h1, h43, h44, h49, h50, cond_true, cond_false, Step.fin_stop, Step.fin_done, Fin.get_fin, Fin.get_done, Step.fin_next, Bool.not_true, Bool.not_false, Option.getD_some]; done) | (exfalso; simp_all; done)
            exact congrArg (fun g : Bool => AV.one (.v (.bool g))) hg.symm
        · refine And.intro (fun (h54 : (p0.Kind == 4) = true) => ?_) (fun (h54 : (p0.Kind == 4) = false) => ?_)
          · refine And.intro (fun (h55 : (p0.N == 0) = true) => ?_) (fun (h55 : (p0.N == 0) = false) => ?_)
            · refine ⟨_, _, c_spec_NameOk p0.Key, (FzAs.same _), ?_⟩
              refine litE (m := 2) rfl ?_
              refine And.intro (fun (h56 : (spec_NameOk p0.Key) = true) => ?_) (fun (h56 : (spec_NameOk p0.Key) = false) => ?_)
              · refine ⟨_, _, c_spec_PlainOk p0.Text, (FzAs.same _), ?_⟩
                refine litE (m := 3) rfl ?_
                refine And.intro (fun (h57 : (spec_PlainOk p0.Text) = true) => ?_) (fun (h57 : (spec_PlainOk p0.Text) = false) => ?_)
                · refine lenE (k := (p0.L).length) (by simp) (fun hN58 => ?_)
                  refine And.intro (fun _ => .v _) ?_
                  have hg : spec_l5One p0 = ((((p0.L).length : Nat) : Int) == 0) := by
                    first | rfl | (simp only [spec_l5One, h1, h43, h44, h49, h54, h55, h56, h57, cond_true, cond_false, Step.fin_stop, Step.fin_done, Fin.get_fin, Fin.get_done, Step.fin_next, Bool.not_true, Bool.not_false, Option.getD_some]; done) | (simp [spec_l5One, h1, h43, h44, h49, h54, h55, h56, h57, cond_true, cond_false, Step.fin_stop, Step.fin_done, Fin.get_fin, Fin.get_done, Step.fin_next, Bool.not_true, Bool.not_false, Option.getD_some]; done) | (exfalso; simp_all; done)
                  exact congrArg (fun g : Bool => AV.one (.v (.bool g))) hg.symm
                · refine And.intro (fun _ => .v _) ?_
                  have hg : spec_l5One p0 = false := by
                    first | rfl | (simp only [spec_l5One, h1, h43, h44, h49, h54, h55, h56, h57, cond_true, cond_false, Step.fin_stop, Step.fin_done, Fin.get_fin, Fin.get_done, Step.fin_next, Bool.not_true, Bool.not_false, Option.getD_some]; done) | (simp [spec_l5One, h1, h43, h44, h49, h54, h55, h56, h57, cond_true, cond_false, Step.fin_stop, Step.fin_done, Fin.get_fin, Fin.get_done, Step.fin_next, Bool.not_true, Bool.not_false, Option.getD_some]; done) | (exfalso; simp_all; done)
                  exact congrArg (fun g : Bool => AV.one (.v (.bool g))) hg.symm
              · refine And.intro (fun _ => .v _) ?_
                have hg : spec_l5One p0 = false := by
                  first | rfl | (simp only [spec_l5One, h1, h43, h44, h49, h54, h55, h56, cond_true, cond_false, Step.fin_stop, Step.fin_done, Fin.get_fin, Fin.get_done, Step.fin_next, Bool.not_true, Bool.not_false, Option.getD_some]; done) | (simp [spec_l5One, h1, h43, h44, h49, h54, h55, h56, cond_true, cond_false, Step.fin_stop, Step.fin_done, Fin.get_fin, Fin.get_done, Step.fin_next, Bool.not_true, Bool.not_false, Option.getD_some]; done) | (exfalso; simp_all; done)
                exact congrArg (fun g : Bool => AV.one (.v (.bool g))) hg.symm
            · refine And.intro (fun _ => .v _) ?_
              have hg : spec_l5One p0 = false := by
                first | rfl | (simp only [spec_l5One, h1, h43, h44, h49, h54, h55, cond_true, cond_false, Step.fin_stop, Step.fin_done, Fin.get_fin, Fin.get_done, Step.fin_next, Bool.not_true, Bool.not_false, Option.getD_some]; done) | (simp [spec_l5One, h1, h43, h44, h49, h54, h55, cond_true, cond_false, Step.fin_stop, Step.fin_done, Fin.get_fin, Fin.get_done, Step.fin_next, Bool.not_true, Bool.not_false, Option.getD_some]; done) | (exfalso; simp_all; done)
              exact congrArg (fun g : Bool => AV.one (.v (.bool g))) hg.symm
          · refine And.intro (fun (h59 : (p0.Kind == 5) = true) => ?_) (fun (h59 : (p0.Kind == 5) = false) => ?_)
            · refine ⟨_, _, c_spec_l1In p0.N 0 2147483647, (FzAs.same _), ?_⟩
              refine litE (m := 2) rfl ?_
              refine And.intro (fun (h60 : (spec_l1In p0.N 0 2147483647) = true) => ?_) (fun (h60 : (spec_l1In p0.N 0 2147483647) = false) => ?_)
              · refine ⟨_, _, c_spec_NameOk p0.Key, (FzAs.same _), ?_⟩
                refine litE (m := 3) rfl ?_
                refine And.intro (fun (h61 : (spec_NameOk p0.Key) = true) => ?_) (fun (h61 : (spec_NameOk p0.Key) = false) => ?_)
                · refine And.intro (fun (h62 : (decide (p0.Text = (ByteArray.mk #[]))) = true) => ?_) (fun (h62 : (decide (p0.Text = (ByteArray.mk #[]))) = false) => ?_)
                  · refine lenE (k := (p0.L).length) (by simp) (fun hN63 => ?_)
                    refine And.intro (fun _ => .v _) ?_
                    have hg : spec_l5One p0 = ((((p0.L).length : Nat) : Int) == 0) := by
                      first | rfl | (simp only [spec_l5One, h1, h43, h44, h49, h54, h59, h60, h61, h62, cond_true, cond_false, Step.fin_stop, Step.fin_done, Fin.get_fin, Fin.get_done, Step.fin_next, Bool.not_true, Bool.not_false, Option.getD_some]; done) | (simp [spec_l5One, h1, h43, h44, h49, h54, h59, h60, h61, h62, cond_true, cond_false, Step.fin_stop, Step.fin_done, Fin.get_fin, Fin.get_done, Step.fin_next, Bool.not_true, Bool.not_false, Option.getD_some]; done) | (exfalso; simp_all; done)
                    exact congrArg (fun g : Bool => AV.one (.v (.bool g))) hg.symm
                  · refine And.intro (fun _ => .v _) ?_
                    have hg : spec_l5One p0 = false := by
                      first | rfl | (simp only [spec_l5One, h1, h43, h44, h49, h54, h59, h60, h61, h62, cond_true, cond_false, Step.fin_stop, Step.fin_done, Fin.get_fin, Fin.get_done, Step.fin_next, Bool.not_true, Bool.not_false, Option.getD_some]; done) | (simp [spec_l5One, h1, h43, h44, h49, h54, h59, h60, h61, h62, cond_true, cond_false, Step.fin_stop, Step.fin_done, Fin.get_fin, Fin.get_done, Step.fin_next, Bool.not_true, Bool.not_false, Option.getD_some]; done) | (exfalso; simp_all; done)
                    exact congrArg (fun g : Bool => AV.one (.v (.bool g))) hg.symm
                · refine And.intro (fun _ => .v _) ?_
                  have hg : spec_l5One p0 = false := by
                    first | rfl | (simp only [spec_l5One, h1, h43, h44, h49, h54, h59, h60, h61, cond_true, cond_false, Step.fin_stop, Step.fin_done, Fin.get_fin, Fin.get_done, Step.fin_next, Bool.not_true, Bool.not_false, Option.getD_some]; done) | (simp [spec_l5One, h1, h43, h44, h49, h54, h59, h60, h61, cond_true, cond_false, Step.fin_stop, Step.fin_done, Fin.get_fin, Fin.get_done, Step.fin_next, Bool.not_true, Bool.not_false, Option.getD_some]; done) | (exfalso; simp_all; done)
                  exact congrArg (fun g : Bool => AV.one (.v (.bool g))) hg.symm
              · refine And.intro (fun _ => .v _) ?_
                have hg : spec_l5One p0 = false := by
                  first | rfl | (simp only [spec_l5One, h1, h43, h44, h49, h54, h59, h60, cond_true, cond_false, Step.fin_stop, Step.fin_done, Fin.get_fin, Fin.get_done, Step.fin_next, Bool.not_true, Bool.not_false, Option.getD_some]; done) | (simp [spec_l5One, h1, h43, h44, h49, h54, h59, h60, cond_true, cond_false, Step.fin_stop, Step.fin_done, Fin.get_fin, Fin.get_done, Step.fin_next, Bool.not_true, Bool.not_false, Option.getD_some]; done) | (exfalso; simp_all; done)
                exact congrArg (fun g : Bool => AV.one (.v (.bool g))) hg.symm
            · refine And.intro (fun (h64 : (p0.Kind == 7) = true) => ?_) (fun (h64 : (p0.Kind == 7) = false) => ?_)
              · refine And.intro (fun (h65 : (p0.Kind == 7) = true) => ?_) (fun (h65 : (p0.Kind == 7) = false) => ?_)
                · refine And.intro (fun (h66 : (p0.N == 0) = true) => ?_) (fun (h66 : (p0.N == 0) = false) => ?_)
                  · refine And.intro (fun (h67 : (decide (p0.Key = (ByteArray.mk #[]))) = true) => ?_) (fun (h67 : (decide (p0.Key = (ByteArray.mk #[]))) = false) => ?_)
                    · refine And.intro (fun (h68 : (decide (p0.Text = (ByteArray.mk #[]))) = true) => ?_) (fun (h68 : (decide (p0.Text = (ByteArray.mk #[]))) = false) => ?_)
                      · refine lenE (k := (p0.L).length) (by simp) (fun hN69 => ?_)
                        refine ⟨_, _, c_spec_l1In (((p0.L).length : Nat) : Int) 1 4, (FzAs.same _), ?_⟩
                        refine litE (m := 2) rfl ?_
                        refine And.intro (fun _ => .v _) ?_
                        have hg : spec_l5One p0 = (spec_l1In (((p0.L).length : Nat) : Int) 1 4) := by
                          first | rfl | (simp only [spec_l5One, h1, h43, h44, h49, h54, h59, h64, h65, h66, h67, h68, cond_true, cond_false, Step.fin_stop, Step.fin_done, Fin.get_fin, Fin.get_done, Step.fin_next, Bool.not_true, Bool.not_false, Option.getD_some]; done) | (simp [spec_l5One, h1, h43, h44, h49, h54, h59, h64, h65, h66, h67, h68, cond_true, cond_false, Step.fin_stop, Step.fin_done, Fin.get_fin, Fin.get_done, Step.fin_next, Bool.not_true, Bool.not_false, Option.getD_some]; done) | (exfalso; simp_all; done)
                        exact congrArg (fun g : Bool => AV.one (.v (.bool g))) hg.symm
                      · refine And.intro (fun _ => .v _) ?_
                        have hg : spec_l5One p0 = false := by
                          first | rfl | (simp only [spec_l5One, h1, h43, h44, h49, h54, h59, h64, h65, h66, h67, h68, cond_true, cond_false, Step.fin_stop, Step.fin_done, Fin.get_fin, Fin.get_done, Step.fin_next, Bool.not_true, Bool.not_false, Option.getD_some]; done) | (simp [spec_l5One, h1, h43, h44, h49, h54, h59, h64, h65, h66, h67, h68, cond_true, cond_false, Step.fin_stop, Step.fin_done, Fin.get_fin, Fin.get_done, Step.fin_next, Bool.not_true, Bool.not_false, Option.getD_some]; done) | (exfalso; simp_all; done)
                        exact congrArg (fun g : Bool => AV.one (.v (.bool g))) hg.symm
                    · refine And.intro (fun _ => .v _) ?_
                      have hg : spec_l5One p0 = false := by
                        first | rfl | (simp only [spec_l5One, h1, h43, h44, h49, h54, h59, h64, h65, h66, h67, cond_true, cond_false, Step.fin_stop, Step.fin_done, Fin.get_fin, Fin.get_done, Step.fin_next, Bool.not_true, Bool.not_false, Option.getD_some]; done) | (simp [spec_l5One, h1, h43, h44, h49, h54, h59, h64, h65, h66, h67, cond_true, cond_false, Step.fin_stop, Step.fin_done, Fin.get_fin, Fin.get_done, Step.fin_next, Bool.not_true, Bool.not_false, Option.getD_some]; done) | (exfalso; simp_all; done)
                      exact congrArg (fun g : Bool => AV.one (.v (.bool g))) hg.symm
                  · refine And.intro (fun _ => .v _) ?_
                    have hg : spec_l5One p0 = false := by
                      first | rfl | (simp only [spec_l5One, h1, h43, h44, h49, h54, h59, h64, h65, h66, cond_true, cond_false, Step.fin_stop, Step.fin_done, Fin.get_fin, Fin.get_done, Step.fin_next, Bool.not_true, Bool.not_false, Option.getD_some]; done) | (simp [spec_l5One, h1, h43, h44, h49, h54, h59, h64, h65, h66, cond_true, cond_false, Step.fin_stop, Step.fin_done, Fin.get_fin, Fin.get_done, Step.fin_next, Bool.not_true, Bool.not_false, Option.getD_some]; done) | (exfalso; simp_all; done)
                    exact congrArg (fun g : Bool => AV.one (.v (.bool g))) hg.symm
                · refine And.intro (fun (h70 : (p0.Kind == 9) = true) => ?_) (fun (h70 : (p0.Kind == 9) = false) => ?_)
                  · refine And.intro (fun (h71 : (p0.N == 0) = true) => ?_) (fun (h71 : (p0.N == 0) = false) => ?_)
                    · refine And.intro (fun (h72 : (decide (p0.Key = (ByteArray.mk #[]))) = true) => ?_) (fun (h72 : (decide (p0.Key = (ByteArray.mk #[]))) = false) => ?_)
                      · refine And.intro (fun (h73 : (decide (p0.Text = (ByteArray.mk #[]))) = true) => ?_) (fun (h73 : (decide (p0.Text = (ByteArray.mk #[]))) = false) => ?_)
                        · refine lenE (k := (p0.L).length) (by simp) (fun hN74 => ?_)
                          refine And.intro (fun _ => .v _) ?_
                          have hg : spec_l5One p0 = ((((p0.L).length : Nat) : Int) == 1) := by
                            first | rfl | (simp only [spec_l5One, h1, h43, h44, h49, h54, h59, h64, h65, h70, h71, h72, h73, cond_true, cond_false, Step.fin_stop, Step.fin_done, Fin.get_fin, Fin.get_done, Step.fin_next, Bool.not_true, Bool.not_false, Option.getD_some]; done) | (simp [spec_l5One, h1, h43, h44, h49, h54, h59, h64, h65, h70, h71, h72, h73, cond_true, cond_false, Step.fin_stop, Step.fin_done, Fin.get_fin, Fin.get_done, Step.fin_next, Bool.not_true, Bool.not_false, Option.getD_some]; done) | (exfalso; simp_all; done)
                          exact congrArg (fun g : Bool => AV.one (.v (.bool g))) hg.symm
                        · refine And.intro (fun _ => .v _) ?_
                          have hg : spec_l5One p0 = false := by
                            first | rfl | (simp only [spec_l5One, h1, h43, h44, h49, h54, h59, h64, h65, h70, h71, h72, h73, cond_true, cond_false, Step.fin_stop, Step.fin_done, Fin.get_fin, Fin.get_done, Step.fin_next, Bool.not_true, Bool.not_false, Option.getD_some]; done) | (simp [spec_l5One, h1, h43, h44, h49, h54, h59, h64, h65, h70, h71, h72, h73, cond_true, cond_false, Step.fin_stop, Step.fin_done, Fin.get_fin, Fin.get_done, Step.fin_next, Bool.not_true, Bool.not_false, Option.getD_some]; done) | (exfalso; simp_all; done)
                          exact congrArg (fun g : Bool => AV.one (.v (.bool g))) hg.symm
                      · refine And.intro (fun _ => .v _) ?_
                        have hg : spec_l5One p0 = false := by
                          first | rfl | (simp only [spec_l5One, h1, h43, h44, h49, h54, h59, h64, h65, h70, h71, h72, cond_true, cond_false, Step.fin_stop, Step.fin_done, Fin.get_fin, Fin.get_done, Step.fin_next, Bool.not_true, Bool.not_false, Option.getD_some]; done) | (simp [spec_l5One, h1, h43, h44, h49, h54, h59, h64, h65, h70, h71, h72, cond_true, cond_false, Step.fin_stop, Step.fin_done, Fin.get_fin, Fin.get_done, Step.fin_next, Bool.not_true, Bool.not_false, Option.getD_some]; done) | (exfalso; simp_all; done)
                        exact congrArg (fun g : Bool => AV.one (.v (.bool g))) hg.symm
                    · refine And.intro (fun _ => .v _) ?_
                      have hg : spec_l5One p0 = false := by
                        first | rfl | (simp only [spec_l5One, h1, h43, h44, h49, h54, h59, h64, h65, h70, h71, cond_true, cond_false, Step.fin_stop, Step.fin_done, Fin.get_fin, Fin.get_done, Step.fin_next, Bool.not_true, Bool.not_false, Option.getD_some]; done) | (simp [spec_l5One, h1, h43, h44, h49, h54, h59, h64, h65, h70, h71, cond_true, cond_false, Step.fin_stop, Step.fin_done, Fin.get_fin, Fin.get_done, Step.fin_next, Bool.not_true, Bool.not_false, Option.getD_some]; done) | (exfalso; simp_all; done)
                      exact congrArg (fun g : Bool => AV.one (.v (.bool g))) hg.symm
                  · refine And.intro (fun _ => .v _) ?_
                    have hg : spec_l5One p0 = false := by
                      first | rfl | (simp only [spec_l5One, h1, h43, h44, h49, h54, h59, h64, h65, h70, cond_true, cond_false, Step.fin_stop, Step.fin_done, Fin.get_fin, Fin.get_done, Step.fin_next, Bool.not_true, Bool.not_false, Option.getD_some]; done) | (simp [spec_l5One, h1, h43, h44, h49, h54, h59, h64, h65, h70, cond_true, cond_false, Step.fin_stop, Step.fin_done, Fin.get_fin, Fin.get_done, Step.fin_next, Bool.not_true, Bool.not_false, Option.getD_some]; done) | (exfalso; simp_all; done)
                    exact congrArg (fun g : Bool => AV.one (.v (.bool g))) hg.symm
              · refine And.intro (fun (h75 : (p0.Kind == 8) = true) => ?_) (fun (h75 : (p0.Kind == 8) = false) => ?_)
                · refine And.intro (fun (h76 : (p0.N == 0) = true) => ?_) (fun (h76 : (p0.N == 0) = false) => ?_)
                  · refine And.intro (fun (h77 : (decide (p0.Key = (ByteArray.mk #[]))) = true) => ?_) (fun (h77 : (decide (p0.Key = (ByteArray.mk #[]))) = false) => ?_)
                    · refine And.intro (fun (h78 : (decide (p0.Text = (ByteArray.mk #[]))) = true) => ?_) (fun (h78 : (decide (p0.Text = (ByteArray.mk #[]))) = false) => ?_)
                      · refine lenE (k := (p0.L).length) (by simp) (fun hN79 => ?_)
                        refine ⟨_, _, c_spec_l1In (((p0.L).length : Nat) : Int) 1 4, (FzAs.same _), ?_⟩
                        refine litE (m := 2) rfl ?_
                        refine And.intro (fun _ => .v _) ?_
                        have hg : spec_l5One p0 = (spec_l1In (((p0.L).length : Nat) : Int) 1 4) := by
                          first | rfl | (simp only [spec_l5One, h1, h43, h44, h49, h54, h59, h64, h75, h76, h77, h78, cond_true, cond_false, Step.fin_stop, Step.fin_done, Fin.get_fin, Fin.get_done, Step.fin_next, Bool.not_true, Bool.not_false, Option.getD_some]; done) | (simp [spec_l5One, h1, h43, h44, h49, h54, h59, h64, h75, h76, h77, h78, cond_true, cond_false, Step.fin_stop, Step.fin_done, Fin.get_fin, Fin.get_done, Step.fin_next, Bool.not_true, Bool.not_false, Option.getD_some]; done) | (exfalso; simp_all; done)
                        exact congrArg (fun g : Bool => AV.one (.v (.bool g))) hg.symm
                      · refine And.intro (fun _ => .v _) ?_
                        have hg : spec_l5One p0 = false := by
                          first | rfl | (simp only [spec_l5One, h1, h43, h44, h49, h54, h59, h64, h75, h76, h77, h78, cond_true, cond_false, Step.fin_stop, Step.fin_done, Fin.get_fin, Fin.get_done, Step.fin_next, Bool.not_true, Bool.not_false, Option.getD_some]; done) | (simp [spec_l5One, h1, h43, h44, h49, h54, h59, h64, h75, h76, h77, h78, cond_true, cond_false, Step.fin_stop, Step.fin_done, Fin.get_fin, Fin.get_done, Step.fin_next, Bool.not_true, Bool.not_false, Option.getD_some]; done) | (exfalso; simp_all; done)
                        exact congrArg (fun g : Bool => AV.one (.v (.bool g))) hg.symm
                    · refine And.intro (fun _ => .v _) ?_
                      have hg : spec_l5One p0 = false := by
                        first | rfl | (simp only [spec_l5One, h1, h43, h44, h49, h54, h59, h64, h75, h76, h77, cond_true, cond_false, Step.fin_stop, Step.fin_done, Fin.get_fin, Fin.get_done, Step.fin_next, Bool.not_true, Bool.not_false, Option.getD_some]; done) | (simp [spec_l5One, h1, h43, h44, h49, h54, h59, h64, h75, h76, h77, cond_true, cond_false, Step.fin_stop, Step.fin_done, Fin.get_fin, Fin.get_done, Step.fin_next, Bool.not_true, Bool.not_false, Option.getD_some]; done) | (exfalso; simp_all; done)
                      exact congrArg (fun g : Bool => AV.one (.v (.bool g))) hg.symm
                  · refine And.intro (fun _ => .v _) ?_
                    have hg : spec_l5One p0 = false := by
                      first | rfl | (simp only [spec_l5One, h1, h43, h44, h49, h54, h59, h64, h75, h76, cond_true, cond_false, Step.fin_stop, Step.fin_done, Fin.get_fin, Fin.get_done, Step.fin_next, Bool.not_true, Bool.not_false, Option.getD_some]; done) | (simp [spec_l5One, h1, h43, h44, h49, h54, h59, h64, h75, h76, cond_true, cond_false, Step.fin_stop, Step.fin_done, Fin.get_fin, Fin.get_done, Step.fin_next, Bool.not_true, Bool.not_false, Option.getD_some]; done) | (exfalso; simp_all; done)
                    exact congrArg (fun g : Bool => AV.one (.v (.bool g))) hg.symm
                · refine And.intro (fun (h80 : (p0.Kind == 9) = true) => ?_) (fun (h80 : (p0.Kind == 9) = false) => ?_)
                  · refine And.intro (fun (h81 : (p0.N == 0) = true) => ?_) (fun (h81 : (p0.N == 0) = false) => ?_)
                    · refine And.intro (fun (h82 : (decide (p0.Key = (ByteArray.mk #[]))) = true) => ?_) (fun (h82 : (decide (p0.Key = (ByteArray.mk #[]))) = false) => ?_)
                      · refine And.intro (fun (h83 : (decide (p0.Text = (ByteArray.mk #[]))) = true) => ?_) (fun (h83 : (decide (p0.Text = (ByteArray.mk #[]))) = false) => ?_)
                        · refine lenE (k := (p0.L).length) (by simp) (fun hN84 => ?_)
                          refine And.intro (fun _ => .v _) ?_
                          have hg : spec_l5One p0 = ((((p0.L).length : Nat) : Int) == 1) := by
                            first | rfl | (simp only [spec_l5One, h1, h43, h44, h49, h54, h59, h64, h75, h80, h81, h82, h83, cond_true, cond_false, Step.fin_stop, Step.fin_done, Fin.get_fin, Fin.get_done, Step.fin_next, Bool.not_true, Bool.not_false, Option.getD_some]; done) | (simp [spec_l5One, h1, h43, h44, h49, h54, h59, h64, h75, h80, h81, h82, h83, cond_true, cond_false, Step.fin_stop, Step.fin_done, Fin.get_fin, Fin.get_done, Step.fin_next, Bool.not_true, Bool.not_false, Option.getD_some]; done) | (exfalso; simp_all; done)
                          exact congrArg (fun g : Bool => AV.one (.v (.bool g))) hg.symm
                        · refine And.intro (fun _ => .v _) ?_
                          have hg : spec_l5One p0 = false := by
                            first | rfl | (simp only [spec_l5One, h1, h43, h44, h49, h54, h59, h64, h75, h80, h81, h82, h83, cond_true, cond_false, Step.fin_stop, Step.fin_done, Fin.get_fin, Fin.get_done, Step.fin_next, Bool.not_true, Bool.not_false, Option.getD_some]; done) | (simp [spec_l5One, h1, h43, h44, h49, h54, h59, h64, h75, h80, h81, h82, h83, cond_true, cond_false, Step.fin_stop, Step.fin_done, Fin.get_fin, Fin.get_done, Step.fin_next, Bool.not_true, Bool.not_false, Option.getD_some]; done) | (exfalso; simp_all; done)
                          exact congrArg (fun g : Bool => AV.one (.v (.bool g))) hg.symm
                      · refine And.intro (fun _ => .v _) ?_
                        have hg : spec_l5One p0 = false := by
                          first | rfl | (simp only [spec_l5One, h1, h43, h44, h49, h54, h59, h64, h75, h80, h81, h82, cond_true, cond_false, Step.fin_stop, Step.fin_done, Fin.get_fin, Fin.get_done, Step.fin_next, Bool.not_true, Bool.not_false, Option.getD_some]; done) | (simp [spec_l5One, h1, h43, h44, h49, h54, h59, h64, h75, h80, h81, h82, cond_true, cond_false, Step.fin_stop, Step.fin_done, Fin.get_fin, Fin.get_done, Step.fin_next, Bool.not_true, Bool.not_false, Option.getD_some]; done) | (exfalso; simp_all; done)
                        exact congrArg (fun g : Bool => AV.one (.v (.bool g))) hg.symm
                    · refine And.intro (fun _ => .v _) ?_
                      have hg : spec_l5One p0 = false := by
                        first | rfl | (simp only [spec_l5One, h1, h43, h44, h49, h54, h59, h64, h75, h80, h81, cond_true, cond_false, Step.fin_stop, Step.fin_done, Fin.get_fin, Fin.get_done, Step.fin_next, Bool.not_true, Bool.not_false, Option.getD_some]; done) | (simp [spec_l5One, h1, h43, h44, h49, h54, h59, h64, h75, h80, h81, cond_true, cond_false, Step.fin_stop, Step.fin_done, Fin.get_fin, Fin.get_done, Step.fin_next, Bool.not_true, Bool.not_false, Option.getD_some]; done) | (exfalso; simp_all; done)
                      exact congrArg (fun g : Bool => AV.one (.v (.bool g))) hg.symm
                  · refine And.intro (fun _ => .v _) ?_
                    have hg : spec_l5One p0 = false := by
                      first | rfl | (simp only [spec_l5One, h1, h43, h44, h49, h54, h59, h64, h75, h80, cond_true, cond_false, Step.fin_stop, Step.fin_done, Fin.get_fin, Fin.get_done, Step.fin_next, Bool.not_true, Bool.not_false, Option.getD_some]; done) | (simp [spec_l5One, h1, h43, h44, h49, h54, h59, h64, h75, h80, cond_true, cond_false, Step.fin_stop, Step.fin_done, Fin.get_fin, Fin.get_done, Step.fin_next, Bool.not_true, Bool.not_false, Option.getD_some]; done) | (exfalso; simp_all; done)
                    exact congrArg (fun g : Bool => AV.one (.v (.bool g))) hg.symm
    · refine And.intro (fun (h85 : (p0.Kind == 6) = true) => ?_) (fun (h85 : (p0.Kind == 6) = false) => ?_)
      · refine And.intro (fun (h86 : (p0.N == 0) = true) => ?_) (fun (h86 : (p0.N == 0) = false) => ?_)
        · refine And.intro (fun (h87 : (decide (p0.Key = (ByteArray.mk #[]))) = true) => ?_) (fun (h87 : (decide (p0.Key = (ByteArray.mk #[]))) = false) => ?_)
          · refine And.intro (fun (h88 : (decide (p0.Text = (ByteArray.mk #[]))) = true) => ?_) (fun (h88 : (decide (p0.Text = (ByteArray.mk #[]))) = false) => ?_)
            · refine lenE (k := (p0.L).length) (by simp) (fun hN89 => ?_)
              refine And.intro (fun _ => .v _) ?_
              have hg : spec_l5One p0 = ((((p0.L).length : Nat) : Int) == 0) := by
                first | rfl | (simp only [spec_l5One, h1, h43, h85, h86, h87, h88, cond_true, cond_false, Step.fin_stop, Step.fin_done, Fin.get_fin, Fin.get_done, Step.fin_next, Bool.not_true, Bool.not_false, Option.getD_some]; done) | (simp [spec_l5One, h1, h43, h85, h86, h87, h88, cond_true, cond_false, Step.fin_stop, Step.fin_done, Fin.get_fin, Fin.get_done, Step.fin_next, Bool.not_true, Bool.not_false, Option.getD_some]; done) | (exfalso; simp_all; done)
              exact congrArg (fun g : Bool => AV.one (.v (.bool g))) hg.symm
            · refine And.intro (fun _ => .v _) ?_
              have hg : spec_l5One p0 = false := by
                first | rfl | (simp only [spec_l5One, h1, h43, h85, h86, h87, h88, cond_true, cond_false, Step.fin_stop, Step.fin_done, Fin.get_fin, Fin.get_done, Step.fin_next, Bool.not_true, Bool.not_false, Option.getD_some]; done) | (simp [spec_l5One, h1, h43, h85, h86, h87, h88, cond_true, cond_false, Step.fin_stop, Step.fin_done, Fin.get_fin, Fin.get_done, Step.fin_next, Bool.not_true, Bool.not_false, Option.getD_some]; done) | (exfalso; simp_all; done)
              exact congrArg (fun g : Bool => AV.one (.v (.bool g))) hg.symm
          · refine And.intro (fun _ => .v _) ?_
            have hg : spec_l5One p0 = false := by
              first | rfl | (simp only [spec_l5One, h1, h43, h85, h86, h87, cond_true, cond_false, Step.fin_stop, Step.fin_done, Fin.get_fin, Fin.get_done, Step.fin_next, Bool.not_true, Bool.not_false, Option.getD_some]; done) | (simp [spec_l5One, h1, h43, h85, h86, h87, cond_true, cond_false, Step.fin_stop, Step.fin_done, Fin.get_fin, Fin.get_done, Step.fin_next, Bool.not_true, Bool.not_false, Option.getD_some]; done) | (exfalso; simp_all; done)
            exact congrArg (fun g : Bool => AV.one (.v (.bool g))) hg.symm
        · refine And.intro (fun _ => .v _) ?_
          have hg : spec_l5One p0 = false := by
            first | rfl | (simp only [spec_l5One, h1, h43, h85, h86, cond_true, cond_false, Step.fin_stop, Step.fin_done, Fin.get_fin, Fin.get_done, Step.fin_next, Bool.not_true, Bool.not_false, Option.getD_some]; done) | (simp [spec_l5One, h1, h43, h85, h86, cond_true, cond_false, Step.fin_stop, Step.fin_done, Fin.get_fin, Fin.get_done, Step.fin_next, Bool.not_true, Bool.not_false, Option.getD_some]; done) | (exfalso; simp_all; done)
          exact congrArg (fun g : Bool => AV.one (.v (.bool g))) hg.symm
      · refine And.intro (fun (h90 : (p0.Kind == 3) = true) => ?_) (fun (h90 : (p0.Kind == 3) = false) => ?_)
        · refine ⟨_, _, c_spec_l1In p0.N 0 2147483647, (FzAs.same _), ?_⟩
          refine litE (m := 2) rfl ?_
          refine And.intro (fun (h91 : (spec_l1In p0.N 0 2147483647) = true) => ?_) (fun (h91 : (spec_l1In p0.N 0 2147483647) = false) => ?_)
          · refine And.intro (fun (h92 : (decide (p0.Key = (ByteArray.mk #[]))) = true) => ?_) (fun (h92 : (decide (p0.Key = (ByteArray.mk #[]))) = false) => ?_)
            · refine And.intro (fun (h93 : (decide (p0.Text = (ByteArray.mk #[]))) = true) => ?_) (fun (h93 : (decide (p0.Text = (ByteArray.mk #[]))) = false) => ?_)
              · refine lenE (k := (p0.L).length) (by simp) (fun hN94 => ?_)
                refine And.intro (fun _ => .v _) ?_
                have hg : spec_l5One p0 = ((((p0.L).length : Nat) : Int) == 0) := by
                  first | rfl | (simp only [spec_l5One, h1, h43, h85, h90, h91, h92, h93, cond_true, cond_false, Step.fin_stop, Step.fin_done, Fin.get_fin, Fin.get_done, Step.fin_next, Bool.not_true, Bool.not_false, Option.getD_some]; done) | (simp [spec_l5One, h1, h43, h85, h90, h91, h92, h93, cond_true, cond_false, Step.fin_stop, Step.fin_done, Fin.get_fin, Fin.get_done, Step.fin_next, Bool.not_true, Bool.not_false, Option.getD_some]; done) | (exfalso; simp_all; done)
                exact congrArg (fun g : Bool => AV.one (.v (.bool g))) hg.symm
              · refine And.intro (fun _ => .v _) ?_
                have hg : spec_l5One p0 = false := by
                  first | rfl | (simp only [spec_l5One, h1, h43, h85, h90, h91, h92, h93, cond_true, cond_false, Step.fin_stop, Step.fin_done, Fin.get_fin, Fin.get_done, Step.fin_next, Bool.not_true, Bool.not_false, Option.getD_some]; done) | (simp [spec_l5One, h1, h43, h85, h90, h91, h92, h93, cond_true, cond_false, Step.fin_stop, Step.fin_done, Fin.get_fin, Fin.get_done, Step.fin_next, Bool.not_true, Bool.not_false, Option.getD_some]; done) | (exfalso; simp_all; done)
                exact congrArg (fun g : Bool => AV.one (.v (.bool g))) hg.symm
            · refine And.intro (fun _ => .v _) ?_
              have hg : spec_l5One p0 = false := by
                first | rfl | (simp only [spec_l5One, h1, h43, h85, h90, h91, h92, cond_true, cond_false, Step.fin_stop, Step.fin_done, Fin.get_fin, Fin.get_done, Step.fin_next, Bool.not_true, Bool.not_false, Option.getD_some]; done) | (simp [spec_l5One, h1, h43, h85, h90, h91, h92, cond_true, cond_false, Step.fin_stop, Step.fin_done, Fin.get_fin, Fin.get_done, Step.fin_next, Bool.not_true, Bool.not_false, Option.getD_some]; done) | (exfalso; simp_all; done)
              exact congrArg (fun g : Bool => AV.one (.v (.bool g))) hg.symm
          · refine And.intro (fun _ => .v _) ?_
            have hg : spec_l5One p0 = false := by
              first | rfl | (simp only [spec_l5One, h1, h43, h85, h90, h91, cond_true, cond_false, Step.fin_stop, Step.fin_done, Fin.get_fin, Fin.get_done, Step.fin_next, Bool.not_true, Bool.not_false, Option.getD_some]; done) | (simp [spec_l5One, h1, h43, h85, h90, h91, cond_true, cond_false, Step.fin_stop, Step.fin_done, Fin.get_fin, Fin.get_done, Step.fin_next, Bool.not_true, Bool.not_false, Option.getD_some]; done) | (exfalso; simp_all; done)
            exact congrArg (fun g : Bool => AV.one (.v (.bool g))) hg.symm
        · refine And.intro (fun (h95 : (p0.Kind == 4) = true) => ?_) (fun (h95 : (p0.Kind == 4) = false) => ?_)
          · refine And.intro (fun (h96 : (p0.N == 0) = true) => ?_) (fun (h96 : (p0.N == 0) = false) => ?_)
            · refine ⟨_, _, c_spec_NameOk p0.Key, (FzAs.same _), ?_⟩
              refine litE (m := 2) rfl ?_
              refine And.intro (fun (h97 : (spec_NameOk p0.Key) = true) => ?_) (fun (h97 : (spec_NameOk p0.Key) = false) => ?_)
              · refine ⟨_, _, c_spec_PlainOk p0.Text, (FzAs.same _), ?_⟩
                refine litE (m := 3) rfl ?_
                refine And.intro (fun (h98 : (spec_PlainOk p0.Text) = true) => ?_) (fun (h98 : (spec_PlainOk p0.Text) = false) => ?_)
                · refine lenE (k := (p0.L).length) (by simp) (fun hN99 => ?_)
                  refine And.intro (fun _ => .v _) ?_
                  have hg : spec_l5One p0 = ((((p0.L).length : Nat) : Int) == 0) := by
                    first | rfl | (simp only [spec_l5One, h1, h43, h85, h90, h95, h96, h97, h98, cond_true, cond_false, Step.fin_stop, Step.fin_done, Fin.get_fin, Fin.get_done, Step.fin_next, Bool.not_true, Bool.not_false, Option.getD_some]; done) | (simp [spec_l5One, h1, h43, h85, h90, h95, h96, h97, h98, cond_true, cond_false, Step.fin_stop, Step.fin_done, Fin.get_fin, Fin.get_done, Step.fin_next, Bool.not_true, Bool.not_false, Option.getD_some]; done) | (exfalso; simp_all; done)
                  exact congrArg (fun g : Bool => AV.one (.v (.bool g))) hg.symm
                · refine And.intro (fun _ => .v _) ?_
                  have hg : spec_l5One p0 = false := by
                    first | rfl | (simp only [spec_l5One, h1, h43, h85, h90, h95, h96, h97, h98, cond_true, cond_false, Step.fin_stop, Step.fin_done, Fin.get_fin, Fin.get_done, Step.fin_next, Bool.not_true, Bool.not_false, Option.getD_some]; done) | (simp [spec_l5One, h1, h43, h85, h90, h95, h96, h97, h98, cond_true, cond_false, Step.fin_stop, Step.fin_done, Fin.get_fin, Fin.get_done, Step.fin_next, Bool.not_true, Bool.not_false, Option.getD_some]; done) | (exfalso; simp_all; done)
                  exact congrArg (fun g : Bool => AV.one (.v (.bool g))) hg.symm
              · refine And.intro (fun _ => .v _) ?_
                have hg : spec_l5One p0 = false := by
                  first | rfl | (simp only [spec_l5One, h1, h43, h85, h90, h95, h96, h97, cond_true, cond_false, Step.fin_stop, Step.fin_done, Fin.get_fin, Fin.get_done, Step.fin_next, Bool.not_true, Bool.not_false, Option.getD_some]; done) | (simp [spec_l5One, h1, h43, h85, h90, h95, h96, h97, cond_true, cond_false, Step.fin_stop, Step.fin_done, Fin.get_fin, Fin.get_done, Step.fin_next, Bool.not_true, Bool.not_false, Option.getD_some]; done) | (exfalso; simp_all; done)
                exact congrArg (fun g : Bool => AV.one (.v (.bool g))) hg.symm
            · refine And.intro (fun _ => .v _) ?_
              have hg : spec_l5One p0 = false := by
                first | rfl | (simp only [spec_l5One, h1, h43, h85, h90, h95, h96, cond_true, cond_false, Step.fin_stop, Step.fin_done, Fin.get_fin, Fin.get_done, Step.fin_next, Bool.not_true, Bool.not_false, Option.getD_some]; done) | (simp [spec_l5One, h1, h43, h85, h90, h95, h96, cond_true, cond_false, Step.fin_stop, Step.fin_done, Fin.get_fin, Fin.get_done, Step.fin_next, Bool.not_true, Bool.not_false, Option.getD_some]; done) | (exfalso; simp_all; done)
              exact congrArg (fun g : Bool => AV.one (.v (.bool g))) hg.symm
          · refine And.intro (fun (h100 : (p0.Kind == 5) = true) => ?_) (fun (h100 : (p0.Kind == 5) = false) => ?_)
            · refine ⟨_, _, c_spec_l1In p0.N 0 2147483647, (FzAs.same _), ?_⟩
              refine litE (m := 2) rfl ?_
              refine And.intro (fun (h101 : (spec_l1In p0.N 0 2147483647) = true) => ?_) (fun (h101 : (spec_l1In p0.N 0 2147483647) = false) => ?_)
              · refine ⟨_, _, c_spec_NameOk p0.Key, (FzAs.same _), ?_⟩
                refine litE (m := 3) rfl ?_
                refine And.intro (fun (h102 : (spec_NameOk p0.Key) = true) => ?_) (fun (h102 : (spec_NameOk p0.Key) = false) => ?_)
                · refine And.intro (fun (h103 : (decide (p0.Text = (ByteArray.mk #[]))) = true) => ?_) (fun (h103 : (decide (p0.Text = (ByteArray.mk #[]))) = false) => ?_)
                  · refine lenE (k := (p0.L).length) (by simp) (fun hN104 => ?_)
                    refine And.intro (fun _ => .v _) ?_
                    have hg : spec_l5One p0 = ((((p0.L).length : Nat) : Int) == 0) := by
                      first | rfl | (simp only [spec_l5One, h1, h43, h85, h90, h95, h100, h101, h102, h103, cond_true, cond_false, Step.fin_stop, Step.fin_done, Fin.get_fin, Fin.get_done, Step.fin_next, Bool.not_true, Bool.not_false, Option.getD_some]; done) | (simp [spec_l5One, h1, h43, h85, h90, h95, h100, h101, h102, h103, cond_true, cond_false, Step.fin_stop, Step.fin_done, Fin.get_fin, Fin.get_done, Step.fin_next, Bool.not_true, Bool.not_false, Option.getD_some]; done) | (exfalso; simp_all; done)
                    exact congrArg (fun g : Bool => AV.one (.v (.bool g))) hg.symm
                  · refine And.intro (fun _ => .v _) ?_
                    have hg : spec_l5One p0 = false := by
                      first | rfl | (simp only [spec_l5One, h1, h43, h85, h90, h95, h100, h101, h102, h103, cond_true, cond_false, Step.fin_stop, Step.fin_done, Fin.get_fin, Fin.get_done, Step.fin_next, Bool.not_true, Bool.not_false, Option.getD_some]; done) | (simp [spec_l5One, h1, h43, h85, h90, h95, h100, h101, h102, h103, cond_true, cond_false, Step.fin_stop, Step.fin_done, Fin.get_fin, Fin.get_done, Step.fin_next, Bool.not_true, Bool.not_false, Option.getD_some]; done) | (exfalso; simp_all; done)
                    exact congrArg (fun g : Bool => AV.one (.v (.bool g))) hg.symm
                · refine And.intro (fun _ => .v _) ?_
                  have hg : spec_l5One p0 = false := by
                    first | rfl | (simp only [spec_l5One, h1, h43, h85, h90, h95, h100, h101, h102, cond_true, cond_false, Step.fin_stop, Step.fin_done, Fin.get_fin, Fin.get_done, Step.fin_next, Bool.not_true, Bool.not_false, Option.getD_some]; done) | (simp [spec_l5One, h1, h43, h85, h90, h95, h100, h101, h102, cond_true, cond_false, Step.fin_stop, Step.fin_done, Fin.get_fin, Fin.get_done, Step.fin_next, Bool.not_true, Bool.not_false, Option.getD_some]; done) | (exfalso; simp_all; done)
                  exact congrArg (fun g : Bool => AV.one (.v (.bool g))) hg.symm
              · refine And.intro (fun _ => .v _) ?_
                have hg : spec_l5One p0 = false := by
                  first | rfl | (simp only [spec_l5One, h1, h43, h85, h90, h95, h100, h101, cond_true, cond_false, Step.fin_stop, Step.fin_done, Fin.get_fin, Fin.get_done, Step.fin_next, Bool.not_true, Bool.not_false, Option.getD_some]; done) | (simp [spec_l5One, h1, h43, h85, h90, h95, h100, h101, cond_true, cond_false, Step.fin_stop, Step.fin_done, Fin.get_fin, Fin.get_done, Step.fin_next, Bool.not_true, Bool.not_false, Option.getD_some]; done) | (exfalso; simp_all; done)
                exact congrArg (fun g : Bool => AV.one (.v (.bool g))) hg.symm
            · refine And.intro (fun (h105 : (p0.Kind == 7) = true) => ?_) (fun (h105 : (p0.Kind == 7) = false) => ?_)
              · refine And.intro (fun (h106 : (p0.Kind == 7) = true) => ?_) (fun (h106 : (p0.Kind == 7) = false) => ?_)
                · refine And.intro (fun (h107 : (p0.N == 0) = true) => ?_) (fun (h107 : (p0.N == 0) = false) => ?_)
                  · refine And.intro (fun (h108 : (decide (p0.Key = (ByteArray.mk #[]))) = true) => ?_) (fun (h108 : (decide (p0.Key = (ByteArray.mk #[]))) = false) => ?_)
                    · refine And.intro (fun (h109 : (decide (p0.Text = (ByteArray.mk #[]))) = true) => ?_) (fun (h109 : (decide (p0.Text = (ByteArray.mk #[]))) = false) => ?_)
                      · refine lenE (k := (p0.L).length) (by simp) (fun hN110 => ?_)
                        refine ⟨_, _, c_spec_l1In (((p0.L).length : Nat) : Int) 1 4, (FzAs.same _), ?_⟩
                        refine litE (m := 2) rfl ?_
                        refine And.intro (fun _ => .v _) ?_
                        have hg : spec_l5One p0 = (spec_l1In (((p0.L).length : Nat) : Int) 1 4) := by
                          first | rfl | (simp only [spec_l5One, h1, h43, h85, h90, h95, h100, h105, h106, h107, h108, h109, cond_true, cond_false, Step.fin_stop, Step.fin_done, Fin.get_fin, Fin.get_done, Step.fin_next, Bool.not_true, Bool.not_false, Option.getD_some]; done) | (simp [spec_l5One, h1, h43, h85, h90, h95, h100, h105, h106, h107, h108, h109, cond_true, cond_false, Step.fin_stop, Step.fin_done, Fin.get_fin, Fin.get_done, Step.fin_next, Bool.not_true, Bool.not_false, Option.getD_some]; done) | (exfalso; simp_all; done)
                        exact congrArg (fun g : Bool => AV.one (.v (.bool g))) hg.symm
                      · refine And.intro (fun _ => .v _) ?_
                        have hg : spec_l5One p0 = false := by
                          first | rfl | (simp only [spec_l5One, h1, h43, h85, h90, h95, h100, h105, h106, h107, h108, h109, cond_true, cond_false, Step.fin_stop, Step.fin_done, Fin.get_fin, Fin.get_done, Step.fin_next, Bool.not_true, Bool.not_false, Option.getD_some]; done) | (simp [spec_l5One, h1, h43, h85, h90, h95, h100, h105, h106, h107, h108, h109, cond_true, cond_false, Step.fin_stop, Step.fin_done, Fin.get_fin, Fin.get_done, Step.fin_next, Bool.not_true, Bool.not_false, Option.getD_some]; done) | (exfalso; simp_all; done)
                        exact congrArg (fun g : Bool => AV.one (.v (.bool g))) hg.symm
                    · refine And.intro (fun _ => .v _) ?_
                      have hg : spec_l5One p0 = false := by
                        first | rfl | (simp only [spec_l5One, h1, h43, h85, h90, h95, h100, h105, h106, h107, h108, cond_true, cond_false, Step.fin_stop, Step.fin_done, Fin.get_fin, Fin.get_done, Step.fin_next, Bool.not_true, Bool.not_false, Option.getD_some]; done) | (simp [spec_l5One, h1, h43, h85, h90, h95, h100, h105, h106, h107, h108, cond_true, cond_false, Step.fin_stop, Step.fin_done, Fin.get_fin, Fin.get_done, Step.fin_next, Bool.not_true, Bool.not_false, Option.getD_some]; done) | (exfalso; simp_all; done)
                      exact congrArg (fun g : Bool => AV.one (.v (.bool g))) hg.symm
                  · refine And.intro (fun _ => .v _) ?_
                    have hg : spec_l5One p0 = false := by
                      first | rfl | (simp only [spec_l5One, h1, h43, h85, h90, h95, h100, h105, h106, h107, cond_true, cond_false, Step.fin_stop, Step.fin_done, Fin.get_fin, Fin.get_done, Step.fin_next, Bool.not_true, Bool.not_false, Option.getD_some]; done) | (simp [spec_l5One, h1, h43, h85, h90, h95, h100, h105, h106, h107, cond_true, cond_false, Step.fin_stop, Step.fin_done, Fin.get_fin, Fin.get_done, Step.fin_next, Bool.not_true, Bool.not_false, Option.getD_some]; done) | (exfalso; simp_all; done)
                    exact congrArg (fun g : Bool => AV.one (.v (.bool g))) hg.symm
                · refine And.intro (fun (h111 : (p0.Kind == 9) = true) => ?_) (fun (h111 : (p0.Kind == 9) = false) => ?_)
                  · refine And.intro (fun (h112 : (p0.N == 0) = true) => ?_) (fun (h112 : (p0.N == 0) = false) => ?_)
                    · refine And.intro (fun (h113 : (decide (p0.Key = (ByteArray.mk #[]))) = true) => ?_) (fun (h113 : (decide (p0.Key = (ByteArray.mk #[]))) = false) => ?_)
                      · refine And.intro (fun (h114 : (decide (p0.Text = (ByteArray.mk #[]))) = true) => ?_) (fun (h114 : (decide (p0.Text = (ByteArray.mk #[]))) = false) => ?_)
                        · refine lenE (k := (p0.L).length) (by simp) (fun hN115 => ?_)
                          refine And.intro (fun _ => .v _) ?_
                          have hg : spec_l5One p0 = ((((p0.L).length : Nat) : Int) == 1) := by
                            first | rfl | (simp only [spec_l5One, h1, h43, h85, h90, h95, h100, h105, h106, h111, h112, h113, h114, cond_true, cond_false, Step.fin_stop, Step.fin_done, Fin.get_fin, Fin.get_done, Step.fin_next, Bool.not_true, Bool.not_false, Option.getD_some]; done) | (simp [spec_l5One, h1, h43, h85, h90, h95, h100, h105, h106, h111, h112, h113, h114, cond_true, cond_false, Step.fin_stop, Step.fin_done, Fin.get_fin, Fin.get_done, Step.fin_next, Bool.not_true, Bool.not_false, Option.getD_some]; done) | (exfalso; simp_all; done)
                          exact congrArg (fun g : Bool => AV.one (.v (.bool g))) hg.symm
                        · refine And.intro (fun _ => .v _) ?_
                          have hg : spec_l5One p0 = false := by
                            first | rfl | (simp only [spec_l5One, h1, h43, h85, h90, h95, h100, h105, h106, h111, h112, h113, h114, cond_true, cond_false, Step.fin_stop, Step.fin_done, Fin.get_fin, Fin.get_done, Step.fin_next, Bool.not_true, Bool.not_false, Option.getD_some]; done) | (simp [spec_l5One, h1, h43, h85, h90, h95, h100, h105, h106, h111, h112, h113, h114, cond_true, cond_false, Step.fin_stop, Step.fin_done, Fin.get_fin, Fin.get_done, Step.fin_next, Bool.not_true, Bool.not_false, Option.getD_some]; done) | (exfalso; simp_all; done)
                          exact congrArg (fun g : Bool => AV.one (.v (.bool g))) hg.symm
                      · refine And.intro (fun _ => .v _) ?_
                        have hg : spec_l5One p0 = false := by
                          first | rfl | (simp only [spec_l5One, h1, h43, h85, h90, h95, h100, h105, h106, h111, h112, h113, cond_true, cond_false, Step.fin_stop, Step.fin_done, Fin.get_fin, Fin.get_done, Step.fin_next, Bool.not_true, Bool.not_false, Option.getD_some]; done) | (simp [spec_l5One, h1, h43, h85, h90, h95, h100, h105, h106, h111, h112, h113, cond_true, cond_false, Step.fin_stop, Step.fin_done, Fin.get_fin, Fin.get_done, Step.fin_next, Bool.not_true, Bool.not_false, Option.getD_some]; done) | (exfalso; simp_all; done)
                        exact congrArg (fun g : Bool => AV.one (.v (.bool g))) hg.symm
                    · refine And.intro (fun _ => .v _) ?_
                      have hg : spec_l5One p0 = false := by
                        first | rfl | (simp only [spec_l5One, h1, h43, h85, h90, h95, h100, h105, h106, h111, h112, cond_true, cond_false, Step.fin_stop, Step.fin_done, Fin.get_fin, Fin.get_done, Step.fin_next, Bool.not_true, Bool.not_false, Option.getD_some]; done) | (simp [spec_l5One, h1, h43, h85, h90, h95, h100, h105, h106, h111, h112, cond_true, cond_false, Step.fin_stop, Step.fin_done, Fin.get_fin, Fin.get_done, Step.fin_next, Bool.not_true, Bool.not_false, Option.getD_some]; done) | (exfalso; simp_all; done)
                      exact congrArg (fun g : Bool => AV.one (.v (.bool g))) hg.symm
                  · refine And.intro (fun _ => .v _) ?_
                    have hg : spec_l5One p0 = false := by
                      first | rfl | (simp only [spec_l5One, h1, h43, h85, h90, h95, h100, h105, h106, h111, cond_true, cond_false, Step.fin_stop, Step.fin_done, Fin.get_fin, Fin.get_done, Step.fin_next, Bool.not_true, Bool.not_false, Option.getD_some]; done) | (simp [spec_l5One, h1, h43, h85, h90, h95, h100, h105, h106, h111, cond_true, cond_false, Step.fin_stop, Step.fin_done, Fin.get_fin, Fin.get_done, Step.fin_next, Bool.not_true, Bool.not_false, Option.getD_some]; done) | (exfalso; simp_all; done)
                    exact congrArg (fun g : Bool => AV.one (.v (.bool g))) hg.symm
              · refine And.intro (fun (h116 : (p0.Kind == 8) = true) => ?_) (fun (h116 : (p0.Kind == 8) = false) => ?_)
                · refine And.intro (fun (h117 : (p0.N == 0) = true) => ?_) (fun (h117 : (p0.N == 0) = false) => ?_)
                  · refine And.intro (fun (h118 : (decide (p0.Key = (ByteArray.mk #[]))) = true) => ?_) (fun (h118 : (decide (p0.Key = (ByteArray.mk #[]))) = false) => ?_)
                    · refine And.intro (fun (h119 : (decide (p0.Text = (ByteArray.mk #[]))) = true) => ?_) (fun (h119 : (decide (p0.Text = (ByteArray.mk #[]))) = false) => ?_)
                      · refine lenE (k := (p0.L).length) (by simp) (fun hN120 => ?_)
                        refine ⟨_, _, c_spec_l1In (((p0.L).length : Nat) : Int) 1 4, (FzAs.same _), ?_⟩
                        refine litE (m := 2) rfl ?_
                        refine And.intro (fun _ => .v _) ?_
                        have hg : spec_l5One p0 = (spec_l1In (((p0.L).length : Nat) : Int) 1 4) := by
                          first | rfl | (simp only [spec_l5One, h1, h43, h85, h90, h95, h100, h105, h116, h117, h118, h119, cond_true, cond_false, Step.fin_stop, Step.fin_done, Fin.get_fin, Fin.get_done, Step.fin_next, Bool.not_true, Bool.not_false, Option.getD_some]; done) | (simp [spec_l5One, h1, h43, h85, h90, h95, h100, h105, h116, h117, h118, h119, cond_true, cond_false, Step.fin_stop, Step.fin_done, Fin.get_fin, Fin.get_done, Step.fin_next, Bool.not_true, Bool.not_false, Option.getD_some]; done) | (exfalso; simp_all; done)
                        exact congrArg (fun g : Bool => AV.one (.v (.bool g))) hg.symm
                      · refine And.intro (fun _ => .v _) ?_
                        have hg : spec_l5One p0 = false := by
                          first | rfl | (simp only [spec_l5One, h1, h43, h85, h90, h95, h100, h105, h116, h117, h118, h119, cond_true, cond_false, Step.fin_stop, Step.fin_done, Fin.get_fin, Fin.get_done, Step.fin_next, Bool.not_true, Bool.not_false, Option.getD_some]; done) | (simp [spec_l5One, h1, h43, h85, h90, h95, h100, h105, h116, h117, h118, h119, cond_true, cond_false, Step.fin_stop, Step.fin_done, Fin.get_fin, Fin.get_done, Step.fin_next, Bool.not_true, Bool.not_false, Option.getD_some]; done) | (exfalso; simp_all; done)
                        exact congrArg (fun g : Bool => AV.one (.v (.bool g))) hg.symm
                    · refine And.intro (fun _ => .v _) ?_
                      have hg : spec_l5One p0 = false := by
                        first | rfl | (simp only [spec_l5One, h1, h43, h85, h90, h95, h100, h105, h116, h117, h118, cond_true, cond_false, Step.fin_stop, Step.fin_done, Fin.get_fin, Fin.get_done, Step.fin_next, Bool.not_true, Bool.not_false, Option.getD_some]; done) | (simp [spec_l5One, h1, h43, h85, h90, h95, h100, h105, h116, h117, h118, cond_true, cond_false, Step.fin_stop, Step.fin_done, Fin.get_fin, Fin.get_done, Step.fin_next, Bool.not_true, Bool.not_false, Option.getD_some]; done) | (exfalso; simp_all; done)
                      exact congrArg (fun g : Bool => AV.one (.v (.bool g))) hg.symm
                  · refine And.intro (fun _ => .v _) ?_
                    have hg : spec_l5One p0 = false := by
                      first | rfl | (simp only [spec_l5One, h1, h43, h85, h90, h95, h100, h105, h116, h117, cond_true, cond_false, Step.fin_stop, Step.fin_done, Fin.get_fin, Fin.get_done, Step.fin_next, Bool.not_true, Bool.not_false, Option.getD_some]; done) | (simp [spec_l5One, h1, h43, h85, h90, h95, h100, h105, h116, h117, cond_true, cond_false, Step.fin_stop, Step.fin_done, Fin.get_fin, Fin.get_done, Step.fin_next, Bool.not_true, Bool.not_false, Option.getD_some]; done) | (exfalso; simp_all; done)
                    exact congrArg (fun g : Bool => AV.one (.v (.bool g))) hg.symm
                · refine And.intro (fun (h121 : (p0.Kind == 9) = true) => ?_) (fun (h121 : (p0.Kind == 9) = false) => ?_)
                  · refine And.intro (fun (h122 : (p0.N == 0) = true) => ?_) (fun (h122 : (p0.N == 0) = false) => ?_)
                    · refine And.intro (fun (h123 : (decide (p0.Key = (ByteArray.mk #[]))) = true) => ?_) (fun (h123 : (decide (p0.Key = (ByteArray.mk #[]))) = false) => ?_)
                      · refine And.intro (fun (h124 : (decide (p0.Text = (ByteArray.mk #[]))) = true) => ?_) (fun (h124 : (decide (p0.Text = (ByteArray.mk #[]))) = false) => ?_)
                        · refine lenE (k := (p0.L).length) (by simp) (fun hN125 => ?_)
                          refine And.intro (fun _ => .v _) ?_
                          have hg : spec_l5One p0 = ((((p0.L).length : Nat) : Int) == 1) := by
                            first | rfl | (simp only [spec_l5One, h1, h43, h85, h90, h95, h100, h105, h116, h121, h122, h123, h124, cond_true, cond_false, Step.fin_stop, Step.fin_done, Fin.get_fin, Fin.get_done, Step.fin_next, Bool.not_true, Bool.not_false, Option.getD_some]; done) | (simp [spec_l5One, h1, h43, h85, h90, h95, h100, h105, h116, h121, h122, h123, h124, cond_true, cond_false, Step.fin_stop, Step.fin_done, Fin.get_fin, Fin.get_done, Step.fin_next, Bool.not_true, Bool.not_false, Option.getD_some]; done) | (exfalso; simp_all; done)
                          exact congrArg (fun g : Bool => AV.one (.v (.bool g))) hg.symm
                        · refine And.intro (fun _ => .v _) ?_
                          have hg : spec_l5One p0 = false := by
                            first | rfl | (simp only [spec_l5One, h1, h43, h85, h90, h95, h100, h105, h116, h121, h122, h123, h124, cond_true, cond_false, Step.fin_stop, Step.fin_done, Fin.get_fin, Fin.get_done, Step.fin_next, Bool.not_true, Bool.not_false, Option.getD_some]; done) | (simp [spec_l5One, h1, h43, h85, h90, h95, h100, h105, h116, h121, h122, h123, h124, cond_true, cond_false, Step.fin_stop, Step.fin_done, Fin.get_fin, Fin.get_done, Step.fin_next, Bool.not_true, Bool.not_false, Option.getD_some]; done) | (exfalso; simp_all; done)
                          exact congrArg (fun g : Bool => AV.one (.v (.bool g))) hg.symm
                      · refine And.intro (fun _ => .v _) ?_
                        have hg : spec_l5One p0 = false := by
                          first | rfl | (simp only [spec_l5One, h1, h43, h85, h90, h95, h100, h105, h116, h121, h122, h123, cond_true, cond_false, Step.fin_stop, Step.fin_done, Fin.get_fin, Fin.get_done, Step.fin_next, Bool.not_true, Bool.not_false, Option.getD_some]; done) | (simp [spec_l5One, h1, h43, h85, h90, h95, h100, h105, h116, h121, h122, h123, cond_true, cond_false, Step.fin_stop, Step.fin_done, Fin.get_fin, Fin.get_done, Step.fin_next, Bool.not_true, Bool.not_false, Option.getD_some]; done) | (exfalso; simp_all; done)
                        exact congrArg (fun g : Bool => AV.one (.v (.bool g))) hg.symm
                    · refine And.intro (fun _ => .v _) ?_
                      have hg : spec_l5One p0 = false := by
                        first | rfl | (simp only [spec_l5One, h1, h43, h85, h90, h95, h100, h105, h116, h121, h122, cond_true, cond_false, Step.fin_stop, Step.fin_done, Fin.get_fin, Fin.get_done, Step.fin_next, Bool.not_true, Bool.not_false, Option.getD_some]; done) | (simp [spec_l5One, h1, h43, h85, h90, h95, h100, h105, h116, h121, h122, cond_true, cond_false, Step.fin_stop, Step.fin_done, Fin.get_fin, Fin.get_done, Step.fin_next, Bool.not_true, Bool.not_false, Option.getD_some]; done) | (exfalso; simp_all; done)
                      exact congrArg (fun g : Bool => AV.one (.v (.bool g))) hg.symm
                  · refine And.intro (fun _ => .v _) ?_
                    have hg : spec_l5One p0 = false := by
                      first | rfl | (simp only [spec_l5One, h1, h43, h85, h90, h95, h100, h105, h116, h121, cond_true, cond_false, Step.fin_stop, Step.fin_done, Fin.get_fin, Fin.get_done, Step.fin_next, Bool.not_true, Bool.not_false, Option.getD_some]; done) | (simp [spec_l5One, h1, h43, h85, h90, h95, h100, h105, h116, h121, cond_true, cond_false, Step.fin_stop, Step.fin_done, Fin.get_fin, Fin.get_done, Step.fin_next, Bool.not_true, Bool.not_false, Option.getD_some]; done) | (exfalso; simp_all; done)
                    exact congrArg (fun g : Bool => AV.one (.v (.bool g))) hg.symm
def spec_l5Deep_b1 (r0 : (Pol → Int → Bool)) (p1 : Int) (i1 : Nat) (s1 : Unit) (a1 : Pol) : Step (Unit) Bool :=
  (bif (!(r0 a1 (IntKind.i64.wrap (p1 + 1)))) then (.done false) else (.next ()))
def spec_l5DeepR : Nat → Pol → Int → Bool
  | 0, _, _ => default
  | n + 1, p0, p1 => (bif (decide (p1 > 4)) then false else (bif (!(spec_l5One p0)) then false else (Fin.get (fun s1 => true) (loopL (spec_l5Deep_b1 (spec_l5DeepR n) p1) 0 () p0.L))))
theorem cR_spec_l5Deep : ∀ (n : Nat) (p0 : Pol) (p1 : Int), Pol.dep p0 < n → FnOk prog 193 [.agg (Pol.opn false p0), .one (.v (.int .i64 p1))] ⟨.one (.v (.bool (spec_l5DeepR n p0 p1))), [], [], false⟩ := by
  intro n
  induction n with
  | zero => intro p0 p1 hd0; omega
  | succ n ih =>
    intro p0 p1 hd0
    refine FnOk.intro (E := env) envOk wide func193 rfl (by kernel_rfl) rfl rfl ?_
    refine litE (m := 0) rfl ?_
    refine And.intro (fun (h1 : (decide (p1 > 4)) = false) => ?_) (fun (h1 : (decide (p1 > 4)) = true) => ?_)
    · refine ⟨_, _, c_spec_l5One p0, (FzAs.same _), ?_⟩
      refine litE (m := 2) rfl ?_
      refine And.intro (fun (h2 : (!(spec_l5One p0)) = true) => ?_) (fun (h2 : (!(spec_l5One p0)) = false) => ?_)
      · refine And.intro (fun _ => .v _) ?_
        have hg : (spec_l5DeepR (n + 1) p0 p1) = false := by
          first | rfl | (simp only [spec_l5DeepR, h1, h2, cond_true, cond_false, Step.fin_stop, Step.fin_done, Fin.get_fin, Fin.get_done, Step.fin_next, Bool.not_true, Bool.not_false, Option.getD_some]; done) | (simp [spec_l5DeepR, h1, h2, cond_true, cond_false, Step.fin_stop, Step.fin_done, Fin.get_fin, Fin.get_done, Step.fin_next, Bool.not_true, Bool.not_false, Option.getD_some]; done) | (exfalso; simp_all; done)
        exact congrArg (fun g : Bool => AV.one (.v (.bool g))) hg.symm
      · refine loop_rule (α := LstSt (spec_l5Deep_b1 (spec_l5DeepR n) p1) () p0.L) [1, 2] (fun x1 => [(5, .one (.v (.int .i64 ((x1.i : Nat) : Int))))]) (fun x1 => [.keep 0, .dead]) (fun x1 => (p0.L).length - x1.i) .init [some 0, none] ?_ (fun x1 => ?_)
        · exact ⟨rfl, ⟨rfl, rfl, ⟨rfl, rfl, rfl, rfl⟩, trivial⟩, ⟨⟨rfl, rfl, ⟨rfl, rfl, rfl, rfl, rfl, trivial⟩⟩, trivial⟩, trivial⟩
        · refine lenE (k := (p0.L).length) (by simp) (fun hN3 => ?_)
          refine And.intro (fun (h4 : (decide (((x1.i : Nat) : Int) < (((p0.L).length : Nat) : Int))) = true) => ?_) (fun (h4 : (decide (((x1.i : Nat) : Int) < (((p0.L).length : Nat) : Int))) = false) => ?_)
          · have hi1 : x1.i < (p0.L).length := by simpa using h4
            have hw1 : IntKind.i64.wrap ((x1.i : Int) + 1) = ((x1.i + 1 : Nat) : Int) := wrap_succ hi1 (by first | assumption | omega)
            refine And.intro (fun _ => by (first | omega | (simp; done) | (simp; omega) | (simp at *; omega) | (simp at *; done) | (simp_all; done) | (simp_all; omega))) (rowAtR (Pol.cells_eq false) (i := x1.i) (l := p0.L) rfl hi1 ?_)
            refine ⟨_, _, ih (p0.L[x1.i]'hi1) (IntKind.i64.wrap (p1 + 1)) (by first | exact hm0 _ (List.getElem_mem _) | exact hm0 _ (List.mem_of_getElem? (by assumption)) | exact Nat.lt_of_lt_of_le (Pol.dep_lt (List.getElem_mem _)) (Nat.le_of_lt_succ hd0) | exact Nat.lt_of_lt_of_le (Pol.dep_lt (List.mem_of_getElem? (by assumption))) (Nat.le_of_lt_succ hd0)), (FzAs.same _), ?_⟩
            refine litE (m := 3) rfl ?_
            refine And.intro (fun (h5 : (!((spec_l5DeepR n) (p0.L[x1.i]'hi1) (IntKind.i64.wrap (p1 + 1)))) = true) => ?_) (fun (h5 : (!((spec_l5DeepR n) (p0.L[x1.i]'hi1) (IntKind.i64.wrap (p1 + 1)))) = false) => ?_)
            · have hb1 := x1.out hi1 (by first | rfl | (simp only [spec_l5Deep_b1, h1, h2, h4, h5, cond_true, cond_false, Bool.not_true, Bool.not_false, Option.getD_some, Step.isNext_stop, Step.isNext_done, Step.fin_stop, Step.fin_done, Fin.get_fin, Fin.get_done]; done) | (exfalso; simp_all; done))
              refine And.intro (fun _ => .v _) ?_
              have hg : (spec_l5DeepR (n + 1) p0 p1) = false := by
                first | rfl | (simp only [spec_l5DeepR, spec_l5Deep_b1, h1, h2, h4, h5, hb1, cond_true, cond_false, Step.fin_stop, Step.fin_done, Fin.get_fin, Fin.get_done, Step.fin_next, Bool.not_true, Bool.not_false, Option.getD_some]; done) | (simp [spec_l5DeepR, spec_l5Deep_b1, h1, h2, h4, h5, hb1, cond_true, cond_false, Step.fin_stop, Step.fin_done, Fin.get_fin, Fin.get_done, Step.fin_next, Bool.not_true, Bool.not_false, Option.getD_some]; done) | (exfalso; simp_all; done)
              exact congrArg (fun g : Bool => AV.one (.v (.bool g))) hg.symm
            · refine x1.go hi1 (v := ()) (by first | rfl | (simp only [spec_l5Deep_b1, h1, h2, h4, h5, cond_true, cond_false, Bool.not_true, Bool.not_false, Option.getD_some, Step.fin_stop, Step.fin_done, Fin.get_fin, Fin.get_done]; done) | (exfalso; simp_all; done)) [some 0, none] (by show _ - (x1.i + 1) < _ - x1.i; omega) ?_
              exact ⟨rfl, ⟨(eqInt hw1), rfl, ⟨rfl, rfl, rfl, rfl⟩, trivial⟩, ⟨⟨rfl, rfl, ⟨rfl, rfl, rfl, rfl, rfl, trivial⟩⟩, trivial⟩, trivial⟩
          · have hf1 := x1.fin (show ¬ x1.i < (p0.L).length by simpa using h4)
            refine And.intro (fun _ => .v _) ?_
            have hg : (spec_l5DeepR (n + 1) p0 p1) = true := by
              first | rfl | (simp only [spec_l5DeepR, spec_l5Deep_b1, h1, h2, h4, hf1, cond_true, cond_false, Step.fin_stop, Step.fin_done, Fin.get_fin, Fin.get_done, Step.fin_next, Bool.not_true, Bool.not_false, Option.getD_some]; done) | (simp [spec_l5DeepR, spec_l5Deep_b1, h1, h2, h4, hf1, cond_true, cond_false, Step.fin_stop, Step.fin_done, Fin.get_fin, Fin.get_done, Step.fin_next, Bool.not_true, Bool.not_false, Option.getD_some]; done) | (exfalso; simp_all; done)
            exact congrArg (fun g : Bool => AV.one (.v (.bool g))) hg.symm
    · refine And.intro (fun _ => .v _) ?_
      have hg : (spec_l5DeepR (n + 1) p0 p1) = false := by
        first | rfl | (simp only [spec_l5DeepR, spec_l5Deep_b1, h1, cond_true, cond_false, Step.fin_stop, Step.fin_done, Fin.get_fin, Fin.get_done, Step.fin_next, Bool.not_true, Bool.not_false, Option.getD_some]; done) | (simp [spec_l5DeepR, spec_l5Deep_b1, h1, cond_true, cond_false, Step.fin_stop, Step.fin_done, Fin.get_fin, Fin.get_done, Step.fin_next, Bool.not_true, Bool.not_false, Option.getD_some]; done) | (exfalso; simp_all; done)
      exact congrArg (fun g : Bool => AV.one (.v (.bool g))) hg.symm
def spec_l5Deep (p0 : Pol) (p1 : Int) : Bool := spec_l5DeepR (Pol.dep p0 + 1) p0 p1
theorem c_spec_l5Deep (p0 : Pol) (p1 : Int) : FnOk prog 193 [.agg (Pol.opn false p0), .one (.v (.int .i64 p1))] ⟨.one (.v (.bool (spec_l5Deep p0 p1))), [], [], false⟩ := cR_spec_l5Deep _ p0 p1 (Nat.lt_succ_self _)
def spec_PolOk (p0 : Pol) : Bool :=
  (bif (decide ((spec_PolCount p0) ≤ 12)) then (spec_l5Deep p0 1) else false)
theorem c_spec_PolOk (p0 : Pol) : FnOk prog 163 [.agg (Pol.opn false p0)] ⟨.one (.v (.bool (spec_PolOk p0))), [], [], false⟩ := by
  refine FnOk.intro (E := env) envOk wide func163 rfl (by kernel_rfl) rfl rfl ?_
  refine litE (m := 0) rfl ?_
  refine ⟨_, _, c_spec_PolCount p0, (FzAs.same _), ?_⟩
  refine litE (m := 2) rfl ?_
  refine And.intro (fun (h1 : (decide ((spec_PolCount p0) ≤ 12)) = true) => ?_) (fun (h1 : (decide ((spec_PolCount p0) ≤ 12)) = false) => ?_)
  · refine ⟨_, _, c_spec_l5Deep p0 1, (FzAs.same _), ?_⟩
    refine litE (m := 3) rfl ?_
    refine And.intro (fun _ => .v _) ?_
    have hg : spec_PolOk p0 = (spec_l5Deep p0 1) := by
      first | rfl | (simp only [spec_PolOk, h1, cond_true, cond_false, Step.fin_stop, Step.fin_done, Fin.get_fin, Fin.get_done, Step.fin_next, Bool.not_true, Bool.not_false, Option.getD_some]; done) | (simp [spec_PolOk, h1, cond_true, cond_false, Step.fin_stop, Step.fin_done, Fin.get_fin, Fin.get_done, Step.fin_next, Bool.not_true, Bool.not_false, Option.getD_some]; done) | (exfalso; simp_all; done)
    exact congrArg (fun g : Bool => AV.one (.v (.bool g))) hg.symm
  · refine And.intro (fun _ => .v _) ?_
    have hg : spec_PolOk p0 = false := by
      first | rfl | (simp only [spec_PolOk, h1, cond_true, cond_false, Step.fin_stop, Step.fin_done, Fin.get_fin, Fin.get_done, Step.fin_next, Bool.not_true, Bool.not_false, Option.getD_some]; done) | (simp [spec_PolOk, h1, cond_true, cond_false, Step.fin_stop, Step.fin_done, Fin.get_fin, Fin.get_done, Step.fin_next, Bool.not_true, Bool.not_false, Option.getD_some]; done) | (exfalso; simp_all; done)
    exact congrArg (fun g : Bool => AV.one (.v (.bool g))) hg.symm
def spec_ConfOk (p0 : Conf) : Bool :=
  (bif (spec_l1In p0.Stripes 1 3) then (bif (spec_l1In p0.Wait 1 50) then (bif (spec_l1In p0.Budget 1 190) then (bif (spec_l1In p0.Cache 1 6) then (bif (spec_l1In p0.Queue 1 4) then (bif (spec_l1In p0.Rate 0 99) then (bif (spec_l1In p0.Burst 0 999) then (spec_PolOk p0.Rule) else false) else false) else false) else false) else false) else false) else false)
theorem c_spec_ConfOk (p0 : Conf) : FnOk prog 91 [.agg ((Conf.cells false) p0)] ⟨.one (.v (.bool (spec_ConfOk p0))), [], [], false⟩ := by
  refine FnOk.intro (E := env) envOk wide func91 rfl (by kernel_rfl) rfl rfl ?_
  refine litE (m := 0) rfl ?_
  refine ⟨_, _, c_spec_l1In p0.Stripes 1 3, (FzAs.same _), ?_⟩
  refine litE (m := 2) rfl ?_
  refine And.intro (fun (h1 : (spec_l1In p0.Stripes 1 3) = true) => ?_) (fun (h1 : (spec_l1In p0.Stripes 1 3) = false) => ?_)
  · refine ⟨_, _, c_spec_l1In p0.Wait 1 50, (FzAs.same _), ?_⟩
    refine litE (m := 3) rfl ?_
    refine And.intro (fun (h2 : (spec_l1In p0.Wait 1 50) = true) => ?_) (fun (h2 : (spec_l1In p0.Wait 1 50) = false) => ?_)
    · refine ⟨_, _, c_spec_l1In p0.Budget 1 190, (FzAs.same _), ?_⟩
      refine litE (m := 4) rfl ?_
      refine And.intro (fun (h3 : (spec_l1In p0.Budget 1 190) = true) => ?_) (fun (h3 : (spec_l1In p0.Budget 1 190) = false) => ?_)
      · refine ⟨_, _, c_spec_l1In p0.Cache 1 6, (FzAs.same _), ?_⟩
        refine litE (m := 5) rfl ?_
        refine And.intro (fun (h4 : (spec_l1In p0.Cache 1 6) = true) => ?_) (fun (h4 : (spec_l1In p0.Cache 1 6) = false) => ?_)
        · refine ⟨_, _, c_spec_l1In p0.Queue 1 4, (FzAs.same _), ?_⟩
          refine litE (m := 6) rfl ?_
          refine And.intro (fun (h5 : (spec_l1In p0.Queue 1 4) = true) => ?_) (fun (h5 : (spec_l1In p0.Queue 1 4) = false) => ?_)
          · refine ⟨_, _, c_spec_l1In p0.Rate 0 99, (FzAs.same _), ?_⟩
            refine litE (m := 7) rfl ?_
            refine And.intro (fun (h6 : (spec_l1In p0.Rate 0 99) = true) => ?_) (fun (h6 : (spec_l1In p0.Rate 0 99) = false) => ?_)
            · refine ⟨_, _, c_spec_l1In p0.Burst 0 999, (FzAs.same _), ?_⟩
              refine litE (m := 8) rfl ?_
              refine And.intro (fun (h7 : (spec_l1In p0.Burst 0 999) = true) => ?_) (fun (h7 : (spec_l1In p0.Burst 0 999) = false) => ?_)
              · refine ⟨_, _, c_spec_PolOk p0.Rule, (FzAs.same _), ?_⟩
                refine litE (m := 9) rfl ?_
                refine And.intro (fun _ => .v _) ?_
                have hg : spec_ConfOk p0 = (spec_PolOk p0.Rule) := by
                  first | rfl | (simp only [spec_ConfOk, h1, h2, h3, h4, h5, h6, h7, cond_true, cond_false, Step.fin_stop, Step.fin_done, Fin.get_fin, Fin.get_done, Step.fin_next, Bool.not_true, Bool.not_false, Option.getD_some]; done) | (simp [spec_ConfOk, h1, h2, h3, h4, h5, h6, h7, cond_true, cond_false, Step.fin_stop, Step.fin_done, Fin.get_fin, Fin.get_done, Step.fin_next, Bool.not_true, Bool.not_false, Option.getD_some]; done) | (exfalso; simp_all; done)
                exact congrArg (fun g : Bool => AV.one (.v (.bool g))) hg.symm
              · refine And.intro (fun _ => .v _) ?_
                have hg : spec_ConfOk p0 = false := by
                  first | rfl | (simp only [spec_ConfOk, h1, h2, h3, h4, h5, h6, h7, cond_true, cond_false, Step.fin_stop, Step.fin_done, Fin.get_fin, Fin.get_done, Step.fin_next, Bool.not_true, Bool.not_false, Option.getD_some]; done) | (simp [spec_ConfOk, h1, h2, h3, h4, h5, h6, h7, cond_true, cond_false, Step.fin_stop, Step.fin_done, Fin.get_fin, Fin.get_done, Step.fin_next, Bool.not_true, Bool.not_false, Option.getD_some]; done) | (exfalso; simp_all; done)
                exact congrArg (fun g : Bool => AV.one (.v (.bool g))) hg.symm
            · refine And.intro (fun _ => .v _) ?_
              have hg : spec_ConfOk p0 = false := by
                first | rfl | (simp only [spec_ConfOk, h1, h2, h3, h4, h5, h6, cond_true, cond_false, Step.fin_stop, Step.fin_done, Fin.get_fin, Fin.get_done, Step.fin_next, Bool.not_true, Bool.not_false, Option.getD_some]; done) | (simp [spec_ConfOk, h1, h2, h3, h4, h5, h6, cond_true, cond_false, Step.fin_stop, Step.fin_done, Fin.get_fin, Fin.get_done, Step.fin_next, Bool.not_true, Bool.not_false, Option.getD_some]; done) | (exfalso; simp_all; done)
              exact congrArg (fun g : Bool => AV.one (.v (.bool g))) hg.symm
          · refine And.intro (fun _ => .v _) ?_
            have hg : spec_ConfOk p0 = false := by
              first | rfl | (simp only [spec_ConfOk, h1, h2, h3, h4, h5, cond_true, cond_false, Step.fin_stop, Step.fin_done, Fin.get_fin, Fin.get_done, Step.fin_next, Bool.not_true, Bool.not_false, Option.getD_some]; done) | (simp [spec_ConfOk, h1, h2, h3, h4, h5, cond_true, cond_false, Step.fin_stop, Step.fin_done, Fin.get_fin, Fin.get_done, Step.fin_next, Bool.not_true, Bool.not_false, Option.getD_some]; done) | (exfalso; simp_all; done)
            exact congrArg (fun g : Bool => AV.one (.v (.bool g))) hg.symm
        · refine And.intro (fun _ => .v _) ?_
          have hg : spec_ConfOk p0 = false := by
            first | rfl | (simp only [spec_ConfOk, h1, h2, h3, h4, cond_true, cond_false, Step.fin_stop, Step.fin_done, Fin.get_fin, Fin.get_done, Step.fin_next, Bool.not_true, Bool.not_false, Option.getD_some]; done) | (simp [spec_ConfOk, h1, h2, h3, h4, cond_true, cond_false, Step.fin_stop, Step.fin_done, Fin.get_fin, Fin.get_done, Step.fin_next, Bool.not_true, Bool.not_false, Option.getD_some]; done) | (exfalso; simp_all; done)
          exact congrArg (fun g : Bool => AV.one (.v (.bool g))) hg.symm
      · refine And.intro (fun _ => .v _) ?_
        have hg : spec_ConfOk p0 = false := by
          first | rfl | (simp only [spec_ConfOk, h1, h2, h3, cond_true, cond_false, Step.fin_stop, Step.fin_done, Fin.get_fin, Fin.get_done, Step.fin_next, Bool.not_true, Bool.not_false, Option.getD_some]; done) | (simp [spec_ConfOk, h1, h2, h3, cond_true, cond_false, Step.fin_stop, Step.fin_done, Fin.get_fin, Fin.get_done, Step.fin_next, Bool.not_true, Bool.not_false, Option.getD_some]; done) | (exfalso; simp_all; done)
        exact congrArg (fun g : Bool => AV.one (.v (.bool g))) hg.symm
    · refine And.intro (fun _ => .v _) ?_
      have hg : spec_ConfOk p0 = false := by
        first | rfl | (simp only [spec_ConfOk, h1, h2, cond_true, cond_false, Step.fin_stop, Step.fin_done, Fin.get_fin, Fin.get_done, Step.fin_next, Bool.not_true, Bool.not_false, Option.getD_some]; done) | (simp [spec_ConfOk, h1, h2, cond_true, cond_false, Step.fin_stop, Step.fin_done, Fin.get_fin, Fin.get_done, Step.fin_next, Bool.not_true, Bool.not_false, Option.getD_some]; done) | (exfalso; simp_all; done)
      exact congrArg (fun g : Bool => AV.one (.v (.bool g))) hg.symm
  · refine And.intro (fun _ => .v _) ?_
    have hg : spec_ConfOk p0 = false := by
      first | rfl | (simp only [spec_ConfOk, h1, cond_true, cond_false, Step.fin_stop, Step.fin_done, Fin.get_fin, Fin.get_done, Step.fin_next, Bool.not_true, Bool.not_false, Option.getD_some]; done) | (simp [spec_ConfOk, h1, cond_true, cond_false, Step.fin_stop, Step.fin_done, Fin.get_fin, Fin.get_done, Step.fin_next, Bool.not_true, Bool.not_false, Option.getD_some]; done) | (exfalso; simp_all; done)
    exact congrArg (fun g : Bool => AV.one (.v (.bool g))) hg.symm
def spec_CacheOk_b2 (p0 : (List Verdict)) (a1 : Verdict) (i2 : Nat) (s2 : Unit) : Step (Unit) (Step (Unit) Bool) :=
  (bif ((p0[i2]?.getD default).Trace == a1.Trace) then (.done (.done false)) else (.next ()))
def spec_CacheOk_b1 (p0 : (List Verdict)) (i1 : Nat) (s1 : Unit) (a1 : Verdict) : Step (Unit) Bool :=
  (bif (!(spec_l1In a1.Trace 1 999)) then (.done false) else (bif (decide (a1.Stamp < 1)) then (.done false) else (Fin.get (fun s2 => (.next ())) (loopC (spec_CacheOk_b2 p0 a1) 0 () i1))))
def spec_CacheOk (p0 : (List Verdict)) (p1 : Int) : Bool :=
  (Fin.get (fun s1 => (decide ((((p0).length : Nat) : Int) ≤ p1))) (loopL (spec_CacheOk_b1 p0) 0 () p0))
theorem c_spec_CacheOk (p0 : (List Verdict)) (p1 : Int) : FnOk prog 92 [.one (.s false 3 (List.map Verdict.cells p0)), .one (.v (.int .i64 p1))] ⟨.one (.v (.bool (spec_CacheOk p0 p1))), [], [], false⟩ := by
  refine FnOk.intro (E := env) envOk wide func92 rfl (by kernel_rfl) rfl rfl ?_
  refine loop_rule (α := LstSt (spec_CacheOk_b1 p0) () p0) [0, 1] (fun x1 => [(5, .one (.v (.int .i64 ((x1.i : Nat) : Int))))]) (fun x1 => []) (fun x1 => (p0).length - x1.i) .init [] ?_ (fun x1 => ?_)
  · exact ⟨rfl, ⟨rfl, rfl, rfl, trivial⟩, trivial, trivial⟩
  · refine lenE (k := (p0).length) (by simp) (fun hN1 => ?_)
    refine And.intro (fun (h2 : (decide (((x1.i : Nat) : Int) < (((p0).length : Nat) : Int))) = true) => ?_) (fun (h2 : (decide (((x1.i : Nat) : Int) < (((p0).length : Nat) : Int))) = false) => ?_)
    · have hi1 : x1.i < (p0).length := by simpa using h2
      have hw1 : IntKind.i64.wrap ((x1.i : Int) + 1) = ((x1.i + 1 : Nat) : Int) := wrap_succ hi1 (by first | assumption | omega)
      refine And.intro (fun _ => by first | exact idx_at hi1 | exact idx_of (by first | omega | (first | omega | (simp; done) | (simp; omega) | (simp at *; omega) | (simp at *; done) | (simp_all; done) | (simp_all; omega))) (by assumption) | (have hj := hi1; have hk := hi2; rw [List.length_map]; omega) | (have h9 : ((x1.i : Nat) : Int) > 0 := (by first | simpa using ‹decide (((x1.i : Nat) : Int) > 0) = true› | simp_all); have hj := hi1; have e9 : IntKind.i64.wrap (((x1.i : Nat) : Int) - 1) = ((x1.i : Nat) : Int) - 1 := (by rw [Go.Ev.wrap_small (n := ((x1.i : Nat) : Int) - 1)] <;> omega); rw [e9]; (try rw [List.length_map]); omega)) (rowAtE (i := x1.i) (l := p0) rfl hi1 ?_)
      refine ⟨_, _, c_spec_l1In (p0[x1.i]'hi1).Trace 1 999, (FzAs.same _), ?_⟩
      refine litE (m := 1) rfl ?_
      refine And.intro (fun (h3 : (!(spec_l1In (p0[x1.i]'hi1).Trace 1 999)) = false) => ?_) (fun (h3 : (!(spec_l1In (p0[x1.i]'hi1).Trace 1 999)) = true) => ?_)
      · refine And.intro (fun _ => by first | exact idx_at hi1 | exact idx_of (by first | omega | (first | omega | (simp; done) | (simp; omega) | (simp at *; omega) | (simp at *; done) | (simp_all; done) | (simp_all; omega))) (by assumption) | (have hj := hi1; have hk := hi2; rw [List.length_map]; omega) | (have h9 : ((x1.i : Nat) : Int) > 0 := (by first | simpa using ‹decide (((x1.i : Nat) : Int) > 0) = true› | simp_all); have hj := hi1; have e9 : IntKind.i64.wrap (((x1.i : Nat) : Int) - 1) = ((x1.i : Nat) : Int) - 1 := (by rw [Go.Ev.wrap_small (n := ((x1.i : Nat) : Int) - 1)] <;> omega); rw [e9]; (try rw [List.length_map]); omega)) (rowAtE (i := x1.i) (l := p0) rfl hi1 ?_)
        refine And.intro (fun (h4 : (decide ((p0[x1.i]'hi1).Stamp < 1)) = true) => ?_) (fun (h4 : (decide ((p0[x1.i]'hi1).Stamp < 1)) = false) => ?_)
        · have hb1 := x1.out hi1 (by first | rfl | (simp only [spec_CacheOk_b1, h2, h3, h4, cond_true, cond_false, Bool.not_true, Bool.not_false, Option.getD_some, Step.isNext_stop, Step.isNext_done, Step.fin_stop, Step.fin_done, Fin.get_fin, Fin.get_done]; done) | (exfalso; simp_all; done))
          refine And.intro (fun _ => .v _) ?_
          have hg : spec_CacheOk p0 p1 = false := by
            first | rfl | (simp only [spec_CacheOk, spec_CacheOk_b1, h2, h3, h4, hb1, cond_true, cond_false, Step.fin_stop, Step.fin_done, Fin.get_fin, Fin.get_done, Step.fin_next, Bool.not_true, Bool.not_false, Option.getD_some]; done) | (simp [spec_CacheOk, spec_CacheOk_b1, h2, h3, h4, hb1, cond_true, cond_false, Step.fin_stop, Step.fin_done, Fin.get_fin, Fin.get_done, Step.fin_next, Bool.not_true, Bool.not_false, Option.getD_some]; done) | (exfalso; simp_all; done)
          exact congrArg (fun g : Bool => AV.one (.v (.bool g))) hg.symm
        · refine loop_rule (α := CntSt (spec_CacheOk_b2 p0 (p0[x1.i]'hi1)) () x1.i) [0, 1, 5, 21, 22, 23, 24, 25, 26] (fun x2 => [(6, .one (.v (.int .i64 ((x2.i : Nat) : Int))))]) (fun x2 => [.dead]) (fun x2 => x1.i - x2.i) .init [none] ?_ (fun x2 => ?_)
          · exact ⟨rfl, ⟨rfl, rfl, rfl, rfl, rfl, rfl, rfl, rfl, rfl, rfl, trivial⟩, trivial, trivial⟩
          · refine And.intro (fun (h5 : (decide (((x2.i : Nat) : Int) < ((x1.i : Nat) : Int))) = true) => ?_) (fun (h5 : (decide (((x2.i : Nat) : Int) < ((x1.i : Nat) : Int))) = false) => ?_)
            · have hi2 : x2.i < x1.i := by (first | omega | (simp; done) | (simp; omega) | (simp at *; omega) | (simp at *; done) | (simp_all; done) | (simp_all; omega))
              have hw2 : IntKind.i64.wrap (((x2.i : Nat) : Int) + 1) = ((x2.i + 1 : Nat) : Int) := by (rw [Go.Ev.wrap_small] <;> omega)
              refine .inl ⟨by kernel_rfl, ?_⟩
              refine And.intro (fun _ => by first | exact idx_at hi1 | exact idx_of (by first | omega | (first | omega | (simp; done) | (simp; omega) | (simp at *; omega) | (simp at *; done) | (simp_all; done) | (simp_all; omega))) (by assumption) | (have hj := hi1; have hk := hi2; rw [List.length_map]; omega) | (have h9 : ((x1.i : Nat) : Int) > 0 := (by first | simpa using ‹decide (((x1.i : Nat) : Int) > 0) = true› | simp_all); have hj := hi1; have e9 : IntKind.i64.wrap (((x1.i : Nat) : Int) - 1) = ((x1.i : Nat) : Int) - 1 := (by rw [Go.Ev.wrap_small (n := ((x1.i : Nat) : Int) - 1)] <;> omega); rw [e9]; (try rw [List.length_map]); omega)) (rowOfE (i := x2.i) (l := p0) rfl (fun e6 he6 => ?_))
              refine And.intro (fun _ => by first | exact idx_at hi1 | exact idx_of (by first | omega | (first | omega | (simp; done) | (simp; omega) | (simp at *; omega) | (simp at *; done) | (simp_all; done) | (simp_all; omega))) (by assumption) | (have hj := hi1; have hk := hi2; rw [List.length_map]; omega) | (have h9 : ((x1.i : Nat) : Int) > 0 := (by first | simpa using ‹decide (((x1.i : Nat) : Int) > 0) = true› | simp_all); have hj := hi1; have e9 : IntKind.i64.wrap (((x1.i : Nat) : Int) - 1) = ((x1.i : Nat) : Int) - 1 := (by rw [Go.Ev.wrap_small (n := ((x1.i : Nat) : Int) - 1)] <;> omega); rw [e9]; (try rw [List.length_map]); omega)) (rowAtE (i := x1.i) (l := p0) rfl hi1 ?_)
              refine And.intro (fun (h7 : (e6.Trace == (p0[x1.i]'hi1).Trace) = true) => ?_) (fun (h7 : (e6.Trace == (p0[x1.i]'hi1).Trace) = false) => ?_)
              · have hb2 := x2.out hi2 (by first | rfl | (simp only [spec_CacheOk_b1, spec_CacheOk_b2, h2, h3, h4, h5, he6, h7, cond_true, cond_false, Bool.not_true, Bool.not_false, Option.getD_some, Step.isNext_stop, Step.isNext_done, Step.fin_stop, Step.fin_done, Fin.get_fin, Fin.get_done]; done) | (exfalso; simp_all; done))
                have hb1 := x1.out hi1 (by first | rfl | (simp only [spec_CacheOk_b1, spec_CacheOk_b2, h2, h3, h4, h5, he6, h7, hb2, cond_true, cond_false, Bool.not_true, Bool.not_false, Option.getD_some, Step.isNext_stop, Step.isNext_done, Step.fin_stop, Step.fin_done, Fin.get_fin, Fin.get_done]; done) | (exfalso; simp_all; done))
                refine And.intro (fun _ => .v _) ?_
                have hg : spec_CacheOk p0 p1 = false := by
                  first | rfl | (simp only [spec_CacheOk, spec_CacheOk_b1, spec_CacheOk_b2, h2, h3, h4, h5, he6, h7, hb2, hb1, cond_true, cond_false, Step.fin_stop, Step.fin_done, Fin.get_fin, Fin.get_done, Step.fin_next, Bool.not_true, Bool.not_false, Option.getD_some]; done) | (simp [spec_CacheOk, spec_CacheOk_b1, spec_CacheOk_b2, h2, h3, h4, h5, he6, h7, hb2, hb1, cond_true, cond_false, Step.fin_stop, Step.fin_done, Fin.get_fin, Fin.get_done, Step.fin_next, Bool.not_true, Bool.not_false, Option.getD_some]; done) | (exfalso; simp_all; done)
                exact congrArg (fun g : Bool => AV.one (.v (.bool g))) hg.symm
              · refine x2.go hi2 (v := ()) (by first | rfl | (simp only [spec_CacheOk_b1, spec_CacheOk_b2, h2, h3, h4, h5, he6, h7, cond_true, cond_false, Bool.not_true, Bool.not_false, Option.getD_some, Step.fin_stop, Step.fin_done, Fin.get_fin, Fin.get_done]; done) | (exfalso; simp_all; done)) [none] (by show _ - (x2.i + 1) < _ - x2.i; omega) ?_
                exact ⟨rfl, ⟨(eqInt hw2), rfl, rfl, rfl, rfl, rfl, rfl, rfl, rfl, rfl, trivial⟩, trivial, trivial⟩
            · have hf2 := x2.fin (show ¬ x2.i < x1.i by (first | omega | (simp; done) | (simp; omega) | (simp at *; omega) | (simp at *; done) | (simp_all; done) | (simp_all; omega)))
              refine x1.go hi1 (v := ()) (by first | rfl | (simp only [spec_CacheOk_b1, spec_CacheOk_b2, h2, h3, h4, h5, hf2, cond_true, cond_false, Bool.not_true, Bool.not_false, Option.getD_some, Step.fin_stop, Step.fin_done, Fin.get_fin, Fin.get_done]; done) | (exfalso; simp_all; done)) [] (by show _ - (x1.i + 1) < _ - x1.i; omega) ?_
              exact ⟨rfl, ⟨(eqInt hw1), rfl, rfl, trivial⟩, trivial, trivial⟩
      · have hb1 := x1.out hi1 (by first | rfl | (simp only [spec_CacheOk_b1, spec_CacheOk_b2, h2, h3, cond_true, cond_false, Bool.not_true, Bool.not_false, Option.getD_some, Step.isNext_stop, Step.isNext_done, Step.fin_stop, Step.fin_done, Fin.get_fin, Fin.get_done]; done) | (exfalso; simp_all; done))
        refine And.intro (fun _ => .v _) ?_
        have hg : spec_CacheOk p0 p1 = false := by
          first | rfl | (simp only [spec_CacheOk, spec_CacheOk_b1, spec_CacheOk_b2, h2, h3, hb1, cond_true, cond_false, Step.fin_stop, Step.fin_done, Fin.get_fin, Fin.get_done, Step.fin_next, Bool.not_true, Bool.not_false, Option.getD_some]; done) | (simp [spec_CacheOk, spec_CacheOk_b1, spec_CacheOk_b2, h2, h3, hb1, cond_true, cond_false, Step.fin_stop, Step.fin_done, Fin.get_fin, Fin.get_done, Step.fin_next, Bool.not_true, Bool.not_false, Option.getD_some]; done) | (exfalso; simp_all; done)
        exact congrArg (fun g : Bool => AV.one (.v (.bool g))) hg.symm
    · have hf1 := x1.fin (show ¬ x1.i < (p0).length by simpa using h2)
      refine lenE (k := (p0).length) (by simp) (fun hN8 => ?_)
      refine And.intro (fun _ => .v _) ?_
      have hg : spec_CacheOk p0 p1 = (decide ((((p0).length : Nat) : Int) ≤ p1)) := by
        first | rfl | (simp only [spec_CacheOk, spec_CacheOk_b1, spec_CacheOk_b2, h2, hf1, cond_true, cond_false, Step.fin_stop, Step.fin_done, Fin.get_fin, Fin.get_done, Step.fin_next, Bool.not_true, Bool.not_false, Option.getD_some]; done) | (simp [spec_CacheOk, spec_CacheOk_b1, spec_CacheOk_b2, h2, hf1, cond_true, cond_false, Step.fin_stop, Step.fin_done, Fin.get_fin, Fin.get_done, Step.fin_next, Bool.not_true, Bool.not_false, Option.getD_some]; done) | (exfalso; simp_all; done)
      exact congrArg (fun g : Bool => AV.one (.v (.bool g))) hg.symm
def spec_BucketOk (p0 : Bucket) : Bool :=
  (bif (spec_l1In p0.Rate 0 99) then (bif (spec_l1In p0.Burst 0 999) then (bif (spec_l1In p0.Tokens 0 p0.Burst) then (spec_l1In p0.At 0 2147483647) else false) else false) else false)
theorem c_spec_BucketOk (p0 : Bucket) : FnOk prog 93 [.agg (Bucket.cells p0)] ⟨.one (.v (.bool (spec_BucketOk p0))), [], [], false⟩ := by
  refine FnOk.intro (E := env) envOk wide func93 rfl (by kernel_rfl) rfl rfl ?_
  refine litE (m := 0) rfl ?_
  refine ⟨_, _, c_spec_l1In p0.Rate 0 99, (FzAs.same _), ?_⟩
  refine litE (m := 2) rfl ?_
  refine And.intro (fun (h1 : (spec_l1In p0.Rate 0 99) = true) => ?_) (fun (h1 : (spec_l1In p0.Rate 0 99) = false) => ?_)
  · refine ⟨_, _, c_spec_l1In p0.Burst 0 999, (FzAs.same _), ?_⟩
    refine litE (m := 3) rfl ?_
    refine And.intro (fun (h2 : (spec_l1In p0.Burst 0 999) = true) => ?_) (fun (h2 : (spec_l1In p0.Burst 0 999) = false) => ?_)
    · refine ⟨_, _, c_spec_l1In p0.Tokens 0 p0.Burst, (FzAs.same _), ?_⟩
      refine litE (m := 4) rfl ?_
      refine And.intro (fun (h3 : (spec_l1In p0.Tokens 0 p0.Burst) = true) => ?_) (fun (h3 : (spec_l1In p0.Tokens 0 p0.Burst) = false) => ?_)
      · refine ⟨_, _, c_spec_l1In p0.At 0 2147483647, (FzAs.same _), ?_⟩
        refine litE (m := 5) rfl ?_
        refine And.intro (fun _ => .v _) ?_
        have hg : spec_BucketOk p0 = (spec_l1In p0.At 0 2147483647) := by
          first | rfl | (simp only [spec_BucketOk, h1, h2, h3, cond_true, cond_false, Step.fin_stop, Step.fin_done, Fin.get_fin, Fin.get_done, Step.fin_next, Bool.not_true, Bool.not_false, Option.getD_some]; done) | (simp [spec_BucketOk, h1, h2, h3, cond_true, cond_false, Step.fin_stop, Step.fin_done, Fin.get_fin, Fin.get_done, Step.fin_next, Bool.not_true, Bool.not_false, Option.getD_some]; done) | (exfalso; simp_all; done)
        exact congrArg (fun g : Bool => AV.one (.v (.bool g))) hg.symm
      · refine And.intro (fun _ => .v _) ?_
        have hg : spec_BucketOk p0 = false := by
          first | rfl | (simp only [spec_BucketOk, h1, h2, h3, cond_true, cond_false, Step.fin_stop, Step.fin_done, Fin.get_fin, Fin.get_done, Step.fin_next, Bool.not_true, Bool.not_false, Option.getD_some]; done) | (simp [spec_BucketOk, h1, h2, h3, cond_true, cond_false, Step.fin_stop, Step.fin_done, Fin.get_fin, Fin.get_done, Step.fin_next, Bool.not_true, Bool.not_false, Option.getD_some]; done) | (exfalso; simp_all; done)
        exact congrArg (fun g : Bool => AV.one (.v (.bool g))) hg.symm
    · refine And.intro (fun _ => .v _) ?_
      have hg : spec_BucketOk p0 = false := by
        first | rfl | (simp only [spec_BucketOk, h1, h2, cond_true, cond_false, Step.fin_stop, Step.fin_done, Fin.get_fin, Fin.get_done, Step.fin_next, Bool.not_true, Bool.not_false, Option.getD_some]; done) | (simp [spec_BucketOk, h1, h2, cond_true, cond_false, Step.fin_stop, Step.fin_done, Fin.get_fin, Fin.get_done, Step.fin_next, Bool.not_true, Bool.not_false, Option.getD_some]; done) | (exfalso; simp_all; done)
      exact congrArg (fun g : Bool => AV.one (.v (.bool g))) hg.symm
  · refine And.intro (fun _ => .v _) ?_
    have hg : spec_BucketOk p0 = false := by
      first | rfl | (simp only [spec_BucketOk, h1, cond_true, cond_false, Step.fin_stop, Step.fin_done, Fin.get_fin, Fin.get_done, Step.fin_next, Bool.not_true, Bool.not_false, Option.getD_some]; done) | (simp [spec_BucketOk, h1, cond_true, cond_false, Step.fin_stop, Step.fin_done, Fin.get_fin, Fin.get_done, Step.fin_next, Bool.not_true, Bool.not_false, Option.getD_some]; done) | (exfalso; simp_all; done)
    exact congrArg (fun g : Bool => AV.one (.v (.bool g))) hg.symm
def spec_ModelOk_b1 (p0 : Model) (i1 : Nat) (s1 : (List Int) × Int) (a1 : Trail) : Step ((List Int) × Int) Bool :=
  (bif (!(spec_TrailOk a1)) then (.done false) else (bif (decide (((i1 : Nat) : Int) > 0)) then (bif (decide ((p0.Open[((IntKind.i64.wrap (((i1 : Nat) : Int) - 1))).toNat]?.getD default).Id ≥ a1.Id)) then (.done false) else (bif (spec_l11Has s1.1 a1.Stamp) then (.done false) else (.next ((s1.1 ++ [a1.Stamp]), (IntKind.i64.wrap (s1.2 + (spec_BytesOf a1))))))) else (bif (spec_l11Has s1.1 a1.Stamp) then (.done false) else (.next ((s1.1 ++ [a1.Stamp]), (IntKind.i64.wrap (s1.2 + (spec_BytesOf a1))))))))
def spec_ModelOk (p0 : Model) : Bool :=
  (Fin.get (fun s1 => (bif (spec_ConfOk p0.C) then (bif (spec_CacheOk p0.Cache p0.C.Cache) then (bif (spec_BucketOk p0.B) then (bif (p0.B.Rate == p0.C.Rate) then (bif (p0.B.Burst == p0.C.Burst) then (bif (p0.Used == s1.2) then (decide (s1.2 ≤ p0.C.Budget)) else false) else false) else false) else false) else false) else false)) (loopL (spec_ModelOk_b1 p0) 0 (([] : List Int), 0) p0.Open))
theorem c_spec_ModelOk (p0 : Model) (hs : Model.bd 1048576 p0) : FnOk prog 22 [.agg ((Model.cells false) p0)] ⟨.one (.v (.bool (spec_ModelOk p0))), [], [], false⟩ := by
  refine FnOk.intro (E := env) envOk wide func22 rfl (by kernel_rfl) rfl rfl ?_
  refine litE (m := 0) rfl ?_
  refine litE (m := 1) rfl ?_
  refine loop_rule (α := LstInv (fun i s => s.1.length = i) (spec_ModelOk_b1 p0) (([] : List Int), 0) p0.Open) [1] (fun x1 => [(3, .one (.v (.int .i64 x1.s.2))), (4, .one (.n 1 [] 1 0 (x1.s.1).length)), (5, .one (.v (.int .i64 ((x1.i : Nat) : Int))))]) (fun x1 => [.keep 0, .new ⟨1, false, List.map cInt x1.s.1, 0⟩]) (fun x1 => (p0.Open).length - x1.i) (.init (by rfl)) [some 0, some 1] ?_ (fun x1 => ?_)
  · exact ⟨rfl, ⟨rfl, ⟨rfl, rfl, rfl, rfl, by (first | rfl | (simp; done) | (simp [LstSt.init, LstSt.step, LstInv.init, CntSt.init, CntSt.step, CntInv.init, WhlSt.init, WhlSt.step]; done) | (simp [LstSt.init, LstSt.step, LstInv.init, CntSt.init, CntSt.step, CntInv.init, WhlSt.init, WhlSt.step]; omega))⟩, rfl, ⟨rfl, rfl, rfl, rfl⟩, trivial⟩, ⟨⟨rfl, rfl, ⟨rfl, rfl, rfl, rfl, rfl, rfl, rfl, rfl, rfl, rfl, rfl, rfl, rfl, rfl, rfl, rfl, rfl, rfl, rfl, rfl, trivial⟩⟩, ⟨rfl, rfl, rfl⟩, trivial⟩, trivial⟩
  · have hI1 : List.length x1.s.1 = x1.i := by simpa using x1.hI
    refine lenE (k := (p0.Open).length) (by simp) (fun hN1 => ?_)
    refine And.intro (fun (h2 : (decide (((x1.i : Nat) : Int) < (((p0.Open).length : Nat) : Int))) = true) => ?_) (fun (h2 : (decide (((x1.i : Nat) : Int) < (((p0.Open).length : Nat) : Int))) = false) => ?_)
    · have hi1 : x1.i < (p0.Open).length := by simpa using h2
      have hw1 : IntKind.i64.wrap ((x1.i : Int) + 1) = ((x1.i + 1 : Nat) : Int) := wrap_succ hi1 (by first | assumption | omega)
      refine And.intro (fun _ => by first | exact idx_at hi1 | exact idx_of (by first | omega | (first | omega | (simp; done) | (simp; omega) | (simp at *; omega) | (simp at *; done) | (simp_all; done) | (simp_all; omega))) (by assumption) | (have hj := hi1; have hk := hi2; rw [List.length_map]; omega) | (have h9 : ((x1.i : Nat) : Int) > 0 := (by first | simpa using ‹decide (((x1.i : Nat) : Int) > 0) = true› | simp_all); have hj := hi1; have e9 : IntKind.i64.wrap (((x1.i : Nat) : Int) - 1) = ((x1.i : Nat) : Int) - 1 := (by rw [Go.Ev.wrap_small (n := ((x1.i : Nat) : Int) - 1)] <;> omega); rw [e9]; (try rw [List.length_map]); omega)) (rowAtE (i := x1.i) (l := p0.Open) rfl hi1 ?_)
      refine litE (m := 2) rfl ?_
      refine .inl ⟨by kernel_rfl, ?_⟩
      refine ⟨_, _, c_spec_TrailOk (p0.Open[x1.i]'hi1), (FzAs.same _), ?_⟩
      refine And.intro (fun (h3 : (!(spec_TrailOk (p0.Open[x1.i]'hi1))) = false) => ?_) (fun (h3 : (!(spec_TrailOk (p0.Open[x1.i]'hi1))) = true) => ?_)
      · refine And.intro (fun (h4 : (decide (((x1.i : Nat) : Int) > 0)) = true) => ?_) (fun (h4 : (decide (((x1.i : Nat) : Int) > 0)) = false) => ?_)
        · refine And.intro (fun _ => by first | exact idx_at hi1 | exact idx_of (by first | omega | (first | omega | (simp; done) | (simp; omega) | (simp at *; omega) | (simp at *; done) | (simp_all; done) | (simp_all; omega))) (by assumption) | (have hj := hi1; have hk := hi2; rw [List.length_map]; omega) | (have h9 : ((x1.i : Nat) : Int) > 0 := (by first | simpa using ‹decide (((x1.i : Nat) : Int) > 0) = true› | simp_all); have hj := hi1; have e9 : IntKind.i64.wrap (((x1.i : Nat) : Int) - 1) = ((x1.i : Nat) : Int) - 1 := (by rw [Go.Ev.wrap_small (n := ((x1.i : Nat) : Int) - 1)] <;> omega); rw [e9]; (try rw [List.length_map]); omega)) (rowOfE (i := ((IntKind.i64.wrap (((x1.i : Nat) : Int) - 1))).toNat) (l := p0.Open) rfl (fun e5 he5 => ?_))
          refine And.intro (fun (h6 : (decide (e5.Id ≥ (p0.Open[x1.i]'hi1).Id)) = false) => ?_) (fun (h6 : (decide (e5.Id ≥ (p0.Open[x1.i]'hi1).Id)) = true) => ?_)
          · refine ⟨_, _, c_spec_l11Has x1.s.1 (p0.Open[x1.i]'hi1).Stamp, (FzAs.same _), ?_⟩
            refine And.intro (fun (h7 : (spec_l11Has x1.s.1 (p0.Open[x1.i]'hi1).Stamp) = true) => ?_) (fun (h7 : (spec_l11Has x1.s.1 (p0.Open[x1.i]'hi1).Stamp) = false) => ?_)
            · have hb1 := x1.out hi1 (by first | rfl | (simp only [spec_ModelOk_b1, h2, h3, h4, he5, h6, h7, cond_true, cond_false, Bool.not_true, Bool.not_false, Option.getD_some, Step.isNext_stop, Step.isNext_done, Step.fin_stop, Step.fin_done, Fin.get_fin, Fin.get_done]; done) | (exfalso; simp_all; done))
              refine And.intro (fun _ => .v _) ?_
              have hg : spec_ModelOk p0 = false := by
                first | rfl | (simp only [spec_ModelOk, spec_ModelOk_b1, h2, h3, h4, he5, h6, h7, hb1, cond_true, cond_false, Step.fin_stop, Step.fin_done, Fin.get_fin, Fin.get_done, Step.fin_next, Bool.not_true, Bool.not_false, Option.getD_some]; done) | (simp [spec_ModelOk, spec_ModelOk_b1, h2, h3, h4, he5, h6, h7, hb1, cond_true, cond_false, Step.fin_stop, Step.fin_done, Fin.get_fin, Fin.get_done, Step.fin_next, Bool.not_true, Bool.not_false, Option.getD_some]; done) | (exfalso; simp_all; done)
              exact congrArg (fun g : Bool => AV.one (.v (.bool g))) hg.symm
            · refine litE (m := 3) rfl ?_
              refine rowsE (Y := List.map cInt (x1.s.1 ++ [(p0.Open[x1.i]'hi1).Stamp])) (by first | rfl | (simp [subR, take_map', drop_map', fz_cInt, fl_cInt, fzMap fz_cInt, flMap fl_cInt]; done) | (simp [subR, take_map', drop_map', fz_cInt, fl_cInt, fzMap fz_cInt, flMap fl_cInt]; rfl)) ?_
              refine And.intro (by have hl := hs.2.1.1; refine ⟨?_, ?_⟩; (show List.length _ * 8 ≤ _); (try simp only [List.length_map, List.length_append, List.length_cons, List.length_nil]); omega; (try simp only [List.length_map, List.length_append, List.length_cons, List.length_nil]); omega) ?_
              refine litE (m := 4) rfl ?_
              refine ⟨_, _, c_spec_BytesOf (p0.Open[x1.i]'hi1), (FzAs.same _), ?_⟩
              refine litE (m := 6) rfl ?_
              refine x1.go' hi1 (v := ((x1.s.1 ++ [(p0.Open[x1.i]'hi1).Stamp]), (IntKind.i64.wrap (x1.s.2 + (spec_BytesOf (p0.Open[x1.i]'hi1)))))) (by first | rfl | (simp only [spec_ModelOk_b1, h2, h3, h4, he5, h6, h7, cond_true, cond_false, Bool.not_true, Bool.not_false, Option.getD_some, Step.fin_stop, Step.fin_done, Fin.get_fin, Fin.get_done]; done) | (exfalso; simp_all; done)) (by show List.length (_ ++ _) = _; simp only [List.length_append, List.length_cons, List.length_nil]; omega) [some 0, some 4] (by show _ - (x1.i + 1) < _ - x1.i; omega) ?_
              exact ⟨rfl, ⟨rfl, ⟨rfl, rfl, rfl, rfl, by (first | rfl | (simp; done) | (simp [LstSt.init, LstSt.step, LstInv.init, CntSt.init, CntSt.step, CntInv.init, WhlSt.init, WhlSt.step]; done) | (simp [LstSt.init, LstSt.step, LstInv.init, CntSt.init, CntSt.step, CntInv.init, WhlSt.init, WhlSt.step]; omega))⟩, (eqInt hw1), ⟨rfl, rfl, rfl, rfl⟩, trivial⟩, ⟨⟨rfl, rfl, ⟨rfl, rfl, rfl, rfl, rfl, rfl, rfl, rfl, rfl, rfl, rfl, rfl, rfl, rfl, rfl, rfl, rfl, rfl, rfl, rfl, trivial⟩⟩, ⟨rfl, rfl, rfl⟩, trivial⟩, trivial⟩
          · have hb1 := x1.out hi1 (by first | rfl | (simp only [spec_ModelOk_b1, h2, h3, h4, he5, h6, cond_true, cond_false, Bool.not_true, Bool.not_false, Option.getD_some, Step.isNext_stop, Step.isNext_done, Step.fin_stop, Step.fin_done, Fin.get_fin, Fin.get_done]; done) | (exfalso; simp_all; done))
            refine And.intro (fun _ => .v _) ?_
            have hg : spec_ModelOk p0 = false := by
              first | rfl | (simp only [spec_ModelOk, spec_ModelOk_b1, h2, h3, h4, he5, h6, hb1, cond_true, cond_false, Step.fin_stop, Step.fin_done, Fin.get_fin, Fin.get_done, Step.fin_next, Bool.not_true, Bool.not_false, Option.getD_some]; done) | (simp [spec_ModelOk, spec_ModelOk_b1, h2, h3, h4, he5, h6, hb1, cond_true, cond_false, Step.fin_stop, Step.fin_done, Fin.get_fin, Fin.get_done, Step.fin_next, Bool.not_true, Bool.not_false, Option.getD_some]; done) | (exfalso; simp_all; done)
            exact congrArg (fun g : Bool => AV.one (.v (.bool g))) hg.symm
        · refine ⟨_, _, c_spec_l11Has x1.s.1 (p0.Open[x1.i]'hi1).Stamp, (FzAs.same _), ?_⟩
          refine And.intro (fun (h8 : (spec_l11Has x1.s.1 (p0.Open[x1.i]'hi1).Stamp) = true) => ?_) (fun (h8 : (spec_l11Has x1.s.1 (p0.Open[x1.i]'hi1).Stamp) = false) => ?_)
          · have hb1 := x1.out hi1 (by first | rfl | (simp only [spec_ModelOk_b1, h2, h3, h4, h8, cond_true, cond_false, Bool.not_true, Bool.not_false, Option.getD_some, Step.isNext_stop, Step.isNext_done, Step.fin_stop, Step.fin_done, Fin.get_fin, Fin.get_done]; done) | (exfalso; simp_all; done))
            refine And.intro (fun _ => .v _) ?_
            have hg : spec_ModelOk p0 = false := by
              first | rfl | (simp only [spec_ModelOk, spec_ModelOk_b1, h2, h3, h4, h8, hb1, cond_true, cond_false, Step.fin_stop, Step.fin_done, Fin.get_fin, Fin.get_done, Step.fin_next, Bool.not_true, Bool.not_false, Option.getD_some]; done) | (simp [spec_ModelOk, spec_ModelOk_b1, h2, h3, h4, h8, hb1, cond_true, cond_false, Step.fin_stop, Step.fin_done, Fin.get_fin, Fin.get_done, Step.fin_next, Bool.not_true, Bool.not_false, Option.getD_some]; done) | (exfalso; simp_all; done)
            exact congrArg (fun g : Bool => AV.one (.v (.bool g))) hg.symm
          · refine litE (m := 3) rfl ?_
            refine rowsE (Y := List.map cInt (x1.s.1 ++ [(p0.Open[x1.i]'hi1).Stamp])) (by first | rfl | (simp [subR, take_map', drop_map', fz_cInt, fl_cInt, fzMap fz_cInt, flMap fl_cInt]; done) | (simp [subR, take_map', drop_map', fz_cInt, fl_cInt, fzMap fz_cInt, flMap fl_cInt]; rfl)) ?_
            refine And.intro (by have hl := hs.2.1.1; refine ⟨?_, ?_⟩; (show List.length _ * 8 ≤ _); (try simp only [List.length_map, List.length_append, List.length_cons, List.length_nil]); omega; (try simp only [List.length_map, List.length_append, List.length_cons, List.length_nil]); omega) ?_
            refine litE (m := 4) rfl ?_
            refine ⟨_, _, c_spec_BytesOf (p0.Open[x1.i]'hi1), (FzAs.same _), ?_⟩
            refine litE (m := 6) rfl ?_
            refine x1.go' hi1 (v := ((x1.s.1 ++ [(p0.Open[x1.i]'hi1).Stamp]), (IntKind.i64.wrap (x1.s.2 + (spec_BytesOf (p0.Open[x1.i]'hi1)))))) (by first | rfl | (simp only [spec_ModelOk_b1, h2, h3, h4, h8, cond_true, cond_false, Bool.not_true, Bool.not_false, Option.getD_some, Step.fin_stop, Step.fin_done, Fin.get_fin, Fin.get_done]; done) | (exfalso; simp_all; done)) (by show List.length (_ ++ _) = _; simp only [List.length_append, List.length_cons, List.length_nil]; omega) [some 0, some 4] (by show _ - (x1.i + 1) < _ - x1.i; omega) ?_
            exact ⟨rfl, ⟨rfl, ⟨rfl, rfl, rfl, rfl, by (first | rfl | (simp; done) | (simp [LstSt.init, LstSt.step, LstInv.init, CntSt.init, CntSt.step, CntInv.init, WhlSt.init, WhlSt.step]; done) | (simp [LstSt.init, LstSt.step, LstInv.init, CntSt.init, CntSt.step, CntInv.init, WhlSt.init, WhlSt.step]; omega))⟩, (eqInt hw1), ⟨rfl, rfl, rfl, rfl⟩, trivial⟩, ⟨⟨rfl, rfl, ⟨rfl, rfl, rfl, rfl, rfl, rfl, rfl, rfl, rfl, rfl, rfl, rfl, rfl, rfl, rfl, rfl, rfl, rfl, rfl, rfl, trivial⟩⟩, ⟨rfl, rfl, rfl⟩, trivial⟩, trivial⟩
      · have hb1 := x1.out hi1 (by first | rfl | (simp only [spec_ModelOk_b1, h2, h3, cond_true, cond_false, Bool.not_true, Bool.not_false, Option.getD_some, Step.isNext_stop, Step.isNext_done, Step.fin_stop, Step.fin_done, Fin.get_fin, Fin.get_done]; done) | (exfalso; simp_all; done))
        refine And.intro (fun _ => .v _) ?_
        have hg : spec_ModelOk p0 = false := by
          first | rfl | (simp only [spec_ModelOk, spec_ModelOk_b1, h2, h3, hb1, cond_true, cond_false, Step.fin_stop, Step.fin_done, Fin.get_fin, Fin.get_done, Step.fin_next, Bool.not_true, Bool.not_false, Option.getD_some]; done) | (simp [spec_ModelOk, spec_ModelOk_b1, h2, h3, hb1, cond_true, cond_false, Step.fin_stop, Step.fin_done, Fin.get_fin, Fin.get_done, Step.fin_next, Bool.not_true, Bool.not_false, Option.getD_some]; done) | (exfalso; simp_all; done)
        exact congrArg (fun g : Bool => AV.one (.v (.bool g))) hg.symm
    · have hf1 := x1.fin (show ¬ x1.i < (p0.Open).length by simpa using h2)
      refine ⟨_, _, c_spec_ConfOk p0.C, (FzAs.same _), ?_⟩
      refine litE (m := 3) rfl ?_
      refine And.intro (fun (h9 : (spec_ConfOk p0.C) = true) => ?_) (fun (h9 : (spec_ConfOk p0.C) = false) => ?_)
      · refine ⟨_, _, c_spec_CacheOk p0.Cache p0.C.Cache, (FzAs.same _), ?_⟩
        refine litE (m := 4) rfl ?_
        refine And.intro (fun (h10 : (spec_CacheOk p0.Cache p0.C.Cache) = true) => ?_) (fun (h10 : (spec_CacheOk p0.Cache p0.C.Cache) = false) => ?_)
        · refine ⟨_, _, c_spec_BucketOk p0.B, (FzAs.same _), ?_⟩
          refine litE (m := 5) rfl ?_
          refine And.intro (fun (h11 : (spec_BucketOk p0.B) = true) => ?_) (fun (h11 : (spec_BucketOk p0.B) = false) => ?_)
          · refine And.intro (fun (h12 : (p0.B.Rate == p0.C.Rate) = true) => ?_) (fun (h12 : (p0.B.Rate == p0.C.Rate) = false) => ?_)
            · refine And.intro (fun (h13 : (p0.B.Burst == p0.C.Burst) = true) => ?_) (fun (h13 : (p0.B.Burst == p0.C.Burst) = false) => ?_)
              · refine And.intro (fun (h14 : (p0.Used == x1.s.2) = true) => ?_) (fun (h14 : (p0.Used == x1.s.2) = false) => ?_)
                · refine And.intro (fun _ => .v _) ?_
                  have hg : spec_ModelOk p0 = (decide (x1.s.2 ≤ p0.C.Budget)) := by
                    first | rfl | (simp only [spec_ModelOk, spec_ModelOk_b1, h2, hf1, h9, h10, h11, h12, h13, h14, cond_true, cond_false, Step.fin_stop, Step.fin_done, Fin.get_fin, Fin.get_done, Step.fin_next, Bool.not_true, Bool.not_false, Option.getD_some]; done) | (simp [spec_ModelOk, spec_ModelOk_b1, h2, hf1, h9, h10, h11, h12, h13, h14, cond_true, cond_false, Step.fin_stop, Step.fin_done, Fin.get_fin, Fin.get_done, Step.fin_next, Bool.not_true, Bool.not_false, Option.getD_some]; done) | (exfalso; simp_all; done)
                  exact congrArg (fun g : Bool => AV.one (.v (.bool g))) hg.symm
                · refine And.intro (fun _ => .v _) ?_
                  have hg : spec_ModelOk p0 = false := by
                    first | rfl | (simp only [spec_ModelOk, spec_ModelOk_b1, h2, hf1, h9, h10, h11, h12, h13, h14, cond_true, cond_false, Step.fin_stop, Step.fin_done, Fin.get_fin, Fin.get_done, Step.fin_next, Bool.not_true, Bool.not_false, Option.getD_some]; done) | (simp [spec_ModelOk, spec_ModelOk_b1, h2, hf1, h9, h10, h11, h12, h13, h14, cond_true, cond_false, Step.fin_stop, Step.fin_done, Fin.get_fin, Fin.get_done, Step.fin_next, Bool.not_true, Bool.not_false, Option.getD_some]; done) | (exfalso; simp_all; done)
                  exact congrArg (fun g : Bool => AV.one (.v (.bool g))) hg.symm
              · refine And.intro (fun _ => .v _) ?_
                have hg : spec_ModelOk p0 = false := by
                  first | rfl | (simp only [spec_ModelOk, spec_ModelOk_b1, h2, hf1, h9, h10, h11, h12, h13, cond_true, cond_false, Step.fin_stop, Step.fin_done, Fin.get_fin, Fin.get_done, Step.fin_next, Bool.not_true, Bool.not_false, Option.getD_some]; done) | (simp [spec_ModelOk, spec_ModelOk_b1, h2, hf1, h9, h10, h11, h12, h13, cond_true, cond_false, Step.fin_stop, Step.fin_done, Fin.get_fin, Fin.get_done, Step.fin_next, Bool.not_true, Bool.not_false, Option.getD_some]; done) | (exfalso; simp_all; done)
                exact congrArg (fun g : Bool => AV.one (.v (.bool g))) hg.symm
            · refine And.intro (fun _ => .v _) ?_
              have hg : spec_ModelOk p0 = false := by
                first | rfl | (simp only [spec_ModelOk, spec_ModelOk_b1, h2, hf1, h9, h10, h11, h12, cond_true, cond_false, Step.fin_stop, Step.fin_done, Fin.get_fin, Fin.get_done, Step.fin_next, Bool.not_true, Bool.not_false, Option.getD_some]; done) | (simp [spec_ModelOk, spec_ModelOk_b1, h2, hf1, h9, h10, h11, h12, cond_true, cond_false, Step.fin_stop, Step.fin_done, Fin.get_fin, Fin.get_done, Step.fin_next, Bool.not_true, Bool.not_false, Option.getD_some]; done) | (exfalso; simp_all; done)
              exact congrArg (fun g : Bool => AV.one (.v (.bool g))) hg.symm
          · refine And.intro (fun _ => .v _) ?_
            have hg : spec_ModelOk p0 = false := by
              first | rfl | (simp only [spec_ModelOk, spec_ModelOk_b1, h2, hf1, h9, h10, h11, cond_true, cond_false, Step.fin_stop, Step.fin_done, Fin.get_fin, Fin.get_done, Step.fin_next, Bool.not_true, Bool.not_false, Option.getD_some]; done) | (simp [spec_ModelOk, spec_ModelOk_b1, h2, hf1, h9, h10, h11, cond_true, cond_false, Step.fin_stop, Step.fin_done, Fin.get_fin, Fin.get_done, Step.fin_next, Bool.not_true, Bool.not_false, Option.getD_some]; done) | (exfalso; simp_all; done)
            exact congrArg (fun g : Bool => AV.one (.v (.bool g))) hg.symm
        · refine And.intro (fun _ => .v _) ?_
          have hg : spec_ModelOk p0 = false := by
            first | rfl | (simp only [spec_ModelOk, spec_ModelOk_b1, h2, hf1, h9, h10, cond_true, cond_false, Step.fin_stop, Step.fin_done, Fin.get_fin, Fin.get_done, Step.fin_next, Bool.not_true, Bool.not_false, Option.getD_some]; done) | (simp [spec_ModelOk, spec_ModelOk_b1, h2, hf1, h9, h10, cond_true, cond_false, Step.fin_stop, Step.fin_done, Fin.get_fin, Fin.get_done, Step.fin_next, Bool.not_true, Bool.not_false, Option.getD_some]; done) | (exfalso; simp_all; done)
          exact congrArg (fun g : Bool => AV.one (.v (.bool g))) hg.symm
      · refine And.intro (fun _ => .v _) ?_
        have hg : spec_ModelOk p0 = false := by
          first | rfl | (simp only [spec_ModelOk, spec_ModelOk_b1, h2, hf1, h9, cond_true, cond_false, Step.fin_stop, Step.fin_done, Fin.get_fin, Fin.get_done, Step.fin_next, Bool.not_true, Bool.not_false, Option.getD_some]; done) | (simp [spec_ModelOk, spec_ModelOk_b1, h2, hf1, h9, cond_true, cond_false, Step.fin_stop, Step.fin_done, Fin.get_fin, Fin.get_done, Step.fin_next, Bool.not_true, Bool.not_false, Option.getD_some]; done) | (exfalso; simp_all; done)
        exact congrArg (fun g : Bool => AV.one (.v (.bool g))) hg.symm
def impl_within (p0 : Int) (p1 : Int) (p2 : Int) : Bool :=
  (bif (decide (p0 ≥ p1)) then (decide (p0 ≤ p2)) else false)
theorem c_impl_within (p0 : Int) (p1 : Int) (p2 : Int) : FnOk prog 150 [.one (.v (.int .i64 p0)), .one (.v (.int .i64 p1)), .one (.v (.int .i64 p2))] ⟨.one (.v (.bool (impl_within p0 p1 p2))), [], [], false⟩ := by
  refine FnOk.intro (E := env) envOk wide func150 rfl (by kernel_rfl) rfl rfl ?_
  refine And.intro (fun (h1 : (decide (p0 ≥ p1)) = true) => ?_) (fun (h1 : (decide (p0 ≥ p1)) = false) => ?_)
  · refine And.intro (fun _ => .v _) ?_
    have hg : impl_within p0 p1 p2 = (decide (p0 ≤ p2)) := by
      first | rfl | (simp only [impl_within, h1, cond_true, cond_false, Step.fin_stop, Step.fin_done, Fin.get_fin, Fin.get_done, Step.fin_next, Bool.not_true, Bool.not_false, Option.getD_some]; done) | (simp [impl_within, h1, cond_true, cond_false, Step.fin_stop, Step.fin_done, Fin.get_fin, Fin.get_done, Step.fin_next, Bool.not_true, Bool.not_false, Option.getD_some]; done) | (exfalso; simp_all; done)
    exact congrArg (fun g : Bool => AV.one (.v (.bool g))) hg.symm
  · refine And.intro (fun _ => .v _) ?_
    have hg : impl_within p0 p1 p2 = false := by
      first | rfl | (simp only [impl_within, h1, cond_true, cond_false, Step.fin_stop, Step.fin_done, Fin.get_fin, Fin.get_done, Step.fin_next, Bool.not_true, Bool.not_false, Option.getD_some]; done) | (simp [impl_within, h1, cond_true, cond_false, Step.fin_stop, Step.fin_done, Fin.get_fin, Fin.get_done, Step.fin_next, Bool.not_true, Bool.not_false, Option.getD_some]; done) | (exfalso; simp_all; done)
    exact congrArg (fun g : Bool => AV.one (.v (.bool g))) hg.symm
def impl_NameOk_b1 (p0 : ByteArray) (i1 : Nat) (s1 : Unit) : Step (Unit) Bool :=
  (bif (decide ((((p0).data.getD i1 0).toNat : Int) < 97)) then (.done false) else (bif (decide ((((p0).data.getD i1 0).toNat : Int) > 122)) then (.done false) else (.next ())))
def impl_NameOk (p0 : ByteArray) : Bool :=
  (Fin.get (fun s1 => (impl_within (((p0).size : Nat) : Int) 1 8)) (loopC (impl_NameOk_b1 p0) 0 () (p0).size))
theorem c_impl_NameOk (p0 : ByteArray) : FnOk prog 237 [.one (.v (.string p0))] ⟨.one (.v (.bool (impl_NameOk p0))), [], [], false⟩ := by
  refine FnOk.intro (E := env) envOk wide func237 rfl (by kernel_rfl) rfl rfl ?_
  refine loop_rule (α := CntSt (impl_NameOk_b1 p0) () (p0).size) [0] (fun x1 => [(3, .one (.v (.int .i64 ((x1.i : Nat) : Int))))]) (fun x1 => []) (fun x1 => (p0).size - x1.i) .init [] ?_ (fun x1 => ?_)
  · exact ⟨rfl, ⟨rfl, rfl, trivial⟩, trivial, trivial⟩
  · refine fun hN => ?_
    have hN1 : (_ : Nat) ≤ 9223372036854775807 := hN rfl
    refine And.intro (fun (h2 : (decide (((x1.i : Nat) : Int) < (((p0).size : Nat) : Int))) = true) => ?_) (fun (h2 : (decide (((x1.i : Nat) : Int) < (((p0).size : Nat) : Int))) = false) => ?_)
    · have hi1 : x1.i < (p0).size := by (first | omega | (simp; done) | (simp; omega) | (simp at *; omega) | (simp at *; done) | (simp_all; done) | (simp_all; omega))
      have hw1 : IntKind.i64.wrap (((x1.i : Nat) : Int) + 1) = ((x1.i + 1 : Nat) : Int) := by (rw [Go.Ev.wrap_small] <;> omega)
      refine And.intro (fun _ => by (first | omega | (simp; done) | (simp; omega) | (simp at *; omega) | (simp at *; done) | (simp_all; done) | (simp_all; omega))) ?_
      refine And.intro (fun (h3 : (decide ((((p0).data.getD x1.i 0).toNat : Int) < 97)) = false) => ?_) (fun (h3 : (decide ((((p0).data.getD x1.i 0).toNat : Int) < 97)) = true) => ?_)
      · refine And.intro (fun _ => by (first | omega | (simp; done) | (simp; omega) | (simp at *; omega) | (simp at *; done) | (simp_all; done) | (simp_all; omega))) ?_
        refine And.intro (fun (h4 : (decide ((((p0).data.getD x1.i 0).toNat : Int) > 122)) = true) => ?_) (fun (h4 : (decide ((((p0).data.getD x1.i 0).toNat : Int) > 122)) = false) => ?_)
        · have hb1 := x1.out hi1 (by first | rfl | (simp only [impl_NameOk_b1, h2, h3, h4, cond_true, cond_false, Bool.not_true, Bool.not_false, Option.getD_some, Step.isNext_stop, Step.isNext_done, Step.fin_stop, Step.fin_done, Fin.get_fin, Fin.get_done]; done) | (exfalso; simp_all; done))
          refine And.intro (fun _ => .v _) ?_
          have hg : impl_NameOk p0 = false := by
            first | rfl | (simp only [impl_NameOk, impl_NameOk_b1, h2, h3, h4, hb1, cond_true, cond_false, Step.fin_stop, Step.fin_done, Fin.get_fin, Fin.get_done, Step.fin_next, Bool.not_true, Bool.not_false, Option.getD_some]; done) | (simp [impl_NameOk, impl_NameOk_b1, h2, h3, h4, hb1, cond_true, cond_false, Step.fin_stop, Step.fin_done, Fin.get_fin, Fin.get_done, Step.fin_next, Bool.not_true, Bool.not_false, Option.getD_some]; done) | (exfalso; simp_all; done)
          exact congrArg (fun g : Bool => AV.one (.v (.bool g))) hg.symm
        · refine x1.go hi1 (v := ()) (by first | rfl | (simp only [impl_NameOk_b1, h2, h3, h4, cond_true, cond_false, Bool.not_true, Bool.not_false, Option.getD_some, Step.fin_stop, Step.fin_done, Fin.get_fin, Fin.get_done]; done) | (exfalso; simp_all; done)) [] (by show _ - (x1.i + 1) < _ - x1.i; omega) ?_
          exact ⟨rfl, ⟨(eqInt hw1), rfl, trivial⟩, trivial, trivial⟩
      · have hb1 := x1.out hi1 (by first | rfl | (simp only [impl_NameOk_b1, h2, h3, cond_true, cond_false, Bool.not_true, Bool.not_false, Option.getD_some, Step.isNext_stop, Step.isNext_done, Step.fin_stop, Step.fin_done, Fin.get_fin, Fin.get_done]; done) | (exfalso; simp_all; done))
        refine And.intro (fun _ => .v _) ?_
        have hg : impl_NameOk p0 = false := by
          first | rfl | (simp only [impl_NameOk, impl_NameOk_b1, h2, h3, hb1, cond_true, cond_false, Step.fin_stop, Step.fin_done, Fin.get_fin, Fin.get_done, Step.fin_next, Bool.not_true, Bool.not_false, Option.getD_some]; done) | (simp [impl_NameOk, impl_NameOk_b1, h2, h3, hb1, cond_true, cond_false, Step.fin_stop, Step.fin_done, Fin.get_fin, Fin.get_done, Step.fin_next, Bool.not_true, Bool.not_false, Option.getD_some]; done) | (exfalso; simp_all; done)
        exact congrArg (fun g : Bool => AV.one (.v (.bool g))) hg.symm
    · have hf1 := x1.fin (show ¬ x1.i < (p0).size by (first | omega | (simp; done) | (simp; omega) | (simp at *; omega) | (simp at *; done) | (simp_all; done) | (simp_all; omega)))
      refine fun hN => ?_
      have hN5 : (_ : Nat) ≤ 9223372036854775807 := hN rfl
      refine ⟨_, _, c_impl_within (((p0).size : Nat) : Int) 1 8, (FzAs.same _), ?_⟩
      refine litE (m := 1) rfl ?_
      refine And.intro (fun _ => .v _) ?_
      have hg : impl_NameOk p0 = (impl_within (((p0).size : Nat) : Int) 1 8) := by
        first | rfl | (simp only [impl_NameOk, impl_NameOk_b1, h2, hf1, cond_true, cond_false, Step.fin_stop, Step.fin_done, Fin.get_fin, Fin.get_done, Step.fin_next, Bool.not_true, Bool.not_false, Option.getD_some]; done) | (simp [impl_NameOk, impl_NameOk_b1, h2, hf1, cond_true, cond_false, Step.fin_stop, Step.fin_done, Fin.get_fin, Fin.get_done, Step.fin_next, Bool.not_true, Bool.not_false, Option.getD_some]; done) | (exfalso; simp_all; done)
      exact congrArg (fun g : Bool => AV.one (.v (.bool g))) hg.symm
def impl_PlainOk_b1 (p0 : ByteArray) (i1 : Nat) (s1 : Unit) : Step (Unit) Bool :=
  (bif (!(impl_within (IntKind.i64.wrap (((p0).data.getD i1 0).toNat : Int)) 32 126)) then (.done false) else (bif ((((p0).data.getD i1 0).toNat : Int) == 34) then (.done false) else (.next ())))
def impl_PlainOk (p0 : ByteArray) : Bool :=
  (Fin.get (fun s1 => (decide ((((p0).size : Nat) : Int) ≤ 20))) (loopC (impl_PlainOk_b1 p0) 0 () (p0).size))
theorem c_impl_PlainOk (p0 : ByteArray) : FnOk prog 238 [.one (.v (.string p0))] ⟨.one (.v (.bool (impl_PlainOk p0))), [], [], false⟩ := by
  refine FnOk.intro (E := env) envOk wide func238 rfl (by kernel_rfl) rfl rfl ?_
  refine loop_rule (α := CntSt (impl_PlainOk_b1 p0) () (p0).size) [0] (fun x1 => [(3, .one (.v (.int .i64 ((x1.i : Nat) : Int))))]) (fun x1 => []) (fun x1 => (p0).size - x1.i) .init [] ?_ (fun x1 => ?_)
  · exact ⟨rfl, ⟨rfl, rfl, trivial⟩, trivial, trivial⟩
  · refine fun hN => ?_
    have hN1 : (_ : Nat) ≤ 9223372036854775807 := hN rfl
    refine And.intro (fun (h2 : (decide (((x1.i : Nat) : Int) < (((p0).size : Nat) : Int))) = true) => ?_) (fun (h2 : (decide (((x1.i : Nat) : Int) < (((p0).size : Nat) : Int))) = false) => ?_)
    · have hi1 : x1.i < (p0).size := by (first | omega | (simp; done) | (simp; omega) | (simp at *; omega) | (simp at *; done) | (simp_all; done) | (simp_all; omega))
      have hw1 : IntKind.i64.wrap (((x1.i : Nat) : Int) + 1) = ((x1.i + 1 : Nat) : Int) := by (rw [Go.Ev.wrap_small] <;> omega)
      refine And.intro (fun _ => by (first | omega | (simp; done) | (simp; omega) | (simp at *; omega) | (simp at *; done) | (simp_all; done) | (simp_all; omega))) ?_
      refine ⟨_, _, c_impl_within (IntKind.i64.wrap (((p0).data.getD x1.i 0).toNat : Int)) 32 126, (FzAs.same _), ?_⟩
      refine litE (m := 1) rfl ?_
      refine And.intro (fun (h3 : (!(impl_within (IntKind.i64.wrap (((p0).data.getD x1.i 0).toNat : Int)) 32 126)) = false) => ?_) (fun (h3 : (!(impl_within (IntKind.i64.wrap (((p0).data.getD x1.i 0).toNat : Int)) 32 126)) = true) => ?_)
      · refine And.intro (fun _ => by (first | omega | (simp; done) | (simp; omega) | (simp at *; omega) | (simp at *; done) | (simp_all; done) | (simp_all; omega))) ?_
        refine And.intro (fun (h4 : ((((p0).data.getD x1.i 0).toNat : Int) == 34) = true) => ?_) (fun (h4 : ((((p0).data.getD x1.i 0).toNat : Int) == 34) = false) => ?_)
        · have hb1 := x1.out hi1 (by first | rfl | (simp only [impl_PlainOk_b1, h2, h3, h4, cond_true, cond_false, Bool.not_true, Bool.not_false, Option.getD_some, Step.isNext_stop, Step.isNext_done, Step.fin_stop, Step.fin_done, Fin.get_fin, Fin.get_done]; done) | (exfalso; simp_all; done))
          refine And.intro (fun _ => .v _) ?_
          have hg : impl_PlainOk p0 = false := by
            first | rfl | (simp only [impl_PlainOk, impl_PlainOk_b1, h2, h3, h4, hb1, cond_true, cond_false, Step.fin_stop, Step.fin_done, Fin.get_fin, Fin.get_done, Step.fin_next, Bool.not_true, Bool.not_false, Option.getD_some]; done) | (simp [impl_PlainOk, impl_PlainOk_b1, h2, h3, h4, hb1, cond_true, cond_false, Step.fin_stop, Step.fin_done, Fin.get_fin, Fin.get_done, Step.fin_next, Bool.not_true, Bool.not_false, Option.getD_some]; done) | (exfalso; simp_all; done)
          exact congrArg (fun g : Bool => AV.one (.v (.bool g))) hg.symm
        · refine x1.go hi1 (v := ()) (by first | rfl | (simp only [impl_PlainOk_b1, h2, h3, h4, cond_true, cond_false, Bool.not_true, Bool.not_false, Option.getD_some, Step.fin_stop, Step.fin_done, Fin.get_fin, Fin.get_done]; done) | (exfalso; simp_all; done)) [] (by show _ - (x1.i + 1) < _ - x1.i; omega) ?_
          exact ⟨rfl, ⟨(eqInt hw1), rfl, trivial⟩, trivial, trivial⟩
      · have hb1 := x1.out hi1 (by first | rfl | (simp only [impl_PlainOk_b1, h2, h3, cond_true, cond_false, Bool.not_true, Bool.not_false, Option.getD_some, Step.isNext_stop, Step.isNext_done, Step.fin_stop, Step.fin_done, Fin.get_fin, Fin.get_done]; done) | (exfalso; simp_all; done))
        refine And.intro (fun _ => .v _) ?_
        have hg : impl_PlainOk p0 = false := by
          first | rfl | (simp only [impl_PlainOk, impl_PlainOk_b1, h2, h3, hb1, cond_true, cond_false, Step.fin_stop, Step.fin_done, Fin.get_fin, Fin.get_done, Step.fin_next, Bool.not_true, Bool.not_false, Option.getD_some]; done) | (simp [impl_PlainOk, impl_PlainOk_b1, h2, h3, hb1, cond_true, cond_false, Step.fin_stop, Step.fin_done, Fin.get_fin, Fin.get_done, Step.fin_next, Bool.not_true, Bool.not_false, Option.getD_some]; done) | (exfalso; simp_all; done)
        exact congrArg (fun g : Bool => AV.one (.v (.bool g))) hg.symm
    · have hf1 := x1.fin (show ¬ x1.i < (p0).size by (first | omega | (simp; done) | (simp; omega) | (simp at *; omega) | (simp at *; done) | (simp_all; done) | (simp_all; omega)))
      refine fun hN => ?_
      have hN5 : (_ : Nat) ≤ 9223372036854775807 := hN rfl
      refine And.intro (fun _ => .v _) ?_
      have hg : impl_PlainOk p0 = (decide ((((p0).size : Nat) : Int) ≤ 20)) := by
        first | rfl | (simp only [impl_PlainOk, impl_PlainOk_b1, h2, hf1, cond_true, cond_false, Step.fin_stop, Step.fin_done, Fin.get_fin, Fin.get_done, Step.fin_next, Bool.not_true, Bool.not_false, Option.getD_some]; done) | (simp [impl_PlainOk, impl_PlainOk_b1, h2, hf1, cond_true, cond_false, Step.fin_stop, Step.fin_done, Fin.get_fin, Fin.get_done, Step.fin_next, Bool.not_true, Bool.not_false, Option.getD_some]; done) | (exfalso; simp_all; done)
      exact congrArg (fun g : Bool => AV.one (.v (.bool g))) hg.symm
def impl_polHeadOk (p0 : Pol) : Bool :=
  (bif (p0.N == 0) then (bif (decide (p0.Key = (ByteArray.mk #[]))) then (bif (p0.Kind == 1) then (bif (p0.Kind == 1) then (bif (decide (p0.Text = (ByteArray.mk #[]))) then ((((p0.L).length : Nat) : Int) == 0) else false) else (bif (p0.Kind == 3) then (bif (impl_within p0.N 0 2147483647) then (bif (decide (p0.Key = (ByteArray.mk #[]))) then (bif (decide (p0.Text = (ByteArray.mk #[]))) then ((((p0.L).length : Nat) : Int) == 0) else false) else false) else false) else (bif (p0.Kind == 4) then (bif (p0.N == 0) then (bif (impl_NameOk p0.Key) then (bif (impl_PlainOk p0.Text) then ((((p0.L).length : Nat) : Int) == 0) else false) else false) else false) else (bif (p0.Kind == 5) then (bif (impl_within p0.N 0 2147483647) then (bif (impl_NameOk p0.Key) then (bif (decide (p0.Text = (ByteArray.mk #[]))) then ((((p0.L).length : Nat) : Int) == 0) else false) else false) else false) else (bif (p0.Kind == 7) then (bif (p0.Kind == 7) then (bif (decide (p0.Text = (ByteArray.mk #[]))) then (impl_within (((p0.L).length : Nat) : Int) 1 4) else false) else (bif (p0.Kind == 9) then (bif (decide (p0.Text = (ByteArray.mk #[]))) then ((((p0.L).length : Nat) : Int) == 1) else false) else false)) else (bif (p0.Kind == 8) then (bif (decide (p0.Text = (ByteArray.mk #[]))) then (impl_within (((p0.L).length : Nat) : Int) 1 4) else false) else (bif (p0.Kind == 9) then (bif (decide (p0.Text = (ByteArray.mk #[]))) then ((((p0.L).length : Nat) : Int) == 1) else false) else false))))))) else (bif (p0.Kind == 2) then (bif (p0.Kind == 2) then (bif (decide (p0.Text = (ByteArray.mk #[]))) then ((((p0.L).length : Nat) : Int) == 0) else false) else (bif (p0.Kind == 3) then (bif (impl_within p0.N 0 2147483647) then (bif (decide (p0.Key = (ByteArray.mk #[]))) then (bif (decide (p0.Text = (ByteArray.mk #[]))) then ((((p0.L).length : Nat) : Int) == 0) else false) else false) else false) else (bif (p0.Kind == 4) then (bif (p0.N == 0) then (bif (impl_NameOk p0.Key) then (bif (impl_PlainOk p0.Text) then ((((p0.L).length : Nat) : Int) == 0) else false) else false) else false) else (bif (p0.Kind == 5) then (bif (impl_within p0.N 0 2147483647) then (bif (impl_NameOk p0.Key) then (bif (decide (p0.Text = (ByteArray.mk #[]))) then ((((p0.L).length : Nat) : Int) == 0) else false) else false) else false) else (bif (p0.Kind == 7) then (bif (p0.Kind == 7) then (bif (decide (p0.Text = (ByteArray.mk #[]))) then (impl_within (((p0.L).length : Nat) : Int) 1 4) else false) else (bif (p0.Kind == 9) then (bif (decide (p0.Text = (ByteArray.mk #[]))) then ((((p0.L).length : Nat) : Int) == 1) else false) else false)) else (bif (p0.Kind == 8) then (bif (decide (p0.Text = (ByteArray.mk #[]))) then (impl_within (((p0.L).length : Nat) : Int) 1 4) else false) else (bif (p0.Kind == 9) then (bif (decide (p0.Text = (ByteArray.mk #[]))) then ((((p0.L).length : Nat) : Int) == 1) else false) else false))))))) else (bif (p0.Kind == 6) then (bif (decide (p0.Text = (ByteArray.mk #[]))) then ((((p0.L).length : Nat) : Int) == 0) else false) else (bif (p0.Kind == 3) then (bif (impl_within p0.N 0 2147483647) then (bif (decide (p0.Key = (ByteArray.mk #[]))) then (bif (decide (p0.Text = (ByteArray.mk #[]))) then ((((p0.L).length : Nat) : Int) == 0) else false) else false) else false) else (bif (p0.Kind == 4) then (bif (p0.N == 0) then (bif (impl_NameOk p0.Key) then (bif (impl_PlainOk p0.Text) then ((((p0.L).length : Nat) : Int) == 0) else false) else false) else false) else (bif (p0.Kind == 5) then (bif (impl_within p0.N 0 2147483647) then (bif (impl_NameOk p0.Key) then (bif (decide (p0.Text = (ByteArray.mk #[]))) then ((((p0.L).length : Nat) : Int) == 0) else false) else false) else false) else (bif (p0.Kind == 7) then (bif (p0.Kind == 7) then (bif (decide (p0.Text = (ByteArray.mk #[]))) then (impl_within (((p0.L).length : Nat) : Int) 1 4) else false) else (bif (p0.Kind == 9) then (bif (decide (p0.Text = (ByteArray.mk #[]))) then ((((p0.L).length : Nat) : Int) == 1) else false) else false)) else (bif (p0.Kind == 8) then (bif (decide (p0.Text = (ByteArray.mk #[]))) then (impl_within (((p0.L).length : Nat) : Int) 1 4) else false) else (bif (p0.Kind == 9) then (bif (decide (p0.Text = (ByteArray.mk #[]))) then ((((p0.L).length : Nat) : Int) == 1) else false) else false))))))))) else (bif (p0.Kind == 1) then (bif (p0.Kind == 1) then false else (bif (p0.Kind == 3) then (bif (impl_within p0.N 0 2147483647) then (bif (decide (p0.Key = (ByteArray.mk #[]))) then (bif (decide (p0.Text = (ByteArray.mk #[]))) then ((((p0.L).length : Nat) : Int) == 0) else false) else false) else false) else (bif (p0.Kind == 4) then (bif (p0.N == 0) then (bif (impl_NameOk p0.Key) then (bif (impl_PlainOk p0.Text) then ((((p0.L).length : Nat) : Int) == 0) else false) else false) else false) else (bif (p0.Kind == 5) then (bif (impl_within p0.N 0 2147483647) then (bif (impl_NameOk p0.Key) then (bif (decide (p0.Text = (ByteArray.mk #[]))) then ((((p0.L).length : Nat) : Int) == 0) else false) else false) else false) else false)))) else (bif (p0.Kind == 2) then (bif (p0.Kind == 2) then false else (bif (p0.Kind == 3) then (bif (impl_within p0.N 0 2147483647) then (bif (decide (p0.Key = (ByteArray.mk #[]))) then (bif (decide (p0.Text = (ByteArray.mk #[]))) then ((((p0.L).length : Nat) : Int) == 0) else false) else false) else false) else (bif (p0.Kind == 4) then (bif (p0.N == 0) then (bif (impl_NameOk p0.Key) then (bif (impl_PlainOk p0.Text) then ((((p0.L).length : Nat) : Int) == 0) else false) else false) else false) else (bif (p0.Kind == 5) then (bif (impl_within p0.N 0 2147483647) then (bif (impl_NameOk p0.Key) then (bif (decide (p0.Text = (ByteArray.mk #[]))) then ((((p0.L).length : Nat) : Int) == 0) else false) else false) else false) else false)))) else (bif (p0.Kind == 6) then false else (bif (p0.Kind == 3) then (bif (impl_within p0.N 0 2147483647) then (bif (decide (p0.Key = (ByteArray.mk #[]))) then (bif (decide (p0.Text = (ByteArray.mk #[]))) then ((((p0.L).length : Nat) : Int) == 0) else false) else false) else false) else (bif (p0.Kind == 4) then (bif (p0.N == 0) then (bif (impl_NameOk p0.Key) then (bif (impl_PlainOk p0.Text) then ((((p0.L).length : Nat) : Int) == 0) else false) else false) else false) else (bif (p0.Kind == 5) then (bif (impl_within p0.N 0 2147483647) then (bif (impl_NameOk p0.Key) then (bif (decide (p0.Text = (ByteArray.mk #[]))) then ((((p0.L).length : Nat) : Int) == 0) else false) else false) else false) else false))))))) else (bif (p0.Kind == 1) then (bif (p0.Kind == 1) then false else (bif (p0.Kind == 3) then (bif (impl_within p0.N 0 2147483647) then (bif (decide (p0.Key = (ByteArray.mk #[]))) then (bif (decide (p0.Text = (ByteArray.mk #[]))) then ((((p0.L).length : Nat) : Int) == 0) else false) else false) else false) else (bif (p0.Kind == 4) then (bif (p0.N == 0) then (bif (impl_NameOk p0.Key) then (bif (impl_PlainOk p0.Text) then ((((p0.L).length : Nat) : Int) == 0) else false) else false) else false) else (bif (p0.Kind == 5) then (bif (impl_within p0.N 0 2147483647) then (bif (impl_NameOk p0.Key) then (bif (decide (p0.Text = (ByteArray.mk #[]))) then ((((p0.L).length : Nat) : Int) == 0) else false) else false) else false) else false)))) else (bif (p0.Kind == 2) then (bif (p0.Kind == 2) then false else (bif (p0.Kind == 3) then (bif (impl_within p0.N 0 2147483647) then (bif (decide (p0.Key = (ByteArray.mk #[]))) then (bif (decide (p0.Text = (ByteArray.mk #[]))) then ((((p0.L).length : Nat) : Int) == 0) else false) else false) else false) else (bif (p0.Kind == 4) then (bif (p0.N == 0) then (bif (impl_NameOk p0.Key) then (bif (impl_PlainOk p0.Text) then ((((p0.L).length : Nat) : Int) == 0) else false) else false) else false) else (bif (p0.Kind == 5) then (bif (impl_within p0.N 0 2147483647) then (bif (impl_NameOk p0.Key) then (bif (decide (p0.Text = (ByteArray.mk #[]))) then ((((p0.L).length : Nat) : Int) == 0) else false) else false) else false) else false)))) else (bif (p0.Kind == 6) then false else (bif (p0.Kind == 3) then (bif (impl_within p0.N 0 2147483647) then (bif (decide (p0.Key = (ByteArray.mk #[]))) then (bif (decide (p0.Text = (ByteArray.mk #[]))) then ((((p0.L).length : Nat) : Int) == 0) else false) else false) else false) else (bif (p0.Kind == 4) then (bif (p0.N == 0) then (bif (impl_NameOk p0.Key) then (bif (impl_PlainOk p0.Text) then ((((p0.L).length : Nat) : Int) == 0) else false) else false) else false) else (bif (p0.Kind == 5) then (bif (impl_within p0.N 0 2147483647) then (bif (impl_NameOk p0.Key) then (bif (decide (p0.Text = (ByteArray.mk #[]))) then ((((p0.L).length : Nat) : Int) == 0) else false) else false) else false) else false)))))))
end Go.Proofs.Try.Ev
