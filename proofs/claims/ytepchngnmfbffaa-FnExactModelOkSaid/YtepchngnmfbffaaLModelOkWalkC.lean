import Derived.Test.YtepchngnmfbffaaLModelOkWalkB
set_option linter.unusedSectionVars false

namespace Go.Proofs.Try.Ev
open Go Go.Ev Go.Proofs
set_option maxHeartbeats 4000000
set_option maxRecDepth 100000
set_option linter.unusedSimpArgs false
set_option linter.unusedVariables false
theorem c_impl_polHeadOk (p0 : Pol) : FnOk prog 222 [.agg (Pol.opn false p0)] ⟨.one (.v (.bool (impl_polHeadOk p0))), [], [], false⟩ := by
  refine FnOk.intro (E := env) envOk wide func222 rfl (by kernel_rfl) rfl rfl ?_
  refine litE (m := 0) rfl ?_
  refine And.intro (fun (h1 : (p0.N == 0) = true) => ?_) (fun (h1 : (p0.N == 0) = false) => ?_)
  · refine And.intro (fun (h2 : (decide (p0.Key = (ByteArray.mk #[]))) = true) => ?_) (fun (h2 : (decide (p0.Key = (ByteArray.mk #[]))) = false) => ?_)
    · refine And.intro (fun (h3 : (p0.Kind == 1) = true) => ?_) (fun (h3 : (p0.Kind == 1) = false) => ?_)
      · refine And.intro (fun (h4 : (p0.Kind == 1) = true) => ?_) (fun (h4 : (p0.Kind == 1) = false) => ?_)
        · refine And.intro (fun (h5 : (decide (p0.Text = (ByteArray.mk #[]))) = true) => ?_) (fun (h5 : (decide (p0.Text = (ByteArray.mk #[]))) = false) => ?_)
          · refine lenE (k := (p0.L).length) (by simp) (fun hN6 => ?_)
            refine And.intro (fun _ => .v _) ?_
            have hg : impl_polHeadOk p0 = ((((p0.L).length : Nat) : Int) == 0) := by
              first | rfl | (simp only [impl_polHeadOk, h1, h2, h3, h4, h5, cond_true, cond_false, Step.fin_stop, Step.fin_done, Fin.get_fin, Fin.get_done, Step.fin_next, Bool.not_true, Bool.not_false, Option.getD_some]; done) | (simp [impl_polHeadOk, h1, h2, h3, h4, h5, cond_true, cond_false, Step.fin_stop, Step.fin_done, Fin.get_fin, Fin.get_done, Step.fin_next, Bool.not_true, Bool.not_false, Option.getD_some]; done) | (exfalso; simp_all; done)
            exact congrArg (fun g : Bool => AV.one (.v (.bool g))) hg.symm
          · refine And.intro (fun _ => .v _) ?_
            have hg : impl_polHeadOk p0 = false := by
              first | rfl | (simp only [impl_polHeadOk, h1, h2, h3, h4, h5, cond_true, cond_false, Step.fin_stop, Step.fin_done, Fin.get_fin, Fin.get_done, Step.fin_next, Bool.not_true, Bool.not_false, Option.getD_some]; done) | (simp [impl_polHeadOk, h1, h2, h3, h4, h5, cond_true, cond_false, Step.fin_stop, Step.fin_done, Fin.get_fin, Fin.get_done, Step.fin_next, Bool.not_true, Bool.not_false, Option.getD_some]; done) | (exfalso; simp_all; done)
            exact congrArg (fun g : Bool => AV.one (.v (.bool g))) hg.symm
        · refine And.intro (fun (h7 : (p0.Kind == 3) = true) => ?_) (fun (h7 : (p0.Kind == 3) = false) => ?_)
          · refine ⟨_, _, c_impl_within p0.N 0 2147483647, (FzAs.same _), ?_⟩
            refine litE (m := 2) rfl ?_
            refine And.intro (fun (h8 : (impl_within p0.N 0 2147483647) = true) => ?_) (fun (h8 : (impl_within p0.N 0 2147483647) = false) => ?_)
            · refine And.intro (fun (h9 : (decide (p0.Key = (ByteArray.mk #[]))) = true) => ?_) (fun (h9 : (decide (p0.Key = (ByteArray.mk #[]))) = false) => ?_)
              · refine And.intro (fun (h10 : (decide (p0.Text = (ByteArray.mk #[]))) = true) => ?_) (fun (h10 : (decide (p0.Text = (ByteArray.mk #[]))) = false) => ?_)
                · refine lenE (k := (p0.L).length) (by simp) (fun hN11 => ?_)
                  refine And.intro (fun _ => .v _) ?_
                  have hg : impl_polHeadOk p0 = ((((p0.L).length : Nat) : Int) == 0) := by
                    first | rfl | (simp only [impl_polHeadOk, h1, h2, h3, h4, h7, h8, h9, h10, cond_true, cond_false, Step.fin_stop, Step.fin_done, Fin.get_fin, Fin.get_done, Step.fin_next, Bool.not_true, Bool.not_false, Option.getD_some]; done) | (simp [impl_polHeadOk, h1, h2, h3, h4, h7, h8, h9, h10, cond_true, cond_false, Step.fin_stop, Step.fin_done, Fin.get_fin, Fin.get_done, Step.fin_next, Bool.not_true, Bool.not_false, Option.getD_some]; done) | (exfalso; simp_all; done)
                  exact congrArg (fun g : Bool => AV.one (.v (.bool g))) hg.symm
                · refine And.intro (fun _ => .v _) ?_
                  have hg : impl_polHeadOk p0 = false := by
                    first | rfl | (simp only [impl_polHeadOk, h1, h2, h3, h4, h7, h8, h9, h10, cond_true, cond_false, Step.fin_stop, Step.fin_done, Fin.get_fin, Fin.get_done, Step.fin_next, Bool.not_true, Bool.not_false, Option.getD_some]; done) | (simp [impl_polHeadOk, h1, h2, h3, h4, h7, h8, h9, h10, cond_true, cond_false, Step.fin_stop, Step.fin_done, Fin.get_fin, Fin.get_done, Step.fin_next, Bool.not_true, Bool.not_false, Option.getD_some]; done) | (exfalso; simp_all; done)
                  exact congrArg (fun g : Bool => AV.one (.v (.bool g))) hg.symm
              · refine And.intro (fun _ => .v _) ?_
                have hg : impl_polHeadOk p0 = false := by
                  first | rfl | (simp only [impl_polHeadOk, h1, h2, h3, h4, h7, h8, h9, cond_true, cond_false, Step.fin_stop, Step.fin_done, Fin.get_fin, Fin.get_done, Step.fin_next, Bool.not_true, Bool.not_false, Option.getD_some]; done) | (simp [impl_polHeadOk, h1, h2, h3, h4, h7, h8, h9, cond_true, cond_false, Step.fin_stop, Step.fin_done, Fin.get_fin, Fin.get_done, Step.fin_next, Bool.not_true, Bool.not_false, Option.getD_some]; done) | (exfalso; simp_all; done)
                exact congrArg (fun g : Bool => AV.one (.v (.bool g))) hg.symm
            · refine And.intro (fun _ => .v _) ?_
              have hg : impl_polHeadOk p0 = false := by
                first | rfl | (simp only [impl_polHeadOk, h1, h2, h3, h4, h7, h8, cond_true, cond_false, Step.fin_stop, Step.fin_done, Fin.get_fin, Fin.get_done, Step.fin_next, Bool.not_true, Bool.not_false, Option.getD_some]; done) | (simp [impl_polHeadOk, h1, h2, h3, h4, h7, h8, cond_true, cond_false, Step.fin_stop, Step.fin_done, Fin.get_fin, Fin.get_done, Step.fin_next, Bool.not_true, Bool.not_false, Option.getD_some]; done) | (exfalso; simp_all; done)
              exact congrArg (fun g : Bool => AV.one (.v (.bool g))) hg.symm
          · refine And.intro (fun (h12 : (p0.Kind == 4) = true) => ?_) (fun (h12 : (p0.Kind == 4) = false) => ?_)
            · refine And.intro (fun (h13 : (p0.N == 0) = true) => ?_) (fun (h13 : (p0.N == 0) = false) => ?_)
              · refine ⟨_, _, c_impl_NameOk p0.Key, (FzAs.same _), ?_⟩
                refine litE (m := 2) rfl ?_
                refine And.intro (fun (h14 : (impl_NameOk p0.Key) = true) => ?_) (fun (h14 : (impl_NameOk p0.Key) = false) => ?_)
                · refine ⟨_, _, c_impl_PlainOk p0.Text, (FzAs.same _), ?_⟩
                  refine litE (m := 3) rfl ?_
                  refine And.intro (fun (h15 : (impl_PlainOk p0.Text) = true) => ?_) (fun (h15 : (impl_PlainOk p0.Text) = false) => ?_)
                  · refine lenE (k := (p0.L).length) (by simp) (fun hN16 => ?_)
                    refine And.intro (fun _ => .v _) ?_
                    have hg : impl_polHeadOk p0 = ((((p0.L).length : Nat) : Int) == 0) := by
                      first | rfl | (simp only [impl_polHeadOk, h1, h2, h3, h4, h7, h12, h13, h14, h15, cond_true, cond_false, Step.fin_stop, Step.fin_done, Fin.get_fin, Fin.get_done, Step.fin_next, Bool.not_true, Bool.not_false, Option.getD_some]; done) | (simp [impl_polHeadOk, h1, h2, h3, h4, h7, h12, h13, h14, h15, cond_true, cond_false, Step.fin_stop, Step.fin_done, Fin.get_fin, Fin.get_done, Step.fin_next, Bool.not_true, Bool.not_false, Option.getD_some]; done) | (exfalso; simp_all; done)
                    exact congrArg (fun g : Bool => AV.one (.v (.bool g))) hg.symm
                  · refine And.intro (fun _ => .v _) ?_
                    have hg : impl_polHeadOk p0 = false := by
                      first | rfl | (simp only [impl_polHeadOk, h1, h2, h3, h4, h7, h12, h13, h14, h15, cond_true, cond_false, Step.fin_stop, Step.fin_done, Fin.get_fin, Fin.get_done, Step.fin_next, Bool.not_true, Bool.not_false, Option.getD_some]; done) | (simp [impl_polHeadOk, h1, h2, h3, h4, h7, h12, h13, h14, h15, cond_true, cond_false, Step.fin_stop, Step.fin_done, Fin.get_fin, Fin.get_done, Step.fin_next, Bool.not_true, Bool.not_false, Option.getD_some]; done) | (exfalso; simp_all; done)
                    exact congrArg (fun g : Bool => AV.one (.v (.bool g))) hg.symm
                · refine And.intro (fun _ => .v _) ?_
                  have hg : impl_polHeadOk p0 = false := by
                    first | rfl | (simp only [impl_polHeadOk, h1, h2, h3, h4, h7, h12, h13, h14, cond_true, cond_false, Step.fin_stop, Step.fin_done, Fin.get_fin, Fin.get_done, Step.fin_next, Bool.not_true, Bool.not_false, Option.getD_some]; done) | (simp [impl_polHeadOk, h1, h2, h3, h4, h7, h12, h13, h14, cond_true, cond_false, Step.fin_stop, Step.fin_done, Fin.get_fin, Fin.get_done, Step.fin_next, Bool.not_true, Bool.not_false, Option.getD_some]; done) | (exfalso; simp_all; done)
                  exact congrArg (fun g : Bool => AV.one (.v (.bool g))) hg.symm
              · refine And.intro (fun _ => .v _) ?_
                have hg : impl_polHeadOk p0 = false := by
                  first | rfl | (simp only [impl_polHeadOk, h1, h2, h3, h4, h7, h12, h13, cond_true, cond_false, Step.fin_stop, Step.fin_done, Fin.get_fin, Fin.get_done, Step.fin_next, Bool.not_true, Bool.not_false, Option.getD_some]; done) | (simp [impl_polHeadOk, h1, h2, h3, h4, h7, h12, h13, cond_true, cond_false, Step.fin_stop, Step.fin_done, Fin.get_fin, Fin.get_done, Step.fin_next, Bool.not_true, Bool.not_false, Option.getD_some]; done) | (exfalso; simp_all; done)
                exact congrArg (fun g : Bool => AV.one (.v (.bool g))) hg.symm
            · refine And.intro (fun (h17 : (p0.Kind == 5) = true) => ?_) (fun (h17 : (p0.Kind == 5) = false) => ?_)
              · refine ⟨_, _, c_impl_within p0.N 0 2147483647, (FzAs.same _), ?_⟩
                refine litE (m := 2) rfl ?_
                refine And.intro (fun (h18 : (impl_within p0.N 0 2147483647) = true) => ?_) (fun (h18 : (impl_within p0.N 0 2147483647) = false) => ?_)
                · refine ⟨_, _, c_impl_NameOk p0.Key, (FzAs.same _), ?_⟩
                  refine litE (m := 3) rfl ?_
                  refine And.intro (fun (h19 : (impl_NameOk p0.Key) = true) => ?_) (fun (h19 : (impl_NameOk p0.Key) = false) => ?_)
                  · refine And.intro (fun (h20 : (decide (p0.Text = (ByteArray.mk #[]))) = true) => ?_) (fun (h20 : (decide (p0.Text = (ByteArray.mk #[]))) = false) => ?_)
                    · refine lenE (k := (p0.L).length) (by simp) (fun hN21 => ?_)
                      refine And.intro (fun _ => .v _) ?_
                      have hg : impl_polHeadOk p0 = ((((p0.L).length : Nat) : Int) == 0) := by
                        first | rfl | (simp only [impl_polHeadOk, h1, h2, h3, h4, h7, h12, h17, h18, h19, h20, cond_true, cond_false, Step.fin_stop, Step.fin_done, Fin.get_fin, Fin.get_done, Step.fin_next, Bool.not_true, Bool.not_false, Option.getD_some]; done) | (simp [impl_polHeadOk, h1, h2, h3, h4, h7, h12, h17, h18, h19, h20, cond_true, cond_false, Step.fin_stop, Step.fin_done, Fin.get_fin, Fin.get_done, Step.fin_next, Bool.not_true, Bool.not_false, Option.getD_some]; done) | (exfalso; simp_all; done)
                      exact congrArg (fun g : Bool => AV.one (.v (.bool g))) hg.symm
                    · refine And.intro (fun _ => .v _) ?_
                      have hg : impl_polHeadOk p0 = false := by
                        first | rfl | (simp only [impl_polHeadOk, h1, h2, h3, h4, h7, h12, h17, h18, h19, h20, cond_true, cond_false, Step.fin_stop, Step.fin_done, Fin.get_fin, Fin.get_done, Step.fin_next, Bool.not_true, Bool.not_false, Option.getD_some]; done) | (simp [impl_polHeadOk, h1, h2, h3, h4, h7, h12, h17, h18, h19, h20, cond_true, cond_false, Step.fin_stop, Step.fin_done, Fin.get_fin, Fin.get_done, Step.fin_next, Bool.not_true, Bool.not_false, Option.getD_some]; done) | (exfalso; simp_all; done)
                      exact congrArg (fun g : Bool => AV.one (.v (.bool g))) hg.symm
                  · refine And.intro (fun _ => .v _) ?_
                    have hg : impl_polHeadOk p0 = false := by
                      first | rfl | (simp only [impl_polHeadOk, h1, h2, h3, h4, h7, h12, h17, h18, h19, cond_true, cond_false, Step.fin_stop, Step.fin_done, Fin.get_fin, Fin.get_done, Step.fin_next, Bool.not_true, Bool.not_false, Option.getD_some]; done) | (simp [impl_polHeadOk, h1, h2, h3, h4, h7, h12, h17, h18, h19, cond_true, cond_false, Step.fin_stop, Step.fin_done, Fin.get_fin, Fin.get_done, Step.fin_next, Bool.not_true, Bool.not_false, Option.getD_some]; done) | (exfalso; simp_all; done)
                    exact congrArg (fun g : Bool => AV.one (.v (.bool g))) hg.symm
                · refine And.intro (fun _ => .v _) ?_
                  have hg : impl_polHeadOk p0 = false := by
                    first | rfl | (simp only [impl_polHeadOk, h1, h2, h3, h4, h7, h12, h17, h18, cond_true, cond_false, Step.fin_stop, Step.fin_done, Fin.get_fin, Fin.get_done, Step.fin_next, Bool.not_true, Bool.not_false, Option.getD_some]; done) | (simp [impl_polHeadOk, h1, h2, h3, h4, h7, h12, h17, h18, cond_true, cond_false, Step.fin_stop, Step.fin_done, Fin.get_fin, Fin.get_done, Step.fin_next, Bool.not_true, Bool.not_false, Option.getD_some]; done) | (exfalso; simp_all; done)
                  exact congrArg (fun g : Bool => AV.one (.v (.bool g))) hg.symm
              · refine And.intro (fun (h22 : (p0.Kind == 7) = true) => ?_) (fun (h22 : (p0.Kind == 7) = false) => ?_)
                · refine And.intro (fun (h23 : (p0.Kind == 7) = true) => ?_) (fun (h23 : (p0.Kind == 7) = false) => ?_)
                  · refine And.intro (fun (h24 : (decide (p0.Text = (ByteArray.mk #[]))) = true) => ?_) (fun (h24 : (decide (p0.Text = (ByteArray.mk #[]))) = false) => ?_)
                    · refine lenE (k := (p0.L).length) (by simp) (fun hN25 => ?_)
                      refine ⟨_, _, c_impl_within (((p0.L).length : Nat) : Int) 1 4, (FzAs.same _), ?_⟩
                      refine litE (m := 2) rfl ?_
                      refine And.intro (fun _ => .v _) ?_
                      have hg : impl_polHeadOk p0 = (impl_within (((p0.L).length : Nat) : Int) 1 4) := by
                        first | rfl | (simp only [impl_polHeadOk, h1, h2, h3, h4, h7, h12, h17, h22, h23, h24, cond_true, cond_false, Step.fin_stop, Step.fin_done, Fin.get_fin, Fin.get_done, Step.fin_next, Bool.not_true, Bool.not_false, Option.getD_some]; done) | (simp [impl_polHeadOk, h1, h2, h3, h4, h7, h12, h17, h22, h23, h24, cond_true, cond_false, Step.fin_stop, Step.fin_done, Fin.get_fin, Fin.get_done, Step.fin_next, Bool.not_true, Bool.not_false, Option.getD_some]; done) | (exfalso; simp_all; done)
                      exact congrArg (fun g : Bool => AV.one (.v (.bool g))) hg.symm
                    · refine And.intro (fun _ => .v _) ?_
                      have hg : impl_polHeadOk p0 = false := by
                        first | rfl | (simp only [impl_polHeadOk, h1, h2, h3, h4, h7, h12, h17, h22, h23, h24, cond_true, cond_false, Step.fin_stop, Step.fin_done, Fin.get_fin, Fin.get_done, Step.fin_next, Bool.not_true, Bool.not_false, Option.getD_some]; done) | (simp [impl_polHeadOk, h1, h2, h3, h4, h7, h12, h17, h22, h23, h24, cond_true, cond_false, Step.fin_stop, Step.fin_done, Fin.get_fin, Fin.get_done, Step.fin_next, Bool.not_true, Bool.not_false, Option.getD_some]; done) | (exfalso; simp_all; done)
                      exact congrArg (fun g : Bool => AV.one (.v (.bool g))) hg.symm
                  · refine And.intro (fun (h26 : (p0.Kind == 9) = true) => ?_) (fun (h26 : (p0.Kind == 9) = false) => ?_)
                    · refine And.intro (fun (h27 : (decide (p0.Text = (ByteArray.mk #[]))) = true) => ?_) (fun (h27 : (decide (p0.Text = (ByteArray.mk #[]))) = false) => ?_)
                      · refine lenE (k := (p0.L).length) (by simp) (fun hN28 => ?_)
                        refine And.intro (fun _ => .v _) ?_
                        have hg : impl_polHeadOk p0 = ((((p0.L).length : Nat) : Int) == 1) := by
                          first | rfl | (simp only [impl_polHeadOk, h1, h2, h3, h4, h7, h12, h17, h22, h23, h26, h27, cond_true, cond_false, Step.fin_stop, Step.fin_done, Fin.get_fin, Fin.get_done, Step.fin_next, Bool.not_true, Bool.not_false, Option.getD_some]; done) | (simp [impl_polHeadOk, h1, h2, h3, h4, h7, h12, h17, h22, h23, h26, h27, cond_true, cond_false, Step.fin_stop, Step.fin_done, Fin.get_fin, Fin.get_done, Step.fin_next, Bool.not_true, Bool.not_false, Option.getD_some]; done) | (exfalso; simp_all; done)
                        exact congrArg (fun g : Bool => AV.one (.v (.bool g))) hg.symm
                      · refine And.intro (fun _ => .v _) ?_
                        have hg : impl_polHeadOk p0 = false := by
                          first | rfl | (simp only [impl_polHeadOk, h1, h2, h3, h4, h7, h12, h17, h22, h23, h26, h27, cond_true, cond_false, Step.fin_stop, Step.fin_done, Fin.get_fin, Fin.get_done, Step.fin_next, Bool.not_true, Bool.not_false, Option.getD_some]; done) | (simp [impl_polHeadOk, h1, h2, h3, h4, h7, h12, h17, h22, h23, h26, h27, cond_true, cond_false, Step.fin_stop, Step.fin_done, Fin.get_fin, Fin.get_done, Step.fin_next, Bool.not_true, Bool.not_false, Option.getD_some]; done) | (exfalso; simp_all; done)
                        exact congrArg (fun g : Bool => AV.one (.v (.bool g))) hg.symm
                    · refine And.intro (fun _ => .v _) ?_
                      have hg : impl_polHeadOk p0 = false := by
                        first | rfl | (simp only [impl_polHeadOk, h1, h2, h3, h4, h7, h12, h17, h22, h23, h26, cond_true, cond_false, Step.fin_stop, Step.fin_done, Fin.get_fin, Fin.get_done, Step.fin_next, Bool.not_true, Bool.not_false, Option.getD_some]; done) | (simp [impl_polHeadOk, h1, h2, h3, h4, h7, h12, h17, h22, h23, h26, cond_true, cond_false, Step.fin_stop, Step.fin_done, Fin.get_fin, Fin.get_done, Step.fin_next, Bool.not_true, Bool.not_false, Option.getD_some]; done) | (exfalso; simp_all; done)
                      exact congrArg (fun g : Bool => AV.one (.v (.bool g))) hg.symm
                · refine And.intro (fun (h29 : (p0.Kind == 8) = true) => ?_) (fun (h29 : (p0.Kind == 8) = false) => ?_)
                  · refine And.intro (fun (h30 : (decide (p0.Text = (ByteArray.mk #[]))) = true) => ?_) (fun (h30 : (decide (p0.Text = (ByteArray.mk #[]))) = false) => ?_)
                    · refine lenE (k := (p0.L).length) (by simp) (fun hN31 => ?_)
                      refine ⟨_, _, c_impl_within (((p0.L).length : Nat) : Int) 1 4, (FzAs.same _), ?_⟩
                      refine litE (m := 2) rfl ?_
                      refine And.intro (fun _ => .v _) ?_
                      have hg : impl_polHeadOk p0 = (impl_within (((p0.L).length : Nat) : Int) 1 4) := by
                        first | rfl | (simp only [impl_polHeadOk, h1, h2, h3, h4, h7, h12, h17, h22, h29, h30, cond_true, cond_false, Step.fin_stop, Step.fin_done, Fin.get_fin, Fin.get_done, Step.fin_next, Bool.not_true, Bool.not_false, Option.getD_some]; done) | (simp [impl_polHeadOk, h1, h2, h3, h4, h7, h12, h17, h22, h29, h30, cond_true, cond_false, Step.fin_stop, Step.fin_done, Fin.get_fin, Fin.get_done, Step.fin_next, Bool.not_true, Bool.not_false, Option.getD_some]; done) | (exfalso; simp_all; done)
                      exact congrArg (fun g : Bool => AV.one (.v (.bool g))) hg.symm
                    · refine And.intro (fun _ => .v _) ?_
                      have hg : impl_polHeadOk p0 = false := by
                        first | rfl | (simp only [impl_polHeadOk, h1, h2, h3, h4, h7, h12, h17, h22, h29, h30, cond_true, cond_false, Step.fin_stop, Step.fin_done, Fin.get_fin, Fin.get_done, Step.fin_next, Bool.not_true, Bool.not_false, Option.getD_some]; done) | (simp [impl_polHeadOk, h1, h2, h3, h4, h7, h12, h17, h22, h29, h30, cond_true, cond_false, Step.fin_stop, Step.fin_done, Fin.get_fin, Fin.get_done, Step.fin_next, Bool.not_true, Bool.not_false, Option.getD_some]; done) | (exfalso; simp_all; done)
                      exact congrArg (fun g : Bool => AV.one (.v (.bool g))) hg.symm
                  · refine And.intro (fun (h32 : (p0.Kind == 9) = true) => ?_) (fun (h32 : (p0.Kind == 9) = false) => ?_)
                    · refine And.intro (fun (h33 : (decide (p0.Text = (ByteArray.mk #[]))) = true) => ?_) (fun (h33 : (decide (p0.Text = (ByteArray.mk #[]))) = false) => ?_)
                      · refine lenE (k := (p0.L).length) (by simp) (fun hN34 => ?_)
                        refine And.intro (fun _ => .v _) ?_
                        have hg : impl_polHeadOk p0 = ((((p0.L).length : Nat) : Int) == 1) := by
                          first | rfl | (simp only [impl_polHeadOk, h1, h2, h3, h4, h7, h12, h17, h22, h29, h32, h33, cond_true, cond_false, Step.fin_stop, Step.fin_done, Fin.get_fin, Fin.get_done, Step.fin_next, Bool.not_true, Bool.not_false, Option.getD_some]; done) | (simp [impl_polHeadOk, h1, h2, h3, h4, h7, h12, h17, h22, h29, h32, h33, cond_true, cond_false, Step.fin_stop, Step.fin_done, Fin.get_fin, Fin.get_done, Step.fin_next, Bool.not_true, Bool.not_false, Option.getD_some]; done) | (exfalso; simp_all; done)
                        exact congrArg (fun g : Bool => AV.one (.v (.bool g))) hg.symm
                      · refine And.intro (fun _ => .v _) ?_
                        have hg : impl_polHeadOk p0 = false := by
                          first | rfl | (simp only [impl_polHeadOk, h1, h2, h3, h4, h7, h12, h17, h22, h29, h32, h33, cond_true, cond_false, Step.fin_stop, Step.fin_done, Fin.get_fin, Fin.get_done, Step.fin_next, Bool.not_true, Bool.not_false, Option.getD_some]; done) | (simp [impl_polHeadOk, h1, h2, h3, h4, h7, h12, h17, h22, h29, h32, h33, cond_true, cond_false, Step.fin_stop, Step.fin_done, Fin.get_fin, Fin.get_done, Step.fin_next, Bool.not_true, Bool.not_false, Option.getD_some]; done) | (exfalso; simp_all; done)
                        exact congrArg (fun g : Bool => AV.one (.v (.bool g))) hg.symm
                    · refine And.intro (fun _ => .v _) ?_
                      have hg : impl_polHeadOk p0 = false := by
                        first | rfl | (simp only [impl_polHeadOk, h1, h2, h3, h4, h7, h12, h17, h22, h29, h32, cond_true, cond_false, Step.fin_stop, Step.fin_done, Fin.get_fin, Fin.get_done, Step.fin_next, Bool.not_true, Bool.not_false, Option.getD_some]; done) | (simp [impl_polHeadOk, h1, h2, h3, h4, h7, h12, h17, h22, h29, h32, cond_true, cond_false, Step.fin_stop, Step.fin_done, Fin.get_fin, Fin.get_done, Step.fin_next, Bool.not_true, Bool.not_false, Option.getD_some]; done) | (exfalso; simp_all; done)
                      exact congrArg (fun g : Bool => AV.one (.v (.bool g))) hg.symm
      · refine And.intro (fun (h35 : (p0.Kind == 2) = true) => ?_) (fun (h35 : (p0.Kind == 2) = false) => ?_)
        · refine And.intro (fun (h36 : (p0.Kind == 2) = true) => ?_) (fun (h36 : (p0.Kind == 2) = false) => ?_)
          · refine And.intro (fun (h37 : (decide (p0.Text = (ByteArray.mk #[]))) = true) => ?_) (fun (h37 : (decide (p0.Text = (ByteArray.mk #[]))) = false) => ?_)
            · refine lenE (k := (p0.L).length) (by simp) (fun hN38 => ?_)
              refine And.intro (fun _ => .v _) ?_
              have hg : impl_polHeadOk p0 = ((((p0.L).length : Nat) : Int) == 0) := by
                first | rfl | (simp only [impl_polHeadOk, h1, h2, h3, h35, h36, h37, cond_true, cond_false, Step.fin_stop, Step.fin_done, Fin.get_fin, Fin.get_done, Step.fin_next, Bool.not_true, Bool.not_false, Option.getD_some]; done) | (simp [impl_polHeadOk, h1, h2, h3, h35, h36, h37, cond_true, cond_false, Step.fin_stop, Step.fin_done, Fin.get_fin, Fin.get_done, Step.fin_next, Bool.not_true, Bool.not_false, Option.getD_some]; done) | (exfalso; simp_all; done)
              exact congrArg (fun g : Bool => AV.one (.v (.bool g))) hg.symm
            · refine And.intro (fun _ => .v _) ?_
              have hg : impl_polHeadOk p0 = false := by
                first | rfl | (simp only [impl_polHeadOk, h1, h2, h3, h35, h36, h37, cond_true, cond_false, Step.fin_stop, Step.fin_done, Fin.get_fin, Fin.get_done, Step.fin_next, Bool.not_true, Bool.not_false, Option.getD_some]; done) | (simp [impl_polHeadOk, h1, h2, h3, h35, h36, h37, cond_true, cond_false, Step.fin_stop, Step.fin_done, Fin.get_fin, Fin.get_done, Step.fin_next, Bool.not_true, Bool.not_false, Option.getD_some]; done) | (exfalso; simp_all; done)
              exact congrArg (fun g : Bool => AV.one (.v (.bool g))) hg.symm
          · refine And.intro (fun (h39 : (p0.Kind == 3) = true) => ?_) (fun (h39 : (p0.Kind == 3) = false) => ?_)
            · refine ⟨_, _, c_impl_within p0.N 0 2147483647, (FzAs.same _), ?_⟩
              refine litE (m := 2) rfl ?_
              refine And.intro (fun (h40 : (impl_within p0.N 0 2147483647) = true) => ?_) (fun (h40 : (impl_within p0.N 0 2147483647) = false) => ?_)
              · refine And.intro (fun (h41 : (decide (p0.Key = (ByteArray.mk #[]))) = true) => ?_) (fun (h41 : (decide (p0.Key = (ByteArray.mk #[]))) = false) => ?_)
                · refine And.intro (fun (h42 : (decide (p0.Text = (ByteArray.mk #[]))) = true) => ?_) (fun (h42 : (decide (p0.Text = (ByteArray.mk #[]))) = false) => ?_)
                  · refine lenE (k := (p0.L).length) (by simp) (fun hN43 => ?_)
                    refine And.intro (fun _ => .v _) ?_
                    have hg : impl_polHeadOk p0 = ((((p0.L).length : Nat) : Int) == 0) := by
                      first | rfl | (simp only [impl_polHeadOk, h1, h2, h3, h35, h36, h39, h40, h41, h42, cond_true, cond_false, Step.fin_stop, Step.fin_done, Fin.get_fin, Fin.get_done, Step.fin_next, Bool.not_true, Bool.not_false, Option.getD_some]; done) | (simp [impl_polHeadOk, h1, h2, h3, h35, h36, h39, h40, h41, h42, cond_true, cond_false, Step.fin_stop, Step.fin_done, Fin.get_fin, Fin.get_done, Step.fin_next, Bool.not_true, Bool.not_false, Option.getD_some]; done) | (exfalso; simp_all; done)
                    exact congrArg (fun g : Bool => AV.one (.v (.bool g))) hg.symm
                  · refine And.intro (fun _ => .v _) ?_
                    have hg : impl_polHeadOk p0 = false := by
                      first | rfl | (simp only [impl_polHeadOk, h1, h2, h3, h35, h36, h39, h40, h41, h42, cond_true, cond_false, Step.fin_stop, Step.fin_done, Fin.get_fin, Fin.get_done, Step.fin_next, Bool.not_true, Bool.not_false, Option.getD_some]; done) | (simp [impl_polHeadOk, h1, h2, h3, h35, h36, h39, h40, h41, h42, cond_true, cond_false, Step.fin_stop, Step.fin_done, Fin.get_fin, Fin.get_done, Step.fin_next, Bool.not_true, Bool.not_false, Option.getD_some]; done) | (exfalso; simp_all; done)
                    exact congrArg (fun g : Bool => AV.one (.v (.bool g))) hg.symm
                · refine And.intro (fun _ => .v _) ?_
                  have hg : impl_polHeadOk p0 = false := by
                    first | rfl | (simp only [impl_polHeadOk, h1, h2, h3, h35, h36, h39, h40, h41, cond_true, cond_false, Step.fin_stop, Step.fin_done, Fin.get_fin, Fin.get_done, Step.fin_next, Bool.not_true, Bool.not_false, Option.getD_some]; done) | (simp [impl_polHeadOk, h1, h2, h3, h35, h36, h39, h40, h41, cond_true, cond_false, Step.fin_stop, Step.fin_done, Fin.get_fin, Fin.get_done, Step.fin_next, Bool.not_true, Bool.not_false, Option.getD_some]; done) | (exfalso; simp_all; done)
                  exact congrArg (fun g : Bool => AV.one (.v (.bool g))) hg.symm
              · refine And.intro (fun _ => .v _) ?_
                have hg : impl_polHeadOk p0 = false := by
                  first | rfl | (simp only [impl_polHeadOk, h1, h2, h3, h35, h36, h39, h40, cond_true, cond_false, Step.fin_stop, Step.fin_done, Fin.get_fin, Fin.get_done, Step.fin_next, Bool.not_true, Bool.not_false, Option.getD_some]; done) | (simp [impl_polHeadOk, h1, h2, h3, h35, h36, h39, h40, cond_true, cond_false, Step.fin_stop, Step.fin_done, Fin.get_fin, Fin.get_done, Step.fin_next, Bool.not_true, Bool.not_false, Option.getD_some]; done) | (exfalso; simp_all; done)
                exact congrArg (fun g : Bool => AV.one (.v (.bool g))) hg.symm
            · refine And.intro (fun (h44 : (p0.Kind == 4) = true) => ?_) (fun (h44 : (p0.Kind == 4) = false) => ?_)
              · refine And.intro (fun (h45 : (p0.N == 0) = true) => ?_) (fun (h45 : (p0.N == 0) = false) => ?_)
                · refine ⟨_, _, c_impl_NameOk p0.Key, (FzAs.same _), ?_⟩
                  refine litE (m := 2) rfl ?_
                  refine And.intro (fun (h46 : (impl_NameOk p0.Key) = true) => ?_) (fun (h46 : (impl_NameOk p0.Key) = false) => ?_)
                  · refine ⟨_, _, c_impl_PlainOk p0.Text, (FzAs.same _), ?_⟩
                    refine litE (m := 3) rfl ?_
                    refine And.intro (fun (h47 : (impl_PlainOk p0.Text) = true) => ?_) (fun (h47 : (impl_PlainOk p0.Text) = false) => ?_)
                    · refine lenE (k := (p0.L).length) (by simp) (fun hN48 => ?_)
                      refine And.intro (fun _ => .v _) ?_
                      have hg : impl_polHeadOk p0 = ((((p0.L).length : Nat) : Int) == 0) := by
                        first | rfl | (simp only [impl_polHeadOk, h1, h2, h3, h35, h36, h39, h44, h45, h46, h47, cond_true, cond_false, Step.fin_stop, Step.fin_done, Fin.get_fin, Fin.get_done, Step.fin_next, Bool.not_true, Bool.not_false, Option.getD_some]; done) | (simp [impl_polHeadOk, h1, h2, h3, h35, h36, h39, h44, h45, h46, h47, cond_true, cond_false, Step.fin_stop, Step.fin_done, Fin.get_fin, Fin.get_done, Step.fin_next, Bool.not_true, Bool.not_false, Option.getD_some]; done) | (exfalso; simp_all; done)
                      exact congrArg (fun g : Bool => AV.one (.v (.bool g))) hg.symm
                    · refine And.intro (fun _ => .v _) ?_
                      have hg : impl_polHeadOk p0 = false := by
                        first | rfl | (simp only [impl_polHeadOk, h1, h2, h3, h35, h36, h39, h44, h45, h46, h47, cond_true, cond_false, Step.fin_stop, Step.fin_done, Fin.get_fin, Fin.get_done, Step.fin_next, Bool.not_true, Bool.not_false, Option.getD_some]; done) | (simp [impl_polHeadOk, h1, h2, h3, h35, h36, h39, h44, h45, h46, h47, cond_true, cond_false, Step.fin_stop, Step.fin_done, Fin.get_fin, Fin.get_done, Step.fin_next, Bool.not_true, Bool.not_false, Option.getD_some]; done) | (exfalso; simp_all; done)
                      exact congrArg (fun g : Bool => AV.one (.v (.bool g))) hg.symm
                  · refine And.intro (fun _ => .v _) ?_
                    have hg : impl_polHeadOk p0 = false := by
                      first | rfl | (simp only [impl_polHeadOk, h1, h2, h3, h35, h36, h39, h44, h45, h46, cond_true, cond_false, Step.fin_stop, Step.fin_done, Fin.get_fin, Fin.get_done, Step.fin_next, Bool.not_true, Bool.not_false, Option.getD_some]; done) | (simp [impl_polHeadOk, h1, h2, h3, h35, h36, h39, h44, h45, h46, cond_true, cond_false, Step.fin_stop, Step.fin_done, Fin.get_fin, Fin.get_done, Step.fin_next, Bool.not_true, Bool.not_false, Option.getD_some]; done) | (exfalso; simp_all; done)
                    exact congrArg (fun g : Bool => AV.one (.v (.bool g))) hg.symm
                · refine And.intro (fun _ => .v _) ?_
                  have hg : impl_polHeadOk p0 = false := by
                    first | rfl | (simp only [impl_polHeadOk, h1, h2, h3, h35, h36, h39, h44, h45, cond_true, cond_false, Step.fin_stop, Step.fin_done, Fin.get_fin, Fin.get_done, Step.fin_next, Bool.not_true, Bool.not_false, Option.getD_some]; done) | (simp [impl_polHeadOk, h1, h2, h3, h35, h36, h39, h44, h45, cond_true, cond_false, Step.fin_stop, Step.fin_done, Fin.get_fin, Fin.get_done, Step.fin_next, Bool.not_true, Bool.not_false, Option.getD_some]; done) | (exfalso; simp_all; done)
                  exact congrArg (fun g : Bool => AV.one (.v (.bool g))) hg.symm
              · refine And.intro (fun (h49 : (p0.Kind == 5) = true) => ?_) (fun (h49 : (p0.Kind == 5) = false) => ?_)
                · refine ⟨_, _, c_impl_within p0.N 0 2147483647, (FzAs.same _), ?_⟩
                  refine litE (m := 2) rfl ?_
                  refine And.intro (fun (h50 : (impl_within p0.N 0 2147483647) = true) => ?_) (fun (h50 : (impl_within p0.N 0 2147483647) = false) => ?_)
                  · refine ⟨_, _, c_impl_NameOk p0.Key, (FzAs.same _), ?_⟩
                    refine litE (m := 3) rfl ?_
                    refine And.intro (fun (h51 : (impl_NameOk p0.Key) = true) => ?_) (fun (h51 : (impl_NameOk p0.Key) = false) => ?_)
                    · refine And.intro (fun (h52 : (decide (p0.Text = (ByteArray.mk #[]))) = true) => ?_) (fun (h52 : (decide (p0.Text = (ByteArray.mk #[]))) = false) => ?_)
                      · refine lenE (k := (p0.L).length) (by simp) (fun hN53 => ?_)
                        refine And.intro (fun _ => .v _) ?_
                        have hg : impl_polHeadOk p0 = ((((p0.L).length : Nat) : Int) == 0) := by
                          first | rfl | (simp only [impl_polHeadOk, h1, h2, h3, h35, h36, h39, h44, h49, h50, h51, h52, cond_true, cond_false, Step.fin_stop, Step.fin_done, Fin.get_fin, Fin.get_done, Step.fin_next, Bool.not_true, Bool.not_false, Option.getD_some]; done) | (simp [impl_polHeadOk, h1, h2, h3, h35, h36, h39, h44, h49, h50, h51, h52, cond_true, cond_false, Step.fin_stop, Step.fin_done, Fin.get_fin, Fin.get_done, Step.fin_next, Bool.not_true, Bool.not_false, Option.getD_some]; done) | (exfalso; simp_all; done)
                        exact congrArg (fun g : Bool => AV.one (.v (.bool g))) hg.symm
                      · refine And.intro (fun _ => .v _) ?_
                        have hg : impl_polHeadOk p0 = false := by
                          first | rfl | (simp only [impl_polHeadOk, h1, h2, h3, h35, h36, h39, h44, h49, h50, h51, h52, cond_true, cond_false, Step.fin_stop, Step.fin_done, Fin.get_fin, Fin.get_done, Step.fin_next, Bool.not_true, Bool.not_false, Option.getD_some]; done) | (simp [impl_polHeadOk, h1, h2, h3, h35, h36, h39, h44, h49, h50, h51, h52, cond_true, cond_false, Step.fin_stop, Step.fin_done, Fin.get_fin, Fin.get_done, Step.fin_next, Bool.not_true, Bool.not_false, Option.getD_some]; done) | (exfalso; simp_all; done)
                        exact congrArg (fun g : Bool => AV.one (.v (.bool g))) hg.symm
                    · refine And.intro (fun _ => .v _) ?_
                      have hg : impl_polHeadOk p0 = false := by
                        first | rfl | (simp only [impl_polHeadOk, h1, h2, h3, h35, h36, h39, h44, h49, h50, h51, cond_true, cond_false, Step.fin_stop, Step.fin_done, Fin.get_fin, Fin.get_done, Step.fin_next, Bool.not_true, Bool.not_false, Option.getD_some]; done) | (simp [impl_polHeadOk, h1, h2, h3, h35, h36, h39, h44, h49, h50, h51, cond_true, cond_false, Step.fin_stop, Step.fin_done, Fin.get_fin, Fin.get_done, Step.fin_next, Bool.not_true, Bool.not_false, Option.getD_some]; done) | (exfalso; simp_all; done)
                      exact congrArg (fun g : Bool => AV.one (.v (.bool g))) hg.symm
                  · refine And.intro (fun _ => .v _) ?_
                    have hg : impl_polHeadOk p0 = false := by
                      first | rfl | (simp only [impl_polHeadOk, h1, h2, h3, h35, h36, h39, h44, h49, h50, cond_true, cond_false, Step.fin_stop, Step.fin_done, Fin.get_fin, Fin.get_done, Step.fin_next, Bool.not_true, Bool.not_false, Option.getD_some]; done) | (simp [impl_polHeadOk, h1, h2, h3, h35, h36, h39, h44, h49, h50, cond_true, cond_false, Step.fin_stop, Step.fin_done, Fin.get_fin, Fin.get_done, Step.fin_next, Bool.not_true, Bool.not_false, Option.getD_some]; done) | (exfalso; simp_all; done)
                    exact congrArg (fun g : Bool => AV.one (.v (.bool g))) hg.symm
                · refine And.intro (fun (h54 : (p0.Kind == 7) = true) => ?_) (fun (h54 : (p0.Kind == 7) = false) => ?_)
                  · refine And.intro (fun (h55 : (p0.Kind == 7) = true) => ?_) (fun (h55 : (p0.Kind == 7) = false) => ?_)
                    · refine And.intro (fun (h56 : (decide (p0.Text = (ByteArray.mk #[]))) = true) => ?_) (fun (h56 : (decide (p0.Text = (ByteArray.mk #[]))) = false) => ?_)
                      · refine lenE (k := (p0.L).length) (by simp) (fun hN57 => ?_)
                        refine ⟨_, _, c_impl_within (((p0.L).length : Nat) : Int) 1 4, (FzAs.same _), ?_⟩
                        refine litE (m := 2) rfl ?_
                        refine And.intro (fun _ => .v _) ?_
                        have hg : impl_polHeadOk p0 = (impl_within (((p0.L).length : Nat) : Int) 1 4) := by
                          first | rfl | (simp only [impl_polHeadOk, h1, h2, h3, h35, h36, h39, h44, h49, h54, h55, h56, cond_true, cond_false, Step.fin_stop, Step.fin_done, Fin.get_fin, Fin.get_done, Step.fin_next, Bool.not_true, Bool.not_false, Option.getD_some]; done) | (simp [impl_polHeadOk, h1, h2, h3, h35, h36, h39, h44, h49, h54, h55, h56, cond_true, cond_false, Step.fin_stop, Step.fin_done, Fin.get_fin, Fin.get_done, Step.fin_next, Bool.not_true, Bool.not_false, Option.getD_some]; done) | (exfalso; simp_all; done)
                        exact congrArg (fun g : Bool => AV.one (.v (.bool g))) hg.symm
                      · refine And.intro (fun _ => .v _) ?_
                        have hg : impl_polHeadOk p0 = false := by
                          first | rfl | (simp only [impl_polHeadOk, h1, h2, h3, h35, h36, h39, h44, h49, h54, h55, h56, cond_true, cond_false, Step.fin_stop, Step.fin_done, Fin.get_fin, Fin.get_done, Step.fin_next, Bool.not_true, Bool.not_false, Option.getD_some]; done) | (simp [impl_polHeadOk, h1, h2, h3, h35, h36, h39, h44, h49, h54, h55, h56, cond_true, cond_false, Step.fin_stop, Step.fin_done, Fin.get_fin, Fin.get_done, Step.fin_next, Bool.not_true, Bool.not_false, Option.getD_some]; done) | (exfalso; simp_all; done)
                        exact congrArg (fun g : Bool => AV.one (.v (.bool g))) hg.symm
                    · refine And.intro (fun (h58 : (p0.Kind == 9) = true) => ?_) (fun (h58 : (p0.Kind == 9) = false) => ?_)
                      · refine And.intro (fun (h59 : (decide (p0.Text = (ByteArray.mk #[]))) = true) => ?_) (fun (h59 : (decide (p0.Text = (ByteArray.mk #[]))) = false) => ?_)
                        · refine lenE (k := (p0.L).length) (by simp) (fun hN60 => ?_)
                          refine And.intro (fun _ => .v _) ?_
                          have hg : impl_polHeadOk p0 = ((((p0.L).length : Nat) : Int) == 1) := by
                            first | rfl | (simp only [impl_polHeadOk, h1, h2, h3, h35, h36, h39, h44, h49, h54, h55, h58, h59, cond_true, cond_false, Step.fin_stop, Step.fin_done, Fin.get_fin, Fin.get_done, Step.fin_next, Bool.not_true, Bool.not_false, Option.getD_some]; done) | (simp [impl_polHeadOk, h1, h2, h3, h35, h36, h39, h44, h49, h54, h55, h58, h59, cond_true, cond_false, Step.fin_stop, Step.fin_done, Fin.get_fin, Fin.get_done, Step.fin_next, Bool.not_true, Bool.not_false, Option.getD_some]; done) | (exfalso; simp_all; done)
                          exact congrArg (fun g : Bool => AV.one (.v (.bool g))) hg.symm
                        · refine And.intro (fun _ => .v _) ?_
                          have hg : impl_polHeadOk p0 = false := by
                            first | rfl | (simp only [impl_polHeadOk, h1, h2, h3, h35, h36, h39, h44, h49, h54, h55, h58, h59, cond_true, cond_false, Step.fin_stop, Step.fin_done, Fin.get_fin, Fin.get_done, Step.fin_next, Bool.not_true, Bool.not_false, Option.getD_some]; done) | (simp [impl_polHeadOk, h1, h2, h3, h35, h36, h39, h44, h49, h54, h55, h58, h59, cond_true, cond_false, Step.fin_stop, Step.fin_done, Fin.get_fin, Fin.get_done, Step.fin_next, Bool.not_true, Bool.not_false, Option.getD_some]; done) | (exfalso; simp_all; done)
                          exact congrArg (fun g : Bool => AV.one (.v (.bool g))) hg.symm
                      · refine And.intro (fun _ => .v _) ?_
                        have hg : impl_polHeadOk p0 = false := by
                          first | rfl | (simp only [impl_polHeadOk, h1, h2, h3, h35, h36, h39, h44, h49, h54, h55, h58, cond_true, cond_false, Step.fin_stop, Step.fin_done, Fin.get_fin, Fin.get_done, Step.fin_next, Bool.not_true, Bool.not_false, Option.getD_some]; done) | (simp [impl_polHeadOk, h1, h2, h3, h35, h36, h39, h44, h49, h54, h55, h58, cond_true, cond_false, Step.fin_stop, Step.fin_done, Fin.get_fin, Fin.get_done, Step.fin_next, Bool.not_true, Bool.not_false, Option.getD_some]; done) | (exfalso; simp_all; done)
                        exact congrArg (fun g : Bool => AV.one (.v (.bool g))) hg.symm
                  · refine And.intro (fun (h61 : (p0.Kind == 8) = true) => ?_) (fun (h61 : (p0.Kind == 8) = false) => ?_)
                    · refine And.intro (fun (h62 : (decide (p0.Text = (ByteArray.mk #[]))) = true) => ?_) (fun (h62 : (decide (p0.Text = (ByteArray.mk #[]))) = false) => ?_)
                      · refine lenE (k := (p0.L).length) (by simp) (fun hN63 => ?_)
                        refine ⟨_, _, c_impl_within (((p0.L).length : Nat) : Int) 1 4, (FzAs.same _), ?_⟩
                        refine litE (m := 2) rfl ?_
                        refine And.intro (fun _ => .v _) ?_
                        have hg : impl_polHeadOk p0 = (impl_within (((p0.L).length : Nat) : Int) 1 4) := by
                          first | rfl | (simp only [impl_polHeadOk, h1, h2, h3, h35, h36, h39, h44, h49, h54, h61, h62, cond_true, cond_false, Step.fin_stop, Step.fin_done, Fin.get_fin, Fin.get_done, Step.fin_next, Bool.not_true, Bool.not_false, Option.getD_some]; done) | (simp [impl_polHeadOk, h1, h2, h3, h35, h36, h39, h44, h49, h54, h61, h62, cond_true, cond_false, Step.fin_stop, Step.fin_done, Fin.get_fin, Fin.get_done, Step.fin_next, Bool.not_true, Bool.not_false, Option.getD_some]; done) | (exfalso; simp_all; done)
                        exact congrArg (fun g : Bool => AV.one (.v (.bool g))) hg.symm
                      · refine And.intro (fun _ => .v _) ?_
                        have hg : impl_polHeadOk p0 = false := by
                          first | rfl | (simp only [impl_polHeadOk, h1, h2, h3, h35, h36, h39, h44, h49, h54, h61, h62, cond_true, cond_false, Step.fin_stop, Step.fin_done, Fin.get_fin, Fin.get_done, Step.fin_next, Bool.not_true, Bool.not_false, Option.getD_some]; done) | (simp [impl_polHeadOk, h1, h2, h3, h35, h36, h39, h44, h49, h54, h61, h62, cond_true, cond_false, Step.fin_stop, Step.fin_done, Fin.get_fin, Fin.get_done, Step.fin_next, Bool.not_true, Bool.not_false, Option.getD_some]; done) | (exfalso; simp_all; done)
                        exact congrArg (fun g : Bool => AV.one (.v (.bool g))) hg.symm
                    · refine And.intro (fun (h64 : (p0.Kind == 9) = true) => ?_) (fun (h64 : (p0.Kind == 9) = false) => ?_)
                      · refine And.intro (fun (h65 : (decide (p0.Text = (ByteArray.mk #[]))) = true) => ?_) (fun (h65 : (decide (p0.Text = (ByteArray.mk #[]))) = false) => ?_)
                        · refine lenE (k := (p0.L).length) (by simp) (fun hN66 => ?_)
                          refine And.intro (fun _ => .v _) ?_
                          have hg : impl_polHeadOk p0 = ((((p0.L).length : Nat) : Int) == 1) := by
                            first | rfl | (simp only [impl_polHeadOk, h1, h2, h3, h35, h36, h39, h44, h49, h54, h61, h64, h65, cond_true, cond_false, Step.fin_stop, Step.fin_done, Fin.get_fin, Fin.get_done, Step.fin_next, Bool.not_true, Bool.not_false, Option.getD_some]; done) | (simp [impl_polHeadOk, h1, h2, h3, h35, h36, h39, h44, h49, h54, h61, h64, h65, cond_true, cond_false, Step.fin_stop, Step.fin_done, Fin.get_fin, Fin.get_done, Step.fin_next, Bool.not_true, Bool.not_false, Option.getD_some]; done) | (exfalso; simp_all; done)
                          exact congrArg (fun g : Bool => AV.one (.v (.bool g))) hg.symm
                        · refine And.intro (fun _ => .v _) ?_
                          have hg : impl_polHeadOk p0 = false := by
                            first | rfl | (simp only [impl_polHeadOk, h1, h2, h3, h35, h36, h39, h44, h49, h54, h61, h64, h65, cond_true, cond_false, Step.fin_stop, Step.fin_done, Fin.get_fin, Fin.get_done, Step.fin_next, Bool.not_true, Bool.not_false, Option.getD_some]; done) | (simp [impl_polHeadOk, h1, h2, h3, h35, h36, h39, h44, h49, h54, h61, h64, h65, cond_true, cond_false, Step.fin_stop, Step.fin_done, Fin.get_fin, Fin.get_done, Step.fin_next, Bool.not_true, Bool.not_false, Option.getD_some]; done) | (exfalso; simp_all; done)
                          exact congrArg (fun g : Bool => AV.one (.v (.bool g))) hg.symm
                      · refine And.intro (fun _ => .v _) ?_
                        have hg : impl_polHeadOk p0 = false := by
                          first | rfl | (simp only [impl_polHeadOk, h1, h2, h3, h35, h36, h39, h44, h49, h54, h61, h64, cond_true, cond_false, Step.fin_stop, Step.fin_done, Fin.get_fin, Fin.get_done, Step.fin_next, Bool.not_true, Bool.not_false, Option.getD_some]; done) | (simp [impl_polHeadOk, h1, h2, h3, h35, h36, h39, h44, h49, h54, h61, h64, cond_true, cond_false, Step.fin_stop, Step.fin_done, Fin.get_fin, Fin.get_done, Step.fin_next, Bool.not_true, Bool.not_false, Option.getD_some]; done) | (exfalso; simp_all; done)
                        exact congrArg (fun g : Bool => AV.one (.v (.bool g))) hg.symm
        · refine And.intro (fun (h67 : (p0.Kind == 6) = true) => ?_) (fun (h67 : (p0.Kind == 6) = false) => ?_)
          · refine And.intro (fun (h68 : (decide (p0.Text = (ByteArray.mk #[]))) = true) => ?_) (fun (h68 : (decide (p0.Text = (ByteArray.mk #[]))) = false) => ?_)
            · refine lenE (k := (p0.L).length) (by simp) (fun hN69 => ?_)
              refine And.intro (fun _ => .v _) ?_
              have hg : impl_polHeadOk p0 = ((((p0.L).length : Nat) : Int) == 0) := by
                first | rfl | (simp only [impl_polHeadOk, h1, h2, h3, h35, h67, h68, cond_true, cond_false, Step.fin_stop, Step.fin_done, Fin.get_fin, Fin.get_done, Step.fin_next, Bool.not_true, Bool.not_false, Option.getD_some]; done) | (simp [impl_polHeadOk, h1, h2, h3, h35, h67, h68, cond_true, cond_false, Step.fin_stop, Step.fin_done, Fin.get_fin, Fin.get_done, Step.fin_next, Bool.not_true, Bool.not_false, Option.getD_some]; done) | (exfalso; simp_all; done)
              exact congrArg (fun g : Bool => AV.one (.v (.bool g))) hg.symm
            · refine And.intro (fun _ => .v _) ?_
              have hg : impl_polHeadOk p0 = false := by
                first | rfl | (simp only [impl_polHeadOk, h1, h2, h3, h35, h67, h68, cond_true, cond_false, Step.fin_stop, Step.fin_done, Fin.get_fin, Fin.get_done, Step.fin_next, Bool.not_true, Bool.not_false, Option.getD_some]; done) | (simp [impl_polHeadOk, h1, h2, h3, h35, h67, h68, cond_true, cond_false, Step.fin_stop, Step.fin_done, Fin.get_fin, Fin.get_done, Step.fin_next, Bool.not_true, Bool.not_false, Option.getD_some]; done) | (exfalso; simp_all; done)
              exact congrArg (fun g : Bool => AV.one (.v (.bool g))) hg.symm
          · refine And.intro (fun (h70 : (p0.Kind == 3) = true) => ?_) (fun (h70 : (p0.Kind == 3) = false) => ?_)
            · refine ⟨_, _, c_impl_within p0.N 0 2147483647, (FzAs.same _), ?_⟩
              refine litE (m := 2) rfl ?_
              refine And.intro (fun (h71 : (impl_within p0.N 0 2147483647) = true) => ?_) (fun (h71 : (impl_within p0.N 0 2147483647) = false) => ?_)
              · refine And.intro (fun (h72 : (decide (p0.Key = (ByteArray.mk #[]))) = true) => ?_) (fun (h72 : (decide (p0.Key = (ByteArray.mk #[]))) = false) => ?_)
                · refine And.intro (fun (h73 : (decide (p0.Text = (ByteArray.mk #[]))) = true) => ?_) (fun (h73 : (decide (p0.Text = (ByteArray.mk #[]))) = false) => ?_)
                  · refine lenE (k := (p0.L).length) (by simp) (fun hN74 => ?_)
                    refine And.intro (fun _ => .v _) ?_
                    have hg : impl_polHeadOk p0 = ((((p0.L).length : Nat) : Int) == 0) := by
                      first | rfl | (simp only [impl_polHeadOk, h1, h2, h3, h35, h67, h70, h71, h72, h73, cond_true, cond_false, Step.fin_stop, Step.fin_done, Fin.get_fin, Fin.get_done, Step.fin_next, Bool.not_true, Bool.not_false, Option.getD_some]; done) | (simp [impl_polHeadOk, h1, h2, h3, h35, h67, h70, h71, h72, h73, cond_true, cond_false, Step.fin_stop, Step.fin_done, Fin.get_fin, Fin.get_done, Step.fin_next, Bool.not_true, Bool.not_false, Option.getD_some]; done) | (exfalso; simp_all; done)
                    exact congrArg (fun g : Bool => AV.one (.v (.bool g))) hg.symm
                  · refine And.intro (fun _ => .v _) ?_
                    have hg : impl_polHeadOk p0 = false := by
                      first | rfl | (simp only [impl_polHeadOk, h1, h2, h3, h35, h67, h70, h71, h72, h73, cond_true, cond_false, Step.fin_stop, Step.fin_done, Fin.get_fin, Fin.get_done, Step.fin_next, Bool.not_true, Bool.not_false, Option.getD_some]; done) | (simp [impl_polHeadOk, h1, h2, h3, h35, h67, h70, h71, h72, h73, cond_true, cond_false, Step.fin_stop, Step.fin_done, Fin.get_fin, Fin.get_done, Step.fin_next, Bool.not_true, Bool.not_false, Option.getD_some]; done) | (exfalso; simp_all; done)
                    exact congrArg (fun g : Bool => AV.one (.v (.bool g))) hg.symm
                · refine And.intro (fun _ => .v _) ?_
                  have hg : impl_polHeadOk p0 = false := by
                    first | rfl | (simp only [impl_polHeadOk, h1, h2, h3, h35, h67, h70, h71, h72, cond_true, cond_false, Step.fin_stop, Step.fin_done, Fin.get_fin, Fin.get_done, Step.fin_next, Bool.not_true, Bool.not_false, Option.getD_some]; done) | (simp [impl_polHeadOk, h1, h2, h3, h35, h67, h70, h71, h72, cond_true, cond_false, Step.fin_stop, Step.fin_done, Fin.get_fin, Fin.get_done, Step.fin_next, Bool.not_true, Bool.not_false, Option.getD_some]; done) | (exfalso; simp_all; done)
                  exact congrArg (fun g : Bool => AV.one (.v (.bool g))) hg.symm
              · refine And.intro (fun _ => .v _) ?_
                have hg : impl_polHeadOk p0 = false := by
                  first | rfl | (simp only [impl_polHeadOk, h1, h2, h3, h35, h67, h70, h71, cond_true, cond_false, Step.fin_stop, Step.fin_done, Fin.get_fin, Fin.get_done, Step.fin_next, Bool.not_true, Bool.not_false, Option.getD_some]; done) | (simp [impl_polHeadOk, h1, h2, h3, h35, h67, h70, h71, cond_true, cond_false, Step.fin_stop, Step.fin_done, Fin.get_fin, Fin.get_done, Step.fin_next, Bool.not_true, Bool.not_false, Option.getD_some]; done) | (exfalso; simp_all; done)
                exact congrArg (fun g : Bool => AV.one (.v (.bool g))) hg.symm
            · refine And.intro (fun (h75 : (p0.Kind == 4) = true) => ?_) (fun (h75 : (p0.Kind == 4) = false) => ?_)
              · refine And.intro (fun (h76 : (p0.N == 0) = true) => ?_) (fun (h76 : (p0.N == 0) = false) => ?_)
                · refine ⟨_, _, c_impl_NameOk p0.Key, (FzAs.same _), ?_⟩
                  refine litE (m := 2) rfl ?_
                  refine And.intro (fun (h77 : (impl_NameOk p0.Key) = true) => ?_) (fun (h77 : (impl_NameOk p0.Key) = false) => ?_)
                  · refine ⟨_, _, c_impl_PlainOk p0.Text, (FzAs.same _), ?_⟩
                    refine litE (m := 3) rfl ?_
                    refine And.intro (fun (h78 : (impl_PlainOk p0.Text) = true) => ?_) (fun (h78 : (impl_PlainOk p0.Text) = false) => ?_)
                    · refine lenE (k := (p0.L).length) (by simp) (fun hN79 => ?_)
                      refine And.intro (fun _ => .v _) ?_
                      have hg : impl_polHeadOk p0 = ((((p0.L).length : Nat) : Int) == 0) := by
                        first | rfl | (simp only [impl_polHeadOk, h1, h2, h3, h35, h67, h70, h75, h76, h77, h78, cond_true, cond_false, Step.fin_stop, Step.fin_done, Fin.get_fin, Fin.get_done, Step.fin_next, Bool.not_true, Bool.not_false, Option.getD_some]; done) | (simp [impl_polHeadOk, h1, h2, h3, h35, h67, h70, h75, h76, h77, h78, cond_true, cond_false, Step.fin_stop, Step.fin_done, Fin.get_fin, Fin.get_done, Step.fin_next, Bool.not_true, Bool.not_false, Option.getD_some]; done) | (exfalso; simp_all; done)
                      exact congrArg (fun g : Bool => AV.one (.v (.bool g))) hg.symm
                    · refine And.intro (fun _ => .v _) ?_
                      have hg : impl_polHeadOk p0 = false := by
                        first | rfl | (simp only [impl_polHeadOk, h1, h2, h3, h35, h67, h70, h75, h76, h77, h78, cond_true, cond_false, Step.fin_stop, Step.fin_done, Fin.get_fin, Fin.get_done, Step.fin_next, Bool.not_true, Bool.not_false, Option.getD_some]; done) | (simp [impl_polHeadOk, h1, h2, h3, h35, h67, h70, h75, h76, h77, h78, cond_true, cond_false, Step.fin_stop, Step.fin_done, Fin.get_fin, Fin.get_done, Step.fin_next, Bool.not_true, Bool.not_false, Option.getD_some]; done) | (exfalso; simp_all; done)
                      exact congrArg (fun g : Bool => AV.one (.v (.bool g))) hg.symm
                  · refine And.intro (fun _ => .v _) ?_
                    have hg : impl_polHeadOk p0 = false := by
                      first | rfl | (simp only [impl_polHeadOk, h1, h2, h3, h35, h67, h70, h75, h76, h77, cond_true, cond_false, Step.fin_stop, Step.fin_done, Fin.get_fin, Fin.get_done, Step.fin_next, Bool.not_true, Bool.not_false, Option.getD_some]; done) | (simp [impl_polHeadOk, h1, h2, h3, h35, h67, h70, h75, h76, h77, cond_true, cond_false, Step.fin_stop, Step.fin_done, Fin.get_fin, Fin.get_done, Step.fin_next, Bool.not_true, Bool.not_false, Option.getD_some]; done) | (exfalso; simp_all; done)
                    exact congrArg (fun g : Bool => AV.one (.v (.bool g))) hg.symm
                · refine And.intro (fun _ => .v _) ?_
                  have hg : impl_polHeadOk p0 = false := by
                    first | rfl | (simp only [impl_polHeadOk, h1, h2, h3, h35, h67, h70, h75, h76, cond_true, cond_false, Step.fin_stop, Step.fin_done, Fin.get_fin, Fin.get_done, Step.fin_next, Bool.not_true, Bool.not_false, Option.getD_some]; done) | (simp [impl_polHeadOk, h1, h2, h3, h35, h67, h70, h75, h76, cond_true, cond_false, Step.fin_stop, Step.fin_done, Fin.get_fin, Fin.get_done, Step.fin_next, Bool.not_true, Bool.not_false, Option.getD_some]; done) | (exfalso; simp_all; done)
                  exact congrArg (fun g : Bool => AV.one (.v (.bool g))) hg.symm
              · refine And.intro (fun (h80 : (p0.Kind == 5) = true) => ?_) (fun (h80 : (p0.Kind == 5) = false) => ?_)
                · refine ⟨_, _, c_impl_within p0.N 0 2147483647, (FzAs.same _), ?_⟩
                  refine litE (m := 2) rfl ?_
                  refine And.intro (fun (h81 : (impl_within p0.N 0 2147483647) = true) => ?_) (fun (h81 : (impl_within p0.N 0 2147483647) = false) => ?_)
                  · refine ⟨_, _, c_impl_NameOk p0.Key, (FzAs.same _), ?_⟩
                    refine litE (m := 3) rfl ?_
                    refine And.intro (fun (h82 : (impl_NameOk p0.Key) = true) => ?_) (fun (h82 : (impl_NameOk p0.Key) = false) => ?_)
                    · refine And.intro (fun (h83 : (decide (p0.Text = (ByteArray.mk #[]))) = true) => ?_) (fun (h83 : (decide (p0.Text = (ByteArray.mk #[]))) = false) => ?_)
                      · refine lenE (k := (p0.L).length) (by simp) (fun hN84 => ?_)
                        refine And.intro (fun _ => .v _) ?_
                        have hg : impl_polHeadOk p0 = ((((p0.L).length : Nat) : Int) == 0) := by
                          first | rfl | (simp only [impl_polHeadOk, h1, h2, h3, h35, h67, h70, h75, h80, h81, h82, h83, cond_true, cond_false, Step.fin_stop, Step.fin_done, Fin.get_fin, Fin.get_done, Step.fin_next, Bool.not_true, Bool.not_false, Option.getD_some]; done) | (simp [impl_polHeadOk, h1, h2, h3, h35, h67, h70, h75, h80, h81, h82, h83, cond_true, cond_false, Step.fin_stop, Step.fin_done, Fin.get_fin, Fin.get_done, Step.fin_next, Bool.not_true, Bool.not_false, Option.getD_some]; done) | (exfalso; simp_all; done)
                        exact congrArg (fun g : Bool => AV.one (.v (.bool g))) hg.symm
                      · refine And.intro (fun _ => .v _) ?_
                        have hg : impl_polHeadOk p0 = false := by
                          first | rfl | (simp only [impl_polHeadOk, h1, h2, h3, h35, h67, h70, h75, h80, h81, h82, h83, cond_true, cond_false, Step.fin_stop, Step.fin_done, Fin.get_fin, Fin.get_done, Step.fin_next, Bool.not_true, Bool.not_false, Option.getD_some]; done) | (simp [impl_polHeadOk, h1, h2, h3, h35, h67, h70, h75, h80, h81, h82, h83, cond_true, cond_false, Step.fin_stop, Step.fin_done, Fin.get_fin, Fin.get_done, Step.fin_next, Bool.not_true, Bool.not_false, Option.getD_some]; done) | (exfalso; simp_all; done)
                        exact congrArg (fun g : Bool => AV.one (.v (.bool g))) hg.symm
                    · refine And.intro (fun _ => .v _) ?_
                      have hg : impl_polHeadOk p0 = false := by
                        first | rfl | (simp only [impl_polHeadOk, h1, h2, h3, h35, h67, h70, h75, h80, h81, h82, cond_true, cond_false, Step.fin_stop, Step.fin_done, Fin.get_fin, Fin.get_done, Step.fin_next, Bool.not_true, Bool.not_false, Option.getD_some]; done) | (simp [impl_polHeadOk, h1, h2, h3, h35, h67, h70, h75, h80, h81, h82, cond_true, cond_false, Step.fin_stop, Step.fin_done, Fin.get_fin, Fin.get_done, Step.fin_next, Bool.not_true, Bool.not_false, Option.getD_some]; done) | (exfalso; simp_all; done)
                      exact congrArg (fun g : Bool => AV.one (.v (.bool g))) hg.symm
                  · refine And.intro (fun _ => .v _) ?_
                    have hg : impl_polHeadOk p0 = false := by
                      first | rfl | (simp only [impl_polHeadOk, h1, h2, h3, h35, h67, h70, h75, h80, h81, cond_true, cond_false, Step.fin_stop, Step.fin_done, Fin.get_fin, Fin.get_done, Step.fin_next, Bool.not_true, Bool.not_false, Option.getD_some]; done) | (simp [impl_polHeadOk, h1, h2, h3, h35, h67, h70, h75, h80, h81, cond_true, cond_false, Step.fin_stop, Step.fin_done, Fin.get_fin, Fin.get_done, Step.fin_next, Bool.not_true, Bool.not_false, Option.getD_some]; done) | (exfalso; simp_all; done)
                    exact congrArg (fun g : Bool => AV.one (.v (.bool g))) hg.symm
                · refine And.intro (fun (h85 : (p0.Kind == 7) = true) => ?_) (fun (h85 : (p0.Kind == 7) = false) => ?_)
                  · refine And.intro (fun (h86 : (p0.Kind == 7) = true) => ?_) (fun (h86 : (p0.Kind == 7) = false) => ?_)
                    · refine And.intro (fun (h87 : (decide (p0.Text = (ByteArray.mk #[]))) = true) => ?_) (fun (h87 : (decide (p0.Text = (ByteArray.mk #[]))) = false) => ?_)
                      · refine lenE (k := (p0.L).length) (by simp) (fun hN88 => ?_)
                        refine ⟨_, _, c_impl_within (((p0.L).length : Nat) : Int) 1 4, (FzAs.same _), ?_⟩
                        refine litE (m := 2) rfl ?_
                        refine And.intro (fun _ => .v _) ?_
                        have hg : impl_polHeadOk p0 = (impl_within (((p0.L).length : Nat) : Int) 1 4) := by
                          first | rfl | (simp only [impl_polHeadOk, h1, h2, h3, h35, h67, h70, h75, h80, h85, h86, h87, cond_true, cond_false, Step.fin_stop, Step.fin_done, Fin.get_fin, Fin.get_done, Step.fin_next, Bool.not_true, Bool.not_false, Option.getD_some]; done) | (simp [impl_polHeadOk, h1, h2, h3, h35, h67, h70, h75, h80, h85, h86, h87, cond_true, cond_false, Step.fin_stop, Step.fin_done, Fin.get_fin, Fin.get_done, Step.fin_next, Bool.not_true, Bool.not_false, Option.getD_some]; done) | (exfalso; simp_all; done)
                        exact congrArg (fun g : Bool => AV.one (.v (.bool g))) hg.symm
                      · refine And.intro (fun _ => .v _) ?_
                        have hg : impl_polHeadOk p0 = false := by
                          first | rfl | (simp only [impl_polHeadOk, h1, h2, h3, h35, h67, h70, h75, h80, h85, h86, h87, cond_true, cond_false, Step.fin_stop, Step.fin_done, Fin.get_fin, Fin.get_done, Step.fin_next, Bool.not_true, Bool.not_false, Option.getD_some]; done) | (simp [impl_polHeadOk, h1, h2, h3, h35, h67, h70, h75, h80, h85, h86, h87, cond_true, cond_false, Step.fin_stop, Step.fin_done, Fin.get_fin, Fin.get_done, Step.fin_next, Bool.not_true, Bool.not_false, Option.getD_some]; done) | (exfalso; simp_all; done)
                        exact congrArg (fun g : Bool => AV.one (.v (.bool g))) hg.symm
                    · refine And.intro (fun (h89 : (p0.Kind == 9) = true) => ?_) (fun (h89 : (p0.Kind == 9) = false) => ?_)
                      · refine And.intro (fun (h90 : (decide (p0.Text = (ByteArray.mk #[]))) = true) => ?_) (fun (h90 : (decide (p0.Text = (ByteArray.mk #[]))) = false) => ?_)
                        · refine lenE (k := (p0.L).length) (by simp) (fun hN91 => ?_)
                          refine And.intro (fun _ => .v _) ?_
                          have hg : impl_polHeadOk p0 = ((((p0.L).length : Nat) : Int) == 1) := by
                            first | rfl | (simp only [impl_polHeadOk, h1, h2, h3, h35, h67, h70, h75, h80, h85, h86, h89, h90, cond_true, cond_false, Step.fin_stop, Step.fin_done, Fin.get_fin, Fin.get_done, Step.fin_next, Bool.not_true, Bool.not_false, Option.getD_some]; done) | (simp [impl_polHeadOk, h1, h2, h3, h35, h67, h70, h75, h80, h85, h86, h89, h90, cond_true, cond_false, Step.fin_stop, Step.fin_done, Fin.get_fin, Fin.get_done, Step.fin_next, Bool.not_true, Bool.not_false, Option.getD_some]; done) | (exfalso; simp_all; done)
                          exact congrArg (fun g : Bool => AV.one (.v (.bool g))) hg.symm
                        · refine And.intro (fun _ => .v _) ?_
                          have hg : impl_polHeadOk p0 = false := by
                            first | rfl | (simp only [impl_polHeadOk, h1, h2, h3, h35, h67, h70, h75, h80, h85, h86, h89, h90, cond_true, cond_false, Step.fin_stop, Step.fin_done, Fin.get_fin, Fin.get_done, Step.fin_next, Bool.not_true, Bool.not_false, Option.getD_some]; done) | (simp [impl_polHeadOk, h1, h2, h3, h35, h67, h70, h75, h80, h85, h86, h89, h90, cond_true, cond_false, Step.fin_stop, Step.fin_done, Fin.get_fin, Fin.get_done, Step.fin_next, Bool.not_true, Bool.not_false, Option.getD_some]; done) | (exfalso; simp_all; done)
                          exact congrArg (fun g : Bool => AV.one (.v (.bool g))) hg.symm
                      · refine And.intro (fun _ => .v _) ?_
                        have hg : impl_polHeadOk p0 = false := by
                          first | rfl | (simp only [impl_polHeadOk, h1, h2, h3, h35, h67, h70, h75, h80, h85, h86, h89, cond_true, cond_false, Step.fin_stop, Step.fin_done, Fin.get_fin, Fin.get_done, Step.fin_next, Bool.not_true, Bool.not_false, Option.getD_some]; done) | (simp [impl_polHeadOk, h1, h2, h3, h35, h67, h70, h75, h80, h85, h86, h89, cond_true, cond_false, Step.fin_stop, Step.fin_done, Fin.get_fin, Fin.get_done, Step.fin_next, Bool.not_true, Bool.not_false, Option.getD_some]; done) | (exfalso; simp_all; done)
                        exact congrArg (fun g : Bool => AV.one (.v (.bool g))) hg.symm
                  · refine And.intro (fun (h92 : (p0.Kind == 8) = true) => ?_) (fun (h92 : (p0.Kind == 8) = false) => ?_)
                    · refine And.intro (fun (h93 : (decide (p0.Text = (ByteArray.mk #[]))) = true) => ?_) (fun (h93 : (decide (p0.Text = (ByteArray.mk #[]))) = false) => ?_)
                      · refine lenE (k := (p0.L).length) (by simp) (fun hN94 => ?_)
                        refine ⟨_, _, c_impl_within (((p0.L).length : Nat) : Int) 1 4, (FzAs.same _), ?_⟩
                        refine litE (m := 2) rfl ?_
                        refine And.intro (fun _ => .v _) ?_
                        have hg : impl_polHeadOk p0 = (impl_within (((p0.L).length : Nat) : Int) 1 4) := by
                          first | rfl | (simp only [impl_polHeadOk, h1, h2, h3, h35, h67, h70, h75, h80, h85, h92, h93, cond_true, cond_false, Step.fin_stop, Step.fin_done, Fin.get_fin, Fin.get_done, Step.fin_next, Bool.not_true, Bool.not_false, Option.getD_some]; done) | (simp [impl_polHeadOk, h1, h2, h3, h35, h67, h70, h75, h80, h85, h92, h93, cond_true, cond_false, Step.fin_stop, Step.fin_done, Fin.get_fin, Fin.get_done, Step.fin_next, Bool.not_true, Bool.not_false, Option.getD_some]; done) | (exfalso; simp_all; done)
                        exact congrArg (fun g : Bool => AV.one (.v (.bool g))) hg.symm
                      · refine And.intro (fun _ => .v _) ?_
                        have hg : impl_polHeadOk p0 = false := by
                          first | rfl | (simp only [impl_polHeadOk, h1, h2, h3, h35, h67, h70, h75, h80, h85, h92, h93, cond_true, cond_false, Step.fin_stop, Step.fin_done, Fin.get_fin, Fin.get_done, Step.fin_next, Bool.not_true, Bool.not_false, Option.getD_some]; done) | (simp [impl_polHeadOk, h1, h2, h3, h35, h67, h70, h75, h80, h85, h92, h93, cond_true, cond_false, Step.fin_stop, Step.fin_done, Fin.get_fin, Fin.get_done, Step.fin_next, Bool.not_true, Bool.not_false, Option.getD_some]; done) | (exfalso; simp_all; done)
                        exact congrArg (fun g : Bool => AV.one (.v (.bool g))) hg.symm
                    · refine And.intro (fun (h95 : (p0.Kind == 9) = true) => ?_) (fun (h95 : (p0.Kind == 9) = false) => ?_)
                      · refine And.intro (fun (h96 : (decide (p0.Text = (ByteArray.mk #[]))) = true) => ?_) (fun (h96 : (decide (p0.Text = (ByteArray.mk #[]))) = false) => ?_)
                        · refine lenE (k := (p0.L).length) (by simp) (fun hN97 => ?_)
                          refine And.intro (fun _ => .v _) ?_
                          have hg : impl_polHeadOk p0 = ((((p0.L).length : Nat) : Int) == 1) := by
                            first | rfl | (simp only [impl_polHeadOk, h1, h2, h3, h35, h67, h70, h75, h80, h85, h92, h95, h96, cond_true, cond_false, Step.fin_stop, Step.fin_done, Fin.get_fin, Fin.get_done, Step.fin_next, Bool.not_true, Bool.not_false, Option.getD_some]; done) | (simp [impl_polHeadOk, h1, h2, h3, h35, h67, h70, h75, h80, h85, h92, h95, h96, cond_true, cond_false, Step.fin_stop, Step.fin_done, Fin.get_fin, Fin.get_done, Step.fin_next, Bool.not_true, Bool.not_false, Option.getD_some]; done) | (exfalso; simp_all; done)
                          exact congrArg (fun g : Bool => AV.one (.v (.bool g))) hg.symm
                        · refine And.intro (fun _ => .v _) ?_
                          have hg : impl_polHeadOk p0 = false := by
                            first | rfl | (simp only [impl_polHeadOk, h1, h2, h3, h35, h67, h70, h75, h80, h85, h92, h95, h96, cond_true, cond_false, Step.fin_stop, Step.fin_done, Fin.get_fin, Fin.get_done, Step.fin_next, Bool.not_true, Bool.not_false, Option.getD_some]; done) | (simp [impl_polHeadOk, h1, h2, h3, h35, h67, h70, h75, h80, h85, h92, h95, h96, cond_true, cond_false, Step.fin_stop, Step.fin_done, Fin.get_fin, Fin.get_done, Step.fin_next, Bool.not_true, Bool.not_false, Option.getD_some]; done) | (exfalso; simp_all; done)
                          exact congrArg (fun g : Bool => AV.one (.v (.bool g))) hg.symm
                      · refine And.intro (fun _ => .v _) ?_
                        have hg : impl_polHeadOk p0 = false := by
                          first | rfl | (simp only [impl_polHeadOk, h1, h2, h3, h35, h67, h70, h75, h80, h85, h92, h95, cond_true, cond_false, Step.fin_stop, Step.fin_done, Fin.get_fin, Fin.get_done, Step.fin_next, Bool.not_true, Bool.not_false, Option.getD_some]; done) | (simp [impl_polHeadOk, h1, h2, h3, h35, h67, h70, h75, h80, h85, h92, h95, cond_true, cond_false, Step.fin_stop, Step.fin_done, Fin.get_fin, Fin.get_done, Step.fin_next, Bool.not_true, Bool.not_false, Option.getD_some]; done) | (exfalso; simp_all; done)
                        exact congrArg (fun g : Bool => AV.one (.v (.bool g))) hg.symm
    · refine And.intro (fun (h98 : (p0.Kind == 1) = true) => ?_) (fun (h98 : (p0.Kind == 1) = false) => ?_)
      · refine And.intro (fun (h99 : (p0.Kind == 1) = true) => ?_) (fun (h99 : (p0.Kind == 1) = false) => ?_)
        · refine And.intro (fun _ => .v _) ?_
          have hg : impl_polHeadOk p0 = false := by
            first | rfl | (simp only [impl_polHeadOk, h1, h2, h98, h99, cond_true, cond_false, Step.fin_stop, Step.fin_done, Fin.get_fin, Fin.get_done, Step.fin_next, Bool.not_true, Bool.not_false, Option.getD_some]; done) | (simp [impl_polHeadOk, h1, h2, h98, h99, cond_true, cond_false, Step.fin_stop, Step.fin_done, Fin.get_fin, Fin.get_done, Step.fin_next, Bool.not_true, Bool.not_false, Option.getD_some]; done) | (exfalso; simp_all; done)
          exact congrArg (fun g : Bool => AV.one (.v (.bool g))) hg.symm
        · refine And.intro (fun (h100 : (p0.Kind == 3) = true) => ?_) (fun (h100 : (p0.Kind == 3) = false) => ?_)
          · refine ⟨_, _, c_impl_within p0.N 0 2147483647, (FzAs.same _), ?_⟩
            refine litE (m := 2) rfl ?_
            refine And.intro (fun (h101 : (impl_within p0.N 0 2147483647) = true) => ?_) (fun (h101 : (impl_within p0.N 0 2147483647) = false) => ?_)
            · refine And.intro (fun (h102 : (decide (p0.Key = (ByteArray.mk #[]))) = true) => ?_) (fun (h102 : (decide (p0.Key = (ByteArray.mk #[]))) = false) => ?_)
              · refine And.intro (fun (h103 : (decide (p0.Text = (ByteArray.mk #[]))) = true) => ?_) (fun (h103 : (decide (p0.Text = (ByteArray.mk #[]))) = false) => ?_)
                · refine lenE (k := (p0.L).length) (by simp) (fun hN104 => ?_)
                  refine And.intro (fun _ => .v _) ?_
                  have hg : impl_polHeadOk p0 = ((((p0.L).length : Nat) : Int) == 0) := by
                    first | rfl | (simp only [impl_polHeadOk, h1, h2, h98, h99, h100, h101, h102, h103, cond_true, cond_false, Step.fin_stop, Step.fin_done, Fin.get_fin, Fin.get_done, Step.fin_next, Bool.not_true, Bool.not_false, Option.getD_some]; done) | (simp [impl_polHeadOk, h1, h2, h98, h99, h100, h101, h102, h103, cond_true, cond_false, Step.fin_stop, Step.fin_done, Fin.get_fin, Fin.get_done, Step.fin_next, Bool.not_true, Bool.not_false, Option.getD_some]; done) | (exfalso; simp_all; done)
                  exact congrArg (fun g : Bool => AV.one (.v (.bool g))) hg.symm
                · refine And.intro (fun _ => .v _) ?_
                  have hg : impl_polHeadOk p0 = false := by
                    first | rfl | (simp only [impl_polHeadOk, h1, h2, h98, h99, h100, h101, h102, h103, cond_true, cond_false, Step.fin_stop, Step.fin_done, Fin.get_fin, Fin.get_done, Step.fin_next, Bool.not_true, Bool.not_false, Option.getD_some]; done) | (simp [impl_polHeadOk, h1, h2, h98, h99, h100, h101, h102, h103, cond_true, cond_false, Step.fin_stop, Step.fin_done, Fin.get_fin, Fin.get_done, Step.fin_next, Bool.not_true, Bool.not_false, Option.getD_some]; done) | (exfalso; simp_all; done)
                  exact congrArg (fun g : Bool => AV.one (.v (.bool g))) hg.symm
              · refine And.intro (fun _ => .v _) ?_
                have hg : impl_polHeadOk p0 = false := by
                  first | rfl | (simp only [impl_polHeadOk, h1, h2, h98, h99, h100, h101, h102, cond_true, cond_false, Step.fin_stop, Step.fin_done, Fin.get_fin, Fin.get_done, Step.fin_next, Bool.not_true, Bool.not_false, Option.getD_some]; done) | (simp [impl_polHeadOk, h1, h2, h98, h99, h100, h101, h102, cond_true, cond_false, Step.fin_stop, Step.fin_done, Fin.get_fin, Fin.get_done, Step.fin_next, Bool.not_true, Bool.not_false, Option.getD_some]; done) | (exfalso; simp_all; done)
                exact congrArg (fun g : Bool => AV.one (.v (.bool g))) hg.symm
            · refine And.intro (fun _ => .v _) ?_
              have hg : impl_polHeadOk p0 = false := by
                first | rfl | (simp only [impl_polHeadOk, h1, h2, h98, h99, h100, h101, cond_true, cond_false, Step.fin_stop, Step.fin_done, Fin.get_fin, Fin.get_done, Step.fin_next, Bool.not_true, Bool.not_false, Option.getD_some]; done) | (simp [impl_polHeadOk, h1, h2, h98, h99, h100, h101, cond_true, cond_false, Step.fin_stop, Step.fin_done, Fin.get_fin, Fin.get_done, Step.fin_next, Bool.not_true, Bool.not_false, Option.getD_some]; done) | (exfalso; simp_all; done)
              exact congrArg (fun g : Bool => AV.one (.v (.bool g))) hg.symm
          · refine And.intro (fun (h105 : (p0.Kind == 4) = true) => ?_) (fun (h105 : (p0.Kind == 4) = false) => ?_)
            · refine And.intro (fun (h106 : (p0.N == 0) = true) => ?_) (fun (h106 : (p0.N == 0) = false) => ?_)
              · refine ⟨_, _, c_impl_NameOk p0.Key, (FzAs.same _), ?_⟩
                refine litE (m := 2) rfl ?_
                refine And.intro (fun (h107 : (impl_NameOk p0.Key) = true) => ?_) (fun (h107 : (impl_NameOk p0.Key) = false) => ?_)
                · refine ⟨_, _, c_impl_PlainOk p0.Text, (FzAs.same _), ?_⟩
                  refine litE (m := 3) rfl ?_
                  refine And.intro (fun (h108 : (impl_PlainOk p0.Text) = true) => ?_) (fun (h108 : (impl_PlainOk p0.Text) = false) => ?_)
                  · refine lenE (k := (p0.L).length) (by simp) (fun hN109 => ?_)
                    refine And.intro (fun _ => .v _) ?_
                    have hg : impl_polHeadOk p0 = ((((p0.L).length : Nat) : Int) == 0) := by
                      first | rfl | (simp only [impl_polHeadOk, h1, h2, h98, h99, h100, h105, h106, h107, h108, cond_true, cond_false, Step.fin_stop, Step.fin_done, Fin.get_fin, Fin.get_done, Step.fin_next, Bool.not_true, Bool.not_false, Option.getD_some]; done) | (simp [impl_polHeadOk, h1, h2, h98, h99, h100, h105, h106, h107, h108, cond_true, cond_false, Step.fin_stop, Step.fin_done, Fin.get_fin, Fin.get_done, Step.fin_next, Bool.not_true, Bool.not_false, Option.getD_some]; done) | (exfalso; simp_all; done)
                    exact congrArg (fun g : Bool => AV.one (.v (.bool g))) hg.symm
                  · refine And.intro (fun _ => .v _) ?_
                    have hg : impl_polHeadOk p0 = false := by
                      first | rfl | (simp only [impl_polHeadOk, h1, h2, h98, h99, h100, h105, h106, h107, h108, cond_true, cond_false, Step.fin_stop, Step.fin_done, Fin.get_fin, Fin.get_done, Step.fin_next, Bool.not_true, Bool.not_false, Option.getD_some]; done) | (simp [impl_polHeadOk, h1, h2, h98, h99, h100, h105, h106, h107, h108, cond_true, cond_false, Step.fin_stop, Step.fin_done, Fin.get_fin, Fin.get_done, Step.fin_next, Bool.not_true, Bool.not_false, Option.getD_some]; done) | (exfalso; simp_all; done)
                    exact congrArg (fun g : Bool => AV.one (.v (.bool g))) hg.symm
                · refine And.intro (fun _ => .v _) ?_
                  have hg : impl_polHeadOk p0 = false := by
                    first | rfl | (simp only [impl_polHeadOk, h1, h2, h98, h99, h100, h105, h106, h107, cond_true, cond_false, Step.fin_stop, Step.fin_done, Fin.get_fin, Fin.get_done, Step.fin_next, Bool.not_true, Bool.not_false, Option.getD_some]; done) | (simp [impl_polHeadOk, h1, h2, h98, h99, h100, h105, h106, h107, cond_true, cond_false, Step.fin_stop, Step.fin_done, Fin.get_fin, Fin.get_done, Step.fin_next, Bool.not_true, Bool.not_false, Option.getD_some]; done) | (exfalso; simp_all; done)
                  exact congrArg (fun g : Bool => AV.one (.v (.bool g))) hg.symm
              · refine And.intro (fun _ => .v _) ?_
                have hg : impl_polHeadOk p0 = false := by
                  first | rfl | (simp only [impl_polHeadOk, h1, h2, h98, h99, h100, h105, h106, cond_true, cond_false, Step.fin_stop, Step.fin_done, Fin.get_fin, Fin.get_done, Step.fin_next, Bool.not_true, Bool.not_false, Option.getD_some]; done) | (simp [impl_polHeadOk, h1, h2, h98, h99, h100, h105, h106, cond_true, cond_false, Step.fin_stop, Step.fin_done, Fin.get_fin, Fin.get_done, Step.fin_next, Bool.not_true, Bool.not_false, Option.getD_some]; done) | (exfalso; simp_all; done)
                exact congrArg (fun g : Bool => AV.one (.v (.bool g))) hg.symm
            · refine And.intro (fun (h110 : (p0.Kind == 5) = true) => ?_) (fun (h110 : (p0.Kind == 5) = false) => ?_)
              · refine ⟨_, _, c_impl_within p0.N 0 2147483647, (FzAs.same _), ?_⟩
                refine litE (m := 2) rfl ?_
                refine And.intro (fun (h111 : (impl_within p0.N 0 2147483647) = true) => ?_) (fun (h111 : (impl_within p0.N 0 2147483647) = false) => ?_)
                · refine ⟨_, _, c_impl_NameOk p0.Key, (FzAs.same _), ?_⟩
                  refine litE (m := 3) rfl ?_
                  refine And.intro (fun (h112 : (impl_NameOk p0.Key) = true) => ?_) (fun (h112 : (impl_NameOk p0.Key) = false) => ?_)
                  · refine And.intro (fun (h113 : (decide (p0.Text = (ByteArray.mk #[]))) = true) => ?_) (fun (h113 : (decide (p0.Text = (ByteArray.mk #[]))) = false) => ?_)
                    · refine lenE (k := (p0.L).length) (by simp) (fun hN114 => ?_)
                      refine And.intro (fun _ => .v _) ?_
                      have hg : impl_polHeadOk p0 = ((((p0.L).length : Nat) : Int) == 0) := by
                        first | rfl | (simp only [impl_polHeadOk, h1, h2, h98, h99, h100, h105, h110, h111, h112, h113, cond_true, cond_false, Step.fin_stop, Step.fin_done, Fin.get_fin, Fin.get_done, Step.fin_next, Bool.not_true, Bool.not_false, Option.getD_some]; done) | (simp [impl_polHeadOk, h1, h2, h98, h99, h100, h105, h110, h111, h112, h113, cond_true, cond_false, Step.fin_stop, Step.fin_done, Fin.get_fin, Fin.get_done, Step.fin_next, Bool.not_true, Bool.not_false, Option.getD_some]; done) | (exfalso; simp_all; done)
                      exact congrArg (fun g : Bool => AV.one (.v (.bool g))) hg.symm
                    · refine And.intro (fun _ => .v _) ?_
                      have hg : impl_polHeadOk p0 = false := by
                        first | rfl | (simp only [impl_polHeadOk, h1, h2, h98, h99, h100, h105, h110, h111, h112, h113, cond_true, cond_false, Step.fin_stop, Step.fin_done, Fin.get_fin, Fin.get_done, Step.fin_next, Bool.not_true, Bool.not_false, Option.getD_some]; done) | (simp [impl_polHeadOk, h1, h2, h98, h99, h100, h105, h110, h111, h112, h113, cond_true, cond_false, Step.fin_stop, Step.fin_done, Fin.get_fin, Fin.get_done, Step.fin_next, Bool.not_true, Bool.not_false, Option.getD_some]; done) | (exfalso; simp_all; done)
                      exact congrArg (fun g : Bool => AV.one (.v (.bool g))) hg.symm
                  · refine And.intro (fun _ => .v _) ?_
                    have hg : impl_polHeadOk p0 = false := by
                      first | rfl | (simp only [impl_polHeadOk, h1, h2, h98, h99, h100, h105, h110, h111, h112, cond_true, cond_false, Step.fin_stop, Step.fin_done, Fin.get_fin, Fin.get_done, Step.fin_next, Bool.not_true, Bool.not_false, Option.getD_some]; done) | (simp [impl_polHeadOk, h1, h2, h98, h99, h100, h105, h110, h111, h112, cond_true, cond_false, Step.fin_stop, Step.fin_done, Fin.get_fin, Fin.get_done, Step.fin_next, Bool.not_true, Bool.not_false, Option.getD_some]; done) | (exfalso; simp_all; done)
                    exact congrArg (fun g : Bool => AV.one (.v (.bool g))) hg.symm
                · refine And.intro (fun _ => .v _) ?_
                  have hg : impl_polHeadOk p0 = false := by
                    first | rfl | (simp only [impl_polHeadOk, h1, h2, h98, h99, h100, h105, h110, h111, cond_true, cond_false, Step.fin_stop, Step.fin_done, Fin.get_fin, Fin.get_done, Step.fin_next, Bool.not_true, Bool.not_false, Option.getD_some]; done) | (simp [impl_polHeadOk, h1, h2, h98, h99, h100, h105, h110, h111, cond_true, cond_false, Step.fin_stop, Step.fin_done, Fin.get_fin, Fin.get_done, Step.fin_next, Bool.not_true, Bool.not_false, Option.getD_some]; done) | (exfalso; simp_all; done)
                  exact congrArg (fun g : Bool => AV.one (.v (.bool g))) hg.symm
              · refine And.intro (fun (h115 : (p0.Kind == 7) = true) => ?_) (fun (h115 : (p0.Kind == 7) = false) => ?_)
                · refine And.intro (fun (h116 : (p0.Kind == 7) = true) => ?_) (fun (h116 : (p0.Kind == 7) = false) => ?_)
                  · refine And.intro (fun _ => .v _) ?_
                    have hg : impl_polHeadOk p0 = false := by
                      first | rfl | (simp only [impl_polHeadOk, h1, h2, h98, h99, h100, h105, h110, h115, h116, cond_true, cond_false, Step.fin_stop, Step.fin_done, Fin.get_fin, Fin.get_done, Step.fin_next, Bool.not_true, Bool.not_false, Option.getD_some]; done) | (simp [impl_polHeadOk, h1, h2, h98, h99, h100, h105, h110, h115, h116, cond_true, cond_false, Step.fin_stop, Step.fin_done, Fin.get_fin, Fin.get_done, Step.fin_next, Bool.not_true, Bool.not_false, Option.getD_some]; done) | (exfalso; simp_all; done)
                    exact congrArg (fun g : Bool => AV.one (.v (.bool g))) hg.symm
                  · refine And.intro (fun (h117 : (p0.Kind == 9) = true) => ?_) (fun (h117 : (p0.Kind == 9) = false) => ?_)
                    · refine And.intro (fun _ => .v _) ?_
                      have hg : impl_polHeadOk p0 = false := by
                        first | rfl | (simp only [impl_polHeadOk, h1, h2, h98, h99, h100, h105, h110, h115, h116, h117, cond_true, cond_false, Step.fin_stop, Step.fin_done, Fin.get_fin, Fin.get_done, Step.fin_next, Bool.not_true, Bool.not_false, Option.getD_some]; done) | (simp [impl_polHeadOk, h1, h2, h98, h99, h100, h105, h110, h115, h116, h117, cond_true, cond_false, Step.fin_stop, Step.fin_done, Fin.get_fin, Fin.get_done, Step.fin_next, Bool.not_true, Bool.not_false, Option.getD_some]; done) | (exfalso; simp_all; done)
                      exact congrArg (fun g : Bool => AV.one (.v (.bool g))) hg.symm
                    · refine And.intro (fun _ => .v _) ?_
                      have hg : impl_polHeadOk p0 = false := by
                        first | rfl | (simp only [impl_polHeadOk, h1, h2, h98, h99, h100, h105, h110, h115, h116, h117, cond_true, cond_false, Step.fin_stop, Step.fin_done, Fin.get_fin, Fin.get_done, Step.fin_next, Bool.not_true, Bool.not_false, Option.getD_some]; done) | (simp [impl_polHeadOk, h1, h2, h98, h99, h100, h105, h110, h115, h116, h117, cond_true, cond_false, Step.fin_stop, Step.fin_done, Fin.get_fin, Fin.get_done, Step.fin_next, Bool.not_true, Bool.not_false, Option.getD_some]; done) | (exfalso; simp_all; done)
                      exact congrArg (fun g : Bool => AV.one (.v (.bool g))) hg.symm
                · refine And.intro (fun (h118 : (p0.Kind == 8) = true) => ?_) (fun (h118 : (p0.Kind == 8) = false) => ?_)
                  · refine And.intro (fun _ => .v _) ?_
                    have hg : impl_polHeadOk p0 = false := by
                      first | rfl | (simp only [impl_polHeadOk, h1, h2, h98, h99, h100, h105, h110, h115, h118, cond_true, cond_false, Step.fin_stop, Step.fin_done, Fin.get_fin, Fin.get_done, Step.fin_next, Bool.not_true, Bool.not_false, Option.getD_some]; done) | (simp [impl_polHeadOk, h1, h2, h98, h99, h100, h105, h110, h115, h118, cond_true, cond_false, Step.fin_stop, Step.fin_done, Fin.get_fin, Fin.get_done, Step.fin_next, Bool.not_true, Bool.not_false, Option.getD_some]; done) | (exfalso; simp_all; done)
                    exact congrArg (fun g : Bool => AV.one (.v (.bool g))) hg.symm
                  · refine And.intro (fun (h119 : (p0.Kind == 9) = true) => ?_) (fun (h119 : (p0.Kind == 9) = false) => ?_)
                    · refine And.intro (fun _ => .v _) ?_
                      have hg : impl_polHeadOk p0 = false := by
                        first | rfl | (simp only [impl_polHeadOk, h1, h2, h98, h99, h100, h105, h110, h115, h118, h119, cond_true, cond_false, Step.fin_stop, Step.fin_done, Fin.get_fin, Fin.get_done, Step.fin_next, Bool.not_true, Bool.not_false, Option.getD_some]; done) | (simp [impl_polHeadOk, h1, h2, h98, h99, h100, h105, h110, h115, h118, h119, cond_true, cond_false, Step.fin_stop, Step.fin_done, Fin.get_fin, Fin.get_done, Step.fin_next, Bool.not_true, Bool.not_false, Option.getD_some]; done) | (exfalso; simp_all; done)
                      exact congrArg (fun g : Bool => AV.one (.v (.bool g))) hg.symm
                    · refine And.intro (fun _ => .v _) ?_
                      have hg : impl_polHeadOk p0 = false := by
                        first | rfl | (simp only [impl_polHeadOk, h1, h2, h98, h99, h100, h105, h110, h115, h118, h119, cond_true, cond_false, Step.fin_stop, Step.fin_done, Fin.get_fin, Fin.get_done, Step.fin_next, Bool.not_true, Bool.not_false, Option.getD_some]; done) | (simp [impl_polHeadOk, h1, h2, h98, h99, h100, h105, h110, h115, h118, h119, cond_true, cond_false, Step.fin_stop, Step.fin_done, Fin.get_fin, Fin.get_done, Step.fin_next, Bool.not_true, Bool.not_false, Option.getD_some]; done) | (exfalso; simp_all; done)
                      exact congrArg (fun g : Bool => AV.one (.v (.bool g))) hg.symm
      · refine And.intro (fun (h120 : (p0.Kind == 2) = true) => ?_) (fun (h120 : (p0.Kind == 2) = false) => ?_)
        · refine And.intro (fun (h121 : (p0.Kind == 2) = true) => ?_) (fun (h121 : (p0.Kind == 2) = false) => ?_)
          · refine And.intro (fun _ => .v _) ?_
            have hg : impl_polHeadOk p0 = false := by
              first | rfl | (simp only [impl_polHeadOk, h1, h2, h98, h120, h121, cond_true, cond_false, Step.fin_stop, Step.fin_done, Fin.get_fin, Fin.get_done, Step.fin_next, Bool.not_true, Bool.not_false, Option.getD_some]; done) | (simp [impl_polHeadOk, h1, h2, h98, h120, h121, cond_true, cond_false, Step.fin_stop, Step.fin_done, Fin.get_fin, Fin.get_done, Step.fin_next, Bool.not_true, Bool.not_false, Option.getD_some]; done) | (exfalso; simp_all; done)
            exact congrArg (fun g : Bool => AV.one (.v (.bool g))) hg.symm
          · refine And.intro (fun (h122 : (p0.Kind == 3) = true) => ?_) (fun (h122 : (p0.Kind == 3) = false) => ?_)
            · refine ⟨_, _, c_impl_within p0.N 0 2147483647, (FzAs.same _), ?_⟩
              refine litE (m := 2) rfl ?_
              refine And.intro (fun (h123 : (impl_within p0.N 0 2147483647) = true) => ?_) (fun (h123 : (impl_within p0.N 0 2147483647) = false) => ?_)
              · refine And.intro (fun (h124 : (decide (p0.Key = (ByteArray.mk #[]))) = true) => ?_) (fun (h124 : (decide (p0.Key = (ByteArray.mk #[]))) = false) => ?_)
                · refine And.intro (fun (h125 : (decide (p0.Text = (ByteArray.mk #[]))) = true) => ?_) (fun (h125 : (decide (p0.Text = (ByteArray.mk #[]))) = false) => ?_)
                  · refine lenE (k := (p0.L).length) (by simp) (fun hN126 => ?_)
                    refine And.intro (fun _ => .v _) ?_
                    have hg : impl_polHeadOk p0 = ((((p0.L).length : Nat) : Int) == 0) := by
                      first | rfl | (simp only [impl_polHeadOk, h1, h2, h98, h120, h121, h122, h123, h124, h125, cond_true, cond_false, Step.fin_stop, Step.fin_done, Fin.get_fin, Fin.get_done, Step.fin_next, Bool.not_true, Bool.not_false, Option.getD_some]; done) | (simp [impl_polHeadOk, h1, h2, h98, h120, h121, h122, h123, h124, h125, cond_true, cond_false, Step.fin_stop, Step.fin_done, Fin.get_fin, Fin.get_done, Step.fin_next, Bool.not_true, Bool.not_false, Option.getD_some]; done) | (exfalso; simp_all; done)
                    exact congrArg (fun g : Bool => AV.one (.v (.bool g))) hg.symm
                  · refine And.intro (fun _ => .v _) ?_
                    have hg : impl_polHeadOk p0 = false := by
                      first | rfl | (simp only [impl_polHeadOk, h1, h2, h98, h120, h121, h122, h123, h124, h125, cond_true, cond_false, Step.fin_stop, Step.fin_done, Fin.get_fin, Fin.get_done, Step.fin_next, Bool.not_true, Bool.not_false, Option.getD_some]; done) | (simp [impl_polHeadOk, h1, h2, h98, h120, h121, h122, h123, h124, h125, cond_true, cond_false, Step.fin_stop, Step.fin_done, Fin.get_fin, Fin.get_done, Step.fin_next, Bool.not_true, Bool.not_false, Option.getD_some]; done) | (exfalso; simp_all; done)
                    exact congrArg (fun g : Bool => AV.one (.v (.bool g))) hg.symm
                · refine And.intro (fun _ => .v _) ?_
                  have hg : impl_polHeadOk p0 = false := by
                    first | rfl | (simp only [impl_polHeadOk, h1, h2, h98, h120, h121, h122, h123, h124, cond_true, cond_false, Step.fin_stop, Step.fin_done, Fin.get_fin, Fin.get_done, Step.fin_next, Bool.not_true, Bool.not_false, Option.getD_some]; done) | (simp [impl_polHeadOk, h1, h2, h98, h120, h121, h122, h123, h124, cond_true, cond_false, Step.fin_stop, Step.fin_done, Fin.get_fin, Fin.get_done, Step.fin_next, Bool.not_true, Bool.not_false, Option.getD_some]; done) | (exfalso; simp_all; done)
                  exact congrArg (fun g : Bool => AV.one (.v (.bool g))) hg.symm
              · refine And.intro (fun _ => .v _) ?_
                have hg : impl_polHeadOk p0 = false := by
                  first | rfl | (simp only [impl_polHeadOk, h1, h2, h98, h120, h121, h122, h123, cond_true, cond_false, Step.fin_stop, Step.fin_done, Fin.get_fin, Fin.get_done, Step.fin_next, Bool.not_true, Bool.not_false, Option.getD_some]; done) | (simp [impl_polHeadOk, h1, h2, h98, h120, h121, h122, h123, cond_true, cond_false, Step.fin_stop, Step.fin_done, Fin.get_fin, Fin.get_done, Step.fin_next, Bool.not_true, Bool.not_false, Option.getD_some]; done) | (exfalso; simp_all; done)
                exact congrArg (fun g : Bool => AV.one (.v (.bool g))) hg.symm
            · refine And.intro (fun (h127 : (p0.Kind == 4) = true) => ?_) (fun (h127 : (p0.Kind == 4) = false) => ?_)
              · refine And.intro (fun (h128 : (p0.N == 0) = true) => ?_) (fun (h128 : (p0.N == 0) = false) => ?_)
                · refine ⟨_, _, c_impl_NameOk p0.Key, (FzAs.same _), ?_⟩
                  refine litE (m := 2) rfl ?_
                  refine And.intro (fun (h129 : (impl_NameOk p0.Key) = true) => ?_) (fun (h129 : (impl_NameOk p0.Key) = false) => ?_)
                  · refine ⟨_, _, c_impl_PlainOk p0.Text, (FzAs.same _), ?_⟩
                    refine litE (m := 3) rfl ?_
                    refine And.intro (fun (h130 : (impl_PlainOk p0.Text) = true) => ?_) (fun (h130 : (impl_PlainOk p0.Text) = false) => ?_)
                    · refine lenE (k := (p0.L).length) (by simp) (fun hN131 => ?_)
                      refine And.intro (fun _ => .v _) ?_
                      have hg : impl_polHeadOk p0 = ((((p0.L).length : Nat) : Int) == 0) := by
                        first | rfl | (simp only [impl_polHeadOk, h1, h2, h98, h120, h121, h122, h127, h128, h129, h130, cond_true, cond_false, Step.fin_stop, Step.fin_done, Fin.get_fin, Fin.get_done, Step.fin_next, Bool.not_true, Bool.not_false, Option.getD_some]; done) | (simp [impl_polHeadOk, h1, h2, h98, h120, h121, h122, h127, h128, h129, h130, cond_true, cond_false, Step.fin_stop, Step.fin_done, Fin.get_fin, Fin.get_done, Step.fin_next, Bool.not_true, Bool.not_false, Option.getD_some]; done) | (exfalso; simp_all; done)
                      exact congrArg (fun g : Bool => AV.one (.v (.bool g))) hg.symm
                    · refine And.intro (fun _ => .v _) ?_
                      have hg : impl_polHeadOk p0 = false := by
                        first | rfl | (simp only [impl_polHeadOk, h1, h2, h98, h120, h121, h122, h127, h128, h129, h130, cond_true, cond_false, Step.fin_stop, Step.fin_done, Fin.get_fin, Fin.get_done, Step.fin_next, Bool.not_true, Bool.not_false, Option.getD_some]; done) | (simp [impl_polHeadOk, h1, h2, h98, h120, h121, h122, h127, h128, h129, h130, cond_true, cond_false, Step.fin_stop, Step.fin_done, Fin.get_fin, Fin.get_done, Step.fin_next, Bool.not_true, Bool.not_false, Option.getD_some]; done) | (exfalso; simp_all; done)
                      exact congrArg (fun g : Bool => AV.one (.v (.bool g))) hg.symm
                  · refine And.intro (fun _ => .v _) ?_
                    have hg : impl_polHeadOk p0 = false := by
                      first | rfl | (simp only [impl_polHeadOk, h1, h2, h98, h120, h121, h122, h127, h128, h129, cond_true, cond_false, Step.fin_stop, Step.fin_done, Fin.get_fin, Fin.get_done, Step.fin_next, Bool.not_true, Bool.not_false, Option.getD_some]; done) | (simp [impl_polHeadOk, h1, h2, h98, h120, h121, h122, h127, h128, h129, cond_true, cond_false, Step.fin_stop, Step.fin_done, Fin.get_fin, Fin.get_done, Step.fin_next, Bool.not_true, Bool.not_false, Option.getD_some]; done) | (exfalso; simp_all; done)
                    exact congrArg (fun g : Bool => AV.one (.v (.bool g))) hg.symm
                · refine And.intro (fun _ => .v _) ?_
                  have hg : impl_polHeadOk p0 = false := by
                    first | rfl | (simp only [impl_polHeadOk, h1, h2, h98, h120, h121, h122, h127, h128, cond_true, cond_false, Step.fin_stop, Step.fin_done, Fin.get_fin, Fin.get_done, Step.fin_next, Bool.not_true, Bool.not_false, Option.getD_some]; done) | (simp [impl_polHeadOk, h1, h2, h98, h120, h121, h122, h127, h128, cond_true, cond_false, Step.fin_stop, Step.fin_done, Fin.get_fin, Fin.get_done, Step.fin_next, Bool.not_true, Bool.not_false, Option.getD_some]; done) | (exfalso; simp_all; done)
                  exact congrArg (fun g : Bool => AV.one (.v (.bool g))) hg.symm
              · refine And.intro (fun (h132 : (p0.Kind == 5) = true) => ?_) (fun (h132 : (p0.Kind == 5) = false) => ?_)
                · refine ⟨_, _, c_impl_within p0.N 0 2147483647, (FzAs.same _), ?_⟩
                  refine litE (m := 2) rfl ?_
                  refine And.intro (fun (h133 : (impl_within p0.N 0 2147483647) = true) => ?_) (fun (h133 : (impl_within p0.N 0 2147483647) = false) => ?_)
                  · refine ⟨_, _, c_impl_NameOk p0.Key, (FzAs.same _), ?_⟩
                    refine litE (m := 3) rfl ?_
                    refine And.intro (fun (h134 : (impl_NameOk p0.Key) = true) => ?_) (fun (h134 : (impl_NameOk p0.Key) = false) => ?_)
                    · refine And.intro (fun (h135 : (decide (p0.Text = (ByteArray.mk #[]))) = true) => ?_) (fun (h135 : (decide (p0.Text = (ByteArray.mk #[]))) = false) => ?_)
                      · refine lenE (k := (p0.L).length) (by simp) (fun hN136 => ?_)
                        refine And.intro (fun _ => .v _) ?_
                        have hg : impl_polHeadOk p0 = ((((p0.L).length : Nat) : Int) == 0) := by
                          first | rfl | (simp only [impl_polHeadOk, h1, h2, h98, h120, h121, h122, h127, h132, h133, h134, h135, cond_true, cond_false, Step.fin_stop, Step.fin_done, Fin.get_fin, Fin.get_done, Step.fin_next, Bool.not_true, Bool.not_false, Option.getD_some]; done) | (simp [impl_polHeadOk, h1, h2, h98, h120, h121, h122, h127, h132, h133, h134, h135, cond_true, cond_false, Step.fin_stop, Step.fin_done, Fin.get_fin, Fin.get_done, Step.fin_next, Bool.not_true, Bool.not_false, Option.getD_some]; done) | (exfalso; simp_all; done)
                        exact congrArg (fun g : Bool => AV.one (.v (.bool g))) hg.symm
                      · refine And.intro (fun _ => .v _) ?_
                        have hg : impl_polHeadOk p0 = false := by
                          first | rfl | (simp only [impl_polHeadOk, h1, h2, h98, h120, h121, h122, h127, h132, h133, h134, h135, cond_true, cond_false, Step.fin_stop, Step.fin_done, Fin.get_fin, Fin.get_done, Step.fin_next, Bool.not_true, Bool.not_false, Option.getD_some]; done) | (simp [impl_polHeadOk, h1, h2, h98, h120, h121, h122, h127, h132, h133, h134, h135, cond_true, cond_false, Step.fin_stop, Step.fin_done, Fin.get_fin, Fin.get_done, Step.fin_next, Bool.not_true, Bool.not_false, Option.getD_some]; done) | (exfalso; simp_all; done)
                        exact congrArg (fun g : Bool => AV.one (.v (.bool g))) hg.symm
                    · refine And.intro (fun _ => .v _) ?_
                      have hg : impl_polHeadOk p0 = false := by
                        first | rfl | (simp only [impl_polHeadOk, h1, h2, h98, h120, h121, h122, h127, h132, h133, h134, cond_true, cond_false, Step.fin_stop, Step.fin_done, Fin.get_fin, Fin.get_done, Step.fin_next, Bool.not_true, Bool.not_false, Option.getD_some]; done) | (simp [impl_polHeadOk, h1, h2, h98, h120, h121, h122, h127, h132, h133, h134, cond_true, cond_false, Step.fin_stop, Step.fin_done, Fin.get_fin, Fin.get_done, Step.fin_next, Bool.not_true, Bool.not_false, Option.getD_some]; done) | (exfalso; simp_all; done)
                      exact congrArg (fun g : Bool => AV.one (.v (.bool g))) hg.symm
                  · refine And.intro (fun _ => .v _) ?_
                    have hg : impl_polHeadOk p0 = false := by
                      first | rfl | (simp only [impl_polHeadOk, h1, h2, h98, h120, h121, h122, h127, h132, h133, cond_true, cond_false, Step.fin_stop, Step.fin_done, Fin.get_fin, Fin.get_done, Step.fin_next, Bool.not_true, Bool.not_false, Option.getD_some]; done) | (simp [impl_polHeadOk, h1, h2, h98, h120, h121, h122, h127, h132, h133, cond_true, cond_false, Step.fin_stop, Step.fin_done, Fin.get_fin, Fin.get_done, Step.fin_next, Bool.not_true, Bool.not_false, Option.getD_some]; done) | (exfalso; simp_all; done)
                    exact congrArg (fun g : Bool => AV.one (.v (.bool g))) hg.symm
                · refine And.intro (fun (h137 : (p0.Kind == 7) = true) => ?_) (fun (h137 : (p0.Kind == 7) = false) => ?_)
                  · refine And.intro (fun (h138 : (p0.Kind == 7) = true) => ?_) (fun (h138 : (p0.Kind == 7) = false) => ?_)
                    · refine And.intro (fun _ => .v _) ?_
                      have hg : impl_polHeadOk p0 = false := by
                        first | rfl | (simp only [impl_polHeadOk, h1, h2, h98, h120, h121, h122, h127, h132, h137, h138, cond_true, cond_false, Step.fin_stop, Step.fin_done, Fin.get_fin, Fin.get_done, Step.fin_next, Bool.not_true, Bool.not_false, Option.getD_some]; done) | (simp [impl_polHeadOk, h1, h2, h98, h120, h121, h122, h127, h132, h137, h138, cond_true, cond_false, Step.fin_stop, Step.fin_done, Fin.get_fin, Fin.get_done, Step.fin_next, Bool.not_true, Bool.not_false, Option.getD_some]; done) | (exfalso; simp_all; done)
                      exact congrArg (fun g : Bool => AV.one (.v (.bool g))) hg.symm
                    · refine And.intro (fun (h139 : (p0.Kind == 9) = true) => ?_) (fun (h139 : (p0.Kind == 9) = false) => ?_)
                      · refine And.intro (fun _ => .v _) ?_
                        have hg : impl_polHeadOk p0 = false := by
                          first | rfl | (simp only [impl_polHeadOk, h1, h2, h98, h120, h121, h122, h127, h132, h137, h138, h139, cond_true, cond_false, Step.fin_stop, Step.fin_done, Fin.get_fin, Fin.get_done, Step.fin_next, Bool.not_true, Bool.not_false, Option.getD_some]; done) | (simp [impl_polHeadOk, h1, h2, h98, h120, h121, h122, h127, h132, h137, h138, h139, cond_true, cond_false, Step.fin_stop, Step.fin_done, Fin.get_fin, Fin.get_done, Step.fin_next, Bool.not_true, Bool.not_false, Option.getD_some]; done) | (exfalso; simp_all; done)
                        exact congrArg (fun g : Bool => AV.one (.v (.bool g))) hg.symm
                      · refine And.intro (fun _ => .v _) ?_
                        have hg : impl_polHeadOk p0 = false := by
                          first | rfl | (simp only [impl_polHeadOk, h1, h2, h98, h120, h121, h122, h127, h132, h137, h138, h139, cond_true, cond_false, Step.fin_stop, Step.fin_done, Fin.get_fin, Fin.get_done, Step.fin_next, Bool.not_true, Bool.not_false, Option.getD_some]; done) | (simp [impl_polHeadOk, h1, h2, h98, h120, h121, h122, h127, h132, h137, h138, h139, cond_true, cond_false, Step.fin_stop, Step.fin_done, Fin.get_fin, Fin.get_done, Step.fin_next, Bool.not_true, Bool.not_false, Option.getD_some]; done) | (exfalso; simp_all; done)
                        exact congrArg (fun g : Bool => AV.one (.v (.bool g))) hg.symm
                  · refine And.intro (fun (h140 : (p0.Kind == 8) = true) => ?_) (fun (h140 : (p0.Kind == 8) = false) => ?_)
                    · refine And.intro (fun _ => .v _) ?_
                      have hg : impl_polHeadOk p0 = false := by
                        first | rfl | (simp only [impl_polHeadOk, h1, h2, h98, h120, h121, h122, h127, h132, h137, h140, cond_true, cond_false, Step.fin_stop, Step.fin_done, Fin.get_fin, Fin.get_done, Step.fin_next, Bool.not_true, Bool.not_false, Option.getD_some]; done) | (simp [impl_polHeadOk, h1, h2, h98, h120, h121, h122, h127, h132, h137, h140, cond_true, cond_false, Step.fin_stop, Step.fin_done, Fin.get_fin, Fin.get_done, Step.fin_next, Bool.not_true, Bool.not_false, Option.getD_some]; done) | (exfalso; simp_all; done)
                      exact congrArg (fun g : Bool => AV.one (.v (.bool g))) hg.symm
                    · refine And.intro (fun (h141 : (p0.Kind == 9) = true) => ?_) (fun (h141 : (p0.Kind == 9) = false) => ?_)
                      · refine And.intro (fun _ => .v _) ?_
                        have hg : impl_polHeadOk p0 = false := by
                          first | rfl | (simp only [impl_polHeadOk, h1, h2, h98, h120, h121, h122, h127, h132, h137, h140, h141, cond_true, cond_false, Step.fin_stop, Step.fin_done, Fin.get_fin, Fin.get_done, Step.fin_next, Bool.not_true, Bool.not_false, Option.getD_some]; done) | (simp [impl_polHeadOk, h1, h2, h98, h120, h121, h122, h127, h132, h137, h140, h141, cond_true, cond_false, Step.fin_stop, Step.fin_done, Fin.get_fin, Fin.get_done, Step.fin_next, Bool.not_true, Bool.not_false, Option.getD_some]; done) | (exfalso; simp_all; done)
                        exact congrArg (fun g : Bool => AV.one (.v (.bool g))) hg.symm
                      · refine And.intro (fun _ => .v _) ?_
                        have hg : impl_polHeadOk p0 = false := by
                          first | rfl | (simp only [impl_polHeadOk, h1, h2, h98, h120, h121, h122, h127, h132, h137, h140, h141, cond_true, cond_false, Step.fin_stop, Step.fin_done, Fin.get_fin, Fin.get_done, Step.fin_next, Bool.not_true, Bool.not_false, Option.getD_some]; done) | (simp [impl_polHeadOk, h1, h2, h98, h120, h121, h122, h127, h132, h137, h140, h141, cond_true, cond_false, Step.fin_stop, Step.fin_done, Fin.get_fin, Fin.get_done, Step.fin_next, Bool.not_true, Bool.not_false, Option.getD_some]; done) | (exfalso; simp_all; done)
                        exact congrArg (fun g : Bool => AV.one (.v (.bool g))) hg.symm
        · refine And.intro (fun (h142 : (p0.Kind == 6) = true) => ?_) (fun (h142 : (p0.Kind == 6) = false) => ?_)
          · refine And.intro (fun _ => .v _) ?_
            have hg : impl_polHeadOk p0 = false := by
              first | rfl | (simp only [impl_polHeadOk, h1, h2, h98, h120, h142, cond_true, cond_false, Step.fin_stop, Step.fin_done, Fin.get_fin, Fin.get_done, Step.fin_next, Bool.not_true, Bool.not_false, Option.getD_some]; done) | (simp [impl_polHeadOk, h1, h2, h98, h120, h142, cond_true, cond_false, Step.fin_stop, Step.fin_done, Fin.get_fin, Fin.get_done, Step.fin_next, Bool.not_true, Bool.not_false, Option.getD_some]; done) | (exfalso; simp_all; done)
            exact congrArg (fun g : Bool => AV.one (.v (.bool g))) hg.symm
          · refine And.intro (fun (h143 : (p0.Kind == 3) = true) => ?_) (fun (h143 : (p0.Kind == 3) = false) => ?_)
            · refine ⟨_, _, c_impl_within p0.N 0 2147483647, (FzAs.same _), ?_⟩
              refine litE (m := 2) rfl ?_
              refine And.intro (fun (h144 : (impl_within p0.N 0 2147483647) = true) => ?_) (fun (h144 : (impl_within p0.N 0 2147483647) = false) => ?_)
              · refine And.intro (fun (h145 : (decide (p0.Key = (ByteArray.mk #[]))) = true) => ?_) (fun (h145 : (decide (p0.Key = (ByteArray.mk #[]))) = false) => ?_)
                · refine And.intro (fun (h146 : (decide (p0.Text = (ByteArray.mk #[]))) = true) => ?_) (fun (h146 : (decide (p0.Text = (ByteArray.mk #[]))) = false) => ?_)
                  · refine lenE (k := (p0.L).length) (by simp) (fun hN147 => ?_)
                    refine And.intro (fun _ => .v _) ?_
                    have hg : impl_polHeadOk p0 = ((((p0.L).length : Nat) : Int) == 0) := by
                      first | rfl | (simp only [impl_polHeadOk, h1, h2, h98, h120, h142, h143, h144, h145, h146, cond_true, cond_false, Step.fin_stop, Step.fin_done, Fin.get_fin, Fin.get_done, Step.fin_next, Bool.not_true, Bool.not_false, Option.getD_some]; done) | (simp [impl_polHeadOk, h1, h2, h98, h120, h142, h143, h144, h145, h146, cond_true, cond_false, Step.fin_stop, Step.fin_done, Fin.get_fin, Fin.get_done, Step.fin_next, Bool.not_true, Bool.not_false, Option.getD_some]; done) | (exfalso; simp_all; done)
                    exact congrArg (fun g : Bool => AV.one (.v (.bool g))) hg.symm
                  · refine And.intro (fun _ => .v _) ?_
                    have hg : impl_polHeadOk p0 = false := by
                      first | rfl | (simp only [impl_polHeadOk, h1, h2, h98, h120, h142, h143, h144, h145, h146, cond_true, cond_false, Step.fin_stop, Step.fin_done, Fin.get_fin, Fin.get_done, Step.fin_next, Bool.not_true, Bool.not_false, Option.getD_some]; done) | (simp [impl_polHeadOk, h1, h2, h98, h120, h142, h143, h144, h145, h146, cond_true, cond_false, Step.fin_stop, Step.fin_done, Fin.get_fin, Fin.get_done, Step.fin_next, Bool.not_true, Bool.not_false, Option.getD_some]; done) | (exfalso; simp_all; done)
                    exact congrArg (fun g : Bool => AV.one (.v (.bool g))) hg.symm
                · refine And.intro (fun _ => .v _) ?_
                  have hg : impl_polHeadOk p0 = false := by
                    first | rfl | (simp only [impl_polHeadOk, h1, h2, h98, h120, h142, h143, h144, h145, cond_true, cond_false, Step.fin_stop, Step.fin_done, Fin.get_fin, Fin.get_done, Step.fin_next, Bool.not_true, Bool.not_false, Option.getD_some]; done) | (simp [impl_polHeadOk, h1, h2, h98, h120, h142, h143, h144, h145, cond_true, cond_false, Step.fin_stop, Step.fin_done, Fin.get_fin, Fin.get_done, Step.fin_next, Bool.not_true, Bool.not_false, Option.getD_some]; done) | (exfalso; simp_all; done)
                  exact congrArg (fun g : Bool => AV.one (.v (.bool g))) hg.symm
              · refine And.intro (fun _ => .v _) ?_
                have hg : impl_polHeadOk p0 = false := by
                  first | rfl | (simp only [impl_polHeadOk, h1, h2, h98, h120, h142, h143, h144, cond_true, cond_false, Step.fin_stop, Step.fin_done, Fin.get_fin, Fin.get_done, Step.fin_next, Bool.not_true, Bool.not_false, Option.getD_some]; done) | (simp [impl_polHeadOk, h1, h2, h98, h120, h142, h143, h144, cond_true, cond_false, Step.fin_stop, Step.fin_done, Fin.get_fin, Fin.get_done, Step.fin_next, Bool.not_true, Bool.not_false, Option.getD_some]; done) | (exfalso; simp_all; done)
                exact congrArg (fun g : Bool => AV.one (.v (.bool g))) hg.symm
            · refine And.intro (fun (h148 : (p0.Kind == 4) = true) => ?_) (fun (h148 : (p0.Kind == 4) = false) => ?_)
              · refine And.intro (fun (h149 : (p0.N == 0) = true) => ?_) (fun (h149 : (p0.N == 0) = false) => ?_)
                · refine ⟨_, _, c_impl_NameOk p0.Key, (FzAs.same _), ?_⟩
                  refine litE (m := 2) rfl ?_
                  refine And.intro (fun (h150 : (impl_NameOk p0.Key) = true) => ?_) (fun (h150 : (impl_NameOk p0.Key) = false) => ?_)
                  · refine ⟨_, _, c_impl_PlainOk p0.Text, (FzAs.same _), ?_⟩
                    refine litE (m := 3) rfl ?_
                    refine And.intro (fun (h151 : (impl_PlainOk p0.Text) = true) => ?_) (fun (h151 : (impl_PlainOk p0.Text) = false) => ?_)
                    · refine lenE (k := (p0.L).length) (by simp) (fun hN152 => ?_)
                      refine And.intro (fun _ => .v _) ?_
                      have hg : impl_polHeadOk p0 = ((((p0.L).length : Nat) : Int) == 0) := by
                        first | rfl | (simp only [impl_polHeadOk, h1, h2, h98, h120, h142, h143, h148, h149, h150, h151, cond_true, cond_false, Step.fin_stop, Step.fin_done, Fin.get_fin, Fin.get_done, Step.fin_next, Bool.not_true, Bool.not_false, Option.getD_some]; done) | (simp [impl_polHeadOk, h1, h2, h98, h120, h142, h143, h148, h149, h150, h151, cond_true, cond_false, Step.fin_stop, Step.fin_done, Fin.get_fin, Fin.get_done, Step.fin_next, Bool.not_true, Bool.not_false, Option.getD_some]; done) | (exfalso; simp_all; done)
                      exact congrArg (fun g : Bool => AV.one (.v (.bool g))) hg.symm
                    · refine And.intro (fun _ => .v _) ?_
                      have hg : impl_polHeadOk p0 = false := by
                        first | rfl | (simp only [impl_polHeadOk, h1, h2, h98, h120, h142, h143, h148, h149, h150, h151, cond_true, cond_false, Step.fin_stop, Step.fin_done, Fin.get_fin, Fin.get_done, Step.fin_next, Bool.not_true, Bool.not_false, Option.getD_some]; done) | (simp [impl_polHeadOk, h1, h2, h98, h120, h142, h143, h148, h149, h150, h151, cond_true, cond_false, Step.fin_stop, Step.fin_done, Fin.get_fin, Fin.get_done, Step.fin_next, Bool.not_true, Bool.not_false, Option.getD_some]; done) | (exfalso; simp_all; done)
                      exact congrArg (fun g : Bool => AV.one (.v (.bool g))) hg.symm
                  · refine And.intro (fun _ => .v _) ?_
                    have hg : impl_polHeadOk p0 = false := by
                      first | rfl | (simp only [impl_polHeadOk, h1, h2, h98, h120, h142, h143, h148, h149, h150, cond_true, cond_false, Step.fin_stop, Step.fin_done, Fin.get_fin, Fin.get_done, Step.fin_next, Bool.not_true, Bool.not_false, Option.getD_some]; done) | (simp [impl_polHeadOk, h1, h2, h98, h120, h142, h143, h148, h149, h150, cond_true, cond_false, Step.fin_stop, Step.fin_done, Fin.get_fin, Fin.get_done, Step.fin_next, Bool.not_true, Bool.not_false, Option.getD_some]; done) | (exfalso; simp_all; done)
                    exact congrArg (fun g : Bool => AV.one (.v (.bool g))) hg.symm
                · refine And.intro (fun _ => .v _) ?_
                  have hg : impl_polHeadOk p0 = false := by
                    first | rfl | (simp only [impl_polHeadOk, h1, h2, h98, h120, h142, h143, h148, h149, cond_true, cond_false, Step.fin_stop, Step.fin_done, Fin.get_fin, Fin.get_done, Step.fin_next, Bool.not_true, Bool.not_false, Option.getD_some]; done) | (simp [impl_polHeadOk, h1, h2, h98, h120, h142, h143, h148, h149, cond_true, cond_false, Step.fin_stop, Step.fin_done, Fin.get_fin, Fin.get_done, Step.fin_next, Bool.not_true, Bool.not_false, Option.getD_some]; done) | (exfalso; simp_all; done)
                  exact congrArg (fun g : Bool => AV.one (.v (.bool g))) hg.symm
              · refine And.intro (fun (h153 : (p0.Kind == 5) = true) => ?_) (fun (h153 : (p0.Kind == 5) = false) => ?_)
                · refine ⟨_, _, c_impl_within p0.N 0 2147483647, (FzAs.same _), ?_⟩
                  refine litE (m := 2) rfl ?_
                  refine And.intro (fun (h154 : (impl_within p0.N 0 2147483647) = true) => ?_) (fun (h154 : (impl_within p0.N 0 2147483647) = false) => ?_)
                  · refine ⟨_, _, c_impl_NameOk p0.Key, (FzAs.same _), ?_⟩
                    refine litE (m := 3) rfl ?_
                    refine And.intro (fun (h155 : (impl_NameOk p0.Key) = true) => ?_) (fun (h155 : (impl_NameOk p0.Key) = false) => ?_)
                    · refine And.intro (fun (h156 : (decide (p0.Text = (ByteArray.mk #[]))) = true) => ?_) (fun (h156 : (decide (p0.Text = (ByteArray.mk #[]))) = false) => ?_)
                      · refine lenE (k := (p0.L).length) (by simp) (fun hN157 => ?_)
                        refine And.intro (fun _ => .v _) ?_
                        have hg : impl_polHeadOk p0 = ((((p0.L).length : Nat) : Int) == 0) := by
                          first | rfl | (simp only [impl_polHeadOk, h1, h2, h98, h120, h142, h143, h148, h153, h154, h155, h156, cond_true, cond_false, Step.fin_stop, Step.fin_done, Fin.get_fin, Fin.get_done, Step.fin_next, Bool.not_true, Bool.not_false, Option.getD_some]; done) | (simp [impl_polHeadOk, h1, h2, h98, h120, h142, h143, h148, h153, h154, h155, h156, cond_true, cond_false, Step.fin_stop, Step.fin_done, Fin.get_fin, Fin.get_done, Step.fin_next, Bool.not_true, Bool.not_false, Option.getD_some]; done) | (exfalso; simp_all; done)
                        exact congrArg (fun g : Bool => AV.one (.v (.bool g))) hg.symm
                      · refine And.intro (fun _ => .v _) ?_
                        have hg : impl_polHeadOk p0 = false := by
                          first | rfl | (simp only [impl_polHeadOk, h1, h2, h98, h120, h142, h143, h148, h153, h154, h155, h156, cond_true, cond_false, Step.fin_stop, Step.fin_done, Fin.get_fin, Fin.get_done, Step.fin_next, Bool.not_true, Bool.not_false, Option.getD_some]; done) | (simp [impl_polHeadOk, h1, h2, h98, h120, h142, h143, h148, h153, h154, h155, h156, cond_true, cond_false, Step.fin_stop, Step.fin_done, Fin.get_fin, Fin.get_done, Step.fin_next, Bool.not_true, Bool.not_false, Option.getD_some]; done) | (exfalso; simp_all; done)
                        exact congrArg (fun g : Bool => AV.one (.v (.bool g))) hg.symm
                    · refine And.intro (fun _ => .v _) ?_
                      have hg : impl_polHeadOk p0 = false := by
                        first | rfl | (simp only [impl_polHeadOk, h1, h2, h98, h120, h142, h143, h148, h153, h154, h155, cond_true, cond_false, Step.fin_stop, Step.fin_done, Fin.get_fin, Fin.get_done, Step.fin_next, Bool.not_true, Bool.not_false, Option.getD_some]; done) | (simp [impl_polHeadOk, h1, h2, h98, h120, h142, h143, h148, h153, h154, h155, cond_true, cond_false, Step.fin_stop, Step.fin_done, Fin.get_fin, Fin.get_done, Step.fin_next, Bool.not_true, Bool.not_false, Option.getD_some]; done) | (exfalso; simp_all; done)
                      exact congrArg (fun g : Bool => AV.one (.v (.bool g))) hg.symm
                  · refine And.intro (fun _ => .v _) ?_
                    have hg : impl_polHeadOk p0 = false := by
                      first | rfl | (simp only [impl_polHeadOk, h1, h2, h98, h120, h142, h143, h148, h153, h154, cond_true, cond_false, Step.fin_stop, Step.fin_done, Fin.get_fin, Fin.get_done, Step.fin_next, Bool.not_true, Bool.not_false, Option.getD_some]; done) | (simp [impl_polHeadOk, h1, h2, h98, h120, h142, h143, h148, h153, h154, cond_true, cond_false, Step.fin_stop, Step.fin_done, Fin.get_fin, Fin.get_done, Step.fin_next, Bool.not_true, Bool.not_false, Option.getD_some]; done) | (exfalso; simp_all; done)
                    exact congrArg (fun g : Bool => AV.one (.v (.bool g))) hg.symm
                · refine And.intro (fun (h158 : (p0.Kind == 7) = true) => ?_) (fun (h158 : (p0.Kind == 7) = false) => ?_)
                  · refine And.intro (fun (h159 : (p0.Kind == 7) = true) => ?_) (fun (h159 : (p0.Kind == 7) = false) => ?_)
                    · refine And.intro (fun _ => .v _) ?_
                      have hg : impl_polHeadOk p0 = false := by
                        first | rfl | (simp only [impl_polHeadOk, h1, h2, h98, h120, h142, h143, h148, h153, h158, h159, cond_true, cond_false, Step.fin_stop, Step.fin_done, Fin.get_fin, Fin.get_done, Step.fin_next, Bool.not_true, Bool.not_false, Option.getD_some]; done) | (simp [impl_polHeadOk, h1, h2, h98, h120, h142, h143, h148, h153, h158, h159, cond_true, cond_false, Step.fin_stop, Step.fin_done, Fin.get_fin, Fin.get_done, Step.fin_next, Bool.not_true, Bool.not_false, Option.getD_some]; done) | (exfalso; simp_all; done)
                      exact congrArg (fun g : Bool => AV.one (.v (.bool g))) hg.symm
                    · refine And.intro (fun (h160 : (p0.Kind == 9) = true) => ?_) (fun (h160 : (p0.Kind == 9) = false) => ?_)
                      · refine And.intro (fun _ => .v _) ?_
                        have hg : impl_polHeadOk p0 = false := by
                          first | rfl | (simp only [impl_polHeadOk, h1, h2, h98, h120, h142, h143, h148, h153, h158, h159, h160, cond_true, cond_false, Step.fin_stop, Step.fin_done, Fin.get_fin, Fin.get_done, Step.fin_next, Bool.not_true, Bool.not_false, Option.getD_some]; done) | (simp [impl_polHeadOk, h1, h2, h98, h120, h142, h143, h148, h153, h158, h159, h160, cond_true, cond_false, Step.fin_stop, Step.fin_done, Fin.get_fin, Fin.get_done, Step.fin_next, Bool.not_true, Bool.not_false, Option.getD_some]; done) | (exfalso; simp_all; done)
                        exact congrArg (fun g : Bool => AV.one (.v (.bool g))) hg.symm
                      · refine And.intro (fun _ => .v _) ?_
                        have hg : impl_polHeadOk p0 = false := by
                          first | rfl | (simp only [impl_polHeadOk, h1, h2, h98, h120, h142, h143, h148, h153, h158, h159, h160, cond_true, cond_false, Step.fin_stop, Step.fin_done, Fin.get_fin, Fin.get_done, Step.fin_next, Bool.not_true, Bool.not_false, Option.getD_some]; done) | (simp [impl_polHeadOk, h1, h2, h98, h120, h142, h143, h148, h153, h158, h159, h160, cond_true, cond_false, Step.fin_stop, Step.fin_done, Fin.get_fin, Fin.get_done, Step.fin_next, Bool.not_true, Bool.not_false, Option.getD_some]; done) | (exfalso; simp_all; done)
                        exact congrArg (fun g : Bool => AV.one (.v (.bool g))) hg.symm
                  · refine And.intro (fun (h161 : (p0.Kind == 8) = true) => ?_) (fun (h161 : (p0.Kind == 8) = false) => ?_)
                    · refine And.intro (fun _ => .v _) ?_
                      have hg : impl_polHeadOk p0 = false := by
                        first | rfl | (simp only [impl_polHeadOk, h1, h2, h98, h120, h142, h143, h148, h153, h158, h161, cond_true, cond_false, Step.fin_stop, Step.fin_done, Fin.get_fin, Fin.get_done, Step.fin_next, Bool.not_true, Bool.not_false, Option.getD_some]; done) | (simp [impl_polHeadOk, h1, h2, h98, h120, h142, h143, h148, h153, h158, h161, cond_true, cond_false, Step.fin_stop, Step.fin_done, Fin.get_fin, Fin.get_done, Step.fin_next, Bool.not_true, Bool.not_false, Option.getD_some]; done) | (exfalso; simp_all; done)
                      exact congrArg (fun g : Bool => AV.one (.v (.bool g))) hg.symm
                    · refine And.intro (fun (h162 : (p0.Kind == 9) = true) => ?_) (fun (h162 : (p0.Kind == 9) = false) => ?_)
                      · refine And.intro (fun _ => .v _) ?_
                        have hg : impl_polHeadOk p0 = false := by
                          first | rfl | (simp only [impl_polHeadOk, h1, h2, h98, h120, h142, h143, h148, h153, h158, h161, h162, cond_true, cond_false, Step.fin_stop, Step.fin_done, Fin.get_fin, Fin.get_done, Step.fin_next, Bool.not_true, Bool.not_false, Option.getD_some]; done) | (simp [impl_polHeadOk, h1, h2, h98, h120, h142, h143, h148, h153, h158, h161, h162, cond_true, cond_false, Step.fin_stop, Step.fin_done, Fin.get_fin, Fin.get_done, Step.fin_next, Bool.not_true, Bool.not_false, Option.getD_some]; done) | (exfalso; simp_all; done)
                        exact congrArg (fun g : Bool => AV.one (.v (.bool g))) hg.symm
                      · refine And.intro (fun _ => .v _) ?_
                        have hg : impl_polHeadOk p0 = false := by
                          first | rfl | (simp only [impl_polHeadOk, h1, h2, h98, h120, h142, h143, h148, h153, h158, h161, h162, cond_true, cond_false, Step.fin_stop, Step.fin_done, Fin.get_fin, Fin.get_done, Step.fin_next, Bool.not_true, Bool.not_false, Option.getD_some]; done) | (simp [impl_polHeadOk, h1, h2, h98, h120, h142, h143, h148, h153, h158, h161, h162, cond_true, cond_false, Step.fin_stop, Step.fin_done, Fin.get_fin, Fin.get_done, Step.fin_next, Bool.not_true, Bool.not_false, Option.getD_some]; done) | (exfalso; simp_all; done)
                        exact congrArg (fun g : Bool => AV.one (.v (.bool g))) hg.symm
  · refine And.intro (fun (h163 : (p0.Kind == 1) = true) => ?_) (fun (h163 : (p0.Kind == 1) = false) => ?_)
    · refine And.intro (fun (h164 : (p0.Kind == 1) = true) => ?_) (fun (h164 : (p0.Kind == 1) = false) => ?_)
      · refine And.intro (fun _ => .v _) ?_
        have hg : impl_polHeadOk p0 = false := by
          first | rfl | (simp only [impl_polHeadOk, h1, h163, h164, cond_true, cond_false, Step.fin_stop, Step.fin_done, Fin.get_fin, Fin.get_done, Step.fin_next, Bool.not_true, Bool.not_false, Option.getD_some]; done) | (simp [impl_polHeadOk, h1, h163, h164, cond_true, cond_false, Step.fin_stop, Step.fin_done, Fin.get_fin, Fin.get_done, Step.fin_next, Bool.not_true, Bool.not_false, Option.getD_some]; done) | (exfalso; simp_all; done)
        exact congrArg (fun g : Bool => AV.one (.v (.bool g))) hg.symm
      · refine And.intro (fun (h165 : (p0.Kind == 3) = true) => ?_) (fun (h165 : (p0.Kind == 3) = false) => ?_)
        · refine ⟨_, _, c_impl_within p0.N 0 2147483647, (FzAs.same _), ?_⟩
          refine litE (m := 2) rfl ?_
          refine And.intro (fun (h166 : (impl_within p0.N 0 2147483647) = true) => ?_) (fun (h166 : (impl_within p0.N 0 2147483647) = false) => ?_)
          · refine And.intro (fun (h167 : (decide (p0.Key = (ByteArray.mk #[]))) = true) => ?_) (fun (h167 : (decide (p0.Key = (ByteArray.mk #[]))) = false) => ?_)
            · refine And.intro (fun (h168 : (decide (p0.Text = (ByteArray.mk #[]))) = true) => ?_) (fun (h168 : (decide (p0.Text = (ByteArray.mk #[]))) = false) => ?_)
              · refine lenE (k := (p0.L).length) (by simp) (fun hN169 => ?_)
                refine And.intro (fun _ => .v _) ?_
                have hg : impl_polHeadOk p0 = ((((p0.L).length : Nat) : Int) == 0) := by
                  first | rfl | (simp only [impl_polHeadOk, h1, h163, h164, h165, h166, h167, h168, cond_true, cond_false, Step.fin_stop, Step.fin_done, Fin.get_fin, Fin.get_done, Step.fin_next, Bool.not_true, Bool.not_false, Option.getD_some]; done) | (simp [impl_polHeadOk, h1, h163, h164, h165, h166, h167, h168, cond_true, cond_false, Step.fin_stop, Step.fin_done, Fin.get_fin, Fin.get_done, Step.fin_next, Bool.not_true, Bool.not_false, Option.getD_some]; done) | (exfalso; simp_all; done)
                exact congrArg (fun g : Bool => AV.one (.v (.bool g))) hg.symm
              · refine And.intro (fun _ => .v _) ?_
                have hg : impl_polHeadOk p0 = false := by
                  first | rfl | (simp only [impl_polHeadOk, h1, h163, h164, h165, h166, h167, h168, cond_true, cond_false, Step.fin_stop, Step.fin_done, Fin.get_fin, Fin.get_done, Step.fin_next, Bool.not_true, Bool.not_false, Option.getD_some]; done) | (simp [impl_polHeadOk, h1, h163, h164, h165, h166, h167, h168, cond_true, cond_false, Step.fin_stop, Step.fin_done, Fin.get_fin, Fin.get_done, Step.fin_next, Bool.not_true, Bool.not_false, Option.getD_some]; done) | (exfalso; simp_all; done)
                exact congrArg (fun g : Bool => AV.one (.v (.bool g))) hg.symm
            · refine And.intro (fun _ => .v _) ?_
              have hg : impl_polHeadOk p0 = false := by
                first | rfl | (simp only [impl_polHeadOk, h1, h163, h164, h165, h166, h167, cond_true, cond_false, Step.fin_stop, Step.fin_done, Fin.get_fin, Fin.get_done, Step.fin_next, Bool.not_true, Bool.not_false, Option.getD_some]; done) | (simp [impl_polHeadOk, h1, h163, h164, h165, h166, h167, cond_true, cond_false, Step.fin_stop, Step.fin_done, Fin.get_fin, Fin.get_done, Step.fin_next, Bool.not_true, Bool.not_false, Option.getD_some]; done) | (exfalso; simp_all; done)
              exact congrArg (fun g : Bool => AV.one (.v (.bool g))) hg.symm
          · refine And.intro (fun _ => .v _) ?_
            have hg : impl_polHeadOk p0 = false := by
              first | rfl | (simp only [impl_polHeadOk, h1, h163, h164, h165, h166, cond_true, cond_false, Step.fin_stop, Step.fin_done, Fin.get_fin, Fin.get_done, Step.fin_next, Bool.not_true, Bool.not_false, Option.getD_some]; done) | (simp [impl_polHeadOk, h1, h163, h164, h165, h166, cond_true, cond_false, Step.fin_stop, Step.fin_done, Fin.get_fin, Fin.get_done, Step.fin_next, Bool.not_true, Bool.not_false, Option.getD_some]; done) | (exfalso; simp_all; done)
            exact congrArg (fun g : Bool => AV.one (.v (.bool g))) hg.symm
        · refine And.intro (fun (h170 : (p0.Kind == 4) = true) => ?_) (fun (h170 : (p0.Kind == 4) = false) => ?_)
          · refine And.intro (fun (h171 : (p0.N == 0) = true) => ?_) (fun (h171 : (p0.N == 0) = false) => ?_)
            · refine ⟨_, _, c_impl_NameOk p0.Key, (FzAs.same _), ?_⟩
              refine litE (m := 2) rfl ?_
              refine And.intro (fun (h172 : (impl_NameOk p0.Key) = true) => ?_) (fun (h172 : (impl_NameOk p0.Key) = false) => ?_)
              · refine ⟨_, _, c_impl_PlainOk p0.Text, (FzAs.same _), ?_⟩
                refine litE (m := 3) rfl ?_
                refine And.intro (fun (h173 : (impl_PlainOk p0.Text) = true) => ?_) (fun (h173 : (impl_PlainOk p0.Text) = false) => ?_)
                · refine lenE (k := (p0.L).length) (by simp) (fun hN174 => ?_)
                  refine And.intro (fun _ => .v _) ?_
                  have hg : impl_polHeadOk p0 = ((((p0.L).length : Nat) : Int) == 0) := by
                    first | rfl | (simp only [impl_polHeadOk, h1, h163, h164, h165, h170, h171, h172, h173, cond_true, cond_false, Step.fin_stop, Step.fin_done, Fin.get_fin, Fin.get_done, Step.fin_next, Bool.not_true, Bool.not_false, Option.getD_some]; done) | (simp [impl_polHeadOk, h1, h163, h164, h165, h170, h171, h172, h173, cond_true, cond_false, Step.fin_stop, Step.fin_done, Fin.get_fin, Fin.get_done, Step.fin_next, Bool.not_true, Bool.not_false, Option.getD_some]; done) | (exfalso; simp_all; done)
                  exact congrArg (fun g : Bool => AV.one (.v (.bool g))) hg.symm
                · refine And.intro (fun _ => .v _) ?_
                  have hg : impl_polHeadOk p0 = false := by
                    first | rfl | (simp only [impl_polHeadOk, h1, h163, h164, h165, h170, h171, h172, h173, cond_true, cond_false, Step.fin_stop, Step.fin_done, Fin.get_fin, Fin.get_done, Step.fin_next, Bool.not_true, Bool.not_false, Option.getD_some]; done) | (simp [impl_polHeadOk, h1, h163, h164, h165, h170, h171, h172, h173, cond_true, cond_false, Step.fin_stop, Step.fin_done, Fin.get_fin, Fin.get_done, Step.fin_next, Bool.not_true, Bool.not_false, Option.getD_some]; done) | (exfalso; simp_all; done)
                  exact congrArg (fun g : Bool => AV.one (.v (.bool g))) hg.symm
              · refine And.intro (fun _ => .v _) ?_
                have hg : impl_polHeadOk p0 = false := by
                  first | rfl | (simp only [impl_polHeadOk, h1, h163, h164, h165, h170, h171, h172, cond_true, cond_false, Step.fin_stop, Step.fin_done, Fin.get_fin, Fin.get_done, Step.fin_next, Bool.not_true, Bool.not_false, Option.getD_some]; done) | (simp [impl_polHeadOk, h1, h163, h164, h165, h170, h171, h172, cond_true, cond_false, Step.fin_stop, Step.fin_done, Fin.get_fin, Fin.get_done, Step.fin_next, Bool.not_true, Bool.not_false, Option.getD_some]; done) | (exfalso; simp_all; done)
                exact congrArg (fun g : Bool => AV.one (.v (.bool g))) hg.symm
            · refine And.intro (fun _ => .v _) ?_
              have hg : impl_polHeadOk p0 = false := by
                first | rfl | (simp only [impl_polHeadOk, h1, h163, h164, h165, h170, h171, cond_true, cond_false, Step.fin_stop, Step.fin_done, Fin.get_fin, Fin.get_done, Step.fin_next, Bool.not_true, Bool.not_false, Option.getD_some]; done) | (simp [impl_polHeadOk, h1, h163, h164, h165, h170, h171, cond_true, cond_false, Step.fin_stop, Step.fin_done, Fin.get_fin, Fin.get_done, Step.fin_next, Bool.not_true, Bool.not_false, Option.getD_some]; done) | (exfalso; simp_all; done)
              exact congrArg (fun g : Bool => AV.one (.v (.bool g))) hg.symm
          · refine And.intro (fun (h175 : (p0.Kind == 5) = true) => ?_) (fun (h175 : (p0.Kind == 5) = false) => ?_)
            · refine ⟨_, _, c_impl_within p0.N 0 2147483647, (FzAs.same _), ?_⟩
              refine litE (m := 2) rfl ?_
              refine And.intro (fun (h176 : (impl_within p0.N 0 2147483647) = true) => ?_) (fun (h176 : (impl_within p0.N 0 2147483647) = false) => ?_)
              · refine ⟨_, _, c_impl_NameOk p0.Key, (FzAs.same _), ?_⟩
                refine litE (m := 3) rfl ?_
                refine And.intro (fun (h177 : (impl_NameOk p0.Key) = true) => ?_) (fun (h177 : (impl_NameOk p0.Key) = false) => ?_)
                · refine And.intro (fun (h178 : (decide (p0.Text = (ByteArray.mk #[]))) = true) => ?_) (fun (h178 : (decide (p0.Text = (ByteArray.mk #[]))) = false) => ?_)
                  · refine lenE (k := (p0.L).length) (by simp) (fun hN179 => ?_)
                    refine And.intro (fun _ => .v _) ?_
                    have hg : impl_polHeadOk p0 = ((((p0.L).length : Nat) : Int) == 0) := by
                      first | rfl | (simp only [impl_polHeadOk, h1, h163, h164, h165, h170, h175, h176, h177, h178, cond_true, cond_false, Step.fin_stop, Step.fin_done, Fin.get_fin, Fin.get_done, Step.fin_next, Bool.not_true, Bool.not_false, Option.getD_some]; done) | (simp [impl_polHeadOk, h1, h163, h164, h165, h170, h175, h176, h177, h178, cond_true, cond_false, Step.fin_stop, Step.fin_done, Fin.get_fin, Fin.get_done, Step.fin_next, Bool.not_true, Bool.not_false, Option.getD_some]; done) | (exfalso; simp_all; done)
                    exact congrArg (fun g : Bool => AV.one (.v (.bool g))) hg.symm
                  · refine And.intro (fun _ => .v _) ?_
                    have hg : impl_polHeadOk p0 = false := by
                      first | rfl | (simp only [impl_polHeadOk, h1, h163, h164, h165, h170, h175, h176, h177, h178, cond_true, cond_false, Step.fin_stop, Step.fin_done, Fin.get_fin, Fin.get_done, Step.fin_next, Bool.not_true, Bool.not_false, Option.getD_some]; done) | (simp [impl_polHeadOk, h1, h163, h164, h165, h170, h175, h176, h177, h178, cond_true, cond_false, Step.fin_stop, Step.fin_done, Fin.get_fin, Fin.get_done, Step.fin_next, Bool.not_true, Bool.not_false, Option.getD_some]; done) | (exfalso; simp_all; done)
                    exact congrArg (fun g : Bool => AV.one (.v (.bool g))) hg.symm
                · refine And.intro (fun _ => .v _) ?_
                  have hg : impl_polHeadOk p0 = false := by
                    first | rfl | (simp only [impl_polHeadOk, h1, h163, h164, h165, h170, h175, h176, h177, cond_true, cond_false, Step.fin_stop, Step.fin_done, Fin.get_fin, Fin.get_done, Step.fin_next, Bool.not_true, Bool.not_false, Option.getD_some]; done) | (simp [impl_polHeadOk, h1, h163, h164, h165, h170, h175, h176, h177, cond_true, cond_false, Step.fin_stop, Step.fin_done, Fin.get_fin, Fin.get_done, Step.fin_next, Bool.not_true, Bool.not_false, Option.getD_some]; done) | (exfalso; simp_all; done)
                  exact congrArg (fun g : Bool => AV.one (.v (.bool g))) hg.symm
              · refine And.intro (fun _ => .v _) ?_
                have hg : impl_polHeadOk p0 = false := by
                  first | rfl | (simp only [impl_polHeadOk, h1, h163, h164, h165, h170, h175, h176, cond_true, cond_false, Step.fin_stop, Step.fin_done, Fin.get_fin, Fin.get_done, Step.fin_next, Bool.not_true, Bool.not_false, Option.getD_some]; done) | (simp [impl_polHeadOk, h1, h163, h164, h165, h170, h175, h176, cond_true, cond_false, Step.fin_stop, Step.fin_done, Fin.get_fin, Fin.get_done, Step.fin_next, Bool.not_true, Bool.not_false, Option.getD_some]; done) | (exfalso; simp_all; done)
                exact congrArg (fun g : Bool => AV.one (.v (.bool g))) hg.symm
            · refine And.intro (fun (h180 : (p0.Kind == 7) = true) => ?_) (fun (h180 : (p0.Kind == 7) = false) => ?_)
              · refine And.intro (fun (h181 : (p0.Kind == 7) = true) => ?_) (fun (h181 : (p0.Kind == 7) = false) => ?_)
                · refine And.intro (fun _ => .v _) ?_
                  have hg : impl_polHeadOk p0 = false := by
                    first | rfl | (simp only [impl_polHeadOk, h1, h163, h164, h165, h170, h175, h180, h181, cond_true, cond_false, Step.fin_stop, Step.fin_done, Fin.get_fin, Fin.get_done, Step.fin_next, Bool.not_true, Bool.not_false, Option.getD_some]; done) | (simp [impl_polHeadOk, h1, h163, h164, h165, h170, h175, h180, h181, cond_true, cond_false, Step.fin_stop, Step.fin_done, Fin.get_fin, Fin.get_done, Step.fin_next, Bool.not_true, Bool.not_false, Option.getD_some]; done) | (exfalso; simp_all; done)
                  exact congrArg (fun g : Bool => AV.one (.v (.bool g))) hg.symm
                · refine And.intro (fun (h182 : (p0.Kind == 9) = true) => ?_) (fun (h182 : (p0.Kind == 9) = false) => ?_)
                  · refine And.intro (fun _ => .v _) ?_
                    have hg : impl_polHeadOk p0 = false := by
                      first | rfl | (simp only [impl_polHeadOk, h1, h163, h164, h165, h170, h175, h180, h181, h182, cond_true, cond_false, Step.fin_stop, Step.fin_done, Fin.get_fin, Fin.get_done, Step.fin_next, Bool.not_true, Bool.not_false, Option.getD_some]; done) | (simp [impl_polHeadOk, h1, h163, h164, h165, h170, h175, h180, h181, h182, cond_true, cond_false, Step.fin_stop, Step.fin_done, Fin.get_fin, Fin.get_done, Step.fin_next, Bool.not_true, Bool.not_false, Option.getD_some]; done) | (exfalso; simp_all; done)
                    exact congrArg (fun g : Bool => AV.one (.v (.bool g))) hg.symm
                  · refine And.intro (fun _ => .v _) ?_
                    have hg : impl_polHeadOk p0 = false := by
                      first | rfl | (simp only [impl_polHeadOk, h1, h163, h164, h165, h170, h175, h180, h181, h182, cond_true, cond_false, Step.fin_stop, Step.fin_done, Fin.get_fin, Fin.get_done, Step.fin_next, Bool.not_true, Bool.not_false, Option.getD_some]; done) | (simp [impl_polHeadOk, h1, h163, h164, h165, h170, h175, h180, h181, h182, cond_true, cond_false, Step.fin_stop, Step.fin_done, Fin.get_fin, Fin.get_done, Step.fin_next, Bool.not_true, Bool.not_false, Option.getD_some]; done) | (exfalso; simp_all; done)
                    exact congrArg (fun g : Bool => AV.one (.v (.bool g))) hg.symm
              · refine And.intro (fun (h183 : (p0.Kind == 8) = true) => ?_) (fun (h183 : (p0.Kind == 8) = false) => ?_)
                · refine And.intro (fun _ => .v _) ?_
                  have hg : impl_polHeadOk p0 = false := by
                    first | rfl | (simp only [impl_polHeadOk, h1, h163, h164, h165, h170, h175, h180, h183, cond_true, cond_false, Step.fin_stop, Step.fin_done, Fin.get_fin, Fin.get_done, Step.fin_next, Bool.not_true, Bool.not_false, Option.getD_some]; done) | (simp [impl_polHeadOk, h1, h163, h164, h165, h170, h175, h180, h183, cond_true, cond_false, Step.fin_stop, Step.fin_done, Fin.get_fin, Fin.get_done, Step.fin_next, Bool.not_true, Bool.not_false, Option.getD_some]; done) | (exfalso; simp_all; done)
                  exact congrArg (fun g : Bool => AV.one (.v (.bool g))) hg.symm
                · refine And.intro (fun (h184 : (p0.Kind == 9) = true) => ?_) (fun (h184 : (p0.Kind == 9) = false) => ?_)
                  · refine And.intro (fun _ => .v _) ?_
                    have hg : impl_polHeadOk p0 = false := by
                      first | rfl | (simp only [impl_polHeadOk, h1, h163, h164, h165, h170, h175, h180, h183, h184, cond_true, cond_false, Step.fin_stop, Step.fin_done, Fin.get_fin, Fin.get_done, Step.fin_next, Bool.not_true, Bool.not_false, Option.getD_some]; done) | (simp [impl_polHeadOk, h1, h163, h164, h165, h170, h175, h180, h183, h184, cond_true, cond_false, Step.fin_stop, Step.fin_done, Fin.get_fin, Fin.get_done, Step.fin_next, Bool.not_true, Bool.not_false, Option.getD_some]; done) | (exfalso; simp_all; done)
                    exact congrArg (fun g : Bool => AV.one (.v (.bool g))) hg.symm
                  · refine And.intro (fun _ => .v _) ?_
                    have hg : impl_polHeadOk p0 = false := by
                      first | rfl | (simp only [impl_polHeadOk, h1, h163, h164, h165, h170, h175, h180, h183, h184, cond_true, cond_false, Step.fin_stop, Step.fin_done, Fin.get_fin, Fin.get_done, Step.fin_next, Bool.not_true, Bool.not_false, Option.getD_some]; done) | (simp [impl_polHeadOk, h1, h163, h164, h165, h170, h175, h180, h183, h184, cond_true, cond_false, Step.fin_stop, Step.fin_done, Fin.get_fin, Fin.get_done, Step.fin_next, Bool.not_true, Bool.not_false, Option.getD_some]; done) | (exfalso; simp_all; done)
                    exact congrArg (fun g : Bool => AV.one (.v (.bool g))) hg.symm
    · refine And.intro (fun (h185 : (p0.Kind == 2) = true) => ?_) (fun (h185 : (p0.Kind == 2) = false) => ?_)
      · refine And.intro (fun (h186 : (p0.Kind == 2) = true) => ?_) (fun (h186 : (p0.Kind == 2) = false) => ?_)
        · refine And.intro (fun _ => .v _) ?_
          have hg : impl_polHeadOk p0 = false := by
            first | rfl | (simp only [impl_polHeadOk, h1, h163, h185, h186, cond_true, cond_false, Step.fin_stop, Step.fin_done, Fin.get_fin, Fin.get_done, Step.fin_next, Bool.not_true, Bool.not_false, Option.getD_some]; done) | (simp [impl_polHeadOk, h1, h163, h185, h186, cond_true, cond_false, Step.fin_stop, Step.fin_done, Fin.get_fin, Fin.get_done, Step.fin_next, Bool.not_true, Bool.not_false, Option.getD_some]; done) | (exfalso; simp_all; done)
          exact congrArg (fun g : Bool => AV.one (.v (.bool g))) hg.symm
        · refine And.intro (fun (h187 : (p0.Kind == 3) = true) => ?_) (fun (h187 : (p0.Kind == 3) = false) => ?_)
          · refine ⟨_, _, c_impl_within p0.N 0 2147483647, (FzAs.same _), ?_⟩
            refine litE (m := 2) rfl ?_
            refine And.intro (fun (h188 : (impl_within p0.N 0 2147483647) = true) => ?_) (fun (h188 : (impl_within p0.N 0 2147483647) = false) => ?_)
            · refine And.intro (fun (h189 : (decide (p0.Key = (ByteArray.mk #[]))) = true) => ?_) (fun (h189 : (decide (p0.Key = (ByteArray.mk #[]))) = false) => ?_)
              · refine And.intro (fun (h190 : (decide (p0.Text = (ByteArray.mk #[]))) = true) => ?_) (fun (h190 : (decide (p0.Text = (ByteArray.mk #[]))) = false) => ?_)
                · refine lenE (k := (p0.L).length) (by simp) (fun hN191 => ?_)
                  refine And.intro (fun _ => .v _) ?_
                  have hg : impl_polHeadOk p0 = ((((p0.L).length : Nat) : Int) == 0) := by
                    first | rfl | (simp only [impl_polHeadOk, h1, h163, h185, h186, h187, h188, h189, h190, cond_true, cond_false, Step.fin_stop, Step.fin_done, Fin.get_fin, Fin.get_done, Step.fin_next, Bool.not_true, Bool.not_false, Option.getD_some]; done) | (simp [impl_polHeadOk, h1, h163, h185, h186, h187, h188, h189, h190, cond_true, cond_false, Step.fin_stop, Step.fin_done, Fin.get_fin, Fin.get_done, Step.fin_next, Bool.not_true, Bool.not_false, Option.getD_some]; done) | (exfalso; simp_all; done)
                  exact congrArg (fun g : Bool => AV.one (.v (.bool g))) hg.symm
                · refine And.intro (fun _ => .v _) ?_
                  have hg : impl_polHeadOk p0 = false := by
                    first | rfl | (simp only [impl_polHeadOk, h1, h163, h185, h186, h187, h188, h189, h190, cond_true, cond_false, Step.fin_stop, Step.fin_done, Fin.get_fin, Fin.get_done, Step.fin_next, Bool.not_true, Bool.not_false, Option.getD_some]; done) | (simp [impl_polHeadOk, h1, h163, h185, h186, h187, h188, h189, h190, cond_true, cond_false, Step.fin_stop, Step.fin_done, Fin.get_fin, Fin.get_done, Step.fin_next, Bool.not_true, Bool.not_false, Option.getD_some]; done) | (exfalso; simp_all; done)
                  exact congrArg (fun g : Bool => AV.one (.v (.bool g))) hg.symm
              · refine And.intro (fun _ => .v _) ?_
                have hg : impl_polHeadOk p0 = false := by
                  first | rfl | (simp only [impl_polHeadOk, h1, h163, h185, h186, h187, h188, h189, cond_true, cond_false, Step.fin_stop, Step.fin_done, Fin.get_fin, Fin.get_done, Step.fin_next, Bool.not_true, Bool.not_false, Option.getD_some]; done) | (simp [impl_polHeadOk, h1, h163, h185, h186, h187, h188, h189, cond_true, cond_false, Step.fin_stop, Step.fin_done, Fin.get_fin, Fin.get_done, Step.fin_next, Bool.not_true, Bool.not_false, Option.getD_some]; done) | (exfalso; simp_all; done)
                exact congrArg (fun g : Bool => AV.one (.v (.bool g))) hg.symm
            · refine And.intro (fun _ => .v _) ?_
              have hg : impl_polHeadOk p0 = false := by
                first | rfl | (simp only [impl_polHeadOk, h1, h163, h185, h186, h187, h188, cond_true, cond_false, Step.fin_stop, Step.fin_done, Fin.get_fin, Fin.get_done, Step.fin_next, Bool.not_true, Bool.not_false, Option.getD_some]; done) | (simp [impl_polHeadOk, h1, h163, h185, h186, h187, h188, cond_true, cond_false, Step.fin_stop, Step.fin_done, Fin.get_fin, Fin.get_done, Step.fin_next, Bool.not_true, Bool.not_false, Option.getD_some]; done) | (exfalso; simp_all; done)
              exact congrArg (fun g : Bool => AV.one (.v (.bool g))) hg.symm
          · refine And.intro (fun (h192 : (p0.Kind == 4) = true) => ?_) (fun (h192 : (p0.Kind == 4) = false) => ?_)
            · refine And.intro (fun (h193 : (p0.N == 0) = true) => ?_) (fun (h193 : (p0.N == 0) = false) => ?_)
              · refine ⟨_, _, c_impl_NameOk p0.Key, (FzAs.same _), ?_⟩
                refine litE (m := 2) rfl ?_
                refine And.intro (fun (h194 : (impl_NameOk p0.Key) = true) => ?_) (fun (h194 : (impl_NameOk p0.Key) = false) => ?_)
                · refine ⟨_, _, c_impl_PlainOk p0.Text, (FzAs.same _), ?_⟩
                  refine litE (m := 3) rfl ?_
                  refine And.intro (fun (h195 : (impl_PlainOk p0.Text) = true) => ?_) (fun (h195 : (impl_PlainOk p0.Text) = false) => ?_)
                  · refine lenE (k := (p0.L).length) (by simp) (fun hN196 => ?_)
                    refine And.intro (fun _ => .v _) ?_
                    have hg : impl_polHeadOk p0 = ((((p0.L).length : Nat) : Int) == 0) := by
                      first | rfl | (simp only [impl_polHeadOk, h1, h163, h185, h186, h187, h192, h193, h194, h195, cond_true, cond_false, Step.fin_stop, Step.fin_done, Fin.get_fin, Fin.get_done, Step.fin_next, Bool.not_true, Bool.not_false, Option.getD_some]; done) | (simp [impl_polHeadOk, h1, h163, h185, h186, h187, h192, h193, h194, h195, cond_true, cond_false, Step.fin_stop, Step.fin_done, Fin.get_fin, Fin.get_done, Step.fin_next, Bool.not_true, Bool.not_false, Option.getD_some]; done) | (exfalso; simp_all; done)
                    exact congrArg (fun g : Bool => AV.one (.v (.bool g))) hg.symm
                  · refine And.intro (fun _ => .v _) ?_
                    have hg : impl_polHeadOk p0 = false := by
                      first | rfl | (simp only [impl_polHeadOk, h1, h163, h185, h186, h187, h192, h193, h194, h195, cond_true, cond_false, Step.fin_stop, Step.fin_done, Fin.get_fin, Fin.get_done, Step.fin_next, Bool.not_true, Bool.not_false, Option.getD_some]; done) | (simp [impl_polHeadOk, h1, h163, h185, h186, h187, h192, h193, h194, h195, cond_true, cond_false, Step.fin_stop, Step.fin_done, Fin.get_fin, Fin.get_done, Step.fin_next, Bool.not_true, Bool.not_false, Option.getD_some]; done) | (exfalso; simp_all; done)
                    exact congrArg (fun g : Bool => AV.one (.v (.bool g))) hg.symm
                · refine And.intro (fun _ => .v _) ?_
                  have hg : impl_polHeadOk p0 = false := by
                    first | rfl | (simp only [impl_polHeadOk, h1, h163, h185, h186, h187, h192, h193, h194, cond_true, cond_false, Step.fin_stop, Step.fin_done, Fin.get_fin, Fin.get_done, Step.fin_next, Bool.not_true, Bool.not_false, Option.getD_some]; done) | (simp [impl_polHeadOk, h1, h163, h185, h186, h187, h192, h193, h194, cond_true, cond_false, Step.fin_stop, Step.fin_done, Fin.get_fin, Fin.get_done, Step.fin_next, Bool.not_true, Bool.not_false, Option.getD_some]; done) | (exfalso; simp_all; done)
                  exact congrArg (fun g : Bool => AV.one (.v (.bool g))) hg.symm
              · refine And.intro (fun _ => .v _) ?_
                have hg : impl_polHeadOk p0 = false := by
                  first | rfl | (simp only [impl_polHeadOk, h1, h163, h185, h186, h187, h192, h193, cond_true, cond_false, Step.fin_stop, Step.fin_done, Fin.get_fin, Fin.get_done, Step.fin_next, Bool.not_true, Bool.not_false, Option.getD_some]; done) | (simp [impl_polHeadOk, h1, h163, h185, h186, h187, h192, h193, cond_true, cond_false, Step.fin_stop, Step.fin_done, Fin.get_fin, Fin.get_done, Step.fin_next, Bool.not_true, Bool.not_false, Option.getD_some]; done) | (exfalso; simp_all; done)
                exact congrArg (fun g : Bool => AV.one (.v (.bool g))) hg.symm
            · refine And.intro (fun (h197 : (p0.Kind == 5) = true) => ?_) (fun (h197 : (p0.Kind == 5) = false) => ?_)
              · refine ⟨_, _, c_impl_within p0.N 0 2147483647, (FzAs.same _), ?_⟩
                refine litE (m := 2) rfl ?_
                refine And.intro (fun (h198 : (impl_within p0.N 0 2147483647) = true) => ?_) (fun (h198 : (impl_within p0.N 0 2147483647) = false) => ?_)
                · refine ⟨_, _, c_impl_NameOk p0.Key, (FzAs.same _), ?_⟩
                  refine litE (m := 3) rfl ?_
                  refine And.intro (fun (h199 : (impl_NameOk p0.Key) = true) => ?_) (fun (h199 : (impl_NameOk p0.Key) = false) => ?_)
                  · refine And.intro (fun (h200 : (decide (p0.Text = (ByteArray.mk #[]))) = true) => ?_) (fun (h200 : (decide (p0.Text = (ByteArray.mk #[]))) = false) => ?_)
                    · refine lenE (k := (p0.L).length) (by simp) (fun hN201 => ?_)
                      refine And.intro (fun _ => .v _) ?_
                      have hg : impl_polHeadOk p0 = ((((p0.L).length : Nat) : Int) == 0) := by
                        first | rfl | (simp only [impl_polHeadOk, h1, h163, h185, h186, h187, h192, h197, h198, h199, h200, cond_true, cond_false, Step.fin_stop, Step.fin_done, Fin.get_fin, Fin.get_done, Step.fin_next, Bool.not_true, Bool.not_false, Option.getD_some]; done) | (simp [impl_polHeadOk, h1, h163, h185, h186, h187, h192, h197, h198, h199, h200, cond_true, cond_false, Step.fin_stop, Step.fin_done, Fin.get_fin, Fin.get_done, Step.fin_next, Bool.not_true, Bool.not_false, Option.getD_some]; done) | (exfalso; simp_all; done)
                      exact congrArg (fun g : Bool => AV.one (.v (.bool g))) hg.symm
                    · refine And.intro (fun _ => .v _) ?_
                      have hg : impl_polHeadOk p0 = false := by
                        first | rfl | (simp only [impl_polHeadOk, h1, h163, h185, h186, h187, h192, h197, h198, h199, h200, cond_true, cond_false, Step.fin_stop, Step.fin_done, Fin.get_fin, Fin.get_done, Step.fin_next, Bool.not_true, Bool.not_false, Option.getD_some]; done) | (simp [impl_polHeadOk, h1, h163, h185, h186, h187, h192, h197, h198, h199, h200, cond_true, cond_false, Step.fin_stop, Step.fin_done, Fin.get_fin, Fin.get_done, Step.fin_next, Bool.not_true, Bool.not_false, Option.getD_some]; done) | (exfalso; simp_all; done)
                      exact congrArg (fun g : Bool => AV.one (.v (.bool g))) hg.symm
                  · refine And.intro (fun _ => .v _) ?_
                    have hg : impl_polHeadOk p0 = false := by
                      first | rfl | (simp only [impl_polHeadOk, h1, h163, h185, h186, h187, h192, h197, h198, h199, cond_true, cond_false, Step.fin_stop, Step.fin_done, Fin.get_fin, Fin.get_done, Step.fin_next, Bool.not_true, Bool.not_false, Option.getD_some]; done) | (simp [impl_polHeadOk, h1, h163, h185, h186, h187, h192, h197, h198, h199, cond_true, cond_false, Step.fin_stop, Step.fin_done, Fin.get_fin, Fin.get_done, Step.fin_next, Bool.not_true, Bool.not_false, Option.getD_some]; done) | (exfalso; simp_all; done)
                    exact congrArg (fun g : Bool => AV.one (.v (.bool g))) hg.symm
                · refine And.intro (fun _ => .v _) ?_
                  have hg : impl_polHeadOk p0 = false := by
                    first | rfl | (simp only [impl_polHeadOk, h1, h163, h185, h186, h187, h192, h197, h198, cond_true, cond_false, Step.fin_stop, Step.fin_done, Fin.get_fin, Fin.get_done, Step.fin_next, Bool.not_true, Bool.not_false, Option.getD_some]; done) | (simp [impl_polHeadOk, h1, h163, h185, h186, h187, h192, h197, h198, cond_true, cond_false, Step.fin_stop, Step.fin_done, Fin.get_fin, Fin.get_done, Step.fin_next, Bool.not_true, Bool.not_false, Option.getD_some]; done) | (exfalso; simp_all; done)
                  exact congrArg (fun g : Bool => AV.one (.v (.bool g))) hg.symm
              · refine And.intro (fun (h202 : (p0.Kind == 7) = true) => ?_) (fun (h202 : (p0.Kind == 7) = false) => ?_)
                · refine And.intro (fun (h203 : (p0.Kind == 7) = true) => ?_) (fun (h203 : (p0.Kind == 7) = false) => ?_)
                  · refine And.intro (fun _ => .v _) ?_
                    have hg : impl_polHeadOk p0 = false := by
                      first | rfl | (simp only [impl_polHeadOk, h1, h163, h185, h186, h187, h192, h197, h202, h203, cond_true, cond_false, Step.fin_stop, Step.fin_done, Fin.get_fin, Fin.get_done, Step.fin_next, Bool.not_true, Bool.not_false, Option.getD_some]; done) | (simp [impl_polHeadOk, h1, h163, h185, h186, h187, h192, h197, h202, h203, cond_true, cond_false, Step.fin_stop, Step.fin_done, Fin.get_fin, Fin.get_done, Step.fin_next, Bool.not_true, Bool.not_false, Option.getD_some]; done) | (exfalso; simp_all; done)
                    exact congrArg (fun g : Bool => AV.one (.v (.bool g))) hg.symm
                  · refine And.intro (fun (h204 : (p0.Kind == 9) = true) => ?_) (fun (h204 : (p0.Kind == 9) = false) => ?_)
                    · refine And.intro (fun _ => .v _) ?_
                      have hg : impl_polHeadOk p0 = false := by
                        first | rfl | (simp only [impl_polHeadOk, h1, h163, h185, h186, h187, h192, h197, h202, h203, h204, cond_true, cond_false, Step.fin_stop, Step.fin_done, Fin.get_fin, Fin.get_done, Step.fin_next, Bool.not_true, Bool.not_false, Option.getD_some]; done) | (simp [impl_polHeadOk, h1, h163, h185, h186, h187, h192, h197, h202, h203, h204, cond_true, cond_false, Step.fin_stop, Step.fin_done, Fin.get_fin, Fin.get_done, Step.fin_next, Bool.not_true, Bool.not_false, Option.getD_some]; done) | (exfalso; simp_all; done)
                      exact congrArg (fun g : Bool => AV.one (.v (.bool g))) hg.symm
                    · refine And.intro (fun _ => .v _) ?_
                      have hg : impl_polHeadOk p0 = false := by
                        first | rfl | (simp only [impl_polHeadOk, h1, h163, h185, h186, h187, h192, h197, h202, h203, h204, cond_true, cond_false, Step.fin_stop, Step.fin_done, Fin.get_fin, Fin.get_done, Step.fin_next, Bool.not_true, Bool.not_false, Option.getD_some]; done) | (simp [impl_polHeadOk, h1, h163, h185, h186, h187, h192, h197, h202, h203, h204, cond_true, cond_false, Step.fin_stop, Step.fin_done, Fin.get_fin, Fin.get_done, Step.fin_next, Bool.not_true, Bool.not_false, Option.getD_some]; done) | (exfalso; simp_all; done)
                      exact congrArg (fun g : Bool => AV.one (.v (.bool g))) hg.symm
                · refine And.intro (fun (h205 : (p0.Kind == 8) = true) => ?_) (fun (h205 : (p0.Kind == 8) = false) => ?_)
                  · refine And.intro (fun _ => .v _) ?_
                    have hg : impl_polHeadOk p0 = false := by
                      first | rfl | (simp only [impl_polHeadOk, h1, h163, h185, h186, h187, h192, h197, h202, h205, cond_true, cond_false, Step.fin_stop, Step.fin_done, Fin.get_fin, Fin.get_done, Step.fin_next, Bool.not_true, Bool.not_false, Option.getD_some]; done) | (simp [impl_polHeadOk, h1, h163, h185, h186, h187, h192, h197, h202, h205, cond_true, cond_false, Step.fin_stop, Step.fin_done, Fin.get_fin, Fin.get_done, Step.fin_next, Bool.not_true, Bool.not_false, Option.getD_some]; done) | (exfalso; simp_all; done)
                    exact congrArg (fun g : Bool => AV.one (.v (.bool g))) hg.symm
                  · refine And.intro (fun (h206 : (p0.Kind == 9) = true) => ?_) (fun (h206 : (p0.Kind == 9) = false) => ?_)
                    · refine And.intro (fun _ => .v _) ?_
                      have hg : impl_polHeadOk p0 = false := by
                        first | rfl | (simp only [impl_polHeadOk, h1, h163, h185, h186, h187, h192, h197, h202, h205, h206, cond_true, cond_false, Step.fin_stop, Step.fin_done, Fin.get_fin, Fin.get_done, Step.fin_next, Bool.not_true, Bool.not_false, Option.getD_some]; done) | (simp [impl_polHeadOk, h1, h163, h185, h186, h187, h192, h197, h202, h205, h206, cond_true, cond_false, Step.fin_stop, Step.fin_done, Fin.get_fin, Fin.get_done, Step.fin_next, Bool.not_true, Bool.not_false, Option.getD_some]; done) | (exfalso; simp_all; done)
                      exact congrArg (fun g : Bool => AV.one (.v (.bool g))) hg.symm
                    · refine And.intro (fun _ => .v _) ?_
                      have hg : impl_polHeadOk p0 = false := by
                        first | rfl | (simp only [impl_polHeadOk, h1, h163, h185, h186, h187, h192, h197, h202, h205, h206, cond_true, cond_false, Step.fin_stop, Step.fin_done, Fin.get_fin, Fin.get_done, Step.fin_next, Bool.not_true, Bool.not_false, Option.getD_some]; done) | (simp [impl_polHeadOk, h1, h163, h185, h186, h187, h192, h197, h202, h205, h206, cond_true, cond_false, Step.fin_stop, Step.fin_done, Fin.get_fin, Fin.get_done, Step.fin_next, Bool.not_true, Bool.not_false, Option.getD_some]; done) | (exfalso; simp_all; done)
                      exact congrArg (fun g : Bool => AV.one (.v (.bool g))) hg.symm
      · refine And.intro (fun (h207 : (p0.Kind == 6) = true) => ?_) (fun (h207 : (p0.Kind == 6) = false) => ?_)
        · refine And.intro (fun _ => .v _) ?_
          have hg : impl_polHeadOk p0 = false := by
            first | rfl | (simp only [impl_polHeadOk, h1, h163, h185, h207, cond_true, cond_false, Step.fin_stop, Step.fin_done, Fin.get_fin, Fin.get_done, Step.fin_next, Bool.not_true, Bool.not_false, Option.getD_some]; done) | (simp [impl_polHeadOk, h1, h163, h185, h207, cond_true, cond_false, Step.fin_stop, Step.fin_done, Fin.get_fin, Fin.get_done, Step.fin_next, Bool.not_true, Bool.not_false, Option.getD_some]; done) | (exfalso; simp_all; done)
          exact congrArg (fun g : Bool => AV.one (.v (.bool g))) hg.symm
        · refine And.intro (fun (h208 : (p0.Kind == 3) = true) => ?_) (fun (h208 : (p0.Kind == 3) = false) => ?_)
          · refine ⟨_, _, c_impl_within p0.N 0 2147483647, (FzAs.same _), ?_⟩
            refine litE (m := 2) rfl ?_
            refine And.intro (fun (h209 : (impl_within p0.N 0 2147483647) = true) => ?_) (fun (h209 : (impl_within p0.N 0 2147483647) = false) => ?_)
            · refine And.intro (fun (h210 : (decide (p0.Key = (ByteArray.mk #[]))) = true) => ?_) (fun (h210 : (decide (p0.Key = (ByteArray.mk #[]))) = false) => ?_)
              · refine And.intro (fun (h211 : (decide (p0.Text = (ByteArray.mk #[]))) = true) => ?_) (fun (h211 : (decide (p0.Text = (ByteArray.mk #[]))) = false) => ?_)
                · refine lenE (k := (p0.L).length) (by simp) (fun hN212 => ?_)
                  refine And.intro (fun _ => .v _) ?_
                  have hg : impl_polHeadOk p0 = ((((p0.L).length : Nat) : Int) == 0) := by
                    first | rfl | (simp only [impl_polHeadOk, h1, h163, h185, h207, h208, h209, h210, h211, cond_true, cond_false, Step.fin_stop, Step.fin_done, Fin.get_fin, Fin.get_done, Step.fin_next, Bool.not_true, Bool.not_false, Option.getD_some]; done) | (simp [impl_polHeadOk, h1, h163, h185, h207, h208, h209, h210, h211, cond_true, cond_false, Step.fin_stop, Step.fin_done, Fin.get_fin, Fin.get_done, Step.fin_next, Bool.not_true, Bool.not_false, Option.getD_some]; done) | (exfalso; simp_all; done)
                  exact congrArg (fun g : Bool => AV.one (.v (.bool g))) hg.symm
                · refine And.intro (fun _ => .v _) ?_
                  have hg : impl_polHeadOk p0 = false := by
                    first | rfl | (simp only [impl_polHeadOk, h1, h163, h185, h207, h208, h209, h210, h211, cond_true, cond_false, Step.fin_stop, Step.fin_done, Fin.get_fin, Fin.get_done, Step.fin_next, Bool.not_true, Bool.not_false, Option.getD_some]; done) | (simp [impl_polHeadOk, h1, h163, h185, h207, h208, h209, h210, h211, cond_true, cond_false, Step.fin_stop, Step.fin_done, Fin.get_fin, Fin.get_done, Step.fin_next, Bool.not_true, Bool.not_false, Option.getD_some]; done) | (exfalso; simp_all; done)
                  exact congrArg (fun g : Bool => AV.one (.v (.bool g))) hg.symm
              · refine And.intro (fun _ => .v _) ?_
                have hg : impl_polHeadOk p0 = false := by
                  first | rfl | (simp only [impl_polHeadOk, h1, h163, h185, h207, h208, h209, h210, cond_true, cond_false, Step.fin_stop, Step.fin_done, Fin.get_fin, Fin.get_done, Step.fin_next, Bool.not_true, Bool.not_false, Option.getD_some]; done) | (simp [impl_polHeadOk, h1, h163, h185, h207, h208, h209, h210, cond_true, cond_false, Step.fin_stop, Step.fin_done, Fin.get_fin, Fin.get_done, Step.fin_next, Bool.not_true, Bool.not_false, Option.getD_some]; done) | (exfalso; simp_all; done)
                exact congrArg (fun g : Bool => AV.one (.v (.bool g))) hg.symm
            · refine And.intro (fun _ => .v _) ?_
              have hg : impl_polHeadOk p0 = false := by
                first | rfl | (simp only [impl_polHeadOk, h1, h163, h185, h207, h208, h209, cond_true, cond_false, Step.fin_stop, Step.fin_done, Fin.get_fin, Fin.get_done, Step.fin_next, Bool.not_true, Bool.not_false, Option.getD_some]; done) | (simp [impl_polHeadOk, h1, h163, h185, h207, h208, h209, cond_true, cond_false, Step.fin_stop, Step.fin_done, Fin.get_fin, Fin.get_done, Step.fin_next, Bool.not_true, Bool.not_false, Option.getD_some]; done) | (exfalso; simp_all; done)
              exact congrArg (fun g : Bool => AV.one (.v (.bool g))) hg.symm
          · refine And.intro (fun (h213 : (p0.Kind == 4) = true) => ?_) (fun (h213 : (p0.Kind == 4) = false) => ?_)
            · refine And.intro (fun (h214 : (p0.N == 0) = true) => ?_) (fun (h214 : (p0.N == 0) = false) => ?_)
              · refine ⟨_, _, c_impl_NameOk p0.Key, (FzAs.same _), ?_⟩
                refine litE (m := 2) rfl ?_
                refine And.intro (fun (h215 : (impl_NameOk p0.Key) = true) => ?_) (fun (h215 : (impl_NameOk p0.Key) = false) => ?_)
                · refine ⟨_, _, c_impl_PlainOk p0.Text, (FzAs.same _), ?_⟩
                  refine litE (m := 3) rfl ?_
                  refine And.intro (fun (h216 : (impl_PlainOk p0.Text) = true) => ?_) (fun (h216 : (impl_PlainOk p0.Text) = false) => ?_)
                  · refine lenE (k := (p0.L).length) (by simp) (fun hN217 => ?_)
                    refine And.intro (fun _ => .v _) ?_
                    have hg : impl_polHeadOk p0 = ((((p0.L).length : Nat) : Int) == 0) := by
                      first | rfl | (simp only [impl_polHeadOk, h1, h163, h185, h207, h208, h213, h214, h215, h216, cond_true, cond_false, Step.fin_stop, Step.fin_done, Fin.get_fin, Fin.get_done, Step.fin_next, Bool.not_true, Bool.not_false, Option.getD_some]; done) | (simp [impl_polHeadOk, h1, h163, h185, h207, h208, h213, h214, h215, h216, cond_true, cond_false, Step.fin_stop, Step.fin_done, Fin.get_fin, Fin.get_done, Step.fin_next, Bool.not_true, Bool.not_false, Option.getD_some]; done) | (exfalso; simp_all; done)
                    exact congrArg (fun g : Bool => AV.one (.v (.bool g))) hg.symm
                  · refine And.intro (fun _ => .v _) ?_
                    have hg : impl_polHeadOk p0 = false := by
                      first | rfl | (simp only [impl_polHeadOk, h1, h163, h185, h207, h208, h213, h214, h215, h216, cond_true, cond_false, Step.fin_stop, Step.fin_done, Fin.get_fin, Fin.get_done, Step.fin_next, Bool.not_true, Bool.not_false, Option.getD_some]; done) | (simp [impl_polHeadOk, h1, h163, h185, h207, h208, h213, h214, h215, h216, cond_true, cond_false, Step.fin_stop, Step.fin_done, Fin.get_fin, Fin.get_done, Step.fin_next, Bool.not_true, Bool.not_false, Option.getD_some]; done) | (exfalso; simp_all; done)
                    exact congrArg (fun g : Bool => AV.one (.v (.bool g))) hg.symm
                · refine And.intro (fun _ => .v _) ?_
                  have hg : impl_polHeadOk p0 = false := by
                    first | rfl | (simp only [impl_polHeadOk, h1, h163, h185, h207, h208, h213, h214, h215, cond_true, cond_false, Step.fin_stop, Step.fin_done, Fin.get_fin, Fin.get_done, Step.fin_next, Bool.not_true, Bool.not_false, Option.getD_some]; done) | (simp [impl_polHeadOk, h1, h163, h185, h207, h208, h213, h214, h215, cond_true, cond_false, Step.fin_stop, Step.fin_done, Fin.get_fin, Fin.get_done, Step.fin_next, Bool.not_true, Bool.not_false, Option.getD_some]; done) | (exfalso; simp_all; done)
                  exact congrArg (fun g : Bool => AV.one (.v (.bool g))) hg.symm
              · refine And.intro (fun _ => .v _) ?_
                have hg : impl_polHeadOk p0 = false := by
                  first | rfl | (simp only [impl_polHeadOk, h1, h163, h185, h207, h208, h213, h214, cond_true, cond_false, Step.fin_stop, Step.fin_done, Fin.get_fin, Fin.get_done, Step.fin_next, Bool.not_true, Bool.not_false, Option.getD_some]; done) | (simp [impl_polHeadOk, h1, h163, h185, h207, h208, h213, h214, cond_true, cond_false, Step.fin_stop, Step.fin_done, Fin.get_fin, Fin.get_done, Step.fin_next, Bool.not_true, Bool.not_false, Option.getD_some]; done) | (exfalso; simp_all; done)
                exact congrArg (fun g : Bool => AV.one (.v (.bool g))) hg.symm
            · refine And.intro (fun (h218 : (p0.Kind == 5) = true) => ?_) (fun (h218 : (p0.Kind == 5) = false) => ?_)
              · refine ⟨_, _, c_impl_within p0.N 0 2147483647, (FzAs.same _), ?_⟩
                refine litE (m := 2) rfl ?_
                refine And.intro (fun (h219 : (impl_within p0.N 0 2147483647) = true) => ?_) (fun (h219 : (impl_within p0.N 0 2147483647) = false) => ?_)
                · refine ⟨_, _, c_impl_NameOk p0.Key, (FzAs.same _), ?_⟩
                  refine litE (m := 3) rfl ?_
                  refine And.intro (fun (h220 : (impl_NameOk p0.Key) = true) => ?_) (fun (h220 : (impl_NameOk p0.Key) = false) => ?_)
                  · refine And.intro (fun (h221 : (decide (p0.Text = (ByteArray.mk #[]))) = true) => ?_) (fun (h221 : (decide (p0.Text = (ByteArray.mk #[]))) = false) => ?_)
                    · refine lenE (k := (p0.L).length) (by simp) (fun hN222 => ?_)
                      refine And.intro (fun _ => .v _) ?_
                      have hg : impl_polHeadOk p0 = ((((p0.L).length : Nat) : Int) == 0) := by
                        first | rfl | (simp only [impl_polHeadOk, h1, h163, h185, h207, h208, h213, h218, h219, h220, h221, cond_true, cond_false, Step.fin_stop, Step.fin_done, Fin.get_fin, Fin.get_done, Step.fin_next, Bool.not_true, Bool.not_false, Option.getD_some]; done) | (simp [impl_polHeadOk, h1, h163, h185, h207, h208, h213, h218, h219, h220, h221, cond_true, cond_false, Step.fin_stop, Step.fin_done, Fin.get_fin, Fin.get_done, Step.fin_next, Bool.not_true, Bool.not_false, Option.getD_some]; done) | (exfalso; simp_all; done)
                      exact congrArg (fun g : Bool => AV.one (.v (.bool g))) hg.symm
                    · refine And.intro (fun _ => .v _) ?_
                      have hg : impl_polHeadOk p0 = false := by
                        first | rfl | (simp only [impl_polHeadOk, h1, h163, h185, h207, h208, h213, h218, h219, h220, h221, cond_true, cond_false, Step.fin_stop, Step.fin_done, Fin.get_fin, Fin.get_done, Step.fin_next, Bool.not_true, Bool.not_false, Option.getD_some]; done) | (simp [impl_polHeadOk, h1, h163, h185, h207, h208, h213, h218, h219, h220, h221, cond_true, cond_false, Step.fin_stop, Step.fin_done, Fin.get_fin, Fin.get_done, Step.fin_next, Bool.not_true, Bool.not_false, Option.getD_some]; done) | (exfalso; simp_all; done)
                      exact congrArg (fun g : Bool => AV.one (.v (.bool g))) hg.symm
                  · refine And.intro (fun _ => .v _) ?_
                    have hg : impl_polHeadOk p0 = false := by
                      first | rfl | (simp only [impl_polHeadOk, h1, h163, h185, h207, h208, h213, h218, h219, h220, cond_true, cond_false, Step.fin_stop, Step.fin_done, Fin.get_fin, Fin.get_done, Step.fin_next, Bool.not_true, Bool.not_false, Option.getD_some]; done) | (simp [impl_polHeadOk, h1, h163, h185, h207, h208, h213, h218, h219, h220, cond_true, cond_false, Step.fin_stop, Step.fin_done, Fin.get_fin, Fin.get_done, Step.fin_next, Bool.not_true, Bool.not_false, Option.getD_some]; done) | (exfalso; simp_all; done)
                    exact congrArg (fun g : Bool => AV.one (.v (.bool g))) hg.symm
                · refine And.intro (fun _ => .v _) ?_
                  have hg : impl_polHeadOk p0 = false := by
                    first | rfl | (simp only [impl_polHeadOk, h1, h163, h185, h207, h208, h213, h218, h219, cond_true, cond_false, Step.fin_stop, Step.fin_done, Fin.get_fin, Fin.get_done, Step.fin_next, Bool.not_true, Bool.not_false, Option.getD_some]; done) | (simp [impl_polHeadOk, h1, h163, h185, h207, h208, h213, h218, h219, cond_true, cond_false, Step.fin_stop, Step.fin_done, Fin.get_fin, Fin.get_done, Step.fin_next, Bool.not_true, Bool.not_false, Option.getD_some]; done) | (exfalso; simp_all; done)
                  exact congrArg (fun g : Bool => AV.one (.v (.bool g))) hg.symm
              · refine And.intro (fun (h223 : (p0.Kind == 7) = true) => ?_) (fun (h223 : (p0.Kind == 7) = false) => ?_)
                · refine And.intro (fun (h224 : (p0.Kind == 7) = true) => ?_) (fun (h224 : (p0.Kind == 7) = false) => ?_)
                  · refine And.intro (fun _ => .v _) ?_
                    have hg : impl_polHeadOk p0 = false := by
                      first | rfl | (simp only [impl_polHeadOk, h1, h163, h185, h207, h208, h213, h218, h223, h224, cond_true, cond_false, Step.fin_stop, Step.fin_done, Fin.get_fin, Fin.get_done, Step.fin_next, Bool.not_true, Bool.not_false, Option.getD_some]; done) | (simp [impl_polHeadOk, h1, h163, h185, h207, h208, h213, h218, h223, h224, cond_true, cond_false, Step.fin_stop, Step.fin_done, Fin.get_fin, Fin.get_done, Step.fin_next, Bool.not_true, Bool.not_false, Option.getD_some]; done) | (exfalso; simp_all; done)
                    exact congrArg (fun g : Bool => AV.one (.v (.bool g))) hg.symm
                  · refine And.intro (fun (h225 : (p0.Kind == 9) = true) => ?_) (fun (h225 : (p0.Kind == 9) = false) => ?_)
                    · refine And.intro (fun _ => .v _) ?_
                      have hg : impl_polHeadOk p0 = false := by
                        first | rfl | (simp only [impl_polHeadOk, h1, h163, h185, h207, h208, h213, h218, h223, h224, h225, cond_true, cond_false, Step.fin_stop, Step.fin_done, Fin.get_fin, Fin.get_done, Step.fin_next, Bool.not_true, Bool.not_false, Option.getD_some]; done) | (simp [impl_polHeadOk, h1, h163, h185, h207, h208, h213, h218, h223, h224, h225, cond_true, cond_false, Step.fin_stop, Step.fin_done, Fin.get_fin, Fin.get_done, Step.fin_next, Bool.not_true, Bool.not_false, Option.getD_some]; done) | (exfalso; simp_all; done)
                      exact congrArg (fun g : Bool => AV.one (.v (.bool g))) hg.symm
                    · refine And.intro (fun _ => .v _) ?_
                      have hg : impl_polHeadOk p0 = false := by
                        first | rfl | (simp only [impl_polHeadOk, h1, h163, h185, h207, h208, h213, h218, h223, h224, h225, cond_true, cond_false, Step.fin_stop, Step.fin_done, Fin.get_fin, Fin.get_done, Step.fin_next, Bool.not_true, Bool.not_false, Option.getD_some]; done) | (simp [impl_polHeadOk, h1, h163, h185, h207, h208, h213, h218, h223, h224, h225, cond_true, cond_false, Step.fin_stop, Step.fin_done, Fin.get_fin, Fin.get_done, Step.fin_next, Bool.not_true, Bool.not_false, Option.getD_some]; done) | (exfalso; simp_all; done)
                      exact congrArg (fun g : Bool => AV.one (.v (.bool g))) hg.symm
                · refine And.intro (fun (h226 : (p0.Kind == 8) = true) => ?_) (fun (h226 : (p0.Kind == 8) = false) => ?_)
                  · refine And.intro (fun _ => .v _) ?_
                    have hg : impl_polHeadOk p0 = false := by
                      first | rfl | (simp only [impl_polHeadOk, h1, h163, h185, h207, h208, h213, h218, h223, h226, cond_true, cond_false, Step.fin_stop, Step.fin_done, Fin.get_fin, Fin.get_done, Step.fin_next, Bool.not_true, Bool.not_false, Option.getD_some]; done) | (simp [impl_polHeadOk, h1, h163, h185, h207, h208, h213, h218, h223, h226, cond_true, cond_false, Step.fin_stop, Step.fin_done, Fin.get_fin, Fin.get_done, Step.fin_next, Bool.not_true, Bool.not_false, Option.getD_some]; done) | (exfalso; simp_all; done)
                    exact congrArg (fun g : Bool => AV.one (.v (.bool g))) hg.symm
                  · refine And.intro (fun (h227 : (p0.Kind == 9) = true) => ?_) (fun (h227 : (p0.Kind == 9) = false) => ?_)
                    · refine And.intro (fun _ => .v _) ?_
                      have hg : impl_polHeadOk p0 = false := by
                        first | rfl | (simp only [impl_polHeadOk, h1, h163, h185, h207, h208, h213, h218, h223, h226, h227, cond_true, cond_false, Step.fin_stop, Step.fin_done, Fin.get_fin, Fin.get_done, Step.fin_next, Bool.not_true, Bool.not_false, Option.getD_some]; done) | (simp [impl_polHeadOk, h1, h163, h185, h207, h208, h213, h218, h223, h226, h227, cond_true, cond_false, Step.fin_stop, Step.fin_done, Fin.get_fin, Fin.get_done, Step.fin_next, Bool.not_true, Bool.not_false, Option.getD_some]; done) | (exfalso; simp_all; done)
                      exact congrArg (fun g : Bool => AV.one (.v (.bool g))) hg.symm
                    · refine And.intro (fun _ => .v _) ?_
                      have hg : impl_polHeadOk p0 = false := by
                        first | rfl | (simp only [impl_polHeadOk, h1, h163, h185, h207, h208, h213, h218, h223, h226, h227, cond_true, cond_false, Step.fin_stop, Step.fin_done, Fin.get_fin, Fin.get_done, Step.fin_next, Bool.not_true, Bool.not_false, Option.getD_some]; done) | (simp [impl_polHeadOk, h1, h163, h185, h207, h208, h213, h218, h223, h226, h227, cond_true, cond_false, Step.fin_stop, Step.fin_done, Fin.get_fin, Fin.get_done, Step.fin_next, Bool.not_true, Bool.not_false, Option.getD_some]; done) | (exfalso; simp_all; done)
                      exact congrArg (fun g : Bool => AV.one (.v (.bool g))) hg.symm
def impl_polParts_b1 (r0 : (Pol → Int → Int)) (p1 : Int) (i1 : Nat) (s1 : Int) (a1 : Pol) : Step (Int) Int :=
  (bif (decide ((IntKind.i64.wrap (s1 + (r0 a1 (IntKind.i64.wrap (p1 + 1))))) ≥ 13)) then (.done 13) else (.next (IntKind.i64.wrap (s1 + (r0 a1 (IntKind.i64.wrap (p1 + 1)))))))
def impl_polPartsR : Nat → Pol → Int → Int
  | 0, _, _ => default
  | n + 1, p0, p1 => (bif (decide (p1 > 4)) then 13 else (bif (!(impl_polHeadOk p0)) then 13 else (Fin.get (fun s1 => s1) (loopL (impl_polParts_b1 (impl_polPartsR n) p1) 0 1 p0.L))))
theorem cR_impl_polParts : ∀ (n : Nat) (p0 : Pol) (p1 : Int), Pol.dep p0 < n → FnOk prog 195 [.agg (Pol.opn false p0), .one (.v (.int .i64 p1))] ⟨.one (.v (.int .i64 (impl_polPartsR n p0 p1))), [], [], false⟩ := by
  intro n
  induction n with
  | zero => intro p0 p1 hd0; omega
  | succ n ih =>
    intro p0 p1 hd0
    refine FnOk.intro (E := env) envOk wide func195 rfl (by kernel_rfl) rfl rfl ?_
    refine litE (m := 0) rfl ?_
    refine And.intro (fun (h1 : (decide (p1 > 4)) = false) => ?_) (fun (h1 : (decide (p1 > 4)) = true) => ?_)
    · refine ⟨_, _, c_impl_polHeadOk p0, (FzAs.same _), ?_⟩
      refine litE (m := 2) rfl ?_
      refine And.intro (fun (h2 : (!(impl_polHeadOk p0)) = true) => ?_) (fun (h2 : (!(impl_polHeadOk p0)) = false) => ?_)
      · refine And.intro (fun _ => .v _) ?_
        have hg : (impl_polPartsR (n + 1) p0 p1) = 13 := by
          first | rfl | (simp only [impl_polPartsR, h1, h2, cond_true, cond_false, Step.fin_stop, Step.fin_done, Fin.get_fin, Fin.get_done, Step.fin_next, Bool.not_true, Bool.not_false, Option.getD_some]; done) | (simp [impl_polPartsR, h1, h2, cond_true, cond_false, Step.fin_stop, Step.fin_done, Fin.get_fin, Fin.get_done, Step.fin_next, Bool.not_true, Bool.not_false, Option.getD_some]; done) | (exfalso; simp_all; done)
        exact congrArg (fun g : Int => AV.one (.v (.int .i64 g))) hg.symm
      · refine lenE (k := (p0.L).length) (by simp) (fun hN3 => ?_)
        refine loop_rule (α := LstSt (impl_polParts_b1 (impl_polPartsR n) p1) 1 p0.L) [1, 16, 17] (fun x1 => [(5, .one (.v (.int .i64 x1.s))), (18, .one (.v (.int .i64 ((x1.i : Nat) : Int))))]) (fun x1 => [.dead, .dead]) (fun x1 => (p0.L).length - x1.i) .init [none, none] ?_ (fun x1 => ?_)
        · exact ⟨rfl, ⟨rfl, rfl, rfl, rfl, rfl, trivial⟩, trivial, trivial⟩
        · refine And.intro (fun (h4 : (decide (((x1.i : Nat) : Int) < (((p0.L).length : Nat) : Int))) = true) => ?_) (fun (h4 : (decide (((x1.i : Nat) : Int) < (((p0.L).length : Nat) : Int))) = false) => ?_)
          · have hi1 : x1.i < (p0.L).length := by simpa using h4
            have hw1 : IntKind.i64.wrap ((x1.i : Int) + 1) = ((x1.i + 1 : Nat) : Int) := wrap_succ hi1 (by first | assumption | omega)
            refine And.intro (fun _ => by (first | omega | (simp; done) | (simp; omega) | (simp at *; omega) | (simp at *; done) | (simp_all; done) | (simp_all; omega))) (rowAtR (Pol.cells_eq false) (i := x1.i) (l := p0.L) rfl hi1 ?_)
            refine litE (m := 2) rfl ?_
            refine ⟨_, _, ih (p0.L[x1.i]'hi1) (IntKind.i64.wrap (p1 + 1)) (by first | exact hm0 _ (List.getElem_mem _) | exact hm0 _ (List.mem_of_getElem? (by assumption)) | exact Nat.lt_of_lt_of_le (Pol.dep_lt (List.getElem_mem _)) (Nat.le_of_lt_succ hd0) | exact Nat.lt_of_lt_of_le (Pol.dep_lt (List.mem_of_getElem? (by assumption))) (Nat.le_of_lt_succ hd0)), (FzAs.same _), ?_⟩
            refine litE (m := 4) rfl ?_
            refine And.intro (fun (h5 : (decide ((IntKind.i64.wrap (x1.s + ((impl_polPartsR n) (p0.L[x1.i]'hi1) (IntKind.i64.wrap (p1 + 1))))) ≥ 13)) = true) => ?_) (fun (h5 : (decide ((IntKind.i64.wrap (x1.s + ((impl_polPartsR n) (p0.L[x1.i]'hi1) (IntKind.i64.wrap (p1 + 1))))) ≥ 13)) = false) => ?_)
            · have hb1 := x1.out hi1 (by first | rfl | (simp only [impl_polParts_b1, h1, h2, h4, h5, cond_true, cond_false, Bool.not_true, Bool.not_false, Option.getD_some, Step.isNext_stop, Step.isNext_done, Step.fin_stop, Step.fin_done, Fin.get_fin, Fin.get_done]; done) | (exfalso; simp_all; done))
              refine And.intro (fun _ => .v _) ?_
              have hg : (impl_polPartsR (n + 1) p0 p1) = 13 := by
                first | rfl | (simp only [impl_polPartsR, impl_polParts_b1, h1, h2, h4, h5, hb1, cond_true, cond_false, Step.fin_stop, Step.fin_done, Fin.get_fin, Fin.get_done, Step.fin_next, Bool.not_true, Bool.not_false, Option.getD_some]; done) | (simp [impl_polPartsR, impl_polParts_b1, h1, h2, h4, h5, hb1, cond_true, cond_false, Step.fin_stop, Step.fin_done, Fin.get_fin, Fin.get_done, Step.fin_next, Bool.not_true, Bool.not_false, Option.getD_some]; done) | (exfalso; simp_all; done)
              exact congrArg (fun g : Int => AV.one (.v (.int .i64 g))) hg.symm
            · refine x1.go hi1 (v := (IntKind.i64.wrap (x1.s + ((impl_polPartsR n) (p0.L[x1.i]'hi1) (IntKind.i64.wrap (p1 + 1)))))) (by first | rfl | (simp only [impl_polParts_b1, h1, h2, h4, h5, cond_true, cond_false, Bool.not_true, Bool.not_false, Option.getD_some, Step.fin_stop, Step.fin_done, Fin.get_fin, Fin.get_done]; done) | (exfalso; simp_all; done)) [none, none] (by show _ - (x1.i + 1) < _ - x1.i; omega) ?_
              exact ⟨rfl, ⟨rfl, (eqInt hw1), rfl, rfl, rfl, trivial⟩, trivial, trivial⟩
          · have hf1 := x1.fin (show ¬ x1.i < (p0.L).length by simpa using h4)
            refine And.intro (fun _ => .v _) ?_
            have hg : (impl_polPartsR (n + 1) p0 p1) = x1.s := by
              first | rfl | (simp only [impl_polPartsR, impl_polParts_b1, h1, h2, h4, hf1, cond_true, cond_false, Step.fin_stop, Step.fin_done, Fin.get_fin, Fin.get_done, Step.fin_next, Bool.not_true, Bool.not_false, Option.getD_some]; done) | (simp [impl_polPartsR, impl_polParts_b1, h1, h2, h4, hf1, cond_true, cond_false, Step.fin_stop, Step.fin_done, Fin.get_fin, Fin.get_done, Step.fin_next, Bool.not_true, Bool.not_false, Option.getD_some]; done) | (exfalso; simp_all; done)
            exact congrArg (fun g : Int => AV.one (.v (.int .i64 g))) hg.symm
    · refine And.intro (fun _ => .v _) ?_
      have hg : (impl_polPartsR (n + 1) p0 p1) = 13 := by
        first | rfl | (simp only [impl_polPartsR, impl_polParts_b1, h1, cond_true, cond_false, Step.fin_stop, Step.fin_done, Fin.get_fin, Fin.get_done, Step.fin_next, Bool.not_true, Bool.not_false, Option.getD_some]; done) | (simp [impl_polPartsR, impl_polParts_b1, h1, cond_true, cond_false, Step.fin_stop, Step.fin_done, Fin.get_fin, Fin.get_done, Step.fin_next, Bool.not_true, Bool.not_false, Option.getD_some]; done) | (exfalso; simp_all; done)
      exact congrArg (fun g : Int => AV.one (.v (.int .i64 g))) hg.symm
def impl_polParts (p0 : Pol) (p1 : Int) : Int := impl_polPartsR (Pol.dep p0 + 1) p0 p1
theorem c_impl_polParts (p0 : Pol) (p1 : Int) : FnOk prog 195 [.agg (Pol.opn false p0), .one (.v (.int .i64 p1))] ⟨.one (.v (.int .i64 (impl_polParts p0 p1))), [], [], false⟩ := cR_impl_polParts _ p0 p1 (Nat.lt_succ_self _)
def impl_PolOk (p0 : Pol) : Bool :=
  (decide ((impl_polParts p0 1) ≤ 12))
theorem c_impl_PolOk (p0 : Pol) : FnOk prog 165 [.agg (Pol.opn false p0)] ⟨.one (.v (.bool (impl_PolOk p0))), [], [], false⟩ := by
  refine FnOk.intro (E := env) envOk wide func165 rfl (by kernel_rfl) rfl rfl ?_
  refine litE (m := 0) rfl ?_
  refine ⟨_, _, c_impl_polParts p0 1, (FzAs.same _), ?_⟩
  refine litE (m := 2) rfl ?_
  refine And.intro (fun _ => .v _) ?_
  have hg : impl_PolOk p0 = (decide ((impl_polParts p0 1) ≤ 12)) := by
    first | rfl | (simp only [impl_PolOk, cond_true, cond_false, Step.fin_stop, Step.fin_done, Fin.get_fin, Fin.get_done, Step.fin_next, Bool.not_true, Bool.not_false, Option.getD_some]; done) | (simp [impl_PolOk, cond_true, cond_false, Step.fin_stop, Step.fin_done, Fin.get_fin, Fin.get_done, Step.fin_next, Bool.not_true, Bool.not_false, Option.getD_some]; done) | (exfalso; simp_all; done)
  exact congrArg (fun g : Bool => AV.one (.v (.bool g))) hg.symm
def impl_ConfOk (p0 : Conf) : Bool :=
  (bif (impl_within p0.Stripes 1 3) then (bif (impl_within p0.Wait 1 50) then (bif (impl_within p0.Budget 1 190) then (bif (impl_within p0.Cache 1 6) then (bif (impl_within p0.Queue 1 4) then (bif (impl_within p0.Rate 0 99) then (bif (impl_within p0.Burst 0 999) then (impl_PolOk p0.Rule) else false) else false) else false) else false) else false) else false) else false)
theorem c_impl_ConfOk (p0 : Conf) : FnOk prog 95 [.agg ((Conf.cells false) p0)] ⟨.one (.v (.bool (impl_ConfOk p0))), [], [], false⟩ := by
  refine FnOk.intro (E := env) envOk wide func95 rfl (by kernel_rfl) rfl rfl ?_
  refine litE (m := 0) rfl ?_
  refine ⟨_, _, c_impl_within p0.Stripes 1 3, (FzAs.same _), ?_⟩
  refine litE (m := 2) rfl ?_
  refine And.intro (fun (h1 : (impl_within p0.Stripes 1 3) = true) => ?_) (fun (h1 : (impl_within p0.Stripes 1 3) = false) => ?_)
  · refine ⟨_, _, c_impl_within p0.Wait 1 50, (FzAs.same _), ?_⟩
    refine litE (m := 3) rfl ?_
    refine And.intro (fun (h2 : (impl_within p0.Wait 1 50) = true) => ?_) (fun (h2 : (impl_within p0.Wait 1 50) = false) => ?_)
    · refine ⟨_, _, c_impl_within p0.Budget 1 190, (FzAs.same _), ?_⟩
      refine litE (m := 4) rfl ?_
      refine And.intro (fun (h3 : (impl_within p0.Budget 1 190) = true) => ?_) (fun (h3 : (impl_within p0.Budget 1 190) = false) => ?_)
      · refine ⟨_, _, c_impl_within p0.Cache 1 6, (FzAs.same _), ?_⟩
        refine litE (m := 5) rfl ?_
        refine And.intro (fun (h4 : (impl_within p0.Cache 1 6) = true) => ?_) (fun (h4 : (impl_within p0.Cache 1 6) = false) => ?_)
        · refine ⟨_, _, c_impl_within p0.Queue 1 4, (FzAs.same _), ?_⟩
          refine litE (m := 6) rfl ?_
          refine And.intro (fun (h5 : (impl_within p0.Queue 1 4) = true) => ?_) (fun (h5 : (impl_within p0.Queue 1 4) = false) => ?_)
          · refine ⟨_, _, c_impl_within p0.Rate 0 99, (FzAs.same _), ?_⟩
            refine litE (m := 7) rfl ?_
            refine And.intro (fun (h6 : (impl_within p0.Rate 0 99) = true) => ?_) (fun (h6 : (impl_within p0.Rate 0 99) = false) => ?_)
            · refine ⟨_, _, c_impl_within p0.Burst 0 999, (FzAs.same _), ?_⟩
              refine litE (m := 8) rfl ?_
              refine And.intro (fun (h7 : (impl_within p0.Burst 0 999) = true) => ?_) (fun (h7 : (impl_within p0.Burst 0 999) = false) => ?_)
              · refine ⟨_, _, c_impl_PolOk p0.Rule, (FzAs.same _), ?_⟩
                refine litE (m := 9) rfl ?_
                refine And.intro (fun _ => .v _) ?_
                have hg : impl_ConfOk p0 = (impl_PolOk p0.Rule) := by
                  first | rfl | (simp only [impl_ConfOk, h1, h2, h3, h4, h5, h6, h7, cond_true, cond_false, Step.fin_stop, Step.fin_done, Fin.get_fin, Fin.get_done, Step.fin_next, Bool.not_true, Bool.not_false, Option.getD_some]; done) | (simp [impl_ConfOk, h1, h2, h3, h4, h5, h6, h7, cond_true, cond_false, Step.fin_stop, Step.fin_done, Fin.get_fin, Fin.get_done, Step.fin_next, Bool.not_true, Bool.not_false, Option.getD_some]; done) | (exfalso; simp_all; done)
                exact congrArg (fun g : Bool => AV.one (.v (.bool g))) hg.symm
              · refine And.intro (fun _ => .v _) ?_
                have hg : impl_ConfOk p0 = false := by
                  first | rfl | (simp only [impl_ConfOk, h1, h2, h3, h4, h5, h6, h7, cond_true, cond_false, Step.fin_stop, Step.fin_done, Fin.get_fin, Fin.get_done, Step.fin_next, Bool.not_true, Bool.not_false, Option.getD_some]; done) | (simp [impl_ConfOk, h1, h2, h3, h4, h5, h6, h7, cond_true, cond_false, Step.fin_stop, Step.fin_done, Fin.get_fin, Fin.get_done, Step.fin_next, Bool.not_true, Bool.not_false, Option.getD_some]; done) | (exfalso; simp_all; done)
                exact congrArg (fun g : Bool => AV.one (.v (.bool g))) hg.symm
            · refine And.intro (fun _ => .v _) ?_
              have hg : impl_ConfOk p0 = false := by
                first | rfl | (simp only [impl_ConfOk, h1, h2, h3, h4, h5, h6, cond_true, cond_false, Step.fin_stop, Step.fin_done, Fin.get_fin, Fin.get_done, Step.fin_next, Bool.not_true, Bool.not_false, Option.getD_some]; done) | (simp [impl_ConfOk, h1, h2, h3, h4, h5, h6, cond_true, cond_false, Step.fin_stop, Step.fin_done, Fin.get_fin, Fin.get_done, Step.fin_next, Bool.not_true, Bool.not_false, Option.getD_some]; done) | (exfalso; simp_all; done)
              exact congrArg (fun g : Bool => AV.one (.v (.bool g))) hg.symm
          · refine And.intro (fun _ => .v _) ?_
            have hg : impl_ConfOk p0 = false := by
              first | rfl | (simp only [impl_ConfOk, h1, h2, h3, h4, h5, cond_true, cond_false, Step.fin_stop, Step.fin_done, Fin.get_fin, Fin.get_done, Step.fin_next, Bool.not_true, Bool.not_false, Option.getD_some]; done) | (simp [impl_ConfOk, h1, h2, h3, h4, h5, cond_true, cond_false, Step.fin_stop, Step.fin_done, Fin.get_fin, Fin.get_done, Step.fin_next, Bool.not_true, Bool.not_false, Option.getD_some]; done) | (exfalso; simp_all; done)
            exact congrArg (fun g : Bool => AV.one (.v (.bool g))) hg.symm
        · refine And.intro (fun _ => .v _) ?_
          have hg : impl_ConfOk p0 = false := by
            first | rfl | (simp only [impl_ConfOk, h1, h2, h3, h4, cond_true, cond_false, Step.fin_stop, Step.fin_done, Fin.get_fin, Fin.get_done, Step.fin_next, Bool.not_true, Bool.not_false, Option.getD_some]; done) | (simp [impl_ConfOk, h1, h2, h3, h4, cond_true, cond_false, Step.fin_stop, Step.fin_done, Fin.get_fin, Fin.get_done, Step.fin_next, Bool.not_true, Bool.not_false, Option.getD_some]; done) | (exfalso; simp_all; done)
          exact congrArg (fun g : Bool => AV.one (.v (.bool g))) hg.symm
      · refine And.intro (fun _ => .v _) ?_
        have hg : impl_ConfOk p0 = false := by
          first | rfl | (simp only [impl_ConfOk, h1, h2, h3, cond_true, cond_false, Step.fin_stop, Step.fin_done, Fin.get_fin, Fin.get_done, Step.fin_next, Bool.not_true, Bool.not_false, Option.getD_some]; done) | (simp [impl_ConfOk, h1, h2, h3, cond_true, cond_false, Step.fin_stop, Step.fin_done, Fin.get_fin, Fin.get_done, Step.fin_next, Bool.not_true, Bool.not_false, Option.getD_some]; done) | (exfalso; simp_all; done)
        exact congrArg (fun g : Bool => AV.one (.v (.bool g))) hg.symm
    · refine And.intro (fun _ => .v _) ?_
      have hg : impl_ConfOk p0 = false := by
        first | rfl | (simp only [impl_ConfOk, h1, h2, cond_true, cond_false, Step.fin_stop, Step.fin_done, Fin.get_fin, Fin.get_done, Step.fin_next, Bool.not_true, Bool.not_false, Option.getD_some]; done) | (simp [impl_ConfOk, h1, h2, cond_true, cond_false, Step.fin_stop, Step.fin_done, Fin.get_fin, Fin.get_done, Step.fin_next, Bool.not_true, Bool.not_false, Option.getD_some]; done) | (exfalso; simp_all; done)
      exact congrArg (fun g : Bool => AV.one (.v (.bool g))) hg.symm
  · refine And.intro (fun _ => .v _) ?_
    have hg : impl_ConfOk p0 = false := by
      first | rfl | (simp only [impl_ConfOk, h1, cond_true, cond_false, Step.fin_stop, Step.fin_done, Fin.get_fin, Fin.get_done, Step.fin_next, Bool.not_true, Bool.not_false, Option.getD_some]; done) | (simp [impl_ConfOk, h1, cond_true, cond_false, Step.fin_stop, Step.fin_done, Fin.get_fin, Fin.get_done, Step.fin_next, Bool.not_true, Bool.not_false, Option.getD_some]; done) | (exfalso; simp_all; done)
    exact congrArg (fun g : Bool => AV.one (.v (.bool g))) hg.symm
def impl_verdictAt_1 (p0 : Verdict) (c0 : Int) : Bool :=
  (p0.Trace == c0)
theorem c_impl_verdictAt_1 (p0 : Verdict) (c0 : Int) : FnOk prog 197 [.agg (Verdict.cells p0), .one (.q 1 [[.v (.int .i64 c0)]] 0 0)] ⟨.one (.v (.bool (impl_verdictAt_1 p0 c0))), [], [], false⟩ := by
  refine FnOk.intro (E := env) envOk wide func197 rfl (by kernel_rfl) rfl rfl ?_
  refine litE (m := 0) rfl ?_
  refine And.intro (fun _ => .v _) ?_
  have hg : impl_verdictAt_1 p0 c0 = (p0.Trace == c0) := by
    first | rfl | (simp only [impl_verdictAt_1, cond_true, cond_false, Step.fin_stop, Step.fin_done, Fin.get_fin, Fin.get_done, Step.fin_next, Bool.not_true, Bool.not_false, Option.getD_some]; done) | (simp [impl_verdictAt_1, cond_true, cond_false, Step.fin_stop, Step.fin_done, Fin.get_fin, Fin.get_done, Step.fin_next, Bool.not_true, Bool.not_false, Option.getD_some]; done) | (exfalso; simp_all; done)
  exact congrArg (fun g : Bool => AV.one (.v (.bool g))) hg.symm
def slices_IndexFunc_196_c197_b1 (p1_0 : Int) (i1 : Nat) (s1 : Unit) (a1 : Verdict) : Step (Unit) Int :=
  (bif (impl_verdictAt_1 a1 p1_0) then (.done ((i1 : Nat) : Int)) else (.next ()))
def slices_IndexFunc_196_c197 (p0 : (List Verdict)) (p1_0 : Int) : Int :=
  (Fin.get (fun s1 => (-1)) (loopL (slices_IndexFunc_196_c197_b1 p1_0) 0 () p0))
theorem c_slices_IndexFunc_196_c197 (p0 : (List Verdict)) (p1_0 : Int) : FnOk prog 196 [.one (.s false 3 (List.map Verdict.cells p0)), .one (.c 197 [.q 1 [[.v (.int .i64 p1_0)]] 0 0])] ⟨.one (.v (.int .i64 (slices_IndexFunc_196_c197 p0 p1_0))), [], [], false⟩ := by
  refine FnOk.intro (E := env) envOk wide func196 rfl (by kernel_rfl) rfl rfl ?_
  refine lenE (k := (p0).length) (by simp) (fun hN1 => ?_)
  refine loop_rule (α := LstSt (slices_IndexFunc_196_c197_b1 p1_0) () p0) [0, 1, 7] (fun x1 => [(8, .one (.v (.int .i64 ((x1.i : Nat) : Int))))]) (fun x1 => []) (fun x1 => (p0).length - x1.i) .init [] ?_ (fun x1 => ?_)
  · exact ⟨rfl, ⟨rfl, rfl, ⟨rfl, ⟨rfl, trivial⟩⟩, rfl, trivial⟩, trivial, trivial⟩
  · refine And.intro (fun (h2 : (decide (((x1.i : Nat) : Int) < (((p0).length : Nat) : Int))) = true) => ?_) (fun (h2 : (decide (((x1.i : Nat) : Int) < (((p0).length : Nat) : Int))) = false) => ?_)
    · have hi1 : x1.i < (p0).length := by simpa using h2
      have hw1 : IntKind.i64.wrap ((x1.i : Int) + 1) = ((x1.i + 1 : Nat) : Int) := wrap_succ hi1 (by first | assumption | omega)
      refine And.intro (fun _ => by exact idx_at hi1) (rowAtE (i := x1.i) (l := p0) rfl hi1 ?_)
      refine ⟨_, _, c_impl_verdictAt_1 (p0[x1.i]'hi1) p1_0, (FzAs.same _), ?_⟩
      refine litE (m := 1) rfl ?_
      refine And.intro (fun (h3 : (impl_verdictAt_1 (p0[x1.i]'hi1) p1_0) = true) => ?_) (fun (h3 : (impl_verdictAt_1 (p0[x1.i]'hi1) p1_0) = false) => ?_)
      · have hb1 := x1.out hi1 (by first | rfl | (simp only [slices_IndexFunc_196_c197_b1, h2, h3, cond_true, cond_false, Bool.not_true, Bool.not_false, Option.getD_some, Step.isNext_stop, Step.isNext_done, Step.fin_stop, Step.fin_done, Fin.get_fin, Fin.get_done]; done) | (exfalso; simp_all; done))
        refine And.intro (fun _ => .v _) ?_
        have hg : slices_IndexFunc_196_c197 p0 p1_0 = ((x1.i : Nat) : Int) := by
          first | rfl | (simp only [slices_IndexFunc_196_c197, slices_IndexFunc_196_c197_b1, h2, h3, hb1, cond_true, cond_false, Step.fin_stop, Step.fin_done, Fin.get_fin, Fin.get_done, Step.fin_next, Bool.not_true, Bool.not_false, Option.getD_some]; done) | (simp [slices_IndexFunc_196_c197, slices_IndexFunc_196_c197_b1, h2, h3, hb1, cond_true, cond_false, Step.fin_stop, Step.fin_done, Fin.get_fin, Fin.get_done, Step.fin_next, Bool.not_true, Bool.not_false, Option.getD_some]; done) | (exfalso; simp_all; done)
        exact congrArg (fun g : Int => AV.one (.v (.int .i64 g))) hg.symm
      · refine x1.go hi1 (v := ()) (by first | rfl | (simp only [slices_IndexFunc_196_c197_b1, h2, h3, cond_true, cond_false, Bool.not_true, Bool.not_false, Option.getD_some, Step.fin_stop, Step.fin_done, Fin.get_fin, Fin.get_done]; done) | (exfalso; simp_all; done)) [] (by show _ - (x1.i + 1) < _ - x1.i; omega) ?_
        exact ⟨rfl, ⟨(eqInt hw1), rfl, ⟨rfl, ⟨rfl, trivial⟩⟩, rfl, trivial⟩, trivial, trivial⟩
    · have hf1 := x1.fin (show ¬ x1.i < (p0).length by simpa using h2)
      refine And.intro (fun _ => .v _) ?_
      have hg : slices_IndexFunc_196_c197 p0 p1_0 = (-1) := by
        first | rfl | (simp only [slices_IndexFunc_196_c197, slices_IndexFunc_196_c197_b1, h2, hf1, cond_true, cond_false, Step.fin_stop, Step.fin_done, Fin.get_fin, Fin.get_done, Step.fin_next, Bool.not_true, Bool.not_false, Option.getD_some]; done) | (simp [slices_IndexFunc_196_c197, slices_IndexFunc_196_c197_b1, h2, hf1, cond_true, cond_false, Step.fin_stop, Step.fin_done, Fin.get_fin, Fin.get_done, Step.fin_next, Bool.not_true, Bool.not_false, Option.getD_some]; done) | (exfalso; simp_all; done)
      exact congrArg (fun g : Int => AV.one (.v (.int .i64 g))) hg.symm
def impl_verdictAt (p0 : (List Verdict)) (p1 : Int) : Int :=
  (slices_IndexFunc_196_c197 p0 p1)
theorem c_impl_verdictAt (p0 : (List Verdict)) (p1 : Int) : FnOk prog 166 [.one (.s false 3 (List.map Verdict.cells p0)), .one (.v (.int .i64 p1))] ⟨.one (.v (.int .i64 (impl_verdictAt p0 p1))), [], [], false⟩ := by
  refine FnOk.intro (E := env) envOk wide func166 rfl (by kernel_rfl) rfl rfl ?_
  refine litE (m := 0) rfl ?_
  refine ⟨_, _, c_slices_IndexFunc_196_c197 p0 p1, (FzAs.same _), ?_⟩
  refine litE (m := 2) rfl ?_
  refine And.intro (fun _ => .v _) ?_
  have hg : impl_verdictAt p0 p1 = (slices_IndexFunc_196_c197 p0 p1) := by
    first | rfl | (simp only [impl_verdictAt, cond_true, cond_false, Step.fin_stop, Step.fin_done, Fin.get_fin, Fin.get_done, Step.fin_next, Bool.not_true, Bool.not_false, Option.getD_some]; done) | (simp [impl_verdictAt, cond_true, cond_false, Step.fin_stop, Step.fin_done, Fin.get_fin, Fin.get_done, Step.fin_next, Bool.not_true, Bool.not_false, Option.getD_some]; done) | (exfalso; simp_all; done)
  exact congrArg (fun g : Int => AV.one (.v (.int .i64 g))) hg.symm
def impl_CacheOk_b1 (p0 : (List Verdict)) (i1 : Nat) (s1 : Unit) (a1 : Verdict) : Step (Unit) Bool :=
  (bif (!(impl_within a1.Trace 1 999)) then (.done false) else (bif (decide (a1.Stamp < 1)) then (.done false) else (bif ((impl_verdictAt p0 a1.Trace) != ((i1 : Nat) : Int)) then (.done false) else (.next ()))))
def impl_CacheOk (p0 : (List Verdict)) (p1 : Int) : Bool :=
  (Fin.get (fun s1 => (decide ((((p0).length : Nat) : Int) ≤ p1))) (loopL (impl_CacheOk_b1 p0) 0 () p0))
theorem c_impl_CacheOk (p0 : (List Verdict)) (p1 : Int) : FnOk prog 96 [.one (.s false 3 (List.map Verdict.cells p0)), .one (.v (.int .i64 p1))] ⟨.one (.v (.bool (impl_CacheOk p0 p1))), [], [], false⟩ := by
  refine FnOk.intro (E := env) envOk wide func96 rfl (by kernel_rfl) rfl rfl ?_
  refine lenE (k := (p0).length) (by simp) (fun hN1 => ?_)
  refine loop_rule (α := LstSt (impl_CacheOk_b1 p0) () p0) [0, 1, 7, 8] (fun x1 => [(9, .one (.v (.int .i64 ((x1.i : Nat) : Int))))]) (fun x1 => []) (fun x1 => (p0).length - x1.i) .init [] ?_ (fun x1 => ?_)
  · exact ⟨rfl, ⟨rfl, rfl, rfl, rfl, rfl, trivial⟩, trivial, trivial⟩
  · refine And.intro (fun (h2 : (decide (((x1.i : Nat) : Int) < (((p0).length : Nat) : Int))) = true) => ?_) (fun (h2 : (decide (((x1.i : Nat) : Int) < (((p0).length : Nat) : Int))) = false) => ?_)
    · have hi1 : x1.i < (p0).length := by simpa using h2
      have hw1 : IntKind.i64.wrap ((x1.i : Int) + 1) = ((x1.i + 1 : Nat) : Int) := wrap_succ hi1 (by first | assumption | omega)
      refine And.intro (fun _ => by first | exact idx_at hi1 | exact idx_of (by first | omega | (first | omega | (simp; done) | (simp; omega) | (simp at *; omega) | (simp at *; done) | (simp_all; done) | (simp_all; omega))) (by assumption) | (have hj := hi1; have hk := hi2; rw [List.length_map]; omega) | (have h9 : ((x1.i : Nat) : Int) > 0 := (by first | simpa using ‹decide (((x1.i : Nat) : Int) > 0) = true› | simp_all); have hj := hi1; have e9 : IntKind.i64.wrap (((x1.i : Nat) : Int) - 1) = ((x1.i : Nat) : Int) - 1 := (by rw [Go.Ev.wrap_small (n := ((x1.i : Nat) : Int) - 1)] <;> omega); rw [e9]; (try rw [List.length_map]); omega)) (rowAtE (i := x1.i) (l := p0) rfl hi1 ?_)
      refine litE (m := 0) rfl ?_
      refine ⟨_, _, c_impl_within (p0[x1.i]'hi1).Trace 1 999, (FzAs.same _), ?_⟩
      refine litE (m := 2) rfl ?_
      refine And.intro (fun (h3 : (!(impl_within (p0[x1.i]'hi1).Trace 1 999)) = false) => ?_) (fun (h3 : (!(impl_within (p0[x1.i]'hi1).Trace 1 999)) = true) => ?_)
      · refine And.intro (fun (h4 : (decide ((p0[x1.i]'hi1).Stamp < 1)) = false) => ?_) (fun (h4 : (decide ((p0[x1.i]'hi1).Stamp < 1)) = true) => ?_)
        · refine ⟨_, _, c_impl_verdictAt p0 (p0[x1.i]'hi1).Trace, (FzAs.same _), ?_⟩
          refine litE (m := 3) rfl ?_
          refine And.intro (fun (h5 : ((impl_verdictAt p0 (p0[x1.i]'hi1).Trace) != ((x1.i : Nat) : Int)) = true) => ?_) (fun (h5 : ((impl_verdictAt p0 (p0[x1.i]'hi1).Trace) != ((x1.i : Nat) : Int)) = false) => ?_)
          · have hb1 := x1.out hi1 (by first | rfl | (simp only [impl_CacheOk_b1, h2, h3, h4, h5, cond_true, cond_false, Bool.not_true, Bool.not_false, Option.getD_some, Step.isNext_stop, Step.isNext_done, Step.fin_stop, Step.fin_done, Fin.get_fin, Fin.get_done]; done) | (exfalso; simp_all; done))
            refine And.intro (fun _ => .v _) ?_
            have hg : impl_CacheOk p0 p1 = false := by
              first | rfl | (simp only [impl_CacheOk, impl_CacheOk_b1, h2, h3, h4, h5, hb1, cond_true, cond_false, Step.fin_stop, Step.fin_done, Fin.get_fin, Fin.get_done, Step.fin_next, Bool.not_true, Bool.not_false, Option.getD_some]; done) | (simp [impl_CacheOk, impl_CacheOk_b1, h2, h3, h4, h5, hb1, cond_true, cond_false, Step.fin_stop, Step.fin_done, Fin.get_fin, Fin.get_done, Step.fin_next, Bool.not_true, Bool.not_false, Option.getD_some]; done) | (exfalso; simp_all; done)
            exact congrArg (fun g : Bool => AV.one (.v (.bool g))) hg.symm
          · refine x1.go hi1 (v := ()) (by first | rfl | (simp only [impl_CacheOk_b1, h2, h3, h4, h5, cond_true, cond_false, Bool.not_true, Bool.not_false, Option.getD_some, Step.fin_stop, Step.fin_done, Fin.get_fin, Fin.get_done]; done) | (exfalso; simp_all; done)) [] (by show _ - (x1.i + 1) < _ - x1.i; omega) ?_
            exact ⟨rfl, ⟨(eqInt hw1), rfl, rfl, rfl, rfl, trivial⟩, trivial, trivial⟩
        · have hb1 := x1.out hi1 (by first | rfl | (simp only [impl_CacheOk_b1, h2, h3, h4, cond_true, cond_false, Bool.not_true, Bool.not_false, Option.getD_some, Step.isNext_stop, Step.isNext_done, Step.fin_stop, Step.fin_done, Fin.get_fin, Fin.get_done]; done) | (exfalso; simp_all; done))
          refine And.intro (fun _ => .v _) ?_
          have hg : impl_CacheOk p0 p1 = false := by
            first | rfl | (simp only [impl_CacheOk, impl_CacheOk_b1, h2, h3, h4, hb1, cond_true, cond_false, Step.fin_stop, Step.fin_done, Fin.get_fin, Fin.get_done, Step.fin_next, Bool.not_true, Bool.not_false, Option.getD_some]; done) | (simp [impl_CacheOk, impl_CacheOk_b1, h2, h3, h4, hb1, cond_true, cond_false, Step.fin_stop, Step.fin_done, Fin.get_fin, Fin.get_done, Step.fin_next, Bool.not_true, Bool.not_false, Option.getD_some]; done) | (exfalso; simp_all; done)
          exact congrArg (fun g : Bool => AV.one (.v (.bool g))) hg.symm
      · have hb1 := x1.out hi1 (by first | rfl | (simp only [impl_CacheOk_b1, h2, h3, cond_true, cond_false, Bool.not_true, Bool.not_false, Option.getD_some, Step.isNext_stop, Step.isNext_done, Step.fin_stop, Step.fin_done, Fin.get_fin, Fin.get_done]; done) | (exfalso; simp_all; done))
        refine And.intro (fun _ => .v _) ?_
        have hg : impl_CacheOk p0 p1 = false := by
          first | rfl | (simp only [impl_CacheOk, impl_CacheOk_b1, h2, h3, hb1, cond_true, cond_false, Step.fin_stop, Step.fin_done, Fin.get_fin, Fin.get_done, Step.fin_next, Bool.not_true, Bool.not_false, Option.getD_some]; done) | (simp [impl_CacheOk, impl_CacheOk_b1, h2, h3, hb1, cond_true, cond_false, Step.fin_stop, Step.fin_done, Fin.get_fin, Fin.get_done, Step.fin_next, Bool.not_true, Bool.not_false, Option.getD_some]; done) | (exfalso; simp_all; done)
        exact congrArg (fun g : Bool => AV.one (.v (.bool g))) hg.symm
    · have hf1 := x1.fin (show ¬ x1.i < (p0).length by simpa using h2)
      refine lenE (k := (p0).length) (by simp) (fun hN6 => ?_)
      refine And.intro (fun _ => .v _) ?_
      have hg : impl_CacheOk p0 p1 = (decide ((((p0).length : Nat) : Int) ≤ p1)) := by
        first | rfl | (simp only [impl_CacheOk, impl_CacheOk_b1, h2, hf1, cond_true, cond_false, Step.fin_stop, Step.fin_done, Fin.get_fin, Fin.get_done, Step.fin_next, Bool.not_true, Bool.not_false, Option.getD_some]; done) | (simp [impl_CacheOk, impl_CacheOk_b1, h2, hf1, cond_true, cond_false, Step.fin_stop, Step.fin_done, Fin.get_fin, Fin.get_done, Step.fin_next, Bool.not_true, Bool.not_false, Option.getD_some]; done) | (exfalso; simp_all; done)
      exact congrArg (fun g : Bool => AV.one (.v (.bool g))) hg.symm
def impl_BucketOk (p0 : Bucket) : Bool :=
  (bif (impl_within p0.Rate 0 99) then (bif (impl_within p0.Burst 0 999) then (bif (impl_within p0.Tokens 0 p0.Burst) then (impl_within p0.At 0 2147483647) else false) else false) else false)
theorem c_impl_BucketOk (p0 : Bucket) : FnOk prog 97 [.agg (Bucket.cells p0)] ⟨.one (.v (.bool (impl_BucketOk p0))), [], [], false⟩ := by
  refine FnOk.intro (E := env) envOk wide func97 rfl (by kernel_rfl) rfl rfl ?_
  refine litE (m := 0) rfl ?_
  refine ⟨_, _, c_impl_within p0.Rate 0 99, (FzAs.same _), ?_⟩
  refine litE (m := 2) rfl ?_
  refine And.intro (fun (h1 : (impl_within p0.Rate 0 99) = true) => ?_) (fun (h1 : (impl_within p0.Rate 0 99) = false) => ?_)
  · refine ⟨_, _, c_impl_within p0.Burst 0 999, (FzAs.same _), ?_⟩
    refine litE (m := 3) rfl ?_
    refine And.intro (fun (h2 : (impl_within p0.Burst 0 999) = true) => ?_) (fun (h2 : (impl_within p0.Burst 0 999) = false) => ?_)
    · refine ⟨_, _, c_impl_within p0.Tokens 0 p0.Burst, (FzAs.same _), ?_⟩
      refine litE (m := 4) rfl ?_
      refine And.intro (fun (h3 : (impl_within p0.Tokens 0 p0.Burst) = true) => ?_) (fun (h3 : (impl_within p0.Tokens 0 p0.Burst) = false) => ?_)
      · refine ⟨_, _, c_impl_within p0.At 0 2147483647, (FzAs.same _), ?_⟩
        refine litE (m := 5) rfl ?_
        refine And.intro (fun _ => .v _) ?_
        have hg : impl_BucketOk p0 = (impl_within p0.At 0 2147483647) := by
          first | rfl | (simp only [impl_BucketOk, h1, h2, h3, cond_true, cond_false, Step.fin_stop, Step.fin_done, Fin.get_fin, Fin.get_done, Step.fin_next, Bool.not_true, Bool.not_false, Option.getD_some]; done) | (simp [impl_BucketOk, h1, h2, h3, cond_true, cond_false, Step.fin_stop, Step.fin_done, Fin.get_fin, Fin.get_done, Step.fin_next, Bool.not_true, Bool.not_false, Option.getD_some]; done) | (exfalso; simp_all; done)
        exact congrArg (fun g : Bool => AV.one (.v (.bool g))) hg.symm
      · refine And.intro (fun _ => .v _) ?_
        have hg : impl_BucketOk p0 = false := by
          first | rfl | (simp only [impl_BucketOk, h1, h2, h3, cond_true, cond_false, Step.fin_stop, Step.fin_done, Fin.get_fin, Fin.get_done, Step.fin_next, Bool.not_true, Bool.not_false, Option.getD_some]; done) | (simp [impl_BucketOk, h1, h2, h3, cond_true, cond_false, Step.fin_stop, Step.fin_done, Fin.get_fin, Fin.get_done, Step.fin_next, Bool.not_true, Bool.not_false, Option.getD_some]; done) | (exfalso; simp_all; done)
        exact congrArg (fun g : Bool => AV.one (.v (.bool g))) hg.symm
    · refine And.intro (fun _ => .v _) ?_
      have hg : impl_BucketOk p0 = false := by
        first | rfl | (simp only [impl_BucketOk, h1, h2, cond_true, cond_false, Step.fin_stop, Step.fin_done, Fin.get_fin, Fin.get_done, Step.fin_next, Bool.not_true, Bool.not_false, Option.getD_some]; done) | (simp [impl_BucketOk, h1, h2, cond_true, cond_false, Step.fin_stop, Step.fin_done, Fin.get_fin, Fin.get_done, Step.fin_next, Bool.not_true, Bool.not_false, Option.getD_some]; done) | (exfalso; simp_all; done)
      exact congrArg (fun g : Bool => AV.one (.v (.bool g))) hg.symm
  · refine And.intro (fun _ => .v _) ?_
    have hg : impl_BucketOk p0 = false := by
      first | rfl | (simp only [impl_BucketOk, h1, cond_true, cond_false, Step.fin_stop, Step.fin_done, Fin.get_fin, Fin.get_done, Step.fin_next, Bool.not_true, Bool.not_false, Option.getD_some]; done) | (simp [impl_BucketOk, h1, cond_true, cond_false, Step.fin_stop, Step.fin_done, Fin.get_fin, Fin.get_done, Step.fin_next, Bool.not_true, Bool.not_false, Option.getD_some]; done) | (exfalso; simp_all; done)
    exact congrArg (fun g : Bool => AV.one (.v (.bool g))) hg.symm
def impl_AttrOk (p0 : Attr) : Bool :=
  (bif p0.Num then (bif (impl_NameOk p0.Key) then (bif (impl_within p0.N 0 2147483647) then (decide (p0.Text = (ByteArray.mk #[]))) else false) else false) else (bif (impl_NameOk p0.Key) then (bif (impl_PlainOk p0.Text) then (p0.N == 0) else false) else false))
theorem c_impl_AttrOk (p0 : Attr) : FnOk prog 223 [.agg (Attr.cells p0)] ⟨.one (.v (.bool (impl_AttrOk p0))), [], [], false⟩ := by
  refine FnOk.intro (E := env) envOk wide func223 rfl (by kernel_rfl) rfl rfl ?_
  refine litE (m := 0) rfl ?_
  refine And.intro (fun (h1 : p0.Num = true) => ?_) (fun (h1 : p0.Num = false) => ?_)
  · refine ⟨_, _, c_impl_NameOk p0.Key, (FzAs.same _), ?_⟩
    refine litE (m := 2) rfl ?_
    refine And.intro (fun (h2 : (impl_NameOk p0.Key) = true) => ?_) (fun (h2 : (impl_NameOk p0.Key) = false) => ?_)
    · refine ⟨_, _, c_impl_within p0.N 0 2147483647, (FzAs.same _), ?_⟩
      refine litE (m := 3) rfl ?_
      refine And.intro (fun (h3 : (impl_within p0.N 0 2147483647) = true) => ?_) (fun (h3 : (impl_within p0.N 0 2147483647) = false) => ?_)
      · refine And.intro (fun _ => .v _) ?_
        have hg : impl_AttrOk p0 = (decide (p0.Text = (ByteArray.mk #[]))) := by
          first | rfl | (simp only [impl_AttrOk, h1, h2, h3, cond_true, cond_false, Step.fin_stop, Step.fin_done, Fin.get_fin, Fin.get_done, Step.fin_next, Bool.not_true, Bool.not_false, Option.getD_some]; done) | (simp [impl_AttrOk, h1, h2, h3, cond_true, cond_false, Step.fin_stop, Step.fin_done, Fin.get_fin, Fin.get_done, Step.fin_next, Bool.not_true, Bool.not_false, Option.getD_some]; done) | (exfalso; simp_all; done)
        exact congrArg (fun g : Bool => AV.one (.v (.bool g))) hg.symm
      · refine And.intro (fun _ => .v _) ?_
        have hg : impl_AttrOk p0 = false := by
          first | rfl | (simp only [impl_AttrOk, h1, h2, h3, cond_true, cond_false, Step.fin_stop, Step.fin_done, Fin.get_fin, Fin.get_done, Step.fin_next, Bool.not_true, Bool.not_false, Option.getD_some]; done) | (simp [impl_AttrOk, h1, h2, h3, cond_true, cond_false, Step.fin_stop, Step.fin_done, Fin.get_fin, Fin.get_done, Step.fin_next, Bool.not_true, Bool.not_false, Option.getD_some]; done) | (exfalso; simp_all; done)
        exact congrArg (fun g : Bool => AV.one (.v (.bool g))) hg.symm
    · refine And.intro (fun _ => .v _) ?_
      have hg : impl_AttrOk p0 = false := by
        first | rfl | (simp only [impl_AttrOk, h1, h2, cond_true, cond_false, Step.fin_stop, Step.fin_done, Fin.get_fin, Fin.get_done, Step.fin_next, Bool.not_true, Bool.not_false, Option.getD_some]; done) | (simp [impl_AttrOk, h1, h2, cond_true, cond_false, Step.fin_stop, Step.fin_done, Fin.get_fin, Fin.get_done, Step.fin_next, Bool.not_true, Bool.not_false, Option.getD_some]; done) | (exfalso; simp_all; done)
      exact congrArg (fun g : Bool => AV.one (.v (.bool g))) hg.symm
  · refine ⟨_, _, c_impl_NameOk p0.Key, (FzAs.same _), ?_⟩
    refine litE (m := 2) rfl ?_
    refine And.intro (fun (h4 : (impl_NameOk p0.Key) = true) => ?_) (fun (h4 : (impl_NameOk p0.Key) = false) => ?_)
    · refine ⟨_, _, c_impl_PlainOk p0.Text, (FzAs.same _), ?_⟩
      refine litE (m := 3) rfl ?_
      refine And.intro (fun (h5 : (impl_PlainOk p0.Text) = true) => ?_) (fun (h5 : (impl_PlainOk p0.Text) = false) => ?_)
      · refine And.intro (fun _ => .v _) ?_
        have hg : impl_AttrOk p0 = (p0.N == 0) := by
          first | rfl | (simp only [impl_AttrOk, h1, h4, h5, cond_true, cond_false, Step.fin_stop, Step.fin_done, Fin.get_fin, Fin.get_done, Step.fin_next, Bool.not_true, Bool.not_false, Option.getD_some]; done) | (simp [impl_AttrOk, h1, h4, h5, cond_true, cond_false, Step.fin_stop, Step.fin_done, Fin.get_fin, Fin.get_done, Step.fin_next, Bool.not_true, Bool.not_false, Option.getD_some]; done) | (exfalso; simp_all; done)
        exact congrArg (fun g : Bool => AV.one (.v (.bool g))) hg.symm
      · refine And.intro (fun _ => .v _) ?_
        have hg : impl_AttrOk p0 = false := by
          first | rfl | (simp only [impl_AttrOk, h1, h4, h5, cond_true, cond_false, Step.fin_stop, Step.fin_done, Fin.get_fin, Fin.get_done, Step.fin_next, Bool.not_true, Bool.not_false, Option.getD_some]; done) | (simp [impl_AttrOk, h1, h4, h5, cond_true, cond_false, Step.fin_stop, Step.fin_done, Fin.get_fin, Fin.get_done, Step.fin_next, Bool.not_true, Bool.not_false, Option.getD_some]; done) | (exfalso; simp_all; done)
        exact congrArg (fun g : Bool => AV.one (.v (.bool g))) hg.symm
    · refine And.intro (fun _ => .v _) ?_
      have hg : impl_AttrOk p0 = false := by
        first | rfl | (simp only [impl_AttrOk, h1, h4, cond_true, cond_false, Step.fin_stop, Step.fin_done, Fin.get_fin, Fin.get_done, Step.fin_next, Bool.not_true, Bool.not_false, Option.getD_some]; done) | (simp [impl_AttrOk, h1, h4, cond_true, cond_false, Step.fin_stop, Step.fin_done, Fin.get_fin, Fin.get_done, Step.fin_next, Bool.not_true, Bool.not_false, Option.getD_some]; done) | (exfalso; simp_all; done)
      exact congrArg (fun g : Bool => AV.one (.v (.bool g))) hg.symm
def impl_AttrsOk_b1 (p0 : (List Attr)) (i1 : Nat) (s1 : Unit) (a1 : Attr) : Step (Unit) Bool :=
  (bif (!(impl_AttrOk a1)) then (.done false) else (bif (decide (((i1 : Nat) : Int) > 0)) then (bif (!Op.bytesLess ((p0[((IntKind.i64.wrap (((i1 : Nat) : Int) - 1))).toNat]?.getD default).Key).toList (a1.Key).toList) then (.done false) else (.next ())) else (.next ())))
def impl_AttrsOk (p0 : (List Attr)) : Bool :=
  (Fin.get (fun s1 => (decide ((((p0).length : Nat) : Int) ≤ 4))) (loopL (impl_AttrsOk_b1 p0) 0 () p0))
theorem c_impl_AttrsOk (p0 : (List Attr)) : FnOk prog 198 [.one (.s false 4 (List.map Attr.cells p0))] ⟨.one (.v (.bool (impl_AttrsOk p0))), [], [], false⟩ := by
  refine FnOk.intro (E := env) envOk wide func198 rfl (by kernel_rfl) rfl rfl ?_
  refine lenE (k := (p0).length) (by simp) (fun hN1 => ?_)
  refine loop_rule (α := LstSt (impl_AttrsOk_b1 p0) () p0) [0, 5, 6] (fun x1 => [(7, .one (.v (.int .i64 ((x1.i : Nat) : Int))))]) (fun x1 => []) (fun x1 => (p0).length - x1.i) .init [] ?_ (fun x1 => ?_)
  · exact ⟨rfl, ⟨rfl, rfl, rfl, rfl, trivial⟩, trivial, trivial⟩
  · refine And.intro (fun (h2 : (decide (((x1.i : Nat) : Int) < (((p0).length : Nat) : Int))) = true) => ?_) (fun (h2 : (decide (((x1.i : Nat) : Int) < (((p0).length : Nat) : Int))) = false) => ?_)
    · have hi1 : x1.i < (p0).length := by simpa using h2
      have hw1 : IntKind.i64.wrap ((x1.i : Int) + 1) = ((x1.i + 1 : Nat) : Int) := wrap_succ hi1 (by first | assumption | omega)
      refine And.intro (fun _ => by first | exact idx_at hi1 | exact idx_of (by first | omega | (first | omega | (simp; done) | (simp; omega) | (simp at *; omega) | (simp at *; done) | (simp_all; done) | (simp_all; omega))) (by assumption) | (have hj := hi1; have hk := hi2; rw [List.length_map]; omega) | (have h9 : ((x1.i : Nat) : Int) > 0 := (by first | simpa using ‹decide (((x1.i : Nat) : Int) > 0) = true› | simp_all); have hj := hi1; have e9 : IntKind.i64.wrap (((x1.i : Nat) : Int) - 1) = ((x1.i : Nat) : Int) - 1 := (by rw [Go.Ev.wrap_small (n := ((x1.i : Nat) : Int) - 1)] <;> omega); rw [e9]; (try rw [List.length_map]); omega)) (rowAtE (i := x1.i) (l := p0) rfl hi1 ?_)
      refine litE (m := 0) rfl ?_
      refine .inl ⟨by kernel_rfl, ?_⟩
      refine ⟨_, _, c_impl_AttrOk (p0[x1.i]'hi1), (FzAs.same _), ?_⟩
      refine And.intro (fun (h3 : (!(impl_AttrOk (p0[x1.i]'hi1))) = false) => ?_) (fun (h3 : (!(impl_AttrOk (p0[x1.i]'hi1))) = true) => ?_)
      · refine And.intro (fun (h4 : (decide (((x1.i : Nat) : Int) > 0)) = true) => ?_) (fun (h4 : (decide (((x1.i : Nat) : Int) > 0)) = false) => ?_)
        · refine And.intro (fun _ => by first | exact idx_at hi1 | exact idx_of (by first | omega | (first | omega | (simp; done) | (simp; omega) | (simp at *; omega) | (simp at *; done) | (simp_all; done) | (simp_all; omega))) (by assumption) | (have hj := hi1; have hk := hi2; rw [List.length_map]; omega) | (have h9 : ((x1.i : Nat) : Int) > 0 := (by first | simpa using ‹decide (((x1.i : Nat) : Int) > 0) = true› | simp_all); have hj := hi1; have e9 : IntKind.i64.wrap (((x1.i : Nat) : Int) - 1) = ((x1.i : Nat) : Int) - 1 := (by rw [Go.Ev.wrap_small (n := ((x1.i : Nat) : Int) - 1)] <;> omega); rw [e9]; (try rw [List.length_map]); omega)) (rowOfE (i := ((IntKind.i64.wrap (((x1.i : Nat) : Int) - 1))).toNat) (l := p0) rfl (fun e5 he5 => ?_))
          refine And.intro (fun (h6 : (!Op.bytesLess (e5.Key).toList ((p0[x1.i]'hi1).Key).toList) = true) => ?_) (fun (h6 : (!Op.bytesLess (e5.Key).toList ((p0[x1.i]'hi1).Key).toList) = false) => ?_)
          · have hb1 := x1.out hi1 (by first | rfl | (simp only [impl_AttrsOk_b1, h2, h3, h4, he5, h6, cond_true, cond_false, Bool.not_true, Bool.not_false, Option.getD_some, Step.isNext_stop, Step.isNext_done, Step.fin_stop, Step.fin_done, Fin.get_fin, Fin.get_done]; done) | (exfalso; simp_all; done))
            refine And.intro (fun _ => .v _) ?_
            have hg : impl_AttrsOk p0 = false := by
              first | rfl | (simp only [impl_AttrsOk, impl_AttrsOk_b1, h2, h3, h4, he5, h6, hb1, cond_true, cond_false, Step.fin_stop, Step.fin_done, Fin.get_fin, Fin.get_done, Step.fin_next, Bool.not_true, Bool.not_false, Option.getD_some]; done) | (simp [impl_AttrsOk, impl_AttrsOk_b1, h2, h3, h4, he5, h6, hb1, cond_true, cond_false, Step.fin_stop, Step.fin_done, Fin.get_fin, Fin.get_done, Step.fin_next, Bool.not_true, Bool.not_false, Option.getD_some]; done) | (exfalso; simp_all; done)
            exact congrArg (fun g : Bool => AV.one (.v (.bool g))) hg.symm
          · refine x1.go hi1 (v := ()) (by first | rfl | (simp only [impl_AttrsOk_b1, h2, h3, h4, he5, h6, cond_true, cond_false, Bool.not_true, Bool.not_false, Option.getD_some, Step.fin_stop, Step.fin_done, Fin.get_fin, Fin.get_done]; done) | (exfalso; simp_all; done)) [] (by show _ - (x1.i + 1) < _ - x1.i; omega) ?_
            exact ⟨rfl, ⟨(eqInt hw1), rfl, rfl, rfl, trivial⟩, trivial, trivial⟩
        · refine x1.go hi1 (v := ()) (by first | rfl | (simp only [impl_AttrsOk_b1, h2, h3, h4, cond_true, cond_false, Bool.not_true, Bool.not_false, Option.getD_some, Step.fin_stop, Step.fin_done, Fin.get_fin, Fin.get_done]; done) | (exfalso; simp_all; done)) [] (by show _ - (x1.i + 1) < _ - x1.i; omega) ?_
          exact ⟨rfl, ⟨(eqInt hw1), rfl, rfl, rfl, trivial⟩, trivial, trivial⟩
      · have hb1 := x1.out hi1 (by first | rfl | (simp only [impl_AttrsOk_b1, h2, h3, cond_true, cond_false, Bool.not_true, Bool.not_false, Option.getD_some, Step.isNext_stop, Step.isNext_done, Step.fin_stop, Step.fin_done, Fin.get_fin, Fin.get_done]; done) | (exfalso; simp_all; done))
        refine And.intro (fun _ => .v _) ?_
        have hg : impl_AttrsOk p0 = false := by
          first | rfl | (simp only [impl_AttrsOk, impl_AttrsOk_b1, h2, h3, hb1, cond_true, cond_false, Step.fin_stop, Step.fin_done, Fin.get_fin, Fin.get_done, Step.fin_next, Bool.not_true, Bool.not_false, Option.getD_some]; done) | (simp [impl_AttrsOk, impl_AttrsOk_b1, h2, h3, hb1, cond_true, cond_false, Step.fin_stop, Step.fin_done, Fin.get_fin, Fin.get_done, Step.fin_next, Bool.not_true, Bool.not_false, Option.getD_some]; done) | (exfalso; simp_all; done)
        exact congrArg (fun g : Bool => AV.one (.v (.bool g))) hg.symm
    · have hf1 := x1.fin (show ¬ x1.i < (p0).length by simpa using h2)
      refine lenE (k := (p0).length) (by simp) (fun hN7 => ?_)
      refine And.intro (fun _ => .v _) ?_
      have hg : impl_AttrsOk p0 = (decide ((((p0).length : Nat) : Int) ≤ 4)) := by
        first | rfl | (simp only [impl_AttrsOk, impl_AttrsOk_b1, h2, hf1, cond_true, cond_false, Step.fin_stop, Step.fin_done, Fin.get_fin, Fin.get_done, Step.fin_next, Bool.not_true, Bool.not_false, Option.getD_some]; done) | (simp [impl_AttrsOk, impl_AttrsOk_b1, h2, hf1, cond_true, cond_false, Step.fin_stop, Step.fin_done, Fin.get_fin, Fin.get_done, Step.fin_next, Bool.not_true, Bool.not_false, Option.getD_some]; done) | (exfalso; simp_all; done)
      exact congrArg (fun g : Bool => AV.one (.v (.bool g))) hg.symm
def impl_AttrSize (p0 : Attr) : Int :=
  (bif p0.Num then (IntKind.i64.wrap ((((p0.Key).size : Nat) : Int) + 4)) else (IntKind.i64.wrap ((((p0.Key).size : Nat) : Int) + (((p0.Text).size : Nat) : Int))))
theorem c_impl_AttrSize (p0 : Attr) : FnOk prog 224 [.agg (Attr.cells p0)] ⟨.one (.v (.int .i64 (impl_AttrSize p0))), [], [], false⟩ := by
  refine FnOk.intro (E := env) envOk wide func224 rfl (by kernel_rfl) rfl rfl ?_
  refine litE (m := 0) rfl ?_
  refine And.intro (fun (h1 : p0.Num = true) => ?_) (fun (h1 : p0.Num = false) => ?_)
  · refine fun hN => ?_
    have hN2 : (_ : Nat) ≤ 9223372036854775807 := hN rfl
    refine And.intro (fun _ => .v _) ?_
    have hg : impl_AttrSize p0 = (IntKind.i64.wrap ((((p0.Key).size : Nat) : Int) + 4)) := by
      first | rfl | (simp only [impl_AttrSize, h1, cond_true, cond_false, Step.fin_stop, Step.fin_done, Fin.get_fin, Fin.get_done, Step.fin_next, Bool.not_true, Bool.not_false, Option.getD_some]; done) | (simp [impl_AttrSize, h1, cond_true, cond_false, Step.fin_stop, Step.fin_done, Fin.get_fin, Fin.get_done, Step.fin_next, Bool.not_true, Bool.not_false, Option.getD_some]; done) | (exfalso; simp_all; done)
    exact congrArg (fun g : Int => AV.one (.v (.int .i64 g))) hg.symm
  · refine fun hN => ?_
    have hN3 : (_ : Nat) ≤ 9223372036854775807 := hN rfl
    refine fun hN => ?_
    have hN4 : (_ : Nat) ≤ 9223372036854775807 := hN rfl
    refine And.intro (fun _ => .v _) ?_
    have hg : impl_AttrSize p0 = (IntKind.i64.wrap ((((p0.Key).size : Nat) : Int) + (((p0.Text).size : Nat) : Int))) := by
      first | rfl | (simp only [impl_AttrSize, h1, cond_true, cond_false, Step.fin_stop, Step.fin_done, Fin.get_fin, Fin.get_done, Step.fin_next, Bool.not_true, Bool.not_false, Option.getD_some]; done) | (simp [impl_AttrSize, h1, cond_true, cond_false, Step.fin_stop, Step.fin_done, Fin.get_fin, Fin.get_done, Step.fin_next, Bool.not_true, Bool.not_false, Option.getD_some]; done) | (exfalso; simp_all; done)
    exact congrArg (fun g : Int => AV.one (.v (.int .i64 g))) hg.symm
def impl_SizeOf_b1 (i1 : Nat) (s1 : Int) (a1 : Attr) : Step (Int) Int :=
  (.next (IntKind.i64.wrap (s1 + (impl_AttrSize a1))))
def impl_SizeOf (p0 : Span) : Int :=
  (Fin.get (fun s1 => s1) (loopL impl_SizeOf_b1 0 12 p0.Attrs))
theorem c_impl_SizeOf (p0 : Span) : FnOk prog 199 [.agg ((Span.cells false) p0)] ⟨.one (.v (.int .i64 (impl_SizeOf p0))), [], [], false⟩ := by
  refine FnOk.intro (E := env) envOk wide func199 rfl (by kernel_rfl) rfl rfl ?_
  refine litE (m := 0) rfl ?_
  refine lenE (k := (p0.Attrs).length) (by simp) (fun hN1 => ?_)
  refine loop_rule (α := LstSt impl_SizeOf_b1 12 p0.Attrs) [7, 8] (fun x1 => [(3, .one (.v (.int .i64 x1.s))), (9, .one (.v (.int .i64 ((x1.i : Nat) : Int))))]) (fun x1 => [.dead]) (fun x1 => (p0.Attrs).length - x1.i) .init [none] ?_ (fun x1 => ?_)
  · exact ⟨rfl, ⟨rfl, rfl, rfl, rfl, trivial⟩, trivial, trivial⟩
  · refine And.intro (fun (h2 : (decide (((x1.i : Nat) : Int) < (((p0.Attrs).length : Nat) : Int))) = true) => ?_) (fun (h2 : (decide (((x1.i : Nat) : Int) < (((p0.Attrs).length : Nat) : Int))) = false) => ?_)
    · have hi1 : x1.i < (p0.Attrs).length := by simpa using h2
      have hw1 : IntKind.i64.wrap ((x1.i : Int) + 1) = ((x1.i + 1 : Nat) : Int) := wrap_succ hi1 (by first | assumption | omega)
      refine And.intro (fun _ => by exact idx_at hi1) (rowAtE (i := x1.i) (l := p0.Attrs) rfl hi1 ?_)
      refine litE (m := 1) rfl ?_
      refine ⟨_, _, c_impl_AttrSize (p0.Attrs[x1.i]'hi1), (FzAs.same _), ?_⟩
      refine litE (m := 3) rfl ?_
      refine x1.go hi1 (v := (IntKind.i64.wrap (x1.s + (impl_AttrSize (p0.Attrs[x1.i]'hi1))))) (by first | rfl | (simp only [impl_SizeOf_b1, h2, cond_true, cond_false, Bool.not_true, Bool.not_false, Option.getD_some, Step.fin_stop, Step.fin_done, Fin.get_fin, Fin.get_done]; done) | (exfalso; simp_all; done)) [none] (by show _ - (x1.i + 1) < _ - x1.i; omega) ?_
      exact ⟨rfl, ⟨rfl, (eqInt hw1), rfl, rfl, trivial⟩, trivial, trivial⟩
    · have hf1 := x1.fin (show ¬ x1.i < (p0.Attrs).length by simpa using h2)
      refine And.intro (fun _ => .v _) ?_
      have hg : impl_SizeOf p0 = x1.s := by
        first | rfl | (simp only [impl_SizeOf, impl_SizeOf_b1, h2, hf1, cond_true, cond_false, Step.fin_stop, Step.fin_done, Fin.get_fin, Fin.get_done, Step.fin_next, Bool.not_true, Bool.not_false, Option.getD_some]; done) | (simp [impl_SizeOf, impl_SizeOf_b1, h2, hf1, cond_true, cond_false, Step.fin_stop, Step.fin_done, Fin.get_fin, Fin.get_done, Step.fin_next, Bool.not_true, Bool.not_false, Option.getD_some]; done) | (exfalso; simp_all; done)
      exact congrArg (fun g : Int => AV.one (.v (.int .i64 g))) hg.symm
def impl_SpanOk (p0 : Span) : Bool :=
  (bif (impl_within p0.Trace 1 999) then (bif (impl_within p0.Id 1 999) then (bif (impl_within p0.End 0 99999) then (bif (impl_within p0.Start 0 p0.End) then (bif (impl_AttrsOk p0.Attrs) then (decide ((impl_SizeOf p0) ≤ 96)) else false) else false) else false) else false) else false)
theorem c_impl_SpanOk (p0 : Span) : FnOk prog 167 [.agg ((Span.cells false) p0)] ⟨.one (.v (.bool (impl_SpanOk p0))), [], [], false⟩ := by
  refine FnOk.intro (E := env) envOk wide func167 rfl (by kernel_rfl) rfl rfl ?_
  refine litE (m := 0) rfl ?_
  refine ⟨_, _, c_impl_within p0.Trace 1 999, (FzAs.same _), ?_⟩
  refine litE (m := 2) rfl ?_
  refine And.intro (fun (h1 : (impl_within p0.Trace 1 999) = true) => ?_) (fun (h1 : (impl_within p0.Trace 1 999) = false) => ?_)
  · refine ⟨_, _, c_impl_within p0.Id 1 999, (FzAs.same _), ?_⟩
    refine litE (m := 3) rfl ?_
    refine And.intro (fun (h2 : (impl_within p0.Id 1 999) = true) => ?_) (fun (h2 : (impl_within p0.Id 1 999) = false) => ?_)
    · refine ⟨_, _, c_impl_within p0.End 0 99999, (FzAs.same _), ?_⟩
      refine litE (m := 4) rfl ?_
      refine And.intro (fun (h3 : (impl_within p0.End 0 99999) = true) => ?_) (fun (h3 : (impl_within p0.End 0 99999) = false) => ?_)
      · refine ⟨_, _, c_impl_within p0.Start 0 p0.End, (FzAs.same _), ?_⟩
        refine litE (m := 5) rfl ?_
        refine And.intro (fun (h4 : (impl_within p0.Start 0 p0.End) = true) => ?_) (fun (h4 : (impl_within p0.Start 0 p0.End) = false) => ?_)
        · refine ⟨_, _, c_impl_AttrsOk p0.Attrs, (FzAs.same _), ?_⟩
          refine litE (m := 6) rfl ?_
          refine And.intro (fun (h5 : (impl_AttrsOk p0.Attrs) = true) => ?_) (fun (h5 : (impl_AttrsOk p0.Attrs) = false) => ?_)
          · refine ⟨_, _, c_impl_SizeOf p0, (FzAs.same _), ?_⟩
            refine litE (m := 7) rfl ?_
            refine And.intro (fun _ => .v _) ?_
            have hg : impl_SpanOk p0 = (decide ((impl_SizeOf p0) ≤ 96)) := by
              first | rfl | (simp only [impl_SpanOk, h1, h2, h3, h4, h5, cond_true, cond_false, Step.fin_stop, Step.fin_done, Fin.get_fin, Fin.get_done, Step.fin_next, Bool.not_true, Bool.not_false, Option.getD_some]; done) | (simp [impl_SpanOk, h1, h2, h3, h4, h5, cond_true, cond_false, Step.fin_stop, Step.fin_done, Fin.get_fin, Fin.get_done, Step.fin_next, Bool.not_true, Bool.not_false, Option.getD_some]; done) | (exfalso; simp_all; done)
            exact congrArg (fun g : Bool => AV.one (.v (.bool g))) hg.symm
          · refine And.intro (fun _ => .v _) ?_
            have hg : impl_SpanOk p0 = false := by
              first | rfl | (simp only [impl_SpanOk, h1, h2, h3, h4, h5, cond_true, cond_false, Step.fin_stop, Step.fin_done, Fin.get_fin, Fin.get_done, Step.fin_next, Bool.not_true, Bool.not_false, Option.getD_some]; done) | (simp [impl_SpanOk, h1, h2, h3, h4, h5, cond_true, cond_false, Step.fin_stop, Step.fin_done, Fin.get_fin, Fin.get_done, Step.fin_next, Bool.not_true, Bool.not_false, Option.getD_some]; done) | (exfalso; simp_all; done)
            exact congrArg (fun g : Bool => AV.one (.v (.bool g))) hg.symm
        · refine And.intro (fun _ => .v _) ?_
          have hg : impl_SpanOk p0 = false := by
            first | rfl | (simp only [impl_SpanOk, h1, h2, h3, h4, cond_true, cond_false, Step.fin_stop, Step.fin_done, Fin.get_fin, Fin.get_done, Step.fin_next, Bool.not_true, Bool.not_false, Option.getD_some]; done) | (simp [impl_SpanOk, h1, h2, h3, h4, cond_true, cond_false, Step.fin_stop, Step.fin_done, Fin.get_fin, Fin.get_done, Step.fin_next, Bool.not_true, Bool.not_false, Option.getD_some]; done) | (exfalso; simp_all; done)
          exact congrArg (fun g : Bool => AV.one (.v (.bool g))) hg.symm
      · refine And.intro (fun _ => .v _) ?_
        have hg : impl_SpanOk p0 = false := by
          first | rfl | (simp only [impl_SpanOk, h1, h2, h3, cond_true, cond_false, Step.fin_stop, Step.fin_done, Fin.get_fin, Fin.get_done, Step.fin_next, Bool.not_true, Bool.not_false, Option.getD_some]; done) | (simp [impl_SpanOk, h1, h2, h3, cond_true, cond_false, Step.fin_stop, Step.fin_done, Fin.get_fin, Fin.get_done, Step.fin_next, Bool.not_true, Bool.not_false, Option.getD_some]; done) | (exfalso; simp_all; done)
        exact congrArg (fun g : Bool => AV.one (.v (.bool g))) hg.symm
    · refine And.intro (fun _ => .v _) ?_
      have hg : impl_SpanOk p0 = false := by
        first | rfl | (simp only [impl_SpanOk, h1, h2, cond_true, cond_false, Step.fin_stop, Step.fin_done, Fin.get_fin, Fin.get_done, Step.fin_next, Bool.not_true, Bool.not_false, Option.getD_some]; done) | (simp [impl_SpanOk, h1, h2, cond_true, cond_false, Step.fin_stop, Step.fin_done, Fin.get_fin, Fin.get_done, Step.fin_next, Bool.not_true, Bool.not_false, Option.getD_some]; done) | (exfalso; simp_all; done)
      exact congrArg (fun g : Bool => AV.one (.v (.bool g))) hg.symm
  · refine And.intro (fun _ => .v _) ?_
    have hg : impl_SpanOk p0 = false := by
      first | rfl | (simp only [impl_SpanOk, h1, cond_true, cond_false, Step.fin_stop, Step.fin_done, Fin.get_fin, Fin.get_done, Step.fin_next, Bool.not_true, Bool.not_false, Option.getD_some]; done) | (simp [impl_SpanOk, h1, cond_true, cond_false, Step.fin_stop, Step.fin_done, Fin.get_fin, Fin.get_done, Step.fin_next, Bool.not_true, Bool.not_false, Option.getD_some]; done) | (exfalso; simp_all; done)
    exact congrArg (fun g : Bool => AV.one (.v (.bool g))) hg.symm
def impl_TrailOk_b1 (p0 : Trail) (i1 : Nat) (s1 : Unit) (a1 : Span) : Step (Unit) Bool :=
  (bif (!(impl_SpanOk a1)) then (.done false) else (bif (a1.Trace != p0.Id) then (.done false) else (.next ())))
def impl_TrailOk (p0 : Trail) : Bool :=
  (Fin.get (fun s1 => (bif (impl_within p0.Id 1 999) then (bif (decide (p0.Stamp ≥ 1)) then (bif (impl_within p0.First 0 2147483647) then (decide ((((p0.Spans).length : Nat) : Int) > 0)) else false) else false) else false)) (loopL (impl_TrailOk_b1 p0) 0 () p0.Spans))
theorem c_impl_TrailOk (p0 : Trail) : FnOk prog 98 [.agg ((Trail.cells false) p0)] ⟨.one (.v (.bool (impl_TrailOk p0))), [], [], false⟩ := by
  refine FnOk.intro (E := env) envOk wide func98 rfl (by kernel_rfl) rfl rfl ?_
  refine litE (m := 0) rfl ?_
  refine lenE (k := (p0.Spans).length) (by simp) (fun hN1 => ?_)
  refine loop_rule (α := LstSt (impl_TrailOk_b1 p0) () p0.Spans) [1, 6, 7] (fun x1 => [(8, .one (.v (.int .i64 ((x1.i : Nat) : Int))))]) (fun x1 => [.keep 0]) (fun x1 => (p0.Spans).length - x1.i) .init [some 0] ?_ (fun x1 => ?_)
  · exact ⟨rfl, ⟨rfl, ⟨rfl, rfl, rfl, rfl⟩, rfl, rfl, trivial⟩, ⟨⟨rfl, rfl, ⟨rfl, rfl, rfl, rfl, trivial⟩⟩, trivial⟩, trivial⟩
  · refine And.intro (fun (h2 : (decide (((x1.i : Nat) : Int) < (((p0.Spans).length : Nat) : Int))) = true) => ?_) (fun (h2 : (decide (((x1.i : Nat) : Int) < (((p0.Spans).length : Nat) : Int))) = false) => ?_)
    · have hi1 : x1.i < (p0.Spans).length := by simpa using h2
      have hw1 : IntKind.i64.wrap ((x1.i : Int) + 1) = ((x1.i + 1 : Nat) : Int) := wrap_succ hi1 (by first | assumption | omega)
      refine And.intro (fun _ => by exact idx_at hi1) (rowAtE (i := x1.i) (l := p0.Spans) rfl hi1 ?_)
      refine litE (m := 1) rfl ?_
      refine ⟨_, _, c_impl_SpanOk (p0.Spans[x1.i]'hi1), (FzAs.same _), ?_⟩
      refine litE (m := 3) rfl ?_
      refine And.intro (fun (h3 : (!(impl_SpanOk (p0.Spans[x1.i]'hi1))) = false) => ?_) (fun (h3 : (!(impl_SpanOk (p0.Spans[x1.i]'hi1))) = true) => ?_)
      · refine And.intro (fun (h4 : ((p0.Spans[x1.i]'hi1).Trace != p0.Id) = true) => ?_) (fun (h4 : ((p0.Spans[x1.i]'hi1).Trace != p0.Id) = false) => ?_)
        · have hb1 := x1.out hi1 (by first | rfl | (simp only [impl_TrailOk_b1, h2, h3, h4, cond_true, cond_false, Bool.not_true, Bool.not_false, Option.getD_some, Step.isNext_stop, Step.isNext_done, Step.fin_stop, Step.fin_done, Fin.get_fin, Fin.get_done]; done) | (exfalso; simp_all; done))
          refine And.intro (fun _ => .v _) ?_
          have hg : impl_TrailOk p0 = false := by
            first | rfl | (simp only [impl_TrailOk, impl_TrailOk_b1, h2, h3, h4, hb1, cond_true, cond_false, Step.fin_stop, Step.fin_done, Fin.get_fin, Fin.get_done, Step.fin_next, Bool.not_true, Bool.not_false, Option.getD_some]; done) | (simp [impl_TrailOk, impl_TrailOk_b1, h2, h3, h4, hb1, cond_true, cond_false, Step.fin_stop, Step.fin_done, Fin.get_fin, Fin.get_done, Step.fin_next, Bool.not_true, Bool.not_false, Option.getD_some]; done) | (exfalso; simp_all; done)
          exact congrArg (fun g : Bool => AV.one (.v (.bool g))) hg.symm
        · refine x1.go hi1 (v := ()) (by first | rfl | (simp only [impl_TrailOk_b1, h2, h3, h4, cond_true, cond_false, Bool.not_true, Bool.not_false, Option.getD_some, Step.fin_stop, Step.fin_done, Fin.get_fin, Fin.get_done]; done) | (exfalso; simp_all; done)) [some 0] (by show _ - (x1.i + 1) < _ - x1.i; omega) ?_
          exact ⟨rfl, ⟨(eqInt hw1), ⟨rfl, rfl, rfl, rfl⟩, rfl, rfl, trivial⟩, ⟨⟨rfl, rfl, ⟨rfl, rfl, rfl, rfl, trivial⟩⟩, trivial⟩, trivial⟩
      · have hb1 := x1.out hi1 (by first | rfl | (simp only [impl_TrailOk_b1, h2, h3, cond_true, cond_false, Bool.not_true, Bool.not_false, Option.getD_some, Step.isNext_stop, Step.isNext_done, Step.fin_stop, Step.fin_done, Fin.get_fin, Fin.get_done]; done) | (exfalso; simp_all; done))
        refine And.intro (fun _ => .v _) ?_
        have hg : impl_TrailOk p0 = false := by
          first | rfl | (simp only [impl_TrailOk, impl_TrailOk_b1, h2, h3, hb1, cond_true, cond_false, Step.fin_stop, Step.fin_done, Fin.get_fin, Fin.get_done, Step.fin_next, Bool.not_true, Bool.not_false, Option.getD_some]; done) | (simp [impl_TrailOk, impl_TrailOk_b1, h2, h3, hb1, cond_true, cond_false, Step.fin_stop, Step.fin_done, Fin.get_fin, Fin.get_done, Step.fin_next, Bool.not_true, Bool.not_false, Option.getD_some]; done) | (exfalso; simp_all; done)
        exact congrArg (fun g : Bool => AV.one (.v (.bool g))) hg.symm
    · have hf1 := x1.fin (show ¬ x1.i < (p0.Spans).length by simpa using h2)
      refine ⟨_, _, c_impl_within p0.Id 1 999, (FzAs.same _), ?_⟩
      refine litE (m := 2) rfl ?_
      refine And.intro (fun (h5 : (impl_within p0.Id 1 999) = true) => ?_) (fun (h5 : (impl_within p0.Id 1 999) = false) => ?_)
      · refine And.intro (fun (h6 : (decide (p0.Stamp ≥ 1)) = true) => ?_) (fun (h6 : (decide (p0.Stamp ≥ 1)) = false) => ?_)
        · refine ⟨_, _, c_impl_within p0.First 0 2147483647, (FzAs.same _), ?_⟩
          refine litE (m := 3) rfl ?_
          refine And.intro (fun (h7 : (impl_within p0.First 0 2147483647) = true) => ?_) (fun (h7 : (impl_within p0.First 0 2147483647) = false) => ?_)
          · refine lenE (k := (p0.Spans).length) (by simp) (fun hN8 => ?_)
            refine And.intro (fun _ => .v _) ?_
            have hg : impl_TrailOk p0 = (decide ((((p0.Spans).length : Nat) : Int) > 0)) := by
              first | rfl | (simp only [impl_TrailOk, impl_TrailOk_b1, h2, hf1, h5, h6, h7, cond_true, cond_false, Step.fin_stop, Step.fin_done, Fin.get_fin, Fin.get_done, Step.fin_next, Bool.not_true, Bool.not_false, Option.getD_some]; done) | (simp [impl_TrailOk, impl_TrailOk_b1, h2, hf1, h5, h6, h7, cond_true, cond_false, Step.fin_stop, Step.fin_done, Fin.get_fin, Fin.get_done, Step.fin_next, Bool.not_true, Bool.not_false, Option.getD_some]; done) | (exfalso; simp_all; done)
            exact congrArg (fun g : Bool => AV.one (.v (.bool g))) hg.symm
          · refine And.intro (fun _ => .v _) ?_
            have hg : impl_TrailOk p0 = false := by
              first | rfl | (simp only [impl_TrailOk, impl_TrailOk_b1, h2, hf1, h5, h6, h7, cond_true, cond_false, Step.fin_stop, Step.fin_done, Fin.get_fin, Fin.get_done, Step.fin_next, Bool.not_true, Bool.not_false, Option.getD_some]; done) | (simp [impl_TrailOk, impl_TrailOk_b1, h2, hf1, h5, h6, h7, cond_true, cond_false, Step.fin_stop, Step.fin_done, Fin.get_fin, Fin.get_done, Step.fin_next, Bool.not_true, Bool.not_false, Option.getD_some]; done) | (exfalso; simp_all; done)
            exact congrArg (fun g : Bool => AV.one (.v (.bool g))) hg.symm
        · refine And.intro (fun _ => .v _) ?_
          have hg : impl_TrailOk p0 = false := by
            first | rfl | (simp only [impl_TrailOk, impl_TrailOk_b1, h2, hf1, h5, h6, cond_true, cond_false, Step.fin_stop, Step.fin_done, Fin.get_fin, Fin.get_done, Step.fin_next, Bool.not_true, Bool.not_false, Option.getD_some]; done) | (simp [impl_TrailOk, impl_TrailOk_b1, h2, hf1, h5, h6, cond_true, cond_false, Step.fin_stop, Step.fin_done, Fin.get_fin, Fin.get_done, Step.fin_next, Bool.not_true, Bool.not_false, Option.getD_some]; done) | (exfalso; simp_all; done)
          exact congrArg (fun g : Bool => AV.one (.v (.bool g))) hg.symm
      · refine And.intro (fun _ => .v _) ?_
        have hg : impl_TrailOk p0 = false := by
          first | rfl | (simp only [impl_TrailOk, impl_TrailOk_b1, h2, hf1, h5, cond_true, cond_false, Step.fin_stop, Step.fin_done, Fin.get_fin, Fin.get_done, Step.fin_next, Bool.not_true, Bool.not_false, Option.getD_some]; done) | (simp [impl_TrailOk, impl_TrailOk_b1, h2, hf1, h5, cond_true, cond_false, Step.fin_stop, Step.fin_done, Fin.get_fin, Fin.get_done, Step.fin_next, Bool.not_true, Bool.not_false, Option.getD_some]; done) | (exfalso; simp_all; done)
        exact congrArg (fun g : Bool => AV.one (.v (.bool g))) hg.symm
def slices_Index_168_b1 (p1 : Int) (i1 : Nat) (s1 : Unit) (a1 : Int) : Step (Unit) Int :=
  (bif (p1 == a1) then (.done ((i1 : Nat) : Int)) else (.next ()))
def slices_Index_168 (p0 : (List Int)) (p1 : Int) : Int :=
  (Fin.get (fun s1 => (-1)) (loopL (slices_Index_168_b1 p1) 0 () p0))
theorem c_slices_Index_168 (p0 : (List Int)) (p1 : Int) : FnOk prog 168 [.one (.s false 1 (List.map cInt p0)), .one (.v (.int .i64 p1))] ⟨.one (.v (.int .i64 (slices_Index_168 p0 p1))), [], [], false⟩ := by
  refine FnOk.intro (E := env) envOk wide func168 rfl (by kernel_rfl) rfl rfl ?_
  refine lenE (k := (p0).length) (by simp) (fun hN1 => ?_)
  refine loop_rule (α := LstSt (slices_Index_168_b1 p1) () p0) [0, 1, 7] (fun x1 => [(8, .one (.v (.int .i64 ((x1.i : Nat) : Int))))]) (fun x1 => []) (fun x1 => (p0).length - x1.i) .init [] ?_ (fun x1 => ?_)
  · exact ⟨rfl, ⟨rfl, rfl, rfl, rfl, trivial⟩, trivial, trivial⟩
  · refine And.intro (fun (h2 : (decide (((x1.i : Nat) : Int) < (((p0).length : Nat) : Int))) = true) => ?_) (fun (h2 : (decide (((x1.i : Nat) : Int) < (((p0).length : Nat) : Int))) = false) => ?_)
    · have hi1 : x1.i < (p0).length := by simpa using h2
      have hw1 : IntKind.i64.wrap ((x1.i : Int) + 1) = ((x1.i + 1 : Nat) : Int) := wrap_succ hi1 (by first | assumption | omega)
      refine And.intro (fun _ => by exact idx_at hi1) (rowAtE (i := x1.i) (l := p0) rfl hi1 ?_)
      refine And.intro (fun (h3 : (p1 == (p0[x1.i]'hi1)) = true) => ?_) (fun (h3 : (p1 == (p0[x1.i]'hi1)) = false) => ?_)
      · have hb1 := x1.out hi1 (by first | rfl | (simp only [slices_Index_168_b1, h2, h3, cond_true, cond_false, Bool.not_true, Bool.not_false, Option.getD_some, Step.isNext_stop, Step.isNext_done, Step.fin_stop, Step.fin_done, Fin.get_fin, Fin.get_done]; done) | (exfalso; simp_all; done))
        refine And.intro (fun _ => .v _) ?_
        have hg : slices_Index_168 p0 p1 = ((x1.i : Nat) : Int) := by
          first | rfl | (simp only [slices_Index_168, slices_Index_168_b1, h2, h3, hb1, cond_true, cond_false, Step.fin_stop, Step.fin_done, Fin.get_fin, Fin.get_done, Step.fin_next, Bool.not_true, Bool.not_false, Option.getD_some]; done) | (simp [slices_Index_168, slices_Index_168_b1, h2, h3, hb1, cond_true, cond_false, Step.fin_stop, Step.fin_done, Fin.get_fin, Fin.get_done, Step.fin_next, Bool.not_true, Bool.not_false, Option.getD_some]; done) | (exfalso; simp_all; done)
        exact congrArg (fun g : Int => AV.one (.v (.int .i64 g))) hg.symm
      · refine x1.go hi1 (v := ()) (by first | rfl | (simp only [slices_Index_168_b1, h2, h3, cond_true, cond_false, Bool.not_true, Bool.not_false, Option.getD_some, Step.fin_stop, Step.fin_done, Fin.get_fin, Fin.get_done]; done) | (exfalso; simp_all; done)) [] (by show _ - (x1.i + 1) < _ - x1.i; omega) ?_
        exact ⟨rfl, ⟨(eqInt hw1), rfl, rfl, rfl, trivial⟩, trivial, trivial⟩
    · have hf1 := x1.fin (show ¬ x1.i < (p0).length by simpa using h2)
      refine And.intro (fun _ => .v _) ?_
      have hg : slices_Index_168 p0 p1 = (-1) := by
        first | rfl | (simp only [slices_Index_168, slices_Index_168_b1, h2, hf1, cond_true, cond_false, Step.fin_stop, Step.fin_done, Fin.get_fin, Fin.get_done, Step.fin_next, Bool.not_true, Bool.not_false, Option.getD_some]; done) | (simp [slices_Index_168, slices_Index_168_b1, h2, hf1, cond_true, cond_false, Step.fin_stop, Step.fin_done, Fin.get_fin, Fin.get_done, Step.fin_next, Bool.not_true, Bool.not_false, Option.getD_some]; done) | (exfalso; simp_all; done)
      exact congrArg (fun g : Int => AV.one (.v (.int .i64 g))) hg.symm
def slices_Contains_99 (p0 : (List Int)) (p1 : Int) : Bool :=
  (decide ((slices_Index_168 p0 p1) ≥ 0))
theorem c_slices_Contains_99 (p0 : (List Int)) (p1 : Int) : FnOk prog 99 [.one (.s false 1 (List.map cInt p0)), .one (.v (.int .i64 p1))] ⟨.one (.v (.bool (slices_Contains_99 p0 p1))), [], [], false⟩ := by
  refine FnOk.intro (E := env) envOk wide func99 rfl (by kernel_rfl) rfl rfl ?_
  refine ⟨_, _, c_slices_Index_168 p0 p1, (FzAs.same _), ?_⟩
  refine litE (m := 1) rfl ?_
  refine And.intro (fun _ => .v _) ?_
  have hg : slices_Contains_99 p0 p1 = (decide ((slices_Index_168 p0 p1) ≥ 0)) := by
    first | rfl | (simp only [slices_Contains_99, cond_true, cond_false, Step.fin_stop, Step.fin_done, Fin.get_fin, Fin.get_done, Step.fin_next, Bool.not_true, Bool.not_false, Option.getD_some]; done) | (simp [slices_Contains_99, cond_true, cond_false, Step.fin_stop, Step.fin_done, Fin.get_fin, Fin.get_done, Step.fin_next, Bool.not_true, Bool.not_false, Option.getD_some]; done) | (exfalso; simp_all; done)
  exact congrArg (fun g : Bool => AV.one (.v (.bool g))) hg.symm
def impl_TotalOf_b1 (i1 : Nat) (s1 : Int) (a1 : Span) : Step (Int) Int :=
  (.next (IntKind.i64.wrap (s1 + (impl_SizeOf a1))))
def impl_TotalOf (p0 : (List Span)) : Int :=
  (Fin.get (fun s1 => s1) (loopL impl_TotalOf_b1 0 0 p0))
theorem c_impl_TotalOf (p0 : (List Span)) : FnOk prog 169 [.one (.s false 6 (List.map (Span.cells false) p0))] ⟨.one (.v (.int .i64 (impl_TotalOf p0))), [], [], false⟩ := by
  refine FnOk.intro (E := env) envOk wide func169 rfl (by kernel_rfl) rfl rfl ?_
  refine lenE (k := (p0).length) (by simp) (fun hN1 => ?_)
  refine loop_rule (α := LstSt impl_TotalOf_b1 0 p0) [6, 7] (fun x1 => [(3, .one (.v (.int .i64 x1.s))), (8, .one (.v (.int .i64 ((x1.i : Nat) : Int))))]) (fun x1 => []) (fun x1 => (p0).length - x1.i) .init [] ?_ (fun x1 => ?_)
  · exact ⟨rfl, ⟨rfl, rfl, rfl, rfl, trivial⟩, trivial, trivial⟩
  · refine And.intro (fun (h2 : (decide (((x1.i : Nat) : Int) < (((p0).length : Nat) : Int))) = true) => ?_) (fun (h2 : (decide (((x1.i : Nat) : Int) < (((p0).length : Nat) : Int))) = false) => ?_)
    · have hi1 : x1.i < (p0).length := by simpa using h2
      have hw1 : IntKind.i64.wrap ((x1.i : Int) + 1) = ((x1.i + 1 : Nat) : Int) := wrap_succ hi1 (by first | assumption | omega)
      refine And.intro (fun _ => by exact idx_at hi1) (rowAtE (i := x1.i) (l := p0) rfl hi1 ?_)
      refine litE (m := 0) rfl ?_
      refine ⟨_, _, c_impl_SizeOf (p0[x1.i]'hi1), (FzAs.same _), ?_⟩
      refine litE (m := 2) rfl ?_
      refine x1.go hi1 (v := (IntKind.i64.wrap (x1.s + (impl_SizeOf (p0[x1.i]'hi1))))) (by first | rfl | (simp only [impl_TotalOf_b1, h2, cond_true, cond_false, Bool.not_true, Bool.not_false, Option.getD_some, Step.fin_stop, Step.fin_done, Fin.get_fin, Fin.get_done]; done) | (exfalso; simp_all; done)) [] (by show _ - (x1.i + 1) < _ - x1.i; omega) ?_
      exact ⟨rfl, ⟨rfl, (eqInt hw1), rfl, rfl, trivial⟩, trivial, trivial⟩
    · have hf1 := x1.fin (show ¬ x1.i < (p0).length by simpa using h2)
      refine And.intro (fun _ => .v _) ?_
      have hg : impl_TotalOf p0 = x1.s := by
        first | rfl | (simp only [impl_TotalOf, impl_TotalOf_b1, h2, hf1, cond_true, cond_false, Step.fin_stop, Step.fin_done, Fin.get_fin, Fin.get_done, Step.fin_next, Bool.not_true, Bool.not_false, Option.getD_some]; done) | (simp [impl_TotalOf, impl_TotalOf_b1, h2, hf1, cond_true, cond_false, Step.fin_stop, Step.fin_done, Fin.get_fin, Fin.get_done, Step.fin_next, Bool.not_true, Bool.not_false, Option.getD_some]; done) | (exfalso; simp_all; done)
      exact congrArg (fun g : Int => AV.one (.v (.int .i64 g))) hg.symm
def impl_BytesOf (p0 : Trail) : Int :=
  (impl_TotalOf p0.Spans)
end Go.Proofs.Try.Ev
