import Derived.Test.YtalbniledlbogaaLSentWalk
set_option linter.unusedSectionVars false

namespace Go.Proofs.Try.Ev
open Go Go.Ev Go.Proofs
set_option maxHeartbeats 4000000
set_option maxRecDepth 100000
set_option linter.unusedSimpArgs false
set_option linter.unusedVariables false
set_option linter.unusedSectionVars false
theorem c_laws_eqTask (p0 : Task) (p1 : Task) : FnOk prog 135 [.agg ((Task.cells false) p0), .agg ((Task.cells false) p1)] ⟨.one (.v (.bool (laws_eqTask p0 p1))), [], [], false⟩ := by
  refine FnOk.intro (E := env) envOk wide func135 rfl (by kernel_rfl) rfl rfl ?_
  have hg := laws_eqTask.eq_1 p0 p1
  have hown : ∀ g : Bool, AV.Own (AV.one (.v (.bool g))) := fun g => .v _
  refine seqE ?_
  refine litE (m := 0) rfl ?_
  refine litE (m := 1) rfl ?_
  refine seqE ?_
  refine seqE ?_
  refine brW hg (fun hg h1 => ?_) (fun hg h1 => ?_)
  · refine seqE ?_
    exact leafE hown hg
  · refine seqE ?_
    refine seqE ?_
    refine brW hg (fun hg h2 => ?_) (fun hg h2 => ?_)
    · refine seqE ?_
      exact leafE hown hg
    · refine seqE ?_
      refine seqE ?_
      refine .inl (⟨_, _, c_laws_eqSpan p0.S p1.S, (FzAs.same _), ?_⟩)
      refine litE (m := 3) rfl ?_
      refine brE hg (fun hg h3 => ?_) (fun hg h3 => ?_)
      · refine seqE ?_
        exact leafE hown hg
      · refine seqE ?_
        refine seqE ?_
        refine brW hg (fun hg h4 => ?_) (fun hg h4 => ?_)
        · refine seqE ?_
          exact leafE hown hg
        · refine seqE ?_
          refine seqE ?_
          refine brW hg (fun hg h5 => ?_) (fun hg h5 => ?_)
          · refine seqE ?_
            exact leafE hown hg
          · refine seqE ?_
            refine seqE ?_
            refine .inl (⟨_, _, c_laws_eqItemS p0.Hand p1.Hand, (FzAs.same _), ?_⟩)
            refine litE (m := 4) rfl ?_
            refine brE hg (fun hg h6 => ?_) (fun hg h6 => ?_)
            · refine seqE ?_
              exact leafE hown hg
            · refine seqE ?_
              refine seqE ?_
              refine brW hg (fun hg h7 => ?_) (fun hg h7 => ?_)
              · refine seqE ?_
                exact leafE hown hg
              · refine seqE ?_
                exact leafE hown hg
theorem rf_laws_eqTask (x : Task) : laws_eqTask x x = true := by
  simp [laws_eqTask, rf_laws_eqSpan, rf_laws_eqItemS]
def laws_eqTaskS_b1 (p1 : (List Task)) (i1 : Nat) (s1 : Unit) (a1 : Task) : Step (Unit) Bool :=
  (bif (!(laws_eqTask a1 (p1[i1]?.getD default))) then (.done false) else (.next ()))
def laws_eqTaskS (p0 : (List Task)) (p1 : (List Task)) : Bool :=
  (bif ((((p0).length : Nat) : Int) != (((p1).length : Nat) : Int)) then false else (Fin.get (fun s1 => true) (loopL (laws_eqTaskS_b1 p1) 0 () p0)))
theorem c_laws_eqTaskS (p0 : (List Task)) (p1 : (List Task)) : FnOk prog 84 [.one (.s false 12 (List.map (Task.cells false) p0)), .one (.s false 12 (List.map (Task.cells false) p1))] ⟨.one (.v (.bool (laws_eqTaskS p0 p1))), [], [], false⟩ := by
  refine FnOk.intro (E := env) envOk wide func84 rfl (by kernel_rfl) rfl rfl ?_
  have hg := laws_eqTaskS.eq_1 p0 p1
  have hown : ∀ g : Bool, AV.Own (AV.one (.v (.bool g))) := fun g => .v _
  refine seqE ?_
  refine seqE ?_
  refine seqE ?_
  refine lenM fun hN1 => ?_
  refine lenM fun hN2 => ?_
  refine brW hg (fun hg h3 => ?_) (fun hg h3 => ?_)
  · refine seqE ?_
    exact leafE hown hg
  · refine seqE ?_
    refine seqE ?_
    refine loopLE hg [0, 1] (fun x1 => [(5, .one (.v (.int .i64 ((x1.i : Nat) : Int))))]) (fun x1 => []) [] ?_ (fun x1 => ?_)
    · exact ⟨rfl, ⟨rfl, rfl, rfl, trivial⟩, trivial, trivial⟩
    refine seqE ?_
    refine seqE ?_
    refine lenM fun hN4 => ?_
    refine tstL (fun hi1 => ?_) (fun hi1 => ?_)
    · have hb1 := (x1.bdy hi1).trans (laws_eqTaskS_b1.eq_1 ..)
      have hw1 := wrap_succ hi1 (by first | assumption | omega)
      refine seqE ?_
      refine seqE ?_
      refine .inl ⟨by kernel_rfl, ?_⟩
      refine idxAt hi1 ?_
      refine idxOf (l := p1) (by (first | omega | (simp (disch := omega) only [wrap_small, mid_eq, List.length_map]; omega) | (simp; done) | (simp; omega) | (simp at *; omega) | (simp at *; done) | (simp_all; done) | (simp_all; omega))) (fun hq5 => ?_)
      refine ⟨_, _, c_laws_eqTask (p0[x1.i]'hi1) (p1[x1.i]?.getD default), (FzAs.same _), ?_⟩
      refine brE hb1 (fun hb1 h6 => ?_) (fun hb1 h6 => x1.goE hi1 hb1 [] ⟨rfl, ⟨(eqInt hw1), rfl, rfl, trivial⟩, trivial, trivial⟩)
      refine seqE ?_
      have hg := donE hg (x1.outD hi1 hb1)
      exact leafE hown hg
    have hg := finE hg (x1.fin hi1)
    refine seqE ?_
    exact leafE hown hg
theorem rf_laws_eqTaskS (x : (List Task)) : laws_eqTaskS x x = true := eqS_ok (b := laws_eqTaskS_b1) rf_laws_eqTask (fun _ _ _ _ => rfl) (fun _ _ => rfl) x
def laws_eqDeed (p0 : Deed) (p1 : Deed) : Bool :=
  (bif (p0.Op != p1.Op) then false else (bif (p0.Task != p1.Task) then false else (bif (!(laws_eqSpan p0.S p1.S)) then false else (bif (p0.Trace != p1.Trace) then false else (bif (p0.Stamp != p1.Stamp) then false else (bif (p0.Code != p1.Code) then false else (bif (!(p0.Keep == p1.Keep)) then false else (bif (!(p0.Void == p1.Void)) then false else (bif (p0.Took != p1.Took) then false else (bif (p0.N != p1.N) then false else (bif (p0.Forgot != p1.Forgot) then false else (bif (p0.Now != p1.Now) then false else (bif (p0.Inv != p1.Inv) then false else (bif (p0.Lin != p1.Lin) then false else (bif (p0.Res != p1.Res) then false else true)))))))))))))))
theorem c_laws_eqDeed (p0 : Deed) (p1 : Deed) : FnOk prog 44 [.agg ((Deed.cells false) p0), .agg ((Deed.cells false) p1)] ⟨.one (.v (.bool (laws_eqDeed p0 p1))), [], [], false⟩ := by
  refine FnOk.intro (E := env) envOk wide func44 rfl (by kernel_rfl) rfl rfl ?_
  have hg := laws_eqDeed.eq_1 p0 p1
  have hown : ∀ g : Bool, AV.Own (AV.one (.v (.bool g))) := fun g => .v _
  refine seqE ?_
  refine litE (m := 0) rfl ?_
  refine litE (m := 1) rfl ?_
  refine seqE ?_
  refine seqE ?_
  refine brW hg (fun hg h1 => ?_) (fun hg h1 => ?_)
  · refine seqE ?_
    exact leafE hown hg
  · refine seqE ?_
    refine seqE ?_
    refine brW hg (fun hg h2 => ?_) (fun hg h2 => ?_)
    · refine seqE ?_
      exact leafE hown hg
    · refine seqE ?_
      refine seqE ?_
      refine .inl (⟨_, _, c_laws_eqSpan p0.S p1.S, (FzAs.same _), ?_⟩)
      refine litE (m := 3) rfl ?_
      refine brE hg (fun hg h3 => ?_) (fun hg h3 => ?_)
      · refine seqE ?_
        exact leafE hown hg
      · refine seqE ?_
        refine seqE ?_
        refine brW hg (fun hg h4 => ?_) (fun hg h4 => ?_)
        · refine seqE ?_
          exact leafE hown hg
        · refine seqE ?_
          refine seqE ?_
          refine brW hg (fun hg h5 => ?_) (fun hg h5 => ?_)
          · refine seqE ?_
            exact leafE hown hg
          · refine seqE ?_
            refine seqE ?_
            refine brW hg (fun hg h6 => ?_) (fun hg h6 => ?_)
            · refine seqE ?_
              exact leafE hown hg
            · refine seqE ?_
              refine seqE ?_
              refine brE hg (fun hg h7 => ?_) (fun hg h7 => ?_)
              · refine seqE ?_
                exact leafE hown hg
              · refine seqE ?_
                refine seqE ?_
                refine brE hg (fun hg h8 => ?_) (fun hg h8 => ?_)
                · refine seqE ?_
                  exact leafE hown hg
                · refine seqE ?_
                  refine seqE ?_
                  refine brW hg (fun hg h9 => ?_) (fun hg h9 => ?_)
                  · refine seqE ?_
                    exact leafE hown hg
                  · refine seqE ?_
                    refine seqE ?_
                    refine brW hg (fun hg h10 => ?_) (fun hg h10 => ?_)
                    · refine seqE ?_
                      exact leafE hown hg
                    · refine seqE ?_
                      refine seqE ?_
                      refine brW hg (fun hg h11 => ?_) (fun hg h11 => ?_)
                      · refine seqE ?_
                        exact leafE hown hg
                      · refine seqE ?_
                        refine seqE ?_
                        refine brW hg (fun hg h12 => ?_) (fun hg h12 => ?_)
                        · refine seqE ?_
                          exact leafE hown hg
                        · refine seqE ?_
                          refine seqE ?_
                          refine brW hg (fun hg h13 => ?_) (fun hg h13 => ?_)
                          · refine seqE ?_
                            exact leafE hown hg
                          · refine seqE ?_
                            refine seqE ?_
                            refine brW hg (fun hg h14 => ?_) (fun hg h14 => ?_)
                            · refine seqE ?_
                              exact leafE hown hg
                            · refine seqE ?_
                              refine seqE ?_
                              refine brW hg (fun hg h15 => ?_) (fun hg h15 => ?_)
                              · refine seqE ?_
                                exact leafE hown hg
                              · refine seqE ?_
                                exact leafE hown hg
theorem rf_laws_eqDeed (x : Deed) : laws_eqDeed x x = true := by
  simp [laws_eqDeed, rf_laws_eqSpan]
def laws_eqDeedS_b1 (p1 : (List Deed)) (i1 : Nat) (s1 : Unit) (a1 : Deed) : Step (Unit) Bool :=
  (bif (!(laws_eqDeed a1 (p1[i1]?.getD default))) then (.done false) else (.next ()))
def laws_eqDeedS (p0 : (List Deed)) (p1 : (List Deed)) : Bool :=
  (bif ((((p0).length : Nat) : Int) != (((p1).length : Nat) : Int)) then false else (Fin.get (fun s1 => true) (loopL (laws_eqDeedS_b1 p1) 0 () p0)))
theorem c_laws_eqDeedS (p0 : (List Deed)) (p1 : (List Deed)) : FnOk prog 12 [.one (.s false 20 (List.map (Deed.cells false) p0)), .one (.s false 20 (List.map (Deed.cells false) p1))] ⟨.one (.v (.bool (laws_eqDeedS p0 p1))), [], [], false⟩ := by
  refine FnOk.intro (E := env) envOk wide func12 rfl (by kernel_rfl) rfl rfl ?_
  have hg := laws_eqDeedS.eq_1 p0 p1
  have hown : ∀ g : Bool, AV.Own (AV.one (.v (.bool g))) := fun g => .v _
  refine seqE ?_
  refine seqE ?_
  refine seqE ?_
  refine lenM fun hN1 => ?_
  refine lenM fun hN2 => ?_
  refine brW hg (fun hg h3 => ?_) (fun hg h3 => ?_)
  · refine seqE ?_
    exact leafE hown hg
  · refine seqE ?_
    refine seqE ?_
    refine loopLE hg [0, 1] (fun x1 => [(5, .one (.v (.int .i64 ((x1.i : Nat) : Int))))]) (fun x1 => []) [] ?_ (fun x1 => ?_)
    · exact ⟨rfl, ⟨rfl, rfl, rfl, trivial⟩, trivial, trivial⟩
    refine seqE ?_
    refine seqE ?_
    refine lenM fun hN4 => ?_
    refine tstL (fun hi1 => ?_) (fun hi1 => ?_)
    · have hb1 := (x1.bdy hi1).trans (laws_eqDeedS_b1.eq_1 ..)
      have hw1 := wrap_succ hi1 (by first | assumption | omega)
      refine seqE ?_
      refine seqE ?_
      refine .inl ⟨by kernel_rfl, ?_⟩
      refine idxAt hi1 ?_
      refine idxOf (l := p1) (by (first | omega | (simp (disch := omega) only [wrap_small, mid_eq, List.length_map]; omega) | (simp; done) | (simp; omega) | (simp at *; omega) | (simp at *; done) | (simp_all; done) | (simp_all; omega))) (fun hq5 => ?_)
      refine ⟨_, _, c_laws_eqDeed (p0[x1.i]'hi1) (p1[x1.i]?.getD default), (FzAs.same _), ?_⟩
      refine brE hb1 (fun hb1 h6 => ?_) (fun hb1 h6 => x1.goE hi1 hb1 [] ⟨rfl, ⟨(eqInt hw1), rfl, rfl, trivial⟩, trivial, trivial⟩)
      refine seqE ?_
      have hg := donE hg (x1.outD hi1 hb1)
      exact leafE hown hg
    have hg := finE hg (x1.fin hi1)
    refine seqE ?_
    exact leafE hown hg
theorem rf_laws_eqDeedS (x : (List Deed)) : laws_eqDeedS x x = true := eqS_ok (b := laws_eqDeedS_b1) rf_laws_eqDeed (fun _ _ _ _ => rfl) (fun _ _ => rfl) x
def laws_eqWorld (p0 : World) (p1 : World) : Bool :=
  (bif (!(laws_eqConf p0.C p1.C)) then false else (bif (p0.Time != p1.Time) then false else (bif (!(p0.Shut == p1.Shut)) then false else (bif (!(laws_eqStripeS p0.St p1.St)) then false else (bif (p0.RuleHeld != p1.RuleHeld) then false else (bif (!(laws_eqBucket p0.B p1.B)) then false else (bif (!(laws_eqVerdictS p0.Cache p1.Cache)) then false else (bif (p0.Used != p1.Used) then false else (bif (!(laws_eqWheel p0.W p1.W)) then false else (bif (!(laws_eqTimerS p0.Due p1.Due)) then false else (bif (!(laws_eqItemS p0.Queue p1.Queue)) then false else (bif (!(laws_eqItemS p0.Out p1.Out)) then false else (bif (!(laws_eqTaskS p0.Tasks p1.Tasks)) then false else (bif (!(laws_eqDeedS p0.Deeds p1.Deeds)) then false else (bif (p0.Next != p1.Next) then false else true)))))))))))))))
theorem c_laws_eqWorld (p0 : World) (p1 : World) : FnOk prog 30 [.agg ((World.cells false) p0), .agg ((World.cells false) p1)] ⟨.one (.v (.bool (laws_eqWorld p0 p1))), [], [], false⟩ := by
  refine FnOk.intro (E := env) envOk wide func30 rfl (by kernel_rfl) rfl rfl ?_
  have hg := laws_eqWorld.eq_1 p0 p1
  have hown : ∀ g : Bool, AV.Own (AV.one (.v (.bool g))) := fun g => .v _
  refine seqE ?_
  refine litE (m := 0) rfl ?_
  refine litE (m := 1) rfl ?_
  refine seqE ?_
  refine seqE ?_
  refine .inl (⟨_, _, c_laws_eqConf p0.C p1.C, (FzAs.same _), ?_⟩)
  refine litE (m := 3) rfl ?_
  refine brE hg (fun hg h1 => ?_) (fun hg h1 => ?_)
  · refine seqE ?_
    exact leafE hown hg
  · refine seqE ?_
    refine seqE ?_
    refine brW hg (fun hg h2 => ?_) (fun hg h2 => ?_)
    · refine seqE ?_
      exact leafE hown hg
    · refine seqE ?_
      refine seqE ?_
      refine brE hg (fun hg h3 => ?_) (fun hg h3 => ?_)
      · refine seqE ?_
        exact leafE hown hg
      · refine seqE ?_
        refine seqE ?_
        refine .inl (⟨_, _, c_laws_eqStripeS p0.St p1.St, (FzAs.same _), ?_⟩)
        refine litE (m := 4) rfl ?_
        refine brE hg (fun hg h4 => ?_) (fun hg h4 => ?_)
        · refine seqE ?_
          exact leafE hown hg
        · refine seqE ?_
          refine seqE ?_
          refine brW hg (fun hg h5 => ?_) (fun hg h5 => ?_)
          · refine seqE ?_
            exact leafE hown hg
          · refine seqE ?_
            refine seqE ?_
            refine .inl (⟨_, _, c_laws_eqBucket p0.B p1.B, (FzAs.same _), ?_⟩)
            refine litE (m := 5) rfl ?_
            refine brE hg (fun hg h6 => ?_) (fun hg h6 => ?_)
            · refine seqE ?_
              exact leafE hown hg
            · refine seqE ?_
              refine seqE ?_
              refine .inl (⟨_, _, c_laws_eqVerdictS p0.Cache p1.Cache, (FzAs.same _), ?_⟩)
              refine litE (m := 6) rfl ?_
              refine brE hg (fun hg h7 => ?_) (fun hg h7 => ?_)
              · refine seqE ?_
                exact leafE hown hg
              · refine seqE ?_
                refine seqE ?_
                refine brW hg (fun hg h8 => ?_) (fun hg h8 => ?_)
                · refine seqE ?_
                  exact leafE hown hg
                · refine seqE ?_
                  refine seqE ?_
                  refine .inl (⟨_, _, c_laws_eqWheel p0.W p1.W, (FzAs.same _), ?_⟩)
                  refine litE (m := 7) rfl ?_
                  refine brE hg (fun hg h9 => ?_) (fun hg h9 => ?_)
                  · refine seqE ?_
                    exact leafE hown hg
                  · refine seqE ?_
                    refine seqE ?_
                    refine .inl (⟨_, _, c_laws_eqTimerS p0.Due p1.Due, (FzAs.same _), ?_⟩)
                    refine litE (m := 8) rfl ?_
                    refine brE hg (fun hg h10 => ?_) (fun hg h10 => ?_)
                    · refine seqE ?_
                      exact leafE hown hg
                    · refine seqE ?_
                      refine seqE ?_
                      refine .inl (⟨_, _, c_laws_eqItemS p0.Queue p1.Queue, (FzAs.same _), ?_⟩)
                      refine litE (m := 9) rfl ?_
                      refine brE hg (fun hg h11 => ?_) (fun hg h11 => ?_)
                      · refine seqE ?_
                        exact leafE hown hg
                      · refine seqE ?_
                        refine seqE ?_
                        refine .inl (⟨_, _, c_laws_eqItemS p0.Out p1.Out, (FzAs.same _), ?_⟩)
                        refine litE (m := 10) rfl ?_
                        refine brE hg (fun hg h12 => ?_) (fun hg h12 => ?_)
                        · refine seqE ?_
                          exact leafE hown hg
                        · refine seqE ?_
                          refine seqE ?_
                          refine .inl (⟨_, _, c_laws_eqTaskS p0.Tasks p1.Tasks, (FzAs.same _), ?_⟩)
                          refine litE (m := 11) rfl ?_
                          refine brE hg (fun hg h13 => ?_) (fun hg h13 => ?_)
                          · refine seqE ?_
                            exact leafE hown hg
                          · refine seqE ?_
                            refine seqE ?_
                            refine .inl (⟨_, _, c_laws_eqDeedS p0.Deeds p1.Deeds, (FzAs.same _), ?_⟩)
                            refine litE (m := 12) rfl ?_
                            refine brE hg (fun hg h14 => ?_) (fun hg h14 => ?_)
                            · refine seqE ?_
                              exact leafE hown hg
                            · refine seqE ?_
                              refine seqE ?_
                              refine brW hg (fun hg h15 => ?_) (fun hg h15 => ?_)
                              · refine seqE ?_
                                exact leafE hown hg
                              · refine seqE ?_
                                exact leafE hown hg
theorem rf_laws_eqWorld (x : World) : laws_eqWorld x x = true := by
  simp [laws_eqWorld, rf_laws_eqConf, rf_laws_eqStripeS, rf_laws_eqBucket, rf_laws_eqVerdictS, rf_laws_eqTimerS, rf_laws_eqWheel, rf_laws_eqItemS, rf_laws_eqTaskS, rf_laws_eqDeedS]
def laws_markPolS_b1 (r0 : (((List Pol)) → (Int) → ((Int × (List Pol))))) (i1 : Nat) (s1 : (List Pol) × Int) (a1 : Pol) : Step ((List Pol) × Int) (Int × (List Pol)) :=
  (.next ((List.set s1.1 i1 (Pol.mk s1.2 (IntKind.i64.wrap (s1.2 + 1)) (laws_markText (IntKind.i64.wrap ((IntKind.i64.wrap (s1.2 + 1)) + 1))) (laws_markText (IntKind.i64.wrap ((IntKind.i64.wrap ((IntKind.i64.wrap (s1.2 + 1)) + 1)) + 1))) (r0 (s1.1[i1]?.getD default).L (IntKind.i64.wrap ((IntKind.i64.wrap ((IntKind.i64.wrap ((IntKind.i64.wrap (s1.2 + 1)) + 1)) + 1)) + 1))).2)), (r0 (s1.1[i1]?.getD default).L (IntKind.i64.wrap ((IntKind.i64.wrap ((IntKind.i64.wrap ((IntKind.i64.wrap (s1.2 + 1)) + 1)) + 1)) + 1))).1))
def laws_markPolSR : Nat → ((List Pol)) → (Int) → ((Int × (List Pol)))
  | 0, _, _ => default
  | n + 1, p0, p1 => (Fin.get (fun s1 => (s1.2, s1.1)) (loopL (laws_markPolS_b1 (laws_markPolSR n)) 0 (p0, p1) p0))
theorem cR_laws_markPolS : ∀ (n : Nat) (p0 : (List Pol)) (p1 : Int), Pol.depL p0 < n → FnOk prog 116 [.tup [.one (.s true 5 (List.map (Pol.cells true) p0))], .one (.v (.int .i64 p1))] ⟨.one (.v (.int .i64 (laws_markPolSR n p0 p1).1)), [.one (.s true 5 (List.map (Pol.cells true) ((laws_markPolSR n p0 p1).2)))], [], false⟩ := by
  intro n
  induction n with
  | zero => intro p0 p1 hd0; omega
  | succ n ih =>
    intro p0 p1 hd0
    refine FnOk.introM (E := env) envOk wide func116 rfl (by kernel_rfl) rfl ?_
    have hg : laws_markPolSR (n + 1) p0 p1 = _ := laws_markPolSR.eq_2 ..
    have hown : (∀ g : (Int × (List Pol)), AV.Own (AV.one (.v (.int .i64 g.1)))) ∧ (fun g : (Int × (List Pol)) => T.s true 5 (List.map (Pol.cells true) (g.2))) = _ := ⟨fun g => .v _, rfl⟩
    refine seqE ?_
    refine seqE ?_
    refine seqE ?_
    refine loopLI (fun (i : Nat) (s : List Pol × Int) => s.1.length = p0.length ∧ ∀ k, i ≤ k → s.1[k]? = p0[k]?) hg (⟨rfl, fun _ _ => rfl⟩) [0] (fun x1 => [(1, .one (.v (.int .i64 x1.s.2))), (5, .one (.v (.int .i64 ((x1.i : Nat) : Int))))]) (fun x1 => [.dead, .new ⟨5, false, List.map (Pol.cells true) x1.s.1, 0⟩]) [none, some 1] ?_ (fun x1 => ?_)
    · exact ⟨rfl, ⟨rfl, rfl, ⟨rfl, rfl, rfl, rfl, by (first | rfl | omega | (dsimp only; omega) | (simp; done) | (simp; omega) | (simp [LstSt.init, LstSt.step, LstInv.init, CntSt.init, CntSt.step, CntInv.init, WhlSt.init, WhlSt.step]; done) | (simp [LstSt.init, LstSt.step, LstInv.init, CntSt.init, CntSt.step, CntInv.init, WhlSt.init, WhlSt.step]; omega))⟩, trivial⟩, ⟨⟨rfl, rfl, rfl⟩, trivial⟩, ⟨⟨rfl, rfl, rfl, rfl, by (first | rfl | omega | (dsimp only; omega) | (simp; done) | (simp; omega) | (simp [LstSt.init, LstSt.step, LstInv.init, CntSt.init, CntSt.step, CntInv.init, WhlSt.init, WhlSt.step]; done) | (simp [LstSt.init, LstSt.step, LstInv.init, CntSt.init, CntSt.step, CntInv.init, WhlSt.init, WhlSt.step]; omega))⟩, trivial⟩⟩
    have hI1 := x1.hI
    try dsimp only at hI1
    refine seqE ?_
    refine seqE ?_
    refine lenE (k := (p0).length) (by simp) (fun hN1 => ?_)
    refine tstL (fun hi1 => ?_) (fun hi1 => ?_)
    · have hb1 := (x1.bdy hi1).trans (laws_markPolS_b1.eq_1 ..)
      have hw1 := wrap_succ hi1 (by first | assumption | omega)
      refine seqE ?_
      refine seqE ?_
      refine andE (by (first | omega | (simp (disch := omega) only [wrap_small, mid_eq, List.length_map]; omega) | (simp; done) | (simp; omega) | (simp at *; omega) | (simp at *; done) | (simp_all; done) | (simp_all; omega))) ?_
      refine rowsE (Y := List.map (Pol.cells true) (List.set x1.s.1 x1.i (Pol.mk x1.s.2 (x1.s.1[x1.i]?.getD default).N (x1.s.1[x1.i]?.getD default).Key (x1.s.1[x1.i]?.getD default).Text (x1.s.1[x1.i]?.getD default).L))) (by exact setMapE (by simp) (fun a ha => by first | rfl | (simp only [ha, Option.getD_some]; rfl) | (obtain ⟨_, rfl⟩ := List.getElem?_eq_some_iff.1 ha; rfl) | (simp only [Pol.cells_eq]; rfl) | (simp only [ha, Option.getD_some, Pol.cells_eq]; rfl))) ?_
      refine seqE ?_
      refine seqE ?_
      refine andE (by (first | omega | (simp (disch := omega) only [wrap_small, mid_eq, List.length_map]; omega) | (simp; done) | (simp; omega) | (simp at *; omega) | (simp at *; done) | (simp_all; done) | (simp_all; omega))) ?_
      refine rowsE (Y := List.map (Pol.cells true) (List.set x1.s.1 x1.i (Pol.mk x1.s.2 (IntKind.i64.wrap (x1.s.2 + 1)) (x1.s.1[x1.i]?.getD default).Key (x1.s.1[x1.i]?.getD default).Text (x1.s.1[x1.i]?.getD default).L))) (by exact setMapS (by simp) (by first | rfl | (simp only [ha, Option.getD_some]; rfl) | (obtain ⟨_, rfl⟩ := List.getElem?_eq_some_iff.1 ha; rfl) | (simp only [Pol.cells_eq]; rfl) | (simp only [ha, Option.getD_some, Pol.cells_eq]; rfl))) ?_
      refine seqE ?_
      refine seqE ?_
      refine .inl (⟨_, _, c_laws_markText (IntKind.i64.wrap ((IntKind.i64.wrap (x1.s.2 + 1)) + 1)), (FzAs.same _), ?_⟩)
      refine litE (m := 3) rfl ?_
      refine andE (by (first | omega | (simp (disch := omega) only [wrap_small, mid_eq, List.length_map]; omega) | (simp; done) | (simp; omega) | (simp at *; omega) | (simp at *; done) | (simp_all; done) | (simp_all; omega))) ?_
      refine rowsE (Y := List.map (Pol.cells true) (List.set x1.s.1 x1.i (Pol.mk x1.s.2 (IntKind.i64.wrap (x1.s.2 + 1)) (laws_markText (IntKind.i64.wrap ((IntKind.i64.wrap (x1.s.2 + 1)) + 1))) (x1.s.1[x1.i]?.getD default).Text (x1.s.1[x1.i]?.getD default).L))) (by exact setMapS (by simp) (by first | rfl | (simp only [ha, Option.getD_some]; rfl) | (obtain ⟨_, rfl⟩ := List.getElem?_eq_some_iff.1 ha; rfl) | (simp only [Pol.cells_eq]; rfl) | (simp only [ha, Option.getD_some, Pol.cells_eq]; rfl))) ?_
      refine seqE ?_
      refine seqE ?_
      refine .inl (⟨_, _, c_laws_markText (IntKind.i64.wrap ((IntKind.i64.wrap ((IntKind.i64.wrap (x1.s.2 + 1)) + 1)) + 1)), (FzAs.same _), ?_⟩)
      refine litE (m := 4) rfl ?_
      refine andE (by (first | omega | (simp (disch := omega) only [wrap_small, mid_eq, List.length_map]; omega) | (simp; done) | (simp; omega) | (simp at *; omega) | (simp at *; done) | (simp_all; done) | (simp_all; omega))) ?_
      refine rowsE (Y := List.map (Pol.cells true) (List.set x1.s.1 x1.i (Pol.mk x1.s.2 (IntKind.i64.wrap (x1.s.2 + 1)) (laws_markText (IntKind.i64.wrap ((IntKind.i64.wrap (x1.s.2 + 1)) + 1))) (laws_markText (IntKind.i64.wrap ((IntKind.i64.wrap ((IntKind.i64.wrap (x1.s.2 + 1)) + 1)) + 1))) (x1.s.1[x1.i]?.getD default).L))) (by exact setMapS (by simp) (by first | rfl | (simp only [ha, Option.getD_some]; rfl) | (obtain ⟨_, rfl⟩ := List.getElem?_eq_some_iff.1 ha; rfl) | (simp only [Pol.cells_eq]; rfl) | (simp only [ha, Option.getD_some, Pol.cells_eq]; rfl))) ?_
      refine seqE ?_
      refine andE (by (first | omega | (simp (disch := omega) only [wrap_small, mid_eq, List.length_map]; omega) | (simp; done) | (simp; omega) | (simp at *; omega) | (simp at *; done) | (simp_all; done) | (simp_all; omega))) ?_
      refine rowSetR (Pol.cells_eq true) (i := x1.i) (l := x1.s.1) (x := (Pol.mk x1.s.2 (IntKind.i64.wrap (x1.s.2 + 1)) (laws_markText (IntKind.i64.wrap ((IntKind.i64.wrap (x1.s.2 + 1)) + 1))) (laws_markText (IntKind.i64.wrap ((IntKind.i64.wrap ((IntKind.i64.wrap (x1.s.2 + 1)) + 1)) + 1))) (x1.s.1[x1.i]?.getD default).L)) (by first | rfl | exact Nat.zero_add _ | simp) (fun _ => ?_)
      refine .inr ⟨0, ?_⟩
      refine rowSetR (Pol.cells_eq true) (i := x1.i) (l := x1.s.1) (x := (Pol.mk x1.s.2 (IntKind.i64.wrap (x1.s.2 + 1)) (laws_markText (IntKind.i64.wrap ((IntKind.i64.wrap (x1.s.2 + 1)) + 1))) (laws_markText (IntKind.i64.wrap ((IntKind.i64.wrap ((IntKind.i64.wrap (x1.s.2 + 1)) + 1)) + 1))) (x1.s.1[x1.i]?.getD default).L)) (by first | rfl | exact Nat.zero_add _ | simp) (fun _ => ?_)
      refine ⟨_, _, _, ih (x1.s.1[x1.i]?.getD default).L (IntKind.i64.wrap ((IntKind.i64.wrap ((IntKind.i64.wrap ((IntKind.i64.wrap (x1.s.2 + 1)) + 1)) + 1)) + 1)) (by (have q := hI1.2 x1.i (Nat.le_refl _); rw [List.getElem?_eq_getElem hi1] at q; rw [q, Option.getD_some]; have q2 := Pol.depL_mem (List.getElem_mem hi1); have q3 := Pol.dep_L (p0[x1.i]'hi1); omega)), (FzAs.same _), .inl ?_⟩
      refine rowsE (Y := List.map (Pol.cells true) (List.set x1.s.1 x1.i (Pol.mk x1.s.2 (IntKind.i64.wrap (x1.s.2 + 1)) (laws_markText (IntKind.i64.wrap ((IntKind.i64.wrap (x1.s.2 + 1)) + 1))) (laws_markText (IntKind.i64.wrap ((IntKind.i64.wrap ((IntKind.i64.wrap (x1.s.2 + 1)) + 1)) + 1))) ((laws_markPolSR n) (x1.s.1[x1.i]?.getD default).L (IntKind.i64.wrap ((IntKind.i64.wrap ((IntKind.i64.wrap ((IntKind.i64.wrap (x1.s.2 + 1)) + 1)) + 1)) + 1))).2))) (by exact setMapS (by simp) (by first | rfl | (simp only [ha, Option.getD_some]; rfl) | (obtain ⟨_, rfl⟩ := List.getElem?_eq_some_iff.1 ha; rfl) | (simp only [Pol.cells_eq]; rfl) | (simp only [ha, Option.getD_some, Pol.cells_eq]; rfl))) ?_
      refine litE (m := 5) rfl ?_
      exact x1.goE hi1 hb1 (by refine ⟨by simpa using hI1.1, fun k hk => ?_⟩; simp only []; rw [List.getElem?_set_ne (by omega)]; exact hI1.2 k (by omega)) [none, some 1] ⟨rfl, ⟨rfl, (eqInt hw1), ⟨rfl, rfl, rfl, rfl, by (first | rfl | omega | (dsimp only; omega) | (simp; done) | (simp; omega) | (simp [LstSt.init, LstSt.step, LstInv.init, CntSt.init, CntSt.step, CntInv.init, WhlSt.init, WhlSt.step]; done) | (simp [LstSt.init, LstSt.step, LstInv.init, CntSt.init, CntSt.step, CntInv.init, WhlSt.init, WhlSt.step]; omega))⟩, trivial⟩, ⟨⟨rfl, rfl, rfl⟩, trivial⟩, ⟨⟨rfl, rfl, rfl, rfl, by (first | rfl | omega | (dsimp only; omega) | (simp; done) | (simp; omega) | (simp [LstSt.init, LstSt.step, LstInv.init, CntSt.init, CntSt.step, CntInv.init, WhlSt.init, WhlSt.step]; done) | (simp [LstSt.init, LstSt.step, LstInv.init, CntSt.init, CntSt.step, CntInv.init, WhlSt.init, WhlSt.step]; omega))⟩, trivial⟩⟩
    have hg := finE hg (x1.fin hi1)
    refine seqE ?_
    exact leafM hown hg
def laws_markPolS (p0 : (List Pol)) (p1 : Int) : (Int × (List Pol)) := laws_markPolSR (Pol.depL p0 + 1) p0 p1
theorem c_laws_markPolS (p0 : (List Pol)) (p1 : Int) : FnOk prog 116 [.tup [.one (.s true 5 (List.map (Pol.cells true) p0))], .one (.v (.int .i64 p1))] ⟨.one (.v (.int .i64 (laws_markPolS p0 p1).1)), [.one (.s true 5 (List.map (Pol.cells true) ((laws_markPolS p0 p1).2)))], [], false⟩ := cR_laws_markPolS _ p0 p1 (Nat.lt_succ_self _)
def laws_markPol (p0 : Pol) (p1 : Int) : (Int × Pol) :=
  ((laws_markPolS p0.L p1).1, (Pol.mk p0.Kind p0.N p0.Key p0.Text (laws_markPolS p0.L p1).2))
theorem c_laws_markPol (p0 : Pol) (p1 : Int) : FnOk prog 58 [.tup [.agg (Pol.opn true p0)], .one (.v (.int .i64 p1))] ⟨.one (.v (.int .i64 (laws_markPol p0 p1).1)), [.agg (Pol.opn true (laws_markPol p0 p1).2)], [], false⟩ := by
  refine FnOk.introG (E := env) envOk wide func58 rfl (by kernel_rfl) rfl ?_
  have hg := laws_markPol.eq_1 p0 p1
  have hown : (∀ g : (Int × Pol), AV.Own (AV.one (.v (.int .i64 g.1)))) ∧ (fun g : (Int × Pol) => (Pol.opn true g.2)) = _ := ⟨fun g => .v _, rfl⟩
  refine seqE ?_
  refine litE (m := 2) rfl ?_
  refine seqE ?_
  refine .inr ⟨0, _, _, _, c_laws_markPolS p0.L p1, (FzAs.same _), .inl ?_⟩
  refine litE (m := 4) rfl ?_
  refine seqE ?_
  exact leafG hown hg
def laws_markConf (p0 : Conf) (p1 : Int) : (Int × Conf) :=
  ((laws_markPol p0.Rule p1).1, (Conf.mk p0.Stripes p0.Wait p0.Budget p0.Cache p0.Queue p0.Rate p0.Burst (Pol.mk p0.Rule.Kind p0.Rule.N p0.Rule.Key p0.Rule.Text (laws_markPol p0.Rule p1).2.L)))
theorem c_laws_markConf (p0 : Conf) (p1 : Int) : FnOk prog 22 [.tup [.agg ((Conf.cells true) p0)], .one (.v (.int .i64 p1))] ⟨.one (.v (.int .i64 (laws_markConf p0 p1).1)), [.agg ((Conf.cells true) (laws_markConf p0 p1).2)], [], false⟩ := by
  refine FnOk.introG (E := env) envOk wide func22 rfl (by kernel_rfl) rfl ?_
  have hg := laws_markConf.eq_1 p0 p1
  have hown : (∀ g : (Int × Conf), AV.Own (AV.one (.v (.int .i64 g.1)))) ∧ (fun g : (Int × Conf) => ((Conf.cells true) g.2)) = _ := ⟨fun g => .v _, rfl⟩
  refine seqE ?_
  refine litE (m := 2) rfl ?_
  refine seqE ?_
  refine .inr ⟨0, _, _, _, c_laws_markPol p0.Rule p1, (FzAs.same _), ?_⟩
  refine litE (m := 4) rfl ?_
  refine seqE ?_
  exact leafG hown hg
def laws_markAttrS_b1 (i1 : Nat) (s1 : (List Attr) × Int) (a1 : Attr) : Step ((List Attr) × Int) (Int × (List Attr)) :=
  (.next ((List.set s1.1 i1 (Attr.mk (laws_markText s1.2) ((Int.tmod (IntKind.i64.wrap (s1.2 + 1)) 3) == 0) (IntKind.i64.wrap ((IntKind.i64.wrap (s1.2 + 1)) + 1)) (laws_markText (IntKind.i64.wrap ((IntKind.i64.wrap ((IntKind.i64.wrap (s1.2 + 1)) + 1)) + 1))))), (IntKind.i64.wrap ((IntKind.i64.wrap ((IntKind.i64.wrap ((IntKind.i64.wrap (s1.2 + 1)) + 1)) + 1)) + 1))))
def laws_markAttrS (p0 : (List Attr)) (p1 : Int) : (Int × (List Attr)) :=
  (Fin.get (fun s1 => (s1.2, s1.1)) (loopL laws_markAttrS_b1 0 (p0, p1) p0))
theorem c_laws_markAttrS (p0 : (List Attr)) (p1 : Int) : FnOk prog 45 [.tup [.one (.s true 4 (List.map Attr.cells p0))], .one (.v (.int .i64 p1))] ⟨.one (.v (.int .i64 (laws_markAttrS p0 p1).1)), [.one (.s true 4 (List.map Attr.cells ((laws_markAttrS p0 p1).2)))], [], false⟩ := by
  refine FnOk.introM (E := env) envOk wide func45 rfl (by kernel_rfl) rfl ?_
  have hg := laws_markAttrS.eq_1 p0 p1
  have hown : (∀ g : (Int × (List Attr)), AV.Own (AV.one (.v (.int .i64 g.1)))) ∧ (fun g : (Int × (List Attr)) => T.s true 4 (List.map Attr.cells (g.2))) = _ := ⟨fun g => .v _, rfl⟩
  refine seqE ?_
  refine seqE ?_
  refine seqE ?_
  refine loopLI (fun _ s => (s.1).length = (p0).length) hg (by simp) [0] (fun x1 => [(1, .one (.v (.int .i64 x1.s.2))), (5, .one (.v (.int .i64 ((x1.i : Nat) : Int))))]) (fun x1 => [.dead, .new ⟨4, false, List.map Attr.cells x1.s.1, 0⟩]) [none, some 1] ?_ (fun x1 => ?_)
  · exact ⟨rfl, ⟨rfl, rfl, ⟨rfl, rfl, rfl, rfl, by (first | rfl | omega | (dsimp only; omega) | (simp; done) | (simp; omega) | (simp [LstSt.init, LstSt.step, LstInv.init, CntSt.init, CntSt.step, CntInv.init, WhlSt.init, WhlSt.step]; done) | (simp [LstSt.init, LstSt.step, LstInv.init, CntSt.init, CntSt.step, CntInv.init, WhlSt.init, WhlSt.step]; omega))⟩, trivial⟩, ⟨⟨rfl, rfl, rfl⟩, trivial⟩, ⟨⟨rfl, rfl, rfl, rfl, by (first | rfl | omega | (dsimp only; omega) | (simp; done) | (simp; omega) | (simp [LstSt.init, LstSt.step, LstInv.init, CntSt.init, CntSt.step, CntInv.init, WhlSt.init, WhlSt.step]; done) | (simp [LstSt.init, LstSt.step, LstInv.init, CntSt.init, CntSt.step, CntInv.init, WhlSt.init, WhlSt.step]; omega))⟩, trivial⟩⟩
  have hI1 : (x1.s.1).length = (p0).length := by simpa using x1.hI
  refine seqE ?_
  refine seqE ?_
  refine lenE (k := (p0).length) (by simp) (fun hN1 => ?_)
  refine tstL (fun hi1 => ?_) (fun hi1 => ?_)
  · have hb1 := (x1.bdy hi1).trans (laws_markAttrS_b1.eq_1 ..)
    have hw1 := wrap_succ hi1 (by first | assumption | omega)
    refine seqE ?_
    refine seqE ?_
    refine .inl (⟨_, _, c_laws_markText x1.s.2, (FzAs.same _), ?_⟩)
    refine litE (m := 3) rfl ?_
    refine andE (by (first | omega | (simp (disch := omega) only [wrap_small, mid_eq, List.length_map]; omega) | (simp; done) | (simp; omega) | (simp at *; omega) | (simp at *; done) | (simp_all; done) | (simp_all; omega))) ?_
    refine rowsE (Y := List.map Attr.cells (List.set x1.s.1 x1.i (Attr.mk (laws_markText x1.s.2) (x1.s.1[x1.i]?.getD default).Num (x1.s.1[x1.i]?.getD default).N (x1.s.1[x1.i]?.getD default).Text))) (by exact setMapE (by simp) (fun a ha => by first | rfl | (simp only [ha, Option.getD_some]; rfl) | (obtain ⟨_, rfl⟩ := List.getElem?_eq_some_iff.1 ha; rfl) | (simp only [Pol.cells_eq]; rfl) | (simp only [ha, Option.getD_some, Pol.cells_eq]; rfl))) ?_
    refine seqE ?_
    refine seqE ?_
    refine andE (by (first | omega | (simp (disch := omega) only [wrap_small, mid_eq, List.length_map]; omega) | (simp; done) | (simp; omega) | (simp at *; omega) | (simp at *; done) | (simp_all; done) | (simp_all; omega))) ?_
    refine andE (by (first | omega | (simp (disch := omega) only [wrap_small, mid_eq, List.length_map]; omega) | (simp; done) | (simp; omega) | (simp at *; omega) | (simp at *; done) | (simp_all; done) | (simp_all; omega))) ?_
    refine rowsE (Y := List.map Attr.cells (List.set x1.s.1 x1.i (Attr.mk (laws_markText x1.s.2) ((Int.tmod (IntKind.i64.wrap (x1.s.2 + 1)) 3) == 0) (x1.s.1[x1.i]?.getD default).N (x1.s.1[x1.i]?.getD default).Text))) (by exact setMapS (by simp) (by first | rfl | (simp only [ha, Option.getD_some]; rfl) | (obtain ⟨_, rfl⟩ := List.getElem?_eq_some_iff.1 ha; rfl) | (simp only [Pol.cells_eq]; rfl) | (simp only [ha, Option.getD_some, Pol.cells_eq]; rfl))) ?_
    refine seqE ?_
    refine seqE ?_
    refine andE (by (first | omega | (simp (disch := omega) only [wrap_small, mid_eq, List.length_map]; omega) | (simp; done) | (simp; omega) | (simp at *; omega) | (simp at *; done) | (simp_all; done) | (simp_all; omega))) ?_
    refine rowsE (Y := List.map Attr.cells (List.set x1.s.1 x1.i (Attr.mk (laws_markText x1.s.2) ((Int.tmod (IntKind.i64.wrap (x1.s.2 + 1)) 3) == 0) (IntKind.i64.wrap ((IntKind.i64.wrap (x1.s.2 + 1)) + 1)) (x1.s.1[x1.i]?.getD default).Text))) (by exact setMapS (by simp) (by first | rfl | (simp only [ha, Option.getD_some]; rfl) | (obtain ⟨_, rfl⟩ := List.getElem?_eq_some_iff.1 ha; rfl) | (simp only [Pol.cells_eq]; rfl) | (simp only [ha, Option.getD_some, Pol.cells_eq]; rfl))) ?_
    refine seqE ?_
    refine seqE ?_
    refine .inl (⟨_, _, c_laws_markText (IntKind.i64.wrap ((IntKind.i64.wrap ((IntKind.i64.wrap (x1.s.2 + 1)) + 1)) + 1)), (FzAs.same _), ?_⟩)
    refine litE (m := 4) rfl ?_
    refine andE (by (first | omega | (simp (disch := omega) only [wrap_small, mid_eq, List.length_map]; omega) | (simp; done) | (simp; omega) | (simp at *; omega) | (simp at *; done) | (simp_all; done) | (simp_all; omega))) ?_
    refine rowsE (Y := List.map Attr.cells (List.set x1.s.1 x1.i (Attr.mk (laws_markText x1.s.2) ((Int.tmod (IntKind.i64.wrap (x1.s.2 + 1)) 3) == 0) (IntKind.i64.wrap ((IntKind.i64.wrap (x1.s.2 + 1)) + 1)) (laws_markText (IntKind.i64.wrap ((IntKind.i64.wrap ((IntKind.i64.wrap (x1.s.2 + 1)) + 1)) + 1)))))) (by exact setMapS (by simp) (by first | rfl | (simp only [ha, Option.getD_some]; rfl) | (obtain ⟨_, rfl⟩ := List.getElem?_eq_some_iff.1 ha; rfl) | (simp only [Pol.cells_eq]; rfl) | (simp only [ha, Option.getD_some, Pol.cells_eq]; rfl))) ?_
    exact x1.goE hi1 hb1 (by simpa using x1.hI) [none, some 1] ⟨rfl, ⟨rfl, (eqInt hw1), ⟨rfl, rfl, rfl, rfl, by (first | rfl | omega | (dsimp only; omega) | (simp; done) | (simp; omega) | (simp [LstSt.init, LstSt.step, LstInv.init, CntSt.init, CntSt.step, CntInv.init, WhlSt.init, WhlSt.step]; done) | (simp [LstSt.init, LstSt.step, LstInv.init, CntSt.init, CntSt.step, CntInv.init, WhlSt.init, WhlSt.step]; omega))⟩, trivial⟩, ⟨⟨rfl, rfl, rfl⟩, trivial⟩, ⟨⟨rfl, rfl, rfl, rfl, by (first | rfl | omega | (dsimp only; omega) | (simp; done) | (simp; omega) | (simp [LstSt.init, LstSt.step, LstInv.init, CntSt.init, CntSt.step, CntInv.init, WhlSt.init, WhlSt.step]; done) | (simp [LstSt.init, LstSt.step, LstInv.init, CntSt.init, CntSt.step, CntInv.init, WhlSt.init, WhlSt.step]; omega))⟩, trivial⟩⟩
  have hg := finE hg (x1.fin hi1)
  refine seqE ?_
  exact leafM hown hg
def laws_markSpanS_b1 (i1 : Nat) (s1 : (List Span) × Int) (a1 : Span) : Step ((List Span) × Int) (Int × (List Span)) :=
  (.next ((List.set s1.1 i1 (Span.mk s1.2 (IntKind.i64.wrap (s1.2 + 1)) (IntKind.i64.wrap ((IntKind.i64.wrap (s1.2 + 1)) + 1)) (IntKind.i64.wrap ((IntKind.i64.wrap ((IntKind.i64.wrap (s1.2 + 1)) + 1)) + 1)) ((Int.tmod (IntKind.i64.wrap ((IntKind.i64.wrap ((IntKind.i64.wrap ((IntKind.i64.wrap (s1.2 + 1)) + 1)) + 1)) + 1)) 3) == 0) (laws_markAttrS (s1.1[i1]?.getD default).Attrs (IntKind.i64.wrap ((IntKind.i64.wrap ((IntKind.i64.wrap ((IntKind.i64.wrap ((IntKind.i64.wrap (s1.2 + 1)) + 1)) + 1)) + 1)) + 1))).2)), (laws_markAttrS (s1.1[i1]?.getD default).Attrs (IntKind.i64.wrap ((IntKind.i64.wrap ((IntKind.i64.wrap ((IntKind.i64.wrap ((IntKind.i64.wrap (s1.2 + 1)) + 1)) + 1)) + 1)) + 1))).1))
def laws_markSpanS (p0 : (List Span)) (p1 : Int) : (Int × (List Span)) :=
  (Fin.get (fun s1 => (s1.2, s1.1)) (loopL laws_markSpanS_b1 0 (p0, p1) p0))
theorem c_laws_markSpanS (p0 : (List Span)) (p1 : Int) : FnOk prog 32 [.tup [.one (.s true 6 (List.map (Span.cells true) p0))], .one (.v (.int .i64 p1))] ⟨.one (.v (.int .i64 (laws_markSpanS p0 p1).1)), [.one (.s true 6 (List.map (Span.cells true) ((laws_markSpanS p0 p1).2)))], [], false⟩ := by
  refine FnOk.introM (E := env) envOk wide func32 rfl (by kernel_rfl) rfl ?_
  have hg := laws_markSpanS.eq_1 p0 p1
  have hown : (∀ g : (Int × (List Span)), AV.Own (AV.one (.v (.int .i64 g.1)))) ∧ (fun g : (Int × (List Span)) => T.s true 6 (List.map (Span.cells true) (g.2))) = _ := ⟨fun g => .v _, rfl⟩
  refine seqE ?_
  refine seqE ?_
  refine seqE ?_
  refine loopLI (fun _ s => (s.1).length = (p0).length) hg (by simp) [0] (fun x1 => [(1, .one (.v (.int .i64 x1.s.2))), (5, .one (.v (.int .i64 ((x1.i : Nat) : Int))))]) (fun x1 => [.dead, .new ⟨6, false, List.map (Span.cells true) x1.s.1, 0⟩]) [none, some 1] ?_ (fun x1 => ?_)
  · exact ⟨rfl, ⟨rfl, rfl, ⟨rfl, rfl, rfl, rfl, by (first | rfl | omega | (dsimp only; omega) | (simp; done) | (simp; omega) | (simp [LstSt.init, LstSt.step, LstInv.init, CntSt.init, CntSt.step, CntInv.init, WhlSt.init, WhlSt.step]; done) | (simp [LstSt.init, LstSt.step, LstInv.init, CntSt.init, CntSt.step, CntInv.init, WhlSt.init, WhlSt.step]; omega))⟩, trivial⟩, ⟨⟨rfl, rfl, rfl⟩, trivial⟩, ⟨⟨rfl, rfl, rfl, rfl, by (first | rfl | omega | (dsimp only; omega) | (simp; done) | (simp; omega) | (simp [LstSt.init, LstSt.step, LstInv.init, CntSt.init, CntSt.step, CntInv.init, WhlSt.init, WhlSt.step]; done) | (simp [LstSt.init, LstSt.step, LstInv.init, CntSt.init, CntSt.step, CntInv.init, WhlSt.init, WhlSt.step]; omega))⟩, trivial⟩⟩
  have hI1 : (x1.s.1).length = (p0).length := by simpa using x1.hI
  refine seqE ?_
  refine seqE ?_
  refine lenE (k := (p0).length) (by simp) (fun hN1 => ?_)
  refine tstL (fun hi1 => ?_) (fun hi1 => ?_)
  · have hb1 := (x1.bdy hi1).trans (laws_markSpanS_b1.eq_1 ..)
    have hw1 := wrap_succ hi1 (by first | assumption | omega)
    refine seqE ?_
    refine seqE ?_
    refine andE (by (first | omega | (simp (disch := omega) only [wrap_small, mid_eq, List.length_map]; omega) | (simp; done) | (simp; omega) | (simp at *; omega) | (simp at *; done) | (simp_all; done) | (simp_all; omega))) ?_
    refine rowsE (Y := List.map (Span.cells true) (List.set x1.s.1 x1.i (Span.mk x1.s.2 (x1.s.1[x1.i]?.getD default).Id (x1.s.1[x1.i]?.getD default).Start (x1.s.1[x1.i]?.getD default).End (x1.s.1[x1.i]?.getD default).Err (x1.s.1[x1.i]?.getD default).Attrs))) (by exact setMapE (by simp) (fun a ha => by first | rfl | (simp only [ha, Option.getD_some]; rfl) | (obtain ⟨_, rfl⟩ := List.getElem?_eq_some_iff.1 ha; rfl) | (simp only [Pol.cells_eq]; rfl) | (simp only [ha, Option.getD_some, Pol.cells_eq]; rfl))) ?_
    refine seqE ?_
    refine seqE ?_
    refine andE (by (first | omega | (simp (disch := omega) only [wrap_small, mid_eq, List.length_map]; omega) | (simp; done) | (simp; omega) | (simp at *; omega) | (simp at *; done) | (simp_all; done) | (simp_all; omega))) ?_
    refine rowsE (Y := List.map (Span.cells true) (List.set x1.s.1 x1.i (Span.mk x1.s.2 (IntKind.i64.wrap (x1.s.2 + 1)) (x1.s.1[x1.i]?.getD default).Start (x1.s.1[x1.i]?.getD default).End (x1.s.1[x1.i]?.getD default).Err (x1.s.1[x1.i]?.getD default).Attrs))) (by exact setMapS (by simp) (by first | rfl | (simp only [ha, Option.getD_some]; rfl) | (obtain ⟨_, rfl⟩ := List.getElem?_eq_some_iff.1 ha; rfl) | (simp only [Pol.cells_eq]; rfl) | (simp only [ha, Option.getD_some, Pol.cells_eq]; rfl))) ?_
    refine seqE ?_
    refine seqE ?_
    refine andE (by (first | omega | (simp (disch := omega) only [wrap_small, mid_eq, List.length_map]; omega) | (simp; done) | (simp; omega) | (simp at *; omega) | (simp at *; done) | (simp_all; done) | (simp_all; omega))) ?_
    refine rowsE (Y := List.map (Span.cells true) (List.set x1.s.1 x1.i (Span.mk x1.s.2 (IntKind.i64.wrap (x1.s.2 + 1)) (IntKind.i64.wrap ((IntKind.i64.wrap (x1.s.2 + 1)) + 1)) (x1.s.1[x1.i]?.getD default).End (x1.s.1[x1.i]?.getD default).Err (x1.s.1[x1.i]?.getD default).Attrs))) (by exact setMapS (by simp) (by first | rfl | (simp only [ha, Option.getD_some]; rfl) | (obtain ⟨_, rfl⟩ := List.getElem?_eq_some_iff.1 ha; rfl) | (simp only [Pol.cells_eq]; rfl) | (simp only [ha, Option.getD_some, Pol.cells_eq]; rfl))) ?_
    refine seqE ?_
    refine seqE ?_
    refine andE (by (first | omega | (simp (disch := omega) only [wrap_small, mid_eq, List.length_map]; omega) | (simp; done) | (simp; omega) | (simp at *; omega) | (simp at *; done) | (simp_all; done) | (simp_all; omega))) ?_
    refine rowsE (Y := List.map (Span.cells true) (List.set x1.s.1 x1.i (Span.mk x1.s.2 (IntKind.i64.wrap (x1.s.2 + 1)) (IntKind.i64.wrap ((IntKind.i64.wrap (x1.s.2 + 1)) + 1)) (IntKind.i64.wrap ((IntKind.i64.wrap ((IntKind.i64.wrap (x1.s.2 + 1)) + 1)) + 1)) (x1.s.1[x1.i]?.getD default).Err (x1.s.1[x1.i]?.getD default).Attrs))) (by exact setMapS (by simp) (by first | rfl | (simp only [ha, Option.getD_some]; rfl) | (obtain ⟨_, rfl⟩ := List.getElem?_eq_some_iff.1 ha; rfl) | (simp only [Pol.cells_eq]; rfl) | (simp only [ha, Option.getD_some, Pol.cells_eq]; rfl))) ?_
    refine seqE ?_
    refine seqE ?_
    refine andE (by (first | omega | (simp (disch := omega) only [wrap_small, mid_eq, List.length_map]; omega) | (simp; done) | (simp; omega) | (simp at *; omega) | (simp at *; done) | (simp_all; done) | (simp_all; omega))) ?_
    refine andE (by (first | omega | (simp (disch := omega) only [wrap_small, mid_eq, List.length_map]; omega) | (simp; done) | (simp; omega) | (simp at *; omega) | (simp at *; done) | (simp_all; done) | (simp_all; omega))) ?_
    refine rowsE (Y := List.map (Span.cells true) (List.set x1.s.1 x1.i (Span.mk x1.s.2 (IntKind.i64.wrap (x1.s.2 + 1)) (IntKind.i64.wrap ((IntKind.i64.wrap (x1.s.2 + 1)) + 1)) (IntKind.i64.wrap ((IntKind.i64.wrap ((IntKind.i64.wrap (x1.s.2 + 1)) + 1)) + 1)) ((Int.tmod (IntKind.i64.wrap ((IntKind.i64.wrap ((IntKind.i64.wrap ((IntKind.i64.wrap (x1.s.2 + 1)) + 1)) + 1)) + 1)) 3) == 0) (x1.s.1[x1.i]?.getD default).Attrs))) (by exact setMapS (by simp) (by first | rfl | (simp only [ha, Option.getD_some]; rfl) | (obtain ⟨_, rfl⟩ := List.getElem?_eq_some_iff.1 ha; rfl) | (simp only [Pol.cells_eq]; rfl) | (simp only [ha, Option.getD_some, Pol.cells_eq]; rfl))) ?_
    refine seqE ?_
    refine andE (by (first | omega | (simp (disch := omega) only [wrap_small, mid_eq, List.length_map]; omega) | (simp; done) | (simp; omega) | (simp at *; omega) | (simp at *; done) | (simp_all; done) | (simp_all; omega))) ?_
    refine rowSetE (i := x1.i) (l := x1.s.1) (x := (Span.mk x1.s.2 (IntKind.i64.wrap (x1.s.2 + 1)) (IntKind.i64.wrap ((IntKind.i64.wrap (x1.s.2 + 1)) + 1)) (IntKind.i64.wrap ((IntKind.i64.wrap ((IntKind.i64.wrap (x1.s.2 + 1)) + 1)) + 1)) ((Int.tmod (IntKind.i64.wrap ((IntKind.i64.wrap ((IntKind.i64.wrap ((IntKind.i64.wrap (x1.s.2 + 1)) + 1)) + 1)) + 1)) 3) == 0) (x1.s.1[x1.i]?.getD default).Attrs)) (by first | rfl | exact Nat.zero_add _ | simp) (fun _ => ?_)
    refine .inr ⟨0, ?_⟩
    refine rowSetE (i := x1.i) (l := x1.s.1) (x := (Span.mk x1.s.2 (IntKind.i64.wrap (x1.s.2 + 1)) (IntKind.i64.wrap ((IntKind.i64.wrap (x1.s.2 + 1)) + 1)) (IntKind.i64.wrap ((IntKind.i64.wrap ((IntKind.i64.wrap (x1.s.2 + 1)) + 1)) + 1)) ((Int.tmod (IntKind.i64.wrap ((IntKind.i64.wrap ((IntKind.i64.wrap ((IntKind.i64.wrap (x1.s.2 + 1)) + 1)) + 1)) + 1)) 3) == 0) (x1.s.1[x1.i]?.getD default).Attrs)) (by first | rfl | exact Nat.zero_add _ | simp) (fun _ => ?_)
    refine ⟨_, _, _, c_laws_markAttrS (x1.s.1[x1.i]?.getD default).Attrs (IntKind.i64.wrap ((IntKind.i64.wrap ((IntKind.i64.wrap ((IntKind.i64.wrap ((IntKind.i64.wrap (x1.s.2 + 1)) + 1)) + 1)) + 1)) + 1)), (FzAs.same _), .inl ?_⟩
    refine rowsE (Y := List.map (Span.cells true) (List.set x1.s.1 x1.i (Span.mk x1.s.2 (IntKind.i64.wrap (x1.s.2 + 1)) (IntKind.i64.wrap ((IntKind.i64.wrap (x1.s.2 + 1)) + 1)) (IntKind.i64.wrap ((IntKind.i64.wrap ((IntKind.i64.wrap (x1.s.2 + 1)) + 1)) + 1)) ((Int.tmod (IntKind.i64.wrap ((IntKind.i64.wrap ((IntKind.i64.wrap ((IntKind.i64.wrap (x1.s.2 + 1)) + 1)) + 1)) + 1)) 3) == 0) (laws_markAttrS (x1.s.1[x1.i]?.getD default).Attrs (IntKind.i64.wrap ((IntKind.i64.wrap ((IntKind.i64.wrap ((IntKind.i64.wrap ((IntKind.i64.wrap (x1.s.2 + 1)) + 1)) + 1)) + 1)) + 1))).2))) (by exact setMapS (by simp) (by first | rfl | (simp only [ha, Option.getD_some]; rfl) | (obtain ⟨_, rfl⟩ := List.getElem?_eq_some_iff.1 ha; rfl) | (simp only [Pol.cells_eq]; rfl) | (simp only [ha, Option.getD_some, Pol.cells_eq]; rfl))) ?_
    refine litE (m := 3) rfl ?_
    exact x1.goE hi1 hb1 (by simpa using x1.hI) [none, some 1] ⟨rfl, ⟨rfl, (eqInt hw1), ⟨rfl, rfl, rfl, rfl, by (first | rfl | omega | (dsimp only; omega) | (simp; done) | (simp; omega) | (simp [LstSt.init, LstSt.step, LstInv.init, CntSt.init, CntSt.step, CntInv.init, WhlSt.init, WhlSt.step]; done) | (simp [LstSt.init, LstSt.step, LstInv.init, CntSt.init, CntSt.step, CntInv.init, WhlSt.init, WhlSt.step]; omega))⟩, trivial⟩, ⟨⟨rfl, rfl, rfl⟩, trivial⟩, ⟨⟨rfl, rfl, rfl, rfl, by (first | rfl | omega | (dsimp only; omega) | (simp; done) | (simp; omega) | (simp [LstSt.init, LstSt.step, LstInv.init, CntSt.init, CntSt.step, CntInv.init, WhlSt.init, WhlSt.step]; done) | (simp [LstSt.init, LstSt.step, LstInv.init, CntSt.init, CntSt.step, CntInv.init, WhlSt.init, WhlSt.step]; omega))⟩, trivial⟩⟩
  have hg := finE hg (x1.fin hi1)
  refine seqE ?_
  exact leafM hown hg
def laws_markTrailS_b1 (i1 : Nat) (s1 : (List Trail) × Int) (a1 : Trail) : Step ((List Trail) × Int) (Int × (List Trail)) :=
  (.next ((List.set s1.1 i1 (Trail.mk s1.2 (IntKind.i64.wrap (s1.2 + 1)) (IntKind.i64.wrap ((IntKind.i64.wrap (s1.2 + 1)) + 1)) (laws_markSpanS (s1.1[i1]?.getD default).Spans (IntKind.i64.wrap ((IntKind.i64.wrap ((IntKind.i64.wrap (s1.2 + 1)) + 1)) + 1))).2)), (laws_markSpanS (s1.1[i1]?.getD default).Spans (IntKind.i64.wrap ((IntKind.i64.wrap ((IntKind.i64.wrap (s1.2 + 1)) + 1)) + 1))).1))
def laws_markTrailS (p0 : (List Trail)) (p1 : Int) : (Int × (List Trail)) :=
  (Fin.get (fun s1 => (s1.2, s1.1)) (loopL laws_markTrailS_b1 0 (p0, p1) p0))
theorem c_laws_markTrailS (p0 : (List Trail)) (p1 : Int) : FnOk prog 59 [.tup [.one (.s true 4 (List.map (Trail.cells true) p0))], .one (.v (.int .i64 p1))] ⟨.one (.v (.int .i64 (laws_markTrailS p0 p1).1)), [.one (.s true 4 (List.map (Trail.cells true) ((laws_markTrailS p0 p1).2)))], [], false⟩ := by
  refine FnOk.introM (E := env) envOk wide func59 rfl (by kernel_rfl) rfl ?_
  have hg := laws_markTrailS.eq_1 p0 p1
  have hown : (∀ g : (Int × (List Trail)), AV.Own (AV.one (.v (.int .i64 g.1)))) ∧ (fun g : (Int × (List Trail)) => T.s true 4 (List.map (Trail.cells true) (g.2))) = _ := ⟨fun g => .v _, rfl⟩
  refine seqE ?_
  refine seqE ?_
  refine seqE ?_
  refine loopLI (fun _ s => (s.1).length = (p0).length) hg (by simp) [0] (fun x1 => [(1, .one (.v (.int .i64 x1.s.2))), (5, .one (.v (.int .i64 ((x1.i : Nat) : Int))))]) (fun x1 => [.dead, .new ⟨4, false, List.map (Trail.cells true) x1.s.1, 0⟩]) [none, some 1] ?_ (fun x1 => ?_)
  · exact ⟨rfl, ⟨rfl, rfl, ⟨rfl, rfl, rfl, rfl, by (first | rfl | omega | (dsimp only; omega) | (simp; done) | (simp; omega) | (simp [LstSt.init, LstSt.step, LstInv.init, CntSt.init, CntSt.step, CntInv.init, WhlSt.init, WhlSt.step]; done) | (simp [LstSt.init, LstSt.step, LstInv.init, CntSt.init, CntSt.step, CntInv.init, WhlSt.init, WhlSt.step]; omega))⟩, trivial⟩, ⟨⟨rfl, rfl, rfl⟩, trivial⟩, ⟨⟨rfl, rfl, rfl, rfl, by (first | rfl | omega | (dsimp only; omega) | (simp; done) | (simp; omega) | (simp [LstSt.init, LstSt.step, LstInv.init, CntSt.init, CntSt.step, CntInv.init, WhlSt.init, WhlSt.step]; done) | (simp [LstSt.init, LstSt.step, LstInv.init, CntSt.init, CntSt.step, CntInv.init, WhlSt.init, WhlSt.step]; omega))⟩, trivial⟩⟩
  have hI1 : (x1.s.1).length = (p0).length := by simpa using x1.hI
  refine seqE ?_
  refine seqE ?_
  refine lenE (k := (p0).length) (by simp) (fun hN1 => ?_)
  refine tstL (fun hi1 => ?_) (fun hi1 => ?_)
  · have hb1 := (x1.bdy hi1).trans (laws_markTrailS_b1.eq_1 ..)
    have hw1 := wrap_succ hi1 (by first | assumption | omega)
    refine seqE ?_
    refine seqE ?_
    refine andE (by (first | omega | (simp (disch := omega) only [wrap_small, mid_eq, List.length_map]; omega) | (simp; done) | (simp; omega) | (simp at *; omega) | (simp at *; done) | (simp_all; done) | (simp_all; omega))) ?_
    refine rowsE (Y := List.map (Trail.cells true) (List.set x1.s.1 x1.i (Trail.mk x1.s.2 (x1.s.1[x1.i]?.getD default).Stamp (x1.s.1[x1.i]?.getD default).First (x1.s.1[x1.i]?.getD default).Spans))) (by exact setMapE (by simp) (fun a ha => by first | rfl | (simp only [ha, Option.getD_some]; rfl) | (obtain ⟨_, rfl⟩ := List.getElem?_eq_some_iff.1 ha; rfl) | (simp only [Pol.cells_eq]; rfl) | (simp only [ha, Option.getD_some, Pol.cells_eq]; rfl))) ?_
    refine seqE ?_
    refine seqE ?_
    refine andE (by (first | omega | (simp (disch := omega) only [wrap_small, mid_eq, List.length_map]; omega) | (simp; done) | (simp; omega) | (simp at *; omega) | (simp at *; done) | (simp_all; done) | (simp_all; omega))) ?_
    refine rowsE (Y := List.map (Trail.cells true) (List.set x1.s.1 x1.i (Trail.mk x1.s.2 (IntKind.i64.wrap (x1.s.2 + 1)) (x1.s.1[x1.i]?.getD default).First (x1.s.1[x1.i]?.getD default).Spans))) (by exact setMapS (by simp) (by first | rfl | (simp only [ha, Option.getD_some]; rfl) | (obtain ⟨_, rfl⟩ := List.getElem?_eq_some_iff.1 ha; rfl) | (simp only [Pol.cells_eq]; rfl) | (simp only [ha, Option.getD_some, Pol.cells_eq]; rfl))) ?_
    refine seqE ?_
    refine seqE ?_
    refine andE (by (first | omega | (simp (disch := omega) only [wrap_small, mid_eq, List.length_map]; omega) | (simp; done) | (simp; omega) | (simp at *; omega) | (simp at *; done) | (simp_all; done) | (simp_all; omega))) ?_
    refine rowsE (Y := List.map (Trail.cells true) (List.set x1.s.1 x1.i (Trail.mk x1.s.2 (IntKind.i64.wrap (x1.s.2 + 1)) (IntKind.i64.wrap ((IntKind.i64.wrap (x1.s.2 + 1)) + 1)) (x1.s.1[x1.i]?.getD default).Spans))) (by exact setMapS (by simp) (by first | rfl | (simp only [ha, Option.getD_some]; rfl) | (obtain ⟨_, rfl⟩ := List.getElem?_eq_some_iff.1 ha; rfl) | (simp only [Pol.cells_eq]; rfl) | (simp only [ha, Option.getD_some, Pol.cells_eq]; rfl))) ?_
    refine seqE ?_
    refine andE (by (first | omega | (simp (disch := omega) only [wrap_small, mid_eq, List.length_map]; omega) | (simp; done) | (simp; omega) | (simp at *; omega) | (simp at *; done) | (simp_all; done) | (simp_all; omega))) ?_
    refine rowSetE (i := x1.i) (l := x1.s.1) (x := (Trail.mk x1.s.2 (IntKind.i64.wrap (x1.s.2 + 1)) (IntKind.i64.wrap ((IntKind.i64.wrap (x1.s.2 + 1)) + 1)) (x1.s.1[x1.i]?.getD default).Spans)) (by first | rfl | exact Nat.zero_add _ | simp) (fun _ => ?_)
    refine .inr ⟨0, ?_⟩
    refine rowSetE (i := x1.i) (l := x1.s.1) (x := (Trail.mk x1.s.2 (IntKind.i64.wrap (x1.s.2 + 1)) (IntKind.i64.wrap ((IntKind.i64.wrap (x1.s.2 + 1)) + 1)) (x1.s.1[x1.i]?.getD default).Spans)) (by first | rfl | exact Nat.zero_add _ | simp) (fun _ => ?_)
    refine ⟨_, _, _, c_laws_markSpanS (x1.s.1[x1.i]?.getD default).Spans (IntKind.i64.wrap ((IntKind.i64.wrap ((IntKind.i64.wrap (x1.s.2 + 1)) + 1)) + 1)), (FzAs.same _), .inl ?_⟩
    refine rowsE (Y := List.map (Trail.cells true) (List.set x1.s.1 x1.i (Trail.mk x1.s.2 (IntKind.i64.wrap (x1.s.2 + 1)) (IntKind.i64.wrap ((IntKind.i64.wrap (x1.s.2 + 1)) + 1)) (laws_markSpanS (x1.s.1[x1.i]?.getD default).Spans (IntKind.i64.wrap ((IntKind.i64.wrap ((IntKind.i64.wrap (x1.s.2 + 1)) + 1)) + 1))).2))) (by exact setMapS (by simp) (by first | rfl | (simp only [ha, Option.getD_some]; rfl) | (obtain ⟨_, rfl⟩ := List.getElem?_eq_some_iff.1 ha; rfl) | (simp only [Pol.cells_eq]; rfl) | (simp only [ha, Option.getD_some, Pol.cells_eq]; rfl))) ?_
    refine litE (m := 3) rfl ?_
    exact x1.goE hi1 hb1 (by simpa using x1.hI) [none, some 1] ⟨rfl, ⟨rfl, (eqInt hw1), ⟨rfl, rfl, rfl, rfl, by (first | rfl | omega | (dsimp only; omega) | (simp; done) | (simp; omega) | (simp [LstSt.init, LstSt.step, LstInv.init, CntSt.init, CntSt.step, CntInv.init, WhlSt.init, WhlSt.step]; done) | (simp [LstSt.init, LstSt.step, LstInv.init, CntSt.init, CntSt.step, CntInv.init, WhlSt.init, WhlSt.step]; omega))⟩, trivial⟩, ⟨⟨rfl, rfl, rfl⟩, trivial⟩, ⟨⟨rfl, rfl, rfl, rfl, by (first | rfl | omega | (dsimp only; omega) | (simp; done) | (simp; omega) | (simp [LstSt.init, LstSt.step, LstInv.init, CntSt.init, CntSt.step, CntInv.init, WhlSt.init, WhlSt.step]; done) | (simp [LstSt.init, LstSt.step, LstInv.init, CntSt.init, CntSt.step, CntInv.init, WhlSt.init, WhlSt.step]; omega))⟩, trivial⟩⟩
  have hg := finE hg (x1.fin hi1)
  refine seqE ?_
  exact leafM hown hg
def laws_markStripeS_b1 (i1 : Nat) (s1 : (List Stripe) × Int) (a1 : Stripe) : Step ((List Stripe) × Int) (Int × (List Stripe)) :=
  (.next ((List.set s1.1 i1 (Stripe.mk s1.2 (laws_markTrailS (s1.1[i1]?.getD default).L (IntKind.i64.wrap (s1.2 + 1))).2)), (laws_markTrailS (s1.1[i1]?.getD default).L (IntKind.i64.wrap (s1.2 + 1))).1))
def laws_markStripeS (p0 : (List Stripe)) (p1 : Int) : (Int × (List Stripe)) :=
  (Fin.get (fun s1 => (s1.2, s1.1)) (loopL laws_markStripeS_b1 0 (p0, p1) p0))
theorem c_laws_markStripeS (p0 : (List Stripe)) (p1 : Int) : FnOk prog 85 [.tup [.one (.s true 2 (List.map (Stripe.cells true) p0))], .one (.v (.int .i64 p1))] ⟨.one (.v (.int .i64 (laws_markStripeS p0 p1).1)), [.one (.s true 2 (List.map (Stripe.cells true) ((laws_markStripeS p0 p1).2)))], [], false⟩ := by
  refine FnOk.introM (E := env) envOk wide func85 rfl (by kernel_rfl) rfl ?_
  have hg := laws_markStripeS.eq_1 p0 p1
  have hown : (∀ g : (Int × (List Stripe)), AV.Own (AV.one (.v (.int .i64 g.1)))) ∧ (fun g : (Int × (List Stripe)) => T.s true 2 (List.map (Stripe.cells true) (g.2))) = _ := ⟨fun g => .v _, rfl⟩
  refine seqE ?_
  refine seqE ?_
  refine seqE ?_
  refine loopLI (fun _ s => (s.1).length = (p0).length) hg (by simp) [0] (fun x1 => [(1, .one (.v (.int .i64 x1.s.2))), (5, .one (.v (.int .i64 ((x1.i : Nat) : Int))))]) (fun x1 => [.dead, .new ⟨2, false, List.map (Stripe.cells true) x1.s.1, 0⟩]) [none, some 1] ?_ (fun x1 => ?_)
  · exact ⟨rfl, ⟨rfl, rfl, ⟨rfl, rfl, rfl, rfl, by (first | rfl | omega | (dsimp only; omega) | (simp; done) | (simp; omega) | (simp [LstSt.init, LstSt.step, LstInv.init, CntSt.init, CntSt.step, CntInv.init, WhlSt.init, WhlSt.step]; done) | (simp [LstSt.init, LstSt.step, LstInv.init, CntSt.init, CntSt.step, CntInv.init, WhlSt.init, WhlSt.step]; omega))⟩, trivial⟩, ⟨⟨rfl, rfl, rfl⟩, trivial⟩, ⟨⟨rfl, rfl, rfl, rfl, by (first | rfl | omega | (dsimp only; omega) | (simp; done) | (simp; omega) | (simp [LstSt.init, LstSt.step, LstInv.init, CntSt.init, CntSt.step, CntInv.init, WhlSt.init, WhlSt.step]; done) | (simp [LstSt.init, LstSt.step, LstInv.init, CntSt.init, CntSt.step, CntInv.init, WhlSt.init, WhlSt.step]; omega))⟩, trivial⟩⟩
  have hI1 : (x1.s.1).length = (p0).length := by simpa using x1.hI
  refine seqE ?_
  refine seqE ?_
  refine lenE (k := (p0).length) (by simp) (fun hN1 => ?_)
  refine tstL (fun hi1 => ?_) (fun hi1 => ?_)
  · have hb1 := (x1.bdy hi1).trans (laws_markStripeS_b1.eq_1 ..)
    have hw1 := wrap_succ hi1 (by first | assumption | omega)
    refine seqE ?_
    refine seqE ?_
    refine andE (by (first | omega | (simp (disch := omega) only [wrap_small, mid_eq, List.length_map]; omega) | (simp; done) | (simp; omega) | (simp at *; omega) | (simp at *; done) | (simp_all; done) | (simp_all; omega))) ?_
    refine rowsE (Y := List.map (Stripe.cells true) (List.set x1.s.1 x1.i (Stripe.mk x1.s.2 (x1.s.1[x1.i]?.getD default).L))) (by exact setMapE (by simp) (fun a ha => by first | rfl | (simp only [ha, Option.getD_some]; rfl) | (obtain ⟨_, rfl⟩ := List.getElem?_eq_some_iff.1 ha; rfl) | (simp only [Pol.cells_eq]; rfl) | (simp only [ha, Option.getD_some, Pol.cells_eq]; rfl))) ?_
    refine seqE ?_
    refine andE (by (first | omega | (simp (disch := omega) only [wrap_small, mid_eq, List.length_map]; omega) | (simp; done) | (simp; omega) | (simp at *; omega) | (simp at *; done) | (simp_all; done) | (simp_all; omega))) ?_
    refine rowSetE (i := x1.i) (l := x1.s.1) (x := (Stripe.mk x1.s.2 (x1.s.1[x1.i]?.getD default).L)) (by first | rfl | exact Nat.zero_add _ | simp) (fun _ => ?_)
    refine .inr ⟨0, ?_⟩
    refine rowSetE (i := x1.i) (l := x1.s.1) (x := (Stripe.mk x1.s.2 (x1.s.1[x1.i]?.getD default).L)) (by first | rfl | exact Nat.zero_add _ | simp) (fun _ => ?_)
    refine ⟨_, _, _, c_laws_markTrailS (x1.s.1[x1.i]?.getD default).L (IntKind.i64.wrap (x1.s.2 + 1)), (FzAs.same _), .inl ?_⟩
    refine rowsE (Y := List.map (Stripe.cells true) (List.set x1.s.1 x1.i (Stripe.mk x1.s.2 (laws_markTrailS (x1.s.1[x1.i]?.getD default).L (IntKind.i64.wrap (x1.s.2 + 1))).2))) (by exact setMapS (by simp) (by first | rfl | (simp only [ha, Option.getD_some]; rfl) | (obtain ⟨_, rfl⟩ := List.getElem?_eq_some_iff.1 ha; rfl) | (simp only [Pol.cells_eq]; rfl) | (simp only [ha, Option.getD_some, Pol.cells_eq]; rfl))) ?_
    refine litE (m := 3) rfl ?_
    exact x1.goE hi1 hb1 (by simpa using x1.hI) [none, some 1] ⟨rfl, ⟨rfl, (eqInt hw1), ⟨rfl, rfl, rfl, rfl, by (first | rfl | omega | (dsimp only; omega) | (simp; done) | (simp; omega) | (simp [LstSt.init, LstSt.step, LstInv.init, CntSt.init, CntSt.step, CntInv.init, WhlSt.init, WhlSt.step]; done) | (simp [LstSt.init, LstSt.step, LstInv.init, CntSt.init, CntSt.step, CntInv.init, WhlSt.init, WhlSt.step]; omega))⟩, trivial⟩, ⟨⟨rfl, rfl, rfl⟩, trivial⟩, ⟨⟨rfl, rfl, rfl, rfl, by (first | rfl | omega | (dsimp only; omega) | (simp; done) | (simp; omega) | (simp [LstSt.init, LstSt.step, LstInv.init, CntSt.init, CntSt.step, CntInv.init, WhlSt.init, WhlSt.step]; done) | (simp [LstSt.init, LstSt.step, LstInv.init, CntSt.init, CntSt.step, CntInv.init, WhlSt.init, WhlSt.step]; omega))⟩, trivial⟩⟩
  have hg := finE hg (x1.fin hi1)
  refine seqE ?_
  exact leafM hown hg
def laws_markVerdictS_b1 (i1 : Nat) (s1 : (List Verdict) × Int) (a1 : Verdict) : Step ((List Verdict) × Int) (Int × (List Verdict)) :=
  (.next ((List.set s1.1 i1 (Verdict.mk s1.2 (IntKind.i64.wrap (s1.2 + 1)) ((Int.tmod (IntKind.i64.wrap ((IntKind.i64.wrap (s1.2 + 1)) + 1)) 3) == 0))), (IntKind.i64.wrap ((IntKind.i64.wrap ((IntKind.i64.wrap (s1.2 + 1)) + 1)) + 1))))
def laws_markVerdictS (p0 : (List Verdict)) (p1 : Int) : (Int × (List Verdict)) :=
  (Fin.get (fun s1 => (s1.2, s1.1)) (loopL laws_markVerdictS_b1 0 (p0, p1) p0))
theorem c_laws_markVerdictS (p0 : (List Verdict)) (p1 : Int) : FnOk prog 60 [.tup [.one (.s true 3 (List.map Verdict.cells p0))], .one (.v (.int .i64 p1))] ⟨.one (.v (.int .i64 (laws_markVerdictS p0 p1).1)), [.one (.s true 3 (List.map Verdict.cells ((laws_markVerdictS p0 p1).2)))], [], false⟩ := by
  refine FnOk.introM (E := env) envOk wide func60 rfl (by kernel_rfl) rfl ?_
  have hg := laws_markVerdictS.eq_1 p0 p1
  have hown : (∀ g : (Int × (List Verdict)), AV.Own (AV.one (.v (.int .i64 g.1)))) ∧ (fun g : (Int × (List Verdict)) => T.s true 3 (List.map Verdict.cells (g.2))) = _ := ⟨fun g => .v _, rfl⟩
  refine seqE ?_
  refine seqE ?_
  refine seqE ?_
  refine loopLI (fun _ s => (s.1).length = (p0).length) hg (by simp) [0] (fun x1 => [(1, .one (.v (.int .i64 x1.s.2))), (5, .one (.v (.int .i64 ((x1.i : Nat) : Int))))]) (fun x1 => [.dead, .new ⟨3, false, List.map Verdict.cells x1.s.1, 0⟩]) [none, some 1] ?_ (fun x1 => ?_)
  · exact ⟨rfl, ⟨rfl, rfl, ⟨rfl, rfl, rfl, rfl, by (first | rfl | omega | (dsimp only; omega) | (simp; done) | (simp; omega) | (simp [LstSt.init, LstSt.step, LstInv.init, CntSt.init, CntSt.step, CntInv.init, WhlSt.init, WhlSt.step]; done) | (simp [LstSt.init, LstSt.step, LstInv.init, CntSt.init, CntSt.step, CntInv.init, WhlSt.init, WhlSt.step]; omega))⟩, trivial⟩, ⟨⟨rfl, rfl, rfl⟩, trivial⟩, ⟨⟨rfl, rfl, rfl, rfl, by (first | rfl | omega | (dsimp only; omega) | (simp; done) | (simp; omega) | (simp [LstSt.init, LstSt.step, LstInv.init, CntSt.init, CntSt.step, CntInv.init, WhlSt.init, WhlSt.step]; done) | (simp [LstSt.init, LstSt.step, LstInv.init, CntSt.init, CntSt.step, CntInv.init, WhlSt.init, WhlSt.step]; omega))⟩, trivial⟩⟩
  have hI1 : (x1.s.1).length = (p0).length := by simpa using x1.hI
  refine seqE ?_
  refine seqE ?_
  refine lenE (k := (p0).length) (by simp) (fun hN1 => ?_)
  refine tstL (fun hi1 => ?_) (fun hi1 => ?_)
  · have hb1 := (x1.bdy hi1).trans (laws_markVerdictS_b1.eq_1 ..)
    have hw1 := wrap_succ hi1 (by first | assumption | omega)
    refine seqE ?_
    refine seqE ?_
    refine andE (by (first | omega | (simp (disch := omega) only [wrap_small, mid_eq, List.length_map]; omega) | (simp; done) | (simp; omega) | (simp at *; omega) | (simp at *; done) | (simp_all; done) | (simp_all; omega))) ?_
    refine rowsE (Y := List.map Verdict.cells (List.set x1.s.1 x1.i (Verdict.mk x1.s.2 (x1.s.1[x1.i]?.getD default).Stamp (x1.s.1[x1.i]?.getD default).Keep))) (by exact setMapE (by simp) (fun a ha => by first | rfl | (simp only [ha, Option.getD_some]; rfl) | (obtain ⟨_, rfl⟩ := List.getElem?_eq_some_iff.1 ha; rfl) | (simp only [Pol.cells_eq]; rfl) | (simp only [ha, Option.getD_some, Pol.cells_eq]; rfl))) ?_
    refine seqE ?_
    refine seqE ?_
    refine andE (by (first | omega | (simp (disch := omega) only [wrap_small, mid_eq, List.length_map]; omega) | (simp; done) | (simp; omega) | (simp at *; omega) | (simp at *; done) | (simp_all; done) | (simp_all; omega))) ?_
    refine rowsE (Y := List.map Verdict.cells (List.set x1.s.1 x1.i (Verdict.mk x1.s.2 (IntKind.i64.wrap (x1.s.2 + 1)) (x1.s.1[x1.i]?.getD default).Keep))) (by exact setMapS (by simp) (by first | rfl | (simp only [ha, Option.getD_some]; rfl) | (obtain ⟨_, rfl⟩ := List.getElem?_eq_some_iff.1 ha; rfl) | (simp only [Pol.cells_eq]; rfl) | (simp only [ha, Option.getD_some, Pol.cells_eq]; rfl))) ?_
    refine seqE ?_
    refine seqE ?_
    refine andE (by (first | omega | (simp (disch := omega) only [wrap_small, mid_eq, List.length_map]; omega) | (simp; done) | (simp; omega) | (simp at *; omega) | (simp at *; done) | (simp_all; done) | (simp_all; omega))) ?_
    refine andE (by (first | omega | (simp (disch := omega) only [wrap_small, mid_eq, List.length_map]; omega) | (simp; done) | (simp; omega) | (simp at *; omega) | (simp at *; done) | (simp_all; done) | (simp_all; omega))) ?_
    refine rowsE (Y := List.map Verdict.cells (List.set x1.s.1 x1.i (Verdict.mk x1.s.2 (IntKind.i64.wrap (x1.s.2 + 1)) ((Int.tmod (IntKind.i64.wrap ((IntKind.i64.wrap (x1.s.2 + 1)) + 1)) 3) == 0)))) (by exact setMapS (by simp) (by first | rfl | (simp only [ha, Option.getD_some]; rfl) | (obtain ⟨_, rfl⟩ := List.getElem?_eq_some_iff.1 ha; rfl) | (simp only [Pol.cells_eq]; rfl) | (simp only [ha, Option.getD_some, Pol.cells_eq]; rfl))) ?_
    exact x1.goE hi1 hb1 (by simpa using x1.hI) [none, some 1] ⟨rfl, ⟨rfl, (eqInt hw1), ⟨rfl, rfl, rfl, rfl, by (first | rfl | omega | (dsimp only; omega) | (simp; done) | (simp; omega) | (simp [LstSt.init, LstSt.step, LstInv.init, CntSt.init, CntSt.step, CntInv.init, WhlSt.init, WhlSt.step]; done) | (simp [LstSt.init, LstSt.step, LstInv.init, CntSt.init, CntSt.step, CntInv.init, WhlSt.init, WhlSt.step]; omega))⟩, trivial⟩, ⟨⟨rfl, rfl, rfl⟩, trivial⟩, ⟨⟨rfl, rfl, rfl, rfl, by (first | rfl | omega | (dsimp only; omega) | (simp; done) | (simp; omega) | (simp [LstSt.init, LstSt.step, LstInv.init, CntSt.init, CntSt.step, CntInv.init, WhlSt.init, WhlSt.step]; done) | (simp [LstSt.init, LstSt.step, LstInv.init, CntSt.init, CntSt.step, CntInv.init, WhlSt.init, WhlSt.step]; omega))⟩, trivial⟩⟩
  have hg := finE hg (x1.fin hi1)
  refine seqE ?_
  exact leafM hown hg
def laws_markTimerS_b1 (i1 : Nat) (s1 : (List Timer) × Int) (a1 : Timer) : Step ((List Timer) × Int) (Int × (List Timer)) :=
  (.next ((List.set s1.1 i1 (Timer.mk s1.2 (IntKind.i64.wrap (s1.2 + 1)) (IntKind.i64.wrap ((IntKind.i64.wrap (s1.2 + 1)) + 1)))), (IntKind.i64.wrap ((IntKind.i64.wrap ((IntKind.i64.wrap (s1.2 + 1)) + 1)) + 1))))
def laws_markTimerS (p0 : (List Timer)) (p1 : Int) : (Int × (List Timer)) :=
  (Fin.get (fun s1 => (s1.2, s1.1)) (loopL laws_markTimerS_b1 0 (p0, p1) p0))
theorem c_laws_markTimerS (p0 : (List Timer)) (p1 : Int) : FnOk prog 87 [.tup [.one (.s true 3 (List.map Timer.cells p0))], .one (.v (.int .i64 p1))] ⟨.one (.v (.int .i64 (laws_markTimerS p0 p1).1)), [.one (.s true 3 (List.map Timer.cells ((laws_markTimerS p0 p1).2)))], [], false⟩ := by
  refine FnOk.introM (E := env) envOk wide func87 rfl (by kernel_rfl) rfl ?_
  have hg := laws_markTimerS.eq_1 p0 p1
  have hown : (∀ g : (Int × (List Timer)), AV.Own (AV.one (.v (.int .i64 g.1)))) ∧ (fun g : (Int × (List Timer)) => T.s true 3 (List.map Timer.cells (g.2))) = _ := ⟨fun g => .v _, rfl⟩
  refine seqE ?_
  refine seqE ?_
  refine seqE ?_
  refine loopLI (fun _ s => (s.1).length = (p0).length) hg (by simp) [0] (fun x1 => [(1, .one (.v (.int .i64 x1.s.2))), (5, .one (.v (.int .i64 ((x1.i : Nat) : Int))))]) (fun x1 => [.dead, .new ⟨3, false, List.map Timer.cells x1.s.1, 0⟩]) [none, some 1] ?_ (fun x1 => ?_)
  · exact ⟨rfl, ⟨rfl, rfl, ⟨rfl, rfl, rfl, rfl, by (first | rfl | omega | (dsimp only; omega) | (simp; done) | (simp; omega) | (simp [LstSt.init, LstSt.step, LstInv.init, CntSt.init, CntSt.step, CntInv.init, WhlSt.init, WhlSt.step]; done) | (simp [LstSt.init, LstSt.step, LstInv.init, CntSt.init, CntSt.step, CntInv.init, WhlSt.init, WhlSt.step]; omega))⟩, trivial⟩, ⟨⟨rfl, rfl, rfl⟩, trivial⟩, ⟨⟨rfl, rfl, rfl, rfl, by (first | rfl | omega | (dsimp only; omega) | (simp; done) | (simp; omega) | (simp [LstSt.init, LstSt.step, LstInv.init, CntSt.init, CntSt.step, CntInv.init, WhlSt.init, WhlSt.step]; done) | (simp [LstSt.init, LstSt.step, LstInv.init, CntSt.init, CntSt.step, CntInv.init, WhlSt.init, WhlSt.step]; omega))⟩, trivial⟩⟩
  have hI1 : (x1.s.1).length = (p0).length := by simpa using x1.hI
  refine seqE ?_
  refine seqE ?_
  refine lenE (k := (p0).length) (by simp) (fun hN1 => ?_)
  refine tstL (fun hi1 => ?_) (fun hi1 => ?_)
  · have hb1 := (x1.bdy hi1).trans (laws_markTimerS_b1.eq_1 ..)
    have hw1 := wrap_succ hi1 (by first | assumption | omega)
    refine seqE ?_
    refine seqE ?_
    refine andE (by (first | omega | (simp (disch := omega) only [wrap_small, mid_eq, List.length_map]; omega) | (simp; done) | (simp; omega) | (simp at *; omega) | (simp at *; done) | (simp_all; done) | (simp_all; omega))) ?_
    refine rowsE (Y := List.map Timer.cells (List.set x1.s.1 x1.i (Timer.mk x1.s.2 (x1.s.1[x1.i]?.getD default).Trace (x1.s.1[x1.i]?.getD default).At))) (by exact setMapE (by simp) (fun a ha => by first | rfl | (simp only [ha, Option.getD_some]; rfl) | (obtain ⟨_, rfl⟩ := List.getElem?_eq_some_iff.1 ha; rfl) | (simp only [Pol.cells_eq]; rfl) | (simp only [ha, Option.getD_some, Pol.cells_eq]; rfl))) ?_
    refine seqE ?_
    refine seqE ?_
    refine andE (by (first | omega | (simp (disch := omega) only [wrap_small, mid_eq, List.length_map]; omega) | (simp; done) | (simp; omega) | (simp at *; omega) | (simp at *; done) | (simp_all; done) | (simp_all; omega))) ?_
    refine rowsE (Y := List.map Timer.cells (List.set x1.s.1 x1.i (Timer.mk x1.s.2 (IntKind.i64.wrap (x1.s.2 + 1)) (x1.s.1[x1.i]?.getD default).At))) (by exact setMapS (by simp) (by first | rfl | (simp only [ha, Option.getD_some]; rfl) | (obtain ⟨_, rfl⟩ := List.getElem?_eq_some_iff.1 ha; rfl) | (simp only [Pol.cells_eq]; rfl) | (simp only [ha, Option.getD_some, Pol.cells_eq]; rfl))) ?_
    refine seqE ?_
    refine seqE ?_
    refine andE (by (first | omega | (simp (disch := omega) only [wrap_small, mid_eq, List.length_map]; omega) | (simp; done) | (simp; omega) | (simp at *; omega) | (simp at *; done) | (simp_all; done) | (simp_all; omega))) ?_
    refine rowsE (Y := List.map Timer.cells (List.set x1.s.1 x1.i (Timer.mk x1.s.2 (IntKind.i64.wrap (x1.s.2 + 1)) (IntKind.i64.wrap ((IntKind.i64.wrap (x1.s.2 + 1)) + 1))))) (by exact setMapS (by simp) (by first | rfl | (simp only [ha, Option.getD_some]; rfl) | (obtain ⟨_, rfl⟩ := List.getElem?_eq_some_iff.1 ha; rfl) | (simp only [Pol.cells_eq]; rfl) | (simp only [ha, Option.getD_some, Pol.cells_eq]; rfl))) ?_
    exact x1.goE hi1 hb1 (by simpa using x1.hI) [none, some 1] ⟨rfl, ⟨rfl, (eqInt hw1), ⟨rfl, rfl, rfl, rfl, by (first | rfl | omega | (dsimp only; omega) | (simp; done) | (simp; omega) | (simp [LstSt.init, LstSt.step, LstInv.init, CntSt.init, CntSt.step, CntInv.init, WhlSt.init, WhlSt.step]; done) | (simp [LstSt.init, LstSt.step, LstInv.init, CntSt.init, CntSt.step, CntInv.init, WhlSt.init, WhlSt.step]; omega))⟩, trivial⟩, ⟨⟨rfl, rfl, rfl⟩, trivial⟩, ⟨⟨rfl, rfl, rfl, rfl, by (first | rfl | omega | (dsimp only; omega) | (simp; done) | (simp; omega) | (simp [LstSt.init, LstSt.step, LstInv.init, CntSt.init, CntSt.step, CntInv.init, WhlSt.init, WhlSt.step]; done) | (simp [LstSt.init, LstSt.step, LstInv.init, CntSt.init, CntSt.step, CntInv.init, WhlSt.init, WhlSt.step]; omega))⟩, trivial⟩⟩
  have hg := finE hg (x1.fin hi1)
  refine seqE ?_
  exact leafM hown hg
def laws_markTimerSS_b1 (i1 : Nat) (s1 : (List (List Timer)) × Int) (a1 : (List Timer)) : Step ((List (List Timer)) × Int) (Int × (List (List Timer))) :=
  (.next ((List.set s1.1 i1 (laws_markTimerS (s1.1[i1]?.getD default) s1.2).2), (laws_markTimerS (s1.1[i1]?.getD default) s1.2).1))
def laws_markTimerSS (p0 : (List (List Timer))) (p1 : Int) : (Int × (List (List Timer))) :=
  (Fin.get (fun s1 => (s1.2, s1.1)) (loopL laws_markTimerSS_b1 0 (p0, p1) p0))
theorem c_laws_markTimerSS (p0 : (List (List Timer))) (p1 : Int) : FnOk prog 136 [.tup [.one (.s true 1 (List.map (cSl true 3 Timer.cells) p0))], .one (.v (.int .i64 p1))] ⟨.one (.v (.int .i64 (laws_markTimerSS p0 p1).1)), [.one (.s true 1 (List.map (cSl true 3 Timer.cells) ((laws_markTimerSS p0 p1).2)))], [], false⟩ := by
  refine FnOk.introM (E := env) envOk wide func136 rfl (by kernel_rfl) rfl ?_
  have hg := laws_markTimerSS.eq_1 p0 p1
  have hown : (∀ g : (Int × (List (List Timer))), AV.Own (AV.one (.v (.int .i64 g.1)))) ∧ (fun g : (Int × (List (List Timer))) => T.s true 1 (List.map (cSl true 3 Timer.cells) (g.2))) = _ := ⟨fun g => .v _, rfl⟩
  refine seqE ?_
  refine seqE ?_
  refine seqE ?_
  refine loopLI (fun _ s => (s.1).length = (p0).length) hg (by simp) [0] (fun x1 => [(1, .one (.v (.int .i64 x1.s.2))), (5, .one (.v (.int .i64 ((x1.i : Nat) : Int))))]) (fun x1 => [.dead, .new ⟨1, false, List.map (cSl true 3 Timer.cells) x1.s.1, 0⟩]) [none, some 1] ?_ (fun x1 => ?_)
  · exact ⟨rfl, ⟨rfl, rfl, ⟨rfl, rfl, rfl, rfl, by (first | rfl | omega | (dsimp only; omega) | (simp; done) | (simp; omega) | (simp [LstSt.init, LstSt.step, LstInv.init, CntSt.init, CntSt.step, CntInv.init, WhlSt.init, WhlSt.step]; done) | (simp [LstSt.init, LstSt.step, LstInv.init, CntSt.init, CntSt.step, CntInv.init, WhlSt.init, WhlSt.step]; omega))⟩, trivial⟩, ⟨⟨rfl, rfl, rfl⟩, trivial⟩, ⟨⟨rfl, rfl, rfl, rfl, by (first | rfl | omega | (dsimp only; omega) | (simp; done) | (simp; omega) | (simp [LstSt.init, LstSt.step, LstInv.init, CntSt.init, CntSt.step, CntInv.init, WhlSt.init, WhlSt.step]; done) | (simp [LstSt.init, LstSt.step, LstInv.init, CntSt.init, CntSt.step, CntInv.init, WhlSt.init, WhlSt.step]; omega))⟩, trivial⟩⟩
  have hI1 : (x1.s.1).length = (p0).length := by simpa using x1.hI
  refine seqE ?_
  refine seqE ?_
  refine lenE (k := (p0).length) (by simp) (fun hN1 => ?_)
  refine tstL (fun hi1 => ?_) (fun hi1 => ?_)
  · have hb1 := (x1.bdy hi1).trans (laws_markTimerSS_b1.eq_1 ..)
    have hw1 := wrap_succ hi1 (by first | assumption | omega)
    refine seqE ?_
    refine andE (by (first | omega | (simp (disch := omega) only [wrap_small, mid_eq, List.length_map]; omega) | (simp; done) | (simp; omega) | (simp at *; omega) | (simp at *; done) | (simp_all; done) | (simp_all; omega))) ?_
    refine rowGet (i := x1.i) (l := x1.s.1) (by first | rfl | exact Nat.zero_add _ | simp) (fun hq2 => ?_)
    refine .inr ⟨0, ?_⟩
    refine rowGet (i := x1.i) (l := x1.s.1) (by first | rfl | exact Nat.zero_add _ | simp) (fun hq3 => ?_)
    refine ⟨_, _, _, c_laws_markTimerS (x1.s.1[x1.i]?.getD default) x1.s.2, (FzAs.same _), .inl ?_⟩
    refine rowsE (Y := List.map (cSl true 3 Timer.cells) (List.set x1.s.1 x1.i (laws_markTimerS (x1.s.1[x1.i]?.getD default) x1.s.2).2)) (by exact setMapE (by simp) (fun a ha => by first | rfl | (simp only [ha, Option.getD_some]; rfl) | (obtain ⟨_, rfl⟩ := List.getElem?_eq_some_iff.1 ha; rfl) | (simp only [Pol.cells_eq]; rfl) | (simp only [ha, Option.getD_some, Pol.cells_eq]; rfl))) ?_
    refine litE (m := 3) rfl ?_
    exact x1.goE hi1 hb1 (by simpa using x1.hI) [none, some 1] ⟨rfl, ⟨rfl, (eqInt hw1), ⟨rfl, rfl, rfl, rfl, by (first | rfl | omega | (dsimp only; omega) | (simp; done) | (simp; omega) | (simp [LstSt.init, LstSt.step, LstInv.init, CntSt.init, CntSt.step, CntInv.init, WhlSt.init, WhlSt.step]; done) | (simp [LstSt.init, LstSt.step, LstInv.init, CntSt.init, CntSt.step, CntInv.init, WhlSt.init, WhlSt.step]; omega))⟩, trivial⟩, ⟨⟨rfl, rfl, rfl⟩, trivial⟩, ⟨⟨rfl, rfl, rfl, rfl, by (first | rfl | omega | (dsimp only; omega) | (simp; done) | (simp; omega) | (simp [LstSt.init, LstSt.step, LstInv.init, CntSt.init, CntSt.step, CntInv.init, WhlSt.init, WhlSt.step]; done) | (simp [LstSt.init, LstSt.step, LstInv.init, CntSt.init, CntSt.step, CntInv.init, WhlSt.init, WhlSt.step]; omega))⟩, trivial⟩⟩
  have hg := finE hg (x1.fin hi1)
  refine seqE ?_
  exact leafM hown hg
def laws_markWheel (p0 : Wheel) (p1 : Int) : (Int × Wheel) :=
  ((laws_markTimerS p0.Rest (laws_markTimerSS p0.Far (laws_markTimerSS p0.Near p1).1).1).1, (Wheel.mk p0.Now (laws_markTimerSS p0.Near p1).2 (laws_markTimerSS p0.Far (laws_markTimerSS p0.Near p1).1).2 (laws_markTimerS p0.Rest (laws_markTimerSS p0.Far (laws_markTimerSS p0.Near p1).1).1).2))
theorem c_laws_markWheel (p0 : Wheel) (p1 : Int) : FnOk prog 86 [.tup [.agg ((Wheel.cells true) p0)], .one (.v (.int .i64 p1))] ⟨.one (.v (.int .i64 (laws_markWheel p0 p1).1)), [.agg ((Wheel.cells true) (laws_markWheel p0 p1).2)], [], false⟩ := by
  refine FnOk.introG (E := env) envOk wide func86 rfl (by kernel_rfl) rfl ?_
  have hg := laws_markWheel.eq_1 p0 p1
  have hown : (∀ g : (Int × Wheel), AV.Own (AV.one (.v (.int .i64 g.1)))) ∧ (fun g : (Int × Wheel) => ((Wheel.cells true) g.2)) = _ := ⟨fun g => .v _, rfl⟩
  refine seqE ?_
  refine litE (m := 4) rfl ?_
  refine seqE ?_
  refine .inr ⟨0, _, _, _, c_laws_markTimerSS p0.Near p1, (FzAs.same _), .inl ?_⟩
  refine litE (m := 6) rfl ?_
  refine seqE ?_
  refine .inr ⟨0, _, _, _, c_laws_markTimerSS p0.Far (laws_markTimerSS p0.Near p1).1, (FzAs.same _), .inl ?_⟩
  refine litE (m := 7) rfl ?_
  refine seqE ?_
  refine .inr ⟨0, _, _, _, c_laws_markTimerS p0.Rest (laws_markTimerSS p0.Far (laws_markTimerSS p0.Near p1).1).1, (FzAs.same _), .inl ?_⟩
  refine litE (m := 8) rfl ?_
  refine seqE ?_
  exact leafG hown hg
def laws_markItemS_b1 (i1 : Nat) (s1 : (List Item) × Int) (a1 : Item) : Step ((List Item) × Int) (Int × (List Item)) :=
  (.next ((List.set s1.1 i1 (Item.mk s1.2 (Span.mk (IntKind.i64.wrap (s1.2 + 1)) (IntKind.i64.wrap ((IntKind.i64.wrap (s1.2 + 1)) + 1)) (IntKind.i64.wrap ((IntKind.i64.wrap ((IntKind.i64.wrap (s1.2 + 1)) + 1)) + 1)) (IntKind.i64.wrap ((IntKind.i64.wrap ((IntKind.i64.wrap ((IntKind.i64.wrap (s1.2 + 1)) + 1)) + 1)) + 1)) ((Int.tmod (IntKind.i64.wrap ((IntKind.i64.wrap ((IntKind.i64.wrap ((IntKind.i64.wrap ((IntKind.i64.wrap (s1.2 + 1)) + 1)) + 1)) + 1)) + 1)) 3) == 0) (laws_markAttrS (s1.1[i1]?.getD default).S.Attrs (IntKind.i64.wrap ((IntKind.i64.wrap ((IntKind.i64.wrap ((IntKind.i64.wrap ((IntKind.i64.wrap ((IntKind.i64.wrap (s1.2 + 1)) + 1)) + 1)) + 1)) + 1)) + 1))).2))), (laws_markAttrS (s1.1[i1]?.getD default).S.Attrs (IntKind.i64.wrap ((IntKind.i64.wrap ((IntKind.i64.wrap ((IntKind.i64.wrap ((IntKind.i64.wrap ((IntKind.i64.wrap (s1.2 + 1)) + 1)) + 1)) + 1)) + 1)) + 1))).1))
def laws_markItemS (p0 : (List Item)) (p1 : Int) : (Int × (List Item)) :=
  (Fin.get (fun s1 => (s1.2, s1.1)) (loopL laws_markItemS_b1 0 (p0, p1) p0))
theorem c_laws_markItemS (p0 : (List Item)) (p1 : Int) : FnOk prog 88 [.tup [.one (.s true 7 (List.map (Item.cells true) p0))], .one (.v (.int .i64 p1))] ⟨.one (.v (.int .i64 (laws_markItemS p0 p1).1)), [.one (.s true 7 (List.map (Item.cells true) ((laws_markItemS p0 p1).2)))], [], false⟩ := by
  refine FnOk.introM (E := env) envOk wide func88 rfl (by kernel_rfl) rfl ?_
  have hg := laws_markItemS.eq_1 p0 p1
  have hown : (∀ g : (Int × (List Item)), AV.Own (AV.one (.v (.int .i64 g.1)))) ∧ (fun g : (Int × (List Item)) => T.s true 7 (List.map (Item.cells true) (g.2))) = _ := ⟨fun g => .v _, rfl⟩
  refine seqE ?_
  refine seqE ?_
  refine seqE ?_
  refine loopLI (fun _ s => (s.1).length = (p0).length) hg (by simp) [0] (fun x1 => [(1, .one (.v (.int .i64 x1.s.2))), (5, .one (.v (.int .i64 ((x1.i : Nat) : Int))))]) (fun x1 => [.dead, .new ⟨7, false, List.map (Item.cells true) x1.s.1, 0⟩]) [none, some 1] ?_ (fun x1 => ?_)
  · exact ⟨rfl, ⟨rfl, rfl, ⟨rfl, rfl, rfl, rfl, by (first | rfl | omega | (dsimp only; omega) | (simp; done) | (simp; omega) | (simp [LstSt.init, LstSt.step, LstInv.init, CntSt.init, CntSt.step, CntInv.init, WhlSt.init, WhlSt.step]; done) | (simp [LstSt.init, LstSt.step, LstInv.init, CntSt.init, CntSt.step, CntInv.init, WhlSt.init, WhlSt.step]; omega))⟩, trivial⟩, ⟨⟨rfl, rfl, rfl⟩, trivial⟩, ⟨⟨rfl, rfl, rfl, rfl, by (first | rfl | omega | (dsimp only; omega) | (simp; done) | (simp; omega) | (simp [LstSt.init, LstSt.step, LstInv.init, CntSt.init, CntSt.step, CntInv.init, WhlSt.init, WhlSt.step]; done) | (simp [LstSt.init, LstSt.step, LstInv.init, CntSt.init, CntSt.step, CntInv.init, WhlSt.init, WhlSt.step]; omega))⟩, trivial⟩⟩
  have hI1 : (x1.s.1).length = (p0).length := by simpa using x1.hI
  refine seqE ?_
  refine seqE ?_
  refine lenE (k := (p0).length) (by simp) (fun hN1 => ?_)
  refine tstL (fun hi1 => ?_) (fun hi1 => ?_)
  · have hb1 := (x1.bdy hi1).trans (laws_markItemS_b1.eq_1 ..)
    have hw1 := wrap_succ hi1 (by first | assumption | omega)
    refine seqE ?_
    refine seqE ?_
    refine andE (by (first | omega | (simp (disch := omega) only [wrap_small, mid_eq, List.length_map]; omega) | (simp; done) | (simp; omega) | (simp at *; omega) | (simp at *; done) | (simp_all; done) | (simp_all; omega))) ?_
    refine rowsE (Y := List.map (Item.cells true) (List.set x1.s.1 x1.i (Item.mk x1.s.2 (x1.s.1[x1.i]?.getD default).S))) (by exact setMapE (by simp) (fun a ha => by first | rfl | (simp only [ha, Option.getD_some]; rfl) | (obtain ⟨_, rfl⟩ := List.getElem?_eq_some_iff.1 ha; rfl) | (simp only [Pol.cells_eq]; rfl) | (simp only [ha, Option.getD_some, Pol.cells_eq]; rfl))) ?_
    refine seqE ?_
    refine seqE ?_
    refine andE (by (first | omega | (simp (disch := omega) only [wrap_small, mid_eq, List.length_map]; omega) | (simp; done) | (simp; omega) | (simp at *; omega) | (simp at *; done) | (simp_all; done) | (simp_all; omega))) ?_
    refine rowsE (Y := List.map (Item.cells true) (List.set x1.s.1 x1.i (Item.mk x1.s.2 (Span.mk (IntKind.i64.wrap (x1.s.2 + 1)) (x1.s.1[x1.i]?.getD default).S.Id (x1.s.1[x1.i]?.getD default).S.Start (x1.s.1[x1.i]?.getD default).S.End (x1.s.1[x1.i]?.getD default).S.Err (x1.s.1[x1.i]?.getD default).S.Attrs)))) (by exact setMapS (by simp) (by first | rfl | (simp only [ha, Option.getD_some]; rfl) | (obtain ⟨_, rfl⟩ := List.getElem?_eq_some_iff.1 ha; rfl) | (simp only [Pol.cells_eq]; rfl) | (simp only [ha, Option.getD_some, Pol.cells_eq]; rfl))) ?_
    refine seqE ?_
    refine seqE ?_
    refine andE (by (first | omega | (simp (disch := omega) only [wrap_small, mid_eq, List.length_map]; omega) | (simp; done) | (simp; omega) | (simp at *; omega) | (simp at *; done) | (simp_all; done) | (simp_all; omega))) ?_
    refine rowsE (Y := List.map (Item.cells true) (List.set x1.s.1 x1.i (Item.mk x1.s.2 (Span.mk (IntKind.i64.wrap (x1.s.2 + 1)) (IntKind.i64.wrap ((IntKind.i64.wrap (x1.s.2 + 1)) + 1)) (x1.s.1[x1.i]?.getD default).S.Start (x1.s.1[x1.i]?.getD default).S.End (x1.s.1[x1.i]?.getD default).S.Err (x1.s.1[x1.i]?.getD default).S.Attrs)))) (by exact setMapS (by simp) (by first | rfl | (simp only [ha, Option.getD_some]; rfl) | (obtain ⟨_, rfl⟩ := List.getElem?_eq_some_iff.1 ha; rfl) | (simp only [Pol.cells_eq]; rfl) | (simp only [ha, Option.getD_some, Pol.cells_eq]; rfl))) ?_
    refine seqE ?_
    refine seqE ?_
    refine andE (by (first | omega | (simp (disch := omega) only [wrap_small, mid_eq, List.length_map]; omega) | (simp; done) | (simp; omega) | (simp at *; omega) | (simp at *; done) | (simp_all; done) | (simp_all; omega))) ?_
    refine rowsE (Y := List.map (Item.cells true) (List.set x1.s.1 x1.i (Item.mk x1.s.2 (Span.mk (IntKind.i64.wrap (x1.s.2 + 1)) (IntKind.i64.wrap ((IntKind.i64.wrap (x1.s.2 + 1)) + 1)) (IntKind.i64.wrap ((IntKind.i64.wrap ((IntKind.i64.wrap (x1.s.2 + 1)) + 1)) + 1)) (x1.s.1[x1.i]?.getD default).S.End (x1.s.1[x1.i]?.getD default).S.Err (x1.s.1[x1.i]?.getD default).S.Attrs)))) (by exact setMapS (by simp) (by first | rfl | (simp only [ha, Option.getD_some]; rfl) | (obtain ⟨_, rfl⟩ := List.getElem?_eq_some_iff.1 ha; rfl) | (simp only [Pol.cells_eq]; rfl) | (simp only [ha, Option.getD_some, Pol.cells_eq]; rfl))) ?_
    refine seqE ?_
    refine seqE ?_
    refine andE (by (first | omega | (simp (disch := omega) only [wrap_small, mid_eq, List.length_map]; omega) | (simp; done) | (simp; omega) | (simp at *; omega) | (simp at *; done) | (simp_all; done) | (simp_all; omega))) ?_
    refine rowsE (Y := List.map (Item.cells true) (List.set x1.s.1 x1.i (Item.mk x1.s.2 (Span.mk (IntKind.i64.wrap (x1.s.2 + 1)) (IntKind.i64.wrap ((IntKind.i64.wrap (x1.s.2 + 1)) + 1)) (IntKind.i64.wrap ((IntKind.i64.wrap ((IntKind.i64.wrap (x1.s.2 + 1)) + 1)) + 1)) (IntKind.i64.wrap ((IntKind.i64.wrap ((IntKind.i64.wrap ((IntKind.i64.wrap (x1.s.2 + 1)) + 1)) + 1)) + 1)) (x1.s.1[x1.i]?.getD default).S.Err (x1.s.1[x1.i]?.getD default).S.Attrs)))) (by exact setMapS (by simp) (by first | rfl | (simp only [ha, Option.getD_some]; rfl) | (obtain ⟨_, rfl⟩ := List.getElem?_eq_some_iff.1 ha; rfl) | (simp only [Pol.cells_eq]; rfl) | (simp only [ha, Option.getD_some, Pol.cells_eq]; rfl))) ?_
    refine seqE ?_
    refine seqE ?_
    refine andE (by (first | omega | (simp (disch := omega) only [wrap_small, mid_eq, List.length_map]; omega) | (simp; done) | (simp; omega) | (simp at *; omega) | (simp at *; done) | (simp_all; done) | (simp_all; omega))) ?_
    refine andE (by (first | omega | (simp (disch := omega) only [wrap_small, mid_eq, List.length_map]; omega) | (simp; done) | (simp; omega) | (simp at *; omega) | (simp at *; done) | (simp_all; done) | (simp_all; omega))) ?_
    refine rowsE (Y := List.map (Item.cells true) (List.set x1.s.1 x1.i (Item.mk x1.s.2 (Span.mk (IntKind.i64.wrap (x1.s.2 + 1)) (IntKind.i64.wrap ((IntKind.i64.wrap (x1.s.2 + 1)) + 1)) (IntKind.i64.wrap ((IntKind.i64.wrap ((IntKind.i64.wrap (x1.s.2 + 1)) + 1)) + 1)) (IntKind.i64.wrap ((IntKind.i64.wrap ((IntKind.i64.wrap ((IntKind.i64.wrap (x1.s.2 + 1)) + 1)) + 1)) + 1)) ((Int.tmod (IntKind.i64.wrap ((IntKind.i64.wrap ((IntKind.i64.wrap ((IntKind.i64.wrap ((IntKind.i64.wrap (x1.s.2 + 1)) + 1)) + 1)) + 1)) + 1)) 3) == 0) (x1.s.1[x1.i]?.getD default).S.Attrs)))) (by exact setMapS (by simp) (by first | rfl | (simp only [ha, Option.getD_some]; rfl) | (obtain ⟨_, rfl⟩ := List.getElem?_eq_some_iff.1 ha; rfl) | (simp only [Pol.cells_eq]; rfl) | (simp only [ha, Option.getD_some, Pol.cells_eq]; rfl))) ?_
    refine seqE ?_
    refine andE (by (first | omega | (simp (disch := omega) only [wrap_small, mid_eq, List.length_map]; omega) | (simp; done) | (simp; omega) | (simp at *; omega) | (simp at *; done) | (simp_all; done) | (simp_all; omega))) ?_
    refine rowSetE (i := x1.i) (l := x1.s.1) (x := (Item.mk x1.s.2 (Span.mk (IntKind.i64.wrap (x1.s.2 + 1)) (IntKind.i64.wrap ((IntKind.i64.wrap (x1.s.2 + 1)) + 1)) (IntKind.i64.wrap ((IntKind.i64.wrap ((IntKind.i64.wrap (x1.s.2 + 1)) + 1)) + 1)) (IntKind.i64.wrap ((IntKind.i64.wrap ((IntKind.i64.wrap ((IntKind.i64.wrap (x1.s.2 + 1)) + 1)) + 1)) + 1)) ((Int.tmod (IntKind.i64.wrap ((IntKind.i64.wrap ((IntKind.i64.wrap ((IntKind.i64.wrap ((IntKind.i64.wrap (x1.s.2 + 1)) + 1)) + 1)) + 1)) + 1)) 3) == 0) (x1.s.1[x1.i]?.getD default).S.Attrs))) (by first | rfl | exact Nat.zero_add _ | simp) (fun _ => ?_)
    refine .inr ⟨0, ?_⟩
    refine rowSetE (i := x1.i) (l := x1.s.1) (x := (Item.mk x1.s.2 (Span.mk (IntKind.i64.wrap (x1.s.2 + 1)) (IntKind.i64.wrap ((IntKind.i64.wrap (x1.s.2 + 1)) + 1)) (IntKind.i64.wrap ((IntKind.i64.wrap ((IntKind.i64.wrap (x1.s.2 + 1)) + 1)) + 1)) (IntKind.i64.wrap ((IntKind.i64.wrap ((IntKind.i64.wrap ((IntKind.i64.wrap (x1.s.2 + 1)) + 1)) + 1)) + 1)) ((Int.tmod (IntKind.i64.wrap ((IntKind.i64.wrap ((IntKind.i64.wrap ((IntKind.i64.wrap ((IntKind.i64.wrap (x1.s.2 + 1)) + 1)) + 1)) + 1)) + 1)) 3) == 0) (x1.s.1[x1.i]?.getD default).S.Attrs))) (by first | rfl | exact Nat.zero_add _ | simp) (fun _ => ?_)
    refine ⟨_, _, _, c_laws_markAttrS (x1.s.1[x1.i]?.getD default).S.Attrs (IntKind.i64.wrap ((IntKind.i64.wrap ((IntKind.i64.wrap ((IntKind.i64.wrap ((IntKind.i64.wrap ((IntKind.i64.wrap (x1.s.2 + 1)) + 1)) + 1)) + 1)) + 1)) + 1)), (FzAs.same _), .inl ?_⟩
    refine rowsE (Y := List.map (Item.cells true) (List.set x1.s.1 x1.i (Item.mk x1.s.2 (Span.mk (IntKind.i64.wrap (x1.s.2 + 1)) (IntKind.i64.wrap ((IntKind.i64.wrap (x1.s.2 + 1)) + 1)) (IntKind.i64.wrap ((IntKind.i64.wrap ((IntKind.i64.wrap (x1.s.2 + 1)) + 1)) + 1)) (IntKind.i64.wrap ((IntKind.i64.wrap ((IntKind.i64.wrap ((IntKind.i64.wrap (x1.s.2 + 1)) + 1)) + 1)) + 1)) ((Int.tmod (IntKind.i64.wrap ((IntKind.i64.wrap ((IntKind.i64.wrap ((IntKind.i64.wrap ((IntKind.i64.wrap (x1.s.2 + 1)) + 1)) + 1)) + 1)) + 1)) 3) == 0) (laws_markAttrS (x1.s.1[x1.i]?.getD default).S.Attrs (IntKind.i64.wrap ((IntKind.i64.wrap ((IntKind.i64.wrap ((IntKind.i64.wrap ((IntKind.i64.wrap ((IntKind.i64.wrap (x1.s.2 + 1)) + 1)) + 1)) + 1)) + 1)) + 1))).2)))) (by exact setMapS (by simp) (by first | rfl | (simp only [ha, Option.getD_some]; rfl) | (obtain ⟨_, rfl⟩ := List.getElem?_eq_some_iff.1 ha; rfl) | (simp only [Pol.cells_eq]; rfl) | (simp only [ha, Option.getD_some, Pol.cells_eq]; rfl))) ?_
    refine litE (m := 3) rfl ?_
    exact x1.goE hi1 hb1 (by simpa using x1.hI) [none, some 1] ⟨rfl, ⟨rfl, (eqInt hw1), ⟨rfl, rfl, rfl, rfl, by (first | rfl | omega | (dsimp only; omega) | (simp; done) | (simp; omega) | (simp [LstSt.init, LstSt.step, LstInv.init, CntSt.init, CntSt.step, CntInv.init, WhlSt.init, WhlSt.step]; done) | (simp [LstSt.init, LstSt.step, LstInv.init, CntSt.init, CntSt.step, CntInv.init, WhlSt.init, WhlSt.step]; omega))⟩, trivial⟩, ⟨⟨rfl, rfl, rfl⟩, trivial⟩, ⟨⟨rfl, rfl, rfl, rfl, by (first | rfl | omega | (dsimp only; omega) | (simp; done) | (simp; omega) | (simp [LstSt.init, LstSt.step, LstInv.init, CntSt.init, CntSt.step, CntInv.init, WhlSt.init, WhlSt.step]; done) | (simp [LstSt.init, LstSt.step, LstInv.init, CntSt.init, CntSt.step, CntInv.init, WhlSt.init, WhlSt.step]; omega))⟩, trivial⟩⟩
  have hg := finE hg (x1.fin hi1)
  refine seqE ?_
  exact leafM hown hg
def laws_markTaskS_b1 (i1 : Nat) (s1 : (List Task) × Int) (a1 : Task) : Step ((List Task) × Int) (Int × (List Task)) :=
  (.next ((List.set s1.1 i1 (Task.mk s1.2 (IntKind.i64.wrap (s1.2 + 1)) (Span.mk (IntKind.i64.wrap ((IntKind.i64.wrap (s1.2 + 1)) + 1)) (IntKind.i64.wrap ((IntKind.i64.wrap ((IntKind.i64.wrap (s1.2 + 1)) + 1)) + 1)) (IntKind.i64.wrap ((IntKind.i64.wrap ((IntKind.i64.wrap ((IntKind.i64.wrap (s1.2 + 1)) + 1)) + 1)) + 1)) (IntKind.i64.wrap ((IntKind.i64.wrap ((IntKind.i64.wrap ((IntKind.i64.wrap ((IntKind.i64.wrap (s1.2 + 1)) + 1)) + 1)) + 1)) + 1)) ((Int.tmod (IntKind.i64.wrap ((IntKind.i64.wrap ((IntKind.i64.wrap ((IntKind.i64.wrap ((IntKind.i64.wrap ((IntKind.i64.wrap (s1.2 + 1)) + 1)) + 1)) + 1)) + 1)) + 1)) 3) == 0) (laws_markAttrS (s1.1[i1]?.getD default).S.Attrs (IntKind.i64.wrap ((IntKind.i64.wrap ((IntKind.i64.wrap ((IntKind.i64.wrap ((IntKind.i64.wrap ((IntKind.i64.wrap ((IntKind.i64.wrap (s1.2 + 1)) + 1)) + 1)) + 1)) + 1)) + 1)) + 1))).2) (laws_markAttrS (s1.1[i1]?.getD default).S.Attrs (IntKind.i64.wrap ((IntKind.i64.wrap ((IntKind.i64.wrap ((IntKind.i64.wrap ((IntKind.i64.wrap ((IntKind.i64.wrap ((IntKind.i64.wrap (s1.2 + 1)) + 1)) + 1)) + 1)) + 1)) + 1)) + 1))).1 (IntKind.i64.wrap ((laws_markAttrS (s1.1[i1]?.getD default).S.Attrs (IntKind.i64.wrap ((IntKind.i64.wrap ((IntKind.i64.wrap ((IntKind.i64.wrap ((IntKind.i64.wrap ((IntKind.i64.wrap ((IntKind.i64.wrap (s1.2 + 1)) + 1)) + 1)) + 1)) + 1)) + 1)) + 1))).1 + 1)) (laws_markItemS (s1.1[i1]?.getD default).Hand (IntKind.i64.wrap ((IntKind.i64.wrap ((laws_markAttrS (s1.1[i1]?.getD default).S.Attrs (IntKind.i64.wrap ((IntKind.i64.wrap ((IntKind.i64.wrap ((IntKind.i64.wrap ((IntKind.i64.wrap ((IntKind.i64.wrap ((IntKind.i64.wrap (s1.2 + 1)) + 1)) + 1)) + 1)) + 1)) + 1)) + 1))).1 + 1)) + 1))).2 (laws_markItemS (s1.1[i1]?.getD default).Hand (IntKind.i64.wrap ((IntKind.i64.wrap ((laws_markAttrS (s1.1[i1]?.getD default).S.Attrs (IntKind.i64.wrap ((IntKind.i64.wrap ((IntKind.i64.wrap ((IntKind.i64.wrap ((IntKind.i64.wrap ((IntKind.i64.wrap ((IntKind.i64.wrap (s1.2 + 1)) + 1)) + 1)) + 1)) + 1)) + 1)) + 1))).1 + 1)) + 1))).1)), (IntKind.i64.wrap ((laws_markItemS (s1.1[i1]?.getD default).Hand (IntKind.i64.wrap ((IntKind.i64.wrap ((laws_markAttrS (s1.1[i1]?.getD default).S.Attrs (IntKind.i64.wrap ((IntKind.i64.wrap ((IntKind.i64.wrap ((IntKind.i64.wrap ((IntKind.i64.wrap ((IntKind.i64.wrap ((IntKind.i64.wrap (s1.2 + 1)) + 1)) + 1)) + 1)) + 1)) + 1)) + 1))).1 + 1)) + 1))).1 + 1))))
def laws_markTaskS (p0 : (List Task)) (p1 : Int) : (Int × (List Task)) :=
  (Fin.get (fun s1 => (s1.2, s1.1)) (loopL laws_markTaskS_b1 0 (p0, p1) p0))
theorem c_laws_markTaskS (p0 : (List Task)) (p1 : Int) : FnOk prog 89 [.tup [.one (.s true 12 (List.map (Task.cells true) p0))], .one (.v (.int .i64 p1))] ⟨.one (.v (.int .i64 (laws_markTaskS p0 p1).1)), [.one (.s true 12 (List.map (Task.cells true) ((laws_markTaskS p0 p1).2)))], [], false⟩ := by
  refine FnOk.introM (E := env) envOk wide func89 rfl (by kernel_rfl) rfl ?_
  have hg := laws_markTaskS.eq_1 p0 p1
  have hown : (∀ g : (Int × (List Task)), AV.Own (AV.one (.v (.int .i64 g.1)))) ∧ (fun g : (Int × (List Task)) => T.s true 12 (List.map (Task.cells true) (g.2))) = _ := ⟨fun g => .v _, rfl⟩
  refine seqE ?_
  refine seqE ?_
  refine seqE ?_
  refine loopLI (fun _ s => (s.1).length = (p0).length) hg (by simp) [0] (fun x1 => [(1, .one (.v (.int .i64 x1.s.2))), (5, .one (.v (.int .i64 ((x1.i : Nat) : Int))))]) (fun x1 => [.dead, .new ⟨12, false, List.map (Task.cells true) x1.s.1, 0⟩]) [none, some 1] ?_ (fun x1 => ?_)
  · exact ⟨rfl, ⟨rfl, rfl, ⟨rfl, rfl, rfl, rfl, by (first | rfl | omega | (dsimp only; omega) | (simp; done) | (simp; omega) | (simp [LstSt.init, LstSt.step, LstInv.init, CntSt.init, CntSt.step, CntInv.init, WhlSt.init, WhlSt.step]; done) | (simp [LstSt.init, LstSt.step, LstInv.init, CntSt.init, CntSt.step, CntInv.init, WhlSt.init, WhlSt.step]; omega))⟩, trivial⟩, ⟨⟨rfl, rfl, rfl⟩, trivial⟩, ⟨⟨rfl, rfl, rfl, rfl, by (first | rfl | omega | (dsimp only; omega) | (simp; done) | (simp; omega) | (simp [LstSt.init, LstSt.step, LstInv.init, CntSt.init, CntSt.step, CntInv.init, WhlSt.init, WhlSt.step]; done) | (simp [LstSt.init, LstSt.step, LstInv.init, CntSt.init, CntSt.step, CntInv.init, WhlSt.init, WhlSt.step]; omega))⟩, trivial⟩⟩
  have hI1 : (x1.s.1).length = (p0).length := by simpa using x1.hI
  refine seqE ?_
  refine seqE ?_
  refine lenE (k := (p0).length) (by simp) (fun hN1 => ?_)
  refine tstL (fun hi1 => ?_) (fun hi1 => ?_)
  · have hb1 := (x1.bdy hi1).trans (laws_markTaskS_b1.eq_1 ..)
    have hw1 := wrap_succ hi1 (by first | assumption | omega)
    refine seqE ?_
    refine seqE ?_
    refine andE (by (first | omega | (simp (disch := omega) only [wrap_small, mid_eq, List.length_map]; omega) | (simp; done) | (simp; omega) | (simp at *; omega) | (simp at *; done) | (simp_all; done) | (simp_all; omega))) ?_
    refine rowsE (Y := List.map (Task.cells true) (List.set x1.s.1 x1.i (Task.mk x1.s.2 (x1.s.1[x1.i]?.getD default).Pc (x1.s.1[x1.i]?.getD default).S (x1.s.1[x1.i]?.getD default).Trace (x1.s.1[x1.i]?.getD default).Stamp (x1.s.1[x1.i]?.getD default).Hand (x1.s.1[x1.i]?.getD default).H))) (by exact setMapE (by simp) (fun a ha => by first | rfl | (simp only [ha, Option.getD_some]; rfl) | (obtain ⟨_, rfl⟩ := List.getElem?_eq_some_iff.1 ha; rfl) | (simp only [Pol.cells_eq]; rfl) | (simp only [ha, Option.getD_some, Pol.cells_eq]; rfl))) ?_
    refine seqE ?_
    refine seqE ?_
    refine andE (by (first | omega | (simp (disch := omega) only [wrap_small, mid_eq, List.length_map]; omega) | (simp; done) | (simp; omega) | (simp at *; omega) | (simp at *; done) | (simp_all; done) | (simp_all; omega))) ?_
    refine rowsE (Y := List.map (Task.cells true) (List.set x1.s.1 x1.i (Task.mk x1.s.2 (IntKind.i64.wrap (x1.s.2 + 1)) (x1.s.1[x1.i]?.getD default).S (x1.s.1[x1.i]?.getD default).Trace (x1.s.1[x1.i]?.getD default).Stamp (x1.s.1[x1.i]?.getD default).Hand (x1.s.1[x1.i]?.getD default).H))) (by exact setMapS (by simp) (by first | rfl | (simp only [ha, Option.getD_some]; rfl) | (obtain ⟨_, rfl⟩ := List.getElem?_eq_some_iff.1 ha; rfl) | (simp only [Pol.cells_eq]; rfl) | (simp only [ha, Option.getD_some, Pol.cells_eq]; rfl))) ?_
    refine seqE ?_
    refine seqE ?_
    refine andE (by (first | omega | (simp (disch := omega) only [wrap_small, mid_eq, List.length_map]; omega) | (simp; done) | (simp; omega) | (simp at *; omega) | (simp at *; done) | (simp_all; done) | (simp_all; omega))) ?_
    refine rowsE (Y := List.map (Task.cells true) (List.set x1.s.1 x1.i (Task.mk x1.s.2 (IntKind.i64.wrap (x1.s.2 + 1)) (Span.mk (IntKind.i64.wrap ((IntKind.i64.wrap (x1.s.2 + 1)) + 1)) (x1.s.1[x1.i]?.getD default).S.Id (x1.s.1[x1.i]?.getD default).S.Start (x1.s.1[x1.i]?.getD default).S.End (x1.s.1[x1.i]?.getD default).S.Err (x1.s.1[x1.i]?.getD default).S.Attrs) (x1.s.1[x1.i]?.getD default).Trace (x1.s.1[x1.i]?.getD default).Stamp (x1.s.1[x1.i]?.getD default).Hand (x1.s.1[x1.i]?.getD default).H))) (by exact setMapS (by simp) (by first | rfl | (simp only [ha, Option.getD_some]; rfl) | (obtain ⟨_, rfl⟩ := List.getElem?_eq_some_iff.1 ha; rfl) | (simp only [Pol.cells_eq]; rfl) | (simp only [ha, Option.getD_some, Pol.cells_eq]; rfl))) ?_
    refine seqE ?_
    refine seqE ?_
    refine andE (by (first | omega | (simp (disch := omega) only [wrap_small, mid_eq, List.length_map]; omega) | (simp; done) | (simp; omega) | (simp at *; omega) | (simp at *; done) | (simp_all; done) | (simp_all; omega))) ?_
    refine rowsE (Y := List.map (Task.cells true) (List.set x1.s.1 x1.i (Task.mk x1.s.2 (IntKind.i64.wrap (x1.s.2 + 1)) (Span.mk (IntKind.i64.wrap ((IntKind.i64.wrap (x1.s.2 + 1)) + 1)) (IntKind.i64.wrap ((IntKind.i64.wrap ((IntKind.i64.wrap (x1.s.2 + 1)) + 1)) + 1)) (x1.s.1[x1.i]?.getD default).S.Start (x1.s.1[x1.i]?.getD default).S.End (x1.s.1[x1.i]?.getD default).S.Err (x1.s.1[x1.i]?.getD default).S.Attrs) (x1.s.1[x1.i]?.getD default).Trace (x1.s.1[x1.i]?.getD default).Stamp (x1.s.1[x1.i]?.getD default).Hand (x1.s.1[x1.i]?.getD default).H))) (by exact setMapS (by simp) (by first | rfl | (simp only [ha, Option.getD_some]; rfl) | (obtain ⟨_, rfl⟩ := List.getElem?_eq_some_iff.1 ha; rfl) | (simp only [Pol.cells_eq]; rfl) | (simp only [ha, Option.getD_some, Pol.cells_eq]; rfl))) ?_
    refine seqE ?_
    refine seqE ?_
    refine andE (by (first | omega | (simp (disch := omega) only [wrap_small, mid_eq, List.length_map]; omega) | (simp; done) | (simp; omega) | (simp at *; omega) | (simp at *; done) | (simp_all; done) | (simp_all; omega))) ?_
    refine rowsE (Y := List.map (Task.cells true) (List.set x1.s.1 x1.i (Task.mk x1.s.2 (IntKind.i64.wrap (x1.s.2 + 1)) (Span.mk (IntKind.i64.wrap ((IntKind.i64.wrap (x1.s.2 + 1)) + 1)) (IntKind.i64.wrap ((IntKind.i64.wrap ((IntKind.i64.wrap (x1.s.2 + 1)) + 1)) + 1)) (IntKind.i64.wrap ((IntKind.i64.wrap ((IntKind.i64.wrap ((IntKind.i64.wrap (x1.s.2 + 1)) + 1)) + 1)) + 1)) (x1.s.1[x1.i]?.getD default).S.End (x1.s.1[x1.i]?.getD default).S.Err (x1.s.1[x1.i]?.getD default).S.Attrs) (x1.s.1[x1.i]?.getD default).Trace (x1.s.1[x1.i]?.getD default).Stamp (x1.s.1[x1.i]?.getD default).Hand (x1.s.1[x1.i]?.getD default).H))) (by exact setMapS (by simp) (by first | rfl | (simp only [ha, Option.getD_some]; rfl) | (obtain ⟨_, rfl⟩ := List.getElem?_eq_some_iff.1 ha; rfl) | (simp only [Pol.cells_eq]; rfl) | (simp only [ha, Option.getD_some, Pol.cells_eq]; rfl))) ?_
    refine seqE ?_
    refine seqE ?_
    refine andE (by (first | omega | (simp (disch := omega) only [wrap_small, mid_eq, List.length_map]; omega) | (simp; done) | (simp; omega) | (simp at *; omega) | (simp at *; done) | (simp_all; done) | (simp_all; omega))) ?_
    refine rowsE (Y := List.map (Task.cells true) (List.set x1.s.1 x1.i (Task.mk x1.s.2 (IntKind.i64.wrap (x1.s.2 + 1)) (Span.mk (IntKind.i64.wrap ((IntKind.i64.wrap (x1.s.2 + 1)) + 1)) (IntKind.i64.wrap ((IntKind.i64.wrap ((IntKind.i64.wrap (x1.s.2 + 1)) + 1)) + 1)) (IntKind.i64.wrap ((IntKind.i64.wrap ((IntKind.i64.wrap ((IntKind.i64.wrap (x1.s.2 + 1)) + 1)) + 1)) + 1)) (IntKind.i64.wrap ((IntKind.i64.wrap ((IntKind.i64.wrap ((IntKind.i64.wrap ((IntKind.i64.wrap (x1.s.2 + 1)) + 1)) + 1)) + 1)) + 1)) (x1.s.1[x1.i]?.getD default).S.Err (x1.s.1[x1.i]?.getD default).S.Attrs) (x1.s.1[x1.i]?.getD default).Trace (x1.s.1[x1.i]?.getD default).Stamp (x1.s.1[x1.i]?.getD default).Hand (x1.s.1[x1.i]?.getD default).H))) (by exact setMapS (by simp) (by first | rfl | (simp only [ha, Option.getD_some]; rfl) | (obtain ⟨_, rfl⟩ := List.getElem?_eq_some_iff.1 ha; rfl) | (simp only [Pol.cells_eq]; rfl) | (simp only [ha, Option.getD_some, Pol.cells_eq]; rfl))) ?_
    refine seqE ?_
    refine seqE ?_
    refine andE (by (first | omega | (simp (disch := omega) only [wrap_small, mid_eq, List.length_map]; omega) | (simp; done) | (simp; omega) | (simp at *; omega) | (simp at *; done) | (simp_all; done) | (simp_all; omega))) ?_
    refine andE (by (first | omega | (simp (disch := omega) only [wrap_small, mid_eq, List.length_map]; omega) | (simp; done) | (simp; omega) | (simp at *; omega) | (simp at *; done) | (simp_all; done) | (simp_all; omega))) ?_
    refine rowsE (Y := List.map (Task.cells true) (List.set x1.s.1 x1.i (Task.mk x1.s.2 (IntKind.i64.wrap (x1.s.2 + 1)) (Span.mk (IntKind.i64.wrap ((IntKind.i64.wrap (x1.s.2 + 1)) + 1)) (IntKind.i64.wrap ((IntKind.i64.wrap ((IntKind.i64.wrap (x1.s.2 + 1)) + 1)) + 1)) (IntKind.i64.wrap ((IntKind.i64.wrap ((IntKind.i64.wrap ((IntKind.i64.wrap (x1.s.2 + 1)) + 1)) + 1)) + 1)) (IntKind.i64.wrap ((IntKind.i64.wrap ((IntKind.i64.wrap ((IntKind.i64.wrap ((IntKind.i64.wrap (x1.s.2 + 1)) + 1)) + 1)) + 1)) + 1)) ((Int.tmod (IntKind.i64.wrap ((IntKind.i64.wrap ((IntKind.i64.wrap ((IntKind.i64.wrap ((IntKind.i64.wrap ((IntKind.i64.wrap (x1.s.2 + 1)) + 1)) + 1)) + 1)) + 1)) + 1)) 3) == 0) (x1.s.1[x1.i]?.getD default).S.Attrs) (x1.s.1[x1.i]?.getD default).Trace (x1.s.1[x1.i]?.getD default).Stamp (x1.s.1[x1.i]?.getD default).Hand (x1.s.1[x1.i]?.getD default).H))) (by exact setMapS (by simp) (by first | rfl | (simp only [ha, Option.getD_some]; rfl) | (obtain ⟨_, rfl⟩ := List.getElem?_eq_some_iff.1 ha; rfl) | (simp only [Pol.cells_eq]; rfl) | (simp only [ha, Option.getD_some, Pol.cells_eq]; rfl))) ?_
    refine seqE ?_
    refine seqE ?_
    refine andE (by (first | omega | (simp (disch := omega) only [wrap_small, mid_eq, List.length_map]; omega) | (simp; done) | (simp; omega) | (simp at *; omega) | (simp at *; done) | (simp_all; done) | (simp_all; omega))) ?_
    refine rowSetE (i := x1.i) (l := x1.s.1) (x := (Task.mk x1.s.2 (IntKind.i64.wrap (x1.s.2 + 1)) (Span.mk (IntKind.i64.wrap ((IntKind.i64.wrap (x1.s.2 + 1)) + 1)) (IntKind.i64.wrap ((IntKind.i64.wrap ((IntKind.i64.wrap (x1.s.2 + 1)) + 1)) + 1)) (IntKind.i64.wrap ((IntKind.i64.wrap ((IntKind.i64.wrap ((IntKind.i64.wrap (x1.s.2 + 1)) + 1)) + 1)) + 1)) (IntKind.i64.wrap ((IntKind.i64.wrap ((IntKind.i64.wrap ((IntKind.i64.wrap ((IntKind.i64.wrap (x1.s.2 + 1)) + 1)) + 1)) + 1)) + 1)) ((Int.tmod (IntKind.i64.wrap ((IntKind.i64.wrap ((IntKind.i64.wrap ((IntKind.i64.wrap ((IntKind.i64.wrap ((IntKind.i64.wrap (x1.s.2 + 1)) + 1)) + 1)) + 1)) + 1)) + 1)) 3) == 0) (x1.s.1[x1.i]?.getD default).S.Attrs) (x1.s.1[x1.i]?.getD default).Trace (x1.s.1[x1.i]?.getD default).Stamp (x1.s.1[x1.i]?.getD default).Hand (x1.s.1[x1.i]?.getD default).H)) (by first | rfl | exact Nat.zero_add _ | simp) (fun _ => ?_)
    refine .inr ⟨0, ?_⟩
    refine rowSetE (i := x1.i) (l := x1.s.1) (x := (Task.mk x1.s.2 (IntKind.i64.wrap (x1.s.2 + 1)) (Span.mk (IntKind.i64.wrap ((IntKind.i64.wrap (x1.s.2 + 1)) + 1)) (IntKind.i64.wrap ((IntKind.i64.wrap ((IntKind.i64.wrap (x1.s.2 + 1)) + 1)) + 1)) (IntKind.i64.wrap ((IntKind.i64.wrap ((IntKind.i64.wrap ((IntKind.i64.wrap (x1.s.2 + 1)) + 1)) + 1)) + 1)) (IntKind.i64.wrap ((IntKind.i64.wrap ((IntKind.i64.wrap ((IntKind.i64.wrap ((IntKind.i64.wrap (x1.s.2 + 1)) + 1)) + 1)) + 1)) + 1)) ((Int.tmod (IntKind.i64.wrap ((IntKind.i64.wrap ((IntKind.i64.wrap ((IntKind.i64.wrap ((IntKind.i64.wrap ((IntKind.i64.wrap (x1.s.2 + 1)) + 1)) + 1)) + 1)) + 1)) + 1)) 3) == 0) (x1.s.1[x1.i]?.getD default).S.Attrs) (x1.s.1[x1.i]?.getD default).Trace (x1.s.1[x1.i]?.getD default).Stamp (x1.s.1[x1.i]?.getD default).Hand (x1.s.1[x1.i]?.getD default).H)) (by first | rfl | exact Nat.zero_add _ | simp) (fun _ => ?_)
    refine ⟨_, _, _, c_laws_markAttrS (x1.s.1[x1.i]?.getD default).S.Attrs (IntKind.i64.wrap ((IntKind.i64.wrap ((IntKind.i64.wrap ((IntKind.i64.wrap ((IntKind.i64.wrap ((IntKind.i64.wrap ((IntKind.i64.wrap (x1.s.2 + 1)) + 1)) + 1)) + 1)) + 1)) + 1)) + 1)), (FzAs.same _), .inl ?_⟩
    refine rowsE (Y := List.map (Task.cells true) (List.set x1.s.1 x1.i (Task.mk x1.s.2 (IntKind.i64.wrap (x1.s.2 + 1)) (Span.mk (IntKind.i64.wrap ((IntKind.i64.wrap (x1.s.2 + 1)) + 1)) (IntKind.i64.wrap ((IntKind.i64.wrap ((IntKind.i64.wrap (x1.s.2 + 1)) + 1)) + 1)) (IntKind.i64.wrap ((IntKind.i64.wrap ((IntKind.i64.wrap ((IntKind.i64.wrap (x1.s.2 + 1)) + 1)) + 1)) + 1)) (IntKind.i64.wrap ((IntKind.i64.wrap ((IntKind.i64.wrap ((IntKind.i64.wrap ((IntKind.i64.wrap (x1.s.2 + 1)) + 1)) + 1)) + 1)) + 1)) ((Int.tmod (IntKind.i64.wrap ((IntKind.i64.wrap ((IntKind.i64.wrap ((IntKind.i64.wrap ((IntKind.i64.wrap ((IntKind.i64.wrap (x1.s.2 + 1)) + 1)) + 1)) + 1)) + 1)) + 1)) 3) == 0) (laws_markAttrS (x1.s.1[x1.i]?.getD default).S.Attrs (IntKind.i64.wrap ((IntKind.i64.wrap ((IntKind.i64.wrap ((IntKind.i64.wrap ((IntKind.i64.wrap ((IntKind.i64.wrap ((IntKind.i64.wrap (x1.s.2 + 1)) + 1)) + 1)) + 1)) + 1)) + 1)) + 1))).2) (x1.s.1[x1.i]?.getD default).Trace (x1.s.1[x1.i]?.getD default).Stamp (x1.s.1[x1.i]?.getD default).Hand (x1.s.1[x1.i]?.getD default).H))) (by exact setMapS (by simp) (by first | rfl | (simp only [ha, Option.getD_some]; rfl) | (obtain ⟨_, rfl⟩ := List.getElem?_eq_some_iff.1 ha; rfl) | (simp only [Pol.cells_eq]; rfl) | (simp only [ha, Option.getD_some, Pol.cells_eq]; rfl))) ?_
    refine litE (m := 3) rfl ?_
    refine seqE ?_
    refine andE (by (first | omega | (simp (disch := omega) only [wrap_small, mid_eq, List.length_map]; omega) | (simp; done) | (simp; omega) | (simp at *; omega) | (simp at *; done) | (simp_all; done) | (simp_all; omega))) ?_
    refine rowsE (Y := List.map (Task.cells true) (List.set x1.s.1 x1.i (Task.mk x1.s.2 (IntKind.i64.wrap (x1.s.2 + 1)) (Span.mk (IntKind.i64.wrap ((IntKind.i64.wrap (x1.s.2 + 1)) + 1)) (IntKind.i64.wrap ((IntKind.i64.wrap ((IntKind.i64.wrap (x1.s.2 + 1)) + 1)) + 1)) (IntKind.i64.wrap ((IntKind.i64.wrap ((IntKind.i64.wrap ((IntKind.i64.wrap (x1.s.2 + 1)) + 1)) + 1)) + 1)) (IntKind.i64.wrap ((IntKind.i64.wrap ((IntKind.i64.wrap ((IntKind.i64.wrap ((IntKind.i64.wrap (x1.s.2 + 1)) + 1)) + 1)) + 1)) + 1)) ((Int.tmod (IntKind.i64.wrap ((IntKind.i64.wrap ((IntKind.i64.wrap ((IntKind.i64.wrap ((IntKind.i64.wrap ((IntKind.i64.wrap (x1.s.2 + 1)) + 1)) + 1)) + 1)) + 1)) + 1)) 3) == 0) (laws_markAttrS (x1.s.1[x1.i]?.getD default).S.Attrs (IntKind.i64.wrap ((IntKind.i64.wrap ((IntKind.i64.wrap ((IntKind.i64.wrap ((IntKind.i64.wrap ((IntKind.i64.wrap ((IntKind.i64.wrap (x1.s.2 + 1)) + 1)) + 1)) + 1)) + 1)) + 1)) + 1))).2) (laws_markAttrS (x1.s.1[x1.i]?.getD default).S.Attrs (IntKind.i64.wrap ((IntKind.i64.wrap ((IntKind.i64.wrap ((IntKind.i64.wrap ((IntKind.i64.wrap ((IntKind.i64.wrap ((IntKind.i64.wrap (x1.s.2 + 1)) + 1)) + 1)) + 1)) + 1)) + 1)) + 1))).1 (x1.s.1[x1.i]?.getD default).Stamp (x1.s.1[x1.i]?.getD default).Hand (x1.s.1[x1.i]?.getD default).H))) (by exact setMapS (by simp) (by first | rfl | (simp only [ha, Option.getD_some]; rfl) | (obtain ⟨_, rfl⟩ := List.getElem?_eq_some_iff.1 ha; rfl) | (simp only [Pol.cells_eq]; rfl) | (simp only [ha, Option.getD_some, Pol.cells_eq]; rfl))) ?_
    refine seqE ?_
    refine seqE ?_
    refine andE (by (first | omega | (simp (disch := omega) only [wrap_small, mid_eq, List.length_map]; omega) | (simp; done) | (simp; omega) | (simp at *; omega) | (simp at *; done) | (simp_all; done) | (simp_all; omega))) ?_
    refine rowsE (Y := List.map (Task.cells true) (List.set x1.s.1 x1.i (Task.mk x1.s.2 (IntKind.i64.wrap (x1.s.2 + 1)) (Span.mk (IntKind.i64.wrap ((IntKind.i64.wrap (x1.s.2 + 1)) + 1)) (IntKind.i64.wrap ((IntKind.i64.wrap ((IntKind.i64.wrap (x1.s.2 + 1)) + 1)) + 1)) (IntKind.i64.wrap ((IntKind.i64.wrap ((IntKind.i64.wrap ((IntKind.i64.wrap (x1.s.2 + 1)) + 1)) + 1)) + 1)) (IntKind.i64.wrap ((IntKind.i64.wrap ((IntKind.i64.wrap ((IntKind.i64.wrap ((IntKind.i64.wrap (x1.s.2 + 1)) + 1)) + 1)) + 1)) + 1)) ((Int.tmod (IntKind.i64.wrap ((IntKind.i64.wrap ((IntKind.i64.wrap ((IntKind.i64.wrap ((IntKind.i64.wrap ((IntKind.i64.wrap (x1.s.2 + 1)) + 1)) + 1)) + 1)) + 1)) + 1)) 3) == 0) (laws_markAttrS (x1.s.1[x1.i]?.getD default).S.Attrs (IntKind.i64.wrap ((IntKind.i64.wrap ((IntKind.i64.wrap ((IntKind.i64.wrap ((IntKind.i64.wrap ((IntKind.i64.wrap ((IntKind.i64.wrap (x1.s.2 + 1)) + 1)) + 1)) + 1)) + 1)) + 1)) + 1))).2) (laws_markAttrS (x1.s.1[x1.i]?.getD default).S.Attrs (IntKind.i64.wrap ((IntKind.i64.wrap ((IntKind.i64.wrap ((IntKind.i64.wrap ((IntKind.i64.wrap ((IntKind.i64.wrap ((IntKind.i64.wrap (x1.s.2 + 1)) + 1)) + 1)) + 1)) + 1)) + 1)) + 1))).1 (IntKind.i64.wrap ((laws_markAttrS (x1.s.1[x1.i]?.getD default).S.Attrs (IntKind.i64.wrap ((IntKind.i64.wrap ((IntKind.i64.wrap ((IntKind.i64.wrap ((IntKind.i64.wrap ((IntKind.i64.wrap ((IntKind.i64.wrap (x1.s.2 + 1)) + 1)) + 1)) + 1)) + 1)) + 1)) + 1))).1 + 1)) (x1.s.1[x1.i]?.getD default).Hand (x1.s.1[x1.i]?.getD default).H))) (by exact setMapS (by simp) (by first | rfl | (simp only [ha, Option.getD_some]; rfl) | (obtain ⟨_, rfl⟩ := List.getElem?_eq_some_iff.1 ha; rfl) | (simp only [Pol.cells_eq]; rfl) | (simp only [ha, Option.getD_some, Pol.cells_eq]; rfl))) ?_
    refine seqE ?_
    refine seqE ?_
    refine andE (by (first | omega | (simp (disch := omega) only [wrap_small, mid_eq, List.length_map]; omega) | (simp; done) | (simp; omega) | (simp at *; omega) | (simp at *; done) | (simp_all; done) | (simp_all; omega))) ?_
    refine rowSetE (i := x1.i) (l := x1.s.1) (x := (Task.mk x1.s.2 (IntKind.i64.wrap (x1.s.2 + 1)) (Span.mk (IntKind.i64.wrap ((IntKind.i64.wrap (x1.s.2 + 1)) + 1)) (IntKind.i64.wrap ((IntKind.i64.wrap ((IntKind.i64.wrap (x1.s.2 + 1)) + 1)) + 1)) (IntKind.i64.wrap ((IntKind.i64.wrap ((IntKind.i64.wrap ((IntKind.i64.wrap (x1.s.2 + 1)) + 1)) + 1)) + 1)) (IntKind.i64.wrap ((IntKind.i64.wrap ((IntKind.i64.wrap ((IntKind.i64.wrap ((IntKind.i64.wrap (x1.s.2 + 1)) + 1)) + 1)) + 1)) + 1)) ((Int.tmod (IntKind.i64.wrap ((IntKind.i64.wrap ((IntKind.i64.wrap ((IntKind.i64.wrap ((IntKind.i64.wrap ((IntKind.i64.wrap (x1.s.2 + 1)) + 1)) + 1)) + 1)) + 1)) + 1)) 3) == 0) (laws_markAttrS (x1.s.1[x1.i]?.getD default).S.Attrs (IntKind.i64.wrap ((IntKind.i64.wrap ((IntKind.i64.wrap ((IntKind.i64.wrap ((IntKind.i64.wrap ((IntKind.i64.wrap ((IntKind.i64.wrap (x1.s.2 + 1)) + 1)) + 1)) + 1)) + 1)) + 1)) + 1))).2) (laws_markAttrS (x1.s.1[x1.i]?.getD default).S.Attrs (IntKind.i64.wrap ((IntKind.i64.wrap ((IntKind.i64.wrap ((IntKind.i64.wrap ((IntKind.i64.wrap ((IntKind.i64.wrap ((IntKind.i64.wrap (x1.s.2 + 1)) + 1)) + 1)) + 1)) + 1)) + 1)) + 1))).1 (IntKind.i64.wrap ((laws_markAttrS (x1.s.1[x1.i]?.getD default).S.Attrs (IntKind.i64.wrap ((IntKind.i64.wrap ((IntKind.i64.wrap ((IntKind.i64.wrap ((IntKind.i64.wrap ((IntKind.i64.wrap ((IntKind.i64.wrap (x1.s.2 + 1)) + 1)) + 1)) + 1)) + 1)) + 1)) + 1))).1 + 1)) (x1.s.1[x1.i]?.getD default).Hand (x1.s.1[x1.i]?.getD default).H)) (by first | rfl | exact Nat.zero_add _ | simp) (fun _ => ?_)
    refine .inr ⟨0, ?_⟩
    refine rowSetE (i := x1.i) (l := x1.s.1) (x := (Task.mk x1.s.2 (IntKind.i64.wrap (x1.s.2 + 1)) (Span.mk (IntKind.i64.wrap ((IntKind.i64.wrap (x1.s.2 + 1)) + 1)) (IntKind.i64.wrap ((IntKind.i64.wrap ((IntKind.i64.wrap (x1.s.2 + 1)) + 1)) + 1)) (IntKind.i64.wrap ((IntKind.i64.wrap ((IntKind.i64.wrap ((IntKind.i64.wrap (x1.s.2 + 1)) + 1)) + 1)) + 1)) (IntKind.i64.wrap ((IntKind.i64.wrap ((IntKind.i64.wrap ((IntKind.i64.wrap ((IntKind.i64.wrap (x1.s.2 + 1)) + 1)) + 1)) + 1)) + 1)) ((Int.tmod (IntKind.i64.wrap ((IntKind.i64.wrap ((IntKind.i64.wrap ((IntKind.i64.wrap ((IntKind.i64.wrap ((IntKind.i64.wrap (x1.s.2 + 1)) + 1)) + 1)) + 1)) + 1)) + 1)) 3) == 0) (laws_markAttrS (x1.s.1[x1.i]?.getD default).S.Attrs (IntKind.i64.wrap ((IntKind.i64.wrap ((IntKind.i64.wrap ((IntKind.i64.wrap ((IntKind.i64.wrap ((IntKind.i64.wrap ((IntKind.i64.wrap (x1.s.2 + 1)) + 1)) + 1)) + 1)) + 1)) + 1)) + 1))).2) (laws_markAttrS (x1.s.1[x1.i]?.getD default).S.Attrs (IntKind.i64.wrap ((IntKind.i64.wrap ((IntKind.i64.wrap ((IntKind.i64.wrap ((IntKind.i64.wrap ((IntKind.i64.wrap ((IntKind.i64.wrap (x1.s.2 + 1)) + 1)) + 1)) + 1)) + 1)) + 1)) + 1))).1 (IntKind.i64.wrap ((laws_markAttrS (x1.s.1[x1.i]?.getD default).S.Attrs (IntKind.i64.wrap ((IntKind.i64.wrap ((IntKind.i64.wrap ((IntKind.i64.wrap ((IntKind.i64.wrap ((IntKind.i64.wrap ((IntKind.i64.wrap (x1.s.2 + 1)) + 1)) + 1)) + 1)) + 1)) + 1)) + 1))).1 + 1)) (x1.s.1[x1.i]?.getD default).Hand (x1.s.1[x1.i]?.getD default).H)) (by first | rfl | exact Nat.zero_add _ | simp) (fun _ => ?_)
    refine ⟨_, _, _, c_laws_markItemS (x1.s.1[x1.i]?.getD default).Hand (IntKind.i64.wrap ((IntKind.i64.wrap ((laws_markAttrS (x1.s.1[x1.i]?.getD default).S.Attrs (IntKind.i64.wrap ((IntKind.i64.wrap ((IntKind.i64.wrap ((IntKind.i64.wrap ((IntKind.i64.wrap ((IntKind.i64.wrap ((IntKind.i64.wrap (x1.s.2 + 1)) + 1)) + 1)) + 1)) + 1)) + 1)) + 1))).1 + 1)) + 1)), (FzAs.same _), .inl ?_⟩
    refine rowsE (Y := List.map (Task.cells true) (List.set x1.s.1 x1.i (Task.mk x1.s.2 (IntKind.i64.wrap (x1.s.2 + 1)) (Span.mk (IntKind.i64.wrap ((IntKind.i64.wrap (x1.s.2 + 1)) + 1)) (IntKind.i64.wrap ((IntKind.i64.wrap ((IntKind.i64.wrap (x1.s.2 + 1)) + 1)) + 1)) (IntKind.i64.wrap ((IntKind.i64.wrap ((IntKind.i64.wrap ((IntKind.i64.wrap (x1.s.2 + 1)) + 1)) + 1)) + 1)) (IntKind.i64.wrap ((IntKind.i64.wrap ((IntKind.i64.wrap ((IntKind.i64.wrap ((IntKind.i64.wrap (x1.s.2 + 1)) + 1)) + 1)) + 1)) + 1)) ((Int.tmod (IntKind.i64.wrap ((IntKind.i64.wrap ((IntKind.i64.wrap ((IntKind.i64.wrap ((IntKind.i64.wrap ((IntKind.i64.wrap (x1.s.2 + 1)) + 1)) + 1)) + 1)) + 1)) + 1)) 3) == 0) (laws_markAttrS (x1.s.1[x1.i]?.getD default).S.Attrs (IntKind.i64.wrap ((IntKind.i64.wrap ((IntKind.i64.wrap ((IntKind.i64.wrap ((IntKind.i64.wrap ((IntKind.i64.wrap ((IntKind.i64.wrap (x1.s.2 + 1)) + 1)) + 1)) + 1)) + 1)) + 1)) + 1))).2) (laws_markAttrS (x1.s.1[x1.i]?.getD default).S.Attrs (IntKind.i64.wrap ((IntKind.i64.wrap ((IntKind.i64.wrap ((IntKind.i64.wrap ((IntKind.i64.wrap ((IntKind.i64.wrap ((IntKind.i64.wrap (x1.s.2 + 1)) + 1)) + 1)) + 1)) + 1)) + 1)) + 1))).1 (IntKind.i64.wrap ((laws_markAttrS (x1.s.1[x1.i]?.getD default).S.Attrs (IntKind.i64.wrap ((IntKind.i64.wrap ((IntKind.i64.wrap ((IntKind.i64.wrap ((IntKind.i64.wrap ((IntKind.i64.wrap ((IntKind.i64.wrap (x1.s.2 + 1)) + 1)) + 1)) + 1)) + 1)) + 1)) + 1))).1 + 1)) (laws_markItemS (x1.s.1[x1.i]?.getD default).Hand (IntKind.i64.wrap ((IntKind.i64.wrap ((laws_markAttrS (x1.s.1[x1.i]?.getD default).S.Attrs (IntKind.i64.wrap ((IntKind.i64.wrap ((IntKind.i64.wrap ((IntKind.i64.wrap ((IntKind.i64.wrap ((IntKind.i64.wrap ((IntKind.i64.wrap (x1.s.2 + 1)) + 1)) + 1)) + 1)) + 1)) + 1)) + 1))).1 + 1)) + 1))).2 (x1.s.1[x1.i]?.getD default).H))) (by exact setMapS (by simp) (by first | rfl | (simp only [ha, Option.getD_some]; rfl) | (obtain ⟨_, rfl⟩ := List.getElem?_eq_some_iff.1 ha; rfl) | (simp only [Pol.cells_eq]; rfl) | (simp only [ha, Option.getD_some, Pol.cells_eq]; rfl))) ?_
    refine litE (m := 4) rfl ?_
    refine seqE ?_
    refine andE (by (first | omega | (simp (disch := omega) only [wrap_small, mid_eq, List.length_map]; omega) | (simp; done) | (simp; omega) | (simp at *; omega) | (simp at *; done) | (simp_all; done) | (simp_all; omega))) ?_
    refine rowsE (Y := List.map (Task.cells true) (List.set x1.s.1 x1.i (Task.mk x1.s.2 (IntKind.i64.wrap (x1.s.2 + 1)) (Span.mk (IntKind.i64.wrap ((IntKind.i64.wrap (x1.s.2 + 1)) + 1)) (IntKind.i64.wrap ((IntKind.i64.wrap ((IntKind.i64.wrap (x1.s.2 + 1)) + 1)) + 1)) (IntKind.i64.wrap ((IntKind.i64.wrap ((IntKind.i64.wrap ((IntKind.i64.wrap (x1.s.2 + 1)) + 1)) + 1)) + 1)) (IntKind.i64.wrap ((IntKind.i64.wrap ((IntKind.i64.wrap ((IntKind.i64.wrap ((IntKind.i64.wrap (x1.s.2 + 1)) + 1)) + 1)) + 1)) + 1)) ((Int.tmod (IntKind.i64.wrap ((IntKind.i64.wrap ((IntKind.i64.wrap ((IntKind.i64.wrap ((IntKind.i64.wrap ((IntKind.i64.wrap (x1.s.2 + 1)) + 1)) + 1)) + 1)) + 1)) + 1)) 3) == 0) (laws_markAttrS (x1.s.1[x1.i]?.getD default).S.Attrs (IntKind.i64.wrap ((IntKind.i64.wrap ((IntKind.i64.wrap ((IntKind.i64.wrap ((IntKind.i64.wrap ((IntKind.i64.wrap ((IntKind.i64.wrap (x1.s.2 + 1)) + 1)) + 1)) + 1)) + 1)) + 1)) + 1))).2) (laws_markAttrS (x1.s.1[x1.i]?.getD default).S.Attrs (IntKind.i64.wrap ((IntKind.i64.wrap ((IntKind.i64.wrap ((IntKind.i64.wrap ((IntKind.i64.wrap ((IntKind.i64.wrap ((IntKind.i64.wrap (x1.s.2 + 1)) + 1)) + 1)) + 1)) + 1)) + 1)) + 1))).1 (IntKind.i64.wrap ((laws_markAttrS (x1.s.1[x1.i]?.getD default).S.Attrs (IntKind.i64.wrap ((IntKind.i64.wrap ((IntKind.i64.wrap ((IntKind.i64.wrap ((IntKind.i64.wrap ((IntKind.i64.wrap ((IntKind.i64.wrap (x1.s.2 + 1)) + 1)) + 1)) + 1)) + 1)) + 1)) + 1))).1 + 1)) (laws_markItemS (x1.s.1[x1.i]?.getD default).Hand (IntKind.i64.wrap ((IntKind.i64.wrap ((laws_markAttrS (x1.s.1[x1.i]?.getD default).S.Attrs (IntKind.i64.wrap ((IntKind.i64.wrap ((IntKind.i64.wrap ((IntKind.i64.wrap ((IntKind.i64.wrap ((IntKind.i64.wrap ((IntKind.i64.wrap (x1.s.2 + 1)) + 1)) + 1)) + 1)) + 1)) + 1)) + 1))).1 + 1)) + 1))).2 (laws_markItemS (x1.s.1[x1.i]?.getD default).Hand (IntKind.i64.wrap ((IntKind.i64.wrap ((laws_markAttrS (x1.s.1[x1.i]?.getD default).S.Attrs (IntKind.i64.wrap ((IntKind.i64.wrap ((IntKind.i64.wrap ((IntKind.i64.wrap ((IntKind.i64.wrap ((IntKind.i64.wrap ((IntKind.i64.wrap (x1.s.2 + 1)) + 1)) + 1)) + 1)) + 1)) + 1)) + 1))).1 + 1)) + 1))).1))) (by exact setMapS (by simp) (by first | rfl | (simp only [ha, Option.getD_some]; rfl) | (obtain ⟨_, rfl⟩ := List.getElem?_eq_some_iff.1 ha; rfl) | (simp only [Pol.cells_eq]; rfl) | (simp only [ha, Option.getD_some, Pol.cells_eq]; rfl))) ?_
    exact x1.goE hi1 hb1 (by simpa using x1.hI) [none, some 1] ⟨rfl, ⟨rfl, (eqInt hw1), ⟨rfl, rfl, rfl, rfl, by (first | rfl | omega | (dsimp only; omega) | (simp; done) | (simp; omega) | (simp [LstSt.init, LstSt.step, LstInv.init, CntSt.init, CntSt.step, CntInv.init, WhlSt.init, WhlSt.step]; done) | (simp [LstSt.init, LstSt.step, LstInv.init, CntSt.init, CntSt.step, CntInv.init, WhlSt.init, WhlSt.step]; omega))⟩, trivial⟩, ⟨⟨rfl, rfl, rfl⟩, trivial⟩, ⟨⟨rfl, rfl, rfl, rfl, by (first | rfl | omega | (dsimp only; omega) | (simp; done) | (simp; omega) | (simp [LstSt.init, LstSt.step, LstInv.init, CntSt.init, CntSt.step, CntInv.init, WhlSt.init, WhlSt.step]; done) | (simp [LstSt.init, LstSt.step, LstInv.init, CntSt.init, CntSt.step, CntInv.init, WhlSt.init, WhlSt.step]; omega))⟩, trivial⟩⟩
  have hg := finE hg (x1.fin hi1)
  refine seqE ?_
  exact leafM hown hg
def laws_markDeedS_b1 (i1 : Nat) (s1 : (List Deed) × Int) (a1 : Deed) : Step ((List Deed) × Int) (Int × (List Deed)) :=
  (.next ((List.set s1.1 i1 (Deed.mk s1.2 (IntKind.i64.wrap (s1.2 + 1)) (Span.mk (IntKind.i64.wrap ((IntKind.i64.wrap (s1.2 + 1)) + 1)) (IntKind.i64.wrap ((IntKind.i64.wrap ((IntKind.i64.wrap (s1.2 + 1)) + 1)) + 1)) (IntKind.i64.wrap ((IntKind.i64.wrap ((IntKind.i64.wrap ((IntKind.i64.wrap (s1.2 + 1)) + 1)) + 1)) + 1)) (IntKind.i64.wrap ((IntKind.i64.wrap ((IntKind.i64.wrap ((IntKind.i64.wrap ((IntKind.i64.wrap (s1.2 + 1)) + 1)) + 1)) + 1)) + 1)) ((Int.tmod (IntKind.i64.wrap ((IntKind.i64.wrap ((IntKind.i64.wrap ((IntKind.i64.wrap ((IntKind.i64.wrap ((IntKind.i64.wrap (s1.2 + 1)) + 1)) + 1)) + 1)) + 1)) + 1)) 3) == 0) (laws_markAttrS (s1.1[i1]?.getD default).S.Attrs (IntKind.i64.wrap ((IntKind.i64.wrap ((IntKind.i64.wrap ((IntKind.i64.wrap ((IntKind.i64.wrap ((IntKind.i64.wrap ((IntKind.i64.wrap (s1.2 + 1)) + 1)) + 1)) + 1)) + 1)) + 1)) + 1))).2) (laws_markAttrS (s1.1[i1]?.getD default).S.Attrs (IntKind.i64.wrap ((IntKind.i64.wrap ((IntKind.i64.wrap ((IntKind.i64.wrap ((IntKind.i64.wrap ((IntKind.i64.wrap ((IntKind.i64.wrap (s1.2 + 1)) + 1)) + 1)) + 1)) + 1)) + 1)) + 1))).1 (IntKind.i64.wrap ((laws_markAttrS (s1.1[i1]?.getD default).S.Attrs (IntKind.i64.wrap ((IntKind.i64.wrap ((IntKind.i64.wrap ((IntKind.i64.wrap ((IntKind.i64.wrap ((IntKind.i64.wrap ((IntKind.i64.wrap (s1.2 + 1)) + 1)) + 1)) + 1)) + 1)) + 1)) + 1))).1 + 1)) (IntKind.i64.wrap ((IntKind.i64.wrap ((laws_markAttrS (s1.1[i1]?.getD default).S.Attrs (IntKind.i64.wrap ((IntKind.i64.wrap ((IntKind.i64.wrap ((IntKind.i64.wrap ((IntKind.i64.wrap ((IntKind.i64.wrap ((IntKind.i64.wrap (s1.2 + 1)) + 1)) + 1)) + 1)) + 1)) + 1)) + 1))).1 + 1)) + 1)) ((Int.tmod (IntKind.i64.wrap ((IntKind.i64.wrap ((IntKind.i64.wrap ((laws_markAttrS (s1.1[i1]?.getD default).S.Attrs (IntKind.i64.wrap ((IntKind.i64.wrap ((IntKind.i64.wrap ((IntKind.i64.wrap ((IntKind.i64.wrap ((IntKind.i64.wrap ((IntKind.i64.wrap (s1.2 + 1)) + 1)) + 1)) + 1)) + 1)) + 1)) + 1))).1 + 1)) + 1)) + 1)) 3) == 0) ((Int.tmod (IntKind.i64.wrap ((IntKind.i64.wrap ((IntKind.i64.wrap ((IntKind.i64.wrap ((laws_markAttrS (s1.1[i1]?.getD default).S.Attrs (IntKind.i64.wrap ((IntKind.i64.wrap ((IntKind.i64.wrap ((IntKind.i64.wrap ((IntKind.i64.wrap ((IntKind.i64.wrap ((IntKind.i64.wrap (s1.2 + 1)) + 1)) + 1)) + 1)) + 1)) + 1)) + 1))).1 + 1)) + 1)) + 1)) + 1)) 3) == 0) (IntKind.i64.wrap ((IntKind.i64.wrap ((IntKind.i64.wrap ((IntKind.i64.wrap ((IntKind.i64.wrap ((laws_markAttrS (s1.1[i1]?.getD default).S.Attrs (IntKind.i64.wrap ((IntKind.i64.wrap ((IntKind.i64.wrap ((IntKind.i64.wrap ((IntKind.i64.wrap ((IntKind.i64.wrap ((IntKind.i64.wrap (s1.2 + 1)) + 1)) + 1)) + 1)) + 1)) + 1)) + 1))).1 + 1)) + 1)) + 1)) + 1)) + 1)) (IntKind.i64.wrap ((IntKind.i64.wrap ((IntKind.i64.wrap ((IntKind.i64.wrap ((IntKind.i64.wrap ((IntKind.i64.wrap ((laws_markAttrS (s1.1[i1]?.getD default).S.Attrs (IntKind.i64.wrap ((IntKind.i64.wrap ((IntKind.i64.wrap ((IntKind.i64.wrap ((IntKind.i64.wrap ((IntKind.i64.wrap ((IntKind.i64.wrap (s1.2 + 1)) + 1)) + 1)) + 1)) + 1)) + 1)) + 1))).1 + 1)) + 1)) + 1)) + 1)) + 1)) + 1)) (IntKind.i64.wrap ((IntKind.i64.wrap ((IntKind.i64.wrap ((IntKind.i64.wrap ((IntKind.i64.wrap ((IntKind.i64.wrap ((IntKind.i64.wrap ((laws_markAttrS (s1.1[i1]?.getD default).S.Attrs (IntKind.i64.wrap ((IntKind.i64.wrap ((IntKind.i64.wrap ((IntKind.i64.wrap ((IntKind.i64.wrap ((IntKind.i64.wrap ((IntKind.i64.wrap (s1.2 + 1)) + 1)) + 1)) + 1)) + 1)) + 1)) + 1))).1 + 1)) + 1)) + 1)) + 1)) + 1)) + 1)) + 1)) (IntKind.i64.wrap ((IntKind.i64.wrap ((IntKind.i64.wrap ((IntKind.i64.wrap ((IntKind.i64.wrap ((IntKind.i64.wrap ((IntKind.i64.wrap ((IntKind.i64.wrap ((laws_markAttrS (s1.1[i1]?.getD default).S.Attrs (IntKind.i64.wrap ((IntKind.i64.wrap ((IntKind.i64.wrap ((IntKind.i64.wrap ((IntKind.i64.wrap ((IntKind.i64.wrap ((IntKind.i64.wrap (s1.2 + 1)) + 1)) + 1)) + 1)) + 1)) + 1)) + 1))).1 + 1)) + 1)) + 1)) + 1)) + 1)) + 1)) + 1)) + 1)) (IntKind.i64.wrap ((IntKind.i64.wrap ((IntKind.i64.wrap ((IntKind.i64.wrap ((IntKind.i64.wrap ((IntKind.i64.wrap ((IntKind.i64.wrap ((IntKind.i64.wrap ((IntKind.i64.wrap ((laws_markAttrS (s1.1[i1]?.getD default).S.Attrs (IntKind.i64.wrap ((IntKind.i64.wrap ((IntKind.i64.wrap ((IntKind.i64.wrap ((IntKind.i64.wrap ((IntKind.i64.wrap ((IntKind.i64.wrap (s1.2 + 1)) + 1)) + 1)) + 1)) + 1)) + 1)) + 1))).1 + 1)) + 1)) + 1)) + 1)) + 1)) + 1)) + 1)) + 1)) + 1)) (IntKind.i64.wrap ((IntKind.i64.wrap ((IntKind.i64.wrap ((IntKind.i64.wrap ((IntKind.i64.wrap ((IntKind.i64.wrap ((IntKind.i64.wrap ((IntKind.i64.wrap ((IntKind.i64.wrap ((IntKind.i64.wrap ((laws_markAttrS (s1.1[i1]?.getD default).S.Attrs (IntKind.i64.wrap ((IntKind.i64.wrap ((IntKind.i64.wrap ((IntKind.i64.wrap ((IntKind.i64.wrap ((IntKind.i64.wrap ((IntKind.i64.wrap (s1.2 + 1)) + 1)) + 1)) + 1)) + 1)) + 1)) + 1))).1 + 1)) + 1)) + 1)) + 1)) + 1)) + 1)) + 1)) + 1)) + 1)) + 1)) (IntKind.i64.wrap ((IntKind.i64.wrap ((IntKind.i64.wrap ((IntKind.i64.wrap ((IntKind.i64.wrap ((IntKind.i64.wrap ((IntKind.i64.wrap ((IntKind.i64.wrap ((IntKind.i64.wrap ((IntKind.i64.wrap ((IntKind.i64.wrap ((laws_markAttrS (s1.1[i1]?.getD default).S.Attrs (IntKind.i64.wrap ((IntKind.i64.wrap ((IntKind.i64.wrap ((IntKind.i64.wrap ((IntKind.i64.wrap ((IntKind.i64.wrap ((IntKind.i64.wrap (s1.2 + 1)) + 1)) + 1)) + 1)) + 1)) + 1)) + 1))).1 + 1)) + 1)) + 1)) + 1)) + 1)) + 1)) + 1)) + 1)) + 1)) + 1)) + 1)))), (IntKind.i64.wrap ((IntKind.i64.wrap ((IntKind.i64.wrap ((IntKind.i64.wrap ((IntKind.i64.wrap ((IntKind.i64.wrap ((IntKind.i64.wrap ((IntKind.i64.wrap ((IntKind.i64.wrap ((IntKind.i64.wrap ((IntKind.i64.wrap ((IntKind.i64.wrap ((laws_markAttrS (s1.1[i1]?.getD default).S.Attrs (IntKind.i64.wrap ((IntKind.i64.wrap ((IntKind.i64.wrap ((IntKind.i64.wrap ((IntKind.i64.wrap ((IntKind.i64.wrap ((IntKind.i64.wrap (s1.2 + 1)) + 1)) + 1)) + 1)) + 1)) + 1)) + 1))).1 + 1)) + 1)) + 1)) + 1)) + 1)) + 1)) + 1)) + 1)) + 1)) + 1)) + 1)) + 1))))
def laws_markDeedS (p0 : (List Deed)) (p1 : Int) : (Int × (List Deed)) :=
  (Fin.get (fun s1 => (s1.2, s1.1)) (loopL laws_markDeedS_b1 0 (p0, p1) p0))
theorem c_laws_markDeedS (p0 : (List Deed)) (p1 : Int) : FnOk prog 13 [.tup [.one (.s true 20 (List.map (Deed.cells true) p0))], .one (.v (.int .i64 p1))] ⟨.one (.v (.int .i64 (laws_markDeedS p0 p1).1)), [.one (.s true 20 (List.map (Deed.cells true) ((laws_markDeedS p0 p1).2)))], [], false⟩ := by
  refine FnOk.introM (E := env) envOk wide func13 rfl (by kernel_rfl) rfl ?_
  have hg := laws_markDeedS.eq_1 p0 p1
  have hown : (∀ g : (Int × (List Deed)), AV.Own (AV.one (.v (.int .i64 g.1)))) ∧ (fun g : (Int × (List Deed)) => T.s true 20 (List.map (Deed.cells true) (g.2))) = _ := ⟨fun g => .v _, rfl⟩
  refine seqE ?_
  refine seqE ?_
  refine seqE ?_
  refine loopLI (fun _ s => (s.1).length = (p0).length) hg (by simp) [0] (fun x1 => [(1, .one (.v (.int .i64 x1.s.2))), (5, .one (.v (.int .i64 ((x1.i : Nat) : Int))))]) (fun x1 => [.dead, .new ⟨20, false, List.map (Deed.cells true) x1.s.1, 0⟩]) [none, some 1] ?_ (fun x1 => ?_)
  · exact ⟨rfl, ⟨rfl, rfl, ⟨rfl, rfl, rfl, rfl, by (first | rfl | omega | (dsimp only; omega) | (simp; done) | (simp; omega) | (simp [LstSt.init, LstSt.step, LstInv.init, CntSt.init, CntSt.step, CntInv.init, WhlSt.init, WhlSt.step]; done) | (simp [LstSt.init, LstSt.step, LstInv.init, CntSt.init, CntSt.step, CntInv.init, WhlSt.init, WhlSt.step]; omega))⟩, trivial⟩, ⟨⟨rfl, rfl, rfl⟩, trivial⟩, ⟨⟨rfl, rfl, rfl, rfl, by (first | rfl | omega | (dsimp only; omega) | (simp; done) | (simp; omega) | (simp [LstSt.init, LstSt.step, LstInv.init, CntSt.init, CntSt.step, CntInv.init, WhlSt.init, WhlSt.step]; done) | (simp [LstSt.init, LstSt.step, LstInv.init, CntSt.init, CntSt.step, CntInv.init, WhlSt.init, WhlSt.step]; omega))⟩, trivial⟩⟩
  have hI1 : (x1.s.1).length = (p0).length := by simpa using x1.hI
  refine seqE ?_
  refine seqE ?_
  refine lenE (k := (p0).length) (by simp) (fun hN1 => ?_)
  refine tstL (fun hi1 => ?_) (fun hi1 => ?_)
  · have hb1 := (x1.bdy hi1).trans (laws_markDeedS_b1.eq_1 ..)
    have hw1 := wrap_succ hi1 (by first | assumption | omega)
    refine seqE ?_
    refine seqE ?_
    refine andE (by (first | omega | (simp (disch := omega) only [wrap_small, mid_eq, List.length_map]; omega) | (simp; done) | (simp; omega) | (simp at *; omega) | (simp at *; done) | (simp_all; done) | (simp_all; omega))) ?_
    refine rowsE (Y := List.map (Deed.cells true) (List.set x1.s.1 x1.i (Deed.mk x1.s.2 (x1.s.1[x1.i]?.getD default).Task (x1.s.1[x1.i]?.getD default).S (x1.s.1[x1.i]?.getD default).Trace (x1.s.1[x1.i]?.getD default).Stamp (x1.s.1[x1.i]?.getD default).Code (x1.s.1[x1.i]?.getD default).Keep (x1.s.1[x1.i]?.getD default).Void (x1.s.1[x1.i]?.getD default).Took (x1.s.1[x1.i]?.getD default).N (x1.s.1[x1.i]?.getD default).Forgot (x1.s.1[x1.i]?.getD default).Now (x1.s.1[x1.i]?.getD default).Inv (x1.s.1[x1.i]?.getD default).Lin (x1.s.1[x1.i]?.getD default).Res))) (by exact setMapE (by simp) (fun a ha => by first | rfl | (simp only [ha, Option.getD_some]; rfl) | (obtain ⟨_, rfl⟩ := List.getElem?_eq_some_iff.1 ha; rfl) | (simp only [Pol.cells_eq]; rfl) | (simp only [ha, Option.getD_some, Pol.cells_eq]; rfl))) ?_
    refine seqE ?_
    refine seqE ?_
    refine andE (by (first | omega | (simp (disch := omega) only [wrap_small, mid_eq, List.length_map]; omega) | (simp; done) | (simp; omega) | (simp at *; omega) | (simp at *; done) | (simp_all; done) | (simp_all; omega))) ?_
    refine rowsE (Y := List.map (Deed.cells true) (List.set x1.s.1 x1.i (Deed.mk x1.s.2 (IntKind.i64.wrap (x1.s.2 + 1)) (x1.s.1[x1.i]?.getD default).S (x1.s.1[x1.i]?.getD default).Trace (x1.s.1[x1.i]?.getD default).Stamp (x1.s.1[x1.i]?.getD default).Code (x1.s.1[x1.i]?.getD default).Keep (x1.s.1[x1.i]?.getD default).Void (x1.s.1[x1.i]?.getD default).Took (x1.s.1[x1.i]?.getD default).N (x1.s.1[x1.i]?.getD default).Forgot (x1.s.1[x1.i]?.getD default).Now (x1.s.1[x1.i]?.getD default).Inv (x1.s.1[x1.i]?.getD default).Lin (x1.s.1[x1.i]?.getD default).Res))) (by exact setMapS (by simp) (by first | rfl | (simp only [ha, Option.getD_some]; rfl) | (obtain ⟨_, rfl⟩ := List.getElem?_eq_some_iff.1 ha; rfl) | (simp only [Pol.cells_eq]; rfl) | (simp only [ha, Option.getD_some, Pol.cells_eq]; rfl))) ?_
    refine seqE ?_
    refine seqE ?_
    refine andE (by (first | omega | (simp (disch := omega) only [wrap_small, mid_eq, List.length_map]; omega) | (simp; done) | (simp; omega) | (simp at *; omega) | (simp at *; done) | (simp_all; done) | (simp_all; omega))) ?_
    refine rowsE (Y := List.map (Deed.cells true) (List.set x1.s.1 x1.i (Deed.mk x1.s.2 (IntKind.i64.wrap (x1.s.2 + 1)) (Span.mk (IntKind.i64.wrap ((IntKind.i64.wrap (x1.s.2 + 1)) + 1)) (x1.s.1[x1.i]?.getD default).S.Id (x1.s.1[x1.i]?.getD default).S.Start (x1.s.1[x1.i]?.getD default).S.End (x1.s.1[x1.i]?.getD default).S.Err (x1.s.1[x1.i]?.getD default).S.Attrs) (x1.s.1[x1.i]?.getD default).Trace (x1.s.1[x1.i]?.getD default).Stamp (x1.s.1[x1.i]?.getD default).Code (x1.s.1[x1.i]?.getD default).Keep (x1.s.1[x1.i]?.getD default).Void (x1.s.1[x1.i]?.getD default).Took (x1.s.1[x1.i]?.getD default).N (x1.s.1[x1.i]?.getD default).Forgot (x1.s.1[x1.i]?.getD default).Now (x1.s.1[x1.i]?.getD default).Inv (x1.s.1[x1.i]?.getD default).Lin (x1.s.1[x1.i]?.getD default).Res))) (by exact setMapS (by simp) (by first | rfl | (simp only [ha, Option.getD_some]; rfl) | (obtain ⟨_, rfl⟩ := List.getElem?_eq_some_iff.1 ha; rfl) | (simp only [Pol.cells_eq]; rfl) | (simp only [ha, Option.getD_some, Pol.cells_eq]; rfl))) ?_
    refine seqE ?_
    refine seqE ?_
    refine andE (by (first | omega | (simp (disch := omega) only [wrap_small, mid_eq, List.length_map]; omega) | (simp; done) | (simp; omega) | (simp at *; omega) | (simp at *; done) | (simp_all; done) | (simp_all; omega))) ?_
    refine rowsE (Y := List.map (Deed.cells true) (List.set x1.s.1 x1.i (Deed.mk x1.s.2 (IntKind.i64.wrap (x1.s.2 + 1)) (Span.mk (IntKind.i64.wrap ((IntKind.i64.wrap (x1.s.2 + 1)) + 1)) (IntKind.i64.wrap ((IntKind.i64.wrap ((IntKind.i64.wrap (x1.s.2 + 1)) + 1)) + 1)) (x1.s.1[x1.i]?.getD default).S.Start (x1.s.1[x1.i]?.getD default).S.End (x1.s.1[x1.i]?.getD default).S.Err (x1.s.1[x1.i]?.getD default).S.Attrs) (x1.s.1[x1.i]?.getD default).Trace (x1.s.1[x1.i]?.getD default).Stamp (x1.s.1[x1.i]?.getD default).Code (x1.s.1[x1.i]?.getD default).Keep (x1.s.1[x1.i]?.getD default).Void (x1.s.1[x1.i]?.getD default).Took (x1.s.1[x1.i]?.getD default).N (x1.s.1[x1.i]?.getD default).Forgot (x1.s.1[x1.i]?.getD default).Now (x1.s.1[x1.i]?.getD default).Inv (x1.s.1[x1.i]?.getD default).Lin (x1.s.1[x1.i]?.getD default).Res))) (by exact setMapS (by simp) (by first | rfl | (simp only [ha, Option.getD_some]; rfl) | (obtain ⟨_, rfl⟩ := List.getElem?_eq_some_iff.1 ha; rfl) | (simp only [Pol.cells_eq]; rfl) | (simp only [ha, Option.getD_some, Pol.cells_eq]; rfl))) ?_
    refine seqE ?_
    refine seqE ?_
    refine andE (by (first | omega | (simp (disch := omega) only [wrap_small, mid_eq, List.length_map]; omega) | (simp; done) | (simp; omega) | (simp at *; omega) | (simp at *; done) | (simp_all; done) | (simp_all; omega))) ?_
    refine rowsE (Y := List.map (Deed.cells true) (List.set x1.s.1 x1.i (Deed.mk x1.s.2 (IntKind.i64.wrap (x1.s.2 + 1)) (Span.mk (IntKind.i64.wrap ((IntKind.i64.wrap (x1.s.2 + 1)) + 1)) (IntKind.i64.wrap ((IntKind.i64.wrap ((IntKind.i64.wrap (x1.s.2 + 1)) + 1)) + 1)) (IntKind.i64.wrap ((IntKind.i64.wrap ((IntKind.i64.wrap ((IntKind.i64.wrap (x1.s.2 + 1)) + 1)) + 1)) + 1)) (x1.s.1[x1.i]?.getD default).S.End (x1.s.1[x1.i]?.getD default).S.Err (x1.s.1[x1.i]?.getD default).S.Attrs) (x1.s.1[x1.i]?.getD default).Trace (x1.s.1[x1.i]?.getD default).Stamp (x1.s.1[x1.i]?.getD default).Code (x1.s.1[x1.i]?.getD default).Keep (x1.s.1[x1.i]?.getD default).Void (x1.s.1[x1.i]?.getD default).Took (x1.s.1[x1.i]?.getD default).N (x1.s.1[x1.i]?.getD default).Forgot (x1.s.1[x1.i]?.getD default).Now (x1.s.1[x1.i]?.getD default).Inv (x1.s.1[x1.i]?.getD default).Lin (x1.s.1[x1.i]?.getD default).Res))) (by exact setMapS (by simp) (by first | rfl | (simp only [ha, Option.getD_some]; rfl) | (obtain ⟨_, rfl⟩ := List.getElem?_eq_some_iff.1 ha; rfl) | (simp only [Pol.cells_eq]; rfl) | (simp only [ha, Option.getD_some, Pol.cells_eq]; rfl))) ?_
    refine seqE ?_
    refine seqE ?_
    refine andE (by (first | omega | (simp (disch := omega) only [wrap_small, mid_eq, List.length_map]; omega) | (simp; done) | (simp; omega) | (simp at *; omega) | (simp at *; done) | (simp_all; done) | (simp_all; omega))) ?_
    refine rowsE (Y := List.map (Deed.cells true) (List.set x1.s.1 x1.i (Deed.mk x1.s.2 (IntKind.i64.wrap (x1.s.2 + 1)) (Span.mk (IntKind.i64.wrap ((IntKind.i64.wrap (x1.s.2 + 1)) + 1)) (IntKind.i64.wrap ((IntKind.i64.wrap ((IntKind.i64.wrap (x1.s.2 + 1)) + 1)) + 1)) (IntKind.i64.wrap ((IntKind.i64.wrap ((IntKind.i64.wrap ((IntKind.i64.wrap (x1.s.2 + 1)) + 1)) + 1)) + 1)) (IntKind.i64.wrap ((IntKind.i64.wrap ((IntKind.i64.wrap ((IntKind.i64.wrap ((IntKind.i64.wrap (x1.s.2 + 1)) + 1)) + 1)) + 1)) + 1)) (x1.s.1[x1.i]?.getD default).S.Err (x1.s.1[x1.i]?.getD default).S.Attrs) (x1.s.1[x1.i]?.getD default).Trace (x1.s.1[x1.i]?.getD default).Stamp (x1.s.1[x1.i]?.getD default).Code (x1.s.1[x1.i]?.getD default).Keep (x1.s.1[x1.i]?.getD default).Void (x1.s.1[x1.i]?.getD default).Took (x1.s.1[x1.i]?.getD default).N (x1.s.1[x1.i]?.getD default).Forgot (x1.s.1[x1.i]?.getD default).Now (x1.s.1[x1.i]?.getD default).Inv (x1.s.1[x1.i]?.getD default).Lin (x1.s.1[x1.i]?.getD default).Res))) (by exact setMapS (by simp) (by first | rfl | (simp only [ha, Option.getD_some]; rfl) | (obtain ⟨_, rfl⟩ := List.getElem?_eq_some_iff.1 ha; rfl) | (simp only [Pol.cells_eq]; rfl) | (simp only [ha, Option.getD_some, Pol.cells_eq]; rfl))) ?_
    refine seqE ?_
    refine seqE ?_
    refine andE (by (first | omega | (simp (disch := omega) only [wrap_small, mid_eq, List.length_map]; omega) | (simp; done) | (simp; omega) | (simp at *; omega) | (simp at *; done) | (simp_all; done) | (simp_all; omega))) ?_
    refine andE (by (first | omega | (simp (disch := omega) only [wrap_small, mid_eq, List.length_map]; omega) | (simp; done) | (simp; omega) | (simp at *; omega) | (simp at *; done) | (simp_all; done) | (simp_all; omega))) ?_
    refine rowsE (Y := List.map (Deed.cells true) (List.set x1.s.1 x1.i (Deed.mk x1.s.2 (IntKind.i64.wrap (x1.s.2 + 1)) (Span.mk (IntKind.i64.wrap ((IntKind.i64.wrap (x1.s.2 + 1)) + 1)) (IntKind.i64.wrap ((IntKind.i64.wrap ((IntKind.i64.wrap (x1.s.2 + 1)) + 1)) + 1)) (IntKind.i64.wrap ((IntKind.i64.wrap ((IntKind.i64.wrap ((IntKind.i64.wrap (x1.s.2 + 1)) + 1)) + 1)) + 1)) (IntKind.i64.wrap ((IntKind.i64.wrap ((IntKind.i64.wrap ((IntKind.i64.wrap ((IntKind.i64.wrap (x1.s.2 + 1)) + 1)) + 1)) + 1)) + 1)) ((Int.tmod (IntKind.i64.wrap ((IntKind.i64.wrap ((IntKind.i64.wrap ((IntKind.i64.wrap ((IntKind.i64.wrap ((IntKind.i64.wrap (x1.s.2 + 1)) + 1)) + 1)) + 1)) + 1)) + 1)) 3) == 0) (x1.s.1[x1.i]?.getD default).S.Attrs) (x1.s.1[x1.i]?.getD default).Trace (x1.s.1[x1.i]?.getD default).Stamp (x1.s.1[x1.i]?.getD default).Code (x1.s.1[x1.i]?.getD default).Keep (x1.s.1[x1.i]?.getD default).Void (x1.s.1[x1.i]?.getD default).Took (x1.s.1[x1.i]?.getD default).N (x1.s.1[x1.i]?.getD default).Forgot (x1.s.1[x1.i]?.getD default).Now (x1.s.1[x1.i]?.getD default).Inv (x1.s.1[x1.i]?.getD default).Lin (x1.s.1[x1.i]?.getD default).Res))) (by exact setMapS (by simp) (by first | rfl | (simp only [ha, Option.getD_some]; rfl) | (obtain ⟨_, rfl⟩ := List.getElem?_eq_some_iff.1 ha; rfl) | (simp only [Pol.cells_eq]; rfl) | (simp only [ha, Option.getD_some, Pol.cells_eq]; rfl))) ?_
    refine seqE ?_
    refine seqE ?_
    refine andE (by (first | omega | (simp (disch := omega) only [wrap_small, mid_eq, List.length_map]; omega) | (simp; done) | (simp; omega) | (simp at *; omega) | (simp at *; done) | (simp_all; done) | (simp_all; omega))) ?_
    refine rowSetE (i := x1.i) (l := x1.s.1) (x := (Deed.mk x1.s.2 (IntKind.i64.wrap (x1.s.2 + 1)) (Span.mk (IntKind.i64.wrap ((IntKind.i64.wrap (x1.s.2 + 1)) + 1)) (IntKind.i64.wrap ((IntKind.i64.wrap ((IntKind.i64.wrap (x1.s.2 + 1)) + 1)) + 1)) (IntKind.i64.wrap ((IntKind.i64.wrap ((IntKind.i64.wrap ((IntKind.i64.wrap (x1.s.2 + 1)) + 1)) + 1)) + 1)) (IntKind.i64.wrap ((IntKind.i64.wrap ((IntKind.i64.wrap ((IntKind.i64.wrap ((IntKind.i64.wrap (x1.s.2 + 1)) + 1)) + 1)) + 1)) + 1)) ((Int.tmod (IntKind.i64.wrap ((IntKind.i64.wrap ((IntKind.i64.wrap ((IntKind.i64.wrap ((IntKind.i64.wrap ((IntKind.i64.wrap (x1.s.2 + 1)) + 1)) + 1)) + 1)) + 1)) + 1)) 3) == 0) (x1.s.1[x1.i]?.getD default).S.Attrs) (x1.s.1[x1.i]?.getD default).Trace (x1.s.1[x1.i]?.getD default).Stamp (x1.s.1[x1.i]?.getD default).Code (x1.s.1[x1.i]?.getD default).Keep (x1.s.1[x1.i]?.getD default).Void (x1.s.1[x1.i]?.getD default).Took (x1.s.1[x1.i]?.getD default).N (x1.s.1[x1.i]?.getD default).Forgot (x1.s.1[x1.i]?.getD default).Now (x1.s.1[x1.i]?.getD default).Inv (x1.s.1[x1.i]?.getD default).Lin (x1.s.1[x1.i]?.getD default).Res)) (by first | rfl | exact Nat.zero_add _ | simp) (fun _ => ?_)
    refine .inr ⟨0, ?_⟩
    refine rowSetE (i := x1.i) (l := x1.s.1) (x := (Deed.mk x1.s.2 (IntKind.i64.wrap (x1.s.2 + 1)) (Span.mk (IntKind.i64.wrap ((IntKind.i64.wrap (x1.s.2 + 1)) + 1)) (IntKind.i64.wrap ((IntKind.i64.wrap ((IntKind.i64.wrap (x1.s.2 + 1)) + 1)) + 1)) (IntKind.i64.wrap ((IntKind.i64.wrap ((IntKind.i64.wrap ((IntKind.i64.wrap (x1.s.2 + 1)) + 1)) + 1)) + 1)) (IntKind.i64.wrap ((IntKind.i64.wrap ((IntKind.i64.wrap ((IntKind.i64.wrap ((IntKind.i64.wrap (x1.s.2 + 1)) + 1)) + 1)) + 1)) + 1)) ((Int.tmod (IntKind.i64.wrap ((IntKind.i64.wrap ((IntKind.i64.wrap ((IntKind.i64.wrap ((IntKind.i64.wrap ((IntKind.i64.wrap (x1.s.2 + 1)) + 1)) + 1)) + 1)) + 1)) + 1)) 3) == 0) (x1.s.1[x1.i]?.getD default).S.Attrs) (x1.s.1[x1.i]?.getD default).Trace (x1.s.1[x1.i]?.getD default).Stamp (x1.s.1[x1.i]?.getD default).Code (x1.s.1[x1.i]?.getD default).Keep (x1.s.1[x1.i]?.getD default).Void (x1.s.1[x1.i]?.getD default).Took (x1.s.1[x1.i]?.getD default).N (x1.s.1[x1.i]?.getD default).Forgot (x1.s.1[x1.i]?.getD default).Now (x1.s.1[x1.i]?.getD default).Inv (x1.s.1[x1.i]?.getD default).Lin (x1.s.1[x1.i]?.getD default).Res)) (by first | rfl | exact Nat.zero_add _ | simp) (fun _ => ?_)
    refine ⟨_, _, _, c_laws_markAttrS (x1.s.1[x1.i]?.getD default).S.Attrs (IntKind.i64.wrap ((IntKind.i64.wrap ((IntKind.i64.wrap ((IntKind.i64.wrap ((IntKind.i64.wrap ((IntKind.i64.wrap ((IntKind.i64.wrap (x1.s.2 + 1)) + 1)) + 1)) + 1)) + 1)) + 1)) + 1)), (FzAs.same _), .inl ?_⟩
    refine rowsE (Y := List.map (Deed.cells true) (List.set x1.s.1 x1.i (Deed.mk x1.s.2 (IntKind.i64.wrap (x1.s.2 + 1)) (Span.mk (IntKind.i64.wrap ((IntKind.i64.wrap (x1.s.2 + 1)) + 1)) (IntKind.i64.wrap ((IntKind.i64.wrap ((IntKind.i64.wrap (x1.s.2 + 1)) + 1)) + 1)) (IntKind.i64.wrap ((IntKind.i64.wrap ((IntKind.i64.wrap ((IntKind.i64.wrap (x1.s.2 + 1)) + 1)) + 1)) + 1)) (IntKind.i64.wrap ((IntKind.i64.wrap ((IntKind.i64.wrap ((IntKind.i64.wrap ((IntKind.i64.wrap (x1.s.2 + 1)) + 1)) + 1)) + 1)) + 1)) ((Int.tmod (IntKind.i64.wrap ((IntKind.i64.wrap ((IntKind.i64.wrap ((IntKind.i64.wrap ((IntKind.i64.wrap ((IntKind.i64.wrap (x1.s.2 + 1)) + 1)) + 1)) + 1)) + 1)) + 1)) 3) == 0) (laws_markAttrS (x1.s.1[x1.i]?.getD default).S.Attrs (IntKind.i64.wrap ((IntKind.i64.wrap ((IntKind.i64.wrap ((IntKind.i64.wrap ((IntKind.i64.wrap ((IntKind.i64.wrap ((IntKind.i64.wrap (x1.s.2 + 1)) + 1)) + 1)) + 1)) + 1)) + 1)) + 1))).2) (x1.s.1[x1.i]?.getD default).Trace (x1.s.1[x1.i]?.getD default).Stamp (x1.s.1[x1.i]?.getD default).Code (x1.s.1[x1.i]?.getD default).Keep (x1.s.1[x1.i]?.getD default).Void (x1.s.1[x1.i]?.getD default).Took (x1.s.1[x1.i]?.getD default).N (x1.s.1[x1.i]?.getD default).Forgot (x1.s.1[x1.i]?.getD default).Now (x1.s.1[x1.i]?.getD default).Inv (x1.s.1[x1.i]?.getD default).Lin (x1.s.1[x1.i]?.getD default).Res))) (by exact setMapS (by simp) (by first | rfl | (simp only [ha, Option.getD_some]; rfl) | (obtain ⟨_, rfl⟩ := List.getElem?_eq_some_iff.1 ha; rfl) | (simp only [Pol.cells_eq]; rfl) | (simp only [ha, Option.getD_some, Pol.cells_eq]; rfl))) ?_
    refine litE (m := 3) rfl ?_
    refine seqE ?_
    refine andE (by (first | omega | (simp (disch := omega) only [wrap_small, mid_eq, List.length_map]; omega) | (simp; done) | (simp; omega) | (simp at *; omega) | (simp at *; done) | (simp_all; done) | (simp_all; omega))) ?_
    refine rowsE (Y := List.map (Deed.cells true) (List.set x1.s.1 x1.i (Deed.mk x1.s.2 (IntKind.i64.wrap (x1.s.2 + 1)) (Span.mk (IntKind.i64.wrap ((IntKind.i64.wrap (x1.s.2 + 1)) + 1)) (IntKind.i64.wrap ((IntKind.i64.wrap ((IntKind.i64.wrap (x1.s.2 + 1)) + 1)) + 1)) (IntKind.i64.wrap ((IntKind.i64.wrap ((IntKind.i64.wrap ((IntKind.i64.wrap (x1.s.2 + 1)) + 1)) + 1)) + 1)) (IntKind.i64.wrap ((IntKind.i64.wrap ((IntKind.i64.wrap ((IntKind.i64.wrap ((IntKind.i64.wrap (x1.s.2 + 1)) + 1)) + 1)) + 1)) + 1)) ((Int.tmod (IntKind.i64.wrap ((IntKind.i64.wrap ((IntKind.i64.wrap ((IntKind.i64.wrap ((IntKind.i64.wrap ((IntKind.i64.wrap (x1.s.2 + 1)) + 1)) + 1)) + 1)) + 1)) + 1)) 3) == 0) (laws_markAttrS (x1.s.1[x1.i]?.getD default).S.Attrs (IntKind.i64.wrap ((IntKind.i64.wrap ((IntKind.i64.wrap ((IntKind.i64.wrap ((IntKind.i64.wrap ((IntKind.i64.wrap ((IntKind.i64.wrap (x1.s.2 + 1)) + 1)) + 1)) + 1)) + 1)) + 1)) + 1))).2) (laws_markAttrS (x1.s.1[x1.i]?.getD default).S.Attrs (IntKind.i64.wrap ((IntKind.i64.wrap ((IntKind.i64.wrap ((IntKind.i64.wrap ((IntKind.i64.wrap ((IntKind.i64.wrap ((IntKind.i64.wrap (x1.s.2 + 1)) + 1)) + 1)) + 1)) + 1)) + 1)) + 1))).1 (x1.s.1[x1.i]?.getD default).Stamp (x1.s.1[x1.i]?.getD default).Code (x1.s.1[x1.i]?.getD default).Keep (x1.s.1[x1.i]?.getD default).Void (x1.s.1[x1.i]?.getD default).Took (x1.s.1[x1.i]?.getD default).N (x1.s.1[x1.i]?.getD default).Forgot (x1.s.1[x1.i]?.getD default).Now (x1.s.1[x1.i]?.getD default).Inv (x1.s.1[x1.i]?.getD default).Lin (x1.s.1[x1.i]?.getD default).Res))) (by exact setMapS (by simp) (by first | rfl | (simp only [ha, Option.getD_some]; rfl) | (obtain ⟨_, rfl⟩ := List.getElem?_eq_some_iff.1 ha; rfl) | (simp only [Pol.cells_eq]; rfl) | (simp only [ha, Option.getD_some, Pol.cells_eq]; rfl))) ?_
    refine seqE ?_
    refine seqE ?_
    refine andE (by (first | omega | (simp (disch := omega) only [wrap_small, mid_eq, List.length_map]; omega) | (simp; done) | (simp; omega) | (simp at *; omega) | (simp at *; done) | (simp_all; done) | (simp_all; omega))) ?_
    refine rowsE (Y := List.map (Deed.cells true) (List.set x1.s.1 x1.i (Deed.mk x1.s.2 (IntKind.i64.wrap (x1.s.2 + 1)) (Span.mk (IntKind.i64.wrap ((IntKind.i64.wrap (x1.s.2 + 1)) + 1)) (IntKind.i64.wrap ((IntKind.i64.wrap ((IntKind.i64.wrap (x1.s.2 + 1)) + 1)) + 1)) (IntKind.i64.wrap ((IntKind.i64.wrap ((IntKind.i64.wrap ((IntKind.i64.wrap (x1.s.2 + 1)) + 1)) + 1)) + 1)) (IntKind.i64.wrap ((IntKind.i64.wrap ((IntKind.i64.wrap ((IntKind.i64.wrap ((IntKind.i64.wrap (x1.s.2 + 1)) + 1)) + 1)) + 1)) + 1)) ((Int.tmod (IntKind.i64.wrap ((IntKind.i64.wrap ((IntKind.i64.wrap ((IntKind.i64.wrap ((IntKind.i64.wrap ((IntKind.i64.wrap (x1.s.2 + 1)) + 1)) + 1)) + 1)) + 1)) + 1)) 3) == 0) (laws_markAttrS (x1.s.1[x1.i]?.getD default).S.Attrs (IntKind.i64.wrap ((IntKind.i64.wrap ((IntKind.i64.wrap ((IntKind.i64.wrap ((IntKind.i64.wrap ((IntKind.i64.wrap ((IntKind.i64.wrap (x1.s.2 + 1)) + 1)) + 1)) + 1)) + 1)) + 1)) + 1))).2) (laws_markAttrS (x1.s.1[x1.i]?.getD default).S.Attrs (IntKind.i64.wrap ((IntKind.i64.wrap ((IntKind.i64.wrap ((IntKind.i64.wrap ((IntKind.i64.wrap ((IntKind.i64.wrap ((IntKind.i64.wrap (x1.s.2 + 1)) + 1)) + 1)) + 1)) + 1)) + 1)) + 1))).1 (IntKind.i64.wrap ((laws_markAttrS (x1.s.1[x1.i]?.getD default).S.Attrs (IntKind.i64.wrap ((IntKind.i64.wrap ((IntKind.i64.wrap ((IntKind.i64.wrap ((IntKind.i64.wrap ((IntKind.i64.wrap ((IntKind.i64.wrap (x1.s.2 + 1)) + 1)) + 1)) + 1)) + 1)) + 1)) + 1))).1 + 1)) (x1.s.1[x1.i]?.getD default).Code (x1.s.1[x1.i]?.getD default).Keep (x1.s.1[x1.i]?.getD default).Void (x1.s.1[x1.i]?.getD default).Took (x1.s.1[x1.i]?.getD default).N (x1.s.1[x1.i]?.getD default).Forgot (x1.s.1[x1.i]?.getD default).Now (x1.s.1[x1.i]?.getD default).Inv (x1.s.1[x1.i]?.getD default).Lin (x1.s.1[x1.i]?.getD default).Res))) (by exact setMapS (by simp) (by first | rfl | (simp only [ha, Option.getD_some]; rfl) | (obtain ⟨_, rfl⟩ := List.getElem?_eq_some_iff.1 ha; rfl) | (simp only [Pol.cells_eq]; rfl) | (simp only [ha, Option.getD_some, Pol.cells_eq]; rfl))) ?_
    refine seqE ?_
    refine seqE ?_
    refine andE (by (first | omega | (simp (disch := omega) only [wrap_small, mid_eq, List.length_map]; omega) | (simp; done) | (simp; omega) | (simp at *; omega) | (simp at *; done) | (simp_all; done) | (simp_all; omega))) ?_
    refine rowsE (Y := List.map (Deed.cells true) (List.set x1.s.1 x1.i (Deed.mk x1.s.2 (IntKind.i64.wrap (x1.s.2 + 1)) (Span.mk (IntKind.i64.wrap ((IntKind.i64.wrap (x1.s.2 + 1)) + 1)) (IntKind.i64.wrap ((IntKind.i64.wrap ((IntKind.i64.wrap (x1.s.2 + 1)) + 1)) + 1)) (IntKind.i64.wrap ((IntKind.i64.wrap ((IntKind.i64.wrap ((IntKind.i64.wrap (x1.s.2 + 1)) + 1)) + 1)) + 1)) (IntKind.i64.wrap ((IntKind.i64.wrap ((IntKind.i64.wrap ((IntKind.i64.wrap ((IntKind.i64.wrap (x1.s.2 + 1)) + 1)) + 1)) + 1)) + 1)) ((Int.tmod (IntKind.i64.wrap ((IntKind.i64.wrap ((IntKind.i64.wrap ((IntKind.i64.wrap ((IntKind.i64.wrap ((IntKind.i64.wrap (x1.s.2 + 1)) + 1)) + 1)) + 1)) + 1)) + 1)) 3) == 0) (laws_markAttrS (x1.s.1[x1.i]?.getD default).S.Attrs (IntKind.i64.wrap ((IntKind.i64.wrap ((IntKind.i64.wrap ((IntKind.i64.wrap ((IntKind.i64.wrap ((IntKind.i64.wrap ((IntKind.i64.wrap (x1.s.2 + 1)) + 1)) + 1)) + 1)) + 1)) + 1)) + 1))).2) (laws_markAttrS (x1.s.1[x1.i]?.getD default).S.Attrs (IntKind.i64.wrap ((IntKind.i64.wrap ((IntKind.i64.wrap ((IntKind.i64.wrap ((IntKind.i64.wrap ((IntKind.i64.wrap ((IntKind.i64.wrap (x1.s.2 + 1)) + 1)) + 1)) + 1)) + 1)) + 1)) + 1))).1 (IntKind.i64.wrap ((laws_markAttrS (x1.s.1[x1.i]?.getD default).S.Attrs (IntKind.i64.wrap ((IntKind.i64.wrap ((IntKind.i64.wrap ((IntKind.i64.wrap ((IntKind.i64.wrap ((IntKind.i64.wrap ((IntKind.i64.wrap (x1.s.2 + 1)) + 1)) + 1)) + 1)) + 1)) + 1)) + 1))).1 + 1)) (IntKind.i64.wrap ((IntKind.i64.wrap ((laws_markAttrS (x1.s.1[x1.i]?.getD default).S.Attrs (IntKind.i64.wrap ((IntKind.i64.wrap ((IntKind.i64.wrap ((IntKind.i64.wrap ((IntKind.i64.wrap ((IntKind.i64.wrap ((IntKind.i64.wrap (x1.s.2 + 1)) + 1)) + 1)) + 1)) + 1)) + 1)) + 1))).1 + 1)) + 1)) (x1.s.1[x1.i]?.getD default).Keep (x1.s.1[x1.i]?.getD default).Void (x1.s.1[x1.i]?.getD default).Took (x1.s.1[x1.i]?.getD default).N (x1.s.1[x1.i]?.getD default).Forgot (x1.s.1[x1.i]?.getD default).Now (x1.s.1[x1.i]?.getD default).Inv (x1.s.1[x1.i]?.getD default).Lin (x1.s.1[x1.i]?.getD default).Res))) (by exact setMapS (by simp) (by first | rfl | (simp only [ha, Option.getD_some]; rfl) | (obtain ⟨_, rfl⟩ := List.getElem?_eq_some_iff.1 ha; rfl) | (simp only [Pol.cells_eq]; rfl) | (simp only [ha, Option.getD_some, Pol.cells_eq]; rfl))) ?_
    refine seqE ?_
    refine seqE ?_
    refine andE (by (first | omega | (simp (disch := omega) only [wrap_small, mid_eq, List.length_map]; omega) | (simp; done) | (simp; omega) | (simp at *; omega) | (simp at *; done) | (simp_all; done) | (simp_all; omega))) ?_
    refine andE (by (first | omega | (simp (disch := omega) only [wrap_small, mid_eq, List.length_map]; omega) | (simp; done) | (simp; omega) | (simp at *; omega) | (simp at *; done) | (simp_all; done) | (simp_all; omega))) ?_
    refine rowsE (Y := List.map (Deed.cells true) (List.set x1.s.1 x1.i (Deed.mk x1.s.2 (IntKind.i64.wrap (x1.s.2 + 1)) (Span.mk (IntKind.i64.wrap ((IntKind.i64.wrap (x1.s.2 + 1)) + 1)) (IntKind.i64.wrap ((IntKind.i64.wrap ((IntKind.i64.wrap (x1.s.2 + 1)) + 1)) + 1)) (IntKind.i64.wrap ((IntKind.i64.wrap ((IntKind.i64.wrap ((IntKind.i64.wrap (x1.s.2 + 1)) + 1)) + 1)) + 1)) (IntKind.i64.wrap ((IntKind.i64.wrap ((IntKind.i64.wrap ((IntKind.i64.wrap ((IntKind.i64.wrap (x1.s.2 + 1)) + 1)) + 1)) + 1)) + 1)) ((Int.tmod (IntKind.i64.wrap ((IntKind.i64.wrap ((IntKind.i64.wrap ((IntKind.i64.wrap ((IntKind.i64.wrap ((IntKind.i64.wrap (x1.s.2 + 1)) + 1)) + 1)) + 1)) + 1)) + 1)) 3) == 0) (laws_markAttrS (x1.s.1[x1.i]?.getD default).S.Attrs (IntKind.i64.wrap ((IntKind.i64.wrap ((IntKind.i64.wrap ((IntKind.i64.wrap ((IntKind.i64.wrap ((IntKind.i64.wrap ((IntKind.i64.wrap (x1.s.2 + 1)) + 1)) + 1)) + 1)) + 1)) + 1)) + 1))).2) (laws_markAttrS (x1.s.1[x1.i]?.getD default).S.Attrs (IntKind.i64.wrap ((IntKind.i64.wrap ((IntKind.i64.wrap ((IntKind.i64.wrap ((IntKind.i64.wrap ((IntKind.i64.wrap ((IntKind.i64.wrap (x1.s.2 + 1)) + 1)) + 1)) + 1)) + 1)) + 1)) + 1))).1 (IntKind.i64.wrap ((laws_markAttrS (x1.s.1[x1.i]?.getD default).S.Attrs (IntKind.i64.wrap ((IntKind.i64.wrap ((IntKind.i64.wrap ((IntKind.i64.wrap ((IntKind.i64.wrap ((IntKind.i64.wrap ((IntKind.i64.wrap (x1.s.2 + 1)) + 1)) + 1)) + 1)) + 1)) + 1)) + 1))).1 + 1)) (IntKind.i64.wrap ((IntKind.i64.wrap ((laws_markAttrS (x1.s.1[x1.i]?.getD default).S.Attrs (IntKind.i64.wrap ((IntKind.i64.wrap ((IntKind.i64.wrap ((IntKind.i64.wrap ((IntKind.i64.wrap ((IntKind.i64.wrap ((IntKind.i64.wrap (x1.s.2 + 1)) + 1)) + 1)) + 1)) + 1)) + 1)) + 1))).1 + 1)) + 1)) ((Int.tmod (IntKind.i64.wrap ((IntKind.i64.wrap ((IntKind.i64.wrap ((laws_markAttrS (x1.s.1[x1.i]?.getD default).S.Attrs (IntKind.i64.wrap ((IntKind.i64.wrap ((IntKind.i64.wrap ((IntKind.i64.wrap ((IntKind.i64.wrap ((IntKind.i64.wrap ((IntKind.i64.wrap (x1.s.2 + 1)) + 1)) + 1)) + 1)) + 1)) + 1)) + 1))).1 + 1)) + 1)) + 1)) 3) == 0) (x1.s.1[x1.i]?.getD default).Void (x1.s.1[x1.i]?.getD default).Took (x1.s.1[x1.i]?.getD default).N (x1.s.1[x1.i]?.getD default).Forgot (x1.s.1[x1.i]?.getD default).Now (x1.s.1[x1.i]?.getD default).Inv (x1.s.1[x1.i]?.getD default).Lin (x1.s.1[x1.i]?.getD default).Res))) (by exact setMapS (by simp) (by first | rfl | (simp only [ha, Option.getD_some]; rfl) | (obtain ⟨_, rfl⟩ := List.getElem?_eq_some_iff.1 ha; rfl) | (simp only [Pol.cells_eq]; rfl) | (simp only [ha, Option.getD_some, Pol.cells_eq]; rfl))) ?_
    refine seqE ?_
    refine seqE ?_
    refine andE (by (first | omega | (simp (disch := omega) only [wrap_small, mid_eq, List.length_map]; omega) | (simp; done) | (simp; omega) | (simp at *; omega) | (simp at *; done) | (simp_all; done) | (simp_all; omega))) ?_
    refine andE (by (first | omega | (simp (disch := omega) only [wrap_small, mid_eq, List.length_map]; omega) | (simp; done) | (simp; omega) | (simp at *; omega) | (simp at *; done) | (simp_all; done) | (simp_all; omega))) ?_
    refine rowsE (Y := List.map (Deed.cells true) (List.set x1.s.1 x1.i (Deed.mk x1.s.2 (IntKind.i64.wrap (x1.s.2 + 1)) (Span.mk (IntKind.i64.wrap ((IntKind.i64.wrap (x1.s.2 + 1)) + 1)) (IntKind.i64.wrap ((IntKind.i64.wrap ((IntKind.i64.wrap (x1.s.2 + 1)) + 1)) + 1)) (IntKind.i64.wrap ((IntKind.i64.wrap ((IntKind.i64.wrap ((IntKind.i64.wrap (x1.s.2 + 1)) + 1)) + 1)) + 1)) (IntKind.i64.wrap ((IntKind.i64.wrap ((IntKind.i64.wrap ((IntKind.i64.wrap ((IntKind.i64.wrap (x1.s.2 + 1)) + 1)) + 1)) + 1)) + 1)) ((Int.tmod (IntKind.i64.wrap ((IntKind.i64.wrap ((IntKind.i64.wrap ((IntKind.i64.wrap ((IntKind.i64.wrap ((IntKind.i64.wrap (x1.s.2 + 1)) + 1)) + 1)) + 1)) + 1)) + 1)) 3) == 0) (laws_markAttrS (x1.s.1[x1.i]?.getD default).S.Attrs (IntKind.i64.wrap ((IntKind.i64.wrap ((IntKind.i64.wrap ((IntKind.i64.wrap ((IntKind.i64.wrap ((IntKind.i64.wrap ((IntKind.i64.wrap (x1.s.2 + 1)) + 1)) + 1)) + 1)) + 1)) + 1)) + 1))).2) (laws_markAttrS (x1.s.1[x1.i]?.getD default).S.Attrs (IntKind.i64.wrap ((IntKind.i64.wrap ((IntKind.i64.wrap ((IntKind.i64.wrap ((IntKind.i64.wrap ((IntKind.i64.wrap ((IntKind.i64.wrap (x1.s.2 + 1)) + 1)) + 1)) + 1)) + 1)) + 1)) + 1))).1 (IntKind.i64.wrap ((laws_markAttrS (x1.s.1[x1.i]?.getD default).S.Attrs (IntKind.i64.wrap ((IntKind.i64.wrap ((IntKind.i64.wrap ((IntKind.i64.wrap ((IntKind.i64.wrap ((IntKind.i64.wrap ((IntKind.i64.wrap (x1.s.2 + 1)) + 1)) + 1)) + 1)) + 1)) + 1)) + 1))).1 + 1)) (IntKind.i64.wrap ((IntKind.i64.wrap ((laws_markAttrS (x1.s.1[x1.i]?.getD default).S.Attrs (IntKind.i64.wrap ((IntKind.i64.wrap ((IntKind.i64.wrap ((IntKind.i64.wrap ((IntKind.i64.wrap ((IntKind.i64.wrap ((IntKind.i64.wrap (x1.s.2 + 1)) + 1)) + 1)) + 1)) + 1)) + 1)) + 1))).1 + 1)) + 1)) ((Int.tmod (IntKind.i64.wrap ((IntKind.i64.wrap ((IntKind.i64.wrap ((laws_markAttrS (x1.s.1[x1.i]?.getD default).S.Attrs (IntKind.i64.wrap ((IntKind.i64.wrap ((IntKind.i64.wrap ((IntKind.i64.wrap ((IntKind.i64.wrap ((IntKind.i64.wrap ((IntKind.i64.wrap (x1.s.2 + 1)) + 1)) + 1)) + 1)) + 1)) + 1)) + 1))).1 + 1)) + 1)) + 1)) 3) == 0) ((Int.tmod (IntKind.i64.wrap ((IntKind.i64.wrap ((IntKind.i64.wrap ((IntKind.i64.wrap ((laws_markAttrS (x1.s.1[x1.i]?.getD default).S.Attrs (IntKind.i64.wrap ((IntKind.i64.wrap ((IntKind.i64.wrap ((IntKind.i64.wrap ((IntKind.i64.wrap ((IntKind.i64.wrap ((IntKind.i64.wrap (x1.s.2 + 1)) + 1)) + 1)) + 1)) + 1)) + 1)) + 1))).1 + 1)) + 1)) + 1)) + 1)) 3) == 0) (x1.s.1[x1.i]?.getD default).Took (x1.s.1[x1.i]?.getD default).N (x1.s.1[x1.i]?.getD default).Forgot (x1.s.1[x1.i]?.getD default).Now (x1.s.1[x1.i]?.getD default).Inv (x1.s.1[x1.i]?.getD default).Lin (x1.s.1[x1.i]?.getD default).Res))) (by exact setMapS (by simp) (by first | rfl | (simp only [ha, Option.getD_some]; rfl) | (obtain ⟨_, rfl⟩ := List.getElem?_eq_some_iff.1 ha; rfl) | (simp only [Pol.cells_eq]; rfl) | (simp only [ha, Option.getD_some, Pol.cells_eq]; rfl))) ?_
    refine seqE ?_
    refine seqE ?_
    refine andE (by (first | omega | (simp (disch := omega) only [wrap_small, mid_eq, List.length_map]; omega) | (simp; done) | (simp; omega) | (simp at *; omega) | (simp at *; done) | (simp_all; done) | (simp_all; omega))) ?_
    refine rowsE (Y := List.map (Deed.cells true) (List.set x1.s.1 x1.i (Deed.mk x1.s.2 (IntKind.i64.wrap (x1.s.2 + 1)) (Span.mk (IntKind.i64.wrap ((IntKind.i64.wrap (x1.s.2 + 1)) + 1)) (IntKind.i64.wrap ((IntKind.i64.wrap ((IntKind.i64.wrap (x1.s.2 + 1)) + 1)) + 1)) (IntKind.i64.wrap ((IntKind.i64.wrap ((IntKind.i64.wrap ((IntKind.i64.wrap (x1.s.2 + 1)) + 1)) + 1)) + 1)) (IntKind.i64.wrap ((IntKind.i64.wrap ((IntKind.i64.wrap ((IntKind.i64.wrap ((IntKind.i64.wrap (x1.s.2 + 1)) + 1)) + 1)) + 1)) + 1)) ((Int.tmod (IntKind.i64.wrap ((IntKind.i64.wrap ((IntKind.i64.wrap ((IntKind.i64.wrap ((IntKind.i64.wrap ((IntKind.i64.wrap (x1.s.2 + 1)) + 1)) + 1)) + 1)) + 1)) + 1)) 3) == 0) (laws_markAttrS (x1.s.1[x1.i]?.getD default).S.Attrs (IntKind.i64.wrap ((IntKind.i64.wrap ((IntKind.i64.wrap ((IntKind.i64.wrap ((IntKind.i64.wrap ((IntKind.i64.wrap ((IntKind.i64.wrap (x1.s.2 + 1)) + 1)) + 1)) + 1)) + 1)) + 1)) + 1))).2) (laws_markAttrS (x1.s.1[x1.i]?.getD default).S.Attrs (IntKind.i64.wrap ((IntKind.i64.wrap ((IntKind.i64.wrap ((IntKind.i64.wrap ((IntKind.i64.wrap ((IntKind.i64.wrap ((IntKind.i64.wrap (x1.s.2 + 1)) + 1)) + 1)) + 1)) + 1)) + 1)) + 1))).1 (IntKind.i64.wrap ((laws_markAttrS (x1.s.1[x1.i]?.getD default).S.Attrs (IntKind.i64.wrap ((IntKind.i64.wrap ((IntKind.i64.wrap ((IntKind.i64.wrap ((IntKind.i64.wrap ((IntKind.i64.wrap ((IntKind.i64.wrap (x1.s.2 + 1)) + 1)) + 1)) + 1)) + 1)) + 1)) + 1))).1 + 1)) (IntKind.i64.wrap ((IntKind.i64.wrap ((laws_markAttrS (x1.s.1[x1.i]?.getD default).S.Attrs (IntKind.i64.wrap ((IntKind.i64.wrap ((IntKind.i64.wrap ((IntKind.i64.wrap ((IntKind.i64.wrap ((IntKind.i64.wrap ((IntKind.i64.wrap (x1.s.2 + 1)) + 1)) + 1)) + 1)) + 1)) + 1)) + 1))).1 + 1)) + 1)) ((Int.tmod (IntKind.i64.wrap ((IntKind.i64.wrap ((IntKind.i64.wrap ((laws_markAttrS (x1.s.1[x1.i]?.getD default).S.Attrs (IntKind.i64.wrap ((IntKind.i64.wrap ((IntKind.i64.wrap ((IntKind.i64.wrap ((IntKind.i64.wrap ((IntKind.i64.wrap ((IntKind.i64.wrap (x1.s.2 + 1)) + 1)) + 1)) + 1)) + 1)) + 1)) + 1))).1 + 1)) + 1)) + 1)) 3) == 0) ((Int.tmod (IntKind.i64.wrap ((IntKind.i64.wrap ((IntKind.i64.wrap ((IntKind.i64.wrap ((laws_markAttrS (x1.s.1[x1.i]?.getD default).S.Attrs (IntKind.i64.wrap ((IntKind.i64.wrap ((IntKind.i64.wrap ((IntKind.i64.wrap ((IntKind.i64.wrap ((IntKind.i64.wrap ((IntKind.i64.wrap (x1.s.2 + 1)) + 1)) + 1)) + 1)) + 1)) + 1)) + 1))).1 + 1)) + 1)) + 1)) + 1)) 3) == 0) (IntKind.i64.wrap ((IntKind.i64.wrap ((IntKind.i64.wrap ((IntKind.i64.wrap ((IntKind.i64.wrap ((laws_markAttrS (x1.s.1[x1.i]?.getD default).S.Attrs (IntKind.i64.wrap ((IntKind.i64.wrap ((IntKind.i64.wrap ((IntKind.i64.wrap ((IntKind.i64.wrap ((IntKind.i64.wrap ((IntKind.i64.wrap (x1.s.2 + 1)) + 1)) + 1)) + 1)) + 1)) + 1)) + 1))).1 + 1)) + 1)) + 1)) + 1)) + 1)) (x1.s.1[x1.i]?.getD default).N (x1.s.1[x1.i]?.getD default).Forgot (x1.s.1[x1.i]?.getD default).Now (x1.s.1[x1.i]?.getD default).Inv (x1.s.1[x1.i]?.getD default).Lin (x1.s.1[x1.i]?.getD default).Res))) (by exact setMapS (by simp) (by first | rfl | (simp only [ha, Option.getD_some]; rfl) | (obtain ⟨_, rfl⟩ := List.getElem?_eq_some_iff.1 ha; rfl) | (simp only [Pol.cells_eq]; rfl) | (simp only [ha, Option.getD_some, Pol.cells_eq]; rfl))) ?_
    refine seqE ?_
    refine seqE ?_
    refine andE (by (first | omega | (simp (disch := omega) only [wrap_small, mid_eq, List.length_map]; omega) | (simp; done) | (simp; omega) | (simp at *; omega) | (simp at *; done) | (simp_all; done) | (simp_all; omega))) ?_
    refine rowsE (Y := List.map (Deed.cells true) (List.set x1.s.1 x1.i (Deed.mk x1.s.2 (IntKind.i64.wrap (x1.s.2 + 1)) (Span.mk (IntKind.i64.wrap ((IntKind.i64.wrap (x1.s.2 + 1)) + 1)) (IntKind.i64.wrap ((IntKind.i64.wrap ((IntKind.i64.wrap (x1.s.2 + 1)) + 1)) + 1)) (IntKind.i64.wrap ((IntKind.i64.wrap ((IntKind.i64.wrap ((IntKind.i64.wrap (x1.s.2 + 1)) + 1)) + 1)) + 1)) (IntKind.i64.wrap ((IntKind.i64.wrap ((IntKind.i64.wrap ((IntKind.i64.wrap ((IntKind.i64.wrap (x1.s.2 + 1)) + 1)) + 1)) + 1)) + 1)) ((Int.tmod (IntKind.i64.wrap ((IntKind.i64.wrap ((IntKind.i64.wrap ((IntKind.i64.wrap ((IntKind.i64.wrap ((IntKind.i64.wrap (x1.s.2 + 1)) + 1)) + 1)) + 1)) + 1)) + 1)) 3) == 0) (laws_markAttrS (x1.s.1[x1.i]?.getD default).S.Attrs (IntKind.i64.wrap ((IntKind.i64.wrap ((IntKind.i64.wrap ((IntKind.i64.wrap ((IntKind.i64.wrap ((IntKind.i64.wrap ((IntKind.i64.wrap (x1.s.2 + 1)) + 1)) + 1)) + 1)) + 1)) + 1)) + 1))).2) (laws_markAttrS (x1.s.1[x1.i]?.getD default).S.Attrs (IntKind.i64.wrap ((IntKind.i64.wrap ((IntKind.i64.wrap ((IntKind.i64.wrap ((IntKind.i64.wrap ((IntKind.i64.wrap ((IntKind.i64.wrap (x1.s.2 + 1)) + 1)) + 1)) + 1)) + 1)) + 1)) + 1))).1 (IntKind.i64.wrap ((laws_markAttrS (x1.s.1[x1.i]?.getD default).S.Attrs (IntKind.i64.wrap ((IntKind.i64.wrap ((IntKind.i64.wrap ((IntKind.i64.wrap ((IntKind.i64.wrap ((IntKind.i64.wrap ((IntKind.i64.wrap (x1.s.2 + 1)) + 1)) + 1)) + 1)) + 1)) + 1)) + 1))).1 + 1)) (IntKind.i64.wrap ((IntKind.i64.wrap ((laws_markAttrS (x1.s.1[x1.i]?.getD default).S.Attrs (IntKind.i64.wrap ((IntKind.i64.wrap ((IntKind.i64.wrap ((IntKind.i64.wrap ((IntKind.i64.wrap ((IntKind.i64.wrap ((IntKind.i64.wrap (x1.s.2 + 1)) + 1)) + 1)) + 1)) + 1)) + 1)) + 1))).1 + 1)) + 1)) ((Int.tmod (IntKind.i64.wrap ((IntKind.i64.wrap ((IntKind.i64.wrap ((laws_markAttrS (x1.s.1[x1.i]?.getD default).S.Attrs (IntKind.i64.wrap ((IntKind.i64.wrap ((IntKind.i64.wrap ((IntKind.i64.wrap ((IntKind.i64.wrap ((IntKind.i64.wrap ((IntKind.i64.wrap (x1.s.2 + 1)) + 1)) + 1)) + 1)) + 1)) + 1)) + 1))).1 + 1)) + 1)) + 1)) 3) == 0) ((Int.tmod (IntKind.i64.wrap ((IntKind.i64.wrap ((IntKind.i64.wrap ((IntKind.i64.wrap ((laws_markAttrS (x1.s.1[x1.i]?.getD default).S.Attrs (IntKind.i64.wrap ((IntKind.i64.wrap ((IntKind.i64.wrap ((IntKind.i64.wrap ((IntKind.i64.wrap ((IntKind.i64.wrap ((IntKind.i64.wrap (x1.s.2 + 1)) + 1)) + 1)) + 1)) + 1)) + 1)) + 1))).1 + 1)) + 1)) + 1)) + 1)) 3) == 0) (IntKind.i64.wrap ((IntKind.i64.wrap ((IntKind.i64.wrap ((IntKind.i64.wrap ((IntKind.i64.wrap ((laws_markAttrS (x1.s.1[x1.i]?.getD default).S.Attrs (IntKind.i64.wrap ((IntKind.i64.wrap ((IntKind.i64.wrap ((IntKind.i64.wrap ((IntKind.i64.wrap ((IntKind.i64.wrap ((IntKind.i64.wrap (x1.s.2 + 1)) + 1)) + 1)) + 1)) + 1)) + 1)) + 1))).1 + 1)) + 1)) + 1)) + 1)) + 1)) (IntKind.i64.wrap ((IntKind.i64.wrap ((IntKind.i64.wrap ((IntKind.i64.wrap ((IntKind.i64.wrap ((IntKind.i64.wrap ((laws_markAttrS (x1.s.1[x1.i]?.getD default).S.Attrs (IntKind.i64.wrap ((IntKind.i64.wrap ((IntKind.i64.wrap ((IntKind.i64.wrap ((IntKind.i64.wrap ((IntKind.i64.wrap ((IntKind.i64.wrap (x1.s.2 + 1)) + 1)) + 1)) + 1)) + 1)) + 1)) + 1))).1 + 1)) + 1)) + 1)) + 1)) + 1)) + 1)) (x1.s.1[x1.i]?.getD default).Forgot (x1.s.1[x1.i]?.getD default).Now (x1.s.1[x1.i]?.getD default).Inv (x1.s.1[x1.i]?.getD default).Lin (x1.s.1[x1.i]?.getD default).Res))) (by exact setMapS (by simp) (by first | rfl | (simp only [ha, Option.getD_some]; rfl) | (obtain ⟨_, rfl⟩ := List.getElem?_eq_some_iff.1 ha; rfl) | (simp only [Pol.cells_eq]; rfl) | (simp only [ha, Option.getD_some, Pol.cells_eq]; rfl))) ?_
    refine seqE ?_
    refine seqE ?_
    refine andE (by (first | omega | (simp (disch := omega) only [wrap_small, mid_eq, List.length_map]; omega) | (simp; done) | (simp; omega) | (simp at *; omega) | (simp at *; done) | (simp_all; done) | (simp_all; omega))) ?_
    refine rowsE (Y := List.map (Deed.cells true) (List.set x1.s.1 x1.i (Deed.mk x1.s.2 (IntKind.i64.wrap (x1.s.2 + 1)) (Span.mk (IntKind.i64.wrap ((IntKind.i64.wrap (x1.s.2 + 1)) + 1)) (IntKind.i64.wrap ((IntKind.i64.wrap ((IntKind.i64.wrap (x1.s.2 + 1)) + 1)) + 1)) (IntKind.i64.wrap ((IntKind.i64.wrap ((IntKind.i64.wrap ((IntKind.i64.wrap (x1.s.2 + 1)) + 1)) + 1)) + 1)) (IntKind.i64.wrap ((IntKind.i64.wrap ((IntKind.i64.wrap ((IntKind.i64.wrap ((IntKind.i64.wrap (x1.s.2 + 1)) + 1)) + 1)) + 1)) + 1)) ((Int.tmod (IntKind.i64.wrap ((IntKind.i64.wrap ((IntKind.i64.wrap ((IntKind.i64.wrap ((IntKind.i64.wrap ((IntKind.i64.wrap (x1.s.2 + 1)) + 1)) + 1)) + 1)) + 1)) + 1)) 3) == 0) (laws_markAttrS (x1.s.1[x1.i]?.getD default).S.Attrs (IntKind.i64.wrap ((IntKind.i64.wrap ((IntKind.i64.wrap ((IntKind.i64.wrap ((IntKind.i64.wrap ((IntKind.i64.wrap ((IntKind.i64.wrap (x1.s.2 + 1)) + 1)) + 1)) + 1)) + 1)) + 1)) + 1))).2) (laws_markAttrS (x1.s.1[x1.i]?.getD default).S.Attrs (IntKind.i64.wrap ((IntKind.i64.wrap ((IntKind.i64.wrap ((IntKind.i64.wrap ((IntKind.i64.wrap ((IntKind.i64.wrap ((IntKind.i64.wrap (x1.s.2 + 1)) + 1)) + 1)) + 1)) + 1)) + 1)) + 1))).1 (IntKind.i64.wrap ((laws_markAttrS (x1.s.1[x1.i]?.getD default).S.Attrs (IntKind.i64.wrap ((IntKind.i64.wrap ((IntKind.i64.wrap ((IntKind.i64.wrap ((IntKind.i64.wrap ((IntKind.i64.wrap ((IntKind.i64.wrap (x1.s.2 + 1)) + 1)) + 1)) + 1)) + 1)) + 1)) + 1))).1 + 1)) (IntKind.i64.wrap ((IntKind.i64.wrap ((laws_markAttrS (x1.s.1[x1.i]?.getD default).S.Attrs (IntKind.i64.wrap ((IntKind.i64.wrap ((IntKind.i64.wrap ((IntKind.i64.wrap ((IntKind.i64.wrap ((IntKind.i64.wrap ((IntKind.i64.wrap (x1.s.2 + 1)) + 1)) + 1)) + 1)) + 1)) + 1)) + 1))).1 + 1)) + 1)) ((Int.tmod (IntKind.i64.wrap ((IntKind.i64.wrap ((IntKind.i64.wrap ((laws_markAttrS (x1.s.1[x1.i]?.getD default).S.Attrs (IntKind.i64.wrap ((IntKind.i64.wrap ((IntKind.i64.wrap ((IntKind.i64.wrap ((IntKind.i64.wrap ((IntKind.i64.wrap ((IntKind.i64.wrap (x1.s.2 + 1)) + 1)) + 1)) + 1)) + 1)) + 1)) + 1))).1 + 1)) + 1)) + 1)) 3) == 0) ((Int.tmod (IntKind.i64.wrap ((IntKind.i64.wrap ((IntKind.i64.wrap ((IntKind.i64.wrap ((laws_markAttrS (x1.s.1[x1.i]?.getD default).S.Attrs (IntKind.i64.wrap ((IntKind.i64.wrap ((IntKind.i64.wrap ((IntKind.i64.wrap ((IntKind.i64.wrap ((IntKind.i64.wrap ((IntKind.i64.wrap (x1.s.2 + 1)) + 1)) + 1)) + 1)) + 1)) + 1)) + 1))).1 + 1)) + 1)) + 1)) + 1)) 3) == 0) (IntKind.i64.wrap ((IntKind.i64.wrap ((IntKind.i64.wrap ((IntKind.i64.wrap ((IntKind.i64.wrap ((laws_markAttrS (x1.s.1[x1.i]?.getD default).S.Attrs (IntKind.i64.wrap ((IntKind.i64.wrap ((IntKind.i64.wrap ((IntKind.i64.wrap ((IntKind.i64.wrap ((IntKind.i64.wrap ((IntKind.i64.wrap (x1.s.2 + 1)) + 1)) + 1)) + 1)) + 1)) + 1)) + 1))).1 + 1)) + 1)) + 1)) + 1)) + 1)) (IntKind.i64.wrap ((IntKind.i64.wrap ((IntKind.i64.wrap ((IntKind.i64.wrap ((IntKind.i64.wrap ((IntKind.i64.wrap ((laws_markAttrS (x1.s.1[x1.i]?.getD default).S.Attrs (IntKind.i64.wrap ((IntKind.i64.wrap ((IntKind.i64.wrap ((IntKind.i64.wrap ((IntKind.i64.wrap ((IntKind.i64.wrap ((IntKind.i64.wrap (x1.s.2 + 1)) + 1)) + 1)) + 1)) + 1)) + 1)) + 1))).1 + 1)) + 1)) + 1)) + 1)) + 1)) + 1)) (IntKind.i64.wrap ((IntKind.i64.wrap ((IntKind.i64.wrap ((IntKind.i64.wrap ((IntKind.i64.wrap ((IntKind.i64.wrap ((IntKind.i64.wrap ((laws_markAttrS (x1.s.1[x1.i]?.getD default).S.Attrs (IntKind.i64.wrap ((IntKind.i64.wrap ((IntKind.i64.wrap ((IntKind.i64.wrap ((IntKind.i64.wrap ((IntKind.i64.wrap ((IntKind.i64.wrap (x1.s.2 + 1)) + 1)) + 1)) + 1)) + 1)) + 1)) + 1))).1 + 1)) + 1)) + 1)) + 1)) + 1)) + 1)) + 1)) (x1.s.1[x1.i]?.getD default).Now (x1.s.1[x1.i]?.getD default).Inv (x1.s.1[x1.i]?.getD default).Lin (x1.s.1[x1.i]?.getD default).Res))) (by exact setMapS (by simp) (by first | rfl | (simp only [ha, Option.getD_some]; rfl) | (obtain ⟨_, rfl⟩ := List.getElem?_eq_some_iff.1 ha; rfl) | (simp only [Pol.cells_eq]; rfl) | (simp only [ha, Option.getD_some, Pol.cells_eq]; rfl))) ?_
    refine seqE ?_
    refine seqE ?_
    refine andE (by (first | omega | (simp (disch := omega) only [wrap_small, mid_eq, List.length_map]; omega) | (simp; done) | (simp; omega) | (simp at *; omega) | (simp at *; done) | (simp_all; done) | (simp_all; omega))) ?_
    refine rowsE (Y := List.map (Deed.cells true) (List.set x1.s.1 x1.i (Deed.mk x1.s.2 (IntKind.i64.wrap (x1.s.2 + 1)) (Span.mk (IntKind.i64.wrap ((IntKind.i64.wrap (x1.s.2 + 1)) + 1)) (IntKind.i64.wrap ((IntKind.i64.wrap ((IntKind.i64.wrap (x1.s.2 + 1)) + 1)) + 1)) (IntKind.i64.wrap ((IntKind.i64.wrap ((IntKind.i64.wrap ((IntKind.i64.wrap (x1.s.2 + 1)) + 1)) + 1)) + 1)) (IntKind.i64.wrap ((IntKind.i64.wrap ((IntKind.i64.wrap ((IntKind.i64.wrap ((IntKind.i64.wrap (x1.s.2 + 1)) + 1)) + 1)) + 1)) + 1)) ((Int.tmod (IntKind.i64.wrap ((IntKind.i64.wrap ((IntKind.i64.wrap ((IntKind.i64.wrap ((IntKind.i64.wrap ((IntKind.i64.wrap (x1.s.2 + 1)) + 1)) + 1)) + 1)) + 1)) + 1)) 3) == 0) (laws_markAttrS (x1.s.1[x1.i]?.getD default).S.Attrs (IntKind.i64.wrap ((IntKind.i64.wrap ((IntKind.i64.wrap ((IntKind.i64.wrap ((IntKind.i64.wrap ((IntKind.i64.wrap ((IntKind.i64.wrap (x1.s.2 + 1)) + 1)) + 1)) + 1)) + 1)) + 1)) + 1))).2) (laws_markAttrS (x1.s.1[x1.i]?.getD default).S.Attrs (IntKind.i64.wrap ((IntKind.i64.wrap ((IntKind.i64.wrap ((IntKind.i64.wrap ((IntKind.i64.wrap ((IntKind.i64.wrap ((IntKind.i64.wrap (x1.s.2 + 1)) + 1)) + 1)) + 1)) + 1)) + 1)) + 1))).1 (IntKind.i64.wrap ((laws_markAttrS (x1.s.1[x1.i]?.getD default).S.Attrs (IntKind.i64.wrap ((IntKind.i64.wrap ((IntKind.i64.wrap ((IntKind.i64.wrap ((IntKind.i64.wrap ((IntKind.i64.wrap ((IntKind.i64.wrap (x1.s.2 + 1)) + 1)) + 1)) + 1)) + 1)) + 1)) + 1))).1 + 1)) (IntKind.i64.wrap ((IntKind.i64.wrap ((laws_markAttrS (x1.s.1[x1.i]?.getD default).S.Attrs (IntKind.i64.wrap ((IntKind.i64.wrap ((IntKind.i64.wrap ((IntKind.i64.wrap ((IntKind.i64.wrap ((IntKind.i64.wrap ((IntKind.i64.wrap (x1.s.2 + 1)) + 1)) + 1)) + 1)) + 1)) + 1)) + 1))).1 + 1)) + 1)) ((Int.tmod (IntKind.i64.wrap ((IntKind.i64.wrap ((IntKind.i64.wrap ((laws_markAttrS (x1.s.1[x1.i]?.getD default).S.Attrs (IntKind.i64.wrap ((IntKind.i64.wrap ((IntKind.i64.wrap ((IntKind.i64.wrap ((IntKind.i64.wrap ((IntKind.i64.wrap ((IntKind.i64.wrap (x1.s.2 + 1)) + 1)) + 1)) + 1)) + 1)) + 1)) + 1))).1 + 1)) + 1)) + 1)) 3) == 0) ((Int.tmod (IntKind.i64.wrap ((IntKind.i64.wrap ((IntKind.i64.wrap ((IntKind.i64.wrap ((laws_markAttrS (x1.s.1[x1.i]?.getD default).S.Attrs (IntKind.i64.wrap ((IntKind.i64.wrap ((IntKind.i64.wrap ((IntKind.i64.wrap ((IntKind.i64.wrap ((IntKind.i64.wrap ((IntKind.i64.wrap (x1.s.2 + 1)) + 1)) + 1)) + 1)) + 1)) + 1)) + 1))).1 + 1)) + 1)) + 1)) + 1)) 3) == 0) (IntKind.i64.wrap ((IntKind.i64.wrap ((IntKind.i64.wrap ((IntKind.i64.wrap ((IntKind.i64.wrap ((laws_markAttrS (x1.s.1[x1.i]?.getD default).S.Attrs (IntKind.i64.wrap ((IntKind.i64.wrap ((IntKind.i64.wrap ((IntKind.i64.wrap ((IntKind.i64.wrap ((IntKind.i64.wrap ((IntKind.i64.wrap (x1.s.2 + 1)) + 1)) + 1)) + 1)) + 1)) + 1)) + 1))).1 + 1)) + 1)) + 1)) + 1)) + 1)) (IntKind.i64.wrap ((IntKind.i64.wrap ((IntKind.i64.wrap ((IntKind.i64.wrap ((IntKind.i64.wrap ((IntKind.i64.wrap ((laws_markAttrS (x1.s.1[x1.i]?.getD default).S.Attrs (IntKind.i64.wrap ((IntKind.i64.wrap ((IntKind.i64.wrap ((IntKind.i64.wrap ((IntKind.i64.wrap ((IntKind.i64.wrap ((IntKind.i64.wrap (x1.s.2 + 1)) + 1)) + 1)) + 1)) + 1)) + 1)) + 1))).1 + 1)) + 1)) + 1)) + 1)) + 1)) + 1)) (IntKind.i64.wrap ((IntKind.i64.wrap ((IntKind.i64.wrap ((IntKind.i64.wrap ((IntKind.i64.wrap ((IntKind.i64.wrap ((IntKind.i64.wrap ((laws_markAttrS (x1.s.1[x1.i]?.getD default).S.Attrs (IntKind.i64.wrap ((IntKind.i64.wrap ((IntKind.i64.wrap ((IntKind.i64.wrap ((IntKind.i64.wrap ((IntKind.i64.wrap ((IntKind.i64.wrap (x1.s.2 + 1)) + 1)) + 1)) + 1)) + 1)) + 1)) + 1))).1 + 1)) + 1)) + 1)) + 1)) + 1)) + 1)) + 1)) (IntKind.i64.wrap ((IntKind.i64.wrap ((IntKind.i64.wrap ((IntKind.i64.wrap ((IntKind.i64.wrap ((IntKind.i64.wrap ((IntKind.i64.wrap ((IntKind.i64.wrap ((laws_markAttrS (x1.s.1[x1.i]?.getD default).S.Attrs (IntKind.i64.wrap ((IntKind.i64.wrap ((IntKind.i64.wrap ((IntKind.i64.wrap ((IntKind.i64.wrap ((IntKind.i64.wrap ((IntKind.i64.wrap (x1.s.2 + 1)) + 1)) + 1)) + 1)) + 1)) + 1)) + 1))).1 + 1)) + 1)) + 1)) + 1)) + 1)) + 1)) + 1)) + 1)) (x1.s.1[x1.i]?.getD default).Inv (x1.s.1[x1.i]?.getD default).Lin (x1.s.1[x1.i]?.getD default).Res))) (by exact setMapS (by simp) (by first | rfl | (simp only [ha, Option.getD_some]; rfl) | (obtain ⟨_, rfl⟩ := List.getElem?_eq_some_iff.1 ha; rfl) | (simp only [Pol.cells_eq]; rfl) | (simp only [ha, Option.getD_some, Pol.cells_eq]; rfl))) ?_
    refine seqE ?_
    refine seqE ?_
    refine andE (by (first | omega | (simp (disch := omega) only [wrap_small, mid_eq, List.length_map]; omega) | (simp; done) | (simp; omega) | (simp at *; omega) | (simp at *; done) | (simp_all; done) | (simp_all; omega))) ?_
    refine rowsE (Y := List.map (Deed.cells true) (List.set x1.s.1 x1.i (Deed.mk x1.s.2 (IntKind.i64.wrap (x1.s.2 + 1)) (Span.mk (IntKind.i64.wrap ((IntKind.i64.wrap (x1.s.2 + 1)) + 1)) (IntKind.i64.wrap ((IntKind.i64.wrap ((IntKind.i64.wrap (x1.s.2 + 1)) + 1)) + 1)) (IntKind.i64.wrap ((IntKind.i64.wrap ((IntKind.i64.wrap ((IntKind.i64.wrap (x1.s.2 + 1)) + 1)) + 1)) + 1)) (IntKind.i64.wrap ((IntKind.i64.wrap ((IntKind.i64.wrap ((IntKind.i64.wrap ((IntKind.i64.wrap (x1.s.2 + 1)) + 1)) + 1)) + 1)) + 1)) ((Int.tmod (IntKind.i64.wrap ((IntKind.i64.wrap ((IntKind.i64.wrap ((IntKind.i64.wrap ((IntKind.i64.wrap ((IntKind.i64.wrap (x1.s.2 + 1)) + 1)) + 1)) + 1)) + 1)) + 1)) 3) == 0) (laws_markAttrS (x1.s.1[x1.i]?.getD default).S.Attrs (IntKind.i64.wrap ((IntKind.i64.wrap ((IntKind.i64.wrap ((IntKind.i64.wrap ((IntKind.i64.wrap ((IntKind.i64.wrap ((IntKind.i64.wrap (x1.s.2 + 1)) + 1)) + 1)) + 1)) + 1)) + 1)) + 1))).2) (laws_markAttrS (x1.s.1[x1.i]?.getD default).S.Attrs (IntKind.i64.wrap ((IntKind.i64.wrap ((IntKind.i64.wrap ((IntKind.i64.wrap ((IntKind.i64.wrap ((IntKind.i64.wrap ((IntKind.i64.wrap (x1.s.2 + 1)) + 1)) + 1)) + 1)) + 1)) + 1)) + 1))).1 (IntKind.i64.wrap ((laws_markAttrS (x1.s.1[x1.i]?.getD default).S.Attrs (IntKind.i64.wrap ((IntKind.i64.wrap ((IntKind.i64.wrap ((IntKind.i64.wrap ((IntKind.i64.wrap ((IntKind.i64.wrap ((IntKind.i64.wrap (x1.s.2 + 1)) + 1)) + 1)) + 1)) + 1)) + 1)) + 1))).1 + 1)) (IntKind.i64.wrap ((IntKind.i64.wrap ((laws_markAttrS (x1.s.1[x1.i]?.getD default).S.Attrs (IntKind.i64.wrap ((IntKind.i64.wrap ((IntKind.i64.wrap ((IntKind.i64.wrap ((IntKind.i64.wrap ((IntKind.i64.wrap ((IntKind.i64.wrap (x1.s.2 + 1)) + 1)) + 1)) + 1)) + 1)) + 1)) + 1))).1 + 1)) + 1)) ((Int.tmod (IntKind.i64.wrap ((IntKind.i64.wrap ((IntKind.i64.wrap ((laws_markAttrS (x1.s.1[x1.i]?.getD default).S.Attrs (IntKind.i64.wrap ((IntKind.i64.wrap ((IntKind.i64.wrap ((IntKind.i64.wrap ((IntKind.i64.wrap ((IntKind.i64.wrap ((IntKind.i64.wrap (x1.s.2 + 1)) + 1)) + 1)) + 1)) + 1)) + 1)) + 1))).1 + 1)) + 1)) + 1)) 3) == 0) ((Int.tmod (IntKind.i64.wrap ((IntKind.i64.wrap ((IntKind.i64.wrap ((IntKind.i64.wrap ((laws_markAttrS (x1.s.1[x1.i]?.getD default).S.Attrs (IntKind.i64.wrap ((IntKind.i64.wrap ((IntKind.i64.wrap ((IntKind.i64.wrap ((IntKind.i64.wrap ((IntKind.i64.wrap ((IntKind.i64.wrap (x1.s.2 + 1)) + 1)) + 1)) + 1)) + 1)) + 1)) + 1))).1 + 1)) + 1)) + 1)) + 1)) 3) == 0) (IntKind.i64.wrap ((IntKind.i64.wrap ((IntKind.i64.wrap ((IntKind.i64.wrap ((IntKind.i64.wrap ((laws_markAttrS (x1.s.1[x1.i]?.getD default).S.Attrs (IntKind.i64.wrap ((IntKind.i64.wrap ((IntKind.i64.wrap ((IntKind.i64.wrap ((IntKind.i64.wrap ((IntKind.i64.wrap ((IntKind.i64.wrap (x1.s.2 + 1)) + 1)) + 1)) + 1)) + 1)) + 1)) + 1))).1 + 1)) + 1)) + 1)) + 1)) + 1)) (IntKind.i64.wrap ((IntKind.i64.wrap ((IntKind.i64.wrap ((IntKind.i64.wrap ((IntKind.i64.wrap ((IntKind.i64.wrap ((laws_markAttrS (x1.s.1[x1.i]?.getD default).S.Attrs (IntKind.i64.wrap ((IntKind.i64.wrap ((IntKind.i64.wrap ((IntKind.i64.wrap ((IntKind.i64.wrap ((IntKind.i64.wrap ((IntKind.i64.wrap (x1.s.2 + 1)) + 1)) + 1)) + 1)) + 1)) + 1)) + 1))).1 + 1)) + 1)) + 1)) + 1)) + 1)) + 1)) (IntKind.i64.wrap ((IntKind.i64.wrap ((IntKind.i64.wrap ((IntKind.i64.wrap ((IntKind.i64.wrap ((IntKind.i64.wrap ((IntKind.i64.wrap ((laws_markAttrS (x1.s.1[x1.i]?.getD default).S.Attrs (IntKind.i64.wrap ((IntKind.i64.wrap ((IntKind.i64.wrap ((IntKind.i64.wrap ((IntKind.i64.wrap ((IntKind.i64.wrap ((IntKind.i64.wrap (x1.s.2 + 1)) + 1)) + 1)) + 1)) + 1)) + 1)) + 1))).1 + 1)) + 1)) + 1)) + 1)) + 1)) + 1)) + 1)) (IntKind.i64.wrap ((IntKind.i64.wrap ((IntKind.i64.wrap ((IntKind.i64.wrap ((IntKind.i64.wrap ((IntKind.i64.wrap ((IntKind.i64.wrap ((IntKind.i64.wrap ((laws_markAttrS (x1.s.1[x1.i]?.getD default).S.Attrs (IntKind.i64.wrap ((IntKind.i64.wrap ((IntKind.i64.wrap ((IntKind.i64.wrap ((IntKind.i64.wrap ((IntKind.i64.wrap ((IntKind.i64.wrap (x1.s.2 + 1)) + 1)) + 1)) + 1)) + 1)) + 1)) + 1))).1 + 1)) + 1)) + 1)) + 1)) + 1)) + 1)) + 1)) + 1)) (IntKind.i64.wrap ((IntKind.i64.wrap ((IntKind.i64.wrap ((IntKind.i64.wrap ((IntKind.i64.wrap ((IntKind.i64.wrap ((IntKind.i64.wrap ((IntKind.i64.wrap ((IntKind.i64.wrap ((laws_markAttrS (x1.s.1[x1.i]?.getD default).S.Attrs (IntKind.i64.wrap ((IntKind.i64.wrap ((IntKind.i64.wrap ((IntKind.i64.wrap ((IntKind.i64.wrap ((IntKind.i64.wrap ((IntKind.i64.wrap (x1.s.2 + 1)) + 1)) + 1)) + 1)) + 1)) + 1)) + 1))).1 + 1)) + 1)) + 1)) + 1)) + 1)) + 1)) + 1)) + 1)) + 1)) (x1.s.1[x1.i]?.getD default).Lin (x1.s.1[x1.i]?.getD default).Res))) (by exact setMapS (by simp) (by first | rfl | (simp only [ha, Option.getD_some]; rfl) | (obtain ⟨_, rfl⟩ := List.getElem?_eq_some_iff.1 ha; rfl) | (simp only [Pol.cells_eq]; rfl) | (simp only [ha, Option.getD_some, Pol.cells_eq]; rfl))) ?_
    refine seqE ?_
    refine seqE ?_
    refine andE (by (first | omega | (simp (disch := omega) only [wrap_small, mid_eq, List.length_map]; omega) | (simp; done) | (simp; omega) | (simp at *; omega) | (simp at *; done) | (simp_all; done) | (simp_all; omega))) ?_
    refine rowsE (Y := List.map (Deed.cells true) (List.set x1.s.1 x1.i (Deed.mk x1.s.2 (IntKind.i64.wrap (x1.s.2 + 1)) (Span.mk (IntKind.i64.wrap ((IntKind.i64.wrap (x1.s.2 + 1)) + 1)) (IntKind.i64.wrap ((IntKind.i64.wrap ((IntKind.i64.wrap (x1.s.2 + 1)) + 1)) + 1)) (IntKind.i64.wrap ((IntKind.i64.wrap ((IntKind.i64.wrap ((IntKind.i64.wrap (x1.s.2 + 1)) + 1)) + 1)) + 1)) (IntKind.i64.wrap ((IntKind.i64.wrap ((IntKind.i64.wrap ((IntKind.i64.wrap ((IntKind.i64.wrap (x1.s.2 + 1)) + 1)) + 1)) + 1)) + 1)) ((Int.tmod (IntKind.i64.wrap ((IntKind.i64.wrap ((IntKind.i64.wrap ((IntKind.i64.wrap ((IntKind.i64.wrap ((IntKind.i64.wrap (x1.s.2 + 1)) + 1)) + 1)) + 1)) + 1)) + 1)) 3) == 0) (laws_markAttrS (x1.s.1[x1.i]?.getD default).S.Attrs (IntKind.i64.wrap ((IntKind.i64.wrap ((IntKind.i64.wrap ((IntKind.i64.wrap ((IntKind.i64.wrap ((IntKind.i64.wrap ((IntKind.i64.wrap (x1.s.2 + 1)) + 1)) + 1)) + 1)) + 1)) + 1)) + 1))).2) (laws_markAttrS (x1.s.1[x1.i]?.getD default).S.Attrs (IntKind.i64.wrap ((IntKind.i64.wrap ((IntKind.i64.wrap ((IntKind.i64.wrap ((IntKind.i64.wrap ((IntKind.i64.wrap ((IntKind.i64.wrap (x1.s.2 + 1)) + 1)) + 1)) + 1)) + 1)) + 1)) + 1))).1 (IntKind.i64.wrap ((laws_markAttrS (x1.s.1[x1.i]?.getD default).S.Attrs (IntKind.i64.wrap ((IntKind.i64.wrap ((IntKind.i64.wrap ((IntKind.i64.wrap ((IntKind.i64.wrap ((IntKind.i64.wrap ((IntKind.i64.wrap (x1.s.2 + 1)) + 1)) + 1)) + 1)) + 1)) + 1)) + 1))).1 + 1)) (IntKind.i64.wrap ((IntKind.i64.wrap ((laws_markAttrS (x1.s.1[x1.i]?.getD default).S.Attrs (IntKind.i64.wrap ((IntKind.i64.wrap ((IntKind.i64.wrap ((IntKind.i64.wrap ((IntKind.i64.wrap ((IntKind.i64.wrap ((IntKind.i64.wrap (x1.s.2 + 1)) + 1)) + 1)) + 1)) + 1)) + 1)) + 1))).1 + 1)) + 1)) ((Int.tmod (IntKind.i64.wrap ((IntKind.i64.wrap ((IntKind.i64.wrap ((laws_markAttrS (x1.s.1[x1.i]?.getD default).S.Attrs (IntKind.i64.wrap ((IntKind.i64.wrap ((IntKind.i64.wrap ((IntKind.i64.wrap ((IntKind.i64.wrap ((IntKind.i64.wrap ((IntKind.i64.wrap (x1.s.2 + 1)) + 1)) + 1)) + 1)) + 1)) + 1)) + 1))).1 + 1)) + 1)) + 1)) 3) == 0) ((Int.tmod (IntKind.i64.wrap ((IntKind.i64.wrap ((IntKind.i64.wrap ((IntKind.i64.wrap ((laws_markAttrS (x1.s.1[x1.i]?.getD default).S.Attrs (IntKind.i64.wrap ((IntKind.i64.wrap ((IntKind.i64.wrap ((IntKind.i64.wrap ((IntKind.i64.wrap ((IntKind.i64.wrap ((IntKind.i64.wrap (x1.s.2 + 1)) + 1)) + 1)) + 1)) + 1)) + 1)) + 1))).1 + 1)) + 1)) + 1)) + 1)) 3) == 0) (IntKind.i64.wrap ((IntKind.i64.wrap ((IntKind.i64.wrap ((IntKind.i64.wrap ((IntKind.i64.wrap ((laws_markAttrS (x1.s.1[x1.i]?.getD default).S.Attrs (IntKind.i64.wrap ((IntKind.i64.wrap ((IntKind.i64.wrap ((IntKind.i64.wrap ((IntKind.i64.wrap ((IntKind.i64.wrap ((IntKind.i64.wrap (x1.s.2 + 1)) + 1)) + 1)) + 1)) + 1)) + 1)) + 1))).1 + 1)) + 1)) + 1)) + 1)) + 1)) (IntKind.i64.wrap ((IntKind.i64.wrap ((IntKind.i64.wrap ((IntKind.i64.wrap ((IntKind.i64.wrap ((IntKind.i64.wrap ((laws_markAttrS (x1.s.1[x1.i]?.getD default).S.Attrs (IntKind.i64.wrap ((IntKind.i64.wrap ((IntKind.i64.wrap ((IntKind.i64.wrap ((IntKind.i64.wrap ((IntKind.i64.wrap ((IntKind.i64.wrap (x1.s.2 + 1)) + 1)) + 1)) + 1)) + 1)) + 1)) + 1))).1 + 1)) + 1)) + 1)) + 1)) + 1)) + 1)) (IntKind.i64.wrap ((IntKind.i64.wrap ((IntKind.i64.wrap ((IntKind.i64.wrap ((IntKind.i64.wrap ((IntKind.i64.wrap ((IntKind.i64.wrap ((laws_markAttrS (x1.s.1[x1.i]?.getD default).S.Attrs (IntKind.i64.wrap ((IntKind.i64.wrap ((IntKind.i64.wrap ((IntKind.i64.wrap ((IntKind.i64.wrap ((IntKind.i64.wrap ((IntKind.i64.wrap (x1.s.2 + 1)) + 1)) + 1)) + 1)) + 1)) + 1)) + 1))).1 + 1)) + 1)) + 1)) + 1)) + 1)) + 1)) + 1)) (IntKind.i64.wrap ((IntKind.i64.wrap ((IntKind.i64.wrap ((IntKind.i64.wrap ((IntKind.i64.wrap ((IntKind.i64.wrap ((IntKind.i64.wrap ((IntKind.i64.wrap ((laws_markAttrS (x1.s.1[x1.i]?.getD default).S.Attrs (IntKind.i64.wrap ((IntKind.i64.wrap ((IntKind.i64.wrap ((IntKind.i64.wrap ((IntKind.i64.wrap ((IntKind.i64.wrap ((IntKind.i64.wrap (x1.s.2 + 1)) + 1)) + 1)) + 1)) + 1)) + 1)) + 1))).1 + 1)) + 1)) + 1)) + 1)) + 1)) + 1)) + 1)) + 1)) (IntKind.i64.wrap ((IntKind.i64.wrap ((IntKind.i64.wrap ((IntKind.i64.wrap ((IntKind.i64.wrap ((IntKind.i64.wrap ((IntKind.i64.wrap ((IntKind.i64.wrap ((IntKind.i64.wrap ((laws_markAttrS (x1.s.1[x1.i]?.getD default).S.Attrs (IntKind.i64.wrap ((IntKind.i64.wrap ((IntKind.i64.wrap ((IntKind.i64.wrap ((IntKind.i64.wrap ((IntKind.i64.wrap ((IntKind.i64.wrap (x1.s.2 + 1)) + 1)) + 1)) + 1)) + 1)) + 1)) + 1))).1 + 1)) + 1)) + 1)) + 1)) + 1)) + 1)) + 1)) + 1)) + 1)) (IntKind.i64.wrap ((IntKind.i64.wrap ((IntKind.i64.wrap ((IntKind.i64.wrap ((IntKind.i64.wrap ((IntKind.i64.wrap ((IntKind.i64.wrap ((IntKind.i64.wrap ((IntKind.i64.wrap ((IntKind.i64.wrap ((laws_markAttrS (x1.s.1[x1.i]?.getD default).S.Attrs (IntKind.i64.wrap ((IntKind.i64.wrap ((IntKind.i64.wrap ((IntKind.i64.wrap ((IntKind.i64.wrap ((IntKind.i64.wrap ((IntKind.i64.wrap (x1.s.2 + 1)) + 1)) + 1)) + 1)) + 1)) + 1)) + 1))).1 + 1)) + 1)) + 1)) + 1)) + 1)) + 1)) + 1)) + 1)) + 1)) + 1)) (x1.s.1[x1.i]?.getD default).Res))) (by exact setMapS (by simp) (by first | rfl | (simp only [ha, Option.getD_some]; rfl) | (obtain ⟨_, rfl⟩ := List.getElem?_eq_some_iff.1 ha; rfl) | (simp only [Pol.cells_eq]; rfl) | (simp only [ha, Option.getD_some, Pol.cells_eq]; rfl))) ?_
    refine seqE ?_
    refine seqE ?_
    refine andE (by (first | omega | (simp (disch := omega) only [wrap_small, mid_eq, List.length_map]; omega) | (simp; done) | (simp; omega) | (simp at *; omega) | (simp at *; done) | (simp_all; done) | (simp_all; omega))) ?_
    refine rowsE (Y := List.map (Deed.cells true) (List.set x1.s.1 x1.i (Deed.mk x1.s.2 (IntKind.i64.wrap (x1.s.2 + 1)) (Span.mk (IntKind.i64.wrap ((IntKind.i64.wrap (x1.s.2 + 1)) + 1)) (IntKind.i64.wrap ((IntKind.i64.wrap ((IntKind.i64.wrap (x1.s.2 + 1)) + 1)) + 1)) (IntKind.i64.wrap ((IntKind.i64.wrap ((IntKind.i64.wrap ((IntKind.i64.wrap (x1.s.2 + 1)) + 1)) + 1)) + 1)) (IntKind.i64.wrap ((IntKind.i64.wrap ((IntKind.i64.wrap ((IntKind.i64.wrap ((IntKind.i64.wrap (x1.s.2 + 1)) + 1)) + 1)) + 1)) + 1)) ((Int.tmod (IntKind.i64.wrap ((IntKind.i64.wrap ((IntKind.i64.wrap ((IntKind.i64.wrap ((IntKind.i64.wrap ((IntKind.i64.wrap (x1.s.2 + 1)) + 1)) + 1)) + 1)) + 1)) + 1)) 3) == 0) (laws_markAttrS (x1.s.1[x1.i]?.getD default).S.Attrs (IntKind.i64.wrap ((IntKind.i64.wrap ((IntKind.i64.wrap ((IntKind.i64.wrap ((IntKind.i64.wrap ((IntKind.i64.wrap ((IntKind.i64.wrap (x1.s.2 + 1)) + 1)) + 1)) + 1)) + 1)) + 1)) + 1))).2) (laws_markAttrS (x1.s.1[x1.i]?.getD default).S.Attrs (IntKind.i64.wrap ((IntKind.i64.wrap ((IntKind.i64.wrap ((IntKind.i64.wrap ((IntKind.i64.wrap ((IntKind.i64.wrap ((IntKind.i64.wrap (x1.s.2 + 1)) + 1)) + 1)) + 1)) + 1)) + 1)) + 1))).1 (IntKind.i64.wrap ((laws_markAttrS (x1.s.1[x1.i]?.getD default).S.Attrs (IntKind.i64.wrap ((IntKind.i64.wrap ((IntKind.i64.wrap ((IntKind.i64.wrap ((IntKind.i64.wrap ((IntKind.i64.wrap ((IntKind.i64.wrap (x1.s.2 + 1)) + 1)) + 1)) + 1)) + 1)) + 1)) + 1))).1 + 1)) (IntKind.i64.wrap ((IntKind.i64.wrap ((laws_markAttrS (x1.s.1[x1.i]?.getD default).S.Attrs (IntKind.i64.wrap ((IntKind.i64.wrap ((IntKind.i64.wrap ((IntKind.i64.wrap ((IntKind.i64.wrap ((IntKind.i64.wrap ((IntKind.i64.wrap (x1.s.2 + 1)) + 1)) + 1)) + 1)) + 1)) + 1)) + 1))).1 + 1)) + 1)) ((Int.tmod (IntKind.i64.wrap ((IntKind.i64.wrap ((IntKind.i64.wrap ((laws_markAttrS (x1.s.1[x1.i]?.getD default).S.Attrs (IntKind.i64.wrap ((IntKind.i64.wrap ((IntKind.i64.wrap ((IntKind.i64.wrap ((IntKind.i64.wrap ((IntKind.i64.wrap ((IntKind.i64.wrap (x1.s.2 + 1)) + 1)) + 1)) + 1)) + 1)) + 1)) + 1))).1 + 1)) + 1)) + 1)) 3) == 0) ((Int.tmod (IntKind.i64.wrap ((IntKind.i64.wrap ((IntKind.i64.wrap ((IntKind.i64.wrap ((laws_markAttrS (x1.s.1[x1.i]?.getD default).S.Attrs (IntKind.i64.wrap ((IntKind.i64.wrap ((IntKind.i64.wrap ((IntKind.i64.wrap ((IntKind.i64.wrap ((IntKind.i64.wrap ((IntKind.i64.wrap (x1.s.2 + 1)) + 1)) + 1)) + 1)) + 1)) + 1)) + 1))).1 + 1)) + 1)) + 1)) + 1)) 3) == 0) (IntKind.i64.wrap ((IntKind.i64.wrap ((IntKind.i64.wrap ((IntKind.i64.wrap ((IntKind.i64.wrap ((laws_markAttrS (x1.s.1[x1.i]?.getD default).S.Attrs (IntKind.i64.wrap ((IntKind.i64.wrap ((IntKind.i64.wrap ((IntKind.i64.wrap ((IntKind.i64.wrap ((IntKind.i64.wrap ((IntKind.i64.wrap (x1.s.2 + 1)) + 1)) + 1)) + 1)) + 1)) + 1)) + 1))).1 + 1)) + 1)) + 1)) + 1)) + 1)) (IntKind.i64.wrap ((IntKind.i64.wrap ((IntKind.i64.wrap ((IntKind.i64.wrap ((IntKind.i64.wrap ((IntKind.i64.wrap ((laws_markAttrS (x1.s.1[x1.i]?.getD default).S.Attrs (IntKind.i64.wrap ((IntKind.i64.wrap ((IntKind.i64.wrap ((IntKind.i64.wrap ((IntKind.i64.wrap ((IntKind.i64.wrap ((IntKind.i64.wrap (x1.s.2 + 1)) + 1)) + 1)) + 1)) + 1)) + 1)) + 1))).1 + 1)) + 1)) + 1)) + 1)) + 1)) + 1)) (IntKind.i64.wrap ((IntKind.i64.wrap ((IntKind.i64.wrap ((IntKind.i64.wrap ((IntKind.i64.wrap ((IntKind.i64.wrap ((IntKind.i64.wrap ((laws_markAttrS (x1.s.1[x1.i]?.getD default).S.Attrs (IntKind.i64.wrap ((IntKind.i64.wrap ((IntKind.i64.wrap ((IntKind.i64.wrap ((IntKind.i64.wrap ((IntKind.i64.wrap ((IntKind.i64.wrap (x1.s.2 + 1)) + 1)) + 1)) + 1)) + 1)) + 1)) + 1))).1 + 1)) + 1)) + 1)) + 1)) + 1)) + 1)) + 1)) (IntKind.i64.wrap ((IntKind.i64.wrap ((IntKind.i64.wrap ((IntKind.i64.wrap ((IntKind.i64.wrap ((IntKind.i64.wrap ((IntKind.i64.wrap ((IntKind.i64.wrap ((laws_markAttrS (x1.s.1[x1.i]?.getD default).S.Attrs (IntKind.i64.wrap ((IntKind.i64.wrap ((IntKind.i64.wrap ((IntKind.i64.wrap ((IntKind.i64.wrap ((IntKind.i64.wrap ((IntKind.i64.wrap (x1.s.2 + 1)) + 1)) + 1)) + 1)) + 1)) + 1)) + 1))).1 + 1)) + 1)) + 1)) + 1)) + 1)) + 1)) + 1)) + 1)) (IntKind.i64.wrap ((IntKind.i64.wrap ((IntKind.i64.wrap ((IntKind.i64.wrap ((IntKind.i64.wrap ((IntKind.i64.wrap ((IntKind.i64.wrap ((IntKind.i64.wrap ((IntKind.i64.wrap ((laws_markAttrS (x1.s.1[x1.i]?.getD default).S.Attrs (IntKind.i64.wrap ((IntKind.i64.wrap ((IntKind.i64.wrap ((IntKind.i64.wrap ((IntKind.i64.wrap ((IntKind.i64.wrap ((IntKind.i64.wrap (x1.s.2 + 1)) + 1)) + 1)) + 1)) + 1)) + 1)) + 1))).1 + 1)) + 1)) + 1)) + 1)) + 1)) + 1)) + 1)) + 1)) + 1)) (IntKind.i64.wrap ((IntKind.i64.wrap ((IntKind.i64.wrap ((IntKind.i64.wrap ((IntKind.i64.wrap ((IntKind.i64.wrap ((IntKind.i64.wrap ((IntKind.i64.wrap ((IntKind.i64.wrap ((IntKind.i64.wrap ((laws_markAttrS (x1.s.1[x1.i]?.getD default).S.Attrs (IntKind.i64.wrap ((IntKind.i64.wrap ((IntKind.i64.wrap ((IntKind.i64.wrap ((IntKind.i64.wrap ((IntKind.i64.wrap ((IntKind.i64.wrap (x1.s.2 + 1)) + 1)) + 1)) + 1)) + 1)) + 1)) + 1))).1 + 1)) + 1)) + 1)) + 1)) + 1)) + 1)) + 1)) + 1)) + 1)) + 1)) (IntKind.i64.wrap ((IntKind.i64.wrap ((IntKind.i64.wrap ((IntKind.i64.wrap ((IntKind.i64.wrap ((IntKind.i64.wrap ((IntKind.i64.wrap ((IntKind.i64.wrap ((IntKind.i64.wrap ((IntKind.i64.wrap ((IntKind.i64.wrap ((laws_markAttrS (x1.s.1[x1.i]?.getD default).S.Attrs (IntKind.i64.wrap ((IntKind.i64.wrap ((IntKind.i64.wrap ((IntKind.i64.wrap ((IntKind.i64.wrap ((IntKind.i64.wrap ((IntKind.i64.wrap (x1.s.2 + 1)) + 1)) + 1)) + 1)) + 1)) + 1)) + 1))).1 + 1)) + 1)) + 1)) + 1)) + 1)) + 1)) + 1)) + 1)) + 1)) + 1)) + 1))))) (by exact setMapS (by simp) (by first | rfl | (simp only [ha, Option.getD_some]; rfl) | (obtain ⟨_, rfl⟩ := List.getElem?_eq_some_iff.1 ha; rfl) | (simp only [Pol.cells_eq]; rfl) | (simp only [ha, Option.getD_some, Pol.cells_eq]; rfl))) ?_
    exact x1.goE hi1 hb1 (by simpa using x1.hI) [none, some 1] ⟨rfl, ⟨rfl, (eqInt hw1), ⟨rfl, rfl, rfl, rfl, by (first | rfl | omega | (dsimp only; omega) | (simp; done) | (simp; omega) | (simp [LstSt.init, LstSt.step, LstInv.init, CntSt.init, CntSt.step, CntInv.init, WhlSt.init, WhlSt.step]; done) | (simp [LstSt.init, LstSt.step, LstInv.init, CntSt.init, CntSt.step, CntInv.init, WhlSt.init, WhlSt.step]; omega))⟩, trivial⟩, ⟨⟨rfl, rfl, rfl⟩, trivial⟩, ⟨⟨rfl, rfl, rfl, rfl, by (first | rfl | omega | (dsimp only; omega) | (simp; done) | (simp; omega) | (simp [LstSt.init, LstSt.step, LstInv.init, CntSt.init, CntSt.step, CntInv.init, WhlSt.init, WhlSt.step]; done) | (simp [LstSt.init, LstSt.step, LstInv.init, CntSt.init, CntSt.step, CntInv.init, WhlSt.init, WhlSt.step]; omega))⟩, trivial⟩⟩
  have hg := finE hg (x1.fin hi1)
  refine seqE ?_
  exact leafM hown hg
def laws_markWorld (p0 : World) (p1 : Int) : (Int × World) :=
  ((laws_markDeedS p0.Deeds (laws_markTaskS p0.Tasks (laws_markItemS p0.Out (laws_markItemS p0.Queue (laws_markTimerS p0.Due (laws_markWheel p0.W (laws_markVerdictS p0.Cache (laws_markStripeS p0.St (laws_markConf p0.C p1).1).1).1).1).1).1).1).1).1, (World.mk (Conf.mk p0.C.Stripes p0.C.Wait p0.C.Budget p0.C.Cache p0.C.Queue p0.C.Rate p0.C.Burst (Pol.mk p0.C.Rule.Kind p0.C.Rule.N p0.C.Rule.Key p0.C.Rule.Text (laws_markConf p0.C p1).2.Rule.L)) p0.Time p0.Shut (laws_markStripeS p0.St (laws_markConf p0.C p1).1).2 p0.RuleHeld p0.B (laws_markVerdictS p0.Cache (laws_markStripeS p0.St (laws_markConf p0.C p1).1).1).2 p0.Used (Wheel.mk p0.W.Now (laws_markWheel p0.W (laws_markVerdictS p0.Cache (laws_markStripeS p0.St (laws_markConf p0.C p1).1).1).1).2.Near (laws_markWheel p0.W (laws_markVerdictS p0.Cache (laws_markStripeS p0.St (laws_markConf p0.C p1).1).1).1).2.Far (laws_markWheel p0.W (laws_markVerdictS p0.Cache (laws_markStripeS p0.St (laws_markConf p0.C p1).1).1).1).2.Rest) (laws_markTimerS p0.Due (laws_markWheel p0.W (laws_markVerdictS p0.Cache (laws_markStripeS p0.St (laws_markConf p0.C p1).1).1).1).1).2 (laws_markItemS p0.Queue (laws_markTimerS p0.Due (laws_markWheel p0.W (laws_markVerdictS p0.Cache (laws_markStripeS p0.St (laws_markConf p0.C p1).1).1).1).1).1).2 (laws_markItemS p0.Out (laws_markItemS p0.Queue (laws_markTimerS p0.Due (laws_markWheel p0.W (laws_markVerdictS p0.Cache (laws_markStripeS p0.St (laws_markConf p0.C p1).1).1).1).1).1).1).2 (laws_markTaskS p0.Tasks (laws_markItemS p0.Out (laws_markItemS p0.Queue (laws_markTimerS p0.Due (laws_markWheel p0.W (laws_markVerdictS p0.Cache (laws_markStripeS p0.St (laws_markConf p0.C p1).1).1).1).1).1).1).1).2 (laws_markDeedS p0.Deeds (laws_markTaskS p0.Tasks (laws_markItemS p0.Out (laws_markItemS p0.Queue (laws_markTimerS p0.Due (laws_markWheel p0.W (laws_markVerdictS p0.Cache (laws_markStripeS p0.St (laws_markConf p0.C p1).1).1).1).1).1).1).1).1).2 p0.Next))
theorem c_laws_markWorld (p0 : World) (p1 : Int) : FnOk prog 31 [.tup [.agg ((World.cells true) p0)], .one (.v (.int .i64 p1))] ⟨.one (.v (.int .i64 (laws_markWorld p0 p1).1)), [.agg ((World.cells true) (laws_markWorld p0 p1).2)], [], false⟩ := by
  refine FnOk.introG (E := env) envOk wide func31 rfl (by kernel_rfl) rfl ?_
  have hg := laws_markWorld.eq_1 p0 p1
  have hown : (∀ g : (Int × World), AV.Own (AV.one (.v (.int .i64 g.1)))) ∧ (fun g : (Int × World) => ((World.cells true) g.2)) = _ := ⟨fun g => .v _, rfl⟩
  refine seqE ?_
  refine litE (m := 12) rfl ?_
  refine seqE ?_
  refine .inr ⟨0, _, _, _, c_laws_markConf p0.C p1, (FzAs.same _), ?_⟩
  refine litE (m := 14) rfl ?_
  refine seqE ?_
  refine .inr ⟨0, _, _, _, c_laws_markStripeS p0.St (laws_markConf p0.C p1).1, (FzAs.same _), .inl ?_⟩
  refine litE (m := 15) rfl ?_
  refine seqE ?_
  refine .inr ⟨0, _, _, _, c_laws_markVerdictS p0.Cache (laws_markStripeS p0.St (laws_markConf p0.C p1).1).1, (FzAs.same _), .inl ?_⟩
  refine litE (m := 16) rfl ?_
  refine seqE ?_
  refine .inr ⟨0, _, _, _, c_laws_markWheel p0.W (laws_markVerdictS p0.Cache (laws_markStripeS p0.St (laws_markConf p0.C p1).1).1).1, (FzAs.same _), ?_⟩
  refine litE (m := 17) rfl ?_
  refine seqE ?_
  refine .inr ⟨0, _, _, _, c_laws_markTimerS p0.Due (laws_markWheel p0.W (laws_markVerdictS p0.Cache (laws_markStripeS p0.St (laws_markConf p0.C p1).1).1).1).1, (FzAs.same _), .inl ?_⟩
  refine litE (m := 18) rfl ?_
  refine seqE ?_
  refine .inr ⟨0, _, _, _, c_laws_markItemS p0.Queue (laws_markTimerS p0.Due (laws_markWheel p0.W (laws_markVerdictS p0.Cache (laws_markStripeS p0.St (laws_markConf p0.C p1).1).1).1).1).1, (FzAs.same _), .inl ?_⟩
  refine litE (m := 19) rfl ?_
  refine seqE ?_
  refine .inr ⟨0, _, _, _, c_laws_markItemS p0.Out (laws_markItemS p0.Queue (laws_markTimerS p0.Due (laws_markWheel p0.W (laws_markVerdictS p0.Cache (laws_markStripeS p0.St (laws_markConf p0.C p1).1).1).1).1).1).1, (FzAs.same _), .inl ?_⟩
  refine litE (m := 20) rfl ?_
  refine seqE ?_
  refine .inr ⟨0, _, _, _, c_laws_markTaskS p0.Tasks (laws_markItemS p0.Out (laws_markItemS p0.Queue (laws_markTimerS p0.Due (laws_markWheel p0.W (laws_markVerdictS p0.Cache (laws_markStripeS p0.St (laws_markConf p0.C p1).1).1).1).1).1).1).1, (FzAs.same _), .inl ?_⟩
  refine litE (m := 21) rfl ?_
  refine seqE ?_
  refine .inr ⟨0, _, _, _, c_laws_markDeedS p0.Deeds (laws_markTaskS p0.Tasks (laws_markItemS p0.Out (laws_markItemS p0.Queue (laws_markTimerS p0.Due (laws_markWheel p0.W (laws_markVerdictS p0.Cache (laws_markStripeS p0.St (laws_markConf p0.C p1).1).1).1).1).1).1).1).1, (FzAs.same _), .inl ?_⟩
  refine litE (m := 22) rfl ?_
  refine seqE ?_
  exact leafG hown hg
def laws_heldAttrS_b1 (i1 : Nat) (s1 : Int) (a1 : Attr) : Step (Int) Int :=
  (bif (!decide (a1.Key = (laws_markText s1))) then (.done (-1)) else (bif (!(a1.Num == ((Int.tmod (IntKind.i64.wrap (s1 + 1)) 3) == 0))) then (.done (-1)) else (bif (a1.N != (IntKind.i64.wrap ((IntKind.i64.wrap (s1 + 1)) + 1))) then (.done (-1)) else (bif (!decide (a1.Text = (laws_markText (IntKind.i64.wrap ((IntKind.i64.wrap ((IntKind.i64.wrap (s1 + 1)) + 1)) + 1))))) then (.done (-1)) else (.next (IntKind.i64.wrap ((IntKind.i64.wrap ((IntKind.i64.wrap ((IntKind.i64.wrap (s1 + 1)) + 1)) + 1)) + 1)))))))
def laws_heldAttrS (p0 : (List Attr)) (p1 : Int) : Int :=
  (Fin.get (fun s1 => s1) (loopL laws_heldAttrS_b1 0 p1 p0))
theorem c_laws_heldAttrS (p0 : (List Attr)) (p1 : Int) : FnOk prog 90 [.one (.s false 4 (List.map Attr.cells p0)), .one (.v (.int .i64 p1))] ⟨.one (.v (.int .i64 (laws_heldAttrS p0 p1))), [], [], false⟩ := by
  refine FnOk.intro (E := env) envOk wide func90 rfl (by kernel_rfl) rfl rfl ?_
  have hg := laws_heldAttrS.eq_1 p0 p1
  have hown : ∀ g : Int, AV.Own (AV.one (.v (.int .i64 g))) := fun g => .v _
  refine seqE ?_
  refine seqE ?_
  refine seqE ?_
  refine loopLE hg [0] (fun x1 => [(1, .one (.v (.int .i64 x1.s))), (5, .one (.v (.int .i64 ((x1.i : Nat) : Int))))]) (fun x1 => []) [] ?_ (fun x1 => ?_)
  · exact ⟨rfl, ⟨rfl, rfl, rfl, trivial⟩, trivial, trivial⟩
  refine seqE ?_
  refine seqE ?_
  refine lenM fun hN1 => ?_
  refine tstL (fun hi1 => ?_) (fun hi1 => ?_)
  · have hb1 := (x1.bdy hi1).trans (laws_heldAttrS_b1.eq_1 ..)
    have hw1 := wrap_succ hi1 (by first | assumption | omega)
    refine seqE ?_
    refine seqE ?_
    refine seqE ?_
    refine .inl ⟨by kernel_rfl, ?_⟩
    refine idxAt hi1 ?_
    refine ⟨_, _, c_laws_markText x1.s, (FzAs.same _), ?_⟩
    refine brE hb1 (fun hb1 h2 => ?_) (fun hb1 h2 => ?_)
    · refine seqE ?_
      have hg := donE hg (x1.outD hi1 hb1)
      exact leafE hown hg
    · refine seqE ?_
      refine seqE ?_
      refine seqE ?_
      refine idxAt hi1 ?_
      refine andE (by (first | omega | (simp (disch := omega) only [wrap_small, mid_eq, List.length_map]; omega) | (simp; done) | (simp; omega) | (simp at *; omega) | (simp at *; done) | (simp_all; done) | (simp_all; omega))) ?_
      refine brE hb1 (fun hb1 h3 => ?_) (fun hb1 h3 => ?_)
      · refine seqE ?_
        have hg := donE hg (x1.outD hi1 hb1)
        exact leafE hown hg
      · refine seqE ?_
        refine seqE ?_
        refine seqE ?_
        refine idxAt hi1 ?_
        refine brW hb1 (fun hb1 h4 => ?_) (fun hb1 h4 => ?_)
        · refine seqE ?_
          have hg := donE hg (x1.outD hi1 hb1)
          exact leafE hown hg
        · refine seqE ?_
          refine seqE ?_
          refine seqE ?_
          refine .inl ⟨by kernel_rfl, ?_⟩
          refine idxAt hi1 ?_
          refine ⟨_, _, c_laws_markText (IntKind.i64.wrap ((IntKind.i64.wrap ((IntKind.i64.wrap (x1.s + 1)) + 1)) + 1)), (FzAs.same _), ?_⟩
          refine brE hb1 (fun hb1 h5 => ?_) (fun hb1 h5 => x1.goE hi1 hb1 [] ⟨rfl, ⟨rfl, (eqInt hw1), rfl, trivial⟩, trivial, trivial⟩)
          refine seqE ?_
          have hg := donE hg (x1.outD hi1 hb1)
          exact leafE hown hg
  have hg := finE hg (x1.fin hi1)
  refine seqE ?_
  exact leafE hown hg
def laws_heldSpanS_b1 (i1 : Nat) (s1 : Int) (a1 : Span) : Step (Int) Int :=
  (bif (a1.Trace != s1) then (.done (-1)) else (bif (a1.Id != (IntKind.i64.wrap (s1 + 1))) then (.done (-1)) else (bif (a1.Start != (IntKind.i64.wrap ((IntKind.i64.wrap (s1 + 1)) + 1))) then (.done (-1)) else (bif (a1.End != (IntKind.i64.wrap ((IntKind.i64.wrap ((IntKind.i64.wrap (s1 + 1)) + 1)) + 1))) then (.done (-1)) else (bif (!(a1.Err == ((Int.tmod (IntKind.i64.wrap ((IntKind.i64.wrap ((IntKind.i64.wrap ((IntKind.i64.wrap (s1 + 1)) + 1)) + 1)) + 1)) 3) == 0))) then (.done (-1)) else (bif (decide ((laws_heldAttrS a1.Attrs (IntKind.i64.wrap ((IntKind.i64.wrap ((IntKind.i64.wrap ((IntKind.i64.wrap ((IntKind.i64.wrap (s1 + 1)) + 1)) + 1)) + 1)) + 1))) < 0)) then (.done (-1)) else (.next (laws_heldAttrS a1.Attrs (IntKind.i64.wrap ((IntKind.i64.wrap ((IntKind.i64.wrap ((IntKind.i64.wrap ((IntKind.i64.wrap (s1 + 1)) + 1)) + 1)) + 1)) + 1))))))))))
def laws_heldSpanS (p0 : (List Span)) (p1 : Int) : Int :=
  (Fin.get (fun s1 => s1) (loopL laws_heldSpanS_b1 0 p1 p0))
theorem c_laws_heldSpanS (p0 : (List Span)) (p1 : Int) : FnOk prog 33 [.one (.s false 6 (List.map (Span.cells false) p0)), .one (.v (.int .i64 p1))] ⟨.one (.v (.int .i64 (laws_heldSpanS p0 p1))), [], [], false⟩ := by
  refine FnOk.intro (E := env) envOk wide func33 rfl (by kernel_rfl) rfl rfl ?_
  have hg := laws_heldSpanS.eq_1 p0 p1
  have hown : ∀ g : Int, AV.Own (AV.one (.v (.int .i64 g))) := fun g => .v _
  refine seqE ?_
  refine seqE ?_
  refine seqE ?_
  refine loopLE hg [0] (fun x1 => [(1, .one (.v (.int .i64 x1.s))), (5, .one (.v (.int .i64 ((x1.i : Nat) : Int))))]) (fun x1 => []) [] ?_ (fun x1 => ?_)
  · exact ⟨rfl, ⟨rfl, rfl, rfl, trivial⟩, trivial, trivial⟩
  refine seqE ?_
  refine seqE ?_
  refine lenM fun hN1 => ?_
  refine tstL (fun hi1 => ?_) (fun hi1 => ?_)
  · have hb1 := (x1.bdy hi1).trans (laws_heldSpanS_b1.eq_1 ..)
    have hw1 := wrap_succ hi1 (by first | assumption | omega)
    refine seqE ?_
    refine seqE ?_
    refine seqE ?_
    refine idxAt hi1 ?_
    refine brW hb1 (fun hb1 h2 => ?_) (fun hb1 h2 => ?_)
    · refine seqE ?_
      have hg := donE hg (x1.outD hi1 hb1)
      exact leafE hown hg
    · refine seqE ?_
      refine seqE ?_
      refine seqE ?_
      refine idxAt hi1 ?_
      refine brW hb1 (fun hb1 h3 => ?_) (fun hb1 h3 => ?_)
      · refine seqE ?_
        have hg := donE hg (x1.outD hi1 hb1)
        exact leafE hown hg
      · refine seqE ?_
        refine seqE ?_
        refine seqE ?_
        refine idxAt hi1 ?_
        refine brW hb1 (fun hb1 h4 => ?_) (fun hb1 h4 => ?_)
        · refine seqE ?_
          have hg := donE hg (x1.outD hi1 hb1)
          exact leafE hown hg
        · refine seqE ?_
          refine seqE ?_
          refine seqE ?_
          refine idxAt hi1 ?_
          refine brW hb1 (fun hb1 h5 => ?_) (fun hb1 h5 => ?_)
          · refine seqE ?_
            have hg := donE hg (x1.outD hi1 hb1)
            exact leafE hown hg
          · refine seqE ?_
            refine seqE ?_
            refine seqE ?_
            refine idxAt hi1 ?_
            refine andE (by (first | omega | (simp (disch := omega) only [wrap_small, mid_eq, List.length_map]; omega) | (simp; done) | (simp; omega) | (simp at *; omega) | (simp at *; done) | (simp_all; done) | (simp_all; omega))) ?_
            refine brE hb1 (fun hb1 h6 => ?_) (fun hb1 h6 => ?_)
            · refine seqE ?_
              have hg := donE hg (x1.outD hi1 hb1)
              exact leafE hown hg
            · refine seqE ?_
              refine seqE ?_
              refine idxAt hi1 ?_
              refine .inl (⟨_, _, c_laws_heldAttrS (p0[x1.i]'hi1).Attrs (IntKind.i64.wrap ((IntKind.i64.wrap ((IntKind.i64.wrap ((IntKind.i64.wrap ((IntKind.i64.wrap (x1.s + 1)) + 1)) + 1)) + 1)) + 1)), (FzAs.same _), ?_⟩)
              refine litE (m := 1) rfl ?_
              refine seqE ?_
              refine brD hb1 (fun hb1 h7 => ?_) (fun hb1 h7 => x1.goE hi1 hb1 [] ⟨rfl, ⟨rfl, (eqInt hw1), rfl, trivial⟩, trivial, trivial⟩)
              refine seqE ?_
              have hg := donE hg (x1.outD hi1 hb1)
              exact leafE hown hg
  have hg := finE hg (x1.fin hi1)
  refine seqE ?_
  exact leafE hown hg
def laws_FnExactSent (p0 : World) (p1 : Int) : Bool :=
  (bif (decide ((laws_szWorld p0 1048576) < 0)) then true else (bif (!(laws_eqSpanS (impl_Sent (laws_toWorld p0) p1) (spec_Sent (laws_toWorld p0) p1))) then false else (bif (!(laws_eqWorld (laws_toWorld p0) (laws_toWorld p0))) then false else (bif (decide ((laws_markWorld (laws_toWorld p0) 1).1 < 0)) then false else (bif (!(laws_eqSpanS (impl_Sent (laws_toWorld p0) p1) (spec_Sent (laws_toWorld p0) p1))) then false else (bif (decide ((laws_heldSpanS (laws_markSpanS (impl_Sent (laws_toWorld p0) p1) 1).2 1) < 0)) then false else (bif ((laws_heldSpanS (laws_markSpanS (impl_Sent (laws_toWorld p0) p1) 1).2 1) != (laws_markSpanS (impl_Sent (laws_toWorld p0) p1) 1).1) then false else (bif (!(laws_eqSpanS (impl_Sent (laws_toWorld p0) p1) (spec_Sent (laws_toWorld p0) p1))) then false else (bif (decide ((laws_heldSpanS (laws_markSpanS (impl_Sent (laws_toWorld p0) p1) 1).2 1) < 0)) then false else (bif ((laws_heldSpanS (laws_markSpanS (impl_Sent (laws_toWorld p0) p1) 1).2 1) != (laws_markSpanS (impl_Sent (laws_toWorld p0) p1) 1).1) then false else true))))))))))
theorem c_laws_FnExactSent (p0 : World) (p1 : Int) (hw0 : World.bd 9223372036854775807 p0) : FnOk prog 5 [.agg ((World.cells false) p0), .one (.v (.int .i64 p1))] ⟨.one (.v (.bool (laws_FnExactSent p0 p1))), [], [], false⟩ := by
  refine FnOk.intro (E := env) envOk wide func5 rfl (by kernel_rfl) rfl rfl ?_
  have hg := laws_FnExactSent.eq_1 p0 p1
  have hown : ∀ g : Bool, AV.Own (AV.one (.v (.bool g))) := fun g => .v _
  refine seqE ?_
  refine litE (m := 0) rfl ?_
  refine seqE ?_
  refine seqE ?_
  refine .inl (⟨_, _, c_laws_szWorld p0 1048576, (FzAs.same _), ?_⟩)
  refine litE (m := 2) rfl ?_
  refine seqE ?_
  refine seqE ?_
  refine brD hg (fun hg h1 => ?_) (fun hg h1 => ?_)
  · refine seqE ?_
    exact leafE hown hg
  have hz1 := szd_laws_szWorld p0 1048576 (by assumption) (by decide) (by decide) (Int.not_lt.1 h1)
  have hs1 := hz1.1
  have hl1 : (laws_szWorld p0 1048576) ≤ 1048576 := Int.le_trans hz1.2 (by decide)
  refine seqE ?_
  refine .inl (⟨_, _, c_laws_toWorld p0 (by first | assumption | (simp only [id_laws_toWorld]; assumption)), (FzAs.same _), ?_⟩)
  refine litE (m := 3) rfl ?_
  refine .inl (⟨_, _, c_spec_Sent (laws_toWorld p0) p1 (by first | assumption | (simp only [id_laws_toWorld]; assumption)), (.cons (.agg (.cons (.same _) (.cons (.same _) (.cons (.same _) (.cons (.same _) (.cons (.same _) (.cons (.same _) (.cons (.same _) (.cons (.same _) (.cons (.same _) (.cons (.same _) (.cons (.same _) (.cons (.sl _ _ _ _ (frzMap frz_Pol _)) (.cons (.same _) (.cons (.same _) (.cons (.sl _ _ _ _ (frzMap frz_Stripe _)) (.cons (.same _) (.cons (.same _) (.cons (.same _) (.cons (.same _) (.cons (.same _) (.cons (.same _) (.cons (.same _) (.cons (.same _) (.cons (.sl _ _ _ _ (frzMap (frz_cSl frz_Timer) _)) (.cons (.sl _ _ _ _ (frzMap (frz_cSl frz_Timer) _)) (.cons (.same _) (.cons (.same _) (.cons (.sl _ _ _ _ (frzMap frz_Item _)) (.cons (.sl _ _ _ _ (frzMap frz_Item _)) (.cons (.sl _ _ _ _ (frzMap frz_Task _)) (.cons (.sl _ _ _ _ (frzMap frz_Deed _)) (.cons (.same _) .nil))))))))))))))))))))))))))))))))) (.same _)), ?_⟩)
  refine litE (m := 15) rfl ?_
  refine seqE ?_
  refine .inl (⟨_, _, c_laws_toWorld p0 (by first | assumption | (simp only [id_laws_toWorld]; assumption)), (FzAs.same _), ?_⟩)
  refine litE (m := 17) rfl ?_
  refine litE (m := 28) rfl ?_
  refine seqE ?_
  refine .inl (⟨_, _, c_impl_Sent (laws_toWorld p0) p1 (by first | assumption | (simp only [id_laws_toWorld]; assumption)), (.cons (.agg (.cons (.same _) (.cons (.same _) (.cons (.same _) (.cons (.same _) (.cons (.same _) (.cons (.same _) (.cons (.same _) (.cons (.same _) (.cons (.same _) (.cons (.same _) (.cons (.same _) (.cons (.sl _ _ _ _ (frzMap frz_Pol _)) (.cons (.same _) (.cons (.same _) (.cons (.sl _ _ _ _ (frzMap frz_Stripe _)) (.cons (.same _) (.cons (.same _) (.cons (.same _) (.cons (.same _) (.cons (.same _) (.cons (.same _) (.cons (.same _) (.cons (.same _) (.cons (.sl _ _ _ _ (frzMap (frz_cSl frz_Timer) _)) (.cons (.sl _ _ _ _ (frzMap (frz_cSl frz_Timer) _)) (.cons (.same _) (.cons (.same _) (.cons (.sl _ _ _ _ (frzMap frz_Item _)) (.cons (.sl _ _ _ _ (frzMap frz_Item _)) (.cons (.sl _ _ _ _ (frzMap frz_Task _)) (.cons (.sl _ _ _ _ (frzMap frz_Deed _)) (.cons (.same _) .nil))))))))))))))))))))))))))))))))) (.same _)), ?_⟩)
  refine litE (m := 30) rfl ?_
  refine seqE ?_
  refine seqE ?_
  refine .inl (⟨_, _, c_laws_eqSpanS (impl_Sent (laws_toWorld p0) p1) (spec_Sent (laws_toWorld p0) p1), (.cons (.one (.sl _ _ _ _ (frzMap frz_Span _))) (.cons (.one (.sl _ _ _ _ (frzMap frz_Span _))) (.same _))), ?_⟩)
  refine litE (m := 32) rfl ?_
  refine brE hg (fun hg h2 => ?_) (fun hg h2 => ?_)
  · refine seqE ?_
    exact leafE hown hg
  · refine seqE ?_
    refine seqE ?_
    refine .inr (.inl ⟨5, [(0, true), (1, true), (2, false), (3, false), (4, false)], by kernel_rfl, ?_⟩)
    refine ⟨_, _, c_laws_toWorld p0 (by first | assumption | (simp only [id_laws_toWorld]; assumption)), (FzAs.same _), ?_⟩
    refine litE (m := 33) rfl ?_
    refine ⟨_, _, c_laws_eqWorld (laws_toWorld p0) (laws_toWorld p0), (.cons (.agg (.cons (.same _) (.cons (.same _) (.cons (.same _) (.cons (.same _) (.cons (.same _) (.cons (.same _) (.cons (.same _) (.cons (.same _) (.cons (.same _) (.cons (.same _) (.cons (.same _) (.cons (.sl _ _ _ _ (frzMap frz_Pol _)) (.cons (.same _) (.cons (.same _) (.cons (.sl _ _ _ _ (frzMap frz_Stripe _)) (.cons (.same _) (.cons (.same _) (.cons (.same _) (.cons (.same _) (.cons (.same _) (.cons (.same _) (.cons (.same _) (.cons (.same _) (.cons (.sl _ _ _ _ (frzMap (frz_cSl frz_Timer) _)) (.cons (.sl _ _ _ _ (frzMap (frz_cSl frz_Timer) _)) (.cons (.same _) (.cons (.same _) (.cons (.sl _ _ _ _ (frzMap frz_Item _)) (.cons (.sl _ _ _ _ (frzMap frz_Item _)) (.cons (.sl _ _ _ _ (frzMap frz_Task _)) (.cons (.sl _ _ _ _ (frzMap frz_Deed _)) (.cons (.same _) .nil))))))))))))))))))))))))))))))))) (.cons (.agg (.cons (.same _) (.cons (.same _) (.cons (.same _) (.cons (.same _) (.cons (.same _) (.cons (.same _) (.cons (.same _) (.cons (.same _) (.cons (.same _) (.cons (.same _) (.cons (.same _) (.cons (.sl _ _ _ _ (frzMap frz_Pol _)) (.cons (.same _) (.cons (.same _) (.cons (.sl _ _ _ _ (frzMap frz_Stripe _)) (.cons (.same _) (.cons (.same _) (.cons (.same _) (.cons (.same _) (.cons (.same _) (.cons (.same _) (.cons (.same _) (.cons (.same _) (.cons (.sl _ _ _ _ (frzMap (frz_cSl frz_Timer) _)) (.cons (.sl _ _ _ _ (frzMap (frz_cSl frz_Timer) _)) (.cons (.same _) (.cons (.same _) (.cons (.sl _ _ _ _ (frzMap frz_Item _)) (.cons (.sl _ _ _ _ (frzMap frz_Item _)) (.cons (.sl _ _ _ _ (frzMap frz_Task _)) (.cons (.sl _ _ _ _ (frzMap frz_Deed _)) (.cons (.same _) .nil))))))))))))))))))))))))))))))))) (.same _))), ?_⟩
    refine litE (m := 45) rfl ?_
    refine brE hg (fun hg h3 => ?_) (fun hg h3 => ?_)
    · refine seqE ?_
      exact leafE hown hg
    · refine seqE ?_
      refine seqE ?_
      refine .inr ⟨0, _, _, _, c_laws_markWorld (laws_toWorld p0) 1, (FzAs.same _), ?_⟩
      refine litE (m := 46) rfl ?_
      refine seqE ?_
      refine seqE ?_
      refine brDF hg (fun hg h4 => ?_) (fun hg h4 => ?_)
      · refine .inl (⟨_, _, c_laws_eqSpanS (impl_Sent (laws_toWorld p0) p1) (spec_Sent (laws_toWorld p0) p1), (.cons (.one (.sl _ _ _ _ (frzMap frz_Span _))) (.cons (.one (.sl _ _ _ _ (frzMap frz_Span _))) (.same _))), ?_⟩)
        refine litE (m := 47) rfl ?_
        refine brE hg (fun hg h5 => ?_) (fun hg h5 => ?_)
        · refine seqE ?_
          exact leafE hown hg
        · refine seqE ?_
          refine seqE ?_
          refine .inr ⟨0, _, _, _, c_laws_markSpanS (impl_Sent (laws_toWorld p0) p1) 1, (FzAs.same _), .inl ?_⟩
          refine litE (m := 48) rfl ?_
          refine seqE ?_
          refine seqE ?_
          refine .inl (⟨_, _, c_laws_heldSpanS (laws_markSpanS (impl_Sent (laws_toWorld p0) p1) 1).2 1, (.cons (.one (.sl _ _ _ _ (frzMap frz_Span _))) (.same _)), ?_⟩)
          refine litE (m := 49) rfl ?_
          refine seqE ?_
          refine seqE ?_
          refine brD hg (fun hg h6 => ?_) (fun hg h6 => ?_)
          · refine seqE ?_
            exact leafE hown hg
          · refine seqE ?_
            refine seqE ?_
            refine brW hg (fun hg h7 => ?_) (fun hg h7 => ?_)
            · refine seqE ?_
              exact leafE hown hg
            · refine seqE ?_
              refine .inl (⟨_, _, c_laws_toWorld p0 (by first | assumption | (simp only [id_laws_toWorld]; assumption)), (FzAs.same _), ?_⟩)
              refine litE (m := 50) rfl ?_
              refine .inl (⟨_, _, c_impl_Sent (laws_toWorld p0) p1 (by first | assumption | (simp only [id_laws_toWorld]; assumption)), (.cons (.agg (.cons (.same _) (.cons (.same _) (.cons (.same _) (.cons (.same _) (.cons (.same _) (.cons (.same _) (.cons (.same _) (.cons (.same _) (.cons (.same _) (.cons (.same _) (.cons (.same _) (.cons (.sl _ _ _ _ (frzMap frz_Pol _)) (.cons (.same _) (.cons (.same _) (.cons (.sl _ _ _ _ (frzMap frz_Stripe _)) (.cons (.same _) (.cons (.same _) (.cons (.same _) (.cons (.same _) (.cons (.same _) (.cons (.same _) (.cons (.same _) (.cons (.same _) (.cons (.sl _ _ _ _ (frzMap (frz_cSl frz_Timer) _)) (.cons (.sl _ _ _ _ (frzMap (frz_cSl frz_Timer) _)) (.cons (.same _) (.cons (.same _) (.cons (.sl _ _ _ _ (frzMap frz_Item _)) (.cons (.sl _ _ _ _ (frzMap frz_Item _)) (.cons (.sl _ _ _ _ (frzMap frz_Task _)) (.cons (.sl _ _ _ _ (frzMap frz_Deed _)) (.cons (.same _) .nil))))))))))))))))))))))))))))))))) (.same _)), ?_⟩)
              refine litE (m := 62) rfl ?_
              refine seqE ?_
              refine seqE ?_
              refine .inl (⟨_, _, c_laws_eqSpanS (impl_Sent (laws_toWorld p0) p1) (spec_Sent (laws_toWorld p0) p1), (.cons (.one (.sl _ _ _ _ (frzMap frz_Span _))) (.cons (.one (.sl _ _ _ _ (frzMap frz_Span _))) (.same _))), ?_⟩)
              refine litE (m := 64) rfl ?_
              refine brE hg (fun hg h8 => ?_) (fun hg h8 => ?_)
              · refine seqE ?_
                exact leafE hown hg
              · refine seqE ?_
                refine seqE ?_
                refine .inl (⟨_, _, c_laws_heldSpanS (laws_markSpanS (impl_Sent (laws_toWorld p0) p1) 1).2 1, (.cons (.one (.sl _ _ _ _ (frzMap frz_Span _))) (.same _)), ?_⟩)
                refine litE (m := 65) rfl ?_
                refine seqE ?_
                refine seqE ?_
                refine brD hg (fun hg h9 => ?_) (fun hg h9 => ?_)
                · refine seqE ?_
                  exact leafE hown hg
                · refine seqE ?_
                  refine seqE ?_
                  refine brW hg (fun hg h10 => ?_) (fun hg h10 => ?_)
                  · refine seqE ?_
                    exact leafE hown hg
                  · refine seqE ?_
                    exact leafE hown hg
      · refine seqE ?_
        exact leafE hown hg
theorem ms_PolR : ∀ (n m : Nat) (l : List Pol) (left k : Int), Pol.depL l < n → Pol.depL l < m → bdS Pol.bd 9223372036854775807 l → 0 ≤ left → left ≤ 1048576 → 0 ≤ laws_szPolS (laws_szPolR m) l left → 1 ≤ k → k + 32 * left ≤ 1099511627776 →
    laws_szPolS (laws_szPolR m) l left ≤ left ∧ k ≤ (laws_markPolSR n l k).1 ∧ (laws_markPolSR n l k).1 ≤ k + 32 * (left - laws_szPolS (laws_szPolR m) l left) := by
  intro n
  induction n with
  | zero => intro m l left k h; omega
  | succ n ih =>
    intro m l left k hd1 hd2 hb h0 h1 h2 h3 h4
    have key : MkS (bdS fun M a => Pol.bd M a ∧ Pol.dep a < n + 1 ∧ Pol.dep a < m) (laws_markPolSR (n + 1)) (laws_szPolS (laws_szPolR m)) := by
      refine mkS_ok (M := fun a k => (Pol.mk k (IntKind.i64.wrap (k + 1)) (laws_markText (IntKind.i64.wrap ((IntKind.i64.wrap (k + 1)) + 1))) (laws_markText (IntKind.i64.wrap ((IntKind.i64.wrap ((IntKind.i64.wrap (k + 1)) + 1)) + 1))) ((laws_markPolSR n) a.L (IntKind.i64.wrap ((IntKind.i64.wrap ((IntKind.i64.wrap ((IntKind.i64.wrap (k + 1)) + 1)) + 1)) + 1))).2)) (N := fun a k => ((laws_markPolSR n) a.L (IntKind.i64.wrap ((IntKind.i64.wrap ((IntKind.i64.wrap ((IntKind.i64.wrap (k + 1)) + 1)) + 1)) + 1))).1) (f := laws_szPolR m) (P := fun M a => Pol.bd M a ∧ Pol.dep a < n + 1 ∧ Pol.dep a < m) ?_ (mb := laws_markPolS_b1 (laws_markPolSR n)) (fun _ _ _ => rfl) (zb := laws_szPolS_b1 (laws_szPolR m)) (fun _ _ _ => rfl) (fun _ _ => rfl) (fun _ _ => rfl)
      intro a k s hP h0 h1 h2 h3 h4
      obtain ⟨hbd, hd1, hd2⟩ := hP
      obtain ⟨b1, b2, b3⟩ := Pol.bd_eq.1 hbd
      have hdl := Pol.dep_L a
      cases m with
      | zero => omega
      | succ m =>
        unfold laws_szPolR at h2 ⊢
        rw [wrap_small (n := s - ((a.Key.size : Nat) : Int)) (by omega) (by omega)] at h2 ⊢
        rcases ilg (s - ((a.Key.size : Nat) : Int)) 0 with g1 | g1
        · rw [decide_eq_true g1] at h2; simp at h2
        rw [decide_eq_false (show ¬ s - ((a.Key.size : Nat) : Int) < 0 by omega)] at h2 ⊢
        simp only [cond_false] at h2 ⊢
        rw [wrap_small (n := s - ((a.Key.size : Nat) : Int) - ((a.Text.size : Nat) : Int)) (by omega) (by omega)] at h2 ⊢
        rcases ilg (s - ((a.Key.size : Nat) : Int) - ((a.Text.size : Nat) : Int)) 0 with g2 | g2
        · rw [decide_eq_true g2] at h2; simp at h2
        rw [decide_eq_false (show ¬ s - ((a.Key.size : Nat) : Int) - ((a.Text.size : Nat) : Int) < 0 by omega)] at h2 ⊢
        simp only [cond_false] at h2 ⊢
        rcases ilg (laws_szPolS (laws_szPolR m) a.L (s - ((a.Key.size : Nat) : Int) - ((a.Text.size : Nat) : Int))) 0 with g3 | g3
        · rw [decide_eq_true g3] at h2; simp at h2
        rw [decide_eq_false (show ¬ laws_szPolS (laws_szPolR m) a.L (s - ((a.Key.size : Nat) : Int) - ((a.Text.size : Nat) : Int)) < 0 by omega)] at h2 ⊢
        simp only [cond_false] at h2 ⊢
        have q := ih m a.L (s - ((a.Key.size : Nat) : Int) - ((a.Text.size : Nat) : Int)) (k + 1 + 1 + 1 + 1) (by omega) (by omega) b3 g2 (by omega) g3 (by omega) (by omega)
        simp (disch := omega) only [wrap_small]
        omega
    exact key l left k ⟨hb.1, fun x hx => ⟨hb.2 x hx, by have := Pol.depL_mem hx; omega, by have := Pol.depL_mem hx; omega⟩⟩ h0 h1 h2 h3 h4
theorem ms_Conf : MkS Conf.bd laws_markConf laws_szConf := by
  intro x left k hP h0 h1 h2 h3 h4
  obtain ⟨b1, b2, b3⟩ := Pol.bd_eq.1 (show Pol.bd 9223372036854775807 x.Rule from hP)
  unfold laws_szConf at h2 ⊢
  have hz := (szd_laws_szPol x.Rule left hP h0 h1)
  rcases ilg (laws_szPol x.Rule left) 0 with g1 | g1
  · rw [decide_eq_true g1] at h2; simp at h2
  rw [decide_eq_false (show ¬ laws_szPol x.Rule left < 0 by omega)] at h2 ⊢
  simp only [cond_false] at h2 ⊢
  unfold laws_markConf laws_markPol laws_markPolS
  simp only
  unfold laws_szPol at g1 h2 hz ⊢
  have hdl := Pol.dep_L x.Rule
  unfold laws_szPolR at g1 h2 hz ⊢
  rw [wrap_small (n := left - ((x.Rule.Key.size : Nat) : Int)) (by omega) (by omega)] at g1 h2 hz ⊢
  rcases ilg (left - ((x.Rule.Key.size : Nat) : Int)) 0 with f1 | f1
  · rw [decide_eq_true f1] at g1; simp at g1
  rw [decide_eq_false (show ¬ left - ((x.Rule.Key.size : Nat) : Int) < 0 by omega)] at g1 h2 hz ⊢
  simp only [cond_false] at g1 h2 hz ⊢
  rw [wrap_small (n := left - ((x.Rule.Key.size : Nat) : Int) - ((x.Rule.Text.size : Nat) : Int)) (by omega) (by omega)] at g1 h2 hz ⊢
  rcases ilg (left - ((x.Rule.Key.size : Nat) : Int) - ((x.Rule.Text.size : Nat) : Int)) 0 with f2 | f2
  · rw [decide_eq_true f2] at g1; simp at g1
  rw [decide_eq_false (show ¬ left - ((x.Rule.Key.size : Nat) : Int) - ((x.Rule.Text.size : Nat) : Int) < 0 by omega)] at g1 h2 hz ⊢
  simp only [cond_false] at g1 h2 hz ⊢
  rcases ilg (laws_szPolS (laws_szPolR (Pol.dep x.Rule)) x.Rule.L (left - ((x.Rule.Key.size : Nat) : Int) - ((x.Rule.Text.size : Nat) : Int))) 0 with f3 | f3
  · rw [decide_eq_true f3] at g1; simp at g1
  rw [decide_eq_false (show ¬ laws_szPolS (laws_szPolR (Pol.dep x.Rule)) x.Rule.L (left - ((x.Rule.Key.size : Nat) : Int) - ((x.Rule.Text.size : Nat) : Int)) < 0 by omega)] at g1 h2 hz ⊢
  simp only [cond_false] at g1 h2 hz ⊢
  have q := ms_PolR (Pol.depL x.Rule.L + 1) (Pol.dep x.Rule) x.Rule.L (left - ((x.Rule.Key.size : Nat) : Int) - ((x.Rule.Text.size : Nat) : Int)) k (by omega) (by omega) b3 f2 (by omega) f3 h3 (by omega)
  omega
theorem me_AttrS : MkE (Attr.bd 9223372036854775807) (fun a k => (IntKind.i64.wrap ((IntKind.i64.wrap ((IntKind.i64.wrap ((IntKind.i64.wrap (k + 1)) + 1)) + 1)) + 1))) laws_szAttr := by
  intro a k s hP h0 h1 h2 h3 h4
  have hz := (szd_laws_szAttr a s hP h0 h1 h2).2
  refine ⟨hz, ?_⟩
  simp (disch := omega) only [wrap_small]
  omega
theorem ms_AttrS : MkS (bdS Attr.bd) laws_markAttrS laws_szAttrS := mkS_ok (M := fun a k => (Attr.mk (laws_markText k) ((Int.tmod (IntKind.i64.wrap (k + 1)) 3) == 0) (IntKind.i64.wrap ((IntKind.i64.wrap (k + 1)) + 1)) (laws_markText (IntKind.i64.wrap ((IntKind.i64.wrap ((IntKind.i64.wrap (k + 1)) + 1)) + 1))))) (N := fun a k => (IntKind.i64.wrap ((IntKind.i64.wrap ((IntKind.i64.wrap ((IntKind.i64.wrap (k + 1)) + 1)) + 1)) + 1))) me_AttrS (mb := laws_markAttrS_b1) (fun _ _ _ => rfl) (zb := laws_szAttrS_b1) (fun _ _ _ => rfl) (fun _ _ => rfl) (fun _ _ => rfl)
theorem sze_Span (x : Span) (s : Int) (h : 0 ≤ laws_szSpan x s) : laws_szSpan x s = (laws_szAttrS x.Attrs s) ∧ 0 ≤ (laws_szAttrS x.Attrs s) := by
  unfold laws_szSpan at h ⊢
  rcases ilg (laws_szAttrS x.Attrs s) 0 with g0 | g0
  · rw [decide_eq_true g0] at h; simp at h
  rw [decide_eq_false (show ¬ (laws_szAttrS x.Attrs s) < 0 by omega)] at h ⊢
  simp only [cond_false] at h ⊢
  exact ⟨by first | rfl | trivial, g0⟩
theorem me_SpanS : MkE (Span.bd 9223372036854775807) (fun a k => (laws_markAttrS a.Attrs (IntKind.i64.wrap ((IntKind.i64.wrap ((IntKind.i64.wrap ((IntKind.i64.wrap ((IntKind.i64.wrap (k + 1)) + 1)) + 1)) + 1)) + 1))).1) laws_szSpan := by
  intro a k s hP h0 h1 h2 h3 h4
  have hz := (szd_laws_szSpan a s hP h0 h1 h2).2
  refine ⟨hz, ?_⟩
  obtain ⟨e1, g1⟩ := sze_Span a s h2
  rw [e1]
  have q0 := ms_AttrS a.Attrs s (k + 1 + 1 + 1 + 1 + 1) hP (by omega) (by omega) g1 (by omega) (by omega)
  simp (disch := omega) only [wrap_small]
  omega
theorem ms_SpanS : MkS (bdS Span.bd) laws_markSpanS laws_szSpanS := mkS_ok (M := fun a k => (Span.mk k (IntKind.i64.wrap (k + 1)) (IntKind.i64.wrap ((IntKind.i64.wrap (k + 1)) + 1)) (IntKind.i64.wrap ((IntKind.i64.wrap ((IntKind.i64.wrap (k + 1)) + 1)) + 1)) ((Int.tmod (IntKind.i64.wrap ((IntKind.i64.wrap ((IntKind.i64.wrap ((IntKind.i64.wrap (k + 1)) + 1)) + 1)) + 1)) 3) == 0) (laws_markAttrS a.Attrs (IntKind.i64.wrap ((IntKind.i64.wrap ((IntKind.i64.wrap ((IntKind.i64.wrap ((IntKind.i64.wrap (k + 1)) + 1)) + 1)) + 1)) + 1))).2)) (N := fun a k => (laws_markAttrS a.Attrs (IntKind.i64.wrap ((IntKind.i64.wrap ((IntKind.i64.wrap ((IntKind.i64.wrap ((IntKind.i64.wrap (k + 1)) + 1)) + 1)) + 1)) + 1))).1) me_SpanS (mb := laws_markSpanS_b1) (fun _ _ _ => rfl) (zb := laws_szSpanS_b1) (fun _ _ _ => rfl) (fun _ _ => rfl) (fun _ _ => rfl)
theorem sze_Trail (x : Trail) (s : Int) (h : 0 ≤ laws_szTrail x s) : laws_szTrail x s = (laws_szSpanS x.Spans s) ∧ 0 ≤ (laws_szSpanS x.Spans s) := by
  unfold laws_szTrail at h ⊢
  rcases ilg (laws_szSpanS x.Spans s) 0 with g0 | g0
  · rw [decide_eq_true g0] at h; simp at h
  rw [decide_eq_false (show ¬ (laws_szSpanS x.Spans s) < 0 by omega)] at h ⊢
  simp only [cond_false] at h ⊢
  exact ⟨by first | rfl | trivial, g0⟩
theorem me_TrailS : MkE (Trail.bd 9223372036854775807) (fun a k => (laws_markSpanS a.Spans (IntKind.i64.wrap ((IntKind.i64.wrap ((IntKind.i64.wrap (k + 1)) + 1)) + 1))).1) laws_szTrail := by
  intro a k s hP h0 h1 h2 h3 h4
  have hz := (szd_laws_szTrail a s hP h0 h1 h2).2
  refine ⟨hz, ?_⟩
  obtain ⟨e1, g1⟩ := sze_Trail a s h2
  rw [e1]
  have q0 := ms_SpanS a.Spans s (k + 1 + 1 + 1) hP (by omega) (by omega) g1 (by omega) (by omega)
  simp (disch := omega) only [wrap_small]
  omega
theorem ms_TrailS : MkS (bdS Trail.bd) laws_markTrailS laws_szTrailS := mkS_ok (M := fun a k => (Trail.mk k (IntKind.i64.wrap (k + 1)) (IntKind.i64.wrap ((IntKind.i64.wrap (k + 1)) + 1)) (laws_markSpanS a.Spans (IntKind.i64.wrap ((IntKind.i64.wrap ((IntKind.i64.wrap (k + 1)) + 1)) + 1))).2)) (N := fun a k => (laws_markSpanS a.Spans (IntKind.i64.wrap ((IntKind.i64.wrap ((IntKind.i64.wrap (k + 1)) + 1)) + 1))).1) me_TrailS (mb := laws_markTrailS_b1) (fun _ _ _ => rfl) (zb := laws_szTrailS_b1) (fun _ _ _ => rfl) (fun _ _ => rfl) (fun _ _ => rfl)
theorem sze_Stripe (x : Stripe) (s : Int) (h : 0 ≤ laws_szStripe x s) : laws_szStripe x s = (laws_szTrailS x.L s) ∧ 0 ≤ (laws_szTrailS x.L s) := by
  unfold laws_szStripe at h ⊢
  rcases ilg (laws_szTrailS x.L s) 0 with g0 | g0
  · rw [decide_eq_true g0] at h; simp at h
  rw [decide_eq_false (show ¬ (laws_szTrailS x.L s) < 0 by omega)] at h ⊢
  simp only [cond_false] at h ⊢
  exact ⟨by first | rfl | trivial, g0⟩
theorem me_StripeS : MkE (Stripe.bd 9223372036854775807) (fun a k => (laws_markTrailS a.L (IntKind.i64.wrap (k + 1))).1) laws_szStripe := by
  intro a k s hP h0 h1 h2 h3 h4
  have hz := (szd_laws_szStripe a s hP h0 h1 h2).2
  refine ⟨hz, ?_⟩
  obtain ⟨e1, g1⟩ := sze_Stripe a s h2
  rw [e1]
  have q0 := ms_TrailS a.L s (k + 1) hP (by omega) (by omega) g1 (by omega) (by omega)
  simp (disch := omega) only [wrap_small]
  omega
theorem ms_StripeS : MkS (bdS Stripe.bd) laws_markStripeS laws_szStripeS := mkS_ok (M := fun a k => (Stripe.mk k (laws_markTrailS a.L (IntKind.i64.wrap (k + 1))).2)) (N := fun a k => (laws_markTrailS a.L (IntKind.i64.wrap (k + 1))).1) me_StripeS (mb := laws_markStripeS_b1) (fun _ _ _ => rfl) (zb := laws_szStripeS_b1) (fun _ _ _ => rfl) (fun _ _ => rfl) (fun _ _ => rfl)
theorem me_VerdictS (a : Verdict) (k : Int) (h1 : 1 ≤ k) (h2 : k + 32 ≤ 1099511627776) : k ≤ (IntKind.i64.wrap ((IntKind.i64.wrap ((IntKind.i64.wrap (k + 1)) + 1)) + 1)) ∧ (IntKind.i64.wrap ((IntKind.i64.wrap ((IntKind.i64.wrap (k + 1)) + 1)) + 1)) ≤ k + 32 := by
  simp (disch := omega) only [wrap_small]
  omega
theorem ms_VerdictS : MkS (bdS Verdict.bd) laws_markVerdictS laws_szVerdictS := mkF_ok (M := fun a k => (Verdict.mk k (IntKind.i64.wrap (k + 1)) ((Int.tmod (IntKind.i64.wrap ((IntKind.i64.wrap (k + 1)) + 1)) 3) == 0))) (N := fun a k => (IntKind.i64.wrap ((IntKind.i64.wrap ((IntKind.i64.wrap (k + 1)) + 1)) + 1))) me_VerdictS (mb := laws_markVerdictS_b1) (fun _ _ _ => rfl) (fun _ _ => rfl) (fun _ _ => rfl)
theorem me_TimerS (a : Timer) (k : Int) (h1 : 1 ≤ k) (h2 : k + 32 ≤ 1099511627776) : k ≤ (IntKind.i64.wrap ((IntKind.i64.wrap ((IntKind.i64.wrap (k + 1)) + 1)) + 1)) ∧ (IntKind.i64.wrap ((IntKind.i64.wrap ((IntKind.i64.wrap (k + 1)) + 1)) + 1)) ≤ k + 32 := by
  simp (disch := omega) only [wrap_small]
  omega
theorem ms_TimerS : MkS (bdS Timer.bd) laws_markTimerS laws_szTimerS := mkF_ok (M := fun a k => (Timer.mk k (IntKind.i64.wrap (k + 1)) (IntKind.i64.wrap ((IntKind.i64.wrap (k + 1)) + 1)))) (N := fun a k => (IntKind.i64.wrap ((IntKind.i64.wrap ((IntKind.i64.wrap (k + 1)) + 1)) + 1))) me_TimerS (mb := laws_markTimerS_b1) (fun _ _ _ => rfl) (fun _ _ => rfl) (fun _ _ => rfl)
theorem me_TimerSS : MkE (bdS Timer.bd 9223372036854775807) (fun a k => (laws_markTimerS a k).1) laws_szTimerS := by
  intro a k s hP h0 h1 h2 h3 h4
  have hz := (szd_laws_szTimerS a s hP h0 h1 h2).2
  refine ⟨hz, ?_⟩
  have q := ms_TimerS a s k hP h0 h1 h2 h3 (by omega)
  simp only
  omega
theorem ms_TimerSS : MkS (bdS (bdS Timer.bd)) laws_markTimerSS laws_szTimerSS := mkS_ok (M := fun a k => (laws_markTimerS a k).2) (N := fun a k => (laws_markTimerS a k).1) me_TimerSS (mb := laws_markTimerSS_b1) (fun _ _ _ => rfl) (zb := laws_szTimerSS_b1) (fun _ _ _ => rfl) (fun _ _ => rfl) (fun _ _ => rfl)
theorem sze_Wheel (x : Wheel) (s : Int) (h : 0 ≤ laws_szWheel x s) : laws_szWheel x s = (laws_szTimerS x.Rest (laws_szTimerSS x.Far (laws_szTimerSS x.Near s))) ∧ 0 ≤ (laws_szTimerSS x.Near s) ∧ 0 ≤ (laws_szTimerSS x.Far (laws_szTimerSS x.Near s)) ∧ 0 ≤ (laws_szTimerS x.Rest (laws_szTimerSS x.Far (laws_szTimerSS x.Near s))) := by
  unfold laws_szWheel at h ⊢
  rcases ilg (laws_szTimerSS x.Near s) 0 with g0 | g0
  · rw [decide_eq_true g0] at h; simp at h
  rw [decide_eq_false (show ¬ (laws_szTimerSS x.Near s) < 0 by omega)] at h ⊢
  simp only [cond_false] at h ⊢
  rcases ilg (laws_szTimerSS x.Far (laws_szTimerSS x.Near s)) 0 with g1 | g1
  · rw [decide_eq_true g1] at h; simp at h
  rw [decide_eq_false (show ¬ (laws_szTimerSS x.Far (laws_szTimerSS x.Near s)) < 0 by omega)] at h ⊢
  simp only [cond_false] at h ⊢
  rcases ilg (laws_szTimerS x.Rest (laws_szTimerSS x.Far (laws_szTimerSS x.Near s))) 0 with g2 | g2
  · rw [decide_eq_true g2] at h; simp at h
  rw [decide_eq_false (show ¬ (laws_szTimerS x.Rest (laws_szTimerSS x.Far (laws_szTimerSS x.Near s))) < 0 by omega)] at h ⊢
  simp only [cond_false] at h ⊢
  exact ⟨by first | rfl | trivial, g0, g1, g2⟩
theorem ms_Wheel : MkS Wheel.bd laws_markWheel laws_szWheel := by
  intro x s k hP h0 h1 h2 h3 h4
  obtain ⟨e, g1, g2, g3⟩ := sze_Wheel x s h2
  rw [e]
  unfold laws_markWheel
  simp only
  have q0 := ms_TimerSS x.Near s k hP.1 h0 h1 g1 h3 h4
  have q1 := ms_TimerSS x.Far _ (laws_markTimerSS x.Near k).1 hP.2.1 g1 (by omega) g2 (by omega) (by omega)
  have q2 := ms_TimerS x.Rest _ (laws_markTimerSS x.Far (laws_markTimerSS x.Near k).1).1 hP.2.2 g2 (by omega) g3 (by omega) (by omega)
  omega
theorem sze_Item (x : Item) (s : Int) (h : 0 ≤ laws_szItem x s) : laws_szItem x s = (laws_szSpan x.S s) ∧ 0 ≤ (laws_szSpan x.S s) := by
  unfold laws_szItem at h ⊢
  rcases ilg (laws_szSpan x.S s) 0 with g0 | g0
  · rw [decide_eq_true g0] at h; simp at h
  rw [decide_eq_false (show ¬ (laws_szSpan x.S s) < 0 by omega)] at h ⊢
  simp only [cond_false] at h ⊢
  exact ⟨by first | rfl | trivial, g0⟩
theorem me_ItemS : MkE (Item.bd 9223372036854775807) (fun a k => (laws_markAttrS a.S.Attrs (IntKind.i64.wrap ((IntKind.i64.wrap ((IntKind.i64.wrap ((IntKind.i64.wrap ((IntKind.i64.wrap ((IntKind.i64.wrap (k + 1)) + 1)) + 1)) + 1)) + 1)) + 1))).1) laws_szItem := by
  intro a k s hP h0 h1 h2 h3 h4
  have hz := (szd_laws_szItem a s hP h0 h1 h2).2
  refine ⟨hz, ?_⟩
  obtain ⟨e1, g1⟩ := sze_Item a s h2
  obtain ⟨e2, g2⟩ := sze_Span a.S s g1
  rw [e1, e2]
  have q0 := ms_AttrS a.S.Attrs s (k + 1 + 1 + 1 + 1 + 1 + 1) hP (by omega) (by omega) g2 (by omega) (by omega)
  simp (disch := omega) only [wrap_small]
  omega
theorem ms_ItemS : MkS (bdS Item.bd) laws_markItemS laws_szItemS := mkS_ok (M := fun a k => (Item.mk k (Span.mk (IntKind.i64.wrap (k + 1)) (IntKind.i64.wrap ((IntKind.i64.wrap (k + 1)) + 1)) (IntKind.i64.wrap ((IntKind.i64.wrap ((IntKind.i64.wrap (k + 1)) + 1)) + 1)) (IntKind.i64.wrap ((IntKind.i64.wrap ((IntKind.i64.wrap ((IntKind.i64.wrap (k + 1)) + 1)) + 1)) + 1)) ((Int.tmod (IntKind.i64.wrap ((IntKind.i64.wrap ((IntKind.i64.wrap ((IntKind.i64.wrap ((IntKind.i64.wrap (k + 1)) + 1)) + 1)) + 1)) + 1)) 3) == 0) (laws_markAttrS a.S.Attrs (IntKind.i64.wrap ((IntKind.i64.wrap ((IntKind.i64.wrap ((IntKind.i64.wrap ((IntKind.i64.wrap ((IntKind.i64.wrap (k + 1)) + 1)) + 1)) + 1)) + 1)) + 1))).2))) (N := fun a k => (laws_markAttrS a.S.Attrs (IntKind.i64.wrap ((IntKind.i64.wrap ((IntKind.i64.wrap ((IntKind.i64.wrap ((IntKind.i64.wrap ((IntKind.i64.wrap (k + 1)) + 1)) + 1)) + 1)) + 1)) + 1))).1) me_ItemS (mb := laws_markItemS_b1) (fun _ _ _ => rfl) (zb := laws_szItemS_b1) (fun _ _ _ => rfl) (fun _ _ => rfl) (fun _ _ => rfl)
theorem sze_Task (x : Task) (s : Int) (h : 0 ≤ laws_szTask x s) : laws_szTask x s = (laws_szItemS x.Hand (laws_szSpan x.S s)) ∧ 0 ≤ (laws_szSpan x.S s) ∧ 0 ≤ (laws_szItemS x.Hand (laws_szSpan x.S s)) := by
  unfold laws_szTask at h ⊢
  rcases ilg (laws_szSpan x.S s) 0 with g0 | g0
  · rw [decide_eq_true g0] at h; simp at h
  rw [decide_eq_false (show ¬ (laws_szSpan x.S s) < 0 by omega)] at h ⊢
  simp only [cond_false] at h ⊢
  rcases ilg (laws_szItemS x.Hand (laws_szSpan x.S s)) 0 with g1 | g1
  · rw [decide_eq_true g1] at h; simp at h
  rw [decide_eq_false (show ¬ (laws_szItemS x.Hand (laws_szSpan x.S s)) < 0 by omega)] at h ⊢
  simp only [cond_false] at h ⊢
  exact ⟨by first | rfl | trivial, g0, g1⟩
theorem me_TaskS : MkE (Task.bd 9223372036854775807) (fun a k => (IntKind.i64.wrap ((laws_markItemS a.Hand (IntKind.i64.wrap ((IntKind.i64.wrap ((laws_markAttrS a.S.Attrs (IntKind.i64.wrap ((IntKind.i64.wrap ((IntKind.i64.wrap ((IntKind.i64.wrap ((IntKind.i64.wrap ((IntKind.i64.wrap ((IntKind.i64.wrap (k + 1)) + 1)) + 1)) + 1)) + 1)) + 1)) + 1))).1 + 1)) + 1))).1 + 1))) laws_szTask := by
  intro a k s hP h0 h1 h2 h3 h4
  have hz := (szd_laws_szTask a s hP h0 h1 h2).2
  refine ⟨hz, ?_⟩
  obtain ⟨e1, g1, g3⟩ := sze_Task a s h2
  obtain ⟨e2, g2⟩ := sze_Span a.S s g1
  rw [e2] at e1 g3
  rw [e1]
  have q0 := ms_AttrS a.S.Attrs s (k + 1 + 1 + 1 + 1 + 1 + 1 + 1) hP.1 (by omega) (by omega) g2 (by omega) (by omega)
  have q1 := ms_ItemS a.Hand (laws_szAttrS a.S.Attrs s) ((laws_markAttrS a.S.Attrs (k + 1 + 1 + 1 + 1 + 1 + 1 + 1)).1 + 1 + 1) hP.2 (by omega) (by omega) g3 (by omega) (by omega)
  simp (disch := omega) only [wrap_small]
  omega
theorem ms_TaskS : MkS (bdS Task.bd) laws_markTaskS laws_szTaskS := mkS_ok (M := fun a k => (Task.mk k (IntKind.i64.wrap (k + 1)) (Span.mk (IntKind.i64.wrap ((IntKind.i64.wrap (k + 1)) + 1)) (IntKind.i64.wrap ((IntKind.i64.wrap ((IntKind.i64.wrap (k + 1)) + 1)) + 1)) (IntKind.i64.wrap ((IntKind.i64.wrap ((IntKind.i64.wrap ((IntKind.i64.wrap (k + 1)) + 1)) + 1)) + 1)) (IntKind.i64.wrap ((IntKind.i64.wrap ((IntKind.i64.wrap ((IntKind.i64.wrap ((IntKind.i64.wrap (k + 1)) + 1)) + 1)) + 1)) + 1)) ((Int.tmod (IntKind.i64.wrap ((IntKind.i64.wrap ((IntKind.i64.wrap ((IntKind.i64.wrap ((IntKind.i64.wrap ((IntKind.i64.wrap (k + 1)) + 1)) + 1)) + 1)) + 1)) + 1)) 3) == 0) (laws_markAttrS a.S.Attrs (IntKind.i64.wrap ((IntKind.i64.wrap ((IntKind.i64.wrap ((IntKind.i64.wrap ((IntKind.i64.wrap ((IntKind.i64.wrap ((IntKind.i64.wrap (k + 1)) + 1)) + 1)) + 1)) + 1)) + 1)) + 1))).2) (laws_markAttrS a.S.Attrs (IntKind.i64.wrap ((IntKind.i64.wrap ((IntKind.i64.wrap ((IntKind.i64.wrap ((IntKind.i64.wrap ((IntKind.i64.wrap ((IntKind.i64.wrap (k + 1)) + 1)) + 1)) + 1)) + 1)) + 1)) + 1))).1 (IntKind.i64.wrap ((laws_markAttrS a.S.Attrs (IntKind.i64.wrap ((IntKind.i64.wrap ((IntKind.i64.wrap ((IntKind.i64.wrap ((IntKind.i64.wrap ((IntKind.i64.wrap ((IntKind.i64.wrap (k + 1)) + 1)) + 1)) + 1)) + 1)) + 1)) + 1))).1 + 1)) (laws_markItemS a.Hand (IntKind.i64.wrap ((IntKind.i64.wrap ((laws_markAttrS a.S.Attrs (IntKind.i64.wrap ((IntKind.i64.wrap ((IntKind.i64.wrap ((IntKind.i64.wrap ((IntKind.i64.wrap ((IntKind.i64.wrap ((IntKind.i64.wrap (k + 1)) + 1)) + 1)) + 1)) + 1)) + 1)) + 1))).1 + 1)) + 1))).2 (laws_markItemS a.Hand (IntKind.i64.wrap ((IntKind.i64.wrap ((laws_markAttrS a.S.Attrs (IntKind.i64.wrap ((IntKind.i64.wrap ((IntKind.i64.wrap ((IntKind.i64.wrap ((IntKind.i64.wrap ((IntKind.i64.wrap ((IntKind.i64.wrap (k + 1)) + 1)) + 1)) + 1)) + 1)) + 1)) + 1))).1 + 1)) + 1))).1)) (N := fun a k => (IntKind.i64.wrap ((laws_markItemS a.Hand (IntKind.i64.wrap ((IntKind.i64.wrap ((laws_markAttrS a.S.Attrs (IntKind.i64.wrap ((IntKind.i64.wrap ((IntKind.i64.wrap ((IntKind.i64.wrap ((IntKind.i64.wrap ((IntKind.i64.wrap ((IntKind.i64.wrap (k + 1)) + 1)) + 1)) + 1)) + 1)) + 1)) + 1))).1 + 1)) + 1))).1 + 1))) me_TaskS (mb := laws_markTaskS_b1) (fun _ _ _ => rfl) (zb := laws_szTaskS_b1) (fun _ _ _ => rfl) (fun _ _ => rfl) (fun _ _ => rfl)
theorem sze_Deed (x : Deed) (s : Int) (h : 0 ≤ laws_szDeed x s) : laws_szDeed x s = (laws_szSpan x.S s) ∧ 0 ≤ (laws_szSpan x.S s) := by
  unfold laws_szDeed at h ⊢
  rcases ilg (laws_szSpan x.S s) 0 with g0 | g0
  · rw [decide_eq_true g0] at h; simp at h
  rw [decide_eq_false (show ¬ (laws_szSpan x.S s) < 0 by omega)] at h ⊢
  simp only [cond_false] at h ⊢
  exact ⟨by first | rfl | trivial, g0⟩
theorem me_DeedS : MkE (Deed.bd 9223372036854775807) (fun a k => (IntKind.i64.wrap ((IntKind.i64.wrap ((IntKind.i64.wrap ((IntKind.i64.wrap ((IntKind.i64.wrap ((IntKind.i64.wrap ((IntKind.i64.wrap ((IntKind.i64.wrap ((IntKind.i64.wrap ((IntKind.i64.wrap ((IntKind.i64.wrap ((IntKind.i64.wrap ((laws_markAttrS a.S.Attrs (IntKind.i64.wrap ((IntKind.i64.wrap ((IntKind.i64.wrap ((IntKind.i64.wrap ((IntKind.i64.wrap ((IntKind.i64.wrap ((IntKind.i64.wrap (k + 1)) + 1)) + 1)) + 1)) + 1)) + 1)) + 1))).1 + 1)) + 1)) + 1)) + 1)) + 1)) + 1)) + 1)) + 1)) + 1)) + 1)) + 1)) + 1))) laws_szDeed := by
  intro a k s hP h0 h1 h2 h3 h4
  have hz := (szd_laws_szDeed a s hP h0 h1 h2).2
  refine ⟨hz, ?_⟩
  obtain ⟨e1, g1⟩ := sze_Deed a s h2
  obtain ⟨e2, g2⟩ := sze_Span a.S s g1
  rw [e1, e2]
  have q0 := ms_AttrS a.S.Attrs s (k + 1 + 1 + 1 + 1 + 1 + 1 + 1) hP (by omega) (by omega) g2 (by omega) (by omega)
  simp (disch := omega) only [wrap_small]
  omega
theorem ms_DeedS : MkS (bdS Deed.bd) laws_markDeedS laws_szDeedS := mkS_ok (M := fun a k => (Deed.mk k (IntKind.i64.wrap (k + 1)) (Span.mk (IntKind.i64.wrap ((IntKind.i64.wrap (k + 1)) + 1)) (IntKind.i64.wrap ((IntKind.i64.wrap ((IntKind.i64.wrap (k + 1)) + 1)) + 1)) (IntKind.i64.wrap ((IntKind.i64.wrap ((IntKind.i64.wrap ((IntKind.i64.wrap (k + 1)) + 1)) + 1)) + 1)) (IntKind.i64.wrap ((IntKind.i64.wrap ((IntKind.i64.wrap ((IntKind.i64.wrap ((IntKind.i64.wrap (k + 1)) + 1)) + 1)) + 1)) + 1)) ((Int.tmod (IntKind.i64.wrap ((IntKind.i64.wrap ((IntKind.i64.wrap ((IntKind.i64.wrap ((IntKind.i64.wrap ((IntKind.i64.wrap (k + 1)) + 1)) + 1)) + 1)) + 1)) + 1)) 3) == 0) (laws_markAttrS a.S.Attrs (IntKind.i64.wrap ((IntKind.i64.wrap ((IntKind.i64.wrap ((IntKind.i64.wrap ((IntKind.i64.wrap ((IntKind.i64.wrap ((IntKind.i64.wrap (k + 1)) + 1)) + 1)) + 1)) + 1)) + 1)) + 1))).2) (laws_markAttrS a.S.Attrs (IntKind.i64.wrap ((IntKind.i64.wrap ((IntKind.i64.wrap ((IntKind.i64.wrap ((IntKind.i64.wrap ((IntKind.i64.wrap ((IntKind.i64.wrap (k + 1)) + 1)) + 1)) + 1)) + 1)) + 1)) + 1))).1 (IntKind.i64.wrap ((laws_markAttrS a.S.Attrs (IntKind.i64.wrap ((IntKind.i64.wrap ((IntKind.i64.wrap ((IntKind.i64.wrap ((IntKind.i64.wrap ((IntKind.i64.wrap ((IntKind.i64.wrap (k + 1)) + 1)) + 1)) + 1)) + 1)) + 1)) + 1))).1 + 1)) (IntKind.i64.wrap ((IntKind.i64.wrap ((laws_markAttrS a.S.Attrs (IntKind.i64.wrap ((IntKind.i64.wrap ((IntKind.i64.wrap ((IntKind.i64.wrap ((IntKind.i64.wrap ((IntKind.i64.wrap ((IntKind.i64.wrap (k + 1)) + 1)) + 1)) + 1)) + 1)) + 1)) + 1))).1 + 1)) + 1)) ((Int.tmod (IntKind.i64.wrap ((IntKind.i64.wrap ((IntKind.i64.wrap ((laws_markAttrS a.S.Attrs (IntKind.i64.wrap ((IntKind.i64.wrap ((IntKind.i64.wrap ((IntKind.i64.wrap ((IntKind.i64.wrap ((IntKind.i64.wrap ((IntKind.i64.wrap (k + 1)) + 1)) + 1)) + 1)) + 1)) + 1)) + 1))).1 + 1)) + 1)) + 1)) 3) == 0) ((Int.tmod (IntKind.i64.wrap ((IntKind.i64.wrap ((IntKind.i64.wrap ((IntKind.i64.wrap ((laws_markAttrS a.S.Attrs (IntKind.i64.wrap ((IntKind.i64.wrap ((IntKind.i64.wrap ((IntKind.i64.wrap ((IntKind.i64.wrap ((IntKind.i64.wrap ((IntKind.i64.wrap (k + 1)) + 1)) + 1)) + 1)) + 1)) + 1)) + 1))).1 + 1)) + 1)) + 1)) + 1)) 3) == 0) (IntKind.i64.wrap ((IntKind.i64.wrap ((IntKind.i64.wrap ((IntKind.i64.wrap ((IntKind.i64.wrap ((laws_markAttrS a.S.Attrs (IntKind.i64.wrap ((IntKind.i64.wrap ((IntKind.i64.wrap ((IntKind.i64.wrap ((IntKind.i64.wrap ((IntKind.i64.wrap ((IntKind.i64.wrap (k + 1)) + 1)) + 1)) + 1)) + 1)) + 1)) + 1))).1 + 1)) + 1)) + 1)) + 1)) + 1)) (IntKind.i64.wrap ((IntKind.i64.wrap ((IntKind.i64.wrap ((IntKind.i64.wrap ((IntKind.i64.wrap ((IntKind.i64.wrap ((laws_markAttrS a.S.Attrs (IntKind.i64.wrap ((IntKind.i64.wrap ((IntKind.i64.wrap ((IntKind.i64.wrap ((IntKind.i64.wrap ((IntKind.i64.wrap ((IntKind.i64.wrap (k + 1)) + 1)) + 1)) + 1)) + 1)) + 1)) + 1))).1 + 1)) + 1)) + 1)) + 1)) + 1)) + 1)) (IntKind.i64.wrap ((IntKind.i64.wrap ((IntKind.i64.wrap ((IntKind.i64.wrap ((IntKind.i64.wrap ((IntKind.i64.wrap ((IntKind.i64.wrap ((laws_markAttrS a.S.Attrs (IntKind.i64.wrap ((IntKind.i64.wrap ((IntKind.i64.wrap ((IntKind.i64.wrap ((IntKind.i64.wrap ((IntKind.i64.wrap ((IntKind.i64.wrap (k + 1)) + 1)) + 1)) + 1)) + 1)) + 1)) + 1))).1 + 1)) + 1)) + 1)) + 1)) + 1)) + 1)) + 1)) (IntKind.i64.wrap ((IntKind.i64.wrap ((IntKind.i64.wrap ((IntKind.i64.wrap ((IntKind.i64.wrap ((IntKind.i64.wrap ((IntKind.i64.wrap ((IntKind.i64.wrap ((laws_markAttrS a.S.Attrs (IntKind.i64.wrap ((IntKind.i64.wrap ((IntKind.i64.wrap ((IntKind.i64.wrap ((IntKind.i64.wrap ((IntKind.i64.wrap ((IntKind.i64.wrap (k + 1)) + 1)) + 1)) + 1)) + 1)) + 1)) + 1))).1 + 1)) + 1)) + 1)) + 1)) + 1)) + 1)) + 1)) + 1)) (IntKind.i64.wrap ((IntKind.i64.wrap ((IntKind.i64.wrap ((IntKind.i64.wrap ((IntKind.i64.wrap ((IntKind.i64.wrap ((IntKind.i64.wrap ((IntKind.i64.wrap ((IntKind.i64.wrap ((laws_markAttrS a.S.Attrs (IntKind.i64.wrap ((IntKind.i64.wrap ((IntKind.i64.wrap ((IntKind.i64.wrap ((IntKind.i64.wrap ((IntKind.i64.wrap ((IntKind.i64.wrap (k + 1)) + 1)) + 1)) + 1)) + 1)) + 1)) + 1))).1 + 1)) + 1)) + 1)) + 1)) + 1)) + 1)) + 1)) + 1)) + 1)) (IntKind.i64.wrap ((IntKind.i64.wrap ((IntKind.i64.wrap ((IntKind.i64.wrap ((IntKind.i64.wrap ((IntKind.i64.wrap ((IntKind.i64.wrap ((IntKind.i64.wrap ((IntKind.i64.wrap ((IntKind.i64.wrap ((laws_markAttrS a.S.Attrs (IntKind.i64.wrap ((IntKind.i64.wrap ((IntKind.i64.wrap ((IntKind.i64.wrap ((IntKind.i64.wrap ((IntKind.i64.wrap ((IntKind.i64.wrap (k + 1)) + 1)) + 1)) + 1)) + 1)) + 1)) + 1))).1 + 1)) + 1)) + 1)) + 1)) + 1)) + 1)) + 1)) + 1)) + 1)) + 1)) (IntKind.i64.wrap ((IntKind.i64.wrap ((IntKind.i64.wrap ((IntKind.i64.wrap ((IntKind.i64.wrap ((IntKind.i64.wrap ((IntKind.i64.wrap ((IntKind.i64.wrap ((IntKind.i64.wrap ((IntKind.i64.wrap ((IntKind.i64.wrap ((laws_markAttrS a.S.Attrs (IntKind.i64.wrap ((IntKind.i64.wrap ((IntKind.i64.wrap ((IntKind.i64.wrap ((IntKind.i64.wrap ((IntKind.i64.wrap ((IntKind.i64.wrap (k + 1)) + 1)) + 1)) + 1)) + 1)) + 1)) + 1))).1 + 1)) + 1)) + 1)) + 1)) + 1)) + 1)) + 1)) + 1)) + 1)) + 1)) + 1)))) (N := fun a k => (IntKind.i64.wrap ((IntKind.i64.wrap ((IntKind.i64.wrap ((IntKind.i64.wrap ((IntKind.i64.wrap ((IntKind.i64.wrap ((IntKind.i64.wrap ((IntKind.i64.wrap ((IntKind.i64.wrap ((IntKind.i64.wrap ((IntKind.i64.wrap ((IntKind.i64.wrap ((laws_markAttrS a.S.Attrs (IntKind.i64.wrap ((IntKind.i64.wrap ((IntKind.i64.wrap ((IntKind.i64.wrap ((IntKind.i64.wrap ((IntKind.i64.wrap ((IntKind.i64.wrap (k + 1)) + 1)) + 1)) + 1)) + 1)) + 1)) + 1))).1 + 1)) + 1)) + 1)) + 1)) + 1)) + 1)) + 1)) + 1)) + 1)) + 1)) + 1)) + 1))) me_DeedS (mb := laws_markDeedS_b1) (fun _ _ _ => rfl) (zb := laws_szDeedS_b1) (fun _ _ _ => rfl) (fun _ _ => rfl) (fun _ _ => rfl)
end Go.Proofs.Try.Ev
