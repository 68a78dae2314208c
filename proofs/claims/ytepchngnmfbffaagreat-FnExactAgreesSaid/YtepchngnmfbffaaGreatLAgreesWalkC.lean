import Derived.Test.YtepchngnmfbffaaGreatLAgreesWalkB
set_option linter.unusedSectionVars false

namespace Go.Proofs.Tryz.Ev
open Go Go.Ev Go.Proofs
set_option maxHeartbeats 4000000
set_option maxRecDepth 100000
set_option linter.unusedSimpArgs false
set_option linter.unusedVariables false
set_option linter.unusedSectionVars false
theorem c_laws_eqVerdictS (p0 : (List Verdict)) (p1 : (List Verdict)) : FnOk prog 46 [.one (.s false 3 (List.map Verdict.cells p0)), .one (.s false 3 (List.map Verdict.cells p1))] ⟨.one (.v (.bool (laws_eqVerdictS p0 p1))), [], [], false⟩ := by
  refine FnOk.intro (E := env) envOk wide func46 rfl (by kernel_rfl) rfl rfl ?_
  have hg := laws_eqVerdictS.eq_1 p0 p1
  have hown : ∀ g : Bool, AV.Own (AV.one (.v (.bool g))) := fun g => .v _
  refine seqE ?_
  refine seqE ?_
  refine seqE ?_
  refine lenM fun hN1 => ?_
  refine lenM fun hN2 => ?_
  refine brW hg (fun hg h3 => ?_) (fun hg h3 => ?_)
  · refine seqE ?_
    exact leafE hown hg
  · refine seqE ?_
    refine seqE ?_
    refine loopLE hg [0, 1] (fun x1 => [(5, .one (.v (.int .i64 ((x1.i : Nat) : Int))))]) (fun x1 => []) [] ?_ (fun x1 => ?_)
    · exact ⟨rfl, ⟨rfl, rfl, rfl, trivial⟩, trivial, trivial⟩
    refine seqE ?_
    refine seqE ?_
    refine lenM fun hN4 => ?_
    refine tstL (fun hi1 => ?_) (fun hi1 => ?_)
    · have hb1 := (x1.bdy hi1).trans (laws_eqVerdictS_b1.eq_1 ..)
      have hw1 := wrap_succ hi1 (by first | assumption | omega)
      refine seqE ?_
      refine seqE ?_
      refine .inl ⟨by kernel_rfl, ?_⟩
      refine idxAt hi1 ?_
      refine idxOf (l := p1) (by (first | omega | (simp (disch := omega) only [wrap_small, mid_eq, List.length_map]; omega) | (simp; done) | (simp; omega) | (simp at *; omega) | (simp at *; done) | (simp_all; done) | (simp_all; omega))) (fun hq5 => ?_)
      refine ⟨_, _, c_laws_eqVerdict (p0[x1.i]'hi1) (p1[x1.i]?.getD default), (FzAs.same _), ?_⟩
      refine brE hb1 (fun hb1 h6 => ?_) (fun hb1 h6 => x1.goE hi1 hb1 [] ⟨rfl, ⟨(eqInt hw1), rfl, rfl, trivial⟩, trivial, trivial⟩)
      refine seqE ?_
      have hg := donE hg (x1.outD hi1 hb1)
      exact leafE hown hg
    have hg := finE hg (x1.fin hi1)
    refine seqE ?_
    exact leafE hown hg
theorem rf_laws_eqVerdictS (x : (List Verdict)) : laws_eqVerdictS x x = true := eqS_ok (b := laws_eqVerdictS_b1) rf_laws_eqVerdict (fun _ _ _ _ => rfl) (fun _ _ => rfl) x
def laws_eqTimer (p0 : Timer) (p1 : Timer) : Bool :=
  (bif (p0.Id != p1.Id) then false else (bif (p0.Trace != p1.Trace) then false else (bif (p0.At != p1.At) then false else true)))
theorem c_laws_eqTimer (p0 : Timer) (p1 : Timer) : FnOk prog 92 [.agg (Timer.cells p0), .agg (Timer.cells p1)] ⟨.one (.v (.bool (laws_eqTimer p0 p1))), [], [], false⟩ := by
  refine FnOk.intro (E := env) envOk wide func92 rfl (by kernel_rfl) rfl rfl ?_
  have hg := laws_eqTimer.eq_1 p0 p1
  have hown : ∀ g : Bool, AV.Own (AV.one (.v (.bool g))) := fun g => .v _
  refine seqE ?_
  refine litE (m := 0) rfl ?_
  refine litE (m := 1) rfl ?_
  refine seqE ?_
  refine seqE ?_
  refine brW hg (fun hg h1 => ?_) (fun hg h1 => ?_)
  · refine seqE ?_
    exact leafE hown hg
  · refine seqE ?_
    refine seqE ?_
    refine brW hg (fun hg h2 => ?_) (fun hg h2 => ?_)
    · refine seqE ?_
      exact leafE hown hg
    · refine seqE ?_
      refine seqE ?_
      refine brW hg (fun hg h3 => ?_) (fun hg h3 => ?_)
      · refine seqE ?_
        exact leafE hown hg
      · refine seqE ?_
        exact leafE hown hg
theorem rf_laws_eqTimer (x : Timer) : laws_eqTimer x x = true := by
  simp [laws_eqTimer]
def laws_eqTimerS_b1 (p1 : (List Timer)) (i1 : Nat) (s1 : Unit) (a1 : Timer) : Step (Unit) Bool :=
  (bif (!(laws_eqTimer a1 (p1[i1]?.getD default))) then (.done false) else (.next ()))
def laws_eqTimerS (p0 : (List Timer)) (p1 : (List Timer)) : Bool :=
  (bif ((((p0).length : Nat) : Int) != (((p1).length : Nat) : Int)) then false else (Fin.get (fun s1 => true) (loopL (laws_eqTimerS_b1 p1) 0 () p0)))
theorem c_laws_eqTimerS (p0 : (List Timer)) (p1 : (List Timer)) : FnOk prog 48 [.one (.s false 3 (List.map Timer.cells p0)), .one (.s false 3 (List.map Timer.cells p1))] ⟨.one (.v (.bool (laws_eqTimerS p0 p1))), [], [], false⟩ := by
  refine FnOk.intro (E := env) envOk wide func48 rfl (by kernel_rfl) rfl rfl ?_
  have hg := laws_eqTimerS.eq_1 p0 p1
  have hown : ∀ g : Bool, AV.Own (AV.one (.v (.bool g))) := fun g => .v _
  refine seqE ?_
  refine seqE ?_
  refine seqE ?_
  refine lenM fun hN1 => ?_
  refine lenM fun hN2 => ?_
  refine brW hg (fun hg h3 => ?_) (fun hg h3 => ?_)
  · refine seqE ?_
    exact leafE hown hg
  · refine seqE ?_
    refine seqE ?_
    refine loopLE hg [0, 1] (fun x1 => [(5, .one (.v (.int .i64 ((x1.i : Nat) : Int))))]) (fun x1 => []) [] ?_ (fun x1 => ?_)
    · exact ⟨rfl, ⟨rfl, rfl, rfl, trivial⟩, trivial, trivial⟩
    refine seqE ?_
    refine seqE ?_
    refine lenM fun hN4 => ?_
    refine tstL (fun hi1 => ?_) (fun hi1 => ?_)
    · have hb1 := (x1.bdy hi1).trans (laws_eqTimerS_b1.eq_1 ..)
      have hw1 := wrap_succ hi1 (by first | assumption | omega)
      refine seqE ?_
      refine seqE ?_
      refine .inl ⟨by kernel_rfl, ?_⟩
      refine idxAt hi1 ?_
      refine idxOf (l := p1) (by (first | omega | (simp (disch := omega) only [wrap_small, mid_eq, List.length_map]; omega) | (simp; done) | (simp; omega) | (simp at *; omega) | (simp at *; done) | (simp_all; done) | (simp_all; omega))) (fun hq5 => ?_)
      refine ⟨_, _, c_laws_eqTimer (p0[x1.i]'hi1) (p1[x1.i]?.getD default), (FzAs.same _), ?_⟩
      refine brE hb1 (fun hb1 h6 => ?_) (fun hb1 h6 => x1.goE hi1 hb1 [] ⟨rfl, ⟨(eqInt hw1), rfl, rfl, trivial⟩, trivial, trivial⟩)
      refine seqE ?_
      have hg := donE hg (x1.outD hi1 hb1)
      exact leafE hown hg
    have hg := finE hg (x1.fin hi1)
    refine seqE ?_
    exact leafE hown hg
theorem rf_laws_eqTimerS (x : (List Timer)) : laws_eqTimerS x x = true := eqS_ok (b := laws_eqTimerS_b1) rf_laws_eqTimer (fun _ _ _ _ => rfl) (fun _ _ => rfl) x
def laws_eqTimerSS_b1 (p1 : (List (List Timer))) (i1 : Nat) (s1 : Unit) (a1 : (List Timer)) : Step (Unit) Bool :=
  (bif (!(laws_eqTimerS a1 (p1[i1]?.getD default))) then (.done false) else (.next ()))
def laws_eqTimerSS (p0 : (List (List Timer))) (p1 : (List (List Timer))) : Bool :=
  (bif ((((p0).length : Nat) : Int) != (((p1).length : Nat) : Int)) then false else (Fin.get (fun s1 => true) (loopL (laws_eqTimerSS_b1 p1) 0 () p0)))
theorem c_laws_eqTimerSS (p0 : (List (List Timer))) (p1 : (List (List Timer))) : FnOk prog 91 [.one (.s false 1 (List.map (cSl false 3 Timer.cells) p0)), .one (.s false 1 (List.map (cSl false 3 Timer.cells) p1))] ⟨.one (.v (.bool (laws_eqTimerSS p0 p1))), [], [], false⟩ := by
  refine FnOk.intro (E := env) envOk wide func91 rfl (by kernel_rfl) rfl rfl ?_
  have hg := laws_eqTimerSS.eq_1 p0 p1
  have hown : ∀ g : Bool, AV.Own (AV.one (.v (.bool g))) := fun g => .v _
  refine seqE ?_
  refine seqE ?_
  refine seqE ?_
  refine lenM fun hN1 => ?_
  refine lenM fun hN2 => ?_
  refine brW hg (fun hg h3 => ?_) (fun hg h3 => ?_)
  · refine seqE ?_
    exact leafE hown hg
  · refine seqE ?_
    refine seqE ?_
    refine loopLE hg [0, 1] (fun x1 => [(5, .one (.v (.int .i64 ((x1.i : Nat) : Int))))]) (fun x1 => []) [] ?_ (fun x1 => ?_)
    · exact ⟨rfl, ⟨rfl, rfl, rfl, trivial⟩, trivial, trivial⟩
    refine seqE ?_
    refine seqE ?_
    refine lenM fun hN4 => ?_
    refine tstL (fun hi1 => ?_) (fun hi1 => ?_)
    · have hb1 := (x1.bdy hi1).trans (laws_eqTimerSS_b1.eq_1 ..)
      have hw1 := wrap_succ hi1 (by first | assumption | omega)
      refine seqE ?_
      refine seqE ?_
      refine .inl ⟨by kernel_rfl, ?_⟩
      refine idxAt hi1 ?_
      refine idxOf (l := p1) (by (first | omega | (simp (disch := omega) only [wrap_small, mid_eq, List.length_map]; omega) | (simp; done) | (simp; omega) | (simp at *; omega) | (simp at *; done) | (simp_all; done) | (simp_all; omega))) (fun hq5 => ?_)
      refine ⟨_, _, c_laws_eqTimerS (p0[x1.i]'hi1) (p1[x1.i]?.getD default), (FzAs.same _), ?_⟩
      refine brE hb1 (fun hb1 h6 => ?_) (fun hb1 h6 => x1.goE hi1 hb1 [] ⟨rfl, ⟨(eqInt hw1), rfl, rfl, trivial⟩, trivial, trivial⟩)
      refine seqE ?_
      have hg := donE hg (x1.outD hi1 hb1)
      exact leafE hown hg
    have hg := finE hg (x1.fin hi1)
    refine seqE ?_
    exact leafE hown hg
theorem rf_laws_eqTimerSS (x : (List (List Timer))) : laws_eqTimerSS x x = true := eqS_ok (b := laws_eqTimerSS_b1) rf_laws_eqTimerS (fun _ _ _ _ => rfl) (fun _ _ => rfl) x
def laws_eqWheel (p0 : Wheel) (p1 : Wheel) : Bool :=
  (bif (p0.Now != p1.Now) then false else (bif (!(laws_eqTimerSS p0.Near p1.Near)) then false else (bif (!(laws_eqTimerSS p0.Far p1.Far)) then false else (bif (!(laws_eqTimerS p0.Rest p1.Rest)) then false else true))))
theorem c_laws_eqWheel (p0 : Wheel) (p1 : Wheel) : FnOk prog 47 [.agg ((Wheel.cells false) p0), .agg ((Wheel.cells false) p1)] ⟨.one (.v (.bool (laws_eqWheel p0 p1))), [], [], false⟩ := by
  refine FnOk.intro (E := env) envOk wide func47 rfl (by kernel_rfl) rfl rfl ?_
  have hg := laws_eqWheel.eq_1 p0 p1
  have hown : ∀ g : Bool, AV.Own (AV.one (.v (.bool g))) := fun g => .v _
  refine seqE ?_
  refine litE (m := 0) rfl ?_
  refine litE (m := 1) rfl ?_
  refine seqE ?_
  refine seqE ?_
  refine brW hg (fun hg h1 => ?_) (fun hg h1 => ?_)
  · refine seqE ?_
    exact leafE hown hg
  · refine seqE ?_
    refine seqE ?_
    refine .inl (⟨_, _, c_laws_eqTimerSS p0.Near p1.Near, (FzAs.same _), ?_⟩)
    refine litE (m := 3) rfl ?_
    refine brE hg (fun hg h2 => ?_) (fun hg h2 => ?_)
    · refine seqE ?_
      exact leafE hown hg
    · refine seqE ?_
      refine seqE ?_
      refine .inl (⟨_, _, c_laws_eqTimerSS p0.Far p1.Far, (FzAs.same _), ?_⟩)
      refine litE (m := 4) rfl ?_
      refine brE hg (fun hg h3 => ?_) (fun hg h3 => ?_)
      · refine seqE ?_
        exact leafE hown hg
      · refine seqE ?_
        refine seqE ?_
        refine .inl (⟨_, _, c_laws_eqTimerS p0.Rest p1.Rest, (FzAs.same _), ?_⟩)
        refine litE (m := 5) rfl ?_
        refine brE hg (fun hg h4 => ?_) (fun hg h4 => ?_)
        · refine seqE ?_
          exact leafE hown hg
        · refine seqE ?_
          exact leafE hown hg
theorem rf_laws_eqWheel (x : Wheel) : laws_eqWheel x x = true := by
  simp [laws_eqWheel, rf_laws_eqTimerS, rf_laws_eqTimerSS]
def laws_eqItem (p0 : Item) (p1 : Item) : Bool :=
  (bif (p0.Stamp != p1.Stamp) then false else (bif (!(laws_eqSpan p0.S p1.S)) then false else true))
theorem c_laws_eqItem (p0 : Item) (p1 : Item) : FnOk prog 93 [.agg ((Item.cells false) p0), .agg ((Item.cells false) p1)] ⟨.one (.v (.bool (laws_eqItem p0 p1))), [], [], false⟩ := by
  refine FnOk.intro (E := env) envOk wide func93 rfl (by kernel_rfl) rfl rfl ?_
  have hg := laws_eqItem.eq_1 p0 p1
  have hown : ∀ g : Bool, AV.Own (AV.one (.v (.bool g))) := fun g => .v _
  refine seqE ?_
  refine litE (m := 0) rfl ?_
  refine litE (m := 1) rfl ?_
  refine seqE ?_
  refine seqE ?_
  refine brW hg (fun hg h1 => ?_) (fun hg h1 => ?_)
  · refine seqE ?_
    exact leafE hown hg
  · refine seqE ?_
    refine seqE ?_
    refine .inl (⟨_, _, c_laws_eqSpan p0.S p1.S, (FzAs.same _), ?_⟩)
    refine litE (m := 3) rfl ?_
    refine brE hg (fun hg h2 => ?_) (fun hg h2 => ?_)
    · refine seqE ?_
      exact leafE hown hg
    · refine seqE ?_
      exact leafE hown hg
theorem rf_laws_eqItem (x : Item) : laws_eqItem x x = true := by
  simp [laws_eqItem, rf_laws_eqSpan]
def laws_eqItemS_b1 (p1 : (List Item)) (i1 : Nat) (s1 : Unit) (a1 : Item) : Step (Unit) Bool :=
  (bif (!(laws_eqItem a1 (p1[i1]?.getD default))) then (.done false) else (.next ()))
def laws_eqItemS (p0 : (List Item)) (p1 : (List Item)) : Bool :=
  (bif ((((p0).length : Nat) : Int) != (((p1).length : Nat) : Int)) then false else (Fin.get (fun s1 => true) (loopL (laws_eqItemS_b1 p1) 0 () p0)))
theorem c_laws_eqItemS (p0 : (List Item)) (p1 : (List Item)) : FnOk prog 49 [.one (.s false 7 (List.map (Item.cells false) p0)), .one (.s false 7 (List.map (Item.cells false) p1))] ⟨.one (.v (.bool (laws_eqItemS p0 p1))), [], [], false⟩ := by
  refine FnOk.intro (E := env) envOk wide func49 rfl (by kernel_rfl) rfl rfl ?_
  have hg := laws_eqItemS.eq_1 p0 p1
  have hown : ∀ g : Bool, AV.Own (AV.one (.v (.bool g))) := fun g => .v _
  refine seqE ?_
  refine seqE ?_
  refine seqE ?_
  refine lenM fun hN1 => ?_
  refine lenM fun hN2 => ?_
  refine brW hg (fun hg h3 => ?_) (fun hg h3 => ?_)
  · refine seqE ?_
    exact leafE hown hg
  · refine seqE ?_
    refine seqE ?_
    refine loopLE hg [0, 1] (fun x1 => [(5, .one (.v (.int .i64 ((x1.i : Nat) : Int))))]) (fun x1 => []) [] ?_ (fun x1 => ?_)
    · exact ⟨rfl, ⟨rfl, rfl, rfl, trivial⟩, trivial, trivial⟩
    refine seqE ?_
    refine seqE ?_
    refine lenM fun hN4 => ?_
    refine tstL (fun hi1 => ?_) (fun hi1 => ?_)
    · have hb1 := (x1.bdy hi1).trans (laws_eqItemS_b1.eq_1 ..)
      have hw1 := wrap_succ hi1 (by first | assumption | omega)
      refine seqE ?_
      refine seqE ?_
      refine .inl ⟨by kernel_rfl, ?_⟩
      refine idxAt hi1 ?_
      refine idxOf (l := p1) (by (first | omega | (simp (disch := omega) only [wrap_small, mid_eq, List.length_map]; omega) | (simp; done) | (simp; omega) | (simp at *; omega) | (simp at *; done) | (simp_all; done) | (simp_all; omega))) (fun hq5 => ?_)
      refine ⟨_, _, c_laws_eqItem (p0[x1.i]'hi1) (p1[x1.i]?.getD default), (FzAs.same _), ?_⟩
      refine brE hb1 (fun hb1 h6 => ?_) (fun hb1 h6 => x1.goE hi1 hb1 [] ⟨rfl, ⟨(eqInt hw1), rfl, rfl, trivial⟩, trivial, trivial⟩)
      refine seqE ?_
      have hg := donE hg (x1.outD hi1 hb1)
      exact leafE hown hg
    have hg := finE hg (x1.fin hi1)
    refine seqE ?_
    exact leafE hown hg
theorem rf_laws_eqItemS (x : (List Item)) : laws_eqItemS x x = true := eqS_ok (b := laws_eqItemS_b1) rf_laws_eqItem (fun _ _ _ _ => rfl) (fun _ _ => rfl) x
def laws_eqTask (p0 : Task) (p1 : Task) : Bool :=
  (bif (p0.Op != p1.Op) then false else (bif (p0.Pc != p1.Pc) then false else (bif (!(laws_eqSpan p0.S p1.S)) then false else (bif (p0.Trace != p1.Trace) then false else (bif (p0.Stamp != p1.Stamp) then false else (bif (!(laws_eqItemS p0.Hand p1.Hand)) then false else (bif (p0.H != p1.H) then false else true)))))))
theorem c_laws_eqTask (p0 : Task) (p1 : Task) : FnOk prog 94 [.agg ((Task.cells false) p0), .agg ((Task.cells false) p1)] ⟨.one (.v (.bool (laws_eqTask p0 p1))), [], [], false⟩ := by
  refine FnOk.intro (E := env) envOk wide func94 rfl (by kernel_rfl) rfl rfl ?_
  have hg := laws_eqTask.eq_1 p0 p1
  have hown : ∀ g : Bool, AV.Own (AV.one (.v (.bool g))) := fun g => .v _
  refine seqE ?_
  refine litE (m := 0) rfl ?_
  refine litE (m := 1) rfl ?_
  refine seqE ?_
  refine seqE ?_
  refine brW hg (fun hg h1 => ?_) (fun hg h1 => ?_)
  · refine seqE ?_
    exact leafE hown hg
  · refine seqE ?_
    refine seqE ?_
    refine brW hg (fun hg h2 => ?_) (fun hg h2 => ?_)
    · refine seqE ?_
      exact leafE hown hg
    · refine seqE ?_
      refine seqE ?_
      refine .inl (⟨_, _, c_laws_eqSpan p0.S p1.S, (FzAs.same _), ?_⟩)
      refine litE (m := 3) rfl ?_
      refine brE hg (fun hg h3 => ?_) (fun hg h3 => ?_)
      · refine seqE ?_
        exact leafE hown hg
      · refine seqE ?_
        refine seqE ?_
        refine brW hg (fun hg h4 => ?_) (fun hg h4 => ?_)
        · refine seqE ?_
          exact leafE hown hg
        · refine seqE ?_
          refine seqE ?_
          refine brW hg (fun hg h5 => ?_) (fun hg h5 => ?_)
          · refine seqE ?_
            exact leafE hown hg
          · refine seqE ?_
            refine seqE ?_
            refine .inl (⟨_, _, c_laws_eqItemS p0.Hand p1.Hand, (FzAs.same _), ?_⟩)
            refine litE (m := 4) rfl ?_
            refine brE hg (fun hg h6 => ?_) (fun hg h6 => ?_)
            · refine seqE ?_
              exact leafE hown hg
            · refine seqE ?_
              refine seqE ?_
              refine brW hg (fun hg h7 => ?_) (fun hg h7 => ?_)
              · refine seqE ?_
                exact leafE hown hg
              · refine seqE ?_
                exact leafE hown hg
theorem rf_laws_eqTask (x : Task) : laws_eqTask x x = true := by
  simp [laws_eqTask, rf_laws_eqSpan, rf_laws_eqItemS]
def laws_eqTaskS_b1 (p1 : (List Task)) (i1 : Nat) (s1 : Unit) (a1 : Task) : Step (Unit) Bool :=
  (bif (!(laws_eqTask a1 (p1[i1]?.getD default))) then (.done false) else (.next ()))
def laws_eqTaskS (p0 : (List Task)) (p1 : (List Task)) : Bool :=
  (bif ((((p0).length : Nat) : Int) != (((p1).length : Nat) : Int)) then false else (Fin.get (fun s1 => true) (loopL (laws_eqTaskS_b1 p1) 0 () p0)))
theorem c_laws_eqTaskS (p0 : (List Task)) (p1 : (List Task)) : FnOk prog 50 [.one (.s false 12 (List.map (Task.cells false) p0)), .one (.s false 12 (List.map (Task.cells false) p1))] ⟨.one (.v (.bool (laws_eqTaskS p0 p1))), [], [], false⟩ := by
  refine FnOk.intro (E := env) envOk wide func50 rfl (by kernel_rfl) rfl rfl ?_
  have hg := laws_eqTaskS.eq_1 p0 p1
  have hown : ∀ g : Bool, AV.Own (AV.one (.v (.bool g))) := fun g => .v _
  refine seqE ?_
  refine seqE ?_
  refine seqE ?_
  refine lenM fun hN1 => ?_
  refine lenM fun hN2 => ?_
  refine brW hg (fun hg h3 => ?_) (fun hg h3 => ?_)
  · refine seqE ?_
    exact leafE hown hg
  · refine seqE ?_
    refine seqE ?_
    refine loopLE hg [0, 1] (fun x1 => [(5, .one (.v (.int .i64 ((x1.i : Nat) : Int))))]) (fun x1 => []) [] ?_ (fun x1 => ?_)
    · exact ⟨rfl, ⟨rfl, rfl, rfl, trivial⟩, trivial, trivial⟩
    refine seqE ?_
    refine seqE ?_
    refine lenM fun hN4 => ?_
    refine tstL (fun hi1 => ?_) (fun hi1 => ?_)
    · have hb1 := (x1.bdy hi1).trans (laws_eqTaskS_b1.eq_1 ..)
      have hw1 := wrap_succ hi1 (by first | assumption | omega)
      refine seqE ?_
      refine seqE ?_
      refine .inl ⟨by kernel_rfl, ?_⟩
      refine idxAt hi1 ?_
      refine idxOf (l := p1) (by (first | omega | (simp (disch := omega) only [wrap_small, mid_eq, List.length_map]; omega) | (simp; done) | (simp; omega) | (simp at *; omega) | (simp at *; done) | (simp_all; done) | (simp_all; omega))) (fun hq5 => ?_)
      refine ⟨_, _, c_laws_eqTask (p0[x1.i]'hi1) (p1[x1.i]?.getD default), (FzAs.same _), ?_⟩
      refine brE hb1 (fun hb1 h6 => ?_) (fun hb1 h6 => x1.goE hi1 hb1 [] ⟨rfl, ⟨(eqInt hw1), rfl, rfl, trivial⟩, trivial, trivial⟩)
      refine seqE ?_
      have hg := donE hg (x1.outD hi1 hb1)
      exact leafE hown hg
    have hg := finE hg (x1.fin hi1)
    refine seqE ?_
    exact leafE hown hg
theorem rf_laws_eqTaskS (x : (List Task)) : laws_eqTaskS x x = true := eqS_ok (b := laws_eqTaskS_b1) rf_laws_eqTask (fun _ _ _ _ => rfl) (fun _ _ => rfl) x
def laws_eqDeed (p0 : Deed) (p1 : Deed) : Bool :=
  (bif (p0.Op != p1.Op) then false else (bif (p0.Task != p1.Task) then false else (bif (!(laws_eqSpan p0.S p1.S)) then false else (bif (p0.Trace != p1.Trace) then false else (bif (p0.Stamp != p1.Stamp) then false else (bif (p0.Code != p1.Code) then false else (bif (!(p0.Keep == p1.Keep)) then false else (bif (!(p0.Void == p1.Void)) then false else (bif (p0.Took != p1.Took) then false else (bif (p0.N != p1.N) then false else (bif (p0.Forgot != p1.Forgot) then false else (bif (p0.Now != p1.Now) then false else (bif (p0.Inv != p1.Inv) then false else (bif (p0.Lin != p1.Lin) then false else (bif (p0.Res != p1.Res) then false else true)))))))))))))))
theorem c_laws_eqDeed (p0 : Deed) (p1 : Deed) : FnOk prog 95 [.agg ((Deed.cells false) p0), .agg ((Deed.cells false) p1)] ⟨.one (.v (.bool (laws_eqDeed p0 p1))), [], [], false⟩ := by
  refine FnOk.intro (E := env) envOk wide func95 rfl (by kernel_rfl) rfl rfl ?_
  have hg := laws_eqDeed.eq_1 p0 p1
  have hown : ∀ g : Bool, AV.Own (AV.one (.v (.bool g))) := fun g => .v _
  refine seqE ?_
  refine litE (m := 0) rfl ?_
  refine litE (m := 1) rfl ?_
  refine seqE ?_
  refine seqE ?_
  refine brW hg (fun hg h1 => ?_) (fun hg h1 => ?_)
  · refine seqE ?_
    exact leafE hown hg
  · refine seqE ?_
    refine seqE ?_
    refine brW hg (fun hg h2 => ?_) (fun hg h2 => ?_)
    · refine seqE ?_
      exact leafE hown hg
    · refine seqE ?_
      refine seqE ?_
      refine .inl (⟨_, _, c_laws_eqSpan p0.S p1.S, (FzAs.same _), ?_⟩)
      refine litE (m := 3) rfl ?_
      refine brE hg (fun hg h3 => ?_) (fun hg h3 => ?_)
      · refine seqE ?_
        exact leafE hown hg
      · refine seqE ?_
        refine seqE ?_
        refine brW hg (fun hg h4 => ?_) (fun hg h4 => ?_)
        · refine seqE ?_
          exact leafE hown hg
        · refine seqE ?_
          refine seqE ?_
          refine brW hg (fun hg h5 => ?_) (fun hg h5 => ?_)
          · refine seqE ?_
            exact leafE hown hg
          · refine seqE ?_
            refine seqE ?_
            refine brW hg (fun hg h6 => ?_) (fun hg h6 => ?_)
            · refine seqE ?_
              exact leafE hown hg
            · refine seqE ?_
              refine seqE ?_
              refine brE hg (fun hg h7 => ?_) (fun hg h7 => ?_)
              · refine seqE ?_
                exact leafE hown hg
              · refine seqE ?_
                refine seqE ?_
                refine brE hg (fun hg h8 => ?_) (fun hg h8 => ?_)
                · refine seqE ?_
                  exact leafE hown hg
                · refine seqE ?_
                  refine seqE ?_
                  refine brW hg (fun hg h9 => ?_) (fun hg h9 => ?_)
                  · refine seqE ?_
                    exact leafE hown hg
                  · refine seqE ?_
                    refine seqE ?_
                    refine brW hg (fun hg h10 => ?_) (fun hg h10 => ?_)
                    · refine seqE ?_
                      exact leafE hown hg
                    · refine seqE ?_
                      refine seqE ?_
                      refine brW hg (fun hg h11 => ?_) (fun hg h11 => ?_)
                      · refine seqE ?_
                        exact leafE hown hg
                      · refine seqE ?_
                        refine seqE ?_
                        refine brW hg (fun hg h12 => ?_) (fun hg h12 => ?_)
                        · refine seqE ?_
                          exact leafE hown hg
                        · refine seqE ?_
                          refine seqE ?_
                          refine brW hg (fun hg h13 => ?_) (fun hg h13 => ?_)
                          · refine seqE ?_
                            exact leafE hown hg
                          · refine seqE ?_
                            refine seqE ?_
                            refine brW hg (fun hg h14 => ?_) (fun hg h14 => ?_)
                            · refine seqE ?_
                              exact leafE hown hg
                            · refine seqE ?_
                              refine seqE ?_
                              refine brW hg (fun hg h15 => ?_) (fun hg h15 => ?_)
                              · refine seqE ?_
                                exact leafE hown hg
                              · refine seqE ?_
                                exact leafE hown hg
theorem rf_laws_eqDeed (x : Deed) : laws_eqDeed x x = true := by
  simp [laws_eqDeed, rf_laws_eqSpan]
def laws_eqDeedS_b1 (p1 : (List Deed)) (i1 : Nat) (s1 : Unit) (a1 : Deed) : Step (Unit) Bool :=
  (bif (!(laws_eqDeed a1 (p1[i1]?.getD default))) then (.done false) else (.next ()))
def laws_eqDeedS (p0 : (List Deed)) (p1 : (List Deed)) : Bool :=
  (bif ((((p0).length : Nat) : Int) != (((p1).length : Nat) : Int)) then false else (Fin.get (fun s1 => true) (loopL (laws_eqDeedS_b1 p1) 0 () p0)))
theorem c_laws_eqDeedS (p0 : (List Deed)) (p1 : (List Deed)) : FnOk prog 51 [.one (.s false 20 (List.map (Deed.cells false) p0)), .one (.s false 20 (List.map (Deed.cells false) p1))] ⟨.one (.v (.bool (laws_eqDeedS p0 p1))), [], [], false⟩ := by
  refine FnOk.intro (E := env) envOk wide func51 rfl (by kernel_rfl) rfl rfl ?_
  have hg := laws_eqDeedS.eq_1 p0 p1
  have hown : ∀ g : Bool, AV.Own (AV.one (.v (.bool g))) := fun g => .v _
  refine seqE ?_
  refine seqE ?_
  refine seqE ?_
  refine lenM fun hN1 => ?_
  refine lenM fun hN2 => ?_
  refine brW hg (fun hg h3 => ?_) (fun hg h3 => ?_)
  · refine seqE ?_
    exact leafE hown hg
  · refine seqE ?_
    refine seqE ?_
    refine loopLE hg [0, 1] (fun x1 => [(5, .one (.v (.int .i64 ((x1.i : Nat) : Int))))]) (fun x1 => []) [] ?_ (fun x1 => ?_)
    · exact ⟨rfl, ⟨rfl, rfl, rfl, trivial⟩, trivial, trivial⟩
    refine seqE ?_
    refine seqE ?_
    refine lenM fun hN4 => ?_
    refine tstL (fun hi1 => ?_) (fun hi1 => ?_)
    · have hb1 := (x1.bdy hi1).trans (laws_eqDeedS_b1.eq_1 ..)
      have hw1 := wrap_succ hi1 (by first | assumption | omega)
      refine seqE ?_
      refine seqE ?_
      refine .inl ⟨by kernel_rfl, ?_⟩
      refine idxAt hi1 ?_
      refine idxOf (l := p1) (by (first | omega | (simp (disch := omega) only [wrap_small, mid_eq, List.length_map]; omega) | (simp; done) | (simp; omega) | (simp at *; omega) | (simp at *; done) | (simp_all; done) | (simp_all; omega))) (fun hq5 => ?_)
      refine ⟨_, _, c_laws_eqDeed (p0[x1.i]'hi1) (p1[x1.i]?.getD default), (FzAs.same _), ?_⟩
      refine brE hb1 (fun hb1 h6 => ?_) (fun hb1 h6 => x1.goE hi1 hb1 [] ⟨rfl, ⟨(eqInt hw1), rfl, rfl, trivial⟩, trivial, trivial⟩)
      refine seqE ?_
      have hg := donE hg (x1.outD hi1 hb1)
      exact leafE hown hg
    have hg := finE hg (x1.fin hi1)
    refine seqE ?_
    exact leafE hown hg
theorem rf_laws_eqDeedS (x : (List Deed)) : laws_eqDeedS x x = true := eqS_ok (b := laws_eqDeedS_b1) rf_laws_eqDeed (fun _ _ _ _ => rfl) (fun _ _ => rfl) x
def laws_eqWorld (p0 : World) (p1 : World) : Bool :=
  (bif (!(laws_eqConf p0.C p1.C)) then false else (bif (p0.Time != p1.Time) then false else (bif (!(p0.Shut == p1.Shut)) then false else (bif (!(laws_eqStripeS p0.St p1.St)) then false else (bif (p0.RuleHeld != p1.RuleHeld) then false else (bif (!(laws_eqBucket p0.B p1.B)) then false else (bif (!(laws_eqVerdictS p0.Cache p1.Cache)) then false else (bif (p0.Used != p1.Used) then false else (bif (!(laws_eqWheel p0.W p1.W)) then false else (bif (!(laws_eqTimerS p0.Due p1.Due)) then false else (bif (!(laws_eqItemS p0.Queue p1.Queue)) then false else (bif (!(laws_eqItemS p0.Out p1.Out)) then false else (bif (!(laws_eqTaskS p0.Tasks p1.Tasks)) then false else (bif (!(laws_eqDeedS p0.Deeds p1.Deeds)) then false else (bif (p0.Next != p1.Next) then false else true)))))))))))))))
theorem c_laws_eqWorld (p0 : World) (p1 : World) : FnOk prog 11 [.agg ((World.cells false) p0), .agg ((World.cells false) p1)] ⟨.one (.v (.bool (laws_eqWorld p0 p1))), [], [], false⟩ := by
  refine FnOk.intro (E := env) envOk wide func11 rfl (by kernel_rfl) rfl rfl ?_
  have hg := laws_eqWorld.eq_1 p0 p1
  have hown : ∀ g : Bool, AV.Own (AV.one (.v (.bool g))) := fun g => .v _
  refine seqE ?_
  refine litE (m := 0) rfl ?_
  refine litE (m := 1) rfl ?_
  refine seqE ?_
  refine seqE ?_
  refine .inl (⟨_, _, c_laws_eqConf p0.C p1.C, (FzAs.same _), ?_⟩)
  refine litE (m := 3) rfl ?_
  refine brE hg (fun hg h1 => ?_) (fun hg h1 => ?_)
  · refine seqE ?_
    exact leafE hown hg
  · refine seqE ?_
    refine seqE ?_
    refine brW hg (fun hg h2 => ?_) (fun hg h2 => ?_)
    · refine seqE ?_
      exact leafE hown hg
    · refine seqE ?_
      refine seqE ?_
      refine brE hg (fun hg h3 => ?_) (fun hg h3 => ?_)
      · refine seqE ?_
        exact leafE hown hg
      · refine seqE ?_
        refine seqE ?_
        refine .inl (⟨_, _, c_laws_eqStripeS p0.St p1.St, (FzAs.same _), ?_⟩)
        refine litE (m := 4) rfl ?_
        refine brE hg (fun hg h4 => ?_) (fun hg h4 => ?_)
        · refine seqE ?_
          exact leafE hown hg
        · refine seqE ?_
          refine seqE ?_
          refine brW hg (fun hg h5 => ?_) (fun hg h5 => ?_)
          · refine seqE ?_
            exact leafE hown hg
          · refine seqE ?_
            refine seqE ?_
            refine .inl (⟨_, _, c_laws_eqBucket p0.B p1.B, (FzAs.same _), ?_⟩)
            refine litE (m := 5) rfl ?_
            refine brE hg (fun hg h6 => ?_) (fun hg h6 => ?_)
            · refine seqE ?_
              exact leafE hown hg
            · refine seqE ?_
              refine seqE ?_
              refine .inl (⟨_, _, c_laws_eqVerdictS p0.Cache p1.Cache, (FzAs.same _), ?_⟩)
              refine litE (m := 6) rfl ?_
              refine brE hg (fun hg h7 => ?_) (fun hg h7 => ?_)
              · refine seqE ?_
                exact leafE hown hg
              · refine seqE ?_
                refine seqE ?_
                refine brW hg (fun hg h8 => ?_) (fun hg h8 => ?_)
                · refine seqE ?_
                  exact leafE hown hg
                · refine seqE ?_
                  refine seqE ?_
                  refine .inl (⟨_, _, c_laws_eqWheel p0.W p1.W, (FzAs.same _), ?_⟩)
                  refine litE (m := 7) rfl ?_
                  refine brE hg (fun hg h9 => ?_) (fun hg h9 => ?_)
                  · refine seqE ?_
                    exact leafE hown hg
                  · refine seqE ?_
                    refine seqE ?_
                    refine .inl (⟨_, _, c_laws_eqTimerS p0.Due p1.Due, (FzAs.same _), ?_⟩)
                    refine litE (m := 8) rfl ?_
                    refine brE hg (fun hg h10 => ?_) (fun hg h10 => ?_)
                    · refine seqE ?_
                      exact leafE hown hg
                    · refine seqE ?_
                      refine seqE ?_
                      refine .inl (⟨_, _, c_laws_eqItemS p0.Queue p1.Queue, (FzAs.same _), ?_⟩)
                      refine litE (m := 9) rfl ?_
                      refine brE hg (fun hg h11 => ?_) (fun hg h11 => ?_)
                      · refine seqE ?_
                        exact leafE hown hg
                      · refine seqE ?_
                        refine seqE ?_
                        refine .inl (⟨_, _, c_laws_eqItemS p0.Out p1.Out, (FzAs.same _), ?_⟩)
                        refine litE (m := 10) rfl ?_
                        refine brE hg (fun hg h12 => ?_) (fun hg h12 => ?_)
                        · refine seqE ?_
                          exact leafE hown hg
                        · refine seqE ?_
                          refine seqE ?_
                          refine .inl (⟨_, _, c_laws_eqTaskS p0.Tasks p1.Tasks, (FzAs.same _), ?_⟩)
                          refine litE (m := 11) rfl ?_
                          refine brE hg (fun hg h13 => ?_) (fun hg h13 => ?_)
                          · refine seqE ?_
                            exact leafE hown hg
                          · refine seqE ?_
                            refine seqE ?_
                            refine .inl (⟨_, _, c_laws_eqDeedS p0.Deeds p1.Deeds, (FzAs.same _), ?_⟩)
                            refine litE (m := 12) rfl ?_
                            refine brE hg (fun hg h14 => ?_) (fun hg h14 => ?_)
                            · refine seqE ?_
                              exact leafE hown hg
                            · refine seqE ?_
                              refine seqE ?_
                              refine brW hg (fun hg h15 => ?_) (fun hg h15 => ?_)
                              · refine seqE ?_
                                exact leafE hown hg
                              · refine seqE ?_
                                exact leafE hown hg
theorem rf_laws_eqWorld (x : World) : laws_eqWorld x x = true := by
  simp [laws_eqWorld, rf_laws_eqConf, rf_laws_eqStripeS, rf_laws_eqBucket, rf_laws_eqVerdictS, rf_laws_eqTimerS, rf_laws_eqWheel, rf_laws_eqItemS, rf_laws_eqTaskS, rf_laws_eqDeedS]
def laws_eqModel (p0 : Model) (p1 : Model) : Bool :=
  (bif (!(laws_eqConf p0.C p1.C)) then false else (bif (!(p0.Shut == p1.Shut)) then false else (bif (!(laws_eqTrailS p0.Open p1.Open)) then false else (bif (!(laws_eqVerdictS p0.Cache p1.Cache)) then false else (bif (!(laws_eqBucket p0.B p1.B)) then false else (bif (p0.Used != p1.Used) then false else true))))))
theorem c_laws_eqModel (p0 : Model) (p1 : Model) : FnOk prog 12 [.agg ((Model.cells false) p0), .agg ((Model.cells false) p1)] ⟨.one (.v (.bool (laws_eqModel p0 p1))), [], [], false⟩ := by
  refine FnOk.intro (E := env) envOk wide func12 rfl (by kernel_rfl) rfl rfl ?_
  have hg := laws_eqModel.eq_1 p0 p1
  have hown : ∀ g : Bool, AV.Own (AV.one (.v (.bool g))) := fun g => .v _
  refine seqE ?_
  refine litE (m := 0) rfl ?_
  refine litE (m := 1) rfl ?_
  refine seqE ?_
  refine seqE ?_
  refine .inl (⟨_, _, c_laws_eqConf p0.C p1.C, (FzAs.same _), ?_⟩)
  refine litE (m := 3) rfl ?_
  refine brE hg (fun hg h1 => ?_) (fun hg h1 => ?_)
  · refine seqE ?_
    exact leafE hown hg
  · refine seqE ?_
    refine seqE ?_
    refine brE hg (fun hg h2 => ?_) (fun hg h2 => ?_)
    · refine seqE ?_
      exact leafE hown hg
    · refine seqE ?_
      refine seqE ?_
      refine .inl (⟨_, _, c_laws_eqTrailS p0.Open p1.Open, (FzAs.same _), ?_⟩)
      refine litE (m := 4) rfl ?_
      refine brE hg (fun hg h3 => ?_) (fun hg h3 => ?_)
      · refine seqE ?_
        exact leafE hown hg
      · refine seqE ?_
        refine seqE ?_
        refine .inl (⟨_, _, c_laws_eqVerdictS p0.Cache p1.Cache, (FzAs.same _), ?_⟩)
        refine litE (m := 5) rfl ?_
        refine brE hg (fun hg h4 => ?_) (fun hg h4 => ?_)
        · refine seqE ?_
          exact leafE hown hg
        · refine seqE ?_
          refine seqE ?_
          refine .inl (⟨_, _, c_laws_eqBucket p0.B p1.B, (FzAs.same _), ?_⟩)
          refine litE (m := 6) rfl ?_
          refine brE hg (fun hg h5 => ?_) (fun hg h5 => ?_)
          · refine seqE ?_
            exact leafE hown hg
          · refine seqE ?_
            refine seqE ?_
            refine brW hg (fun hg h6 => ?_) (fun hg h6 => ?_)
            · refine seqE ?_
              exact leafE hown hg
            · refine seqE ?_
              exact leafE hown hg
theorem rf_laws_eqModel (x : Model) : laws_eqModel x x = true := by
  simp [laws_eqModel, rf_laws_eqConf, rf_laws_eqTrailS, rf_laws_eqBucket, rf_laws_eqVerdictS]
def laws_FnExactAgrees (p0 : World) (p1 : Model) : Bool :=
  (bif (decide ((laws_szWorld p0 1048576) < 0)) then true else (bif (decide ((laws_szModel p1 (laws_szWorld p0 1048576)) < 0)) then true else (bif (!((impl_Agrees (laws_toWorld p0) (laws_toModel p1)) == (spec_Agrees (laws_toWorld p0) (laws_toModel p1)))) then false else (bif (!(laws_eqWorld (laws_toWorld p0) (laws_toWorld p0))) then false else (bif (!(laws_eqModel (laws_toModel p1) (laws_toModel p1))) then false else true)))))
theorem c_laws_FnExactAgrees (p0 : World) (p1 : Model) (hw0 : World.bd 9223372036854775807 p0) (hw1 : Model.bd 9223372036854775807 p1) : FnOk prog 3 [.agg ((World.cells false) p0), .agg ((Model.cells false) p1)] ⟨.one (.v (.bool (laws_FnExactAgrees p0 p1))), [], [], false⟩ := by
  refine FnOk.intro (E := env) envOk wide func3 rfl (by kernel_rfl) rfl rfl ?_
  have hg := laws_FnExactAgrees.eq_1 p0 p1
  have hown : ∀ g : Bool, AV.Own (AV.one (.v (.bool g))) := fun g => .v _
  refine seqE ?_
  refine litE (m := 0) rfl ?_
  refine litE (m := 1) rfl ?_
  refine seqE ?_
  refine seqE ?_
  refine .inl (⟨_, _, c_laws_szWorld p0 1048576, (FzAs.same _), ?_⟩)
  refine litE (m := 3) rfl ?_
  refine seqE ?_
  refine seqE ?_
  refine brD hg (fun hg h1 => ?_) (fun hg h1 => ?_)
  · refine seqE ?_
    exact leafE hown hg
  have hz1 := szd_laws_szWorld p0 1048576 (by assumption) (by decide) (by decide) (Int.not_lt.1 h1)
  have hs1 := hz1.1
  have hl1 : (laws_szWorld p0 1048576) ≤ 1048576 := Int.le_trans hz1.2 (by decide)
  refine seqE ?_
  refine .inl (⟨_, _, c_laws_szModel p1 (laws_szWorld p0 1048576), (FzAs.same _), ?_⟩)
  refine litE (m := 4) rfl ?_
  refine seqE ?_
  refine seqE ?_
  refine brD hg (fun hg h2 => ?_) (fun hg h2 => ?_)
  · refine seqE ?_
    exact leafE hown hg
  have hz2 := szd_laws_szModel p1 (laws_szWorld p0 1048576) (by assumption) (Int.not_lt.1 h1) hl1 (Int.not_lt.1 h2)
  have hs2 := hz2.1
  have hl2 : (laws_szModel p1 (laws_szWorld p0 1048576)) ≤ 1048576 := Int.le_trans hz2.2 hl1
  refine seqE ?_
  refine .inr (.inl ⟨6, [(0, true), (2, true), (1, false), (3, false), (4, false), (5, false)], by kernel_rfl, ?_⟩)
  refine ⟨_, _, c_laws_toWorld p0 (by first | assumption | (simp only [id_laws_toWorld, id_laws_toModel]; assumption)), (FzAs.same _), ?_⟩
  refine litE (m := 5) rfl ?_
  refine ⟨_, _, c_laws_toModel p1 (by first | assumption | (simp only [id_laws_toWorld, id_laws_toModel]; assumption)), (FzAs.same _), ?_⟩
  refine litE (m := 17) rfl ?_
  refine ⟨_, _, c_spec_Agrees (laws_toWorld p0) (laws_toModel p1) (by first | assumption | (simp only [id_laws_toWorld, id_laws_toModel]; assumption)), (.cons (.agg (.cons (.same _) (.cons (.same _) (.cons (.same _) (.cons (.same _) (.cons (.same _) (.cons (.same _) (.cons (.same _) (.cons (.same _) (.cons (.same _) (.cons (.same _) (.cons (.same _) (.cons (.sl _ _ _ _ (frzMap frz_Pol _)) (.cons (.same _) (.cons (.same _) (.cons (.sl _ _ _ _ (frzMap frz_Stripe _)) (.cons (.same _) (.cons (.same _) (.cons (.same _) (.cons (.same _) (.cons (.same _) (.cons (.same _) (.cons (.same _) (.cons (.same _) (.cons (.sl _ _ _ _ (frzMap (frz_cSl frz_Timer) _)) (.cons (.sl _ _ _ _ (frzMap (frz_cSl frz_Timer) _)) (.cons (.same _) (.cons (.same _) (.cons (.sl _ _ _ _ (frzMap frz_Item _)) (.cons (.sl _ _ _ _ (frzMap frz_Item _)) (.cons (.sl _ _ _ _ (frzMap frz_Task _)) (.cons (.sl _ _ _ _ (frzMap frz_Deed _)) (.cons (.same _) .nil))))))))))))))))))))))))))))))))) (.cons (.agg (.cons (.same _) (.cons (.same _) (.cons (.same _) (.cons (.same _) (.cons (.same _) (.cons (.same _) (.cons (.same _) (.cons (.same _) (.cons (.same _) (.cons (.same _) (.cons (.same _) (.cons (.sl _ _ _ _ (frzMap frz_Pol _)) (.cons (.same _) (.cons (.sl _ _ _ _ (frzMap frz_Trail _)) (.cons (.same _) (.cons (.same _) (.cons (.same _) (.cons (.same _) (.cons (.same _) (.cons (.same _) .nil))))))))))))))))))))) (.same _))), ?_⟩
  refine litE (m := 21) rfl ?_
  refine seqE ?_
  refine .inl (⟨_, _, c_laws_toWorld p0 (by first | assumption | (simp only [id_laws_toWorld, id_laws_toModel]; assumption)), (FzAs.same _), ?_⟩)
  refine litE (m := 22) rfl ?_
  refine litE (m := 33) rfl ?_
  refine seqE ?_
  refine .inl (⟨_, _, c_laws_toModel p1 (by first | assumption | (simp only [id_laws_toWorld, id_laws_toModel]; assumption)), (FzAs.same _), ?_⟩)
  refine litE (m := 35) rfl ?_
  refine litE (m := 38) rfl ?_
  refine seqE ?_
  refine .inl (⟨_, _, c_impl_Agrees (laws_toWorld p0) (laws_toModel p1) (by first | assumption | (simp only [id_laws_toWorld, id_laws_toModel]; assumption)), (.cons (.agg (.cons (.same _) (.cons (.same _) (.cons (.same _) (.cons (.same _) (.cons (.same _) (.cons (.same _) (.cons (.same _) (.cons (.same _) (.cons (.same _) (.cons (.same _) (.cons (.same _) (.cons (.sl _ _ _ _ (frzMap frz_Pol _)) (.cons (.same _) (.cons (.same _) (.cons (.sl _ _ _ _ (frzMap frz_Stripe _)) (.cons (.same _) (.cons (.same _) (.cons (.same _) (.cons (.same _) (.cons (.same _) (.cons (.same _) (.cons (.same _) (.cons (.same _) (.cons (.sl _ _ _ _ (frzMap (frz_cSl frz_Timer) _)) (.cons (.sl _ _ _ _ (frzMap (frz_cSl frz_Timer) _)) (.cons (.same _) (.cons (.same _) (.cons (.sl _ _ _ _ (frzMap frz_Item _)) (.cons (.sl _ _ _ _ (frzMap frz_Item _)) (.cons (.sl _ _ _ _ (frzMap frz_Task _)) (.cons (.sl _ _ _ _ (frzMap frz_Deed _)) (.cons (.same _) .nil))))))))))))))))))))))))))))))))) (.cons (.agg (.cons (.same _) (.cons (.same _) (.cons (.same _) (.cons (.same _) (.cons (.same _) (.cons (.same _) (.cons (.same _) (.cons (.same _) (.cons (.same _) (.cons (.same _) (.cons (.same _) (.cons (.sl _ _ _ _ (frzMap frz_Pol _)) (.cons (.same _) (.cons (.sl _ _ _ _ (frzMap frz_Trail _)) (.cons (.same _) (.cons (.same _) (.cons (.same _) (.cons (.same _) (.cons (.same _) (.cons (.same _) .nil))))))))))))))))))))) (.same _))), ?_⟩)
  refine litE (m := 40) rfl ?_
  refine seqE ?_
  refine seqE ?_
  refine brE hg (fun hg h3 => ?_) (fun hg h3 => ?_)
  · refine seqE ?_
    exact leafE hown hg
  · refine seqE ?_
    refine seqE ?_
    refine .inr (.inl ⟨5, [(0, true), (1, true), (2, false), (3, false), (4, false)], by kernel_rfl, ?_⟩)
    refine ⟨_, _, c_laws_toWorld p0 (by first | assumption | (simp only [id_laws_toWorld, id_laws_toModel]; assumption)), (FzAs.same _), ?_⟩
    refine litE (m := 41) rfl ?_
    refine ⟨_, _, c_laws_eqWorld (laws_toWorld p0) (laws_toWorld p0), (.cons (.agg (.cons (.same _) (.cons (.same _) (.cons (.same _) (.cons (.same _) (.cons (.same _) (.cons (.same _) (.cons (.same _) (.cons (.same _) (.cons (.same _) (.cons (.same _) (.cons (.same _) (.cons (.sl _ _ _ _ (frzMap frz_Pol _)) (.cons (.same _) (.cons (.same _) (.cons (.sl _ _ _ _ (frzMap frz_Stripe _)) (.cons (.same _) (.cons (.same _) (.cons (.same _) (.cons (.same _) (.cons (.same _) (.cons (.same _) (.cons (.same _) (.cons (.same _) (.cons (.sl _ _ _ _ (frzMap (frz_cSl frz_Timer) _)) (.cons (.sl _ _ _ _ (frzMap (frz_cSl frz_Timer) _)) (.cons (.same _) (.cons (.same _) (.cons (.sl _ _ _ _ (frzMap frz_Item _)) (.cons (.sl _ _ _ _ (frzMap frz_Item _)) (.cons (.sl _ _ _ _ (frzMap frz_Task _)) (.cons (.sl _ _ _ _ (frzMap frz_Deed _)) (.cons (.same _) .nil))))))))))))))))))))))))))))))))) (.cons (.agg (.cons (.same _) (.cons (.same _) (.cons (.same _) (.cons (.same _) (.cons (.same _) (.cons (.same _) (.cons (.same _) (.cons (.same _) (.cons (.same _) (.cons (.same _) (.cons (.same _) (.cons (.sl _ _ _ _ (frzMap frz_Pol _)) (.cons (.same _) (.cons (.same _) (.cons (.sl _ _ _ _ (frzMap frz_Stripe _)) (.cons (.same _) (.cons (.same _) (.cons (.same _) (.cons (.same _) (.cons (.same _) (.cons (.same _) (.cons (.same _) (.cons (.same _) (.cons (.sl _ _ _ _ (frzMap (frz_cSl frz_Timer) _)) (.cons (.sl _ _ _ _ (frzMap (frz_cSl frz_Timer) _)) (.cons (.same _) (.cons (.same _) (.cons (.sl _ _ _ _ (frzMap frz_Item _)) (.cons (.sl _ _ _ _ (frzMap frz_Item _)) (.cons (.sl _ _ _ _ (frzMap frz_Task _)) (.cons (.sl _ _ _ _ (frzMap frz_Deed _)) (.cons (.same _) .nil))))))))))))))))))))))))))))))))) (.same _))), ?_⟩
    refine litE (m := 53) rfl ?_
    refine brE hg (fun hg h4 => ?_) (fun hg h4 => ?_)
    · refine seqE ?_
      exact leafE hown hg
    · refine seqE ?_
      refine seqE ?_
      refine .inr (.inl ⟨5, [(0, true), (1, true), (2, false), (3, false), (4, false)], by kernel_rfl, ?_⟩)
      refine ⟨_, _, c_laws_toModel p1 (by first | assumption | (simp only [id_laws_toWorld, id_laws_toModel]; assumption)), (FzAs.same _), ?_⟩
      refine litE (m := 54) rfl ?_
      refine ⟨_, _, c_laws_eqModel (laws_toModel p1) (laws_toModel p1), (.cons (.agg (.cons (.same _) (.cons (.same _) (.cons (.same _) (.cons (.same _) (.cons (.same _) (.cons (.same _) (.cons (.same _) (.cons (.same _) (.cons (.same _) (.cons (.same _) (.cons (.same _) (.cons (.sl _ _ _ _ (frzMap frz_Pol _)) (.cons (.same _) (.cons (.sl _ _ _ _ (frzMap frz_Trail _)) (.cons (.same _) (.cons (.same _) (.cons (.same _) (.cons (.same _) (.cons (.same _) (.cons (.same _) .nil))))))))))))))))))))) (.cons (.agg (.cons (.same _) (.cons (.same _) (.cons (.same _) (.cons (.same _) (.cons (.same _) (.cons (.same _) (.cons (.same _) (.cons (.same _) (.cons (.same _) (.cons (.same _) (.cons (.same _) (.cons (.sl _ _ _ _ (frzMap frz_Pol _)) (.cons (.same _) (.cons (.sl _ _ _ _ (frzMap frz_Trail _)) (.cons (.same _) (.cons (.same _) (.cons (.same _) (.cons (.same _) (.cons (.same _) (.cons (.same _) .nil))))))))))))))))))))) (.same _))), ?_⟩
      refine litE (m := 58) rfl ?_
      refine brE hg (fun hg h5 => ?_) (fun hg h5 => ?_)
      · refine seqE ?_
        exact leafE hown hg
      · refine seqE ?_
        exact leafE hown hg
theorem main_SameSpan (a b : Span) : spec_SameSpan a b = impl_SameSpan a b := by
  unfold spec_SameSpan impl_SameSpan slices_Equal_SAttr_Attr
  have e : spec_SameSpan_b1 b = slices_Equal_SAttr_Attr_b1 b.Attrs := rfl
  rw [e]
  simp only [bne]
  cases (a.Trace == b.Trace) <;> cases (a.Id == b.Id) <;> cases (a.Start == b.Start) <;> cases (a.End == b.End) <;> cases (a.Err == b.Err) <;> rfl
theorem main_l3Same (a b : List Span) : spec_l3Same a b = slices_EqualFunc_SSpan_SSpan_Span_Span_c_impl_SameSpan a b := by
  unfold spec_l3Same slices_EqualFunc_SSpan_SSpan_Span_Span_c_impl_SameSpan
  have e : spec_l3Same_b1 b = slices_EqualFunc_SSpan_SSpan_Span_Span_c_impl_SameSpan_b1 b := by
    funext i s x
    unfold spec_l3Same_b1 slices_EqualFunc_SSpan_SSpan_Span_Span_c_impl_SameSpan_b1
    rw [main_SameSpan]
  rw [e]
theorem main_SameTrail (a b : Trail) : spec_SameTrail a b = impl_SameTrail a b := by
  unfold spec_SameTrail impl_SameTrail
  rw [main_l3Same]
theorem main_SamePolR : ∀ (n : Nat) (p q : Pol), spec_SamePolR n p q = impl_SamePolR n p q
  | 0, p, q => rfl
  | n + 1, p, q => by
    have e : spec_SamePolR n = impl_SamePolR n := by funext p q; exact main_SamePolR n p q
    simp only [spec_SamePolR, impl_SamePolR, slices_EqualFunc_SPol_SPol_Pol_Pol_c_impl_SamePol, e]
    have hb : spec_SamePol_b1 (impl_SamePolR n) q = slices_EqualFunc_SPol_SPol_Pol_Pol_c_impl_SamePol_b1 (impl_SamePolR n) q.L := rfl
    rw [hb]
    simp only [bne]
    cases (p.Kind == q.Kind) <;> cases (p.N == q.N) <;> cases decide (p.Key = q.Key) <;> cases decide (p.Text = q.Text) <;> rfl
theorem main_SameConf (a b : Conf) : spec_SameConf a b = impl_SameConf a b := by
  unfold spec_SameConf impl_SameConf spec_SamePol impl_SamePol
  rw [main_SamePolR]
theorem main_SameCache (a b : List Verdict) : spec_SameCache a b = impl_SameCache a b := rfl
theorem spec_l3All_eq (l : List Span) : spec_l3All l = l := by
  unfold spec_l3All
  rw [app_flat (b := spec_l3All_b1) (fun a => [a]) (fun i s a => by unfold spec_l3All_b1 spec_l3Copy; rfl), List.nil_append]
  simp [Fin.get]
theorem spec_l10Copy_eq (t : Trail) : spec_l10Copy t = t := by
  cases t
  simp [spec_l10Copy, spec_l3All_eq]
theorem otr_while (s : List Trail) (t : Trail) (hl : s.length ≤ 4503599627370496) : ∀ (n k : Nat), k ≤ n → k ≤ s.length → loopW (spec_OpenTrails_b4 s t) n (k : Int) = .fin ((insN Trail.Id s t.Id k : Nat) : Int)
  | n, 0, _, _ => by
    have hb : spec_OpenTrails_b4 s t ((0 : Nat) : Int) = .stop ((0 : Nat) : Int) := by unfold spec_OpenTrails_b4; simp
    exact loopW_stop hb n
  | 0, k + 1, h, _ => by omega
  | n + 1, k + 1, h1, h2 => by
    have hd : decide (((k + 1 : Nat) : Int) > 0) = true := decide_eq_true (by omega)
    have w : IntKind.i64.wrap (((k + 1 : Nat) : Int) - 1) = (k : Int) := by rw [wrap_small] <;> omega
    unfold insN
    by_cases hc : (s[k]?.getD default).Id > t.Id
    · have hb : spec_OpenTrails_b4 s t ((k + 1 : Nat) : Int) = .next (k : Int) := by
        unfold spec_OpenTrails_b4
        rw [hd, w, spec_l10Copy_eq]
        have : decide ((s[(k : Int).toNat]?.getD default).Id > t.Id) = true := decide_eq_true hc
        rw [this]; rfl
      unfold loopW
      rw [hb, if_pos hc]
      exact otr_while s t hl n k (by omega) (by omega)
    · have hb : spec_OpenTrails_b4 s t ((k + 1 : Nat) : Int) = .stop ((k + 1 : Nat) : Int) := by
        unfold spec_OpenTrails_b4
        rw [hd, w, spec_l10Copy_eq]
        have : decide ((s[(k : Int).toNat]?.getD default).Id > t.Id) = false := decide_eq_false hc
        rw [this]; rfl
      rw [if_neg hc]
      exact loopW_stop hb _
theorem otr_b2 (i : Nat) (s : List Trail) (t : Trail) (hl : s.length ≤ 4503599627370496) : spec_OpenTrails_b2 i s t = .next (ins Trail.Id s t) := by
  unfold spec_OpenTrails_b2 spec_OpenTrails_j3
  have e : loopW (spec_OpenTrails_b4 s t) (Int.toNat ((s.length : Nat) : Int)) ((s.length : Nat) : Int) = .fin ((insN Trail.Id s t.Id s.length : Nat) : Int) := otr_while s t hl s.length s.length (Nat.le_refl _) (Nat.le_refl _)
  rw [e, spec_l10Copy_eq]
  simp only [Fin.get_fin, Step.get]
  unfold ins
  generalize insN Trail.Id s t.Id s.length = k
  rw [show (k : Int).toNat = k from rfl]
  have : List.take (s.length - k) (List.drop k s) = List.drop k s := List.take_of_length_le (by simp)
  rw [this]
  simp
theorem otr_in : ∀ (l : List Trail) (i : Nat) (s : List Trail), s.length + l.length ≤ 4503599627370496 → loopL spec_OpenTrails_b2 i s l = .fin (insAll Trail.Id s l)
  | [], i, s, _ => rfl
  | t :: l, i, s, h => by
    simp only [List.length_cons] at h
    unfold loopL
    rw [otr_b2 i s t (by omega)]
    exact otr_in l (i + 1) _ (by rw [ins_len]; omega)
theorem insAll_len {α : Type} [Inhabited α] (key : α → Int) : ∀ (l s : List α), (insAll key s l).length = s.length + l.length
  | [], s => rfl
  | a :: l, s => by
    show (insAll key (ins key s a) l).length = _
    rw [insAll_len key l, ins_len, List.length_cons]; omega
theorem otr_out : ∀ (l : List Stripe) (i : Nat) (s : List Trail), s.length + (l.flatMap (fun x => x.L)).length ≤ 4503599627370496 → loopL spec_OpenTrails_b1 i s l = .fin (insAll Trail.Id s (l.flatMap (fun x => x.L)))
  | [], i, s, _ => rfl
  | x :: l, i, s, h => by
    simp only [List.flatMap_cons, List.length_append] at h ⊢
    unfold loopL
    have hb : spec_OpenTrails_b1 i s x = .next (insAll Trail.Id s x.L) := by
      unfold spec_OpenTrails_b1
      rw [otr_in x.L 0 s (by omega)]
      rfl
    rw [hb, insAll_append]
    exact otr_out l (i + 1) _ (by rw [insAll_len]; omega)
theorem main_OpenTrails (p0 : List Stripe) (hs : bdS Stripe.bd 1048576 p0) : impl_OpenTrails p0 = spec_OpenTrails p0 := by
  have hl := allTrails_len p0 hs
  have e : spec_OpenTrails p0 = insAll Trail.Id [] (impl_allTrails p0) := by
    unfold spec_OpenTrails
    rw [allTrails_eq] at hl ⊢
    rw [otr_out p0 0 [] (by simp only [List.length_nil]; omega)]
    rfl
  rw [e]
  show slices_SortStableFunc_STrail_Trail_c_impl_OpenTrails_1_z (impl_allTrails p0) = _
  rw [e_slices_SortStableFunc_STrail_Trail_c_impl_OpenTrails_1_z]
  refine stable_ins Trail.Id (fun x y => ?_) _ (by omega)
  have hn : ∀ z : Int, cmp_isNaN_int z = false := fun z => by unfold cmp_isNaN_int; simp
  show cmp_Compare_int _ _ = _
  unfold cmp_Compare_int cmL
  rw [hn, hn]
  simp only [cond_false]
  by_cases h1 : x.Id < y.Id
  · rw [if_pos h1, decide_eq_true h1]; rfl
  · rw [if_neg h1, decide_eq_false h1]
    by_cases h2 : x.Id > y.Id
    · rw [if_pos h2, decide_eq_true h2]; rfl
    · rw [if_neg h2, decide_eq_false h2]; rfl
theorem main_Agrees (w : World) (m : Model) (hs : World.bd 1048576 w) : impl_Agrees w m = spec_Agrees w m := by
  have hb : slices_EqualFunc_STrail_STrail_Trail_Trail_c_impl_SameTrail_b1 m.Open = spec_Agrees_b1 m := by
    funext i s x
    unfold slices_EqualFunc_STrail_STrail_Trail_Trail_c_impl_SameTrail_b1 spec_Agrees_b1
    rw [main_SameTrail]
  unfold impl_Agrees spec_Agrees slices_EqualFunc_STrail_STrail_Trail_Trail_c_impl_SameTrail
  rw [main_OpenTrails w.St hs.2.1, main_SameConf, main_SameCache, hb]
  simp only [bne]
  cases impl_SameConf w.C m.C <;> cases (w.Shut == m.Shut) <;> cases (w.Used == m.Used) <;> cases impl_SameCache w.Cache m.Cache <;> cases ((w.B.Rate == m.B.Rate) && ((w.B.Burst == m.B.Burst) && ((w.B.Tokens == m.B.Tokens) && ((w.B.At == m.B.At) && true)))) <;> rfl
theorem law_Agrees (p0 : World) (p1 : Model) (hw0 : World.bd 9223372036854775807 p0) (hw1 : Model.bd 9223372036854775807 p1) : laws_FnExactAgrees p0 p1 = true := by
  unfold laws_FnExactAgrees
  by_cases hd : laws_szWorld p0 1048576 < 0
  · rw [decide_eq_true hd]; rfl
  · rw [decide_eq_false hd]
    have hz := szd_laws_szWorld p0 1048576 hw0 (by omega) (by omega) (by omega)
    by_cases hd2 : laws_szModel p1 (laws_szWorld p0 1048576) < 0
    · rw [decide_eq_true hd2]; rfl
    · rw [decide_eq_false hd2]
      simp only [cond_false, id_laws_toWorld, id_laws_toModel, main_Agrees p0 p1 hz.1, rf_laws_eqWorld, rf_laws_eqModel, beq_self_eq_true, Bool.not_true]
theorem rows_sl {α : Type} (f : α → List T) (W : α → Prop) : ∀ rows : List (List T), (∀ r ∈ rows, ∃ x, r = f x ∧ W x) → ∃ l : List α, rows = l.map f ∧ ∀ x ∈ l, W x
  | [], _ => ⟨[], rfl, by simp⟩
  | r :: rows, h => by
    obtain ⟨x, hx, hw⟩ := h r (by simp)
    obtain ⟨l, hl, hw'⟩ := rows_sl f W rows (fun r hr => h r (by simp [hr]))
    exact ⟨x :: l, by simp [hx, hl], fun y hy => by rcases List.mem_cons.1 hy with rfl | hy; exact hw; exact hw' y hy⟩
theorem shape_sl {α : Type} (f : α → List T) {P : Nat → α → Prop} (W : α → Prop) (hW : W = P 9223372036854775807) {n t e k : Nat} (ht : prog.underlying t = some (.slice e)) (hk : prog.cellsOf e = k) {y : List T} (h : Shape prog (n + 1) t y) (hr : ∀ r, Shape prog n e r → ∃ x, r = f x ∧ W x) :
    ∃ l : List α, y = [.s false k (l.map f)] ∧ bdS P 9223372036854775807 l := by
  subst hW
  unfold Shape at h
  rw [ht] at h
  obtain ⟨rows, h1, h2, h3⟩ := h
  rw [hk] at h1
  obtain ⟨l, rfl, hw⟩ := rows_sl f _ rows (fun r hr' => hr r (h3 r hr').2)
  exact ⟨l, h1, by simpa [maxLen] using h2, hw⟩
theorem shape3 (n : Nat) {l : List T} (h : Shape prog n 3 l) : ∃ x : Int, l = [.v (.int .i64 x)] ∧ True := by
  cases n with
  | zero => exact (h : False).elim
  | succ n =>
    simp only [Shape, underlying3] at h
    obtain ⟨x, hx, _⟩ := h
    exact ⟨x, hx, trivial⟩
theorem shape9 (n : Nat) {l : List T} (h : Shape prog n 9 l) : ∃ x : ByteArray, l = [.v (.string x)] ∧ (x).size ≤ 9223372036854775807 := by
  cases n with
  | zero => exact (h : False).elim
  | succ n =>
    simp only [Shape, underlying9] at h
    obtain ⟨x, hx, hw⟩ := h
    exact ⟨x, hx, by simpa [maxLen] using hw⟩
theorem shape24 : ∀ (n : Nat) {l : List T}, Shape prog n 24 l → ∃ x : Pol, l = Pol.cells false x ∧ Pol.bd 9223372036854775807 x := by
  intro n
  induction n using Nat.strongRecOn with
  | _ n ih =>
    intro l h
    cases n with
    | zero => exact (h : False).elim
    | succ n =>
      unfold Shape at h
      rw [underlying24] at h
      simp only [ShapeL] at h
      obtain ⟨l0, _, rfl, h0, l1, _, rfl, h1, l2, _, rfl, h2, l3, _, rfl, h3, l4, _, rfl, h4, rfl⟩ := h
      obtain ⟨x0, rfl, w0⟩ := shape3 n h0
      obtain ⟨x1, rfl, w1⟩ := shape3 n h1
      obtain ⟨x2, rfl, w2⟩ := shape9 n h2
      obtain ⟨x3, rfl, w3⟩ := shape9 n h3
      obtain ⟨x4, rfl, w4⟩ : ∃ x : List Pol, l4 = [.s false 5 (List.map (Pol.cells false) x)] ∧ bdS Pol.bd 9223372036854775807 x := by
        cases n with
        | zero => exact (h4 : False).elim
        | succ n => exact shape_sl (Pol.cells false) (P := Pol.bd) _ rfl underlying22 (by kernel_rfl) h4 (fun r hr => ih n (by omega) hr)
      refine ⟨⟨x0, x1, x2, x3, x4⟩, ?_, ?_⟩
      · rw [Pol.cells_eq]; rfl
      · rw [Pol.bd_eq]; exact ⟨w2, w3, w4⟩
theorem shape22 (n : Nat) {l : List T} (h : Shape prog n 22 l) : ∃ x : (List Pol), l = [.s false 5 (List.map (Pol.cells false) x)] ∧ bdS Pol.bd 9223372036854775807 x := by
  cases n with
  | zero => exact (h : False).elim
  | succ n =>
    exact shape_sl (Pol.cells false) (P := Pol.bd) _ rfl underlying22 (by kernel_rfl) h (fun r hr => shape24 n hr)
theorem shape26 (n : Nat) {l : List T} (h : Shape prog n 26 l) : ∃ x : Conf, l = (Conf.cells false) x ∧ Conf.bd 9223372036854775807 x := by
  cases n with
  | zero => exact (h : False).elim
  | succ n =>
    unfold Shape at h
    rw [underlying26] at h
    simp only [ShapeL] at h
    obtain ⟨_, _, rfl, h0, _, _, rfl, h1, _, _, rfl, h2, _, _, rfl, h3, _, _, rfl, h4, _, _, rfl, h5, _, _, rfl, h6, _, _, rfl, h7, rfl⟩ := h
    obtain ⟨x0, rfl, w0⟩ := shape3 n h0
    obtain ⟨x1, rfl, w1⟩ := shape3 n h1
    obtain ⟨x2, rfl, w2⟩ := shape3 n h2
    obtain ⟨x3, rfl, w3⟩ := shape3 n h3
    obtain ⟨x4, rfl, w4⟩ := shape3 n h4
    obtain ⟨x5, rfl, w5⟩ := shape3 n h5
    obtain ⟨x6, rfl, w6⟩ := shape3 n h6
    obtain ⟨x7, e7, w7⟩ := shape24 n h7
    rw [Pol.cells_eq] at e7
    subst e7
    exact ⟨⟨x0, x1, x2, x3, x4, x5, x6, x7⟩, rfl, w7⟩
theorem shape4 (n : Nat) {l : List T} (h : Shape prog n 4 l) : ∃ x : Bool, l = [.v (.bool x)] ∧ True := by
  cases n with
  | zero => exact (h : False).elim
  | succ n =>
    simp only [Shape, underlying4] at h
    obtain ⟨x, hx⟩ := h
    exact ⟨x, hx, trivial⟩
theorem shape203 (n : Nat) {l : List T} (h : Shape prog n 203 l) : ∃ x : Attr, l = Attr.cells x ∧ Attr.bd 9223372036854775807 x := by
  cases n with
  | zero => exact (h : False).elim
  | succ n =>
    unfold Shape at h
    rw [underlying203] at h
    simp only [ShapeL] at h
    obtain ⟨_, _, rfl, h0, _, _, rfl, h1, _, _, rfl, h2, _, _, rfl, h3, rfl⟩ := h
    obtain ⟨x0, rfl, w0⟩ := shape9 n h0
    obtain ⟨x1, rfl, w1⟩ := shape4 n h1
    obtain ⟨x2, rfl, w2⟩ := shape3 n h2
    obtain ⟨x3, rfl, w3⟩ := shape9 n h3
    exact ⟨⟨x0, x1, x2, x3⟩, rfl, ⟨w0, w3⟩⟩
theorem shape118 (n : Nat) {l : List T} (h : Shape prog n 118 l) : ∃ x : (List Attr), l = [.s false 4 (List.map Attr.cells x)] ∧ bdS Attr.bd 9223372036854775807 x := by
  cases n with
  | zero => exact (h : False).elim
  | succ n =>
    exact shape_sl Attr.cells (P := Attr.bd) _ rfl underlying118 (by kernel_rfl) h (fun r hr => shape203 n hr)
theorem shape120 (n : Nat) {l : List T} (h : Shape prog n 120 l) : ∃ x : Span, l = (Span.cells false) x ∧ Span.bd 9223372036854775807 x := by
  cases n with
  | zero => exact (h : False).elim
  | succ n =>
    unfold Shape at h
    rw [underlying120] at h
    simp only [ShapeL] at h
    obtain ⟨_, _, rfl, h0, _, _, rfl, h1, _, _, rfl, h2, _, _, rfl, h3, _, _, rfl, h4, _, _, rfl, h5, rfl⟩ := h
    obtain ⟨x0, rfl, w0⟩ := shape3 n h0
    obtain ⟨x1, rfl, w1⟩ := shape3 n h1
    obtain ⟨x2, rfl, w2⟩ := shape3 n h2
    obtain ⟨x3, rfl, w3⟩ := shape3 n h3
    obtain ⟨x4, rfl, w4⟩ := shape4 n h4
    obtain ⟨x5, rfl, w5⟩ := shape118 n h5
    exact ⟨⟨x0, x1, x2, x3, x4, x5⟩, rfl, w5⟩
theorem shape130 (n : Nat) {l : List T} (h : Shape prog n 130 l) : ∃ x : (List Span), l = [.s false 6 (List.map (Span.cells false) x)] ∧ bdS Span.bd 9223372036854775807 x := by
  cases n with
  | zero => exact (h : False).elim
  | succ n =>
    exact shape_sl (Span.cells false) (P := Span.bd) _ rfl underlying130 (by kernel_rfl) h (fun r hr => shape120 n hr)
theorem shape132 (n : Nat) {l : List T} (h : Shape prog n 132 l) : ∃ x : Trail, l = (Trail.cells false) x ∧ Trail.bd 9223372036854775807 x := by
  cases n with
  | zero => exact (h : False).elim
  | succ n =>
    unfold Shape at h
    rw [underlying132] at h
    simp only [ShapeL] at h
    obtain ⟨_, _, rfl, h0, _, _, rfl, h1, _, _, rfl, h2, _, _, rfl, h3, rfl⟩ := h
    obtain ⟨x0, rfl, w0⟩ := shape3 n h0
    obtain ⟨x1, rfl, w1⟩ := shape3 n h1
    obtain ⟨x2, rfl, w2⟩ := shape3 n h2
    obtain ⟨x3, rfl, w3⟩ := shape130 n h3
    exact ⟨⟨x0, x1, x2, x3⟩, rfl, w3⟩
theorem shape40 (n : Nat) {l : List T} (h : Shape prog n 40 l) : ∃ x : (List Trail), l = [.s false 4 (List.map (Trail.cells false) x)] ∧ bdS Trail.bd 9223372036854775807 x := by
  cases n with
  | zero => exact (h : False).elim
  | succ n =>
    exact shape_sl (Trail.cells false) (P := Trail.bd) _ rfl underlying40 (by kernel_rfl) h (fun r hr => shape132 n hr)
theorem shape115 (n : Nat) {l : List T} (h : Shape prog n 115 l) : ∃ x : Stripe, l = (Stripe.cells false) x ∧ Stripe.bd 9223372036854775807 x := by
  cases n with
  | zero => exact (h : False).elim
  | succ n =>
    unfold Shape at h
    rw [underlying115] at h
    simp only [ShapeL] at h
    obtain ⟨_, _, rfl, h0, _, _, rfl, h1, rfl⟩ := h
    obtain ⟨x0, rfl, w0⟩ := shape3 n h0
    obtain ⟨x1, rfl, w1⟩ := shape40 n h1
    exact ⟨⟨x0, x1⟩, rfl, w1⟩
theorem shape27 (n : Nat) {l : List T} (h : Shape prog n 27 l) : ∃ x : (List Stripe), l = [.s false 2 (List.map (Stripe.cells false) x)] ∧ bdS Stripe.bd 9223372036854775807 x := by
  cases n with
  | zero => exact (h : False).elim
  | succ n =>
    exact shape_sl (Stripe.cells false) (P := Stripe.bd) _ rfl underlying27 (by kernel_rfl) h (fun r hr => shape115 n hr)
theorem shape29 (n : Nat) {l : List T} (h : Shape prog n 29 l) : ∃ x : Bucket, l = Bucket.cells x ∧ True := by
  cases n with
  | zero => exact (h : False).elim
  | succ n =>
    unfold Shape at h
    rw [underlying29] at h
    simp only [ShapeL] at h
    obtain ⟨_, _, rfl, h0, _, _, rfl, h1, _, _, rfl, h2, _, _, rfl, h3, rfl⟩ := h
    obtain ⟨x0, rfl, w0⟩ := shape3 n h0
    obtain ⟨x1, rfl, w1⟩ := shape3 n h1
    obtain ⟨x2, rfl, w2⟩ := shape3 n h2
    obtain ⟨x3, rfl, w3⟩ := shape3 n h3
    exact ⟨⟨x0, x1, x2, x3⟩, rfl, trivial⟩
theorem shape142 (n : Nat) {l : List T} (h : Shape prog n 142 l) : ∃ x : Verdict, l = Verdict.cells x ∧ True := by
  cases n with
  | zero => exact (h : False).elim
  | succ n =>
    unfold Shape at h
    rw [underlying142] at h
    simp only [ShapeL] at h
    obtain ⟨_, _, rfl, h0, _, _, rfl, h1, _, _, rfl, h2, rfl⟩ := h
    obtain ⟨x0, rfl, w0⟩ := shape3 n h0
    obtain ⟨x1, rfl, w1⟩ := shape3 n h1
    obtain ⟨x2, rfl, w2⟩ := shape4 n h2
    exact ⟨⟨x0, x1, x2⟩, rfl, trivial⟩
theorem shape30 (n : Nat) {l : List T} (h : Shape prog n 30 l) : ∃ x : (List Verdict), l = [.s false 3 (List.map Verdict.cells x)] ∧ bdS Verdict.bd 9223372036854775807 x := by
  cases n with
  | zero => exact (h : False).elim
  | succ n =>
    exact shape_sl Verdict.cells (P := Verdict.bd) _ rfl underlying30 (by kernel_rfl) h (fun r hr => shape142 n hr)
theorem shape147 (n : Nat) {l : List T} (h : Shape prog n 147 l) : ∃ x : Timer, l = Timer.cells x ∧ True := by
  cases n with
  | zero => exact (h : False).elim
  | succ n =>
    unfold Shape at h
    rw [underlying147] at h
    simp only [ShapeL] at h
    obtain ⟨_, _, rfl, h0, _, _, rfl, h1, _, _, rfl, h2, rfl⟩ := h
    obtain ⟨x0, rfl, w0⟩ := shape3 n h0
    obtain ⟨x1, rfl, w1⟩ := shape3 n h1
    obtain ⟨x2, rfl, w2⟩ := shape3 n h2
    exact ⟨⟨x0, x1, x2⟩, rfl, trivial⟩
theorem shape32 (n : Nat) {l : List T} (h : Shape prog n 32 l) : ∃ x : (List Timer), l = [.s false 3 (List.map Timer.cells x)] ∧ bdS Timer.bd 9223372036854775807 x := by
  cases n with
  | zero => exact (h : False).elim
  | succ n =>
    exact shape_sl Timer.cells (P := Timer.bd) _ rfl underlying32 (by kernel_rfl) h (fun r hr => shape147 n hr)
theorem shape31 (n : Nat) {l : List T} (h : Shape prog n 31 l) : ∃ x : (List (List Timer)), l = [.s false 1 (List.map (cSl false 3 Timer.cells) x)] ∧ bdS (bdS Timer.bd) 9223372036854775807 x := by
  cases n with
  | zero => exact (h : False).elim
  | succ n =>
    exact shape_sl (cSl false 3 Timer.cells) (P := (bdS Timer.bd)) _ rfl underlying31 (by kernel_rfl) h (fun r hr => shape32 n hr)
theorem shape34 (n : Nat) {l : List T} (h : Shape prog n 34 l) : ∃ x : Wheel, l = (Wheel.cells false) x ∧ Wheel.bd 9223372036854775807 x := by
  cases n with
  | zero => exact (h : False).elim
  | succ n =>
    unfold Shape at h
    rw [underlying34] at h
    simp only [ShapeL] at h
    obtain ⟨_, _, rfl, h0, _, _, rfl, h1, _, _, rfl, h2, _, _, rfl, h3, rfl⟩ := h
    obtain ⟨x0, rfl, w0⟩ := shape3 n h0
    obtain ⟨x1, rfl, w1⟩ := shape31 n h1
    obtain ⟨x2, rfl, w2⟩ := shape31 n h2
    obtain ⟨x3, rfl, w3⟩ := shape32 n h3
    exact ⟨⟨x0, x1, x2, x3⟩, rfl, ⟨w1, w2, w3⟩⟩
theorem shape122 (n : Nat) {l : List T} (h : Shape prog n 122 l) : ∃ x : Item, l = (Item.cells false) x ∧ Item.bd 9223372036854775807 x := by
  cases n with
  | zero => exact (h : False).elim
  | succ n =>
    unfold Shape at h
    rw [underlying122] at h
    simp only [ShapeL] at h
    obtain ⟨_, _, rfl, h0, _, _, rfl, h1, rfl⟩ := h
    obtain ⟨x0, rfl, w0⟩ := shape3 n h0
    obtain ⟨x1, rfl, w1⟩ := shape120 n h1
    exact ⟨⟨x0, x1⟩, rfl, w1⟩
theorem shape35 (n : Nat) {l : List T} (h : Shape prog n 35 l) : ∃ x : (List Item), l = [.s false 7 (List.map (Item.cells false) x)] ∧ bdS Item.bd 9223372036854775807 x := by
  cases n with
  | zero => exact (h : False).elim
  | succ n =>
    exact shape_sl (Item.cells false) (P := Item.bd) _ rfl underlying35 (by kernel_rfl) h (fun r hr => shape122 n hr)
theorem shape125 (n : Nat) {l : List T} (h : Shape prog n 125 l) : ∃ x : Task, l = (Task.cells false) x ∧ Task.bd 9223372036854775807 x := by
  cases n with
  | zero => exact (h : False).elim
  | succ n =>
    unfold Shape at h
    rw [underlying125] at h
    simp only [ShapeL] at h
    obtain ⟨_, _, rfl, h0, _, _, rfl, h1, _, _, rfl, h2, _, _, rfl, h3, _, _, rfl, h4, _, _, rfl, h5, _, _, rfl, h6, rfl⟩ := h
    obtain ⟨x0, rfl, w0⟩ := shape3 n h0
    obtain ⟨x1, rfl, w1⟩ := shape3 n h1
    obtain ⟨x2, rfl, w2⟩ := shape120 n h2
    obtain ⟨x3, rfl, w3⟩ := shape3 n h3
    obtain ⟨x4, rfl, w4⟩ := shape3 n h4
    obtain ⟨x5, rfl, w5⟩ := shape35 n h5
    obtain ⟨x6, rfl, w6⟩ := shape3 n h6
    exact ⟨⟨x0, x1, x2, x3, x4, x5, x6⟩, rfl, ⟨w2, w5⟩⟩
theorem shape36 (n : Nat) {l : List T} (h : Shape prog n 36 l) : ∃ x : (List Task), l = [.s false 12 (List.map (Task.cells false) x)] ∧ bdS Task.bd 9223372036854775807 x := by
  cases n with
  | zero => exact (h : False).elim
  | succ n =>
    exact shape_sl (Task.cells false) (P := Task.bd) _ rfl underlying36 (by kernel_rfl) h (fun r hr => shape125 n hr)
theorem shape128 (n : Nat) {l : List T} (h : Shape prog n 128 l) : ∃ x : Deed, l = (Deed.cells false) x ∧ Deed.bd 9223372036854775807 x := by
  cases n with
  | zero => exact (h : False).elim
  | succ n =>
    unfold Shape at h
    rw [underlying128] at h
    simp only [ShapeL] at h
    obtain ⟨_, _, rfl, h0, _, _, rfl, h1, _, _, rfl, h2, _, _, rfl, h3, _, _, rfl, h4, _, _, rfl, h5, _, _, rfl, h6, _, _, rfl, h7, _, _, rfl, h8, _, _, rfl, h9, _, _, rfl, h10, _, _, rfl, h11, _, _, rfl, h12, _, _, rfl, h13, _, _, rfl, h14, rfl⟩ := h
    obtain ⟨x0, rfl, w0⟩ := shape3 n h0
    obtain ⟨x1, rfl, w1⟩ := shape3 n h1
    obtain ⟨x2, rfl, w2⟩ := shape120 n h2
    obtain ⟨x3, rfl, w3⟩ := shape3 n h3
    obtain ⟨x4, rfl, w4⟩ := shape3 n h4
    obtain ⟨x5, rfl, w5⟩ := shape3 n h5
    obtain ⟨x6, rfl, w6⟩ := shape4 n h6
    obtain ⟨x7, rfl, w7⟩ := shape4 n h7
    obtain ⟨x8, rfl, w8⟩ := shape3 n h8
    obtain ⟨x9, rfl, w9⟩ := shape3 n h9
    obtain ⟨x10, rfl, w10⟩ := shape3 n h10
    obtain ⟨x11, rfl, w11⟩ := shape3 n h11
    obtain ⟨x12, rfl, w12⟩ := shape3 n h12
    obtain ⟨x13, rfl, w13⟩ := shape3 n h13
    obtain ⟨x14, rfl, w14⟩ := shape3 n h14
    exact ⟨⟨x0, x1, x2, x3, x4, x5, x6, x7, x8, x9, x10, x11, x12, x13, x14⟩, rfl, w2⟩
theorem shape37 (n : Nat) {l : List T} (h : Shape prog n 37 l) : ∃ x : (List Deed), l = [.s false 20 (List.map (Deed.cells false) x)] ∧ bdS Deed.bd 9223372036854775807 x := by
  cases n with
  | zero => exact (h : False).elim
  | succ n =>
    exact shape_sl (Deed.cells false) (P := Deed.bd) _ rfl underlying37 (by kernel_rfl) h (fun r hr => shape128 n hr)
theorem shape39 (n : Nat) {l : List T} (h : Shape prog n 39 l) : ∃ x : World, l = (World.cells false) x ∧ World.bd 9223372036854775807 x := by
  cases n with
  | zero => exact (h : False).elim
  | succ n =>
    unfold Shape at h
    rw [underlying39] at h
    simp only [ShapeL] at h
    obtain ⟨_, _, rfl, h0, _, _, rfl, h1, _, _, rfl, h2, _, _, rfl, h3, _, _, rfl, h4, _, _, rfl, h5, _, _, rfl, h6, _, _, rfl, h7, _, _, rfl, h8, _, _, rfl, h9, _, _, rfl, h10, _, _, rfl, h11, _, _, rfl, h12, _, _, rfl, h13, _, _, rfl, h14, rfl⟩ := h
    obtain ⟨x0, rfl, w0⟩ := shape26 n h0
    obtain ⟨x1, rfl, w1⟩ := shape3 n h1
    obtain ⟨x2, rfl, w2⟩ := shape4 n h2
    obtain ⟨x3, rfl, w3⟩ := shape27 n h3
    obtain ⟨x4, rfl, w4⟩ := shape3 n h4
    obtain ⟨x5, rfl, w5⟩ := shape29 n h5
    obtain ⟨x6, rfl, w6⟩ := shape30 n h6
    obtain ⟨x7, rfl, w7⟩ := shape3 n h7
    obtain ⟨x8, rfl, w8⟩ := shape34 n h8
    obtain ⟨x9, rfl, w9⟩ := shape32 n h9
    obtain ⟨x10, rfl, w10⟩ := shape35 n h10
    obtain ⟨x11, rfl, w11⟩ := shape35 n h11
    obtain ⟨x12, rfl, w12⟩ := shape36 n h12
    obtain ⟨x13, rfl, w13⟩ := shape37 n h13
    obtain ⟨x14, rfl, w14⟩ := shape3 n h14
    exact ⟨⟨x0, x1, x2, x3, x4, x5, x6, x7, x8, x9, x10, x11, x12, x13, x14⟩, rfl, ⟨w0, w3, w6, w8, w9, w10, w11, w12, w13⟩⟩
theorem arg39 {n : Nat} {l : List T} (h : Shape prog n 39 l) : ∃ x : World, l = (World.cells false) x ∧ World.bd 9223372036854775807 x := shape39 n h
theorem shape42 (n : Nat) {l : List T} (h : Shape prog n 42 l) : ∃ x : Model, l = (Model.cells false) x ∧ Model.bd 9223372036854775807 x := by
  cases n with
  | zero => exact (h : False).elim
  | succ n =>
    unfold Shape at h
    rw [underlying42] at h
    simp only [ShapeL] at h
    obtain ⟨_, _, rfl, h0, _, _, rfl, h1, _, _, rfl, h2, _, _, rfl, h3, _, _, rfl, h4, _, _, rfl, h5, rfl⟩ := h
    obtain ⟨x0, rfl, w0⟩ := shape26 n h0
    obtain ⟨x1, rfl, w1⟩ := shape4 n h1
    obtain ⟨x2, rfl, w2⟩ := shape40 n h2
    obtain ⟨x3, rfl, w3⟩ := shape30 n h3
    obtain ⟨x4, rfl, w4⟩ := shape29 n h4
    obtain ⟨x5, rfl, w5⟩ := shape3 n h5
    exact ⟨⟨x0, x1, x2, x3, x4, x5⟩, rfl, ⟨w0, w2, w3⟩⟩
theorem arg42 {n : Nat} {l : List T} (h : Shape prog n 42 l) : ∃ x : Model, l = (Model.cells false) x ∧ Model.bd 9223372036854775807 x := shape42 n h
theorem law_c (p0 : World) (p1 : Model) (h0 : World.bd 9223372036854775807 p0) (h1 : Model.bd 9223372036854775807 p1) : FnOk prog 3 [.agg ((World.cells false) p0), .agg ((Model.cells false) p1)] ⟨.one (.v (.bool true)), [], [], false⟩ :=
  FnOk.fits ⟨_, func3, by kernel_rfl, by kernel_rfl⟩ (fun hf => by
    have h := c_laws_FnExactAgrees p0 p1 h0 h1
    rw [law_Agrees p0 p1 h0 h1] at h
    exact h)

end Go.Proofs.Tryz.Ev
