import Derived.Test.YtepchngnmfbffaaLAcceptedWalkB
set_option linter.unusedSectionVars false

namespace Go.Proofs.Try.Ev
open Go Go.Ev Go.Proofs
set_option maxHeartbeats 4000000
set_option maxRecDepth 100000
set_option linter.unusedSimpArgs false
set_option linter.unusedVariables false
set_option linter.unusedSectionVars false
theorem c_laws_markDeedS (p0 : (List Deed)) (p1 : Int) : FnOk prog 34 [.tup [.one (.s true 20 (List.map (Deed.cells true) p0))], .one (.v (.int .i64 p1))] ⟨.one (.v (.int .i64 (laws_markDeedS p0 p1).1)), [.one (.s true 20 (List.map (Deed.cells true) ((laws_markDeedS p0 p1).2)))], [], false⟩ := by
  refine FnOk.introM (E := env) envOk wide func34 rfl (by kernel_rfl) rfl ?_
  have hg := laws_markDeedS.eq_1 p0 p1
  have hown : (∀ g : (Int × (List Deed)), AV.Own (AV.one (.v (.int .i64 g.1)))) ∧ (fun g : (Int × (List Deed)) => T.s true 20 (List.map (Deed.cells true) (g.2))) = _ := ⟨fun g => .v _, rfl⟩
  refine seqE ?_
  refine seqE ?_
  refine seqE ?_
  refine loopLI (fun _ s => (s.1).length = (p0).length) hg (by simp) [0] (fun x1 => [(1, .one (.v (.int .i64 x1.s.2))), (5, .one (.v (.int .i64 ((x1.i : Nat) : Int))))]) (fun x1 => [.dead, .new ⟨20, false, List.map (Deed.cells true) x1.s.1, 0⟩]) [none, some 1] ?_ (fun x1 => ?_)
  · exact ⟨rfl, ⟨rfl, rfl, ⟨rfl, rfl, rfl, rfl, by (first | rfl | omega | (dsimp only; omega) | (simp; done) | (simp; omega) | (simp [LstSt.init, LstSt.step, LstInv.init, CntSt.init, CntSt.step, CntInv.init, WhlSt.init, WhlSt.step]; done) | (simp [LstSt.init, LstSt.step, LstInv.init, CntSt.init, CntSt.step, CntInv.init, WhlSt.init, WhlSt.step]; omega))⟩, trivial⟩, ⟨⟨rfl, rfl, rfl⟩, trivial⟩, ⟨⟨rfl, rfl, rfl, rfl, by (first | rfl | omega | (dsimp only; omega) | (simp; done) | (simp; omega) | (simp [LstSt.init, LstSt.step, LstInv.init, CntSt.init, CntSt.step, CntInv.init, WhlSt.init, WhlSt.step]; done) | (simp [LstSt.init, LstSt.step, LstInv.init, CntSt.init, CntSt.step, CntInv.init, WhlSt.init, WhlSt.step]; omega))⟩, trivial⟩⟩
  have hI1 : (x1.s.1).length = (p0).length := by simpa using x1.hI
  refine seqE ?_
  refine seqE ?_
  refine lenE (k := (p0).length) (by simp) (fun hN1 => ?_)
  refine tstL (fun hi1 => ?_) (fun hi1 => ?_)
  · have hb1 := (x1.bdy hi1).trans (laws_markDeedS_b1.eq_1 ..)
    have hw1 := wrap_succ hi1 (by first | assumption | omega)
    refine seqE ?_
    refine seqE ?_
    refine andE (by (first | omega | (simp (disch := omega) only [wrap_small, mid_eq, List.length_map]; omega) | (simp; done) | (simp; omega) | (simp at *; omega) | (simp at *; done) | (simp_all; done) | (simp_all; omega))) ?_
    refine rowsE (Y := List.map (Deed.cells true) (List.set x1.s.1 x1.i (Deed.mk x1.s.2 (x1.s.1[x1.i]?.getD default).Task (x1.s.1[x1.i]?.getD default).S (x1.s.1[x1.i]?.getD default).Trace (x1.s.1[x1.i]?.getD default).Stamp (x1.s.1[x1.i]?.getD default).Code (x1.s.1[x1.i]?.getD default).Keep (x1.s.1[x1.i]?.getD default).Void (x1.s.1[x1.i]?.getD default).Took (x1.s.1[x1.i]?.getD default).N (x1.s.1[x1.i]?.getD default).Forgot (x1.s.1[x1.i]?.getD default).Now (x1.s.1[x1.i]?.getD default).Inv (x1.s.1[x1.i]?.getD default).Lin (x1.s.1[x1.i]?.getD default).Res))) (by exact setMapE (by simp) (fun a ha => by first | rfl | (simp only [ha, Option.getD_some]; rfl) | (obtain ⟨_, rfl⟩ := List.getElem?_eq_some_iff.1 ha; rfl) | (simp only [Pol.cells_eq]; rfl) | (simp only [ha, Option.getD_some, Pol.cells_eq]; rfl))) ?_
    refine seqE ?_
    refine seqE ?_
    refine andE (by (first | omega | (simp (disch := omega) only [wrap_small, mid_eq, List.length_map]; omega) | (simp; done) | (simp; omega) | (simp at *; omega) | (simp at *; done) | (simp_all; done) | (simp_all; omega))) ?_
    refine rowsE (Y := List.map (Deed.cells true) (List.set x1.s.1 x1.i (Deed.mk x1.s.2 (IntKind.i64.wrap (x1.s.2 + 1)) (x1.s.1[x1.i]?.getD default).S (x1.s.1[x1.i]?.getD default).Trace (x1.s.1[x1.i]?.getD default).Stamp (x1.s.1[x1.i]?.getD default).Code (x1.s.1[x1.i]?.getD default).Keep (x1.s.1[x1.i]?.getD default).Void (x1.s.1[x1.i]?.getD default).Took (x1.s.1[x1.i]?.getD default).N (x1.s.1[x1.i]?.getD default).Forgot (x1.s.1[x1.i]?.getD default).Now (x1.s.1[x1.i]?.getD default).Inv (x1.s.1[x1.i]?.getD default).Lin (x1.s.1[x1.i]?.getD default).Res))) (by exact setMapS (by simp) (by first | rfl | (simp only [ha, Option.getD_some]; rfl) | (obtain ⟨_, rfl⟩ := List.getElem?_eq_some_iff.1 ha; rfl) | (simp only [Pol.cells_eq]; rfl) | (simp only [ha, Option.getD_some, Pol.cells_eq]; rfl))) ?_
    refine seqE ?_
    refine seqE ?_
    refine andE (by (first | omega | (simp (disch := omega) only [wrap_small, mid_eq, List.length_map]; omega) | (simp; done) | (simp; omega) | (simp at *; omega) | (simp at *; done) | (simp_all; done) | (simp_all; omega))) ?_
    refine rowsE (Y := List.map (Deed.cells true) (List.set x1.s.1 x1.i (Deed.mk x1.s.2 (IntKind.i64.wrap (x1.s.2 + 1)) (Span.mk (IntKind.i64.wrap ((IntKind.i64.wrap (x1.s.2 + 1)) + 1)) (x1.s.1[x1.i]?.getD default).S.Id (x1.s.1[x1.i]?.getD default).S.Start (x1.s.1[x1.i]?.getD default).S.End (x1.s.1[x1.i]?.getD default).S.Err (x1.s.1[x1.i]?.getD default).S.Attrs) (x1.s.1[x1.i]?.getD default).Trace (x1.s.1[x1.i]?.getD default).Stamp (x1.s.1[x1.i]?.getD default).Code (x1.s.1[x1.i]?.getD default).Keep (x1.s.1[x1.i]?.getD default).Void (x1.s.1[x1.i]?.getD default).Took (x1.s.1[x1.i]?.getD default).N (x1.s.1[x1.i]?.getD default).Forgot (x1.s.1[x1.i]?.getD default).Now (x1.s.1[x1.i]?.getD default).Inv (x1.s.1[x1.i]?.getD default).Lin (x1.s.1[x1.i]?.getD default).Res))) (by exact setMapS (by simp) (by first | rfl | (simp only [ha, Option.getD_some]; rfl) | (obtain ⟨_, rfl⟩ := List.getElem?_eq_some_iff.1 ha; rfl) | (simp only [Pol.cells_eq]; rfl) | (simp only [ha, Option.getD_some, Pol.cells_eq]; rfl))) ?_
    refine seqE ?_
    refine seqE ?_
    refine andE (by (first | omega | (simp (disch := omega) only [wrap_small, mid_eq, List.length_map]; omega) | (simp; done) | (simp; omega) | (simp at *; omega) | (simp at *; done) | (simp_all; done) | (simp_all; omega))) ?_
    refine rowsE (Y := List.map (Deed.cells true) (List.set x1.s.1 x1.i (Deed.mk x1.s.2 (IntKind.i64.wrap (x1.s.2 + 1)) (Span.mk (IntKind.i64.wrap ((IntKind.i64.wrap (x1.s.2 + 1)) + 1)) (IntKind.i64.wrap ((IntKind.i64.wrap ((IntKind.i64.wrap (x1.s.2 + 1)) + 1)) + 1)) (x1.s.1[x1.i]?.getD default).S.Start (x1.s.1[x1.i]?.getD default).S.End (x1.s.1[x1.i]?.getD default).S.Err (x1.s.1[x1.i]?.getD default).S.Attrs) (x1.s.1[x1.i]?.getD default).Trace (x1.s.1[x1.i]?.getD default).Stamp (x1.s.1[x1.i]?.getD default).Code (x1.s.1[x1.i]?.getD default).Keep (x1.s.1[x1.i]?.getD default).Void (x1.s.1[x1.i]?.getD default).Took (x1.s.1[x1.i]?.getD default).N (x1.s.1[x1.i]?.getD default).Forgot (x1.s.1[x1.i]?.getD default).Now (x1.s.1[x1.i]?.getD default).Inv (x1.s.1[x1.i]?.getD default).Lin (x1.s.1[x1.i]?.getD default).Res))) (by exact setMapS (by simp) (by first | rfl | (simp only [ha, Option.getD_some]; rfl) | (obtain ⟨_, rfl⟩ := List.getElem?_eq_some_iff.1 ha; rfl) | (simp only [Pol.cells_eq]; rfl) | (simp only [ha, Option.getD_some, Pol.cells_eq]; rfl))) ?_
    refine seqE ?_
    refine seqE ?_
    refine andE (by (first | omega | (simp (disch := omega) only [wrap_small, mid_eq, List.length_map]; omega) | (simp; done) | (simp; omega) | (simp at *; omega) | (simp at *; done) | (simp_all; done) | (simp_all; omega))) ?_
    refine rowsE (Y := List.map (Deed.cells true) (List.set x1.s.1 x1.i (Deed.mk x1.s.2 (IntKind.i64.wrap (x1.s.2 + 1)) (Span.mk (IntKind.i64.wrap ((IntKind.i64.wrap (x1.s.2 + 1)) + 1)) (IntKind.i64.wrap ((IntKind.i64.wrap ((IntKind.i64.wrap (x1.s.2 + 1)) + 1)) + 1)) (IntKind.i64.wrap ((IntKind.i64.wrap ((IntKind.i64.wrap ((IntKind.i64.wrap (x1.s.2 + 1)) + 1)) + 1)) + 1)) (x1.s.1[x1.i]?.getD default).S.End (x1.s.1[x1.i]?.getD default).S.Err (x1.s.1[x1.i]?.getD default).S.Attrs) (x1.s.1[x1.i]?.getD default).Trace (x1.s.1[x1.i]?.getD default).Stamp (x1.s.1[x1.i]?.getD default).Code (x1.s.1[x1.i]?.getD default).Keep (x1.s.1[x1.i]?.getD default).Void (x1.s.1[x1.i]?.getD default).Took (x1.s.1[x1.i]?.getD default).N (x1.s.1[x1.i]?.getD default).Forgot (x1.s.1[x1.i]?.getD default).Now (x1.s.1[x1.i]?.getD default).Inv (x1.s.1[x1.i]?.getD default).Lin (x1.s.1[x1.i]?.getD default).Res))) (by exact setMapS (by simp) (by first | rfl | (simp only [ha, Option.getD_some]; rfl) | (obtain ⟨_, rfl⟩ := List.getElem?_eq_some_iff.1 ha; rfl) | (simp only [Pol.cells_eq]; rfl) | (simp only [ha, Option.getD_some, Pol.cells_eq]; rfl))) ?_
    refine seqE ?_
    refine seqE ?_
    refine andE (by (first | omega | (simp (disch := omega) only [wrap_small, mid_eq, List.length_map]; omega) | (simp; done) | (simp; omega) | (simp at *; omega) | (simp at *; done) | (simp_all; done) | (simp_all; omega))) ?_
    refine rowsE (Y := List.map (Deed.cells true) (List.set x1.s.1 x1.i (Deed.mk x1.s.2 (IntKind.i64.wrap (x1.s.2 + 1)) (Span.mk (IntKind.i64.wrap ((IntKind.i64.wrap (x1.s.2 + 1)) + 1)) (IntKind.i64.wrap ((IntKind.i64.wrap ((IntKind.i64.wrap (x1.s.2 + 1)) + 1)) + 1)) (IntKind.i64.wrap ((IntKind.i64.wrap ((IntKind.i64.wrap ((IntKind.i64.wrap (x1.s.2 + 1)) + 1)) + 1)) + 1)) (IntKind.i64.wrap ((IntKind.i64.wrap ((IntKind.i64.wrap ((IntKind.i64.wrap ((IntKind.i64.wrap (x1.s.2 + 1)) + 1)) + 1)) + 1)) + 1)) (x1.s.1[x1.i]?.getD default).S.Err (x1.s.1[x1.i]?.getD default).S.Attrs) (x1.s.1[x1.i]?.getD default).Trace (x1.s.1[x1.i]?.getD default).Stamp (x1.s.1[x1.i]?.getD default).Code (x1.s.1[x1.i]?.getD default).Keep (x1.s.1[x1.i]?.getD default).Void (x1.s.1[x1.i]?.getD default).Took (x1.s.1[x1.i]?.getD default).N (x1.s.1[x1.i]?.getD default).Forgot (x1.s.1[x1.i]?.getD default).Now (x1.s.1[x1.i]?.getD default).Inv (x1.s.1[x1.i]?.getD default).Lin (x1.s.1[x1.i]?.getD default).Res))) (by exact setMapS (by simp) (by first | rfl | (simp only [ha, Option.getD_some]; rfl) | (obtain ⟨_, rfl⟩ := List.getElem?_eq_some_iff.1 ha; rfl) | (simp only [Pol.cells_eq]; rfl) | (simp only [ha, Option.getD_some, Pol.cells_eq]; rfl))) ?_
    refine seqE ?_
    refine seqE ?_
    refine andE (by (first | omega | (simp (disch := omega) only [wrap_small, mid_eq, List.length_map]; omega) | (simp; done) | (simp; omega) | (simp at *; omega) | (simp at *; done) | (simp_all; done) | (simp_all; omega))) ?_
    refine andE (by (first | omega | (simp (disch := omega) only [wrap_small, mid_eq, List.length_map]; omega) | (simp; done) | (simp; omega) | (simp at *; omega) | (simp at *; done) | (simp_all; done) | (simp_all; omega))) ?_
    refine rowsE (Y := List.map (Deed.cells true) (List.set x1.s.1 x1.i (Deed.mk x1.s.2 (IntKind.i64.wrap (x1.s.2 + 1)) (Span.mk (IntKind.i64.wrap ((IntKind.i64.wrap (x1.s.2 + 1)) + 1)) (IntKind.i64.wrap ((IntKind.i64.wrap ((IntKind.i64.wrap (x1.s.2 + 1)) + 1)) + 1)) (IntKind.i64.wrap ((IntKind.i64.wrap ((IntKind.i64.wrap ((IntKind.i64.wrap (x1.s.2 + 1)) + 1)) + 1)) + 1)) (IntKind.i64.wrap ((IntKind.i64.wrap ((IntKind.i64.wrap ((IntKind.i64.wrap ((IntKind.i64.wrap (x1.s.2 + 1)) + 1)) + 1)) + 1)) + 1)) ((Int.tmod (IntKind.i64.wrap ((IntKind.i64.wrap ((IntKind.i64.wrap ((IntKind.i64.wrap ((IntKind.i64.wrap ((IntKind.i64.wrap (x1.s.2 + 1)) + 1)) + 1)) + 1)) + 1)) + 1)) 3) == 0) (x1.s.1[x1.i]?.getD default).S.Attrs) (x1.s.1[x1.i]?.getD default).Trace (x1.s.1[x1.i]?.getD default).Stamp (x1.s.1[x1.i]?.getD default).Code (x1.s.1[x1.i]?.getD default).Keep (x1.s.1[x1.i]?.getD default).Void (x1.s.1[x1.i]?.getD default).Took (x1.s.1[x1.i]?.getD default).N (x1.s.1[x1.i]?.getD default).Forgot (x1.s.1[x1.i]?.getD default).Now (x1.s.1[x1.i]?.getD default).Inv (x1.s.1[x1.i]?.getD default).Lin (x1.s.1[x1.i]?.getD default).Res))) (by exact setMapS (by simp) (by first | rfl | (simp only [ha, Option.getD_some]; rfl) | (obtain ⟨_, rfl⟩ := List.getElem?_eq_some_iff.1 ha; rfl) | (simp only [Pol.cells_eq]; rfl) | (simp only [ha, Option.getD_some, Pol.cells_eq]; rfl))) ?_
    refine seqE ?_
    refine seqE ?_
    refine andE (by (first | omega | (simp (disch := omega) only [wrap_small, mid_eq, List.length_map]; omega) | (simp; done) | (simp; omega) | (simp at *; omega) | (simp at *; done) | (simp_all; done) | (simp_all; omega))) ?_
    refine rowSetE (i := x1.i) (l := x1.s.1) (x := (Deed.mk x1.s.2 (IntKind.i64.wrap (x1.s.2 + 1)) (Span.mk (IntKind.i64.wrap ((IntKind.i64.wrap (x1.s.2 + 1)) + 1)) (IntKind.i64.wrap ((IntKind.i64.wrap ((IntKind.i64.wrap (x1.s.2 + 1)) + 1)) + 1)) (IntKind.i64.wrap ((IntKind.i64.wrap ((IntKind.i64.wrap ((IntKind.i64.wrap (x1.s.2 + 1)) + 1)) + 1)) + 1)) (IntKind.i64.wrap ((IntKind.i64.wrap ((IntKind.i64.wrap ((IntKind.i64.wrap ((IntKind.i64.wrap (x1.s.2 + 1)) + 1)) + 1)) + 1)) + 1)) ((Int.tmod (IntKind.i64.wrap ((IntKind.i64.wrap ((IntKind.i64.wrap ((IntKind.i64.wrap ((IntKind.i64.wrap ((IntKind.i64.wrap (x1.s.2 + 1)) + 1)) + 1)) + 1)) + 1)) + 1)) 3) == 0) (x1.s.1[x1.i]?.getD default).S.Attrs) (x1.s.1[x1.i]?.getD default).Trace (x1.s.1[x1.i]?.getD default).Stamp (x1.s.1[x1.i]?.getD default).Code (x1.s.1[x1.i]?.getD default).Keep (x1.s.1[x1.i]?.getD default).Void (x1.s.1[x1.i]?.getD default).Took (x1.s.1[x1.i]?.getD default).N (x1.s.1[x1.i]?.getD default).Forgot (x1.s.1[x1.i]?.getD default).Now (x1.s.1[x1.i]?.getD default).Inv (x1.s.1[x1.i]?.getD default).Lin (x1.s.1[x1.i]?.getD default).Res)) (by first | rfl | exact Nat.zero_add _ | simp) (fun _ => ?_)
    refine .inr ⟨0, ?_⟩
    refine rowSetE (i := x1.i) (l := x1.s.1) (x := (Deed.mk x1.s.2 (IntKind.i64.wrap (x1.s.2 + 1)) (Span.mk (IntKind.i64.wrap ((IntKind.i64.wrap (x1.s.2 + 1)) + 1)) (IntKind.i64.wrap ((IntKind.i64.wrap ((IntKind.i64.wrap (x1.s.2 + 1)) + 1)) + 1)) (IntKind.i64.wrap ((IntKind.i64.wrap ((IntKind.i64.wrap ((IntKind.i64.wrap (x1.s.2 + 1)) + 1)) + 1)) + 1)) (IntKind.i64.wrap ((IntKind.i64.wrap ((IntKind.i64.wrap ((IntKind.i64.wrap ((IntKind.i64.wrap (x1.s.2 + 1)) + 1)) + 1)) + 1)) + 1)) ((Int.tmod (IntKind.i64.wrap ((IntKind.i64.wrap ((IntKind.i64.wrap ((IntKind.i64.wrap ((IntKind.i64.wrap ((IntKind.i64.wrap (x1.s.2 + 1)) + 1)) + 1)) + 1)) + 1)) + 1)) 3) == 0) (x1.s.1[x1.i]?.getD default).S.Attrs) (x1.s.1[x1.i]?.getD default).Trace (x1.s.1[x1.i]?.getD default).Stamp (x1.s.1[x1.i]?.getD default).Code (x1.s.1[x1.i]?.getD default).Keep (x1.s.1[x1.i]?.getD default).Void (x1.s.1[x1.i]?.getD default).Took (x1.s.1[x1.i]?.getD default).N (x1.s.1[x1.i]?.getD default).Forgot (x1.s.1[x1.i]?.getD default).Now (x1.s.1[x1.i]?.getD default).Inv (x1.s.1[x1.i]?.getD default).Lin (x1.s.1[x1.i]?.getD default).Res)) (by first | rfl | exact Nat.zero_add _ | simp) (fun _ => ?_)
    refine ⟨_, _, _, c_laws_markAttrS (x1.s.1[x1.i]?.getD default).S.Attrs (IntKind.i64.wrap ((IntKind.i64.wrap ((IntKind.i64.wrap ((IntKind.i64.wrap ((IntKind.i64.wrap ((IntKind.i64.wrap ((IntKind.i64.wrap (x1.s.2 + 1)) + 1)) + 1)) + 1)) + 1)) + 1)) + 1)), (FzAs.same _), .inl ?_⟩
    refine rowsE (Y := List.map (Deed.cells true) (List.set x1.s.1 x1.i (Deed.mk x1.s.2 (IntKind.i64.wrap (x1.s.2 + 1)) (Span.mk (IntKind.i64.wrap ((IntKind.i64.wrap (x1.s.2 + 1)) + 1)) (IntKind.i64.wrap ((IntKind.i64.wrap ((IntKind.i64.wrap (x1.s.2 + 1)) + 1)) + 1)) (IntKind.i64.wrap ((IntKind.i64.wrap ((IntKind.i64.wrap ((IntKind.i64.wrap (x1.s.2 + 1)) + 1)) + 1)) + 1)) (IntKind.i64.wrap ((IntKind.i64.wrap ((IntKind.i64.wrap ((IntKind.i64.wrap ((IntKind.i64.wrap (x1.s.2 + 1)) + 1)) + 1)) + 1)) + 1)) ((Int.tmod (IntKind.i64.wrap ((IntKind.i64.wrap ((IntKind.i64.wrap ((IntKind.i64.wrap ((IntKind.i64.wrap ((IntKind.i64.wrap (x1.s.2 + 1)) + 1)) + 1)) + 1)) + 1)) + 1)) 3) == 0) (laws_markAttrS (x1.s.1[x1.i]?.getD default).S.Attrs (IntKind.i64.wrap ((IntKind.i64.wrap ((IntKind.i64.wrap ((IntKind.i64.wrap ((IntKind.i64.wrap ((IntKind.i64.wrap ((IntKind.i64.wrap (x1.s.2 + 1)) + 1)) + 1)) + 1)) + 1)) + 1)) + 1))).2) (x1.s.1[x1.i]?.getD default).Trace (x1.s.1[x1.i]?.getD default).Stamp (x1.s.1[x1.i]?.getD default).Code (x1.s.1[x1.i]?.getD default).Keep (x1.s.1[x1.i]?.getD default).Void (x1.s.1[x1.i]?.getD default).Took (x1.s.1[x1.i]?.getD default).N (x1.s.1[x1.i]?.getD default).Forgot (x1.s.1[x1.i]?.getD default).Now (x1.s.1[x1.i]?.getD default).Inv (x1.s.1[x1.i]?.getD default).Lin (x1.s.1[x1.i]?.getD default).Res))) (by exact setMapS (by simp) (by first | rfl | (simp only [ha, Option.getD_some]; rfl) | (obtain ⟨_, rfl⟩ := List.getElem?_eq_some_iff.1 ha; rfl) | (simp only [Pol.cells_eq]; rfl) | (simp only [ha, Option.getD_some, Pol.cells_eq]; rfl))) ?_
    refine litE (m := 3) rfl ?_
    refine seqE ?_
    refine andE (by (first | omega | (simp (disch := omega) only [wrap_small, mid_eq, List.length_map]; omega) | (simp; done) | (simp; omega) | (simp at *; omega) | (simp at *; done) | (simp_all; done) | (simp_all; omega))) ?_
    refine rowsE (Y := List.map (Deed.cells true) (List.set x1.s.1 x1.i (Deed.mk x1.s.2 (IntKind.i64.wrap (x1.s.2 + 1)) (Span.mk (IntKind.i64.wrap ((IntKind.i64.wrap (x1.s.2 + 1)) + 1)) (IntKind.i64.wrap ((IntKind.i64.wrap ((IntKind.i64.wrap (x1.s.2 + 1)) + 1)) + 1)) (IntKind.i64.wrap ((IntKind.i64.wrap ((IntKind.i64.wrap ((IntKind.i64.wrap (x1.s.2 + 1)) + 1)) + 1)) + 1)) (IntKind.i64.wrap ((IntKind.i64.wrap ((IntKind.i64.wrap ((IntKind.i64.wrap ((IntKind.i64.wrap (x1.s.2 + 1)) + 1)) + 1)) + 1)) + 1)) ((Int.tmod (IntKind.i64.wrap ((IntKind.i64.wrap ((IntKind.i64.wrap ((IntKind.i64.wrap ((IntKind.i64.wrap ((IntKind.i64.wrap (x1.s.2 + 1)) + 1)) + 1)) + 1)) + 1)) + 1)) 3) == 0) (laws_markAttrS (x1.s.1[x1.i]?.getD default).S.Attrs (IntKind.i64.wrap ((IntKind.i64.wrap ((IntKind.i64.wrap ((IntKind.i64.wrap ((IntKind.i64.wrap ((IntKind.i64.wrap ((IntKind.i64.wrap (x1.s.2 + 1)) + 1)) + 1)) + 1)) + 1)) + 1)) + 1))).2) (laws_markAttrS (x1.s.1[x1.i]?.getD default).S.Attrs (IntKind.i64.wrap ((IntKind.i64.wrap ((IntKind.i64.wrap ((IntKind.i64.wrap ((IntKind.i64.wrap ((IntKind.i64.wrap ((IntKind.i64.wrap (x1.s.2 + 1)) + 1)) + 1)) + 1)) + 1)) + 1)) + 1))).1 (x1.s.1[x1.i]?.getD default).Stamp (x1.s.1[x1.i]?.getD default).Code (x1.s.1[x1.i]?.getD default).Keep (x1.s.1[x1.i]?.getD default).Void (x1.s.1[x1.i]?.getD default).Took (x1.s.1[x1.i]?.getD default).N (x1.s.1[x1.i]?.getD default).Forgot (x1.s.1[x1.i]?.getD default).Now (x1.s.1[x1.i]?.getD default).Inv (x1.s.1[x1.i]?.getD default).Lin (x1.s.1[x1.i]?.getD default).Res))) (by exact setMapS (by simp) (by first | rfl | (simp only [ha, Option.getD_some]; rfl) | (obtain ⟨_, rfl⟩ := List.getElem?_eq_some_iff.1 ha; rfl) | (simp only [Pol.cells_eq]; rfl) | (simp only [ha, Option.getD_some, Pol.cells_eq]; rfl))) ?_
    refine seqE ?_
    refine seqE ?_
    refine andE (by (first | omega | (simp (disch := omega) only [wrap_small, mid_eq, List.length_map]; omega) | (simp; done) | (simp; omega) | (simp at *; omega) | (simp at *; done) | (simp_all; done) | (simp_all; omega))) ?_
    refine rowsE (Y := List.map (Deed.cells true) (List.set x1.s.1 x1.i (Deed.mk x1.s.2 (IntKind.i64.wrap (x1.s.2 + 1)) (Span.mk (IntKind.i64.wrap ((IntKind.i64.wrap (x1.s.2 + 1)) + 1)) (IntKind.i64.wrap ((IntKind.i64.wrap ((IntKind.i64.wrap (x1.s.2 + 1)) + 1)) + 1)) (IntKind.i64.wrap ((IntKind.i64.wrap ((IntKind.i64.wrap ((IntKind.i64.wrap (x1.s.2 + 1)) + 1)) + 1)) + 1)) (IntKind.i64.wrap ((IntKind.i64.wrap ((IntKind.i64.wrap ((IntKind.i64.wrap ((IntKind.i64.wrap (x1.s.2 + 1)) + 1)) + 1)) + 1)) + 1)) ((Int.tmod (IntKind.i64.wrap ((IntKind.i64.wrap ((IntKind.i64.wrap ((IntKind.i64.wrap ((IntKind.i64.wrap ((IntKind.i64.wrap (x1.s.2 + 1)) + 1)) + 1)) + 1)) + 1)) + 1)) 3) == 0) (laws_markAttrS (x1.s.1[x1.i]?.getD default).S.Attrs (IntKind.i64.wrap ((IntKind.i64.wrap ((IntKind.i64.wrap ((IntKind.i64.wrap ((IntKind.i64.wrap ((IntKind.i64.wrap ((IntKind.i64.wrap (x1.s.2 + 1)) + 1)) + 1)) + 1)) + 1)) + 1)) + 1))).2) (laws_markAttrS (x1.s.1[x1.i]?.getD default).S.Attrs (IntKind.i64.wrap ((IntKind.i64.wrap ((IntKind.i64.wrap ((IntKind.i64.wrap ((IntKind.i64.wrap ((IntKind.i64.wrap ((IntKind.i64.wrap (x1.s.2 + 1)) + 1)) + 1)) + 1)) + 1)) + 1)) + 1))).1 (IntKind.i64.wrap ((laws_markAttrS (x1.s.1[x1.i]?.getD default).S.Attrs (IntKind.i64.wrap ((IntKind.i64.wrap ((IntKind.i64.wrap ((IntKind.i64.wrap ((IntKind.i64.wrap ((IntKind.i64.wrap ((IntKind.i64.wrap (x1.s.2 + 1)) + 1)) + 1)) + 1)) + 1)) + 1)) + 1))).1 + 1)) (x1.s.1[x1.i]?.getD default).Code (x1.s.1[x1.i]?.getD default).Keep (x1.s.1[x1.i]?.getD default).Void (x1.s.1[x1.i]?.getD default).Took (x1.s.1[x1.i]?.getD default).N (x1.s.1[x1.i]?.getD default).Forgot (x1.s.1[x1.i]?.getD default).Now (x1.s.1[x1.i]?.getD default).Inv (x1.s.1[x1.i]?.getD default).Lin (x1.s.1[x1.i]?.getD default).Res))) (by exact setMapS (by simp) (by first | rfl | (simp only [ha, Option.getD_some]; rfl) | (obtain ⟨_, rfl⟩ := List.getElem?_eq_some_iff.1 ha; rfl) | (simp only [Pol.cells_eq]; rfl) | (simp only [ha, Option.getD_some, Pol.cells_eq]; rfl))) ?_
    refine seqE ?_
    refine seqE ?_
    refine andE (by (first | omega | (simp (disch := omega) only [wrap_small, mid_eq, List.length_map]; omega) | (simp; done) | (simp; omega) | (simp at *; omega) | (simp at *; done) | (simp_all; done) | (simp_all; omega))) ?_
    refine rowsE (Y := List.map (Deed.cells true) (List.set x1.s.1 x1.i (Deed.mk x1.s.2 (IntKind.i64.wrap (x1.s.2 + 1)) (Span.mk (IntKind.i64.wrap ((IntKind.i64.wrap (x1.s.2 + 1)) + 1)) (IntKind.i64.wrap ((IntKind.i64.wrap ((IntKind.i64.wrap (x1.s.2 + 1)) + 1)) + 1)) (IntKind.i64.wrap ((IntKind.i64.wrap ((IntKind.i64.wrap ((IntKind.i64.wrap (x1.s.2 + 1)) + 1)) + 1)) + 1)) (IntKind.i64.wrap ((IntKind.i64.wrap ((IntKind.i64.wrap ((IntKind.i64.wrap ((IntKind.i64.wrap (x1.s.2 + 1)) + 1)) + 1)) + 1)) + 1)) ((Int.tmod (IntKind.i64.wrap ((IntKind.i64.wrap ((IntKind.i64.wrap ((IntKind.i64.wrap ((IntKind.i64.wrap ((IntKind.i64.wrap (x1.s.2 + 1)) + 1)) + 1)) + 1)) + 1)) + 1)) 3) == 0) (laws_markAttrS (x1.s.1[x1.i]?.getD default).S.Attrs (IntKind.i64.wrap ((IntKind.i64.wrap ((IntKind.i64.wrap ((IntKind.i64.wrap ((IntKind.i64.wrap ((IntKind.i64.wrap ((IntKind.i64.wrap (x1.s.2 + 1)) + 1)) + 1)) + 1)) + 1)) + 1)) + 1))).2) (laws_markAttrS (x1.s.1[x1.i]?.getD default).S.Attrs (IntKind.i64.wrap ((IntKind.i64.wrap ((IntKind.i64.wrap ((IntKind.i64.wrap ((IntKind.i64.wrap ((IntKind.i64.wrap ((IntKind.i64.wrap (x1.s.2 + 1)) + 1)) + 1)) + 1)) + 1)) + 1)) + 1))).1 (IntKind.i64.wrap ((laws_markAttrS (x1.s.1[x1.i]?.getD default).S.Attrs (IntKind.i64.wrap ((IntKind.i64.wrap ((IntKind.i64.wrap ((IntKind.i64.wrap ((IntKind.i64.wrap ((IntKind.i64.wrap ((IntKind.i64.wrap (x1.s.2 + 1)) + 1)) + 1)) + 1)) + 1)) + 1)) + 1))).1 + 1)) (IntKind.i64.wrap ((IntKind.i64.wrap ((laws_markAttrS (x1.s.1[x1.i]?.getD default).S.Attrs (IntKind.i64.wrap ((IntKind.i64.wrap ((IntKind.i64.wrap ((IntKind.i64.wrap ((IntKind.i64.wrap ((IntKind.i64.wrap ((IntKind.i64.wrap (x1.s.2 + 1)) + 1)) + 1)) + 1)) + 1)) + 1)) + 1))).1 + 1)) + 1)) (x1.s.1[x1.i]?.getD default).Keep (x1.s.1[x1.i]?.getD default).Void (x1.s.1[x1.i]?.getD default).Took (x1.s.1[x1.i]?.getD default).N (x1.s.1[x1.i]?.getD default).Forgot (x1.s.1[x1.i]?.getD default).Now (x1.s.1[x1.i]?.getD default).Inv (x1.s.1[x1.i]?.getD default).Lin (x1.s.1[x1.i]?.getD default).Res))) (by exact setMapS (by simp) (by first | rfl | (simp only [ha, Option.getD_some]; rfl) | (obtain ⟨_, rfl⟩ := List.getElem?_eq_some_iff.1 ha; rfl) | (simp only [Pol.cells_eq]; rfl) | (simp only [ha, Option.getD_some, Pol.cells_eq]; rfl))) ?_
    refine seqE ?_
    refine seqE ?_
    refine andE (by (first | omega | (simp (disch := omega) only [wrap_small, mid_eq, List.length_map]; omega) | (simp; done) | (simp; omega) | (simp at *; omega) | (simp at *; done) | (simp_all; done) | (simp_all; omega))) ?_
    refine andE (by (first | omega | (simp (disch := omega) only [wrap_small, mid_eq, List.length_map]; omega) | (simp; done) | (simp; omega) | (simp at *; omega) | (simp at *; done) | (simp_all; done) | (simp_all; omega))) ?_
    refine rowsE (Y := List.map (Deed.cells true) (List.set x1.s.1 x1.i (Deed.mk x1.s.2 (IntKind.i64.wrap (x1.s.2 + 1)) (Span.mk (IntKind.i64.wrap ((IntKind.i64.wrap (x1.s.2 + 1)) + 1)) (IntKind.i64.wrap ((IntKind.i64.wrap ((IntKind.i64.wrap (x1.s.2 + 1)) + 1)) + 1)) (IntKind.i64.wrap ((IntKind.i64.wrap ((IntKind.i64.wrap ((IntKind.i64.wrap (x1.s.2 + 1)) + 1)) + 1)) + 1)) (IntKind.i64.wrap ((IntKind.i64.wrap ((IntKind.i64.wrap ((IntKind.i64.wrap ((IntKind.i64.wrap (x1.s.2 + 1)) + 1)) + 1)) + 1)) + 1)) ((Int.tmod (IntKind.i64.wrap ((IntKind.i64.wrap ((IntKind.i64.wrap ((IntKind.i64.wrap ((IntKind.i64.wrap ((IntKind.i64.wrap (x1.s.2 + 1)) + 1)) + 1)) + 1)) + 1)) + 1)) 3) == 0) (laws_markAttrS (x1.s.1[x1.i]?.getD default).S.Attrs (IntKind.i64.wrap ((IntKind.i64.wrap ((IntKind.i64.wrap ((IntKind.i64.wrap ((IntKind.i64.wrap ((IntKind.i64.wrap ((IntKind.i64.wrap (x1.s.2 + 1)) + 1)) + 1)) + 1)) + 1)) + 1)) + 1))).2) (laws_markAttrS (x1.s.1[x1.i]?.getD default).S.Attrs (IntKind.i64.wrap ((IntKind.i64.wrap ((IntKind.i64.wrap ((IntKind.i64.wrap ((IntKind.i64.wrap ((IntKind.i64.wrap ((IntKind.i64.wrap (x1.s.2 + 1)) + 1)) + 1)) + 1)) + 1)) + 1)) + 1))).1 (IntKind.i64.wrap ((laws_markAttrS (x1.s.1[x1.i]?.getD default).S.Attrs (IntKind.i64.wrap ((IntKind.i64.wrap ((IntKind.i64.wrap ((IntKind.i64.wrap ((IntKind.i64.wrap ((IntKind.i64.wrap ((IntKind.i64.wrap (x1.s.2 + 1)) + 1)) + 1)) + 1)) + 1)) + 1)) + 1))).1 + 1)) (IntKind.i64.wrap ((IntKind.i64.wrap ((laws_markAttrS (x1.s.1[x1.i]?.getD default).S.Attrs (IntKind.i64.wrap ((IntKind.i64.wrap ((IntKind.i64.wrap ((IntKind.i64.wrap ((IntKind.i64.wrap ((IntKind.i64.wrap ((IntKind.i64.wrap (x1.s.2 + 1)) + 1)) + 1)) + 1)) + 1)) + 1)) + 1))).1 + 1)) + 1)) ((Int.tmod (IntKind.i64.wrap ((IntKind.i64.wrap ((IntKind.i64.wrap ((laws_markAttrS (x1.s.1[x1.i]?.getD default).S.Attrs (IntKind.i64.wrap ((IntKind.i64.wrap ((IntKind.i64.wrap ((IntKind.i64.wrap ((IntKind.i64.wrap ((IntKind.i64.wrap ((IntKind.i64.wrap (x1.s.2 + 1)) + 1)) + 1)) + 1)) + 1)) + 1)) + 1))).1 + 1)) + 1)) + 1)) 3) == 0) (x1.s.1[x1.i]?.getD default).Void (x1.s.1[x1.i]?.getD default).Took (x1.s.1[x1.i]?.getD default).N (x1.s.1[x1.i]?.getD default).Forgot (x1.s.1[x1.i]?.getD default).Now (x1.s.1[x1.i]?.getD default).Inv (x1.s.1[x1.i]?.getD default).Lin (x1.s.1[x1.i]?.getD default).Res))) (by exact setMapS (by simp) (by first | rfl | (simp only [ha, Option.getD_some]; rfl) | (obtain ⟨_, rfl⟩ := List.getElem?_eq_some_iff.1 ha; rfl) | (simp only [Pol.cells_eq]; rfl) | (simp only [ha, Option.getD_some, Pol.cells_eq]; rfl))) ?_
    refine seqE ?_
    refine seqE ?_
    refine andE (by (first | omega | (simp (disch := omega) only [wrap_small, mid_eq, List.length_map]; omega) | (simp; done) | (simp; omega) | (simp at *; omega) | (simp at *; done) | (simp_all; done) | (simp_all; omega))) ?_
    refine andE (by (first | omega | (simp (disch := omega) only [wrap_small, mid_eq, List.length_map]; omega) | (simp; done) | (simp; omega) | (simp at *; omega) | (simp at *; done) | (simp_all; done) | (simp_all; omega))) ?_
    refine rowsE (Y := List.map (Deed.cells true) (List.set x1.s.1 x1.i (Deed.mk x1.s.2 (IntKind.i64.wrap (x1.s.2 + 1)) (Span.mk (IntKind.i64.wrap ((IntKind.i64.wrap (x1.s.2 + 1)) + 1)) (IntKind.i64.wrap ((IntKind.i64.wrap ((IntKind.i64.wrap (x1.s.2 + 1)) + 1)) + 1)) (IntKind.i64.wrap ((IntKind.i64.wrap ((IntKind.i64.wrap ((IntKind.i64.wrap (x1.s.2 + 1)) + 1)) + 1)) + 1)) (IntKind.i64.wrap ((IntKind.i64.wrap ((IntKind.i64.wrap ((IntKind.i64.wrap ((IntKind.i64.wrap (x1.s.2 + 1)) + 1)) + 1)) + 1)) + 1)) ((Int.tmod (IntKind.i64.wrap ((IntKind.i64.wrap ((IntKind.i64.wrap ((IntKind.i64.wrap ((IntKind.i64.wrap ((IntKind.i64.wrap (x1.s.2 + 1)) + 1)) + 1)) + 1)) + 1)) + 1)) 3) == 0) (laws_markAttrS (x1.s.1[x1.i]?.getD default).S.Attrs (IntKind.i64.wrap ((IntKind.i64.wrap ((IntKind.i64.wrap ((IntKind.i64.wrap ((IntKind.i64.wrap ((IntKind.i64.wrap ((IntKind.i64.wrap (x1.s.2 + 1)) + 1)) + 1)) + 1)) + 1)) + 1)) + 1))).2) (laws_markAttrS (x1.s.1[x1.i]?.getD default).S.Attrs (IntKind.i64.wrap ((IntKind.i64.wrap ((IntKind.i64.wrap ((IntKind.i64.wrap ((IntKind.i64.wrap ((IntKind.i64.wrap ((IntKind.i64.wrap (x1.s.2 + 1)) + 1)) + 1)) + 1)) + 1)) + 1)) + 1))).1 (IntKind.i64.wrap ((laws_markAttrS (x1.s.1[x1.i]?.getD default).S.Attrs (IntKind.i64.wrap ((IntKind.i64.wrap ((IntKind.i64.wrap ((IntKind.i64.wrap ((IntKind.i64.wrap ((IntKind.i64.wrap ((IntKind.i64.wrap (x1.s.2 + 1)) + 1)) + 1)) + 1)) + 1)) + 1)) + 1))).1 + 1)) (IntKind.i64.wrap ((IntKind.i64.wrap ((laws_markAttrS (x1.s.1[x1.i]?.getD default).S.Attrs (IntKind.i64.wrap ((IntKind.i64.wrap ((IntKind.i64.wrap ((IntKind.i64.wrap ((IntKind.i64.wrap ((IntKind.i64.wrap ((IntKind.i64.wrap (x1.s.2 + 1)) + 1)) + 1)) + 1)) + 1)) + 1)) + 1))).1 + 1)) + 1)) ((Int.tmod (IntKind.i64.wrap ((IntKind.i64.wrap ((IntKind.i64.wrap ((laws_markAttrS (x1.s.1[x1.i]?.getD default).S.Attrs (IntKind.i64.wrap ((IntKind.i64.wrap ((IntKind.i64.wrap ((IntKind.i64.wrap ((IntKind.i64.wrap ((IntKind.i64.wrap ((IntKind.i64.wrap (x1.s.2 + 1)) + 1)) + 1)) + 1)) + 1)) + 1)) + 1))).1 + 1)) + 1)) + 1)) 3) == 0) ((Int.tmod (IntKind.i64.wrap ((IntKind.i64.wrap ((IntKind.i64.wrap ((IntKind.i64.wrap ((laws_markAttrS (x1.s.1[x1.i]?.getD default).S.Attrs (IntKind.i64.wrap ((IntKind.i64.wrap ((IntKind.i64.wrap ((IntKind.i64.wrap ((IntKind.i64.wrap ((IntKind.i64.wrap ((IntKind.i64.wrap (x1.s.2 + 1)) + 1)) + 1)) + 1)) + 1)) + 1)) + 1))).1 + 1)) + 1)) + 1)) + 1)) 3) == 0) (x1.s.1[x1.i]?.getD default).Took (x1.s.1[x1.i]?.getD default).N (x1.s.1[x1.i]?.getD default).Forgot (x1.s.1[x1.i]?.getD default).Now (x1.s.1[x1.i]?.getD default).Inv (x1.s.1[x1.i]?.getD default).Lin (x1.s.1[x1.i]?.getD default).Res))) (by exact setMapS (by simp) (by first | rfl | (simp only [ha, Option.getD_some]; rfl) | (obtain ⟨_, rfl⟩ := List.getElem?_eq_some_iff.1 ha; rfl) | (simp only [Pol.cells_eq]; rfl) | (simp only [ha, Option.getD_some, Pol.cells_eq]; rfl))) ?_
    refine seqE ?_
    refine seqE ?_
    refine andE (by (first | omega | (simp (disch := omega) only [wrap_small, mid_eq, List.length_map]; omega) | (simp; done) | (simp; omega) | (simp at *; omega) | (simp at *; done) | (simp_all; done) | (simp_all; omega))) ?_
    refine rowsE (Y := List.map (Deed.cells true) (List.set x1.s.1 x1.i (Deed.mk x1.s.2 (IntKind.i64.wrap (x1.s.2 + 1)) (Span.mk (IntKind.i64.wrap ((IntKind.i64.wrap (x1.s.2 + 1)) + 1)) (IntKind.i64.wrap ((IntKind.i64.wrap ((IntKind.i64.wrap (x1.s.2 + 1)) + 1)) + 1)) (IntKind.i64.wrap ((IntKind.i64.wrap ((IntKind.i64.wrap ((IntKind.i64.wrap (x1.s.2 + 1)) + 1)) + 1)) + 1)) (IntKind.i64.wrap ((IntKind.i64.wrap ((IntKind.i64.wrap ((IntKind.i64.wrap ((IntKind.i64.wrap (x1.s.2 + 1)) + 1)) + 1)) + 1)) + 1)) ((Int.tmod (IntKind.i64.wrap ((IntKind.i64.wrap ((IntKind.i64.wrap ((IntKind.i64.wrap ((IntKind.i64.wrap ((IntKind.i64.wrap (x1.s.2 + 1)) + 1)) + 1)) + 1)) + 1)) + 1)) 3) == 0) (laws_markAttrS (x1.s.1[x1.i]?.getD default).S.Attrs (IntKind.i64.wrap ((IntKind.i64.wrap ((IntKind.i64.wrap ((IntKind.i64.wrap ((IntKind.i64.wrap ((IntKind.i64.wrap ((IntKind.i64.wrap (x1.s.2 + 1)) + 1)) + 1)) + 1)) + 1)) + 1)) + 1))).2) (laws_markAttrS (x1.s.1[x1.i]?.getD default).S.Attrs (IntKind.i64.wrap ((IntKind.i64.wrap ((IntKind.i64.wrap ((IntKind.i64.wrap ((IntKind.i64.wrap ((IntKind.i64.wrap ((IntKind.i64.wrap (x1.s.2 + 1)) + 1)) + 1)) + 1)) + 1)) + 1)) + 1))).1 (IntKind.i64.wrap ((laws_markAttrS (x1.s.1[x1.i]?.getD default).S.Attrs (IntKind.i64.wrap ((IntKind.i64.wrap ((IntKind.i64.wrap ((IntKind.i64.wrap ((IntKind.i64.wrap ((IntKind.i64.wrap ((IntKind.i64.wrap (x1.s.2 + 1)) + 1)) + 1)) + 1)) + 1)) + 1)) + 1))).1 + 1)) (IntKind.i64.wrap ((IntKind.i64.wrap ((laws_markAttrS (x1.s.1[x1.i]?.getD default).S.Attrs (IntKind.i64.wrap ((IntKind.i64.wrap ((IntKind.i64.wrap ((IntKind.i64.wrap ((IntKind.i64.wrap ((IntKind.i64.wrap ((IntKind.i64.wrap (x1.s.2 + 1)) + 1)) + 1)) + 1)) + 1)) + 1)) + 1))).1 + 1)) + 1)) ((Int.tmod (IntKind.i64.wrap ((IntKind.i64.wrap ((IntKind.i64.wrap ((laws_markAttrS (x1.s.1[x1.i]?.getD default).S.Attrs (IntKind.i64.wrap ((IntKind.i64.wrap ((IntKind.i64.wrap ((IntKind.i64.wrap ((IntKind.i64.wrap ((IntKind.i64.wrap ((IntKind.i64.wrap (x1.s.2 + 1)) + 1)) + 1)) + 1)) + 1)) + 1)) + 1))).1 + 1)) + 1)) + 1)) 3) == 0) ((Int.tmod (IntKind.i64.wrap ((IntKind.i64.wrap ((IntKind.i64.wrap ((IntKind.i64.wrap ((laws_markAttrS (x1.s.1[x1.i]?.getD default).S.Attrs (IntKind.i64.wrap ((IntKind.i64.wrap ((IntKind.i64.wrap ((IntKind.i64.wrap ((IntKind.i64.wrap ((IntKind.i64.wrap ((IntKind.i64.wrap (x1.s.2 + 1)) + 1)) + 1)) + 1)) + 1)) + 1)) + 1))).1 + 1)) + 1)) + 1)) + 1)) 3) == 0) (IntKind.i64.wrap ((IntKind.i64.wrap ((IntKind.i64.wrap ((IntKind.i64.wrap ((IntKind.i64.wrap ((laws_markAttrS (x1.s.1[x1.i]?.getD default).S.Attrs (IntKind.i64.wrap ((IntKind.i64.wrap ((IntKind.i64.wrap ((IntKind.i64.wrap ((IntKind.i64.wrap ((IntKind.i64.wrap ((IntKind.i64.wrap (x1.s.2 + 1)) + 1)) + 1)) + 1)) + 1)) + 1)) + 1))).1 + 1)) + 1)) + 1)) + 1)) + 1)) (x1.s.1[x1.i]?.getD default).N (x1.s.1[x1.i]?.getD default).Forgot (x1.s.1[x1.i]?.getD default).Now (x1.s.1[x1.i]?.getD default).Inv (x1.s.1[x1.i]?.getD default).Lin (x1.s.1[x1.i]?.getD default).Res))) (by exact setMapS (by simp) (by first | rfl | (simp only [ha, Option.getD_some]; rfl) | (obtain ⟨_, rfl⟩ := List.getElem?_eq_some_iff.1 ha; rfl) | (simp only [Pol.cells_eq]; rfl) | (simp only [ha, Option.getD_some, Pol.cells_eq]; rfl))) ?_
    refine seqE ?_
    refine seqE ?_
    refine andE (by (first | omega | (simp (disch := omega) only [wrap_small, mid_eq, List.length_map]; omega) | (simp; done) | (simp; omega) | (simp at *; omega) | (simp at *; done) | (simp_all; done) | (simp_all; omega))) ?_
    refine rowsE (Y := List.map (Deed.cells true) (List.set x1.s.1 x1.i (Deed.mk x1.s.2 (IntKind.i64.wrap (x1.s.2 + 1)) (Span.mk (IntKind.i64.wrap ((IntKind.i64.wrap (x1.s.2 + 1)) + 1)) (IntKind.i64.wrap ((IntKind.i64.wrap ((IntKind.i64.wrap (x1.s.2 + 1)) + 1)) + 1)) (IntKind.i64.wrap ((IntKind.i64.wrap ((IntKind.i64.wrap ((IntKind.i64.wrap (x1.s.2 + 1)) + 1)) + 1)) + 1)) (IntKind.i64.wrap ((IntKind.i64.wrap ((IntKind.i64.wrap ((IntKind.i64.wrap ((IntKind.i64.wrap (x1.s.2 + 1)) + 1)) + 1)) + 1)) + 1)) ((Int.tmod (IntKind.i64.wrap ((IntKind.i64.wrap ((IntKind.i64.wrap ((IntKind.i64.wrap ((IntKind.i64.wrap ((IntKind.i64.wrap (x1.s.2 + 1)) + 1)) + 1)) + 1)) + 1)) + 1)) 3) == 0) (laws_markAttrS (x1.s.1[x1.i]?.getD default).S.Attrs (IntKind.i64.wrap ((IntKind.i64.wrap ((IntKind.i64.wrap ((IntKind.i64.wrap ((IntKind.i64.wrap ((IntKind.i64.wrap ((IntKind.i64.wrap (x1.s.2 + 1)) + 1)) + 1)) + 1)) + 1)) + 1)) + 1))).2) (laws_markAttrS (x1.s.1[x1.i]?.getD default).S.Attrs (IntKind.i64.wrap ((IntKind.i64.wrap ((IntKind.i64.wrap ((IntKind.i64.wrap ((IntKind.i64.wrap ((IntKind.i64.wrap ((IntKind.i64.wrap (x1.s.2 + 1)) + 1)) + 1)) + 1)) + 1)) + 1)) + 1))).1 (IntKind.i64.wrap ((laws_markAttrS (x1.s.1[x1.i]?.getD default).S.Attrs (IntKind.i64.wrap ((IntKind.i64.wrap ((IntKind.i64.wrap ((IntKind.i64.wrap ((IntKind.i64.wrap ((IntKind.i64.wrap ((IntKind.i64.wrap (x1.s.2 + 1)) + 1)) + 1)) + 1)) + 1)) + 1)) + 1))).1 + 1)) (IntKind.i64.wrap ((IntKind.i64.wrap ((laws_markAttrS (x1.s.1[x1.i]?.getD default).S.Attrs (IntKind.i64.wrap ((IntKind.i64.wrap ((IntKind.i64.wrap ((IntKind.i64.wrap ((IntKind.i64.wrap ((IntKind.i64.wrap ((IntKind.i64.wrap (x1.s.2 + 1)) + 1)) + 1)) + 1)) + 1)) + 1)) + 1))).1 + 1)) + 1)) ((Int.tmod (IntKind.i64.wrap ((IntKind.i64.wrap ((IntKind.i64.wrap ((laws_markAttrS (x1.s.1[x1.i]?.getD default).S.Attrs (IntKind.i64.wrap ((IntKind.i64.wrap ((IntKind.i64.wrap ((IntKind.i64.wrap ((IntKind.i64.wrap ((IntKind.i64.wrap ((IntKind.i64.wrap (x1.s.2 + 1)) + 1)) + 1)) + 1)) + 1)) + 1)) + 1))).1 + 1)) + 1)) + 1)) 3) == 0) ((Int.tmod (IntKind.i64.wrap ((IntKind.i64.wrap ((IntKind.i64.wrap ((IntKind.i64.wrap ((laws_markAttrS (x1.s.1[x1.i]?.getD default).S.Attrs (IntKind.i64.wrap ((IntKind.i64.wrap ((IntKind.i64.wrap ((IntKind.i64.wrap ((IntKind.i64.wrap ((IntKind.i64.wrap ((IntKind.i64.wrap (x1.s.2 + 1)) + 1)) + 1)) + 1)) + 1)) + 1)) + 1))).1 + 1)) + 1)) + 1)) + 1)) 3) == 0) (IntKind.i64.wrap ((IntKind.i64.wrap ((IntKind.i64.wrap ((IntKind.i64.wrap ((IntKind.i64.wrap ((laws_markAttrS (x1.s.1[x1.i]?.getD default).S.Attrs (IntKind.i64.wrap ((IntKind.i64.wrap ((IntKind.i64.wrap ((IntKind.i64.wrap ((IntKind.i64.wrap ((IntKind.i64.wrap ((IntKind.i64.wrap (x1.s.2 + 1)) + 1)) + 1)) + 1)) + 1)) + 1)) + 1))).1 + 1)) + 1)) + 1)) + 1)) + 1)) (IntKind.i64.wrap ((IntKind.i64.wrap ((IntKind.i64.wrap ((IntKind.i64.wrap ((IntKind.i64.wrap ((IntKind.i64.wrap ((laws_markAttrS (x1.s.1[x1.i]?.getD default).S.Attrs (IntKind.i64.wrap ((IntKind.i64.wrap ((IntKind.i64.wrap ((IntKind.i64.wrap ((IntKind.i64.wrap ((IntKind.i64.wrap ((IntKind.i64.wrap (x1.s.2 + 1)) + 1)) + 1)) + 1)) + 1)) + 1)) + 1))).1 + 1)) + 1)) + 1)) + 1)) + 1)) + 1)) (x1.s.1[x1.i]?.getD default).Forgot (x1.s.1[x1.i]?.getD default).Now (x1.s.1[x1.i]?.getD default).Inv (x1.s.1[x1.i]?.getD default).Lin (x1.s.1[x1.i]?.getD default).Res))) (by exact setMapS (by simp) (by first | rfl | (simp only [ha, Option.getD_some]; rfl) | (obtain ⟨_, rfl⟩ := List.getElem?_eq_some_iff.1 ha; rfl) | (simp only [Pol.cells_eq]; rfl) | (simp only [ha, Option.getD_some, Pol.cells_eq]; rfl))) ?_
    refine seqE ?_
    refine seqE ?_
    refine andE (by (first | omega | (simp (disch := omega) only [wrap_small, mid_eq, List.length_map]; omega) | (simp; done) | (simp; omega) | (simp at *; omega) | (simp at *; done) | (simp_all; done) | (simp_all; omega))) ?_
    refine rowsE (Y := List.map (Deed.cells true) (List.set x1.s.1 x1.i (Deed.mk x1.s.2 (IntKind.i64.wrap (x1.s.2 + 1)) (Span.mk (IntKind.i64.wrap ((IntKind.i64.wrap (x1.s.2 + 1)) + 1)) (IntKind.i64.wrap ((IntKind.i64.wrap ((IntKind.i64.wrap (x1.s.2 + 1)) + 1)) + 1)) (IntKind.i64.wrap ((IntKind.i64.wrap ((IntKind.i64.wrap ((IntKind.i64.wrap (x1.s.2 + 1)) + 1)) + 1)) + 1)) (IntKind.i64.wrap ((IntKind.i64.wrap ((IntKind.i64.wrap ((IntKind.i64.wrap ((IntKind.i64.wrap (x1.s.2 + 1)) + 1)) + 1)) + 1)) + 1)) ((Int.tmod (IntKind.i64.wrap ((IntKind.i64.wrap ((IntKind.i64.wrap ((IntKind.i64.wrap ((IntKind.i64.wrap ((IntKind.i64.wrap (x1.s.2 + 1)) + 1)) + 1)) + 1)) + 1)) + 1)) 3) == 0) (laws_markAttrS (x1.s.1[x1.i]?.getD default).S.Attrs (IntKind.i64.wrap ((IntKind.i64.wrap ((IntKind.i64.wrap ((IntKind.i64.wrap ((IntKind.i64.wrap ((IntKind.i64.wrap ((IntKind.i64.wrap (x1.s.2 + 1)) + 1)) + 1)) + 1)) + 1)) + 1)) + 1))).2) (laws_markAttrS (x1.s.1[x1.i]?.getD default).S.Attrs (IntKind.i64.wrap ((IntKind.i64.wrap ((IntKind.i64.wrap ((IntKind.i64.wrap ((IntKind.i64.wrap ((IntKind.i64.wrap ((IntKind.i64.wrap (x1.s.2 + 1)) + 1)) + 1)) + 1)) + 1)) + 1)) + 1))).1 (IntKind.i64.wrap ((laws_markAttrS (x1.s.1[x1.i]?.getD default).S.Attrs (IntKind.i64.wrap ((IntKind.i64.wrap ((IntKind.i64.wrap ((IntKind.i64.wrap ((IntKind.i64.wrap ((IntKind.i64.wrap ((IntKind.i64.wrap (x1.s.2 + 1)) + 1)) + 1)) + 1)) + 1)) + 1)) + 1))).1 + 1)) (IntKind.i64.wrap ((IntKind.i64.wrap ((laws_markAttrS (x1.s.1[x1.i]?.getD default).S.Attrs (IntKind.i64.wrap ((IntKind.i64.wrap ((IntKind.i64.wrap ((IntKind.i64.wrap ((IntKind.i64.wrap ((IntKind.i64.wrap ((IntKind.i64.wrap (x1.s.2 + 1)) + 1)) + 1)) + 1)) + 1)) + 1)) + 1))).1 + 1)) + 1)) ((Int.tmod (IntKind.i64.wrap ((IntKind.i64.wrap ((IntKind.i64.wrap ((laws_markAttrS (x1.s.1[x1.i]?.getD default).S.Attrs (IntKind.i64.wrap ((IntKind.i64.wrap ((IntKind.i64.wrap ((IntKind.i64.wrap ((IntKind.i64.wrap ((IntKind.i64.wrap ((IntKind.i64.wrap (x1.s.2 + 1)) + 1)) + 1)) + 1)) + 1)) + 1)) + 1))).1 + 1)) + 1)) + 1)) 3) == 0) ((Int.tmod (IntKind.i64.wrap ((IntKind.i64.wrap ((IntKind.i64.wrap ((IntKind.i64.wrap ((laws_markAttrS (x1.s.1[x1.i]?.getD default).S.Attrs (IntKind.i64.wrap ((IntKind.i64.wrap ((IntKind.i64.wrap ((IntKind.i64.wrap ((IntKind.i64.wrap ((IntKind.i64.wrap ((IntKind.i64.wrap (x1.s.2 + 1)) + 1)) + 1)) + 1)) + 1)) + 1)) + 1))).1 + 1)) + 1)) + 1)) + 1)) 3) == 0) (IntKind.i64.wrap ((IntKind.i64.wrap ((IntKind.i64.wrap ((IntKind.i64.wrap ((IntKind.i64.wrap ((laws_markAttrS (x1.s.1[x1.i]?.getD default).S.Attrs (IntKind.i64.wrap ((IntKind.i64.wrap ((IntKind.i64.wrap ((IntKind.i64.wrap ((IntKind.i64.wrap ((IntKind.i64.wrap ((IntKind.i64.wrap (x1.s.2 + 1)) + 1)) + 1)) + 1)) + 1)) + 1)) + 1))).1 + 1)) + 1)) + 1)) + 1)) + 1)) (IntKind.i64.wrap ((IntKind.i64.wrap ((IntKind.i64.wrap ((IntKind.i64.wrap ((IntKind.i64.wrap ((IntKind.i64.wrap ((laws_markAttrS (x1.s.1[x1.i]?.getD default).S.Attrs (IntKind.i64.wrap ((IntKind.i64.wrap ((IntKind.i64.wrap ((IntKind.i64.wrap ((IntKind.i64.wrap ((IntKind.i64.wrap ((IntKind.i64.wrap (x1.s.2 + 1)) + 1)) + 1)) + 1)) + 1)) + 1)) + 1))).1 + 1)) + 1)) + 1)) + 1)) + 1)) + 1)) (IntKind.i64.wrap ((IntKind.i64.wrap ((IntKind.i64.wrap ((IntKind.i64.wrap ((IntKind.i64.wrap ((IntKind.i64.wrap ((IntKind.i64.wrap ((laws_markAttrS (x1.s.1[x1.i]?.getD default).S.Attrs (IntKind.i64.wrap ((IntKind.i64.wrap ((IntKind.i64.wrap ((IntKind.i64.wrap ((IntKind.i64.wrap ((IntKind.i64.wrap ((IntKind.i64.wrap (x1.s.2 + 1)) + 1)) + 1)) + 1)) + 1)) + 1)) + 1))).1 + 1)) + 1)) + 1)) + 1)) + 1)) + 1)) + 1)) (x1.s.1[x1.i]?.getD default).Now (x1.s.1[x1.i]?.getD default).Inv (x1.s.1[x1.i]?.getD default).Lin (x1.s.1[x1.i]?.getD default).Res))) (by exact setMapS (by simp) (by first | rfl | (simp only [ha, Option.getD_some]; rfl) | (obtain ⟨_, rfl⟩ := List.getElem?_eq_some_iff.1 ha; rfl) | (simp only [Pol.cells_eq]; rfl) | (simp only [ha, Option.getD_some, Pol.cells_eq]; rfl))) ?_
    refine seqE ?_
    refine seqE ?_
    refine andE (by (first | omega | (simp (disch := omega) only [wrap_small, mid_eq, List.length_map]; omega) | (simp; done) | (simp; omega) | (simp at *; omega) | (simp at *; done) | (simp_all; done) | (simp_all; omega))) ?_
    refine rowsE (Y := List.map (Deed.cells true) (List.set x1.s.1 x1.i (Deed.mk x1.s.2 (IntKind.i64.wrap (x1.s.2 + 1)) (Span.mk (IntKind.i64.wrap ((IntKind.i64.wrap (x1.s.2 + 1)) + 1)) (IntKind.i64.wrap ((IntKind.i64.wrap ((IntKind.i64.wrap (x1.s.2 + 1)) + 1)) + 1)) (IntKind.i64.wrap ((IntKind.i64.wrap ((IntKind.i64.wrap ((IntKind.i64.wrap (x1.s.2 + 1)) + 1)) + 1)) + 1)) (IntKind.i64.wrap ((IntKind.i64.wrap ((IntKind.i64.wrap ((IntKind.i64.wrap ((IntKind.i64.wrap (x1.s.2 + 1)) + 1)) + 1)) + 1)) + 1)) ((Int.tmod (IntKind.i64.wrap ((IntKind.i64.wrap ((IntKind.i64.wrap ((IntKind.i64.wrap ((IntKind.i64.wrap ((IntKind.i64.wrap (x1.s.2 + 1)) + 1)) + 1)) + 1)) + 1)) + 1)) 3) == 0) (laws_markAttrS (x1.s.1[x1.i]?.getD default).S.Attrs (IntKind.i64.wrap ((IntKind.i64.wrap ((IntKind.i64.wrap ((IntKind.i64.wrap ((IntKind.i64.wrap ((IntKind.i64.wrap ((IntKind.i64.wrap (x1.s.2 + 1)) + 1)) + 1)) + 1)) + 1)) + 1)) + 1))).2) (laws_markAttrS (x1.s.1[x1.i]?.getD default).S.Attrs (IntKind.i64.wrap ((IntKind.i64.wrap ((IntKind.i64.wrap ((IntKind.i64.wrap ((IntKind.i64.wrap ((IntKind.i64.wrap ((IntKind.i64.wrap (x1.s.2 + 1)) + 1)) + 1)) + 1)) + 1)) + 1)) + 1))).1 (IntKind.i64.wrap ((laws_markAttrS (x1.s.1[x1.i]?.getD default).S.Attrs (IntKind.i64.wrap ((IntKind.i64.wrap ((IntKind.i64.wrap ((IntKind.i64.wrap ((IntKind.i64.wrap ((IntKind.i64.wrap ((IntKind.i64.wrap (x1.s.2 + 1)) + 1)) + 1)) + 1)) + 1)) + 1)) + 1))).1 + 1)) (IntKind.i64.wrap ((IntKind.i64.wrap ((laws_markAttrS (x1.s.1[x1.i]?.getD default).S.Attrs (IntKind.i64.wrap ((IntKind.i64.wrap ((IntKind.i64.wrap ((IntKind.i64.wrap ((IntKind.i64.wrap ((IntKind.i64.wrap ((IntKind.i64.wrap (x1.s.2 + 1)) + 1)) + 1)) + 1)) + 1)) + 1)) + 1))).1 + 1)) + 1)) ((Int.tmod (IntKind.i64.wrap ((IntKind.i64.wrap ((IntKind.i64.wrap ((laws_markAttrS (x1.s.1[x1.i]?.getD default).S.Attrs (IntKind.i64.wrap ((IntKind.i64.wrap ((IntKind.i64.wrap ((IntKind.i64.wrap ((IntKind.i64.wrap ((IntKind.i64.wrap ((IntKind.i64.wrap (x1.s.2 + 1)) + 1)) + 1)) + 1)) + 1)) + 1)) + 1))).1 + 1)) + 1)) + 1)) 3) == 0) ((Int.tmod (IntKind.i64.wrap ((IntKind.i64.wrap ((IntKind.i64.wrap ((IntKind.i64.wrap ((laws_markAttrS (x1.s.1[x1.i]?.getD default).S.Attrs (IntKind.i64.wrap ((IntKind.i64.wrap ((IntKind.i64.wrap ((IntKind.i64.wrap ((IntKind.i64.wrap ((IntKind.i64.wrap ((IntKind.i64.wrap (x1.s.2 + 1)) + 1)) + 1)) + 1)) + 1)) + 1)) + 1))).1 + 1)) + 1)) + 1)) + 1)) 3) == 0) (IntKind.i64.wrap ((IntKind.i64.wrap ((IntKind.i64.wrap ((IntKind.i64.wrap ((IntKind.i64.wrap ((laws_markAttrS (x1.s.1[x1.i]?.getD default).S.Attrs (IntKind.i64.wrap ((IntKind.i64.wrap ((IntKind.i64.wrap ((IntKind.i64.wrap ((IntKind.i64.wrap ((IntKind.i64.wrap ((IntKind.i64.wrap (x1.s.2 + 1)) + 1)) + 1)) + 1)) + 1)) + 1)) + 1))).1 + 1)) + 1)) + 1)) + 1)) + 1)) (IntKind.i64.wrap ((IntKind.i64.wrap ((IntKind.i64.wrap ((IntKind.i64.wrap ((IntKind.i64.wrap ((IntKind.i64.wrap ((laws_markAttrS (x1.s.1[x1.i]?.getD default).S.Attrs (IntKind.i64.wrap ((IntKind.i64.wrap ((IntKind.i64.wrap ((IntKind.i64.wrap ((IntKind.i64.wrap ((IntKind.i64.wrap ((IntKind.i64.wrap (x1.s.2 + 1)) + 1)) + 1)) + 1)) + 1)) + 1)) + 1))).1 + 1)) + 1)) + 1)) + 1)) + 1)) + 1)) (IntKind.i64.wrap ((IntKind.i64.wrap ((IntKind.i64.wrap ((IntKind.i64.wrap ((IntKind.i64.wrap ((IntKind.i64.wrap ((IntKind.i64.wrap ((laws_markAttrS (x1.s.1[x1.i]?.getD default).S.Attrs (IntKind.i64.wrap ((IntKind.i64.wrap ((IntKind.i64.wrap ((IntKind.i64.wrap ((IntKind.i64.wrap ((IntKind.i64.wrap ((IntKind.i64.wrap (x1.s.2 + 1)) + 1)) + 1)) + 1)) + 1)) + 1)) + 1))).1 + 1)) + 1)) + 1)) + 1)) + 1)) + 1)) + 1)) (IntKind.i64.wrap ((IntKind.i64.wrap ((IntKind.i64.wrap ((IntKind.i64.wrap ((IntKind.i64.wrap ((IntKind.i64.wrap ((IntKind.i64.wrap ((IntKind.i64.wrap ((laws_markAttrS (x1.s.1[x1.i]?.getD default).S.Attrs (IntKind.i64.wrap ((IntKind.i64.wrap ((IntKind.i64.wrap ((IntKind.i64.wrap ((IntKind.i64.wrap ((IntKind.i64.wrap ((IntKind.i64.wrap (x1.s.2 + 1)) + 1)) + 1)) + 1)) + 1)) + 1)) + 1))).1 + 1)) + 1)) + 1)) + 1)) + 1)) + 1)) + 1)) + 1)) (x1.s.1[x1.i]?.getD default).Inv (x1.s.1[x1.i]?.getD default).Lin (x1.s.1[x1.i]?.getD default).Res))) (by exact setMapS (by simp) (by first | rfl | (simp only [ha, Option.getD_some]; rfl) | (obtain ⟨_, rfl⟩ := List.getElem?_eq_some_iff.1 ha; rfl) | (simp only [Pol.cells_eq]; rfl) | (simp only [ha, Option.getD_some, Pol.cells_eq]; rfl))) ?_
    refine seqE ?_
    refine seqE ?_
    refine andE (by (first | omega | (simp (disch := omega) only [wrap_small, mid_eq, List.length_map]; omega) | (simp; done) | (simp; omega) | (simp at *; omega) | (simp at *; done) | (simp_all; done) | (simp_all; omega))) ?_
    refine rowsE (Y := List.map (Deed.cells true) (List.set x1.s.1 x1.i (Deed.mk x1.s.2 (IntKind.i64.wrap (x1.s.2 + 1)) (Span.mk (IntKind.i64.wrap ((IntKind.i64.wrap (x1.s.2 + 1)) + 1)) (IntKind.i64.wrap ((IntKind.i64.wrap ((IntKind.i64.wrap (x1.s.2 + 1)) + 1)) + 1)) (IntKind.i64.wrap ((IntKind.i64.wrap ((IntKind.i64.wrap ((IntKind.i64.wrap (x1.s.2 + 1)) + 1)) + 1)) + 1)) (IntKind.i64.wrap ((IntKind.i64.wrap ((IntKind.i64.wrap ((IntKind.i64.wrap ((IntKind.i64.wrap (x1.s.2 + 1)) + 1)) + 1)) + 1)) + 1)) ((Int.tmod (IntKind.i64.wrap ((IntKind.i64.wrap ((IntKind.i64.wrap ((IntKind.i64.wrap ((IntKind.i64.wrap ((IntKind.i64.wrap (x1.s.2 + 1)) + 1)) + 1)) + 1)) + 1)) + 1)) 3) == 0) (laws_markAttrS (x1.s.1[x1.i]?.getD default).S.Attrs (IntKind.i64.wrap ((IntKind.i64.wrap ((IntKind.i64.wrap ((IntKind.i64.wrap ((IntKind.i64.wrap ((IntKind.i64.wrap ((IntKind.i64.wrap (x1.s.2 + 1)) + 1)) + 1)) + 1)) + 1)) + 1)) + 1))).2) (laws_markAttrS (x1.s.1[x1.i]?.getD default).S.Attrs (IntKind.i64.wrap ((IntKind.i64.wrap ((IntKind.i64.wrap ((IntKind.i64.wrap ((IntKind.i64.wrap ((IntKind.i64.wrap ((IntKind.i64.wrap (x1.s.2 + 1)) + 1)) + 1)) + 1)) + 1)) + 1)) + 1))).1 (IntKind.i64.wrap ((laws_markAttrS (x1.s.1[x1.i]?.getD default).S.Attrs (IntKind.i64.wrap ((IntKind.i64.wrap ((IntKind.i64.wrap ((IntKind.i64.wrap ((IntKind.i64.wrap ((IntKind.i64.wrap ((IntKind.i64.wrap (x1.s.2 + 1)) + 1)) + 1)) + 1)) + 1)) + 1)) + 1))).1 + 1)) (IntKind.i64.wrap ((IntKind.i64.wrap ((laws_markAttrS (x1.s.1[x1.i]?.getD default).S.Attrs (IntKind.i64.wrap ((IntKind.i64.wrap ((IntKind.i64.wrap ((IntKind.i64.wrap ((IntKind.i64.wrap ((IntKind.i64.wrap ((IntKind.i64.wrap (x1.s.2 + 1)) + 1)) + 1)) + 1)) + 1)) + 1)) + 1))).1 + 1)) + 1)) ((Int.tmod (IntKind.i64.wrap ((IntKind.i64.wrap ((IntKind.i64.wrap ((laws_markAttrS (x1.s.1[x1.i]?.getD default).S.Attrs (IntKind.i64.wrap ((IntKind.i64.wrap ((IntKind.i64.wrap ((IntKind.i64.wrap ((IntKind.i64.wrap ((IntKind.i64.wrap ((IntKind.i64.wrap (x1.s.2 + 1)) + 1)) + 1)) + 1)) + 1)) + 1)) + 1))).1 + 1)) + 1)) + 1)) 3) == 0) ((Int.tmod (IntKind.i64.wrap ((IntKind.i64.wrap ((IntKind.i64.wrap ((IntKind.i64.wrap ((laws_markAttrS (x1.s.1[x1.i]?.getD default).S.Attrs (IntKind.i64.wrap ((IntKind.i64.wrap ((IntKind.i64.wrap ((IntKind.i64.wrap ((IntKind.i64.wrap ((IntKind.i64.wrap ((IntKind.i64.wrap (x1.s.2 + 1)) + 1)) + 1)) + 1)) + 1)) + 1)) + 1))).1 + 1)) + 1)) + 1)) + 1)) 3) == 0) (IntKind.i64.wrap ((IntKind.i64.wrap ((IntKind.i64.wrap ((IntKind.i64.wrap ((IntKind.i64.wrap ((laws_markAttrS (x1.s.1[x1.i]?.getD default).S.Attrs (IntKind.i64.wrap ((IntKind.i64.wrap ((IntKind.i64.wrap ((IntKind.i64.wrap ((IntKind.i64.wrap ((IntKind.i64.wrap ((IntKind.i64.wrap (x1.s.2 + 1)) + 1)) + 1)) + 1)) + 1)) + 1)) + 1))).1 + 1)) + 1)) + 1)) + 1)) + 1)) (IntKind.i64.wrap ((IntKind.i64.wrap ((IntKind.i64.wrap ((IntKind.i64.wrap ((IntKind.i64.wrap ((IntKind.i64.wrap ((laws_markAttrS (x1.s.1[x1.i]?.getD default).S.Attrs (IntKind.i64.wrap ((IntKind.i64.wrap ((IntKind.i64.wrap ((IntKind.i64.wrap ((IntKind.i64.wrap ((IntKind.i64.wrap ((IntKind.i64.wrap (x1.s.2 + 1)) + 1)) + 1)) + 1)) + 1)) + 1)) + 1))).1 + 1)) + 1)) + 1)) + 1)) + 1)) + 1)) (IntKind.i64.wrap ((IntKind.i64.wrap ((IntKind.i64.wrap ((IntKind.i64.wrap ((IntKind.i64.wrap ((IntKind.i64.wrap ((IntKind.i64.wrap ((laws_markAttrS (x1.s.1[x1.i]?.getD default).S.Attrs (IntKind.i64.wrap ((IntKind.i64.wrap ((IntKind.i64.wrap ((IntKind.i64.wrap ((IntKind.i64.wrap ((IntKind.i64.wrap ((IntKind.i64.wrap (x1.s.2 + 1)) + 1)) + 1)) + 1)) + 1)) + 1)) + 1))).1 + 1)) + 1)) + 1)) + 1)) + 1)) + 1)) + 1)) (IntKind.i64.wrap ((IntKind.i64.wrap ((IntKind.i64.wrap ((IntKind.i64.wrap ((IntKind.i64.wrap ((IntKind.i64.wrap ((IntKind.i64.wrap ((IntKind.i64.wrap ((laws_markAttrS (x1.s.1[x1.i]?.getD default).S.Attrs (IntKind.i64.wrap ((IntKind.i64.wrap ((IntKind.i64.wrap ((IntKind.i64.wrap ((IntKind.i64.wrap ((IntKind.i64.wrap ((IntKind.i64.wrap (x1.s.2 + 1)) + 1)) + 1)) + 1)) + 1)) + 1)) + 1))).1 + 1)) + 1)) + 1)) + 1)) + 1)) + 1)) + 1)) + 1)) (IntKind.i64.wrap ((IntKind.i64.wrap ((IntKind.i64.wrap ((IntKind.i64.wrap ((IntKind.i64.wrap ((IntKind.i64.wrap ((IntKind.i64.wrap ((IntKind.i64.wrap ((IntKind.i64.wrap ((laws_markAttrS (x1.s.1[x1.i]?.getD default).S.Attrs (IntKind.i64.wrap ((IntKind.i64.wrap ((IntKind.i64.wrap ((IntKind.i64.wrap ((IntKind.i64.wrap ((IntKind.i64.wrap ((IntKind.i64.wrap (x1.s.2 + 1)) + 1)) + 1)) + 1)) + 1)) + 1)) + 1))).1 + 1)) + 1)) + 1)) + 1)) + 1)) + 1)) + 1)) + 1)) + 1)) (x1.s.1[x1.i]?.getD default).Lin (x1.s.1[x1.i]?.getD default).Res))) (by exact setMapS (by simp) (by first | rfl | (simp only [ha, Option.getD_some]; rfl) | (obtain ⟨_, rfl⟩ := List.getElem?_eq_some_iff.1 ha; rfl) | (simp only [Pol.cells_eq]; rfl) | (simp only [ha, Option.getD_some, Pol.cells_eq]; rfl))) ?_
    refine seqE ?_
    refine seqE ?_
    refine andE (by (first | omega | (simp (disch := omega) only [wrap_small, mid_eq, List.length_map]; omega) | (simp; done) | (simp; omega) | (simp at *; omega) | (simp at *; done) | (simp_all; done) | (simp_all; omega))) ?_
    refine rowsE (Y := List.map (Deed.cells true) (List.set x1.s.1 x1.i (Deed.mk x1.s.2 (IntKind.i64.wrap (x1.s.2 + 1)) (Span.mk (IntKind.i64.wrap ((IntKind.i64.wrap (x1.s.2 + 1)) + 1)) (IntKind.i64.wrap ((IntKind.i64.wrap ((IntKind.i64.wrap (x1.s.2 + 1)) + 1)) + 1)) (IntKind.i64.wrap ((IntKind.i64.wrap ((IntKind.i64.wrap ((IntKind.i64.wrap (x1.s.2 + 1)) + 1)) + 1)) + 1)) (IntKind.i64.wrap ((IntKind.i64.wrap ((IntKind.i64.wrap ((IntKind.i64.wrap ((IntKind.i64.wrap (x1.s.2 + 1)) + 1)) + 1)) + 1)) + 1)) ((Int.tmod (IntKind.i64.wrap ((IntKind.i64.wrap ((IntKind.i64.wrap ((IntKind.i64.wrap ((IntKind.i64.wrap ((IntKind.i64.wrap (x1.s.2 + 1)) + 1)) + 1)) + 1)) + 1)) + 1)) 3) == 0) (laws_markAttrS (x1.s.1[x1.i]?.getD default).S.Attrs (IntKind.i64.wrap ((IntKind.i64.wrap ((IntKind.i64.wrap ((IntKind.i64.wrap ((IntKind.i64.wrap ((IntKind.i64.wrap ((IntKind.i64.wrap (x1.s.2 + 1)) + 1)) + 1)) + 1)) + 1)) + 1)) + 1))).2) (laws_markAttrS (x1.s.1[x1.i]?.getD default).S.Attrs (IntKind.i64.wrap ((IntKind.i64.wrap ((IntKind.i64.wrap ((IntKind.i64.wrap ((IntKind.i64.wrap ((IntKind.i64.wrap ((IntKind.i64.wrap (x1.s.2 + 1)) + 1)) + 1)) + 1)) + 1)) + 1)) + 1))).1 (IntKind.i64.wrap ((laws_markAttrS (x1.s.1[x1.i]?.getD default).S.Attrs (IntKind.i64.wrap ((IntKind.i64.wrap ((IntKind.i64.wrap ((IntKind.i64.wrap ((IntKind.i64.wrap ((IntKind.i64.wrap ((IntKind.i64.wrap (x1.s.2 + 1)) + 1)) + 1)) + 1)) + 1)) + 1)) + 1))).1 + 1)) (IntKind.i64.wrap ((IntKind.i64.wrap ((laws_markAttrS (x1.s.1[x1.i]?.getD default).S.Attrs (IntKind.i64.wrap ((IntKind.i64.wrap ((IntKind.i64.wrap ((IntKind.i64.wrap ((IntKind.i64.wrap ((IntKind.i64.wrap ((IntKind.i64.wrap (x1.s.2 + 1)) + 1)) + 1)) + 1)) + 1)) + 1)) + 1))).1 + 1)) + 1)) ((Int.tmod (IntKind.i64.wrap ((IntKind.i64.wrap ((IntKind.i64.wrap ((laws_markAttrS (x1.s.1[x1.i]?.getD default).S.Attrs (IntKind.i64.wrap ((IntKind.i64.wrap ((IntKind.i64.wrap ((IntKind.i64.wrap ((IntKind.i64.wrap ((IntKind.i64.wrap ((IntKind.i64.wrap (x1.s.2 + 1)) + 1)) + 1)) + 1)) + 1)) + 1)) + 1))).1 + 1)) + 1)) + 1)) 3) == 0) ((Int.tmod (IntKind.i64.wrap ((IntKind.i64.wrap ((IntKind.i64.wrap ((IntKind.i64.wrap ((laws_markAttrS (x1.s.1[x1.i]?.getD default).S.Attrs (IntKind.i64.wrap ((IntKind.i64.wrap ((IntKind.i64.wrap ((IntKind.i64.wrap ((IntKind.i64.wrap ((IntKind.i64.wrap ((IntKind.i64.wrap (x1.s.2 + 1)) + 1)) + 1)) + 1)) + 1)) + 1)) + 1))).1 + 1)) + 1)) + 1)) + 1)) 3) == 0) (IntKind.i64.wrap ((IntKind.i64.wrap ((IntKind.i64.wrap ((IntKind.i64.wrap ((IntKind.i64.wrap ((laws_markAttrS (x1.s.1[x1.i]?.getD default).S.Attrs (IntKind.i64.wrap ((IntKind.i64.wrap ((IntKind.i64.wrap ((IntKind.i64.wrap ((IntKind.i64.wrap ((IntKind.i64.wrap ((IntKind.i64.wrap (x1.s.2 + 1)) + 1)) + 1)) + 1)) + 1)) + 1)) + 1))).1 + 1)) + 1)) + 1)) + 1)) + 1)) (IntKind.i64.wrap ((IntKind.i64.wrap ((IntKind.i64.wrap ((IntKind.i64.wrap ((IntKind.i64.wrap ((IntKind.i64.wrap ((laws_markAttrS (x1.s.1[x1.i]?.getD default).S.Attrs (IntKind.i64.wrap ((IntKind.i64.wrap ((IntKind.i64.wrap ((IntKind.i64.wrap ((IntKind.i64.wrap ((IntKind.i64.wrap ((IntKind.i64.wrap (x1.s.2 + 1)) + 1)) + 1)) + 1)) + 1)) + 1)) + 1))).1 + 1)) + 1)) + 1)) + 1)) + 1)) + 1)) (IntKind.i64.wrap ((IntKind.i64.wrap ((IntKind.i64.wrap ((IntKind.i64.wrap ((IntKind.i64.wrap ((IntKind.i64.wrap ((IntKind.i64.wrap ((laws_markAttrS (x1.s.1[x1.i]?.getD default).S.Attrs (IntKind.i64.wrap ((IntKind.i64.wrap ((IntKind.i64.wrap ((IntKind.i64.wrap ((IntKind.i64.wrap ((IntKind.i64.wrap ((IntKind.i64.wrap (x1.s.2 + 1)) + 1)) + 1)) + 1)) + 1)) + 1)) + 1))).1 + 1)) + 1)) + 1)) + 1)) + 1)) + 1)) + 1)) (IntKind.i64.wrap ((IntKind.i64.wrap ((IntKind.i64.wrap ((IntKind.i64.wrap ((IntKind.i64.wrap ((IntKind.i64.wrap ((IntKind.i64.wrap ((IntKind.i64.wrap ((laws_markAttrS (x1.s.1[x1.i]?.getD default).S.Attrs (IntKind.i64.wrap ((IntKind.i64.wrap ((IntKind.i64.wrap ((IntKind.i64.wrap ((IntKind.i64.wrap ((IntKind.i64.wrap ((IntKind.i64.wrap (x1.s.2 + 1)) + 1)) + 1)) + 1)) + 1)) + 1)) + 1))).1 + 1)) + 1)) + 1)) + 1)) + 1)) + 1)) + 1)) + 1)) (IntKind.i64.wrap ((IntKind.i64.wrap ((IntKind.i64.wrap ((IntKind.i64.wrap ((IntKind.i64.wrap ((IntKind.i64.wrap ((IntKind.i64.wrap ((IntKind.i64.wrap ((IntKind.i64.wrap ((laws_markAttrS (x1.s.1[x1.i]?.getD default).S.Attrs (IntKind.i64.wrap ((IntKind.i64.wrap ((IntKind.i64.wrap ((IntKind.i64.wrap ((IntKind.i64.wrap ((IntKind.i64.wrap ((IntKind.i64.wrap (x1.s.2 + 1)) + 1)) + 1)) + 1)) + 1)) + 1)) + 1))).1 + 1)) + 1)) + 1)) + 1)) + 1)) + 1)) + 1)) + 1)) + 1)) (IntKind.i64.wrap ((IntKind.i64.wrap ((IntKind.i64.wrap ((IntKind.i64.wrap ((IntKind.i64.wrap ((IntKind.i64.wrap ((IntKind.i64.wrap ((IntKind.i64.wrap ((IntKind.i64.wrap ((IntKind.i64.wrap ((laws_markAttrS (x1.s.1[x1.i]?.getD default).S.Attrs (IntKind.i64.wrap ((IntKind.i64.wrap ((IntKind.i64.wrap ((IntKind.i64.wrap ((IntKind.i64.wrap ((IntKind.i64.wrap ((IntKind.i64.wrap (x1.s.2 + 1)) + 1)) + 1)) + 1)) + 1)) + 1)) + 1))).1 + 1)) + 1)) + 1)) + 1)) + 1)) + 1)) + 1)) + 1)) + 1)) + 1)) (x1.s.1[x1.i]?.getD default).Res))) (by exact setMapS (by simp) (by first | rfl | (simp only [ha, Option.getD_some]; rfl) | (obtain ⟨_, rfl⟩ := List.getElem?_eq_some_iff.1 ha; rfl) | (simp only [Pol.cells_eq]; rfl) | (simp only [ha, Option.getD_some, Pol.cells_eq]; rfl))) ?_
    refine seqE ?_
    refine seqE ?_
    refine andE (by (first | omega | (simp (disch := omega) only [wrap_small, mid_eq, List.length_map]; omega) | (simp; done) | (simp; omega) | (simp at *; omega) | (simp at *; done) | (simp_all; done) | (simp_all; omega))) ?_
    refine rowsE (Y := List.map (Deed.cells true) (List.set x1.s.1 x1.i (Deed.mk x1.s.2 (IntKind.i64.wrap (x1.s.2 + 1)) (Span.mk (IntKind.i64.wrap ((IntKind.i64.wrap (x1.s.2 + 1)) + 1)) (IntKind.i64.wrap ((IntKind.i64.wrap ((IntKind.i64.wrap (x1.s.2 + 1)) + 1)) + 1)) (IntKind.i64.wrap ((IntKind.i64.wrap ((IntKind.i64.wrap ((IntKind.i64.wrap (x1.s.2 + 1)) + 1)) + 1)) + 1)) (IntKind.i64.wrap ((IntKind.i64.wrap ((IntKind.i64.wrap ((IntKind.i64.wrap ((IntKind.i64.wrap (x1.s.2 + 1)) + 1)) + 1)) + 1)) + 1)) ((Int.tmod (IntKind.i64.wrap ((IntKind.i64.wrap ((IntKind.i64.wrap ((IntKind.i64.wrap ((IntKind.i64.wrap ((IntKind.i64.wrap (x1.s.2 + 1)) + 1)) + 1)) + 1)) + 1)) + 1)) 3) == 0) (laws_markAttrS (x1.s.1[x1.i]?.getD default).S.Attrs (IntKind.i64.wrap ((IntKind.i64.wrap ((IntKind.i64.wrap ((IntKind.i64.wrap ((IntKind.i64.wrap ((IntKind.i64.wrap ((IntKind.i64.wrap (x1.s.2 + 1)) + 1)) + 1)) + 1)) + 1)) + 1)) + 1))).2) (laws_markAttrS (x1.s.1[x1.i]?.getD default).S.Attrs (IntKind.i64.wrap ((IntKind.i64.wrap ((IntKind.i64.wrap ((IntKind.i64.wrap ((IntKind.i64.wrap ((IntKind.i64.wrap ((IntKind.i64.wrap (x1.s.2 + 1)) + 1)) + 1)) + 1)) + 1)) + 1)) + 1))).1 (IntKind.i64.wrap ((laws_markAttrS (x1.s.1[x1.i]?.getD default).S.Attrs (IntKind.i64.wrap ((IntKind.i64.wrap ((IntKind.i64.wrap ((IntKind.i64.wrap ((IntKind.i64.wrap ((IntKind.i64.wrap ((IntKind.i64.wrap (x1.s.2 + 1)) + 1)) + 1)) + 1)) + 1)) + 1)) + 1))).1 + 1)) (IntKind.i64.wrap ((IntKind.i64.wrap ((laws_markAttrS (x1.s.1[x1.i]?.getD default).S.Attrs (IntKind.i64.wrap ((IntKind.i64.wrap ((IntKind.i64.wrap ((IntKind.i64.wrap ((IntKind.i64.wrap ((IntKind.i64.wrap ((IntKind.i64.wrap (x1.s.2 + 1)) + 1)) + 1)) + 1)) + 1)) + 1)) + 1))).1 + 1)) + 1)) ((Int.tmod (IntKind.i64.wrap ((IntKind.i64.wrap ((IntKind.i64.wrap ((laws_markAttrS (x1.s.1[x1.i]?.getD default).S.Attrs (IntKind.i64.wrap ((IntKind.i64.wrap ((IntKind.i64.wrap ((IntKind.i64.wrap ((IntKind.i64.wrap ((IntKind.i64.wrap ((IntKind.i64.wrap (x1.s.2 + 1)) + 1)) + 1)) + 1)) + 1)) + 1)) + 1))).1 + 1)) + 1)) + 1)) 3) == 0) ((Int.tmod (IntKind.i64.wrap ((IntKind.i64.wrap ((IntKind.i64.wrap ((IntKind.i64.wrap ((laws_markAttrS (x1.s.1[x1.i]?.getD default).S.Attrs (IntKind.i64.wrap ((IntKind.i64.wrap ((IntKind.i64.wrap ((IntKind.i64.wrap ((IntKind.i64.wrap ((IntKind.i64.wrap ((IntKind.i64.wrap (x1.s.2 + 1)) + 1)) + 1)) + 1)) + 1)) + 1)) + 1))).1 + 1)) + 1)) + 1)) + 1)) 3) == 0) (IntKind.i64.wrap ((IntKind.i64.wrap ((IntKind.i64.wrap ((IntKind.i64.wrap ((IntKind.i64.wrap ((laws_markAttrS (x1.s.1[x1.i]?.getD default).S.Attrs (IntKind.i64.wrap ((IntKind.i64.wrap ((IntKind.i64.wrap ((IntKind.i64.wrap ((IntKind.i64.wrap ((IntKind.i64.wrap ((IntKind.i64.wrap (x1.s.2 + 1)) + 1)) + 1)) + 1)) + 1)) + 1)) + 1))).1 + 1)) + 1)) + 1)) + 1)) + 1)) (IntKind.i64.wrap ((IntKind.i64.wrap ((IntKind.i64.wrap ((IntKind.i64.wrap ((IntKind.i64.wrap ((IntKind.i64.wrap ((laws_markAttrS (x1.s.1[x1.i]?.getD default).S.Attrs (IntKind.i64.wrap ((IntKind.i64.wrap ((IntKind.i64.wrap ((IntKind.i64.wrap ((IntKind.i64.wrap ((IntKind.i64.wrap ((IntKind.i64.wrap (x1.s.2 + 1)) + 1)) + 1)) + 1)) + 1)) + 1)) + 1))).1 + 1)) + 1)) + 1)) + 1)) + 1)) + 1)) (IntKind.i64.wrap ((IntKind.i64.wrap ((IntKind.i64.wrap ((IntKind.i64.wrap ((IntKind.i64.wrap ((IntKind.i64.wrap ((IntKind.i64.wrap ((laws_markAttrS (x1.s.1[x1.i]?.getD default).S.Attrs (IntKind.i64.wrap ((IntKind.i64.wrap ((IntKind.i64.wrap ((IntKind.i64.wrap ((IntKind.i64.wrap ((IntKind.i64.wrap ((IntKind.i64.wrap (x1.s.2 + 1)) + 1)) + 1)) + 1)) + 1)) + 1)) + 1))).1 + 1)) + 1)) + 1)) + 1)) + 1)) + 1)) + 1)) (IntKind.i64.wrap ((IntKind.i64.wrap ((IntKind.i64.wrap ((IntKind.i64.wrap ((IntKind.i64.wrap ((IntKind.i64.wrap ((IntKind.i64.wrap ((IntKind.i64.wrap ((laws_markAttrS (x1.s.1[x1.i]?.getD default).S.Attrs (IntKind.i64.wrap ((IntKind.i64.wrap ((IntKind.i64.wrap ((IntKind.i64.wrap ((IntKind.i64.wrap ((IntKind.i64.wrap ((IntKind.i64.wrap (x1.s.2 + 1)) + 1)) + 1)) + 1)) + 1)) + 1)) + 1))).1 + 1)) + 1)) + 1)) + 1)) + 1)) + 1)) + 1)) + 1)) (IntKind.i64.wrap ((IntKind.i64.wrap ((IntKind.i64.wrap ((IntKind.i64.wrap ((IntKind.i64.wrap ((IntKind.i64.wrap ((IntKind.i64.wrap ((IntKind.i64.wrap ((IntKind.i64.wrap ((laws_markAttrS (x1.s.1[x1.i]?.getD default).S.Attrs (IntKind.i64.wrap ((IntKind.i64.wrap ((IntKind.i64.wrap ((IntKind.i64.wrap ((IntKind.i64.wrap ((IntKind.i64.wrap ((IntKind.i64.wrap (x1.s.2 + 1)) + 1)) + 1)) + 1)) + 1)) + 1)) + 1))).1 + 1)) + 1)) + 1)) + 1)) + 1)) + 1)) + 1)) + 1)) + 1)) (IntKind.i64.wrap ((IntKind.i64.wrap ((IntKind.i64.wrap ((IntKind.i64.wrap ((IntKind.i64.wrap ((IntKind.i64.wrap ((IntKind.i64.wrap ((IntKind.i64.wrap ((IntKind.i64.wrap ((IntKind.i64.wrap ((laws_markAttrS (x1.s.1[x1.i]?.getD default).S.Attrs (IntKind.i64.wrap ((IntKind.i64.wrap ((IntKind.i64.wrap ((IntKind.i64.wrap ((IntKind.i64.wrap ((IntKind.i64.wrap ((IntKind.i64.wrap (x1.s.2 + 1)) + 1)) + 1)) + 1)) + 1)) + 1)) + 1))).1 + 1)) + 1)) + 1)) + 1)) + 1)) + 1)) + 1)) + 1)) + 1)) + 1)) (IntKind.i64.wrap ((IntKind.i64.wrap ((IntKind.i64.wrap ((IntKind.i64.wrap ((IntKind.i64.wrap ((IntKind.i64.wrap ((IntKind.i64.wrap ((IntKind.i64.wrap ((IntKind.i64.wrap ((IntKind.i64.wrap ((IntKind.i64.wrap ((laws_markAttrS (x1.s.1[x1.i]?.getD default).S.Attrs (IntKind.i64.wrap ((IntKind.i64.wrap ((IntKind.i64.wrap ((IntKind.i64.wrap ((IntKind.i64.wrap ((IntKind.i64.wrap ((IntKind.i64.wrap (x1.s.2 + 1)) + 1)) + 1)) + 1)) + 1)) + 1)) + 1))).1 + 1)) + 1)) + 1)) + 1)) + 1)) + 1)) + 1)) + 1)) + 1)) + 1)) + 1))))) (by exact setMapS (by simp) (by first | rfl | (simp only [ha, Option.getD_some]; rfl) | (obtain ⟨_, rfl⟩ := List.getElem?_eq_some_iff.1 ha; rfl) | (simp only [Pol.cells_eq]; rfl) | (simp only [ha, Option.getD_some, Pol.cells_eq]; rfl))) ?_
    exact x1.goE hi1 hb1 (by simpa using x1.hI) [none, some 1] ⟨rfl, ⟨rfl, (eqInt hw1), ⟨rfl, rfl, rfl, rfl, by (first | rfl | omega | (dsimp only; omega) | (simp; done) | (simp; omega) | (simp [LstSt.init, LstSt.step, LstInv.init, CntSt.init, CntSt.step, CntInv.init, WhlSt.init, WhlSt.step]; done) | (simp [LstSt.init, LstSt.step, LstInv.init, CntSt.init, CntSt.step, CntInv.init, WhlSt.init, WhlSt.step]; omega))⟩, trivial⟩, ⟨⟨rfl, rfl, rfl⟩, trivial⟩, ⟨⟨rfl, rfl, rfl, rfl, by (first | rfl | omega | (dsimp only; omega) | (simp; done) | (simp; omega) | (simp [LstSt.init, LstSt.step, LstInv.init, CntSt.init, CntSt.step, CntInv.init, WhlSt.init, WhlSt.step]; done) | (simp [LstSt.init, LstSt.step, LstInv.init, CntSt.init, CntSt.step, CntInv.init, WhlSt.init, WhlSt.step]; omega))⟩, trivial⟩⟩
  have hg := finE hg (x1.fin hi1)
  refine seqE ?_
  exact leafM hown hg
def laws_markSpanS_b1 (i1 : Nat) (s1 : (List Span) × Int) (a1 : Span) : Step ((List Span) × Int) (Int × (List Span)) :=
  (.next ((List.set s1.1 i1 (Span.mk s1.2 (IntKind.i64.wrap (s1.2 + 1)) (IntKind.i64.wrap ((IntKind.i64.wrap (s1.2 + 1)) + 1)) (IntKind.i64.wrap ((IntKind.i64.wrap ((IntKind.i64.wrap (s1.2 + 1)) + 1)) + 1)) ((Int.tmod (IntKind.i64.wrap ((IntKind.i64.wrap ((IntKind.i64.wrap ((IntKind.i64.wrap (s1.2 + 1)) + 1)) + 1)) + 1)) 3) == 0) (laws_markAttrS (s1.1[i1]?.getD default).Attrs (IntKind.i64.wrap ((IntKind.i64.wrap ((IntKind.i64.wrap ((IntKind.i64.wrap ((IntKind.i64.wrap (s1.2 + 1)) + 1)) + 1)) + 1)) + 1))).2)), (laws_markAttrS (s1.1[i1]?.getD default).Attrs (IntKind.i64.wrap ((IntKind.i64.wrap ((IntKind.i64.wrap ((IntKind.i64.wrap ((IntKind.i64.wrap (s1.2 + 1)) + 1)) + 1)) + 1)) + 1))).1))
def laws_markSpanS (p0 : (List Span)) (p1 : Int) : (Int × (List Span)) :=
  (Fin.get (fun s1 => (s1.2, s1.1)) (loopL laws_markSpanS_b1 0 (p0, p1) p0))
theorem c_laws_markSpanS (p0 : (List Span)) (p1 : Int) : FnOk prog 45 [.tup [.one (.s true 6 (List.map (Span.cells true) p0))], .one (.v (.int .i64 p1))] ⟨.one (.v (.int .i64 (laws_markSpanS p0 p1).1)), [.one (.s true 6 (List.map (Span.cells true) ((laws_markSpanS p0 p1).2)))], [], false⟩ := by
  refine FnOk.introM (E := env) envOk wide func45 rfl (by kernel_rfl) rfl ?_
  have hg := laws_markSpanS.eq_1 p0 p1
  have hown : (∀ g : (Int × (List Span)), AV.Own (AV.one (.v (.int .i64 g.1)))) ∧ (fun g : (Int × (List Span)) => T.s true 6 (List.map (Span.cells true) (g.2))) = _ := ⟨fun g => .v _, rfl⟩
  refine seqE ?_
  refine seqE ?_
  refine seqE ?_
  refine loopLI (fun _ s => (s.1).length = (p0).length) hg (by simp) [0] (fun x1 => [(1, .one (.v (.int .i64 x1.s.2))), (5, .one (.v (.int .i64 ((x1.i : Nat) : Int))))]) (fun x1 => [.dead, .new ⟨6, false, List.map (Span.cells true) x1.s.1, 0⟩]) [none, some 1] ?_ (fun x1 => ?_)
  · exact ⟨rfl, ⟨rfl, rfl, ⟨rfl, rfl, rfl, rfl, by (first | rfl | omega | (dsimp only; omega) | (simp; done) | (simp; omega) | (simp [LstSt.init, LstSt.step, LstInv.init, CntSt.init, CntSt.step, CntInv.init, WhlSt.init, WhlSt.step]; done) | (simp [LstSt.init, LstSt.step, LstInv.init, CntSt.init, CntSt.step, CntInv.init, WhlSt.init, WhlSt.step]; omega))⟩, trivial⟩, ⟨⟨rfl, rfl, rfl⟩, trivial⟩, ⟨⟨rfl, rfl, rfl, rfl, by (first | rfl | omega | (dsimp only; omega) | (simp; done) | (simp; omega) | (simp [LstSt.init, LstSt.step, LstInv.init, CntSt.init, CntSt.step, CntInv.init, WhlSt.init, WhlSt.step]; done) | (simp [LstSt.init, LstSt.step, LstInv.init, CntSt.init, CntSt.step, CntInv.init, WhlSt.init, WhlSt.step]; omega))⟩, trivial⟩⟩
  have hI1 : (x1.s.1).length = (p0).length := by simpa using x1.hI
  refine seqE ?_
  refine seqE ?_
  refine lenE (k := (p0).length) (by simp) (fun hN1 => ?_)
  refine tstL (fun hi1 => ?_) (fun hi1 => ?_)
  · have hb1 := (x1.bdy hi1).trans (laws_markSpanS_b1.eq_1 ..)
    have hw1 := wrap_succ hi1 (by first | assumption | omega)
    refine seqE ?_
    refine seqE ?_
    refine andE (by (first | omega | (simp (disch := omega) only [wrap_small, mid_eq, List.length_map]; omega) | (simp; done) | (simp; omega) | (simp at *; omega) | (simp at *; done) | (simp_all; done) | (simp_all; omega))) ?_
    refine rowsE (Y := List.map (Span.cells true) (List.set x1.s.1 x1.i (Span.mk x1.s.2 (x1.s.1[x1.i]?.getD default).Id (x1.s.1[x1.i]?.getD default).Start (x1.s.1[x1.i]?.getD default).End (x1.s.1[x1.i]?.getD default).Err (x1.s.1[x1.i]?.getD default).Attrs))) (by exact setMapE (by simp) (fun a ha => by first | rfl | (simp only [ha, Option.getD_some]; rfl) | (obtain ⟨_, rfl⟩ := List.getElem?_eq_some_iff.1 ha; rfl) | (simp only [Pol.cells_eq]; rfl) | (simp only [ha, Option.getD_some, Pol.cells_eq]; rfl))) ?_
    refine seqE ?_
    refine seqE ?_
    refine andE (by (first | omega | (simp (disch := omega) only [wrap_small, mid_eq, List.length_map]; omega) | (simp; done) | (simp; omega) | (simp at *; omega) | (simp at *; done) | (simp_all; done) | (simp_all; omega))) ?_
    refine rowsE (Y := List.map (Span.cells true) (List.set x1.s.1 x1.i (Span.mk x1.s.2 (IntKind.i64.wrap (x1.s.2 + 1)) (x1.s.1[x1.i]?.getD default).Start (x1.s.1[x1.i]?.getD default).End (x1.s.1[x1.i]?.getD default).Err (x1.s.1[x1.i]?.getD default).Attrs))) (by exact setMapS (by simp) (by first | rfl | (simp only [ha, Option.getD_some]; rfl) | (obtain ⟨_, rfl⟩ := List.getElem?_eq_some_iff.1 ha; rfl) | (simp only [Pol.cells_eq]; rfl) | (simp only [ha, Option.getD_some, Pol.cells_eq]; rfl))) ?_
    refine seqE ?_
    refine seqE ?_
    refine andE (by (first | omega | (simp (disch := omega) only [wrap_small, mid_eq, List.length_map]; omega) | (simp; done) | (simp; omega) | (simp at *; omega) | (simp at *; done) | (simp_all; done) | (simp_all; omega))) ?_
    refine rowsE (Y := List.map (Span.cells true) (List.set x1.s.1 x1.i (Span.mk x1.s.2 (IntKind.i64.wrap (x1.s.2 + 1)) (IntKind.i64.wrap ((IntKind.i64.wrap (x1.s.2 + 1)) + 1)) (x1.s.1[x1.i]?.getD default).End (x1.s.1[x1.i]?.getD default).Err (x1.s.1[x1.i]?.getD default).Attrs))) (by exact setMapS (by simp) (by first | rfl | (simp only [ha, Option.getD_some]; rfl) | (obtain ⟨_, rfl⟩ := List.getElem?_eq_some_iff.1 ha; rfl) | (simp only [Pol.cells_eq]; rfl) | (simp only [ha, Option.getD_some, Pol.cells_eq]; rfl))) ?_
    refine seqE ?_
    refine seqE ?_
    refine andE (by (first | omega | (simp (disch := omega) only [wrap_small, mid_eq, List.length_map]; omega) | (simp; done) | (simp; omega) | (simp at *; omega) | (simp at *; done) | (simp_all; done) | (simp_all; omega))) ?_
    refine rowsE (Y := List.map (Span.cells true) (List.set x1.s.1 x1.i (Span.mk x1.s.2 (IntKind.i64.wrap (x1.s.2 + 1)) (IntKind.i64.wrap ((IntKind.i64.wrap (x1.s.2 + 1)) + 1)) (IntKind.i64.wrap ((IntKind.i64.wrap ((IntKind.i64.wrap (x1.s.2 + 1)) + 1)) + 1)) (x1.s.1[x1.i]?.getD default).Err (x1.s.1[x1.i]?.getD default).Attrs))) (by exact setMapS (by simp) (by first | rfl | (simp only [ha, Option.getD_some]; rfl) | (obtain ⟨_, rfl⟩ := List.getElem?_eq_some_iff.1 ha; rfl) | (simp only [Pol.cells_eq]; rfl) | (simp only [ha, Option.getD_some, Pol.cells_eq]; rfl))) ?_
    refine seqE ?_
    refine seqE ?_
    refine andE (by (first | omega | (simp (disch := omega) only [wrap_small, mid_eq, List.length_map]; omega) | (simp; done) | (simp; omega) | (simp at *; omega) | (simp at *; done) | (simp_all; done) | (simp_all; omega))) ?_
    refine andE (by (first | omega | (simp (disch := omega) only [wrap_small, mid_eq, List.length_map]; omega) | (simp; done) | (simp; omega) | (simp at *; omega) | (simp at *; done) | (simp_all; done) | (simp_all; omega))) ?_
    refine rowsE (Y := List.map (Span.cells true) (List.set x1.s.1 x1.i (Span.mk x1.s.2 (IntKind.i64.wrap (x1.s.2 + 1)) (IntKind.i64.wrap ((IntKind.i64.wrap (x1.s.2 + 1)) + 1)) (IntKind.i64.wrap ((IntKind.i64.wrap ((IntKind.i64.wrap (x1.s.2 + 1)) + 1)) + 1)) ((Int.tmod (IntKind.i64.wrap ((IntKind.i64.wrap ((IntKind.i64.wrap ((IntKind.i64.wrap (x1.s.2 + 1)) + 1)) + 1)) + 1)) 3) == 0) (x1.s.1[x1.i]?.getD default).Attrs))) (by exact setMapS (by simp) (by first | rfl | (simp only [ha, Option.getD_some]; rfl) | (obtain ⟨_, rfl⟩ := List.getElem?_eq_some_iff.1 ha; rfl) | (simp only [Pol.cells_eq]; rfl) | (simp only [ha, Option.getD_some, Pol.cells_eq]; rfl))) ?_
    refine seqE ?_
    refine andE (by (first | omega | (simp (disch := omega) only [wrap_small, mid_eq, List.length_map]; omega) | (simp; done) | (simp; omega) | (simp at *; omega) | (simp at *; done) | (simp_all; done) | (simp_all; omega))) ?_
    refine rowSetE (i := x1.i) (l := x1.s.1) (x := (Span.mk x1.s.2 (IntKind.i64.wrap (x1.s.2 + 1)) (IntKind.i64.wrap ((IntKind.i64.wrap (x1.s.2 + 1)) + 1)) (IntKind.i64.wrap ((IntKind.i64.wrap ((IntKind.i64.wrap (x1.s.2 + 1)) + 1)) + 1)) ((Int.tmod (IntKind.i64.wrap ((IntKind.i64.wrap ((IntKind.i64.wrap ((IntKind.i64.wrap (x1.s.2 + 1)) + 1)) + 1)) + 1)) 3) == 0) (x1.s.1[x1.i]?.getD default).Attrs)) (by first | rfl | exact Nat.zero_add _ | simp) (fun _ => ?_)
    refine .inr ⟨0, ?_⟩
    refine rowSetE (i := x1.i) (l := x1.s.1) (x := (Span.mk x1.s.2 (IntKind.i64.wrap (x1.s.2 + 1)) (IntKind.i64.wrap ((IntKind.i64.wrap (x1.s.2 + 1)) + 1)) (IntKind.i64.wrap ((IntKind.i64.wrap ((IntKind.i64.wrap (x1.s.2 + 1)) + 1)) + 1)) ((Int.tmod (IntKind.i64.wrap ((IntKind.i64.wrap ((IntKind.i64.wrap ((IntKind.i64.wrap (x1.s.2 + 1)) + 1)) + 1)) + 1)) 3) == 0) (x1.s.1[x1.i]?.getD default).Attrs)) (by first | rfl | exact Nat.zero_add _ | simp) (fun _ => ?_)
    refine ⟨_, _, _, c_laws_markAttrS (x1.s.1[x1.i]?.getD default).Attrs (IntKind.i64.wrap ((IntKind.i64.wrap ((IntKind.i64.wrap ((IntKind.i64.wrap ((IntKind.i64.wrap (x1.s.2 + 1)) + 1)) + 1)) + 1)) + 1)), (FzAs.same _), .inl ?_⟩
    refine rowsE (Y := List.map (Span.cells true) (List.set x1.s.1 x1.i (Span.mk x1.s.2 (IntKind.i64.wrap (x1.s.2 + 1)) (IntKind.i64.wrap ((IntKind.i64.wrap (x1.s.2 + 1)) + 1)) (IntKind.i64.wrap ((IntKind.i64.wrap ((IntKind.i64.wrap (x1.s.2 + 1)) + 1)) + 1)) ((Int.tmod (IntKind.i64.wrap ((IntKind.i64.wrap ((IntKind.i64.wrap ((IntKind.i64.wrap (x1.s.2 + 1)) + 1)) + 1)) + 1)) 3) == 0) (laws_markAttrS (x1.s.1[x1.i]?.getD default).Attrs (IntKind.i64.wrap ((IntKind.i64.wrap ((IntKind.i64.wrap ((IntKind.i64.wrap ((IntKind.i64.wrap (x1.s.2 + 1)) + 1)) + 1)) + 1)) + 1))).2))) (by exact setMapS (by simp) (by first | rfl | (simp only [ha, Option.getD_some]; rfl) | (obtain ⟨_, rfl⟩ := List.getElem?_eq_some_iff.1 ha; rfl) | (simp only [Pol.cells_eq]; rfl) | (simp only [ha, Option.getD_some, Pol.cells_eq]; rfl))) ?_
    refine litE (m := 3) rfl ?_
    exact x1.goE hi1 hb1 (by simpa using x1.hI) [none, some 1] ⟨rfl, ⟨rfl, (eqInt hw1), ⟨rfl, rfl, rfl, rfl, by (first | rfl | omega | (dsimp only; omega) | (simp; done) | (simp; omega) | (simp [LstSt.init, LstSt.step, LstInv.init, CntSt.init, CntSt.step, CntInv.init, WhlSt.init, WhlSt.step]; done) | (simp [LstSt.init, LstSt.step, LstInv.init, CntSt.init, CntSt.step, CntInv.init, WhlSt.init, WhlSt.step]; omega))⟩, trivial⟩, ⟨⟨rfl, rfl, rfl⟩, trivial⟩, ⟨⟨rfl, rfl, rfl, rfl, by (first | rfl | omega | (dsimp only; omega) | (simp; done) | (simp; omega) | (simp [LstSt.init, LstSt.step, LstInv.init, CntSt.init, CntSt.step, CntInv.init, WhlSt.init, WhlSt.step]; done) | (simp [LstSt.init, LstSt.step, LstInv.init, CntSt.init, CntSt.step, CntInv.init, WhlSt.init, WhlSt.step]; omega))⟩, trivial⟩⟩
  have hg := finE hg (x1.fin hi1)
  refine seqE ?_
  exact leafM hown hg
def laws_heldAttrS_b1 (i1 : Nat) (s1 : Int) (a1 : Attr) : Step (Int) Int :=
  (bif (!decide (a1.Key = (laws_markText s1))) then (.done (-1)) else (bif (!(a1.Num == ((Int.tmod (IntKind.i64.wrap (s1 + 1)) 3) == 0))) then (.done (-1)) else (bif (a1.N != (IntKind.i64.wrap ((IntKind.i64.wrap (s1 + 1)) + 1))) then (.done (-1)) else (bif (!decide (a1.Text = (laws_markText (IntKind.i64.wrap ((IntKind.i64.wrap ((IntKind.i64.wrap (s1 + 1)) + 1)) + 1))))) then (.done (-1)) else (.next (IntKind.i64.wrap ((IntKind.i64.wrap ((IntKind.i64.wrap ((IntKind.i64.wrap (s1 + 1)) + 1)) + 1)) + 1)))))))
def laws_heldAttrS (p0 : (List Attr)) (p1 : Int) : Int :=
  (Fin.get (fun s1 => s1) (loopL laws_heldAttrS_b1 0 p1 p0))
theorem c_laws_heldAttrS (p0 : (List Attr)) (p1 : Int) : FnOk prog 116 [.one (.s false 4 (List.map Attr.cells p0)), .one (.v (.int .i64 p1))] ⟨.one (.v (.int .i64 (laws_heldAttrS p0 p1))), [], [], false⟩ := by
  refine FnOk.intro (E := env) envOk wide func116 rfl (by kernel_rfl) rfl rfl ?_
  have hg := laws_heldAttrS.eq_1 p0 p1
  have hown : ∀ g : Int, AV.Own (AV.one (.v (.int .i64 g))) := fun g => .v _
  refine seqE ?_
  refine seqE ?_
  refine seqE ?_
  refine loopLE hg [0] (fun x1 => [(1, .one (.v (.int .i64 x1.s))), (5, .one (.v (.int .i64 ((x1.i : Nat) : Int))))]) (fun x1 => []) [] ?_ (fun x1 => ?_)
  · exact ⟨rfl, ⟨rfl, rfl, rfl, trivial⟩, trivial, trivial⟩
  refine seqE ?_
  refine seqE ?_
  refine lenM fun hN1 => ?_
  refine tstL (fun hi1 => ?_) (fun hi1 => ?_)
  · have hb1 := (x1.bdy hi1).trans (laws_heldAttrS_b1.eq_1 ..)
    have hw1 := wrap_succ hi1 (by first | assumption | omega)
    refine seqE ?_
    refine seqE ?_
    refine seqE ?_
    refine .inl ⟨by kernel_rfl, ?_⟩
    refine idxAt hi1 ?_
    refine ⟨_, _, c_laws_markText x1.s, (FzAs.same _), ?_⟩
    refine brE hb1 (fun hb1 h2 => ?_) (fun hb1 h2 => ?_)
    · refine seqE ?_
      have hg := donE hg (x1.outD hi1 hb1)
      exact leafE hown hg
    · refine seqE ?_
      refine seqE ?_
      refine seqE ?_
      refine idxAt hi1 ?_
      refine andE (by (first | omega | (simp (disch := omega) only [wrap_small, mid_eq, List.length_map]; omega) | (simp; done) | (simp; omega) | (simp at *; omega) | (simp at *; done) | (simp_all; done) | (simp_all; omega))) ?_
      refine brE hb1 (fun hb1 h3 => ?_) (fun hb1 h3 => ?_)
      · refine seqE ?_
        have hg := donE hg (x1.outD hi1 hb1)
        exact leafE hown hg
      · refine seqE ?_
        refine seqE ?_
        refine seqE ?_
        refine idxAt hi1 ?_
        refine brW hb1 (fun hb1 h4 => ?_) (fun hb1 h4 => ?_)
        · refine seqE ?_
          have hg := donE hg (x1.outD hi1 hb1)
          exact leafE hown hg
        · refine seqE ?_
          refine seqE ?_
          refine seqE ?_
          refine .inl ⟨by kernel_rfl, ?_⟩
          refine idxAt hi1 ?_
          refine ⟨_, _, c_laws_markText (IntKind.i64.wrap ((IntKind.i64.wrap ((IntKind.i64.wrap (x1.s + 1)) + 1)) + 1)), (FzAs.same _), ?_⟩
          refine brE hb1 (fun hb1 h5 => ?_) (fun hb1 h5 => x1.goE hi1 hb1 [] ⟨rfl, ⟨rfl, (eqInt hw1), rfl, trivial⟩, trivial, trivial⟩)
          refine seqE ?_
          have hg := donE hg (x1.outD hi1 hb1)
          exact leafE hown hg
  have hg := finE hg (x1.fin hi1)
  refine seqE ?_
  exact leafE hown hg
def laws_heldSpanS_b1 (i1 : Nat) (s1 : Int) (a1 : Span) : Step (Int) Int :=
  (bif (a1.Trace != s1) then (.done (-1)) else (bif (a1.Id != (IntKind.i64.wrap (s1 + 1))) then (.done (-1)) else (bif (a1.Start != (IntKind.i64.wrap ((IntKind.i64.wrap (s1 + 1)) + 1))) then (.done (-1)) else (bif (a1.End != (IntKind.i64.wrap ((IntKind.i64.wrap ((IntKind.i64.wrap (s1 + 1)) + 1)) + 1))) then (.done (-1)) else (bif (!(a1.Err == ((Int.tmod (IntKind.i64.wrap ((IntKind.i64.wrap ((IntKind.i64.wrap ((IntKind.i64.wrap (s1 + 1)) + 1)) + 1)) + 1)) 3) == 0))) then (.done (-1)) else (bif (decide ((laws_heldAttrS a1.Attrs (IntKind.i64.wrap ((IntKind.i64.wrap ((IntKind.i64.wrap ((IntKind.i64.wrap ((IntKind.i64.wrap (s1 + 1)) + 1)) + 1)) + 1)) + 1))) < 0)) then (.done (-1)) else (.next (laws_heldAttrS a1.Attrs (IntKind.i64.wrap ((IntKind.i64.wrap ((IntKind.i64.wrap ((IntKind.i64.wrap ((IntKind.i64.wrap (s1 + 1)) + 1)) + 1)) + 1)) + 1))))))))))
def laws_heldSpanS (p0 : (List Span)) (p1 : Int) : Int :=
  (Fin.get (fun s1 => s1) (loopL laws_heldSpanS_b1 0 p1 p0))
theorem c_laws_heldSpanS (p0 : (List Span)) (p1 : Int) : FnOk prog 46 [.one (.s false 6 (List.map (Span.cells false) p0)), .one (.v (.int .i64 p1))] ⟨.one (.v (.int .i64 (laws_heldSpanS p0 p1))), [], [], false⟩ := by
  refine FnOk.intro (E := env) envOk wide func46 rfl (by kernel_rfl) rfl rfl ?_
  have hg := laws_heldSpanS.eq_1 p0 p1
  have hown : ∀ g : Int, AV.Own (AV.one (.v (.int .i64 g))) := fun g => .v _
  refine seqE ?_
  refine seqE ?_
  refine seqE ?_
  refine loopLE hg [0] (fun x1 => [(1, .one (.v (.int .i64 x1.s))), (5, .one (.v (.int .i64 ((x1.i : Nat) : Int))))]) (fun x1 => []) [] ?_ (fun x1 => ?_)
  · exact ⟨rfl, ⟨rfl, rfl, rfl, trivial⟩, trivial, trivial⟩
  refine seqE ?_
  refine seqE ?_
  refine lenM fun hN1 => ?_
  refine tstL (fun hi1 => ?_) (fun hi1 => ?_)
  · have hb1 := (x1.bdy hi1).trans (laws_heldSpanS_b1.eq_1 ..)
    have hw1 := wrap_succ hi1 (by first | assumption | omega)
    refine seqE ?_
    refine seqE ?_
    refine seqE ?_
    refine idxAt hi1 ?_
    refine brW hb1 (fun hb1 h2 => ?_) (fun hb1 h2 => ?_)
    · refine seqE ?_
      have hg := donE hg (x1.outD hi1 hb1)
      exact leafE hown hg
    · refine seqE ?_
      refine seqE ?_
      refine seqE ?_
      refine idxAt hi1 ?_
      refine brW hb1 (fun hb1 h3 => ?_) (fun hb1 h3 => ?_)
      · refine seqE ?_
        have hg := donE hg (x1.outD hi1 hb1)
        exact leafE hown hg
      · refine seqE ?_
        refine seqE ?_
        refine seqE ?_
        refine idxAt hi1 ?_
        refine brW hb1 (fun hb1 h4 => ?_) (fun hb1 h4 => ?_)
        · refine seqE ?_
          have hg := donE hg (x1.outD hi1 hb1)
          exact leafE hown hg
        · refine seqE ?_
          refine seqE ?_
          refine seqE ?_
          refine idxAt hi1 ?_
          refine brW hb1 (fun hb1 h5 => ?_) (fun hb1 h5 => ?_)
          · refine seqE ?_
            have hg := donE hg (x1.outD hi1 hb1)
            exact leafE hown hg
          · refine seqE ?_
            refine seqE ?_
            refine seqE ?_
            refine idxAt hi1 ?_
            refine andE (by (first | omega | (simp (disch := omega) only [wrap_small, mid_eq, List.length_map]; omega) | (simp; done) | (simp; omega) | (simp at *; omega) | (simp at *; done) | (simp_all; done) | (simp_all; omega))) ?_
            refine brE hb1 (fun hb1 h6 => ?_) (fun hb1 h6 => ?_)
            · refine seqE ?_
              have hg := donE hg (x1.outD hi1 hb1)
              exact leafE hown hg
            · refine seqE ?_
              refine seqE ?_
              refine idxAt hi1 ?_
              refine .inl (⟨_, _, c_laws_heldAttrS (p0[x1.i]'hi1).Attrs (IntKind.i64.wrap ((IntKind.i64.wrap ((IntKind.i64.wrap ((IntKind.i64.wrap ((IntKind.i64.wrap (x1.s + 1)) + 1)) + 1)) + 1)) + 1)), (FzAs.same _), ?_⟩)
              refine litE (m := 1) rfl ?_
              refine seqE ?_
              refine brD hb1 (fun hb1 h7 => ?_) (fun hb1 h7 => x1.goE hi1 hb1 [] ⟨rfl, ⟨rfl, (eqInt hw1), rfl, trivial⟩, trivial, trivial⟩)
              refine seqE ?_
              have hg := donE hg (x1.outD hi1 hb1)
              exact leafE hown hg
  have hg := finE hg (x1.fin hi1)
  refine seqE ?_
  exact leafE hown hg
def laws_FnExactAccepted (p0 : (List Deed)) (p1 : Int) : Bool :=
  (bif (decide ((laws_szDeedS p0 1048576) < 0)) then true else (bif (!(laws_eqSpanS (impl_Accepted (laws_toDeedS p0) p1) (spec_Accepted (laws_toDeedS p0) p1))) then false else (bif (!(laws_eqDeedS (laws_toDeedS p0) (laws_toDeedS p0))) then false else (bif (decide ((laws_markDeedS (laws_toDeedS p0) 1).1 < 0)) then false else (bif (!(laws_eqSpanS (impl_Accepted (laws_toDeedS p0) p1) (spec_Accepted (laws_toDeedS p0) p1))) then false else (bif (decide ((laws_heldSpanS (laws_markSpanS (impl_Accepted (laws_toDeedS p0) p1) 1).2 1) < 0)) then false else (bif ((laws_heldSpanS (laws_markSpanS (impl_Accepted (laws_toDeedS p0) p1) 1).2 1) != (laws_markSpanS (impl_Accepted (laws_toDeedS p0) p1) 1).1) then false else (bif (!(laws_eqSpanS (impl_Accepted (laws_toDeedS p0) p1) (spec_Accepted (laws_toDeedS p0) p1))) then false else (bif (decide ((laws_heldSpanS (laws_markSpanS (impl_Accepted (laws_toDeedS p0) p1) 1).2 1) < 0)) then false else (bif ((laws_heldSpanS (laws_markSpanS (impl_Accepted (laws_toDeedS p0) p1) 1).2 1) != (laws_markSpanS (impl_Accepted (laws_toDeedS p0) p1) 1).1) then false else true))))))))))
theorem c_laws_FnExactAccepted (p0 : (List Deed)) (p1 : Int) (hw0 : bdS Deed.bd 9223372036854775807 p0) : FnOk prog 9 [.one (.s false 20 (List.map (Deed.cells false) p0)), .one (.v (.int .i64 p1))] ⟨.one (.v (.bool (laws_FnExactAccepted p0 p1))), [], [], false⟩ := by
  refine FnOk.intro (E := env) envOk wide func9 rfl (by kernel_rfl) rfl rfl ?_
  have hg := laws_FnExactAccepted.eq_1 p0 p1
  have hown : ∀ g : Bool, AV.Own (AV.one (.v (.bool g))) := fun g => .v _
  refine seqE ?_
  refine seqE ?_
  refine seqE ?_
  refine .inl (⟨_, _, c_laws_szDeedS p0 1048576, (FzAs.same _), ?_⟩)
  refine litE (m := 1) rfl ?_
  refine seqE ?_
  refine seqE ?_
  refine brD hg (fun hg h1 => ?_) (fun hg h1 => ?_)
  · refine seqE ?_
    exact leafE hown hg
  have hz1 := szd_laws_szDeedS p0 1048576 (by assumption) (by decide) (by decide) (Int.not_lt.1 h1)
  have hs1 := hz1.1
  have hl1 : (laws_szDeedS p0 1048576) ≤ 1048576 := Int.le_trans hz1.2 (by decide)
  refine seqE ?_
  refine .inl (⟨_, _, c_laws_toDeedS p0 (by first | assumption | (simp only [id_laws_toDeedS]; assumption)), (FzAs.same _), ?_⟩)
  refine litE (m := 2) rfl ?_
  refine .inl (⟨_, _, c_spec_Accepted (laws_toDeedS p0) p1 (by first | assumption | (simp only [id_laws_toDeedS]; assumption)), (.cons (.one (.sl _ _ _ _ (frzMap frz_Deed _))) (.same _)), ?_⟩)
  refine litE (m := 4) rfl ?_
  refine seqE ?_
  refine .inl (⟨_, _, c_laws_toDeedS p0 (by first | assumption | (simp only [id_laws_toDeedS]; assumption)), (FzAs.same _), ?_⟩)
  refine litE (m := 6) rfl ?_
  refine seqE ?_
  refine .inl (⟨_, _, c_impl_Accepted (laws_toDeedS p0) p1 (by first | assumption | (simp only [id_laws_toDeedS]; assumption)), (.cons (.one (.sl _ _ _ _ (frzMap frz_Deed _))) (.same _)), ?_⟩)
  refine litE (m := 8) rfl ?_
  refine seqE ?_
  refine seqE ?_
  refine .inl (⟨_, _, c_laws_eqSpanS (impl_Accepted (laws_toDeedS p0) p1) (spec_Accepted (laws_toDeedS p0) p1), (.cons (.one (.sl _ _ _ _ (frzMap frz_Span _))) (.cons (.one (.sl _ _ _ _ (frzMap frz_Span _))) (.same _))), ?_⟩)
  refine litE (m := 10) rfl ?_
  refine brE hg (fun hg h2 => ?_) (fun hg h2 => ?_)
  · refine seqE ?_
    exact leafE hown hg
  · refine seqE ?_
    refine seqE ?_
    refine .inl (⟨_, _, c_laws_toDeedS p0 (by first | assumption | (simp only [id_laws_toDeedS]; assumption)), (FzAs.same _), ?_⟩)
    refine litE (m := 11) rfl ?_
    refine .inl (⟨_, _, c_laws_eqDeedS (laws_toDeedS p0) (laws_toDeedS p0), (.cons (.one (.sl _ _ _ _ (frzMap frz_Deed _))) (.cons (.one (.sl _ _ _ _ (frzMap frz_Deed _))) (.same _))), ?_⟩)
    refine litE (m := 13) rfl ?_
    refine brE hg (fun hg h3 => ?_) (fun hg h3 => ?_)
    · refine seqE ?_
      exact leafE hown hg
    · refine seqE ?_
      refine seqE ?_
      refine .inr ⟨0, _, _, _, c_laws_markDeedS (laws_toDeedS p0) 1, (FzAs.same _), .inl ?_⟩
      refine litE (m := 14) rfl ?_
      refine seqE ?_
      refine seqE ?_
      refine brDF hg (fun hg h4 => ?_) (fun hg h4 => ?_)
      · refine .inl (⟨_, _, c_laws_eqSpanS (impl_Accepted (laws_toDeedS p0) p1) (spec_Accepted (laws_toDeedS p0) p1), (.cons (.one (.sl _ _ _ _ (frzMap frz_Span _))) (.cons (.one (.sl _ _ _ _ (frzMap frz_Span _))) (.same _))), ?_⟩)
        refine litE (m := 15) rfl ?_
        refine brE hg (fun hg h5 => ?_) (fun hg h5 => ?_)
        · refine seqE ?_
          exact leafE hown hg
        · refine seqE ?_
          refine seqE ?_
          refine .inr ⟨0, _, _, _, c_laws_markSpanS (impl_Accepted (laws_toDeedS p0) p1) 1, (FzAs.same _), .inl ?_⟩
          refine litE (m := 16) rfl ?_
          refine seqE ?_
          refine seqE ?_
          refine .inl (⟨_, _, c_laws_heldSpanS (laws_markSpanS (impl_Accepted (laws_toDeedS p0) p1) 1).2 1, (.cons (.one (.sl _ _ _ _ (frzMap frz_Span _))) (.same _)), ?_⟩)
          refine litE (m := 17) rfl ?_
          refine seqE ?_
          refine seqE ?_
          refine brD hg (fun hg h6 => ?_) (fun hg h6 => ?_)
          · refine seqE ?_
            exact leafE hown hg
          · refine seqE ?_
            refine seqE ?_
            refine brW hg (fun hg h7 => ?_) (fun hg h7 => ?_)
            · refine seqE ?_
              exact leafE hown hg
            · refine seqE ?_
              refine .inl (⟨_, _, c_laws_toDeedS p0 (by first | assumption | (simp only [id_laws_toDeedS]; assumption)), (FzAs.same _), ?_⟩)
              refine litE (m := 18) rfl ?_
              refine .inl (⟨_, _, c_impl_Accepted (laws_toDeedS p0) p1 (by first | assumption | (simp only [id_laws_toDeedS]; assumption)), (.cons (.one (.sl _ _ _ _ (frzMap frz_Deed _))) (.same _)), ?_⟩)
              refine litE (m := 20) rfl ?_
              refine seqE ?_
              refine seqE ?_
              refine .inl (⟨_, _, c_laws_eqSpanS (impl_Accepted (laws_toDeedS p0) p1) (spec_Accepted (laws_toDeedS p0) p1), (.cons (.one (.sl _ _ _ _ (frzMap frz_Span _))) (.cons (.one (.sl _ _ _ _ (frzMap frz_Span _))) (.same _))), ?_⟩)
              refine litE (m := 22) rfl ?_
              refine brE hg (fun hg h8 => ?_) (fun hg h8 => ?_)
              · refine seqE ?_
                exact leafE hown hg
              · refine seqE ?_
                refine seqE ?_
                refine .inl (⟨_, _, c_laws_heldSpanS (laws_markSpanS (impl_Accepted (laws_toDeedS p0) p1) 1).2 1, (.cons (.one (.sl _ _ _ _ (frzMap frz_Span _))) (.same _)), ?_⟩)
                refine litE (m := 23) rfl ?_
                refine seqE ?_
                refine seqE ?_
                refine brD hg (fun hg h9 => ?_) (fun hg h9 => ?_)
                · refine seqE ?_
                  exact leafE hown hg
                · refine seqE ?_
                  refine seqE ?_
                  refine brW hg (fun hg h10 => ?_) (fun hg h10 => ?_)
                  · refine seqE ?_
                    exact leafE hown hg
                  · refine seqE ?_
                    exact leafE hown hg
      · refine seqE ?_
        exact leafE hown hg
def mAttr (_ : Attr) (k : Int) : Attr := ⟨laws_markText k, Int.tmod (k + 1) 3 == 0, k + 1 + 1, laws_markText (k + 1 + 1 + 1)⟩
theorem mk_AttrS (l : List Attr) (k : Int) (h1 : 1 ≤ k) (h2 : k + csum (fun _ => 4) l ≤ 4611686018427387904) : laws_markAttrS l k = (k + csum (fun _ => 4) l, markL mAttr (fun _ => 4) k l) := by
  unfold laws_markAttrS
  have := mark_loop (mb := laws_markAttrS_b1) (M := mAttr) (c := fun _ => 4) (Pd := fun _ => True) (fun i s a _ h1 h2 => by unfold laws_markAttrS_b1; simp (disch := omega) only [wrap_small, mAttr]; simp [Int.add_assoc]) l l [] k rfl (fun _ _ => trivial) h1 h2
  simp only [List.nil_append, List.length_nil] at this
  rw [this]; rfl
def wDeed (a : Deed) (k : Int) : Deed := (Deed.mk k (IntKind.i64.wrap (k + 1)) (Span.mk (IntKind.i64.wrap ((IntKind.i64.wrap (k + 1)) + 1)) (IntKind.i64.wrap ((IntKind.i64.wrap ((IntKind.i64.wrap (k + 1)) + 1)) + 1)) (IntKind.i64.wrap ((IntKind.i64.wrap ((IntKind.i64.wrap ((IntKind.i64.wrap (k + 1)) + 1)) + 1)) + 1)) (IntKind.i64.wrap ((IntKind.i64.wrap ((IntKind.i64.wrap ((IntKind.i64.wrap ((IntKind.i64.wrap (k + 1)) + 1)) + 1)) + 1)) + 1)) ((Int.tmod (IntKind.i64.wrap ((IntKind.i64.wrap ((IntKind.i64.wrap ((IntKind.i64.wrap ((IntKind.i64.wrap ((IntKind.i64.wrap (k + 1)) + 1)) + 1)) + 1)) + 1)) + 1)) 3) == 0) (laws_markAttrS a.S.Attrs (IntKind.i64.wrap ((IntKind.i64.wrap ((IntKind.i64.wrap ((IntKind.i64.wrap ((IntKind.i64.wrap ((IntKind.i64.wrap ((IntKind.i64.wrap (k + 1)) + 1)) + 1)) + 1)) + 1)) + 1)) + 1))).2) (laws_markAttrS a.S.Attrs (IntKind.i64.wrap ((IntKind.i64.wrap ((IntKind.i64.wrap ((IntKind.i64.wrap ((IntKind.i64.wrap ((IntKind.i64.wrap ((IntKind.i64.wrap (k + 1)) + 1)) + 1)) + 1)) + 1)) + 1)) + 1))).1 (IntKind.i64.wrap ((laws_markAttrS a.S.Attrs (IntKind.i64.wrap ((IntKind.i64.wrap ((IntKind.i64.wrap ((IntKind.i64.wrap ((IntKind.i64.wrap ((IntKind.i64.wrap ((IntKind.i64.wrap (k + 1)) + 1)) + 1)) + 1)) + 1)) + 1)) + 1))).1 + 1)) (IntKind.i64.wrap ((IntKind.i64.wrap ((laws_markAttrS a.S.Attrs (IntKind.i64.wrap ((IntKind.i64.wrap ((IntKind.i64.wrap ((IntKind.i64.wrap ((IntKind.i64.wrap ((IntKind.i64.wrap ((IntKind.i64.wrap (k + 1)) + 1)) + 1)) + 1)) + 1)) + 1)) + 1))).1 + 1)) + 1)) ((Int.tmod (IntKind.i64.wrap ((IntKind.i64.wrap ((IntKind.i64.wrap ((laws_markAttrS a.S.Attrs (IntKind.i64.wrap ((IntKind.i64.wrap ((IntKind.i64.wrap ((IntKind.i64.wrap ((IntKind.i64.wrap ((IntKind.i64.wrap ((IntKind.i64.wrap (k + 1)) + 1)) + 1)) + 1)) + 1)) + 1)) + 1))).1 + 1)) + 1)) + 1)) 3) == 0) ((Int.tmod (IntKind.i64.wrap ((IntKind.i64.wrap ((IntKind.i64.wrap ((IntKind.i64.wrap ((laws_markAttrS a.S.Attrs (IntKind.i64.wrap ((IntKind.i64.wrap ((IntKind.i64.wrap ((IntKind.i64.wrap ((IntKind.i64.wrap ((IntKind.i64.wrap ((IntKind.i64.wrap (k + 1)) + 1)) + 1)) + 1)) + 1)) + 1)) + 1))).1 + 1)) + 1)) + 1)) + 1)) 3) == 0) (IntKind.i64.wrap ((IntKind.i64.wrap ((IntKind.i64.wrap ((IntKind.i64.wrap ((IntKind.i64.wrap ((laws_markAttrS a.S.Attrs (IntKind.i64.wrap ((IntKind.i64.wrap ((IntKind.i64.wrap ((IntKind.i64.wrap ((IntKind.i64.wrap ((IntKind.i64.wrap ((IntKind.i64.wrap (k + 1)) + 1)) + 1)) + 1)) + 1)) + 1)) + 1))).1 + 1)) + 1)) + 1)) + 1)) + 1)) (IntKind.i64.wrap ((IntKind.i64.wrap ((IntKind.i64.wrap ((IntKind.i64.wrap ((IntKind.i64.wrap ((IntKind.i64.wrap ((laws_markAttrS a.S.Attrs (IntKind.i64.wrap ((IntKind.i64.wrap ((IntKind.i64.wrap ((IntKind.i64.wrap ((IntKind.i64.wrap ((IntKind.i64.wrap ((IntKind.i64.wrap (k + 1)) + 1)) + 1)) + 1)) + 1)) + 1)) + 1))).1 + 1)) + 1)) + 1)) + 1)) + 1)) + 1)) (IntKind.i64.wrap ((IntKind.i64.wrap ((IntKind.i64.wrap ((IntKind.i64.wrap ((IntKind.i64.wrap ((IntKind.i64.wrap ((IntKind.i64.wrap ((laws_markAttrS a.S.Attrs (IntKind.i64.wrap ((IntKind.i64.wrap ((IntKind.i64.wrap ((IntKind.i64.wrap ((IntKind.i64.wrap ((IntKind.i64.wrap ((IntKind.i64.wrap (k + 1)) + 1)) + 1)) + 1)) + 1)) + 1)) + 1))).1 + 1)) + 1)) + 1)) + 1)) + 1)) + 1)) + 1)) (IntKind.i64.wrap ((IntKind.i64.wrap ((IntKind.i64.wrap ((IntKind.i64.wrap ((IntKind.i64.wrap ((IntKind.i64.wrap ((IntKind.i64.wrap ((IntKind.i64.wrap ((laws_markAttrS a.S.Attrs (IntKind.i64.wrap ((IntKind.i64.wrap ((IntKind.i64.wrap ((IntKind.i64.wrap ((IntKind.i64.wrap ((IntKind.i64.wrap ((IntKind.i64.wrap (k + 1)) + 1)) + 1)) + 1)) + 1)) + 1)) + 1))).1 + 1)) + 1)) + 1)) + 1)) + 1)) + 1)) + 1)) + 1)) (IntKind.i64.wrap ((IntKind.i64.wrap ((IntKind.i64.wrap ((IntKind.i64.wrap ((IntKind.i64.wrap ((IntKind.i64.wrap ((IntKind.i64.wrap ((IntKind.i64.wrap ((IntKind.i64.wrap ((laws_markAttrS a.S.Attrs (IntKind.i64.wrap ((IntKind.i64.wrap ((IntKind.i64.wrap ((IntKind.i64.wrap ((IntKind.i64.wrap ((IntKind.i64.wrap ((IntKind.i64.wrap (k + 1)) + 1)) + 1)) + 1)) + 1)) + 1)) + 1))).1 + 1)) + 1)) + 1)) + 1)) + 1)) + 1)) + 1)) + 1)) + 1)) (IntKind.i64.wrap ((IntKind.i64.wrap ((IntKind.i64.wrap ((IntKind.i64.wrap ((IntKind.i64.wrap ((IntKind.i64.wrap ((IntKind.i64.wrap ((IntKind.i64.wrap ((IntKind.i64.wrap ((IntKind.i64.wrap ((laws_markAttrS a.S.Attrs (IntKind.i64.wrap ((IntKind.i64.wrap ((IntKind.i64.wrap ((IntKind.i64.wrap ((IntKind.i64.wrap ((IntKind.i64.wrap ((IntKind.i64.wrap (k + 1)) + 1)) + 1)) + 1)) + 1)) + 1)) + 1))).1 + 1)) + 1)) + 1)) + 1)) + 1)) + 1)) + 1)) + 1)) + 1)) + 1)) (IntKind.i64.wrap ((IntKind.i64.wrap ((IntKind.i64.wrap ((IntKind.i64.wrap ((IntKind.i64.wrap ((IntKind.i64.wrap ((IntKind.i64.wrap ((IntKind.i64.wrap ((IntKind.i64.wrap ((IntKind.i64.wrap ((IntKind.i64.wrap ((laws_markAttrS a.S.Attrs (IntKind.i64.wrap ((IntKind.i64.wrap ((IntKind.i64.wrap ((IntKind.i64.wrap ((IntKind.i64.wrap ((IntKind.i64.wrap ((IntKind.i64.wrap (k + 1)) + 1)) + 1)) + 1)) + 1)) + 1)) + 1))).1 + 1)) + 1)) + 1)) + 1)) + 1)) + 1)) + 1)) + 1)) + 1)) + 1)) + 1)))
def cDeed (a : Deed) : Nat := 19 + csum (fun _ : Attr => 4) a.S.Attrs
theorem mk_DeedS (l : List Deed) (k : Int) (h1 : 1 ≤ k) (h2 : k + csum cDeed l ≤ 4611686018427387904) : laws_markDeedS l k = (k + csum cDeed l, markL wDeed cDeed k l) := by
  unfold laws_markDeedS
  have := mark_loop (mb := laws_markDeedS_b1) (M := wDeed) (c := cDeed) (Pd := fun _ => True) (fun i s a _ h1 h2 => by
    unfold laws_markDeedS_b1
    refine congrArg Step.next (Prod.ext rfl ?_)
    generalize s.1[i]?.getD default = x at h2 ⊢
    unfold cDeed at h2 ⊢
    simp (disch := omega) only [wrap_small]
    rw [mk_AttrS _ _ (by omega) (by omega)]
    simp (disch := omega) only [wrap_small]
    omega) l l [] k rfl (fun _ _ => trivial) h1 h2
  simp only [List.nil_append, List.length_nil] at this
  rw [this]; rfl
theorem hd_AttrS (l : List Attr) (k : Int) (h1 : 1 ≤ k) (h2 : k + csum (fun _ => 4) l ≤ 4611686018427387904) : laws_heldAttrS (markL mAttr (fun _ => 4) k l) k = k + csum (fun _ => 4) l := by
  unfold laws_heldAttrS
  rw [held_loop (hb := laws_heldAttrS_b1) (M := mAttr) (c := fun _ => 4) (Pd := fun _ => True) (fun i s a _ h1 h2 => by unfold laws_heldAttrS_b1; simp (disch := omega) only [wrap_small, mAttr]; simp [Int.add_assoc]) l 0 k (fun _ _ => trivial) h1 h2]
  rfl
def cSpan (a : Span) : Nat := 5 + csum (fun _ : Attr => 4) a.Attrs
def mSpan (a : Span) (k : Int) : Span := ⟨k, k + 1, k + 1 + 1, k + 1 + 1 + 1, Int.tmod (k + 1 + 1 + 1 + 1) 3 == 0, markL mAttr (fun _ => 4) (k + 1 + 1 + 1 + 1 + 1) a.Attrs⟩
theorem mk_SpanS (l : List Span) (k : Int) (h1 : 1 ≤ k) (h2 : k + csum cSpan l ≤ 4611686018427387904) : laws_markSpanS l k = (k + csum cSpan l, markL mSpan cSpan k l) := by
  unfold laws_markSpanS
  have := mark_loop (mb := laws_markSpanS_b1) (M := mSpan) (c := cSpan) (Pd := fun _ => True) (fun i s a _ h1 h2 => by
    unfold laws_markSpanS_b1
    generalize s.1[i]?.getD default = x at h2 ⊢
    unfold cSpan at h2 ⊢
    simp (disch := omega) only [wrap_small, mSpan]
    rw [mk_AttrS _ _ (by omega) (by omega)]
    simp only [Int.add_assoc]
    simp [Int.add_assoc]
    omega) l l [] k rfl (fun _ _ => trivial) h1 h2
  simp only [List.nil_append, List.length_nil] at this
  rw [this]; rfl
theorem hd_SpanS (l : List Span) (k : Int) (h1 : 1 ≤ k) (h2 : k + csum cSpan l ≤ 4611686018427387904) : laws_heldSpanS (markL mSpan cSpan k l) k = k + csum cSpan l := by
  unfold laws_heldSpanS
  rw [held_loop (hb := laws_heldSpanS_b1) (M := mSpan) (c := cSpan) (Pd := fun _ => True) (fun i s a _ h1 h2 => by
    unfold cSpan at h2 ⊢
    unfold laws_heldSpanS_b1
    simp (disch := omega) only [wrap_small, mSpan]
    rw [hd_AttrS _ _ (by omega) (by omega)]
    have hd : decide (s + 1 + 1 + 1 + 1 + 1 + ((csum (fun _ : Attr => 4) a.Attrs : Nat) : Int) < 0) = false := by simp; omega
    simp only [hd, bne_self_eq_false, beq_self_eq_true, Bool.not_true, cond_false]
    simp [Int.add_assoc]) l 0 k (fun _ _ => trivial) h1 h2]
  rfl
theorem beqD (a b : Int) : (a == b) = decide (a = b) := by by_cases h : a = b <;> simp [h]
theorem bneD (a b : Int) : (a != b) = !decide (a = b) := by by_cases h : a = b <;> simp [h, bne]
theorem order_eq (p0 : List Deed) (h : p0.length ≤ 1048576) : spec_Order p0 = impl_Order p0 := (spec_Order_ok p0 h).eq (impl_Order_ok p0 h)
theorem cDeed_le (p0 : List Deed) (h : bdS Deed.bd 1048576 p0) : csum cDeed p0 ≤ 4503599627370496 := by
  have h1 : ∀ a ∈ p0, cDeed a ≤ 4294967296 := fun a ha => by
    have h2 : a.S.Attrs.length ≤ 1048576 := (h.2 a ha).1
    unfold cDeed
    rw [csum_const]; omega
  have := csum_le h1
  have h3 := h.1
  omega
/-- What is done with the arguments' marks. -/
theorem marked_DeedS (p0 : List Deed) (h : bdS Deed.bd 1048576 p0) : decide ((laws_markDeedS p0 1).1 < 0) = false := by
  have := cDeed_le p0 h
  rw [mk_DeedS p0 1 (by omega) (by omega)]
  simp only [decide_eq_false_iff_not]
  omega
def gAcc (p0 : List Deed) (p1 : Int) (v : Int) : List Span := let d := p0[v.toNat]?.getD default; if d.Op = 1 ∧ d.Stamp = p1 ∧ (d.Code = 1 ∨ d.Code = 2) then [d.S] else []
theorem spec_l3Copy_eq (x : Span) : spec_l3Copy x = x := by cases x; simp [spec_l3Copy]
theorem impl_copySpan_eq (x : Span) : impl_copySpan x = x := by cases x; simp [impl_copySpan]
theorem spec_Accepted_eq (p0 : List Deed) (p1 : Int) : spec_Accepted p0 p1 = (spec_Order p0).flatMap (gAcc p0 p1) := by
  unfold spec_Accepted
  rw [app_flat (b := spec_Accepted_b1 p0 p1) (gAcc p0 p1) (fun i s v => by
    unfold spec_Accepted_b1 gAcc spec_Accepted_j2
    rw [spec_l3Copy_eq]
    generalize p0[v.toNat]?.getD default = d
    by_cases h1 : d.Op = 1 <;> by_cases h2 : d.Stamp = p1 <;> by_cases h3 : d.Code = 1 <;> by_cases h4 : d.Code = 2 <;> simp [h1, h2, h3, h4, Step.get, beqD, bneD]), List.nil_append]
  rfl
theorem impl_Accepted_eq (p0 : List Deed) (p1 : Int) (h : p0.length ≤ 1048576) : impl_Accepted p0 p1 = (impl_Order p0).flatMap (gAcc p0 p1) := by
  unfold impl_Accepted
  have hf : ∀ v ∈ impl_Order p0, (p0[v.toNat]?.getD default).Lin ≠ -1 := fun v hv => by
    have hp := (impl_Order_ok p0 h).p.mem_iff.1 hv
    exact flL_lin Deed.Lin p0 v hp
  rw [app_flat (b := impl_Accepted_b1 p1) (fun d : Deed => if impl_takenIn d = true ∧ d.Stamp = p1 then [d.S] else []) (fun i s d => by
    unfold impl_Accepted_b1
    rw [impl_copySpan_eq]
    cases h1 : impl_takenIn d <;> by_cases h2 : d.Stamp = p1 <;> simp [h2, beqD, bneD]), List.nil_append, impl_ordered_map, flatMap_mapE]
  show List.flatMap _ _ = _
  refine flatMap_congrE fun v hv => ?_
  have := hf v hv
  unfold gAcc impl_takenIn
  generalize p0[v.toNat]?.getD default = d at this
  by_cases h1 : d.Op = 1 <;> by_cases h2 : d.Stamp = p1 <;> by_cases h3 : d.Code = 1 <;> by_cases h4 : d.Code = 2 <;> simp [h1, h2, h3, h4, this, beqD, bneD]
theorem law_Accepted (p0 : List Deed) (p1 : Int) (hw0 : bdS Deed.bd 9223372036854775807 p0) : laws_FnExactAccepted p0 p1 = true := by
  unfold laws_FnExactAccepted
  by_cases hd : laws_szDeedS p0 1048576 < 0
  · rw [decide_eq_true hd]; rfl
  · rw [decide_eq_false hd]
    have hs := (szd_laws_szDeedS p0 1048576 hw0 (by omega) (by omega) (by omega)).1
    have e : impl_Accepted p0 p1 = spec_Accepted p0 p1 := by rw [impl_Accepted_eq p0 p1 hs.1, spec_Accepted_eq, order_eq p0 hs.1]
    have hl : (spec_Accepted p0 p1).length ≤ 1048576 := by
      rw [spec_Accepted_eq]
      refine Nat.le_trans (flat1_len (fun v => by unfold gAcc; dsimp only; split <;> simp) _) (Nat.le_trans (spec_Order_ok p0 hs.1).len hs.1)
    have hb : ∀ a ∈ spec_Accepted p0 p1, cSpan a ≤ 4294967296 := fun a ha => by
      rw [spec_Accepted_eq] at ha
      obtain ⟨v, hv, hav⟩ := List.mem_flatMap.1 ha
      have hm := hs.2 _ (getD_memI ((spec_Order_ok p0 hs.1).mem hv))
      unfold gAcc at hav
      dsimp only at hav
      split at hav
      · rw [List.mem_singleton.1 hav]
        have h2 : (p0[v.toNat]?.getD default).S.Attrs.length ≤ 1048576 := hm.1
        unfold cSpan
        rw [csum_const]; omega
      · cases hav
    have hc := csum_le hb
    have hk : (1 : Int) + csum cSpan (spec_Accepted p0 p1) ≤ 4611686018427387904 := by omega
    simp only [cond_false, id_laws_toDeedS, e, rf_laws_eqSpanS, rf_laws_eqDeedS, Bool.not_true, marked_DeedS p0 hs, mk_SpanS _ _ (Int.le_refl 1) hk, hd_SpanS _ _ (Int.le_refl 1) hk, bne_self_eq_false]
    have : decide ((1 : Int) + csum cSpan (spec_Accepted p0 p1) < 0) = false := by simp only [decide_eq_false_iff_not]; omega
    rw [this]; rfl
theorem rows_sl {α : Type} (f : α → List T) (W : α → Prop) : ∀ rows : List (List T), (∀ r ∈ rows, ∃ x, r = f x ∧ W x) → ∃ l : List α, rows = l.map f ∧ ∀ x ∈ l, W x
  | [], _ => ⟨[], rfl, by simp⟩
  | r :: rows, h => by
    obtain ⟨x, hx, hw⟩ := h r (by simp)
    obtain ⟨l, hl, hw'⟩ := rows_sl f W rows (fun r hr => h r (by simp [hr]))
    exact ⟨x :: l, by simp [hx, hl], fun y hy => by rcases List.mem_cons.1 hy with rfl | hy; exact hw; exact hw' y hy⟩
theorem shape_sl {α : Type} (f : α → List T) {P : Nat → α → Prop} (W : α → Prop) (hW : W = P 9223372036854775807) {n t e k : Nat} (ht : prog.underlying t = some (.slice e)) (hk : prog.cellsOf e = k) {y : List T} (h : Shape prog (n + 1) t y) (hr : ∀ r, Shape prog n e r → ∃ x, r = f x ∧ W x) :
    ∃ l : List α, y = [.s false k (l.map f)] ∧ bdS P 9223372036854775807 l := by
  subst hW
  unfold Shape at h
  rw [ht] at h
  obtain ⟨rows, h1, h2, h3⟩ := h
  rw [hk] at h1
  obtain ⟨l, rfl, hw⟩ := rows_sl f _ rows (fun r hr' => hr r (h3 r hr').2)
  exact ⟨l, h1, by simpa [maxLen] using h2, hw⟩
theorem shape3 (n : Nat) {l : List T} (h : Shape prog n 3 l) : ∃ x : Int, l = [.v (.int .i64 x)] ∧ True := by
  cases n with
  | zero => exact (h : False).elim
  | succ n =>
    simp only [Shape, underlying3] at h
    obtain ⟨x, hx, _⟩ := h
    exact ⟨x, hx, trivial⟩
theorem shape4 (n : Nat) {l : List T} (h : Shape prog n 4 l) : ∃ x : Bool, l = [.v (.bool x)] ∧ True := by
  cases n with
  | zero => exact (h : False).elim
  | succ n =>
    simp only [Shape, underlying4] at h
    obtain ⟨x, hx⟩ := h
    exact ⟨x, hx, trivial⟩
theorem shape9 (n : Nat) {l : List T} (h : Shape prog n 9 l) : ∃ x : ByteArray, l = [.v (.string x)] ∧ (x).size ≤ 9223372036854775807 := by
  cases n with
  | zero => exact (h : False).elim
  | succ n =>
    simp only [Shape, underlying9] at h
    obtain ⟨x, hx, hw⟩ := h
    exact ⟨x, hx, by simpa [maxLen] using hw⟩
theorem shape266 (n : Nat) {l : List T} (h : Shape prog n 266 l) : ∃ x : Attr, l = Attr.cells x ∧ Attr.bd 9223372036854775807 x := by
  cases n with
  | zero => exact (h : False).elim
  | succ n =>
    unfold Shape at h
    rw [underlying266] at h
    simp only [ShapeL] at h
    obtain ⟨_, _, rfl, h0, _, _, rfl, h1, _, _, rfl, h2, _, _, rfl, h3, rfl⟩ := h
    obtain ⟨x0, rfl, w0⟩ := shape9 n h0
    obtain ⟨x1, rfl, w1⟩ := shape4 n h1
    obtain ⟨x2, rfl, w2⟩ := shape3 n h2
    obtain ⟨x3, rfl, w3⟩ := shape9 n h3
    exact ⟨⟨x0, x1, x2, x3⟩, rfl, ⟨w0, w3⟩⟩
theorem shape150 (n : Nat) {l : List T} (h : Shape prog n 150 l) : ∃ x : (List Attr), l = [.s false 4 (List.map Attr.cells x)] ∧ bdS Attr.bd 9223372036854775807 x := by
  cases n with
  | zero => exact (h : False).elim
  | succ n =>
    exact shape_sl Attr.cells (P := Attr.bd) _ rfl underlying150 (by kernel_rfl) h (fun r hr => shape266 n hr)
theorem shape152 (n : Nat) {l : List T} (h : Shape prog n 152 l) : ∃ x : Span, l = (Span.cells false) x ∧ Span.bd 9223372036854775807 x := by
  cases n with
  | zero => exact (h : False).elim
  | succ n =>
    unfold Shape at h
    rw [underlying152] at h
    simp only [ShapeL] at h
    obtain ⟨_, _, rfl, h0, _, _, rfl, h1, _, _, rfl, h2, _, _, rfl, h3, _, _, rfl, h4, _, _, rfl, h5, rfl⟩ := h
    obtain ⟨x0, rfl, w0⟩ := shape3 n h0
    obtain ⟨x1, rfl, w1⟩ := shape3 n h1
    obtain ⟨x2, rfl, w2⟩ := shape3 n h2
    obtain ⟨x3, rfl, w3⟩ := shape3 n h3
    obtain ⟨x4, rfl, w4⟩ := shape4 n h4
    obtain ⟨x5, rfl, w5⟩ := shape150 n h5
    exact ⟨⟨x0, x1, x2, x3, x4, x5⟩, rfl, w5⟩
theorem shape154 (n : Nat) {l : List T} (h : Shape prog n 154 l) : ∃ x : Deed, l = (Deed.cells false) x ∧ Deed.bd 9223372036854775807 x := by
  cases n with
  | zero => exact (h : False).elim
  | succ n =>
    unfold Shape at h
    rw [underlying154] at h
    simp only [ShapeL] at h
    obtain ⟨_, _, rfl, h0, _, _, rfl, h1, _, _, rfl, h2, _, _, rfl, h3, _, _, rfl, h4, _, _, rfl, h5, _, _, rfl, h6, _, _, rfl, h7, _, _, rfl, h8, _, _, rfl, h9, _, _, rfl, h10, _, _, rfl, h11, _, _, rfl, h12, _, _, rfl, h13, _, _, rfl, h14, rfl⟩ := h
    obtain ⟨x0, rfl, w0⟩ := shape3 n h0
    obtain ⟨x1, rfl, w1⟩ := shape3 n h1
    obtain ⟨x2, rfl, w2⟩ := shape152 n h2
    obtain ⟨x3, rfl, w3⟩ := shape3 n h3
    obtain ⟨x4, rfl, w4⟩ := shape3 n h4
    obtain ⟨x5, rfl, w5⟩ := shape3 n h5
    obtain ⟨x6, rfl, w6⟩ := shape4 n h6
    obtain ⟨x7, rfl, w7⟩ := shape4 n h7
    obtain ⟨x8, rfl, w8⟩ := shape3 n h8
    obtain ⟨x9, rfl, w9⟩ := shape3 n h9
    obtain ⟨x10, rfl, w10⟩ := shape3 n h10
    obtain ⟨x11, rfl, w11⟩ := shape3 n h11
    obtain ⟨x12, rfl, w12⟩ := shape3 n h12
    obtain ⟨x13, rfl, w13⟩ := shape3 n h13
    obtain ⟨x14, rfl, w14⟩ := shape3 n h14
    exact ⟨⟨x0, x1, x2, x3, x4, x5, x6, x7, x8, x9, x10, x11, x12, x13, x14⟩, rfl, w2⟩
theorem shape37 (n : Nat) {l : List T} (h : Shape prog n 37 l) : ∃ x : (List Deed), l = [.s false 20 (List.map (Deed.cells false) x)] ∧ bdS Deed.bd 9223372036854775807 x := by
  cases n with
  | zero => exact (h : False).elim
  | succ n =>
    exact shape_sl (Deed.cells false) (P := Deed.bd) _ rfl underlying37 (by kernel_rfl) h (fun r hr => shape154 n hr)
theorem arg37 {n : Nat} {y : T} (h : Shape prog n 37 [y]) : ∃ x : (List Deed), y = .s false 20 (List.map (Deed.cells false) x) ∧ bdS Deed.bd 9223372036854775807 x := by
  obtain ⟨x, hx, hw⟩ := shape37 n h
  exact ⟨x, by simpa using hx, hw⟩
theorem arg3 {n : Nat} {y : T} (h : Shape prog n 3 [y]) : ∃ x : Int, y = .v (.int .i64 x) ∧ True := by
  obtain ⟨x, hx, hw⟩ := shape3 n h
  exact ⟨x, by simpa using hx, hw⟩
theorem law_c (p0 : (List Deed)) (p1 : Int) (h0 : bdS Deed.bd 9223372036854775807 p0) : FnOk prog 9 [.one (.s false 20 (List.map (Deed.cells false) p0)), .one (.v (.int .i64 p1))] ⟨.one (.v (.bool true)), [], [], false⟩ :=
  FnOk.fits ⟨_, func9, by kernel_rfl, by kernel_rfl⟩ (fun hf => by
    have h := c_laws_FnExactAccepted p0 p1 h0
    rw [law_Accepted p0 p1 h0] at h
    exact h)

end Go.Proofs.Try.Ev
