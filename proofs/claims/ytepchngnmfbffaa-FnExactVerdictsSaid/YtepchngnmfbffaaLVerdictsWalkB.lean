import Derived.Test.YtepchngnmfbffaaLVerdictsWalk
set_option linter.unusedSectionVars false

namespace Go.Proofs.Try.Ev
open Go Go.Ev Go.Proofs
set_option maxHeartbeats 4000000
set_option maxRecDepth 100000
set_option linter.unusedSimpArgs false
set_option linter.unusedVariables false
set_option linter.unusedSectionVars false
theorem c_slices_symMergeCmpFunc_int_c_impl_Order_1 (p0 : (List Int)) (p1 : Int) (p2 : Int) (p3 : Int) (p4_0 : (List Deed)) (hs : (Srt (fun v : Int => 0 ≤ v ∧ v < ((p4_0.length : Nat) : Int)) p0 ∧ p0.length ≤ 288230376151711744) ∧ 0 ≤ p1 ∧ p1 < p2 ∧ p2 < p3 ∧ p3 ≤ ((p0.length : Nat) : Int)) : FnOk prog 240 [.tup [.one (.s true 1 (List.map cInt p0))], .one (.v (.int .i64 p1)), .one (.v (.int .i64 p2)), .one (.v (.int .i64 p3)), .one (.c 203 [.q 1 [[.s false 20 (List.map (Deed.cells false) p4_0)]] 0 0])] ⟨.tup [], [.one (.s true 1 (List.map cInt ((slices_symMergeCmpFunc_int_c_impl_Order_1 p0 p1 p2 p3 p4_0))))], [], false⟩ := cR_slices_symMergeCmpFunc_int_c_impl_Order_1 _ p0 p1 p2 p3 p4_0 (Nat.lt_succ_self _) hs
theorem e_slices_symMergeCmpFunc_int_c_impl_Order_1 (p0 : List Int) (p1 p2 p3 : Int) (c : List Deed) : slices_symMergeCmpFunc_int_c_impl_Order_1 p0 p1 p2 p3 c = g_symMerge p0 p1 p2 p3 (fun x y => impl_Order_1 x y c) := e_slices_symMergeCmpFunc_int_c_impl_Order_1R _ _ _ _ _ _
theorem len_slices_symMergeCmpFunc_int_c_impl_Order_1 (p0 : List Int) (p1 p2 p3 : Int) (c : List Deed) : (slices_symMergeCmpFunc_int_c_impl_Order_1 p0 p1 p2 p3 c).length = p0.length := by rw [e_slices_symMergeCmpFunc_int_c_impl_Order_1]; exact len_g_sym ..
def slices_stableCmpFunc_int_c_impl_Order_1_b3 (p1 : Int) (s2 : (List Int) × Int) (p2_0 : (List Deed)) (s3 : (List Int) × Int × Int) : Step ((List Int) × Int × Int) (Step ((List Int) × Int) (List Int)) :=
  (bif (decide (s3.2.2 ≤ p1)) then (.next ((slices_symMergeCmpFunc_int_c_impl_Order_1 s3.1 s3.2.1 (IntKind.i64.wrap (s3.2.1 + s2.2)) s3.2.2 p2_0), s3.2.2, (IntKind.i64.wrap (s3.2.2 + (IntKind.i64.wrap (2 * s2.2)))))) else (.stop (s3.1, s3.2.1, s3.2.2)))
def slices_stableCmpFunc_int_c_impl_Order_1_b2 (p1 : Int) (p2_0 : (List Deed)) (s2 : (List Int) × Int) : Step ((List Int) × Int) (List Int) :=
  (bif (decide (s2.2 < p1)) then (Fin.get (fun s3 => (bif (decide ((IntKind.i64.wrap (s3.2.1 + s2.2)) < p1)) then (.next ((slices_symMergeCmpFunc_int_c_impl_Order_1 s3.1 s3.2.1 (IntKind.i64.wrap (s3.2.1 + s2.2)) p1 p2_0), (IntKind.i64.wrap (s2.2 * 2)))) else (.next (s3.1, (IntKind.i64.wrap (s2.2 * 2)))))) (loopW (slices_stableCmpFunc_int_c_impl_Order_1_b3 p1 s2 p2_0) ((fun s : (List Int) × Int × Int => (p1 + 1 - s.2.2).toNat) (s2.1, 0, (IntKind.i64.wrap (2 * s2.2)))) (s2.1, 0, (IntKind.i64.wrap (2 * s2.2))))) else (.stop (s2.1, s2.2)))
def slices_stableCmpFunc_int_c_impl_Order_1_b1 (p1 : Int) (p2_0 : (List Deed)) (s1 : (List Int) × Int × Int) : Step ((List Int) × Int × Int) (List Int) :=
  (bif (decide (s1.2.2 ≤ p1)) then (.next ((slices_insertionSortCmpFunc_int_c_impl_Order_1 s1.1 s1.2.1 s1.2.2 p2_0), s1.2.2, (IntKind.i64.wrap (s1.2.2 + 20)))) else (.stop (s1.1, s1.2.1, s1.2.2)))
def slices_stableCmpFunc_int_c_impl_Order_1 (p0 : (List Int)) (p1 : Int) (p2_0 : (List Deed)) : (List Int) :=
  (Fin.get (fun s1 => (Fin.get (fun s2 => s2.1) (loopW (slices_stableCmpFunc_int_c_impl_Order_1_b2 p1 p2_0) ((fun s : (List Int) × Int => (p1 - s.2).toNat) ((slices_insertionSortCmpFunc_int_c_impl_Order_1 s1.1 s1.2.1 p1 p2_0), 20)) ((slices_insertionSortCmpFunc_int_c_impl_Order_1 s1.1 s1.2.1 p1 p2_0), 20)))) (loopW (slices_stableCmpFunc_int_c_impl_Order_1_b1 p1 p2_0) ((fun s : (List Int) × Int × Int => (p1 + 1 - s.2.2).toNat) (p0, 0, 20)) (p0, 0, 20)))
theorem c_slices_stableCmpFunc_int_c_impl_Order_1 (p0 : (List Int)) (p1 : Int) (p2_0 : (List Deed)) (hs : (Srt (fun v : Int => 0 ≤ v ∧ v < ((p2_0.length : Nat) : Int)) p0 ∧ p0.length ≤ 288230376151711744) ∧ p1 = ((p0.length : Nat) : Int)) : FnOk prog 227 [.tup [.one (.s true 1 (List.map cInt p0))], .one (.v (.int .i64 p1)), .one (.c 203 [.q 1 [[.s false 20 (List.map (Deed.cells false) p2_0)]] 0 0])] ⟨.tup [], [.one (.s true 1 (List.map cInt ((slices_stableCmpFunc_int_c_impl_Order_1 p0 p1 p2_0))))], [], false⟩ := by
  refine FnOk.introM (E := env) envOk wide func227 rfl (by kernel_rfl) rfl ?_
  have hg := slices_stableCmpFunc_int_c_impl_Order_1.eq_1 p0 p1 p2_0
  have hown : (∀ g : (List Int), AV.Own (AV.tup [])) ∧ (fun g : (List Int) => T.s true 1 (List.map cInt (g))) = _ := ⟨fun g => trivial, rfl⟩
  refine seqE ?_
  refine seqE ?_
  refine seqE ?_
  refine loopWE (m := (fun s : (List Int) × Int × Int => (p1 + 1 - s.2.2).toNat)) (s0 := (p0, 0, 20)) (fun s : (List Int) × Int × Int => (Srt (fun v : Int => 0 ≤ v ∧ v < ((p2_0.length : Nat) : Int)) s.1 ∧ s.1.length = p0.length) ∧ 0 ≤ s.2.1 ∧ s.2.2 = s.2.1 + 20 ∧ s.2.1 ≤ p1) hg (by exact ⟨⟨hs.1.1, rfl⟩, by (first | omega | (dsimp only <;> omega) | (simp (disch := omega) only [wrap_small, mid_eq, mid_eq1, mid_eq2, mid_eq3, List.length_map, List.length_set] <;> omega) | (simp (disch := omega) only [wrap_small, mid_eq, mid_eq1, mid_eq2, mid_eq3, List.length_map, List.length_set] at * <;> omega)), by (first | omega | (dsimp only <;> omega) | (simp (disch := omega) only [wrap_small, mid_eq, mid_eq1, mid_eq2, mid_eq3, List.length_map, List.length_set] <;> omega) | (simp (disch := omega) only [wrap_small, mid_eq, mid_eq1, mid_eq2, mid_eq3, List.length_map, List.length_set] at * <;> omega)), by (first | omega | (dsimp only <;> omega) | (simp (disch := omega) only [wrap_small, mid_eq, mid_eq1, mid_eq2, mid_eq3, List.length_map, List.length_set] <;> omega) | (simp (disch := omega) only [wrap_small, mid_eq, mid_eq1, mid_eq2, mid_eq3, List.length_map, List.length_set] at * <;> omega))⟩) [0, 1, 2, 6] (fun x1 => [(7, .one (.v (.int .i64 x1.s.2.1))), (8, .one (.v (.int .i64 x1.s.2.2)))]) (fun x1 => [.dead, .new ⟨1, false, List.map cInt x1.s.1, 0⟩]) [none, some 1] ?_ (fun x1 => ?_)
  · exact ⟨rfl, ⟨rfl, rfl, ⟨rfl, rfl, rfl, rfl, by (first | rfl | omega | (dsimp only; omega) | (simp; done) | (simp; omega) | (simp [LstSt.init, LstSt.step, LstInv.init, CntSt.init, CntSt.step, CntInv.init, WhlSt.init, WhlSt.step]; done) | (simp [LstSt.init, LstSt.step, LstInv.init, CntSt.init, CntSt.step, CntInv.init, WhlSt.init, WhlSt.step]; omega))⟩, rfl, ⟨rfl, ⟨rfl, trivial⟩⟩, rfl, trivial⟩, ⟨⟨rfl, rfl, rfl⟩, trivial⟩, ⟨⟨rfl, rfl, rfl, rfl, by (first | rfl | omega | (dsimp only; omega) | (simp; done) | (simp; omega) | (simp [LstSt.init, LstSt.step, LstInv.init, CntSt.init, CntSt.step, CntInv.init, WhlSt.init, WhlSt.step]; done) | (simp [LstSt.init, LstSt.step, LstInv.init, CntSt.init, CntSt.step, CntInv.init, WhlSt.init, WhlSt.step]; omega))⟩, trivial⟩⟩
  have hI1 := x1.hI
  try dsimp only at hI1
  have hb1 := x1.bdy.trans (slices_stableCmpFunc_int_c_impl_Order_1_b1.eq_1 ..)
  refine seqE ?_
  refine seqE ?_
  refine brD hb1 (fun hb1 h1 => ?_) (fun hb1 h1 => ?_)
  · refine seqE ?_
    refine .inr ⟨0, _, _, _, c_slices_insertionSortCmpFunc_int_c_impl_Order_1 x1.s.1 x1.s.2.1 x1.s.2.2 p2_0 (by first | exact ⟨⟨hI3.1.1, by (first | omega | (dsimp only <;> omega) | (simp (disch := omega) only [wrap_small, mid_eq, mid_eq1, mid_eq2, mid_eq3, List.length_map, List.length_set] <;> omega) | (simp (disch := omega) only [wrap_small, mid_eq, mid_eq1, mid_eq2, mid_eq3, List.length_map, List.length_set] at * <;> omega))⟩, by (first | omega | (dsimp only <;> omega) | (simp (disch := omega) only [wrap_small, mid_eq, mid_eq1, mid_eq2, mid_eq3, List.length_map, List.length_set] <;> omega) | (simp (disch := omega) only [wrap_small, mid_eq, mid_eq1, mid_eq2, mid_eq3, List.length_map, List.length_set] at * <;> omega)), by (first | omega | (dsimp only <;> omega) | (simp (disch := omega) only [wrap_small, mid_eq, mid_eq1, mid_eq2, mid_eq3, List.length_map, List.length_set] <;> omega) | (simp (disch := omega) only [wrap_small, mid_eq, mid_eq1, mid_eq2, mid_eq3, List.length_map, List.length_set] at * <;> omega)), by (first | omega | (dsimp only <;> omega) | (simp (disch := omega) only [wrap_small, mid_eq, mid_eq1, mid_eq2, mid_eq3, List.length_map, List.length_set] <;> omega) | (simp (disch := omega) only [wrap_small, mid_eq, mid_eq1, mid_eq2, mid_eq3, List.length_map, List.length_set] at * <;> omega)), by (first | omega | (dsimp only <;> omega) | (simp (disch := omega) only [wrap_small, mid_eq, mid_eq1, mid_eq2, mid_eq3, List.length_map, List.length_set] <;> omega) | (simp (disch := omega) only [wrap_small, mid_eq, mid_eq1, mid_eq2, mid_eq3, List.length_map, List.length_set] at * <;> omega))⟩ | exact ⟨⟨hI1.1.1, by (first | omega | (dsimp only <;> omega) | (simp (disch := omega) only [wrap_small, mid_eq, mid_eq1, mid_eq2, mid_eq3, List.length_map, List.length_set] <;> omega) | (simp (disch := omega) only [wrap_small, mid_eq, mid_eq1, mid_eq2, mid_eq3, List.length_map, List.length_set] at * <;> omega))⟩, by (first | omega | (dsimp only <;> omega) | (simp (disch := omega) only [wrap_small, mid_eq, mid_eq1, mid_eq2, mid_eq3, List.length_map, List.length_set] <;> omega) | (simp (disch := omega) only [wrap_small, mid_eq, mid_eq1, mid_eq2, mid_eq3, List.length_map, List.length_set] at * <;> omega)), by (first | omega | (dsimp only <;> omega) | (simp (disch := omega) only [wrap_small, mid_eq, mid_eq1, mid_eq2, mid_eq3, List.length_map, List.length_set] <;> omega) | (simp (disch := omega) only [wrap_small, mid_eq, mid_eq1, mid_eq2, mid_eq3, List.length_map, List.length_set] at * <;> omega)), by (first | omega | (dsimp only <;> omega) | (simp (disch := omega) only [wrap_small, mid_eq, mid_eq1, mid_eq2, mid_eq3, List.length_map, List.length_set] <;> omega) | (simp (disch := omega) only [wrap_small, mid_eq, mid_eq1, mid_eq2, mid_eq3, List.length_map, List.length_set] at * <;> omega))⟩), (FzAs.same _), .inr ⟨ownSl own_cInt _, ?_⟩⟩
    refine litE (m := 3) rfl ?_
    have hz2 := len_slices_insertionSortCmpFunc_int_c_impl_Order_1 x1.s.1 x1.s.2.1 x1.s.2.2 p2_0
    refine seqE ?_
    exact x1.goE hb1 (show (fun s : (List Int) × Int × Int => (Srt (fun v : Int => 0 ≤ v ∧ v < ((p2_0.length : Nat) : Int)) s.1 ∧ s.1.length = p0.length) ∧ 0 ≤ s.2.1 ∧ s.2.2 = s.2.1 + 20 ∧ s.2.1 ≤ p1) ((slices_insertionSortCmpFunc_int_c_impl_Order_1 x1.s.1 x1.s.2.1 x1.s.2.2 p2_0), x1.s.2.2, (IntKind.i64.wrap (x1.s.2.2 + 20))) ∧ (fun s : (List Int) × Int × Int => (p1 + 1 - s.2.2).toNat) ((slices_insertionSortCmpFunc_int_c_impl_Order_1 x1.s.1 x1.s.2.1 x1.s.2.2 p2_0), x1.s.2.2, (IntKind.i64.wrap (x1.s.2.2 + 20))) < (fun s : (List Int) × Int × Int => (p1 + 1 - s.2.2).toNat) x1.s by refine ⟨⟨?_, by (first | omega | (dsimp only <;> omega) | (simp (disch := omega) only [wrap_small, mid_eq, mid_eq1, mid_eq2, mid_eq3, List.length_map, List.length_set] <;> omega) | (simp (disch := omega) only [wrap_small, mid_eq, mid_eq1, mid_eq2, mid_eq3, List.length_map, List.length_set] at * <;> omega)), by (first | omega | (dsimp only <;> omega) | (simp (disch := omega) only [wrap_small, mid_eq, mid_eq1, mid_eq2, mid_eq3, List.length_map, List.length_set] <;> omega) | (simp (disch := omega) only [wrap_small, mid_eq, mid_eq1, mid_eq2, mid_eq3, List.length_map, List.length_set] at * <;> omega)), by (first | omega | (dsimp only <;> omega) | (simp (disch := omega) only [wrap_small, mid_eq, mid_eq1, mid_eq2, mid_eq3, List.length_map, List.length_set] <;> omega) | (simp (disch := omega) only [wrap_small, mid_eq, mid_eq1, mid_eq2, mid_eq3, List.length_map, List.length_set] at * <;> omega))⟩, by (first | omega | (dsimp only <;> omega) | (simp (disch := omega) only [wrap_small, mid_eq, mid_eq1, mid_eq2, mid_eq3, List.length_map, List.length_set] <;> omega) | (simp (disch := omega) only [wrap_small, mid_eq, mid_eq1, mid_eq2, mid_eq3, List.length_map, List.length_set] at * <;> omega))⟩; (show Sz _ p0.length _); dsimp only; rw [e_slices_insertionSortCmpFunc_int_c_impl_Order_1]; exact sz_ins (N := p0.length) hI1.1 (by (first | omega | (dsimp only <;> omega) | (simp (disch := omega) only [wrap_small, mid_eq, mid_eq1, mid_eq2, mid_eq3, List.length_map, List.length_set] <;> omega) | (simp (disch := omega) only [wrap_small, mid_eq, mid_eq1, mid_eq2, mid_eq3, List.length_map, List.length_set] at * <;> omega))) (by (first | omega | (dsimp only <;> omega) | (simp (disch := omega) only [wrap_small, mid_eq, mid_eq1, mid_eq2, mid_eq3, List.length_map, List.length_set] <;> omega) | (simp (disch := omega) only [wrap_small, mid_eq, mid_eq1, mid_eq2, mid_eq3, List.length_map, List.length_set] at * <;> omega))) (by (first | omega | (dsimp only <;> omega) | (simp (disch := omega) only [wrap_small, mid_eq, mid_eq1, mid_eq2, mid_eq3, List.length_map, List.length_set] <;> omega) | (simp (disch := omega) only [wrap_small, mid_eq, mid_eq1, mid_eq2, mid_eq3, List.length_map, List.length_set] at * <;> omega))) (by omega)) [none, some 1] ⟨rfl, ⟨rfl, rfl, ⟨rfl, rfl, rfl, rfl, by (first | rfl | omega | (dsimp only; omega) | (simp; done) | (simp; omega) | (simp [LstSt.init, LstSt.step, LstInv.init, CntSt.init, CntSt.step, CntInv.init, WhlSt.init, WhlSt.step]; done) | (simp [LstSt.init, LstSt.step, LstInv.init, CntSt.init, CntSt.step, CntInv.init, WhlSt.init, WhlSt.step]; omega))⟩, rfl, ⟨rfl, ⟨rfl, trivial⟩⟩, rfl, trivial⟩, ⟨⟨rfl, rfl, rfl⟩, trivial⟩, ⟨⟨rfl, rfl, rfl, rfl, by (first | rfl | omega | (dsimp only; omega) | (simp; done) | (simp; omega) | (simp [LstSt.init, LstSt.step, LstInv.init, CntSt.init, CntSt.step, CntInv.init, WhlSt.init, WhlSt.step]; done) | (simp [LstSt.init, LstSt.step, LstInv.init, CntSt.init, CntSt.step, CntInv.init, WhlSt.init, WhlSt.step]; omega))⟩, trivial⟩⟩
  · have hg := finE hg (x1.outS hb1)
    refine seqE ?_
    refine .inr ⟨0, _, _, _, c_slices_insertionSortCmpFunc_int_c_impl_Order_1 x1.s.1 x1.s.2.1 p1 p2_0 (by first | exact ⟨⟨hI3.1.1, by (first | omega | (dsimp only <;> omega) | (simp (disch := omega) only [wrap_small, mid_eq, mid_eq1, mid_eq2, mid_eq3, List.length_map, List.length_set] <;> omega) | (simp (disch := omega) only [wrap_small, mid_eq, mid_eq1, mid_eq2, mid_eq3, List.length_map, List.length_set] at * <;> omega))⟩, by (first | omega | (dsimp only <;> omega) | (simp (disch := omega) only [wrap_small, mid_eq, mid_eq1, mid_eq2, mid_eq3, List.length_map, List.length_set] <;> omega) | (simp (disch := omega) only [wrap_small, mid_eq, mid_eq1, mid_eq2, mid_eq3, List.length_map, List.length_set] at * <;> omega)), by (first | omega | (dsimp only <;> omega) | (simp (disch := omega) only [wrap_small, mid_eq, mid_eq1, mid_eq2, mid_eq3, List.length_map, List.length_set] <;> omega) | (simp (disch := omega) only [wrap_small, mid_eq, mid_eq1, mid_eq2, mid_eq3, List.length_map, List.length_set] at * <;> omega)), by (first | omega | (dsimp only <;> omega) | (simp (disch := omega) only [wrap_small, mid_eq, mid_eq1, mid_eq2, mid_eq3, List.length_map, List.length_set] <;> omega) | (simp (disch := omega) only [wrap_small, mid_eq, mid_eq1, mid_eq2, mid_eq3, List.length_map, List.length_set] at * <;> omega)), by (first | omega | (dsimp only <;> omega) | (simp (disch := omega) only [wrap_small, mid_eq, mid_eq1, mid_eq2, mid_eq3, List.length_map, List.length_set] <;> omega) | (simp (disch := omega) only [wrap_small, mid_eq, mid_eq1, mid_eq2, mid_eq3, List.length_map, List.length_set] at * <;> omega))⟩ | exact ⟨⟨hI1.1.1, by (first | omega | (dsimp only <;> omega) | (simp (disch := omega) only [wrap_small, mid_eq, mid_eq1, mid_eq2, mid_eq3, List.length_map, List.length_set] <;> omega) | (simp (disch := omega) only [wrap_small, mid_eq, mid_eq1, mid_eq2, mid_eq3, List.length_map, List.length_set] at * <;> omega))⟩, by (first | omega | (dsimp only <;> omega) | (simp (disch := omega) only [wrap_small, mid_eq, mid_eq1, mid_eq2, mid_eq3, List.length_map, List.length_set] <;> omega) | (simp (disch := omega) only [wrap_small, mid_eq, mid_eq1, mid_eq2, mid_eq3, List.length_map, List.length_set] at * <;> omega)), by (first | omega | (dsimp only <;> omega) | (simp (disch := omega) only [wrap_small, mid_eq, mid_eq1, mid_eq2, mid_eq3, List.length_map, List.length_set] <;> omega) | (simp (disch := omega) only [wrap_small, mid_eq, mid_eq1, mid_eq2, mid_eq3, List.length_map, List.length_set] at * <;> omega)), by (first | omega | (dsimp only <;> omega) | (simp (disch := omega) only [wrap_small, mid_eq, mid_eq1, mid_eq2, mid_eq3, List.length_map, List.length_set] <;> omega) | (simp (disch := omega) only [wrap_small, mid_eq, mid_eq1, mid_eq2, mid_eq3, List.length_map, List.length_set] at * <;> omega))⟩), (FzAs.same _), .inr ⟨ownSl own_cInt _, ?_⟩⟩
    refine litE (m := 3) rfl ?_
    have hz3 := len_slices_insertionSortCmpFunc_int_c_impl_Order_1 x1.s.1 x1.s.2.1 p1 p2_0
    refine loopWE (m := (fun s : (List Int) × Int => (p1 - s.2).toNat)) (s0 := ((slices_insertionSortCmpFunc_int_c_impl_Order_1 x1.s.1 x1.s.2.1 p1 p2_0), 20)) (fun s : (List Int) × Int => (Srt (fun v : Int => 0 ≤ v ∧ v < ((p2_0.length : Nat) : Int)) s.1 ∧ s.1.length = p0.length) ∧ 0 < s.2 ∧ s.2 ≤ 576460752303423488) hg (by refine ⟨?_, by (first | omega | (dsimp only <;> omega) | (simp (disch := omega) only [wrap_small, mid_eq, mid_eq1, mid_eq2, mid_eq3, List.length_map, List.length_set] <;> omega) | (simp (disch := omega) only [wrap_small, mid_eq, mid_eq1, mid_eq2, mid_eq3, List.length_map, List.length_set] at * <;> omega)), by (first | omega | (dsimp only <;> omega) | (simp (disch := omega) only [wrap_small, mid_eq, mid_eq1, mid_eq2, mid_eq3, List.length_map, List.length_set] <;> omega) | (simp (disch := omega) only [wrap_small, mid_eq, mid_eq1, mid_eq2, mid_eq3, List.length_map, List.length_set] at * <;> omega))⟩; (show Sz _ p0.length _); dsimp only; rw [e_slices_insertionSortCmpFunc_int_c_impl_Order_1]; exact sz_ins (N := p0.length) hI1.1 (by (first | omega | (dsimp only <;> omega) | (simp (disch := omega) only [wrap_small, mid_eq, mid_eq1, mid_eq2, mid_eq3, List.length_map, List.length_set] <;> omega) | (simp (disch := omega) only [wrap_small, mid_eq, mid_eq1, mid_eq2, mid_eq3, List.length_map, List.length_set] at * <;> omega))) (by (first | omega | (dsimp only <;> omega) | (simp (disch := omega) only [wrap_small, mid_eq, mid_eq1, mid_eq2, mid_eq3, List.length_map, List.length_set] <;> omega) | (simp (disch := omega) only [wrap_small, mid_eq, mid_eq1, mid_eq2, mid_eq3, List.length_map, List.length_set] at * <;> omega))) (by (first | omega | (dsimp only <;> omega) | (simp (disch := omega) only [wrap_small, mid_eq, mid_eq1, mid_eq2, mid_eq3, List.length_map, List.length_set] <;> omega) | (simp (disch := omega) only [wrap_small, mid_eq, mid_eq1, mid_eq2, mid_eq3, List.length_map, List.length_set] at * <;> omega))) (by omega)) [0, 1, 2] (fun x2 => [(6, .one (.v (.int .i64 x2.s.2)))]) (fun x2 => [.dead, .new ⟨1, false, List.map cInt x2.s.1, 0⟩, .dead]) [none, some 1, none] ?_ (fun x2 => ?_)
    · exact ⟨rfl, ⟨rfl, ⟨rfl, rfl, rfl, rfl, by (first | rfl | omega | (dsimp only; omega) | (simp; done) | (simp; omega) | (simp [LstSt.init, LstSt.step, LstInv.init, CntSt.init, CntSt.step, CntInv.init, WhlSt.init, WhlSt.step]; done) | (simp [LstSt.init, LstSt.step, LstInv.init, CntSt.init, CntSt.step, CntInv.init, WhlSt.init, WhlSt.step]; omega))⟩, rfl, ⟨rfl, ⟨rfl, trivial⟩⟩, trivial⟩, ⟨⟨rfl, rfl, rfl⟩, trivial⟩, ⟨⟨rfl, rfl, rfl, rfl, by (first | rfl | omega | (dsimp only; omega) | (simp; done) | (simp; omega) | (simp [LstSt.init, LstSt.step, LstInv.init, CntSt.init, CntSt.step, CntInv.init, WhlSt.init, WhlSt.step]; done) | (simp [LstSt.init, LstSt.step, LstInv.init, CntSt.init, CntSt.step, CntInv.init, WhlSt.init, WhlSt.step]; omega))⟩, trivial⟩⟩
    have hI2 := x2.hI
    try dsimp only at hI2
    have hb2 := x2.bdy.trans (slices_stableCmpFunc_int_c_impl_Order_1_b2.eq_1 ..)
    refine seqE ?_
    refine seqE ?_
    refine brD hb2 (fun hb2 h4 => ?_) (fun hb2 h4 => ?_)
    · refine seqE ?_
      refine seqE ?_
      refine loopWE (m := (fun s : (List Int) × Int × Int => (p1 + 1 - s.2.2).toNat)) (s0 := (x2.s.1, 0, (IntKind.i64.wrap (2 * x2.s.2)))) (fun s : (List Int) × Int × Int => (Srt (fun v : Int => 0 ≤ v ∧ v < ((p2_0.length : Nat) : Int)) s.1 ∧ s.1.length = p0.length) ∧ 0 ≤ s.2.1 ∧ s.2.2 = s.2.1 + 2 * x2.s.2 ∧ s.2.1 ≤ p1) hb2 (by exact ⟨hI2.1, by (first | omega | (dsimp only <;> omega) | (simp (disch := omega) only [wrap_small, mid_eq, mid_eq1, mid_eq2, mid_eq3, List.length_map, List.length_set] <;> omega) | (simp (disch := omega) only [wrap_small, mid_eq, mid_eq1, mid_eq2, mid_eq3, List.length_map, List.length_set] at * <;> omega)), by (first | omega | (dsimp only <;> omega) | (simp (disch := omega) only [wrap_small, mid_eq, mid_eq1, mid_eq2, mid_eq3, List.length_map, List.length_set] <;> omega) | (simp (disch := omega) only [wrap_small, mid_eq, mid_eq1, mid_eq2, mid_eq3, List.length_map, List.length_set] at * <;> omega)), by (first | omega | (dsimp only <;> omega) | (simp (disch := omega) only [wrap_small, mid_eq, mid_eq1, mid_eq2, mid_eq3, List.length_map, List.length_set] <;> omega) | (simp (disch := omega) only [wrap_small, mid_eq, mid_eq1, mid_eq2, mid_eq3, List.length_map, List.length_set] at * <;> omega))⟩) [0, 1, 2, 6] (fun x3 => [(7, .one (.v (.int .i64 x3.s.2.1))), (8, .one (.v (.int .i64 x3.s.2.2)))]) (fun x3 => [.dead, .new ⟨1, false, List.map cInt x3.s.1, 0⟩, .dead]) [none, some 1, none] ?_ (fun x3 => ?_)
      · exact ⟨rfl, ⟨rfl, rfl, ⟨rfl, rfl, rfl, rfl, by (first | rfl | omega | (dsimp only; omega) | (simp; done) | (simp; omega) | (simp [LstSt.init, LstSt.step, LstInv.init, CntSt.init, CntSt.step, CntInv.init, WhlSt.init, WhlSt.step]; done) | (simp [LstSt.init, LstSt.step, LstInv.init, CntSt.init, CntSt.step, CntInv.init, WhlSt.init, WhlSt.step]; omega))⟩, rfl, ⟨rfl, ⟨rfl, trivial⟩⟩, rfl, trivial⟩, ⟨⟨rfl, rfl, rfl⟩, trivial⟩, ⟨⟨rfl, rfl, rfl, rfl, by (first | rfl | omega | (dsimp only; omega) | (simp; done) | (simp; omega) | (simp [LstSt.init, LstSt.step, LstInv.init, CntSt.init, CntSt.step, CntInv.init, WhlSt.init, WhlSt.step]; done) | (simp [LstSt.init, LstSt.step, LstInv.init, CntSt.init, CntSt.step, CntInv.init, WhlSt.init, WhlSt.step]; omega))⟩, trivial⟩⟩
      have hI3 := x3.hI
      try dsimp only at hI3
      have hb3 := x3.bdy.trans (slices_stableCmpFunc_int_c_impl_Order_1_b3.eq_1 ..)
      refine seqE ?_
      refine seqE ?_
      refine brD hb3 (fun hb3 h5 => ?_) (fun hb3 h5 => ?_)
      · refine seqE ?_
        refine .inr ⟨0, _, _, _, c_slices_symMergeCmpFunc_int_c_impl_Order_1 x3.s.1 x3.s.2.1 (IntKind.i64.wrap (x3.s.2.1 + x2.s.2)) x3.s.2.2 p2_0 (by first | exact ⟨⟨hI3.1.1, by (first | omega | (dsimp only <;> omega) | (simp (disch := omega) only [wrap_small, mid_eq, mid_eq1, mid_eq2, mid_eq3, List.length_map, List.length_set] <;> omega) | (simp (disch := omega) only [wrap_small, mid_eq, mid_eq1, mid_eq2, mid_eq3, List.length_map, List.length_set] at * <;> omega))⟩, by (first | omega | (dsimp only <;> omega) | (simp (disch := omega) only [wrap_small, mid_eq, mid_eq1, mid_eq2, mid_eq3, List.length_map, List.length_set] <;> omega) | (simp (disch := omega) only [wrap_small, mid_eq, mid_eq1, mid_eq2, mid_eq3, List.length_map, List.length_set] at * <;> omega)), by (first | omega | (dsimp only <;> omega) | (simp (disch := omega) only [wrap_small, mid_eq, mid_eq1, mid_eq2, mid_eq3, List.length_map, List.length_set] <;> omega) | (simp (disch := omega) only [wrap_small, mid_eq, mid_eq1, mid_eq2, mid_eq3, List.length_map, List.length_set] at * <;> omega)), by (first | omega | (dsimp only <;> omega) | (simp (disch := omega) only [wrap_small, mid_eq, mid_eq1, mid_eq2, mid_eq3, List.length_map, List.length_set] <;> omega) | (simp (disch := omega) only [wrap_small, mid_eq, mid_eq1, mid_eq2, mid_eq3, List.length_map, List.length_set] at * <;> omega)), by (first | omega | (dsimp only <;> omega) | (simp (disch := omega) only [wrap_small, mid_eq, mid_eq1, mid_eq2, mid_eq3, List.length_map, List.length_set] <;> omega) | (simp (disch := omega) only [wrap_small, mid_eq, mid_eq1, mid_eq2, mid_eq3, List.length_map, List.length_set] at * <;> omega))⟩ | exact ⟨⟨hI1.1.1, by (first | omega | (dsimp only <;> omega) | (simp (disch := omega) only [wrap_small, mid_eq, mid_eq1, mid_eq2, mid_eq3, List.length_map, List.length_set] <;> omega) | (simp (disch := omega) only [wrap_small, mid_eq, mid_eq1, mid_eq2, mid_eq3, List.length_map, List.length_set] at * <;> omega))⟩, by (first | omega | (dsimp only <;> omega) | (simp (disch := omega) only [wrap_small, mid_eq, mid_eq1, mid_eq2, mid_eq3, List.length_map, List.length_set] <;> omega) | (simp (disch := omega) only [wrap_small, mid_eq, mid_eq1, mid_eq2, mid_eq3, List.length_map, List.length_set] at * <;> omega)), by (first | omega | (dsimp only <;> omega) | (simp (disch := omega) only [wrap_small, mid_eq, mid_eq1, mid_eq2, mid_eq3, List.length_map, List.length_set] <;> omega) | (simp (disch := omega) only [wrap_small, mid_eq, mid_eq1, mid_eq2, mid_eq3, List.length_map, List.length_set] at * <;> omega)), by (first | omega | (dsimp only <;> omega) | (simp (disch := omega) only [wrap_small, mid_eq, mid_eq1, mid_eq2, mid_eq3, List.length_map, List.length_set] <;> omega) | (simp (disch := omega) only [wrap_small, mid_eq, mid_eq1, mid_eq2, mid_eq3, List.length_map, List.length_set] at * <;> omega))⟩), (FzAs.same _), .inr ⟨ownSl own_cInt _, ?_⟩⟩
        refine litE (m := 4) rfl ?_
        have hz6 := len_slices_symMergeCmpFunc_int_c_impl_Order_1 x3.s.1 x3.s.2.1 (IntKind.i64.wrap (x3.s.2.1 + x2.s.2)) x3.s.2.2 p2_0
        refine seqE ?_
        exact x3.goE hb3 (show (fun s : (List Int) × Int × Int => (Srt (fun v : Int => 0 ≤ v ∧ v < ((p2_0.length : Nat) : Int)) s.1 ∧ s.1.length = p0.length) ∧ 0 ≤ s.2.1 ∧ s.2.2 = s.2.1 + 2 * x2.s.2 ∧ s.2.1 ≤ p1) ((slices_symMergeCmpFunc_int_c_impl_Order_1 x3.s.1 x3.s.2.1 (IntKind.i64.wrap (x3.s.2.1 + x2.s.2)) x3.s.2.2 p2_0), x3.s.2.2, (IntKind.i64.wrap (x3.s.2.2 + (IntKind.i64.wrap (2 * x2.s.2))))) ∧ (fun s : (List Int) × Int × Int => (p1 + 1 - s.2.2).toNat) ((slices_symMergeCmpFunc_int_c_impl_Order_1 x3.s.1 x3.s.2.1 (IntKind.i64.wrap (x3.s.2.1 + x2.s.2)) x3.s.2.2 p2_0), x3.s.2.2, (IntKind.i64.wrap (x3.s.2.2 + (IntKind.i64.wrap (2 * x2.s.2))))) < (fun s : (List Int) × Int × Int => (p1 + 1 - s.2.2).toNat) x3.s by refine ⟨⟨?_, by (first | omega | (dsimp only <;> omega) | (simp (disch := omega) only [wrap_small, mid_eq, mid_eq1, mid_eq2, mid_eq3, List.length_map, List.length_set] <;> omega) | (simp (disch := omega) only [wrap_small, mid_eq, mid_eq1, mid_eq2, mid_eq3, List.length_map, List.length_set] at * <;> omega)), by (first | omega | (dsimp only <;> omega) | (simp (disch := omega) only [wrap_small, mid_eq, mid_eq1, mid_eq2, mid_eq3, List.length_map, List.length_set] <;> omega) | (simp (disch := omega) only [wrap_small, mid_eq, mid_eq1, mid_eq2, mid_eq3, List.length_map, List.length_set] at * <;> omega)), by (first | omega | (dsimp only <;> omega) | (simp (disch := omega) only [wrap_small, mid_eq, mid_eq1, mid_eq2, mid_eq3, List.length_map, List.length_set] <;> omega) | (simp (disch := omega) only [wrap_small, mid_eq, mid_eq1, mid_eq2, mid_eq3, List.length_map, List.length_set] at * <;> omega))⟩, by (first | omega | (dsimp only <;> omega) | (simp (disch := omega) only [wrap_small, mid_eq, mid_eq1, mid_eq2, mid_eq3, List.length_map, List.length_set] <;> omega) | (simp (disch := omega) only [wrap_small, mid_eq, mid_eq1, mid_eq2, mid_eq3, List.length_map, List.length_set] at * <;> omega))⟩; (show Sz _ p0.length _); dsimp only; rw [e_slices_symMergeCmpFunc_int_c_impl_Order_1]; exact sz_sym (N := p0.length) hI3.1 (by (first | omega | (dsimp only <;> omega) | (simp (disch := omega) only [wrap_small, mid_eq, mid_eq1, mid_eq2, mid_eq3, List.length_map, List.length_set] <;> omega) | (simp (disch := omega) only [wrap_small, mid_eq, mid_eq1, mid_eq2, mid_eq3, List.length_map, List.length_set] at * <;> omega))) (by (first | omega | (dsimp only <;> omega) | (simp (disch := omega) only [wrap_small, mid_eq, mid_eq1, mid_eq2, mid_eq3, List.length_map, List.length_set] <;> omega) | (simp (disch := omega) only [wrap_small, mid_eq, mid_eq1, mid_eq2, mid_eq3, List.length_map, List.length_set] at * <;> omega))) (by (first | omega | (dsimp only <;> omega) | (simp (disch := omega) only [wrap_small, mid_eq, mid_eq1, mid_eq2, mid_eq3, List.length_map, List.length_set] <;> omega) | (simp (disch := omega) only [wrap_small, mid_eq, mid_eq1, mid_eq2, mid_eq3, List.length_map, List.length_set] at * <;> omega))) (by (first | omega | (dsimp only <;> omega) | (simp (disch := omega) only [wrap_small, mid_eq, mid_eq1, mid_eq2, mid_eq3, List.length_map, List.length_set] <;> omega) | (simp (disch := omega) only [wrap_small, mid_eq, mid_eq1, mid_eq2, mid_eq3, List.length_map, List.length_set] at * <;> omega))) (by omega)) [none, some 1, none] ⟨rfl, ⟨rfl, rfl, ⟨rfl, rfl, rfl, rfl, by (first | rfl | omega | (dsimp only; omega) | (simp; done) | (simp; omega) | (simp [LstSt.init, LstSt.step, LstInv.init, CntSt.init, CntSt.step, CntInv.init, WhlSt.init, WhlSt.step]; done) | (simp [LstSt.init, LstSt.step, LstInv.init, CntSt.init, CntSt.step, CntInv.init, WhlSt.init, WhlSt.step]; omega))⟩, rfl, ⟨rfl, ⟨rfl, trivial⟩⟩, rfl, trivial⟩, ⟨⟨rfl, rfl, rfl⟩, trivial⟩, ⟨⟨rfl, rfl, rfl, rfl, by (first | rfl | omega | (dsimp only; omega) | (simp; done) | (simp; omega) | (simp [LstSt.init, LstSt.step, LstInv.init, CntSt.init, CntSt.step, CntInv.init, WhlSt.init, WhlSt.step]; done) | (simp [LstSt.init, LstSt.step, LstInv.init, CntSt.init, CntSt.step, CntInv.init, WhlSt.init, WhlSt.step]; omega))⟩, trivial⟩⟩
      · have hb2 := finE hb2 (x3.outS hb3)
        refine seqE ?_
        refine seqE ?_
        refine seqE ?_
        refine brD hb2 (fun hb2 h7 => ?_) (fun hb2 h7 => x2.goE hb2 (show (fun s : (List Int) × Int => (Srt (fun v : Int => 0 ≤ v ∧ v < ((p2_0.length : Nat) : Int)) s.1 ∧ s.1.length = p0.length) ∧ 0 < s.2 ∧ s.2 ≤ 576460752303423488) (x3.s.1, (IntKind.i64.wrap (x2.s.2 * 2))) ∧ (fun s : (List Int) × Int => (p1 - s.2).toNat) (x3.s.1, (IntKind.i64.wrap (x2.s.2 * 2))) < (fun s : (List Int) × Int => (p1 - s.2).toNat) x2.s by refine ⟨⟨?_, by (first | omega | (dsimp only <;> omega) | (simp (disch := omega) only [wrap_small, mid_eq, mid_eq1, mid_eq2, mid_eq3, List.length_map, List.length_set] <;> omega) | (simp (disch := omega) only [wrap_small, mid_eq, mid_eq1, mid_eq2, mid_eq3, List.length_map, List.length_set] at * <;> omega)), by (first | omega | (dsimp only <;> omega) | (simp (disch := omega) only [wrap_small, mid_eq, mid_eq1, mid_eq2, mid_eq3, List.length_map, List.length_set] <;> omega) | (simp (disch := omega) only [wrap_small, mid_eq, mid_eq1, mid_eq2, mid_eq3, List.length_map, List.length_set] at * <;> omega))⟩, by (first | omega | (dsimp only <;> omega) | (simp (disch := omega) only [wrap_small, mid_eq, mid_eq1, mid_eq2, mid_eq3, List.length_map, List.length_set] <;> omega) | (simp (disch := omega) only [wrap_small, mid_eq, mid_eq1, mid_eq2, mid_eq3, List.length_map, List.length_set] at * <;> omega))⟩; first | exact hI3.1 | ((show Sz _ p0.length _); dsimp only; rw [e_slices_symMergeCmpFunc_int_c_impl_Order_1]; exact sz_sym (N := p0.length) hI3.1 (by (first | omega | (dsimp only <;> omega) | (simp (disch := omega) only [wrap_small, mid_eq, mid_eq1, mid_eq2, mid_eq3, List.length_map, List.length_set] <;> omega) | (simp (disch := omega) only [wrap_small, mid_eq, mid_eq1, mid_eq2, mid_eq3, List.length_map, List.length_set] at * <;> omega))) (by (first | omega | (dsimp only <;> omega) | (simp (disch := omega) only [wrap_small, mid_eq, mid_eq1, mid_eq2, mid_eq3, List.length_map, List.length_set] <;> omega) | (simp (disch := omega) only [wrap_small, mid_eq, mid_eq1, mid_eq2, mid_eq3, List.length_map, List.length_set] at * <;> omega))) (by (first | omega | (dsimp only <;> omega) | (simp (disch := omega) only [wrap_small, mid_eq, mid_eq1, mid_eq2, mid_eq3, List.length_map, List.length_set] <;> omega) | (simp (disch := omega) only [wrap_small, mid_eq, mid_eq1, mid_eq2, mid_eq3, List.length_map, List.length_set] at * <;> omega))) (by (first | omega | (dsimp only <;> omega) | (simp (disch := omega) only [wrap_small, mid_eq, mid_eq1, mid_eq2, mid_eq3, List.length_map, List.length_set] <;> omega) | (simp (disch := omega) only [wrap_small, mid_eq, mid_eq1, mid_eq2, mid_eq3, List.length_map, List.length_set] at * <;> omega))) (by omega))) [none, some 1, none] ⟨rfl, ⟨rfl, ⟨rfl, rfl, rfl, rfl, by (first | rfl | omega | (dsimp only; omega) | (simp; done) | (simp; omega) | (simp [LstSt.init, LstSt.step, LstInv.init, CntSt.init, CntSt.step, CntInv.init, WhlSt.init, WhlSt.step]; done) | (simp [LstSt.init, LstSt.step, LstInv.init, CntSt.init, CntSt.step, CntInv.init, WhlSt.init, WhlSt.step]; omega))⟩, rfl, ⟨rfl, ⟨rfl, trivial⟩⟩, trivial⟩, ⟨⟨rfl, rfl, rfl⟩, trivial⟩, ⟨⟨rfl, rfl, rfl, rfl, by (first | rfl | omega | (dsimp only; omega) | (simp; done) | (simp; omega) | (simp [LstSt.init, LstSt.step, LstInv.init, CntSt.init, CntSt.step, CntInv.init, WhlSt.init, WhlSt.step]; done) | (simp [LstSt.init, LstSt.step, LstInv.init, CntSt.init, CntSt.step, CntInv.init, WhlSt.init, WhlSt.step]; omega))⟩, trivial⟩⟩)
        refine .inr ⟨0, _, _, _, c_slices_symMergeCmpFunc_int_c_impl_Order_1 x3.s.1 x3.s.2.1 (IntKind.i64.wrap (x3.s.2.1 + x2.s.2)) p1 p2_0 (by first | exact ⟨⟨hI3.1.1, by (first | omega | (dsimp only <;> omega) | (simp (disch := omega) only [wrap_small, mid_eq, mid_eq1, mid_eq2, mid_eq3, List.length_map, List.length_set] <;> omega) | (simp (disch := omega) only [wrap_small, mid_eq, mid_eq1, mid_eq2, mid_eq3, List.length_map, List.length_set] at * <;> omega))⟩, by (first | omega | (dsimp only <;> omega) | (simp (disch := omega) only [wrap_small, mid_eq, mid_eq1, mid_eq2, mid_eq3, List.length_map, List.length_set] <;> omega) | (simp (disch := omega) only [wrap_small, mid_eq, mid_eq1, mid_eq2, mid_eq3, List.length_map, List.length_set] at * <;> omega)), by (first | omega | (dsimp only <;> omega) | (simp (disch := omega) only [wrap_small, mid_eq, mid_eq1, mid_eq2, mid_eq3, List.length_map, List.length_set] <;> omega) | (simp (disch := omega) only [wrap_small, mid_eq, mid_eq1, mid_eq2, mid_eq3, List.length_map, List.length_set] at * <;> omega)), by (first | omega | (dsimp only <;> omega) | (simp (disch := omega) only [wrap_small, mid_eq, mid_eq1, mid_eq2, mid_eq3, List.length_map, List.length_set] <;> omega) | (simp (disch := omega) only [wrap_small, mid_eq, mid_eq1, mid_eq2, mid_eq3, List.length_map, List.length_set] at * <;> omega)), by (first | omega | (dsimp only <;> omega) | (simp (disch := omega) only [wrap_small, mid_eq, mid_eq1, mid_eq2, mid_eq3, List.length_map, List.length_set] <;> omega) | (simp (disch := omega) only [wrap_small, mid_eq, mid_eq1, mid_eq2, mid_eq3, List.length_map, List.length_set] at * <;> omega))⟩ | exact ⟨⟨hI1.1.1, by (first | omega | (dsimp only <;> omega) | (simp (disch := omega) only [wrap_small, mid_eq, mid_eq1, mid_eq2, mid_eq3, List.length_map, List.length_set] <;> omega) | (simp (disch := omega) only [wrap_small, mid_eq, mid_eq1, mid_eq2, mid_eq3, List.length_map, List.length_set] at * <;> omega))⟩, by (first | omega | (dsimp only <;> omega) | (simp (disch := omega) only [wrap_small, mid_eq, mid_eq1, mid_eq2, mid_eq3, List.length_map, List.length_set] <;> omega) | (simp (disch := omega) only [wrap_small, mid_eq, mid_eq1, mid_eq2, mid_eq3, List.length_map, List.length_set] at * <;> omega)), by (first | omega | (dsimp only <;> omega) | (simp (disch := omega) only [wrap_small, mid_eq, mid_eq1, mid_eq2, mid_eq3, List.length_map, List.length_set] <;> omega) | (simp (disch := omega) only [wrap_small, mid_eq, mid_eq1, mid_eq2, mid_eq3, List.length_map, List.length_set] at * <;> omega)), by (first | omega | (dsimp only <;> omega) | (simp (disch := omega) only [wrap_small, mid_eq, mid_eq1, mid_eq2, mid_eq3, List.length_map, List.length_set] <;> omega) | (simp (disch := omega) only [wrap_small, mid_eq, mid_eq1, mid_eq2, mid_eq3, List.length_map, List.length_set] at * <;> omega))⟩), (FzAs.same _), .inr ⟨ownSl own_cInt _, ?_⟩⟩
        refine litE (m := 4) rfl ?_
        have hz8 := len_slices_symMergeCmpFunc_int_c_impl_Order_1 x3.s.1 x3.s.2.1 (IntKind.i64.wrap (x3.s.2.1 + x2.s.2)) p1 p2_0
        exact x2.goE hb2 (show (fun s : (List Int) × Int => (Srt (fun v : Int => 0 ≤ v ∧ v < ((p2_0.length : Nat) : Int)) s.1 ∧ s.1.length = p0.length) ∧ 0 < s.2 ∧ s.2 ≤ 576460752303423488) ((slices_symMergeCmpFunc_int_c_impl_Order_1 x3.s.1 x3.s.2.1 (IntKind.i64.wrap (x3.s.2.1 + x2.s.2)) p1 p2_0), (IntKind.i64.wrap (x2.s.2 * 2))) ∧ (fun s : (List Int) × Int => (p1 - s.2).toNat) ((slices_symMergeCmpFunc_int_c_impl_Order_1 x3.s.1 x3.s.2.1 (IntKind.i64.wrap (x3.s.2.1 + x2.s.2)) p1 p2_0), (IntKind.i64.wrap (x2.s.2 * 2))) < (fun s : (List Int) × Int => (p1 - s.2).toNat) x2.s by refine ⟨⟨?_, by (first | omega | (dsimp only <;> omega) | (simp (disch := omega) only [wrap_small, mid_eq, mid_eq1, mid_eq2, mid_eq3, List.length_map, List.length_set] <;> omega) | (simp (disch := omega) only [wrap_small, mid_eq, mid_eq1, mid_eq2, mid_eq3, List.length_map, List.length_set] at * <;> omega)), by (first | omega | (dsimp only <;> omega) | (simp (disch := omega) only [wrap_small, mid_eq, mid_eq1, mid_eq2, mid_eq3, List.length_map, List.length_set] <;> omega) | (simp (disch := omega) only [wrap_small, mid_eq, mid_eq1, mid_eq2, mid_eq3, List.length_map, List.length_set] at * <;> omega))⟩, by (first | omega | (dsimp only <;> omega) | (simp (disch := omega) only [wrap_small, mid_eq, mid_eq1, mid_eq2, mid_eq3, List.length_map, List.length_set] <;> omega) | (simp (disch := omega) only [wrap_small, mid_eq, mid_eq1, mid_eq2, mid_eq3, List.length_map, List.length_set] at * <;> omega))⟩; first | exact hI3.1 | ((show Sz _ p0.length _); dsimp only; rw [e_slices_symMergeCmpFunc_int_c_impl_Order_1]; exact sz_sym (N := p0.length) hI3.1 (by (first | omega | (dsimp only <;> omega) | (simp (disch := omega) only [wrap_small, mid_eq, mid_eq1, mid_eq2, mid_eq3, List.length_map, List.length_set] <;> omega) | (simp (disch := omega) only [wrap_small, mid_eq, mid_eq1, mid_eq2, mid_eq3, List.length_map, List.length_set] at * <;> omega))) (by (first | omega | (dsimp only <;> omega) | (simp (disch := omega) only [wrap_small, mid_eq, mid_eq1, mid_eq2, mid_eq3, List.length_map, List.length_set] <;> omega) | (simp (disch := omega) only [wrap_small, mid_eq, mid_eq1, mid_eq2, mid_eq3, List.length_map, List.length_set] at * <;> omega))) (by (first | omega | (dsimp only <;> omega) | (simp (disch := omega) only [wrap_small, mid_eq, mid_eq1, mid_eq2, mid_eq3, List.length_map, List.length_set] <;> omega) | (simp (disch := omega) only [wrap_small, mid_eq, mid_eq1, mid_eq2, mid_eq3, List.length_map, List.length_set] at * <;> omega))) (by (first | omega | (dsimp only <;> omega) | (simp (disch := omega) only [wrap_small, mid_eq, mid_eq1, mid_eq2, mid_eq3, List.length_map, List.length_set] <;> omega) | (simp (disch := omega) only [wrap_small, mid_eq, mid_eq1, mid_eq2, mid_eq3, List.length_map, List.length_set] at * <;> omega))) (by omega))) [none, some 1, none] ⟨rfl, ⟨rfl, ⟨rfl, rfl, rfl, rfl, by (first | rfl | omega | (dsimp only; omega) | (simp; done) | (simp; omega) | (simp [LstSt.init, LstSt.step, LstInv.init, CntSt.init, CntSt.step, CntInv.init, WhlSt.init, WhlSt.step]; done) | (simp [LstSt.init, LstSt.step, LstInv.init, CntSt.init, CntSt.step, CntInv.init, WhlSt.init, WhlSt.step]; omega))⟩, rfl, ⟨rfl, ⟨rfl, trivial⟩⟩, trivial⟩, ⟨⟨rfl, rfl, rfl⟩, trivial⟩, ⟨⟨rfl, rfl, rfl, rfl, by (first | rfl | omega | (dsimp only; omega) | (simp; done) | (simp; omega) | (simp [LstSt.init, LstSt.step, LstInv.init, CntSt.init, CntSt.step, CntInv.init, WhlSt.init, WhlSt.step]; done) | (simp [LstSt.init, LstSt.step, LstInv.init, CntSt.init, CntSt.step, CntInv.init, WhlSt.init, WhlSt.step]; omega))⟩, trivial⟩⟩
    · have hg := finE hg (x2.outS hb2)
      exact leafM hown hg
theorem e_slices_stableCmpFunc_int_c_impl_Order_1 (p0 : List Int) (p1 : Int) (c : List Deed) : slices_stableCmpFunc_int_c_impl_Order_1 p0 p1 c = g_stable p0 p1 (fun x y => impl_Order_1 x y c) := by
  have hs := fun (a : List Int) (x y z : Int) => e_slices_symMergeCmpFunc_int_c_impl_Order_1 a x y z c
  have h3 : ∀ s2 s3, slices_stableCmpFunc_int_c_impl_Order_1_b3 p1 s2 c s3 = g_stable_b3 p1 s2 (fun x y => impl_Order_1 x y c) s3 := by intro s2 s3; unfold slices_stableCmpFunc_int_c_impl_Order_1_b3 g_stable_b3; simp only [hs]
  have h3' : ∀ s2, slices_stableCmpFunc_int_c_impl_Order_1_b3 p1 s2 c = g_stable_b3 p1 s2 (fun x y => impl_Order_1 x y c) := fun s2 => funext (h3 s2)
  have h2 : slices_stableCmpFunc_int_c_impl_Order_1_b2 p1 c = g_stable_b2 p1 (fun x y => impl_Order_1 x y c) := by funext s2; unfold slices_stableCmpFunc_int_c_impl_Order_1_b2 g_stable_b2; simp only [h3', hs]
  unfold slices_stableCmpFunc_int_c_impl_Order_1 g_stable
  rw [h2]
  rfl
def slices_SortStableFunc_Sint_int_c_impl_Order_1 (p0 : (List Int)) (p1_0 : (List Deed)) : (List Int) :=
  (slices_stableCmpFunc_int_c_impl_Order_1 p0 (((p0).length : Nat) : Int) p1_0)
theorem c_slices_SortStableFunc_Sint_int_c_impl_Order_1 (p0 : (List Int)) (p1_0 : (List Deed)) (hs : Srt (fun v : Int => 0 ≤ v ∧ v < ((p1_0.length : Nat) : Int)) p0 ∧ p0.length ≤ 288230376151711744) : FnOk prog 202 [.tup [.one (.s true 1 (List.map cInt p0))], .one (.c 203 [.q 1 [[.s false 20 (List.map (Deed.cells false) p1_0)]] 0 0])] ⟨.tup [], [.one (.s true 1 (List.map cInt ((slices_SortStableFunc_Sint_int_c_impl_Order_1 p0 p1_0))))], [], false⟩ := by
  refine FnOk.introM (E := env) envOk wide func202 rfl (by kernel_rfl) rfl ?_
  have hg := slices_SortStableFunc_Sint_int_c_impl_Order_1.eq_1 p0 p1_0
  have hown : (∀ g : (List Int), AV.Own (AV.tup [])) ∧ (fun g : (List Int) => T.s true 1 (List.map cInt (g))) = _ := ⟨fun g => trivial, rfl⟩
  refine lenE (k := (p0).length) (by simp) (fun hN1 => ?_)
  refine .inr ⟨0, _, _, _, c_slices_stableCmpFunc_int_c_impl_Order_1 p0 (((p0).length : Nat) : Int) p1_0 (by exact ⟨hs, rfl⟩), (FzAs.same _), .inr ⟨ownSl own_cInt _, ?_⟩⟩
  refine litE (m := 3) rfl ?_
  exact leafM hown hg
theorem e_slices_SortStableFunc_Sint_int_c_impl_Order_1 (p0 : List Int) (c : List Deed) : slices_SortStableFunc_Sint_int_c_impl_Order_1 p0 c = g_stable p0 ((p0.length : Nat) : Int) (fun x y => impl_Order_1 x y c) := e_slices_stableCmpFunc_int_c_impl_Order_1 _ _ _
def impl_Order_b1 (i1 : Nat) (s1 : (List Int)) (a1 : Deed) : Step ((List Int)) (List Int) :=
  (bif (a1.Lin != (-1)) then (.next (s1 ++ [((i1 : Nat) : Int)])) else (.next s1))
def impl_Order (p0 : (List Deed)) : (List Int) :=
  (Fin.get (fun s1 => (slices_SortStableFunc_Sint_int_c_impl_Order_1 s1 p0)) (loopL impl_Order_b1 0 ([] : List Int) p0))
theorem c_impl_Order (p0 : (List Deed)) (hs : p0.length ≤ 1048576) : FnOk prog 173 [.one (.s false 20 (List.map (Deed.cells false) p0))] ⟨.one (.s true 1 (List.map cInt (impl_Order p0))), [], [], false⟩ := by
  refine FnOk.intro (E := env) envOk wide func173 rfl (by kernel_rfl) rfl rfl ?_
  have hg := impl_Order.eq_1 p0
  have hown : ∀ g : (List Int), AV.Own (AV.one (.s true 1 (List.map cInt g))) := fun g => ownSl own_cInt _
  refine seqE ?_
  refine litE (m := 0) rfl ?_
  refine seqE ?_
  refine seqE ?_
  refine seqE ?_
  refine lenM fun hN1 => ?_
  refine loopLI (fun (i : Nat) (s : List Int) => s.length ≤ i ∧ Srt (fun v : Int => 0 ≤ v ∧ v < ((p0.length : Nat) : Int) ∧ v < ((i : Nat) : Int)) s) hg (⟨Nat.le_refl _, by simp [Srt]⟩) [1, 6, 7] (fun x1 => [(3, .one (.n 1 [] 1 0 (x1.s).length)), (8, .one (.v (.int .i64 ((x1.i : Nat) : Int))))]) (fun x1 => [.keep 0, .new ⟨1, false, List.map cInt x1.s, 0⟩]) [some 0, none] ?_ (fun x1 => ?_)
  · exact ⟨rfl, ⟨⟨rfl, rfl, rfl, rfl, rfl⟩, rfl, ⟨rfl, rfl, rfl, rfl⟩, rfl, rfl, trivial⟩, ⟨⟨rfl, rfl, ⟨rfl, trivial⟩⟩, ⟨rfl, rfl⟩, trivial⟩, trivial⟩
  have hI1 := x1.hI
  try dsimp only at hI1
  refine seqE ?_
  refine seqE ?_
  refine tstL (fun hi1 => ?_) (fun hi1 => ?_)
  · have hb1 := (x1.bdy hi1).trans (impl_Order_b1.eq_1 ..)
    have hw1 := wrap_succ hi1 (by first | assumption | omega)
    refine seqE ?_
    refine seqE ?_
    refine idxAt hi1 ?_
    refine litE (m := 2) rfl ?_
    refine seqE ?_
    refine brW hb1 (fun hb1 h2 => ?_) (fun hb1 h2 => x1.goE hi1 hb1 (by first | exact ord_keep hI1 | exact ord_add hI1 hi1) [some 0, some 1] ⟨rfl, ⟨⟨rfl, rfl, rfl, rfl, by (first | rfl | omega | (dsimp only; omega) | (simp; done) | (simp; omega) | (simp [LstSt.init, LstSt.step, LstInv.init, CntSt.init, CntSt.step, CntInv.init, WhlSt.init, WhlSt.step]; done) | (simp [LstSt.init, LstSt.step, LstInv.init, CntSt.init, CntSt.step, CntInv.init, WhlSt.init, WhlSt.step]; omega))⟩, (eqInt hw1), ⟨rfl, rfl, rfl, rfl⟩, rfl, rfl, trivial⟩, ⟨⟨rfl, rfl, ⟨rfl, trivial⟩⟩, ⟨rfl, rfl, rfl⟩, trivial⟩, trivial⟩)
    refine litE (m := 3) rfl ?_
    refine .inl ?_
    refine rowsE (Y := List.map cInt (x1.s ++ [((x1.i : Nat) : Int)])) (by first | rfl | (simp [subR0, subR1, -List.map_take, -List.map_drop, take_map', drop_map', fz_cInt, fl_cInt, fzMap fz_cInt, flMap fl_cInt]; done) | (simp [subR0, subR1, -List.map_take, -List.map_drop, take_map', drop_map', fz_cInt, fl_cInt, fzMap fz_cInt, flMap fl_cInt]; rfl)) ?_
    refine appB (b := 8) (hs := by have q1 := hI1.1; refine ⟨?_, ?_⟩; (show List.length _ * 8 ≤ _); (simp only [List.length_append, List.length_cons, List.length_nil]); omega; (simp only [List.length_append, List.length_cons, List.length_nil]); omega) ?_
    refine litE (m := 4) rfl ?_
    exact x1.goE hi1 hb1 (by first | exact ord_keep hI1 | exact ord_add hI1 hi1) [some 0, some 4] ⟨rfl, ⟨⟨rfl, rfl, rfl, rfl, by (first | rfl | omega | (dsimp only; omega) | (simp; done) | (simp; omega) | (simp [LstSt.init, LstSt.step, LstInv.init, CntSt.init, CntSt.step, CntInv.init, WhlSt.init, WhlSt.step]; done) | (simp [LstSt.init, LstSt.step, LstInv.init, CntSt.init, CntSt.step, CntInv.init, WhlSt.init, WhlSt.step]; omega))⟩, (eqInt hw1), ⟨rfl, rfl, rfl, rfl⟩, rfl, rfl, trivial⟩, ⟨⟨rfl, rfl, ⟨rfl, trivial⟩⟩, ⟨rfl, rfl, rfl⟩, trivial⟩, trivial⟩
  have hg := finE hg (x1.fin hi1)
  refine seqE ?_
  refine .inr ⟨0, _, _, _, c_slices_SortStableFunc_Sint_int_c_impl_Order_1 x1.s p0 (by exact ⟨fun v hv => ⟨(hI1.2 v hv).1, (hI1.2 v hv).2.1⟩, by have q1 := hI1.1; have q2 := x1.h; omega⟩), (FzAs.same _), .inr ⟨ownSl own_cInt _, ?_⟩⟩
  refine litE (m := 3) rfl ?_
  refine seqE ?_
  exact leafE hown hg
theorem impl_Order_ok (p0 : List Deed) (h : p0.length ≤ 1048576) : OrdOk Deed.Lin p0 (impl_Order p0) := by
  have e : impl_Order p0 = g_stable (flL Deed.Lin 0 p0) (((flL Deed.Lin 0 p0).length : Nat) : Int) (fun x y => impl_Order_1 x y p0) := by
    unfold impl_Order
    rw [list_bd Deed.Lin (b := impl_Order_b1) (fun i s a => rfl), List.nil_append]
    exact e_slices_SortStableFunc_Sint_int_c_impl_Order_1 _ _
  rw [e]
  refine sort_ok Deed.Lin p0 (fun x y => ?_) h
  have hn : ∀ z : Int, cmp_isNaN_int z = false := fun z => by unfold cmp_isNaN_int; simp
  show cmp_Compare_int _ _ = _
  unfold cmp_Compare_int cmL lnA
  rw [hn, hn]
  simp only [cond_false]
  by_cases h1 : (p0[x.toNat]?.getD default).Lin < (p0[y.toNat]?.getD default).Lin
  · rw [if_pos h1, decide_eq_true h1]; rfl
  · rw [if_neg h1, decide_eq_false h1]
    by_cases h2 : (p0[x.toNat]?.getD default).Lin > (p0[y.toNat]?.getD default).Lin
    · rw [if_pos h2, decide_eq_true h2]; rfl
    · rw [if_neg h2, decide_eq_false h2]; rfl
def impl_ordered_b1 (p0 : (List Deed)) (i1 : Nat) (s1 : (List Deed)) (a1 : Int) : Step ((List Deed)) (List Deed) :=
  (.next (s1 ++ [(p0[(a1).toNat]?.getD default)]))
def impl_ordered (p0 : (List Deed)) : (List Deed) :=
  (Fin.get (fun s1 => s1) (loopL (impl_ordered_b1 p0) 0 ([] : List Deed) (impl_Order p0)))
theorem c_impl_ordered (p0 : (List Deed)) (hs : bdS Deed.bd 1048576 p0) : FnOk prog 109 [.one (.s false 20 (List.map (Deed.cells false) p0))] ⟨.one (.s true 20 (List.map (Deed.cells false) (impl_ordered p0))), [], [], true⟩ := by
  refine FnOk.intro (E := env) envOk wide func109 rfl (by kernel_rfl) rfl rfl ?_
  have hg := impl_ordered.eq_1 p0
  have hown : (fun g : (List Deed) => AV.one (.s true 20 (List.map (Deed.cells false) g))) = _ := rfl
  refine seqE ?_
  refine seqE ?_
  refine seqE ?_
  refine seqE ?_
  refine .inl (⟨_, _, c_impl_Order p0 (by exact hs.1), (FzAs.same _), ?_⟩)
  refine litE (m := 1) rfl ?_
  refine lenE (k := ((impl_Order p0)).length) (by simp) (fun hN1 => ?_)
  refine loopLI (fun (i : Nat) s => s.length ≤ i) hg (Nat.le_refl _) [0, 7, 8] (fun x1 => [(3, .one (.n 2 [] 1 0 (x1.s).length)), (9, .one (.v (.int .i64 ((x1.i : Nat) : Int))))]) (fun x1 => [.dead, .keep 1, .new ⟨20, false, List.map (Deed.cells false) x1.s, 0⟩]) [none, some 1, none] ?_ (fun x1 => ?_)
  · exact ⟨rfl, ⟨⟨rfl, rfl, rfl, rfl, rfl⟩, rfl, rfl, ⟨rfl, rfl, rfl, rfl, by (first | rfl | omega | (dsimp only; omega) | (simp; done) | (simp; omega) | (simp [LstSt.init, LstSt.step, LstInv.init, CntSt.init, CntSt.step, CntInv.init, WhlSt.init, WhlSt.step]; done) | (simp [LstSt.init, LstSt.step, LstInv.init, CntSt.init, CntSt.step, CntInv.init, WhlSt.init, WhlSt.step]; omega))⟩, rfl, trivial⟩, ⟨⟨rfl, rfl, rfl⟩, ⟨rfl, rfl⟩, trivial⟩, trivial⟩
  have hI1 := x1.hI
  try dsimp only at hI1
  refine seqE ?_
  refine seqE ?_
  refine tstL (fun hi1 => ?_) (fun hi1 => ?_)
  · have hb1 := (x1.bdy hi1).trans (impl_ordered_b1.eq_1 ..)
    have hw1 := wrap_succ hi1 (by first | assumption | omega)
    refine seqE ?_
    refine seqE ?_
    refine andE (by have q := (impl_Order_ok p0 hs.1).mem (List.getElem_mem hi1); (first | omega | (dsimp only <;> omega) | (simp (disch := omega) only [wrap_small, mid_eq, mid_eq1, mid_eq2, mid_eq3, List.length_map, List.length_set] <;> omega) | (simp (disch := omega) only [wrap_small, mid_eq, mid_eq1, mid_eq2, mid_eq3, List.length_map, List.length_set] at * <;> omega))) ?_
    refine rowAtE (i := x1.i) (l := (impl_Order p0)) (by first | rfl | exact Nat.zero_add _ | simp) hi1 ?_
    refine idxOf (l := p0) (by have q := (impl_Order_ok p0 hs.1).mem (List.getElem_mem hi1); (first | omega | (dsimp only <;> omega) | (simp (disch := omega) only [wrap_small, mid_eq, mid_eq1, mid_eq2, mid_eq3, List.length_map, List.length_set] <;> omega) | (simp (disch := omega) only [wrap_small, mid_eq, mid_eq1, mid_eq2, mid_eq3, List.length_map, List.length_set] at * <;> omega))) (fun hq2 => ?_)
    refine litE (m := 3) rfl ?_
    refine .inr ?_
    refine rowsE (Y := List.map (Deed.cells false) (x1.s ++ [(p0[(((impl_Order p0)[x1.i]'hi1)).toNat]?.getD default)])) (by first | rfl | (simp [subR0, subR1, -List.map_take, -List.map_drop, take_map', drop_map', fz_Deed, fzMap fz_Deed, shMap sh_Deed]; done) | (simp [subR0, subR1, -List.map_take, -List.map_drop, take_map', drop_map', fz_Deed, fzMap fz_Deed, shMap sh_Deed]; rfl)) ?_
    refine appB (b := 168) (hs := by have q0 := hs.1; have q1 := hI1; have q2 := hi1; have q3 := (impl_Order_ok p0 hs.1).len; refine ⟨?_, ?_⟩; (show List.length _ * 168 ≤ _); (try simp only [List.length_map, List.length_append, List.length_cons, List.length_nil]); omega; (try simp only [List.length_map, List.length_append, List.length_cons, List.length_nil]); omega) ?_
    refine litE (m := 4) rfl ?_
    exact x1.goE hi1 hb1 (by first | (have q1 := hI1; simp only [List.length_append, List.length_cons, List.length_nil]; omega) | exact Nat.le_succ_of_le hI1) [none, some 1, some 4] ⟨rfl, ⟨⟨rfl, rfl, rfl, rfl, by (first | rfl | omega | (dsimp only; omega) | (simp; done) | (simp; omega) | (simp [LstSt.init, LstSt.step, LstInv.init, CntSt.init, CntSt.step, CntInv.init, WhlSt.init, WhlSt.step]; done) | (simp [LstSt.init, LstSt.step, LstInv.init, CntSt.init, CntSt.step, CntInv.init, WhlSt.init, WhlSt.step]; omega))⟩, (eqInt hw1), rfl, ⟨rfl, rfl, rfl, rfl, by (first | rfl | omega | (dsimp only; omega) | (simp; done) | (simp; omega) | (simp [LstSt.init, LstSt.step, LstInv.init, CntSt.init, CntSt.step, CntInv.init, WhlSt.init, WhlSt.step]; done) | (simp [LstSt.init, LstSt.step, LstInv.init, CntSt.init, CntSt.step, CntInv.init, WhlSt.init, WhlSt.step]; omega))⟩, rfl, trivial⟩, ⟨⟨rfl, rfl, rfl⟩, ⟨rfl, rfl, rfl⟩, trivial⟩, trivial⟩
  have hg := finE hg (x1.fin hi1)
  refine seqE ?_
  exact leafA hown hg
theorem impl_ordered_eq (p0 : List Deed) : impl_ordered p0 = (impl_Order p0).flatMap (fun v => [p0[v.toNat]?.getD default]) := by
  unfold impl_ordered
  rw [app_flat (b := impl_ordered_b1 p0) (fun v => [p0[v.toNat]?.getD default]) (fun i s a => rfl), List.nil_append]
  rfl
theorem impl_ordered_map (p0 : List Deed) : impl_ordered p0 = (impl_Order p0).map (fun v => p0[v.toNat]?.getD default) := by
  rw [impl_ordered_eq]
  generalize impl_Order p0 = o
  induction o with
  | nil => rfl
  | cons v o ih => simpa using ih
theorem impl_ordered_len (p0 : List Deed) (h : p0.length ≤ 1048576) : (impl_ordered p0).length ≤ p0.length := by
  rw [impl_ordered_map, List.length_map]; exact (impl_Order_ok p0 h).len
theorem impl_ordered_in (p0 : List Deed) (h : p0.length ≤ 1048576) : ∀ d ∈ impl_ordered p0, d ∈ p0 := by
  intro d hd
  rw [impl_ordered_map] at hd
  obtain ⟨v, hv, rfl⟩ := List.mem_map.1 hd
  exact getD_memI ((impl_Order_ok p0 h).mem hv)
def impl_judged (p0 : Deed) : Bool :=
  (bif (p0.Op == 2) then (bif (p0.Lin != (-1)) then (!p0.Void) else false) else false)
theorem c_impl_judged (p0 : Deed) : FnOk prog 86 [.agg ((Deed.cells false) p0)] ⟨.one (.v (.bool (impl_judged p0))), [], [], false⟩ := by
  refine FnOk.intro (E := env) envOk wide func86 rfl (by kernel_rfl) rfl rfl ?_
  have hg := impl_judged.eq_1 p0
  have hown : ∀ g : Bool, AV.Own (AV.one (.v (.bool g))) := fun g => .v _
  refine seqE ?_
  refine litE (m := 0) rfl ?_
  refine seqE ?_
  exact brQ hg (fun hg h1 => brW hg (fun hg h2 => leafE hown hg) (fun hg h2 => leafE hown hg)) (fun hg h1 => leafE hown hg)
def impl_Verdicts_j2 (a1 : Deed) : Step (Bool) (Step ((List Verdict)) (List Verdict)) :=
  (bif (impl_judged a1) then (.next true) else (.next (a1.Op == 3)))
def impl_Verdicts_b1 (i1 : Nat) (s1 : (List Verdict)) (a1 : Deed) : Step ((List Verdict)) (List Verdict) :=
  (Step.get (fun s2 => (bif s2 then (.next (s1 ++ [(Verdict.mk a1.Trace a1.Stamp a1.Keep)])) else (.next s1))) (impl_Verdicts_j2 a1))
def impl_Verdicts (p0 : (List Deed)) : (List Verdict) :=
  (Fin.get (fun s1 => s1) (loopL impl_Verdicts_b1 0 ([] : List Verdict) (impl_ordered p0)))
theorem c_impl_Verdicts (p0 : (List Deed)) (hs : bdS Deed.bd 1048576 p0) : FnOk prog 38 [.one (.s false 20 (List.map (Deed.cells false) p0))] ⟨.one (.s true 3 (List.map Verdict.cells (impl_Verdicts p0))), [], [], false⟩ := by
  refine FnOk.intro (E := env) envOk wide func38 rfl (by kernel_rfl) rfl rfl ?_
  have hg := impl_Verdicts.eq_1 p0
  have hown : ∀ g : (List Verdict), AV.Own (AV.one (.s true 3 (List.map Verdict.cells g))) := fun g => ownSl own_Verdict _
  refine seqE ?_
  refine seqE ?_
  refine seqE ?_
  refine seqE ?_
  refine .inl (⟨_, _, (FnOk.frz1 rfl (frzMap frz_Deed _) (c_impl_ordered p0 (by first | exact hs | exact (hs.2 _ (impl_ordered_in p0 hs.1 _ (List.getElem_mem hi1))).1))), (FzAs.same _), ?_⟩)
  refine litE (m := 1) rfl ?_
  refine lenM fun hN1 => ?_
  refine loopLI (fun (i : Nat) s => s.length ≤ i) hg (Nat.le_refl _) [7, 8] (fun x1 => [(3, .one (.n 1 [] 1 0 (x1.s).length)), (9, .one (.v (.int .i64 ((x1.i : Nat) : Int))))]) (fun x1 => [.dead, .new ⟨3, false, List.map Verdict.cells x1.s, 0⟩]) [none, none] ?_ (fun x1 => ?_)
  · exact ⟨rfl, ⟨⟨rfl, rfl, rfl, rfl, rfl⟩, rfl, rfl, rfl, trivial⟩, ⟨⟨rfl, rfl⟩, trivial⟩, trivial⟩
  have hI1 := x1.hI
  try dsimp only at hI1
  refine seqE ?_
  refine seqE ?_
  refine tstL (fun hi1 => ?_) (fun hi1 => ?_)
  · have hb1 := (x1.bdy hi1).trans (impl_Verdicts_b1.eq_1 ..)
    have hw1 := wrap_succ hi1 (by first | assumption | omega)
    refine seqE ?_
    refine seqE ?_
    refine idxAt hi1 ?_
    refine litE (m := 2) rfl ?_
    refine joinE hb1 [3, 5, 7, 8, 9] (fun x2 => [(19, .one (.v (.bool x2.s)))]) (fun x2 => [.dead, .keep 1, .keep 2, .dead]) (fun hb2 => ?_) (fun x2 hb1 => ?_)
    · have hb2 := hb2.trans (impl_Verdicts_j2.eq_1 ..)
      refine .inl (⟨_, _, c_impl_judged ((impl_ordered p0)[x1.i]'hi1), (FzAs.same _), ?_⟩)
      refine litE (m := 4) rfl ?_
      exact brF hb2 (fun hb2 h2 => .inl ⟨⟨_, hb2⟩, [none, some 1, some 2, none], ⟨rfl, ⟨rfl, ⟨rfl, rfl, rfl, rfl, by (first | rfl | omega | (dsimp only; omega) | (simp; done) | (simp; omega) | (simp [LstSt.init, LstSt.step, LstInv.init, CntSt.init, CntSt.step, CntInv.init, WhlSt.init, WhlSt.step]; done) | (simp [LstSt.init, LstSt.step, LstInv.init, CntSt.init, CntSt.step, CntInv.init, WhlSt.init, WhlSt.step]; omega))⟩, ⟨rfl, rfl, rfl, rfl⟩, rfl, rfl, rfl, trivial⟩, ⟨⟨rfl, rfl, rfl⟩, ⟨rfl, rfl, ⟨rfl, rfl, rfl, rfl, rfl, rfl, rfl, rfl, rfl, rfl, rfl, rfl, rfl, rfl, rfl, rfl, rfl, rfl, rfl, rfl, trivial⟩⟩, trivial⟩, trivial⟩⟩) (fun hb2 h2 => .inl ⟨⟨_, hb2⟩, [none, some 1, some 2, none], ⟨rfl, ⟨rfl, ⟨rfl, rfl, rfl, rfl, by (first | rfl | omega | (dsimp only; omega) | (simp; done) | (simp; omega) | (simp [LstSt.init, LstSt.step, LstInv.init, CntSt.init, CntSt.step, CntInv.init, WhlSt.init, WhlSt.step]; done) | (simp [LstSt.init, LstSt.step, LstInv.init, CntSt.init, CntSt.step, CntInv.init, WhlSt.init, WhlSt.step]; omega))⟩, ⟨rfl, rfl, rfl, rfl⟩, rfl, rfl, rfl, trivial⟩, ⟨⟨rfl, rfl, rfl⟩, ⟨rfl, rfl, ⟨rfl, rfl, rfl, rfl, rfl, rfl, rfl, rfl, rfl, rfl, rfl, rfl, rfl, rfl, rfl, rfl, rfl, rfl, rfl, rfl, trivial⟩⟩, trivial⟩, trivial⟩⟩)
    refine brE hb1 (fun hb1 h3 => ?_) (fun hb1 h3 => x1.goE hi1 hb1 (by first | (have q1 := hI1; simp only [List.length_append, List.length_cons, List.length_nil]; omega) | exact Nat.le_succ_of_le hI1) [none, some 1] ⟨rfl, ⟨⟨rfl, rfl, rfl, rfl, by (first | rfl | omega | (dsimp only; omega) | (simp; done) | (simp; omega) | (simp [LstSt.init, LstSt.step, LstInv.init, CntSt.init, CntSt.step, CntInv.init, WhlSt.init, WhlSt.step]; done) | (simp [LstSt.init, LstSt.step, LstInv.init, CntSt.init, CntSt.step, CntInv.init, WhlSt.init, WhlSt.step]; omega))⟩, (eqInt hw1), rfl, rfl, trivial⟩, ⟨⟨rfl, rfl, rfl⟩, trivial⟩, trivial⟩)
    refine litE (m := 4) rfl ?_
    refine .inl ?_
    refine rowsE (Y := List.map Verdict.cells (x1.s ++ [(Verdict.mk ((impl_ordered p0)[x1.i]'hi1).Trace ((impl_ordered p0)[x1.i]'hi1).Stamp ((impl_ordered p0)[x1.i]'hi1).Keep)])) (by first | rfl | (simp [subR0, subR1, -List.map_take, -List.map_drop, take_map', drop_map', fz_Verdict, fl_Verdict, fzMap fz_Verdict, flMap fl_Verdict]; done) | (simp [subR0, subR1, -List.map_take, -List.map_drop, take_map', drop_map', fz_Verdict, fl_Verdict, fzMap fz_Verdict, flMap fl_Verdict]; rfl)) ?_
    refine appB (b := 24) (hs := by have q0 := hs.1; have q1 := hI1; have q2 := hi1; have q3 := impl_ordered_len p0 hs.1; refine ⟨?_, ?_⟩; (show List.length _ * 24 ≤ _); (try simp only [List.length_map, List.length_append, List.length_cons, List.length_nil]); omega; (try simp only [List.length_map, List.length_append, List.length_cons, List.length_nil]); omega) ?_
    refine litE (m := 5) rfl ?_
    exact x1.goE hi1 hb1 (by first | (have q1 := hI1; simp only [List.length_append, List.length_cons, List.length_nil]; omega) | exact Nat.le_succ_of_le hI1) [none, some 5] ⟨rfl, ⟨⟨rfl, rfl, rfl, rfl, by (first | rfl | omega | (dsimp only; omega) | (simp; done) | (simp; omega) | (simp [LstSt.init, LstSt.step, LstInv.init, CntSt.init, CntSt.step, CntInv.init, WhlSt.init, WhlSt.step]; done) | (simp [LstSt.init, LstSt.step, LstInv.init, CntSt.init, CntSt.step, CntInv.init, WhlSt.init, WhlSt.step]; omega))⟩, (eqInt hw1), rfl, rfl, trivial⟩, ⟨⟨rfl, rfl, rfl⟩, trivial⟩, trivial⟩
  have hg := finE hg (x1.fin hi1)
  refine seqE ?_
  exact leafE hown hg
def laws_eqVerdict (p0 : Verdict) (p1 : Verdict) : Bool :=
  (bif (p0.Trace != p1.Trace) then false else (bif (p0.Stamp != p1.Stamp) then false else (bif (!(p0.Keep == p1.Keep)) then false else true)))
theorem c_laws_eqVerdict (p0 : Verdict) (p1 : Verdict) : FnOk prog 112 [.agg (Verdict.cells p0), .agg (Verdict.cells p1)] ⟨.one (.v (.bool (laws_eqVerdict p0 p1))), [], [], false⟩ := by
  refine FnOk.intro (E := env) envOk wide func112 rfl (by kernel_rfl) rfl rfl ?_
  have hg := laws_eqVerdict.eq_1 p0 p1
  have hown : ∀ g : Bool, AV.Own (AV.one (.v (.bool g))) := fun g => .v _
  refine seqE ?_
  refine litE (m := 0) rfl ?_
  refine litE (m := 1) rfl ?_
  refine seqE ?_
  refine seqE ?_
  refine brW hg (fun hg h1 => ?_) (fun hg h1 => ?_)
  · refine seqE ?_
    exact leafE hown hg
  · refine seqE ?_
    refine seqE ?_
    refine brW hg (fun hg h2 => ?_) (fun hg h2 => ?_)
    · refine seqE ?_
      exact leafE hown hg
    · refine seqE ?_
      refine seqE ?_
      refine brE hg (fun hg h3 => ?_) (fun hg h3 => ?_)
      · refine seqE ?_
        exact leafE hown hg
      · refine seqE ?_
        exact leafE hown hg
theorem rf_laws_eqVerdict (x : Verdict) : laws_eqVerdict x x = true := by
  simp [laws_eqVerdict]
def laws_eqVerdictS_b1 (p1 : (List Verdict)) (i1 : Nat) (s1 : Unit) (a1 : Verdict) : Step (Unit) Bool :=
  (bif (!(laws_eqVerdict a1 (p1[i1]?.getD default))) then (.done false) else (.next ()))
def laws_eqVerdictS (p0 : (List Verdict)) (p1 : (List Verdict)) : Bool :=
  (bif ((((p0).length : Nat) : Int) != (((p1).length : Nat) : Int)) then false else (Fin.get (fun s1 => true) (loopL (laws_eqVerdictS_b1 p1) 0 () p0)))
theorem c_laws_eqVerdictS (p0 : (List Verdict)) (p1 : (List Verdict)) : FnOk prog 39 [.one (.s false 3 (List.map Verdict.cells p0)), .one (.s false 3 (List.map Verdict.cells p1))] ⟨.one (.v (.bool (laws_eqVerdictS p0 p1))), [], [], false⟩ := by
  refine FnOk.intro (E := env) envOk wide func39 rfl (by kernel_rfl) rfl rfl ?_
  have hg := laws_eqVerdictS.eq_1 p0 p1
  have hown : ∀ g : Bool, AV.Own (AV.one (.v (.bool g))) := fun g => .v _
  refine seqE ?_
  refine seqE ?_
  refine seqE ?_
  refine lenM fun hN1 => ?_
  refine lenM fun hN2 => ?_
  refine brW hg (fun hg h3 => ?_) (fun hg h3 => ?_)
  · refine seqE ?_
    exact leafE hown hg
  · refine seqE ?_
    refine seqE ?_
    refine loopLE hg [0, 1] (fun x1 => [(5, .one (.v (.int .i64 ((x1.i : Nat) : Int))))]) (fun x1 => []) [] ?_ (fun x1 => ?_)
    · exact ⟨rfl, ⟨rfl, rfl, rfl, trivial⟩, trivial, trivial⟩
    refine seqE ?_
    refine seqE ?_
    refine lenM fun hN4 => ?_
    refine tstL (fun hi1 => ?_) (fun hi1 => ?_)
    · have hb1 := (x1.bdy hi1).trans (laws_eqVerdictS_b1.eq_1 ..)
      have hw1 := wrap_succ hi1 (by first | assumption | omega)
      refine seqE ?_
      refine seqE ?_
      refine .inl ⟨by kernel_rfl, ?_⟩
      refine idxAt hi1 ?_
      refine idxOf (l := p1) (by (first | omega | (simp (disch := omega) only [wrap_small, mid_eq, List.length_map]; omega) | (simp; done) | (simp; omega) | (simp at *; omega) | (simp at *; done) | (simp_all; done) | (simp_all; omega))) (fun hq5 => ?_)
      refine ⟨_, _, c_laws_eqVerdict (p0[x1.i]'hi1) (p1[x1.i]?.getD default), (FzAs.same _), ?_⟩
      refine brE hb1 (fun hb1 h6 => ?_) (fun hb1 h6 => x1.goE hi1 hb1 [] ⟨rfl, ⟨(eqInt hw1), rfl, rfl, trivial⟩, trivial, trivial⟩)
      refine seqE ?_
      have hg := donE hg (x1.outD hi1 hb1)
      exact leafE hown hg
    have hg := finE hg (x1.fin hi1)
    refine seqE ?_
    exact leafE hown hg
theorem rf_laws_eqVerdictS (x : (List Verdict)) : laws_eqVerdictS x x = true := eqS_ok (b := laws_eqVerdictS_b1) rf_laws_eqVerdict (fun _ _ _ _ => rfl) (fun _ _ => rfl) x
def laws_eqAttr (p0 : Attr) (p1 : Attr) : Bool :=
  (bif (!decide (p0.Key = p1.Key)) then false else (bif (!(p0.Num == p1.Num)) then false else (bif (p0.N != p1.N) then false else (bif (!decide (p0.Text = p1.Text)) then false else true))))
theorem c_laws_eqAttr (p0 : Attr) (p1 : Attr) : FnOk prog 205 [.agg (Attr.cells p0), .agg (Attr.cells p1)] ⟨.one (.v (.bool (laws_eqAttr p0 p1))), [], [], false⟩ := by
  refine FnOk.intro (E := env) envOk wide func205 rfl (by kernel_rfl) rfl rfl ?_
  have hg := laws_eqAttr.eq_1 p0 p1
  have hown : ∀ g : Bool, AV.Own (AV.one (.v (.bool g))) := fun g => .v _
  refine seqE ?_
  refine litE (m := 0) rfl ?_
  refine litE (m := 1) rfl ?_
  refine seqE ?_
  refine seqE ?_
  refine brE hg (fun hg h1 => ?_) (fun hg h1 => ?_)
  · refine seqE ?_
    exact leafE hown hg
  · refine seqE ?_
    refine seqE ?_
    refine brE hg (fun hg h2 => ?_) (fun hg h2 => ?_)
    · refine seqE ?_
      exact leafE hown hg
    · refine seqE ?_
      refine seqE ?_
      refine brW hg (fun hg h3 => ?_) (fun hg h3 => ?_)
      · refine seqE ?_
        exact leafE hown hg
      · refine seqE ?_
        refine seqE ?_
        refine brE hg (fun hg h4 => ?_) (fun hg h4 => ?_)
        · refine seqE ?_
          exact leafE hown hg
        · refine seqE ?_
          exact leafE hown hg
theorem rf_laws_eqAttr (x : Attr) : laws_eqAttr x x = true := by
  simp [laws_eqAttr]
def laws_eqAttrS_b1 (p1 : (List Attr)) (i1 : Nat) (s1 : Unit) (a1 : Attr) : Step (Unit) Bool :=
  (bif (!(laws_eqAttr a1 (p1[i1]?.getD default))) then (.done false) else (.next ()))
def laws_eqAttrS (p0 : (List Attr)) (p1 : (List Attr)) : Bool :=
  (bif ((((p0).length : Nat) : Int) != (((p1).length : Nat) : Int)) then false else (Fin.get (fun s1 => true) (loopL (laws_eqAttrS_b1 p1) 0 () p0)))
theorem c_laws_eqAttrS (p0 : (List Attr)) (p1 : (List Attr)) : FnOk prog 175 [.one (.s false 4 (List.map Attr.cells p0)), .one (.s false 4 (List.map Attr.cells p1))] ⟨.one (.v (.bool (laws_eqAttrS p0 p1))), [], [], false⟩ := by
  refine FnOk.intro (E := env) envOk wide func175 rfl (by kernel_rfl) rfl rfl ?_
  have hg := laws_eqAttrS.eq_1 p0 p1
  have hown : ∀ g : Bool, AV.Own (AV.one (.v (.bool g))) := fun g => .v _
  refine seqE ?_
  refine seqE ?_
  refine seqE ?_
  refine lenM fun hN1 => ?_
  refine lenM fun hN2 => ?_
  refine brW hg (fun hg h3 => ?_) (fun hg h3 => ?_)
  · refine seqE ?_
    exact leafE hown hg
  · refine seqE ?_
    refine seqE ?_
    refine loopLE hg [0, 1] (fun x1 => [(5, .one (.v (.int .i64 ((x1.i : Nat) : Int))))]) (fun x1 => []) [] ?_ (fun x1 => ?_)
    · exact ⟨rfl, ⟨rfl, rfl, rfl, trivial⟩, trivial, trivial⟩
    refine seqE ?_
    refine seqE ?_
    refine lenM fun hN4 => ?_
    refine tstL (fun hi1 => ?_) (fun hi1 => ?_)
    · have hb1 := (x1.bdy hi1).trans (laws_eqAttrS_b1.eq_1 ..)
      have hw1 := wrap_succ hi1 (by first | assumption | omega)
      refine seqE ?_
      refine seqE ?_
      refine .inl ⟨by kernel_rfl, ?_⟩
      refine idxAt hi1 ?_
      refine idxOf (l := p1) (by (first | omega | (simp (disch := omega) only [wrap_small, mid_eq, List.length_map]; omega) | (simp; done) | (simp; omega) | (simp at *; omega) | (simp at *; done) | (simp_all; done) | (simp_all; omega))) (fun hq5 => ?_)
      refine ⟨_, _, c_laws_eqAttr (p0[x1.i]'hi1) (p1[x1.i]?.getD default), (FzAs.same _), ?_⟩
      refine brE hb1 (fun hb1 h6 => ?_) (fun hb1 h6 => x1.goE hi1 hb1 [] ⟨rfl, ⟨(eqInt hw1), rfl, rfl, trivial⟩, trivial, trivial⟩)
      refine seqE ?_
      have hg := donE hg (x1.outD hi1 hb1)
      exact leafE hown hg
    have hg := finE hg (x1.fin hi1)
    refine seqE ?_
    exact leafE hown hg
theorem rf_laws_eqAttrS (x : (List Attr)) : laws_eqAttrS x x = true := eqS_ok (b := laws_eqAttrS_b1) rf_laws_eqAttr (fun _ _ _ _ => rfl) (fun _ _ => rfl) x
def laws_eqSpan (p0 : Span) (p1 : Span) : Bool :=
  (bif (p0.Trace != p1.Trace) then false else (bif (p0.Id != p1.Id) then false else (bif (p0.Start != p1.Start) then false else (bif (p0.End != p1.End) then false else (bif (!(p0.Err == p1.Err)) then false else (bif (!(laws_eqAttrS p0.Attrs p1.Attrs)) then false else true))))))
theorem c_laws_eqSpan (p0 : Span) (p1 : Span) : FnOk prog 115 [.agg ((Span.cells false) p0), .agg ((Span.cells false) p1)] ⟨.one (.v (.bool (laws_eqSpan p0 p1))), [], [], false⟩ := by
  refine FnOk.intro (E := env) envOk wide func115 rfl (by kernel_rfl) rfl rfl ?_
  have hg := laws_eqSpan.eq_1 p0 p1
  have hown : ∀ g : Bool, AV.Own (AV.one (.v (.bool g))) := fun g => .v _
  refine seqE ?_
  refine litE (m := 0) rfl ?_
  refine litE (m := 1) rfl ?_
  refine seqE ?_
  refine seqE ?_
  refine brW hg (fun hg h1 => ?_) (fun hg h1 => ?_)
  · refine seqE ?_
    exact leafE hown hg
  · refine seqE ?_
    refine seqE ?_
    refine brW hg (fun hg h2 => ?_) (fun hg h2 => ?_)
    · refine seqE ?_
      exact leafE hown hg
    · refine seqE ?_
      refine seqE ?_
      refine brW hg (fun hg h3 => ?_) (fun hg h3 => ?_)
      · refine seqE ?_
        exact leafE hown hg
      · refine seqE ?_
        refine seqE ?_
        refine brW hg (fun hg h4 => ?_) (fun hg h4 => ?_)
        · refine seqE ?_
          exact leafE hown hg
        · refine seqE ?_
          refine seqE ?_
          refine brE hg (fun hg h5 => ?_) (fun hg h5 => ?_)
          · refine seqE ?_
            exact leafE hown hg
          · refine seqE ?_
            refine seqE ?_
            refine .inl (⟨_, _, c_laws_eqAttrS p0.Attrs p1.Attrs, (FzAs.same _), ?_⟩)
            refine litE (m := 3) rfl ?_
            refine brE hg (fun hg h6 => ?_) (fun hg h6 => ?_)
            · refine seqE ?_
              exact leafE hown hg
            · refine seqE ?_
              exact leafE hown hg
theorem rf_laws_eqSpan (x : Span) : laws_eqSpan x x = true := by
  simp [laws_eqSpan, rf_laws_eqAttrS]
def laws_eqDeed (p0 : Deed) (p1 : Deed) : Bool :=
  (bif (p0.Op != p1.Op) then false else (bif (p0.Task != p1.Task) then false else (bif (!(laws_eqSpan p0.S p1.S)) then false else (bif (p0.Trace != p1.Trace) then false else (bif (p0.Stamp != p1.Stamp) then false else (bif (p0.Code != p1.Code) then false else (bif (!(p0.Keep == p1.Keep)) then false else (bif (!(p0.Void == p1.Void)) then false else (bif (p0.Took != p1.Took) then false else (bif (p0.N != p1.N) then false else (bif (p0.Forgot != p1.Forgot) then false else (bif (p0.Now != p1.Now) then false else (bif (p0.Inv != p1.Inv) then false else (bif (p0.Lin != p1.Lin) then false else (bif (p0.Res != p1.Res) then false else true)))))))))))))))
theorem c_laws_eqDeed (p0 : Deed) (p1 : Deed) : FnOk prog 110 [.agg ((Deed.cells false) p0), .agg ((Deed.cells false) p1)] ⟨.one (.v (.bool (laws_eqDeed p0 p1))), [], [], false⟩ := by
  refine FnOk.intro (E := env) envOk wide func110 rfl (by kernel_rfl) rfl rfl ?_
  have hg := laws_eqDeed.eq_1 p0 p1
  have hown : ∀ g : Bool, AV.Own (AV.one (.v (.bool g))) := fun g => .v _
  refine seqE ?_
  refine litE (m := 0) rfl ?_
  refine litE (m := 1) rfl ?_
  refine seqE ?_
  refine seqE ?_
  refine brW hg (fun hg h1 => ?_) (fun hg h1 => ?_)
  · refine seqE ?_
    exact leafE hown hg
  · refine seqE ?_
    refine seqE ?_
    refine brW hg (fun hg h2 => ?_) (fun hg h2 => ?_)
    · refine seqE ?_
      exact leafE hown hg
    · refine seqE ?_
      refine seqE ?_
      refine .inl (⟨_, _, c_laws_eqSpan p0.S p1.S, (FzAs.same _), ?_⟩)
      refine litE (m := 3) rfl ?_
      refine brE hg (fun hg h3 => ?_) (fun hg h3 => ?_)
      · refine seqE ?_
        exact leafE hown hg
      · refine seqE ?_
        refine seqE ?_
        refine brW hg (fun hg h4 => ?_) (fun hg h4 => ?_)
        · refine seqE ?_
          exact leafE hown hg
        · refine seqE ?_
          refine seqE ?_
          refine brW hg (fun hg h5 => ?_) (fun hg h5 => ?_)
          · refine seqE ?_
            exact leafE hown hg
          · refine seqE ?_
            refine seqE ?_
            refine brW hg (fun hg h6 => ?_) (fun hg h6 => ?_)
            · refine seqE ?_
              exact leafE hown hg
            · refine seqE ?_
              refine seqE ?_
              refine brE hg (fun hg h7 => ?_) (fun hg h7 => ?_)
              · refine seqE ?_
                exact leafE hown hg
              · refine seqE ?_
                refine seqE ?_
                refine brE hg (fun hg h8 => ?_) (fun hg h8 => ?_)
                · refine seqE ?_
                  exact leafE hown hg
                · refine seqE ?_
                  refine seqE ?_
                  refine brW hg (fun hg h9 => ?_) (fun hg h9 => ?_)
                  · refine seqE ?_
                    exact leafE hown hg
                  · refine seqE ?_
                    refine seqE ?_
                    refine brW hg (fun hg h10 => ?_) (fun hg h10 => ?_)
                    · refine seqE ?_
                      exact leafE hown hg
                    · refine seqE ?_
                      refine seqE ?_
                      refine brW hg (fun hg h11 => ?_) (fun hg h11 => ?_)
                      · refine seqE ?_
                        exact leafE hown hg
                      · refine seqE ?_
                        refine seqE ?_
                        refine brW hg (fun hg h12 => ?_) (fun hg h12 => ?_)
                        · refine seqE ?_
                          exact leafE hown hg
                        · refine seqE ?_
                          refine seqE ?_
                          refine brW hg (fun hg h13 => ?_) (fun hg h13 => ?_)
                          · refine seqE ?_
                            exact leafE hown hg
                          · refine seqE ?_
                            refine seqE ?_
                            refine brW hg (fun hg h14 => ?_) (fun hg h14 => ?_)
                            · refine seqE ?_
                              exact leafE hown hg
                            · refine seqE ?_
                              refine seqE ?_
                              refine brW hg (fun hg h15 => ?_) (fun hg h15 => ?_)
                              · refine seqE ?_
                                exact leafE hown hg
                              · refine seqE ?_
                                exact leafE hown hg
theorem rf_laws_eqDeed (x : Deed) : laws_eqDeed x x = true := by
  simp [laws_eqDeed, rf_laws_eqSpan]
def laws_eqDeedS_b1 (p1 : (List Deed)) (i1 : Nat) (s1 : Unit) (a1 : Deed) : Step (Unit) Bool :=
  (bif (!(laws_eqDeed a1 (p1[i1]?.getD default))) then (.done false) else (.next ()))
def laws_eqDeedS (p0 : (List Deed)) (p1 : (List Deed)) : Bool :=
  (bif ((((p0).length : Nat) : Int) != (((p1).length : Nat) : Int)) then false else (Fin.get (fun s1 => true) (loopL (laws_eqDeedS_b1 p1) 0 () p0)))
theorem c_laws_eqDeedS (p0 : (List Deed)) (p1 : (List Deed)) : FnOk prog 33 [.one (.s false 20 (List.map (Deed.cells false) p0)), .one (.s false 20 (List.map (Deed.cells false) p1))] ⟨.one (.v (.bool (laws_eqDeedS p0 p1))), [], [], false⟩ := by
  refine FnOk.intro (E := env) envOk wide func33 rfl (by kernel_rfl) rfl rfl ?_
  have hg := laws_eqDeedS.eq_1 p0 p1
  have hown : ∀ g : Bool, AV.Own (AV.one (.v (.bool g))) := fun g => .v _
  refine seqE ?_
  refine seqE ?_
  refine seqE ?_
  refine lenM fun hN1 => ?_
  refine lenM fun hN2 => ?_
  refine brW hg (fun hg h3 => ?_) (fun hg h3 => ?_)
  · refine seqE ?_
    exact leafE hown hg
  · refine seqE ?_
    refine seqE ?_
    refine loopLE hg [0, 1] (fun x1 => [(5, .one (.v (.int .i64 ((x1.i : Nat) : Int))))]) (fun x1 => []) [] ?_ (fun x1 => ?_)
    · exact ⟨rfl, ⟨rfl, rfl, rfl, trivial⟩, trivial, trivial⟩
    refine seqE ?_
    refine seqE ?_
    refine lenM fun hN4 => ?_
    refine tstL (fun hi1 => ?_) (fun hi1 => ?_)
    · have hb1 := (x1.bdy hi1).trans (laws_eqDeedS_b1.eq_1 ..)
      have hw1 := wrap_succ hi1 (by first | assumption | omega)
      refine seqE ?_
      refine seqE ?_
      refine .inl ⟨by kernel_rfl, ?_⟩
      refine idxAt hi1 ?_
      refine idxOf (l := p1) (by (first | omega | (simp (disch := omega) only [wrap_small, mid_eq, List.length_map]; omega) | (simp; done) | (simp; omega) | (simp at *; omega) | (simp at *; done) | (simp_all; done) | (simp_all; omega))) (fun hq5 => ?_)
      refine ⟨_, _, c_laws_eqDeed (p0[x1.i]'hi1) (p1[x1.i]?.getD default), (FzAs.same _), ?_⟩
      refine brE hb1 (fun hb1 h6 => ?_) (fun hb1 h6 => x1.goE hi1 hb1 [] ⟨rfl, ⟨(eqInt hw1), rfl, rfl, trivial⟩, trivial, trivial⟩)
      refine seqE ?_
      have hg := donE hg (x1.outD hi1 hb1)
      exact leafE hown hg
    have hg := finE hg (x1.fin hi1)
    refine seqE ?_
    exact leafE hown hg
theorem rf_laws_eqDeedS (x : (List Deed)) : laws_eqDeedS x x = true := eqS_ok (b := laws_eqDeedS_b1) rf_laws_eqDeed (fun _ _ _ _ => rfl) (fun _ _ => rfl) x
def laws_markAttrS_b1 (i1 : Nat) (s1 : (List Attr) × Int) (a1 : Attr) : Step ((List Attr) × Int) (Int × (List Attr)) :=
  (.next ((List.set s1.1 i1 (Attr.mk (laws_markText s1.2) ((Int.tmod (IntKind.i64.wrap (s1.2 + 1)) 3) == 0) (IntKind.i64.wrap ((IntKind.i64.wrap (s1.2 + 1)) + 1)) (laws_markText (IntKind.i64.wrap ((IntKind.i64.wrap ((IntKind.i64.wrap (s1.2 + 1)) + 1)) + 1))))), (IntKind.i64.wrap ((IntKind.i64.wrap ((IntKind.i64.wrap ((IntKind.i64.wrap (s1.2 + 1)) + 1)) + 1)) + 1))))
def laws_markAttrS (p0 : (List Attr)) (p1 : Int) : (Int × (List Attr)) :=
  (Fin.get (fun s1 => (s1.2, s1.1)) (loopL laws_markAttrS_b1 0 (p0, p1) p0))
theorem c_laws_markAttrS (p0 : (List Attr)) (p1 : Int) : FnOk prog 111 [.tup [.one (.s true 4 (List.map Attr.cells p0))], .one (.v (.int .i64 p1))] ⟨.one (.v (.int .i64 (laws_markAttrS p0 p1).1)), [.one (.s true 4 (List.map Attr.cells ((laws_markAttrS p0 p1).2)))], [], false⟩ := by
  refine FnOk.introM (E := env) envOk wide func111 rfl (by kernel_rfl) rfl ?_
  have hg := laws_markAttrS.eq_1 p0 p1
  have hown : (∀ g : (Int × (List Attr)), AV.Own (AV.one (.v (.int .i64 g.1)))) ∧ (fun g : (Int × (List Attr)) => T.s true 4 (List.map Attr.cells (g.2))) = _ := ⟨fun g => .v _, rfl⟩
  refine seqE ?_
  refine seqE ?_
  refine seqE ?_
  refine loopLI (fun _ s => (s.1).length = (p0).length) hg (by simp) [0] (fun x1 => [(1, .one (.v (.int .i64 x1.s.2))), (5, .one (.v (.int .i64 ((x1.i : Nat) : Int))))]) (fun x1 => [.dead, .new ⟨4, false, List.map Attr.cells x1.s.1, 0⟩]) [none, some 1] ?_ (fun x1 => ?_)
  · exact ⟨rfl, ⟨rfl, rfl, ⟨rfl, rfl, rfl, rfl, by (first | rfl | omega | (dsimp only; omega) | (simp; done) | (simp; omega) | (simp [LstSt.init, LstSt.step, LstInv.init, CntSt.init, CntSt.step, CntInv.init, WhlSt.init, WhlSt.step]; done) | (simp [LstSt.init, LstSt.step, LstInv.init, CntSt.init, CntSt.step, CntInv.init, WhlSt.init, WhlSt.step]; omega))⟩, trivial⟩, ⟨⟨rfl, rfl, rfl⟩, trivial⟩, ⟨⟨rfl, rfl, rfl, rfl, by (first | rfl | omega | (dsimp only; omega) | (simp; done) | (simp; omega) | (simp [LstSt.init, LstSt.step, LstInv.init, CntSt.init, CntSt.step, CntInv.init, WhlSt.init, WhlSt.step]; done) | (simp [LstSt.init, LstSt.step, LstInv.init, CntSt.init, CntSt.step, CntInv.init, WhlSt.init, WhlSt.step]; omega))⟩, trivial⟩⟩
  have hI1 : (x1.s.1).length = (p0).length := by simpa using x1.hI
  refine seqE ?_
  refine seqE ?_
  refine lenE (k := (p0).length) (by simp) (fun hN1 => ?_)
  refine tstL (fun hi1 => ?_) (fun hi1 => ?_)
  · have hb1 := (x1.bdy hi1).trans (laws_markAttrS_b1.eq_1 ..)
    have hw1 := wrap_succ hi1 (by first | assumption | omega)
    refine seqE ?_
    refine seqE ?_
    refine .inl (⟨_, _, c_laws_markText x1.s.2, (FzAs.same _), ?_⟩)
    refine litE (m := 3) rfl ?_
    refine andE (by (first | omega | (simp (disch := omega) only [wrap_small, mid_eq, List.length_map]; omega) | (simp; done) | (simp; omega) | (simp at *; omega) | (simp at *; done) | (simp_all; done) | (simp_all; omega))) ?_
    refine rowsE (Y := List.map Attr.cells (List.set x1.s.1 x1.i (Attr.mk (laws_markText x1.s.2) (x1.s.1[x1.i]?.getD default).Num (x1.s.1[x1.i]?.getD default).N (x1.s.1[x1.i]?.getD default).Text))) (by exact setMapE (by simp) (fun a ha => by first | rfl | (simp only [ha, Option.getD_some]; rfl) | (obtain ⟨_, rfl⟩ := List.getElem?_eq_some_iff.1 ha; rfl) | (simp only [Pol.cells_eq]; rfl) | (simp only [ha, Option.getD_some, Pol.cells_eq]; rfl))) ?_
    refine seqE ?_
    refine seqE ?_
    refine andE (by (first | omega | (simp (disch := omega) only [wrap_small, mid_eq, List.length_map]; omega) | (simp; done) | (simp; omega) | (simp at *; omega) | (simp at *; done) | (simp_all; done) | (simp_all; omega))) ?_
    refine andE (by (first | omega | (simp (disch := omega) only [wrap_small, mid_eq, List.length_map]; omega) | (simp; done) | (simp; omega) | (simp at *; omega) | (simp at *; done) | (simp_all; done) | (simp_all; omega))) ?_
    refine rowsE (Y := List.map Attr.cells (List.set x1.s.1 x1.i (Attr.mk (laws_markText x1.s.2) ((Int.tmod (IntKind.i64.wrap (x1.s.2 + 1)) 3) == 0) (x1.s.1[x1.i]?.getD default).N (x1.s.1[x1.i]?.getD default).Text))) (by exact setMapS (by simp) (by first | rfl | (simp only [ha, Option.getD_some]; rfl) | (obtain ⟨_, rfl⟩ := List.getElem?_eq_some_iff.1 ha; rfl) | (simp only [Pol.cells_eq]; rfl) | (simp only [ha, Option.getD_some, Pol.cells_eq]; rfl))) ?_
    refine seqE ?_
    refine seqE ?_
    refine andE (by (first | omega | (simp (disch := omega) only [wrap_small, mid_eq, List.length_map]; omega) | (simp; done) | (simp; omega) | (simp at *; omega) | (simp at *; done) | (simp_all; done) | (simp_all; omega))) ?_
    refine rowsE (Y := List.map Attr.cells (List.set x1.s.1 x1.i (Attr.mk (laws_markText x1.s.2) ((Int.tmod (IntKind.i64.wrap (x1.s.2 + 1)) 3) == 0) (IntKind.i64.wrap ((IntKind.i64.wrap (x1.s.2 + 1)) + 1)) (x1.s.1[x1.i]?.getD default).Text))) (by exact setMapS (by simp) (by first | rfl | (simp only [ha, Option.getD_some]; rfl) | (obtain ⟨_, rfl⟩ := List.getElem?_eq_some_iff.1 ha; rfl) | (simp only [Pol.cells_eq]; rfl) | (simp only [ha, Option.getD_some, Pol.cells_eq]; rfl))) ?_
    refine seqE ?_
    refine seqE ?_
    refine .inl (⟨_, _, c_laws_markText (IntKind.i64.wrap ((IntKind.i64.wrap ((IntKind.i64.wrap (x1.s.2 + 1)) + 1)) + 1)), (FzAs.same _), ?_⟩)
    refine litE (m := 4) rfl ?_
    refine andE (by (first | omega | (simp (disch := omega) only [wrap_small, mid_eq, List.length_map]; omega) | (simp; done) | (simp; omega) | (simp at *; omega) | (simp at *; done) | (simp_all; done) | (simp_all; omega))) ?_
    refine rowsE (Y := List.map Attr.cells (List.set x1.s.1 x1.i (Attr.mk (laws_markText x1.s.2) ((Int.tmod (IntKind.i64.wrap (x1.s.2 + 1)) 3) == 0) (IntKind.i64.wrap ((IntKind.i64.wrap (x1.s.2 + 1)) + 1)) (laws_markText (IntKind.i64.wrap ((IntKind.i64.wrap ((IntKind.i64.wrap (x1.s.2 + 1)) + 1)) + 1)))))) (by exact setMapS (by simp) (by first | rfl | (simp only [ha, Option.getD_some]; rfl) | (obtain ⟨_, rfl⟩ := List.getElem?_eq_some_iff.1 ha; rfl) | (simp only [Pol.cells_eq]; rfl) | (simp only [ha, Option.getD_some, Pol.cells_eq]; rfl))) ?_
    exact x1.goE hi1 hb1 (by simpa using x1.hI) [none, some 1] ⟨rfl, ⟨rfl, (eqInt hw1), ⟨rfl, rfl, rfl, rfl, by (first | rfl | omega | (dsimp only; omega) | (simp; done) | (simp; omega) | (simp [LstSt.init, LstSt.step, LstInv.init, CntSt.init, CntSt.step, CntInv.init, WhlSt.init, WhlSt.step]; done) | (simp [LstSt.init, LstSt.step, LstInv.init, CntSt.init, CntSt.step, CntInv.init, WhlSt.init, WhlSt.step]; omega))⟩, trivial⟩, ⟨⟨rfl, rfl, rfl⟩, trivial⟩, ⟨⟨rfl, rfl, rfl, rfl, by (first | rfl | omega | (dsimp only; omega) | (simp; done) | (simp; omega) | (simp [LstSt.init, LstSt.step, LstInv.init, CntSt.init, CntSt.step, CntInv.init, WhlSt.init, WhlSt.step]; done) | (simp [LstSt.init, LstSt.step, LstInv.init, CntSt.init, CntSt.step, CntInv.init, WhlSt.init, WhlSt.step]; omega))⟩, trivial⟩⟩
  have hg := finE hg (x1.fin hi1)
  refine seqE ?_
  exact leafM hown hg
def laws_markDeedS_b1 (i1 : Nat) (s1 : (List Deed) × Int) (a1 : Deed) : Step ((List Deed) × Int) (Int × (List Deed)) :=
  (.next ((List.set s1.1 i1 (Deed.mk s1.2 (IntKind.i64.wrap (s1.2 + 1)) (Span.mk (IntKind.i64.wrap ((IntKind.i64.wrap (s1.2 + 1)) + 1)) (IntKind.i64.wrap ((IntKind.i64.wrap ((IntKind.i64.wrap (s1.2 + 1)) + 1)) + 1)) (IntKind.i64.wrap ((IntKind.i64.wrap ((IntKind.i64.wrap ((IntKind.i64.wrap (s1.2 + 1)) + 1)) + 1)) + 1)) (IntKind.i64.wrap ((IntKind.i64.wrap ((IntKind.i64.wrap ((IntKind.i64.wrap ((IntKind.i64.wrap (s1.2 + 1)) + 1)) + 1)) + 1)) + 1)) ((Int.tmod (IntKind.i64.wrap ((IntKind.i64.wrap ((IntKind.i64.wrap ((IntKind.i64.wrap ((IntKind.i64.wrap ((IntKind.i64.wrap (s1.2 + 1)) + 1)) + 1)) + 1)) + 1)) + 1)) 3) == 0) (laws_markAttrS (s1.1[i1]?.getD default).S.Attrs (IntKind.i64.wrap ((IntKind.i64.wrap ((IntKind.i64.wrap ((IntKind.i64.wrap ((IntKind.i64.wrap ((IntKind.i64.wrap ((IntKind.i64.wrap (s1.2 + 1)) + 1)) + 1)) + 1)) + 1)) + 1)) + 1))).2) (laws_markAttrS (s1.1[i1]?.getD default).S.Attrs (IntKind.i64.wrap ((IntKind.i64.wrap ((IntKind.i64.wrap ((IntKind.i64.wrap ((IntKind.i64.wrap ((IntKind.i64.wrap ((IntKind.i64.wrap (s1.2 + 1)) + 1)) + 1)) + 1)) + 1)) + 1)) + 1))).1 (IntKind.i64.wrap ((laws_markAttrS (s1.1[i1]?.getD default).S.Attrs (IntKind.i64.wrap ((IntKind.i64.wrap ((IntKind.i64.wrap ((IntKind.i64.wrap ((IntKind.i64.wrap ((IntKind.i64.wrap ((IntKind.i64.wrap (s1.2 + 1)) + 1)) + 1)) + 1)) + 1)) + 1)) + 1))).1 + 1)) (IntKind.i64.wrap ((IntKind.i64.wrap ((laws_markAttrS (s1.1[i1]?.getD default).S.Attrs (IntKind.i64.wrap ((IntKind.i64.wrap ((IntKind.i64.wrap ((IntKind.i64.wrap ((IntKind.i64.wrap ((IntKind.i64.wrap ((IntKind.i64.wrap (s1.2 + 1)) + 1)) + 1)) + 1)) + 1)) + 1)) + 1))).1 + 1)) + 1)) ((Int.tmod (IntKind.i64.wrap ((IntKind.i64.wrap ((IntKind.i64.wrap ((laws_markAttrS (s1.1[i1]?.getD default).S.Attrs (IntKind.i64.wrap ((IntKind.i64.wrap ((IntKind.i64.wrap ((IntKind.i64.wrap ((IntKind.i64.wrap ((IntKind.i64.wrap ((IntKind.i64.wrap (s1.2 + 1)) + 1)) + 1)) + 1)) + 1)) + 1)) + 1))).1 + 1)) + 1)) + 1)) 3) == 0) ((Int.tmod (IntKind.i64.wrap ((IntKind.i64.wrap ((IntKind.i64.wrap ((IntKind.i64.wrap ((laws_markAttrS (s1.1[i1]?.getD default).S.Attrs (IntKind.i64.wrap ((IntKind.i64.wrap ((IntKind.i64.wrap ((IntKind.i64.wrap ((IntKind.i64.wrap ((IntKind.i64.wrap ((IntKind.i64.wrap (s1.2 + 1)) + 1)) + 1)) + 1)) + 1)) + 1)) + 1))).1 + 1)) + 1)) + 1)) + 1)) 3) == 0) (IntKind.i64.wrap ((IntKind.i64.wrap ((IntKind.i64.wrap ((IntKind.i64.wrap ((IntKind.i64.wrap ((laws_markAttrS (s1.1[i1]?.getD default).S.Attrs (IntKind.i64.wrap ((IntKind.i64.wrap ((IntKind.i64.wrap ((IntKind.i64.wrap ((IntKind.i64.wrap ((IntKind.i64.wrap ((IntKind.i64.wrap (s1.2 + 1)) + 1)) + 1)) + 1)) + 1)) + 1)) + 1))).1 + 1)) + 1)) + 1)) + 1)) + 1)) (IntKind.i64.wrap ((IntKind.i64.wrap ((IntKind.i64.wrap ((IntKind.i64.wrap ((IntKind.i64.wrap ((IntKind.i64.wrap ((laws_markAttrS (s1.1[i1]?.getD default).S.Attrs (IntKind.i64.wrap ((IntKind.i64.wrap ((IntKind.i64.wrap ((IntKind.i64.wrap ((IntKind.i64.wrap ((IntKind.i64.wrap ((IntKind.i64.wrap (s1.2 + 1)) + 1)) + 1)) + 1)) + 1)) + 1)) + 1))).1 + 1)) + 1)) + 1)) + 1)) + 1)) + 1)) (IntKind.i64.wrap ((IntKind.i64.wrap ((IntKind.i64.wrap ((IntKind.i64.wrap ((IntKind.i64.wrap ((IntKind.i64.wrap ((IntKind.i64.wrap ((laws_markAttrS (s1.1[i1]?.getD default).S.Attrs (IntKind.i64.wrap ((IntKind.i64.wrap ((IntKind.i64.wrap ((IntKind.i64.wrap ((IntKind.i64.wrap ((IntKind.i64.wrap ((IntKind.i64.wrap (s1.2 + 1)) + 1)) + 1)) + 1)) + 1)) + 1)) + 1))).1 + 1)) + 1)) + 1)) + 1)) + 1)) + 1)) + 1)) (IntKind.i64.wrap ((IntKind.i64.wrap ((IntKind.i64.wrap ((IntKind.i64.wrap ((IntKind.i64.wrap ((IntKind.i64.wrap ((IntKind.i64.wrap ((IntKind.i64.wrap ((laws_markAttrS (s1.1[i1]?.getD default).S.Attrs (IntKind.i64.wrap ((IntKind.i64.wrap ((IntKind.i64.wrap ((IntKind.i64.wrap ((IntKind.i64.wrap ((IntKind.i64.wrap ((IntKind.i64.wrap (s1.2 + 1)) + 1)) + 1)) + 1)) + 1)) + 1)) + 1))).1 + 1)) + 1)) + 1)) + 1)) + 1)) + 1)) + 1)) + 1)) (IntKind.i64.wrap ((IntKind.i64.wrap ((IntKind.i64.wrap ((IntKind.i64.wrap ((IntKind.i64.wrap ((IntKind.i64.wrap ((IntKind.i64.wrap ((IntKind.i64.wrap ((IntKind.i64.wrap ((laws_markAttrS (s1.1[i1]?.getD default).S.Attrs (IntKind.i64.wrap ((IntKind.i64.wrap ((IntKind.i64.wrap ((IntKind.i64.wrap ((IntKind.i64.wrap ((IntKind.i64.wrap ((IntKind.i64.wrap (s1.2 + 1)) + 1)) + 1)) + 1)) + 1)) + 1)) + 1))).1 + 1)) + 1)) + 1)) + 1)) + 1)) + 1)) + 1)) + 1)) + 1)) (IntKind.i64.wrap ((IntKind.i64.wrap ((IntKind.i64.wrap ((IntKind.i64.wrap ((IntKind.i64.wrap ((IntKind.i64.wrap ((IntKind.i64.wrap ((IntKind.i64.wrap ((IntKind.i64.wrap ((IntKind.i64.wrap ((laws_markAttrS (s1.1[i1]?.getD default).S.Attrs (IntKind.i64.wrap ((IntKind.i64.wrap ((IntKind.i64.wrap ((IntKind.i64.wrap ((IntKind.i64.wrap ((IntKind.i64.wrap ((IntKind.i64.wrap (s1.2 + 1)) + 1)) + 1)) + 1)) + 1)) + 1)) + 1))).1 + 1)) + 1)) + 1)) + 1)) + 1)) + 1)) + 1)) + 1)) + 1)) + 1)) (IntKind.i64.wrap ((IntKind.i64.wrap ((IntKind.i64.wrap ((IntKind.i64.wrap ((IntKind.i64.wrap ((IntKind.i64.wrap ((IntKind.i64.wrap ((IntKind.i64.wrap ((IntKind.i64.wrap ((IntKind.i64.wrap ((IntKind.i64.wrap ((laws_markAttrS (s1.1[i1]?.getD default).S.Attrs (IntKind.i64.wrap ((IntKind.i64.wrap ((IntKind.i64.wrap ((IntKind.i64.wrap ((IntKind.i64.wrap ((IntKind.i64.wrap ((IntKind.i64.wrap (s1.2 + 1)) + 1)) + 1)) + 1)) + 1)) + 1)) + 1))).1 + 1)) + 1)) + 1)) + 1)) + 1)) + 1)) + 1)) + 1)) + 1)) + 1)) + 1)))), (IntKind.i64.wrap ((IntKind.i64.wrap ((IntKind.i64.wrap ((IntKind.i64.wrap ((IntKind.i64.wrap ((IntKind.i64.wrap ((IntKind.i64.wrap ((IntKind.i64.wrap ((IntKind.i64.wrap ((IntKind.i64.wrap ((IntKind.i64.wrap ((IntKind.i64.wrap ((laws_markAttrS (s1.1[i1]?.getD default).S.Attrs (IntKind.i64.wrap ((IntKind.i64.wrap ((IntKind.i64.wrap ((IntKind.i64.wrap ((IntKind.i64.wrap ((IntKind.i64.wrap ((IntKind.i64.wrap (s1.2 + 1)) + 1)) + 1)) + 1)) + 1)) + 1)) + 1))).1 + 1)) + 1)) + 1)) + 1)) + 1)) + 1)) + 1)) + 1)) + 1)) + 1)) + 1)) + 1))))
def laws_markDeedS (p0 : (List Deed)) (p1 : Int) : (Int × (List Deed)) :=
  (Fin.get (fun s1 => (s1.2, s1.1)) (loopL laws_markDeedS_b1 0 (p0, p1) p0))
theorem c_laws_markDeedS (p0 : (List Deed)) (p1 : Int) : FnOk prog 34 [.tup [.one (.s true 20 (List.map (Deed.cells true) p0))], .one (.v (.int .i64 p1))] ⟨.one (.v (.int .i64 (laws_markDeedS p0 p1).1)), [.one (.s true 20 (List.map (Deed.cells true) ((laws_markDeedS p0 p1).2)))], [], false⟩ := by
  refine FnOk.introM (E := env) envOk wide func34 rfl (by kernel_rfl) rfl ?_
  have hg := laws_markDeedS.eq_1 p0 p1
  have hown : (∀ g : (Int × (List Deed)), AV.Own (AV.one (.v (.int .i64 g.1)))) ∧ (fun g : (Int × (List Deed)) => T.s true 20 (List.map (Deed.cells true) (g.2))) = _ := ⟨fun g => .v _, rfl⟩
  refine seqE ?_
  refine seqE ?_
  refine seqE ?_
  refine loopLI (fun _ s => (s.1).length = (p0).length) hg (by simp) [0] (fun x1 => [(1, .one (.v (.int .i64 x1.s.2))), (5, .one (.v (.int .i64 ((x1.i : Nat) : Int))))]) (fun x1 => [.dead, .new ⟨20, false, List.map (Deed.cells true) x1.s.1, 0⟩]) [none, some 1] ?_ (fun x1 => ?_)
  · exact ⟨rfl, ⟨rfl, rfl, ⟨rfl, rfl, rfl, rfl, by (first | rfl | omega | (dsimp only; omega) | (simp; done) | (simp; omega) | (simp [LstSt.init, LstSt.step, LstInv.init, CntSt.init, CntSt.step, CntInv.init, WhlSt.init, WhlSt.step]; done) | (simp [LstSt.init, LstSt.step, LstInv.init, CntSt.init, CntSt.step, CntInv.init, WhlSt.init, WhlSt.step]; omega))⟩, trivial⟩, ⟨⟨rfl, rfl, rfl⟩, trivial⟩, ⟨⟨rfl, rfl, rfl, rfl, by (first | rfl | omega | (dsimp only; omega) | (simp; done) | (simp; omega) | (simp [LstSt.init, LstSt.step, LstInv.init, CntSt.init, CntSt.step, CntInv.init, WhlSt.init, WhlSt.step]; done) | (simp [LstSt.init, LstSt.step, LstInv.init, CntSt.init, CntSt.step, CntInv.init, WhlSt.init, WhlSt.step]; omega))⟩, trivial⟩⟩
  have hI1 : (x1.s.1).length = (p0).length := by simpa using x1.hI
  refine seqE ?_
  refine seqE ?_
  refine lenE (k := (p0).length) (by simp) (fun hN1 => ?_)
  refine tstL (fun hi1 => ?_) (fun hi1 => ?_)
  · have hb1 := (x1.bdy hi1).trans (laws_markDeedS_b1.eq_1 ..)
    have hw1 := wrap_succ hi1 (by first | assumption | omega)
    refine seqE ?_
    refine seqE ?_
    refine andE (by (first | omega | (simp (disch := omega) only [wrap_small, mid_eq, List.length_map]; omega) | (simp; done) | (simp; omega) | (simp at *; omega) | (simp at *; done) | (simp_all; done) | (simp_all; omega))) ?_
    refine rowsE (Y := List.map (Deed.cells true) (List.set x1.s.1 x1.i (Deed.mk x1.s.2 (x1.s.1[x1.i]?.getD default).Task (x1.s.1[x1.i]?.getD default).S (x1.s.1[x1.i]?.getD default).Trace (x1.s.1[x1.i]?.getD default).Stamp (x1.s.1[x1.i]?.getD default).Code (x1.s.1[x1.i]?.getD default).Keep (x1.s.1[x1.i]?.getD default).Void (x1.s.1[x1.i]?.getD default).Took (x1.s.1[x1.i]?.getD default).N (x1.s.1[x1.i]?.getD default).Forgot (x1.s.1[x1.i]?.getD default).Now (x1.s.1[x1.i]?.getD default).Inv (x1.s.1[x1.i]?.getD default).Lin (x1.s.1[x1.i]?.getD default).Res))) (by exact setMapE (by simp) (fun a ha => by first | rfl | (simp only [ha, Option.getD_some]; rfl) | (obtain ⟨_, rfl⟩ := List.getElem?_eq_some_iff.1 ha; rfl) | (simp only [Pol.cells_eq]; rfl) | (simp only [ha, Option.getD_some, Pol.cells_eq]; rfl))) ?_
    refine seqE ?_
    refine seqE ?_
    refine andE (by (first | omega | (simp (disch := omega) only [wrap_small, mid_eq, List.length_map]; omega) | (simp; done) | (simp; omega) | (simp at *; omega) | (simp at *; done) | (simp_all; done) | (simp_all; omega))) ?_
    refine rowsE (Y := List.map (Deed.cells true) (List.set x1.s.1 x1.i (Deed.mk x1.s.2 (IntKind.i64.wrap (x1.s.2 + 1)) (x1.s.1[x1.i]?.getD default).S (x1.s.1[x1.i]?.getD default).Trace (x1.s.1[x1.i]?.getD default).Stamp (x1.s.1[x1.i]?.getD default).Code (x1.s.1[x1.i]?.getD default).Keep (x1.s.1[x1.i]?.getD default).Void (x1.s.1[x1.i]?.getD default).Took (x1.s.1[x1.i]?.getD default).N (x1.s.1[x1.i]?.getD default).Forgot (x1.s.1[x1.i]?.getD default).Now (x1.s.1[x1.i]?.getD default).Inv (x1.s.1[x1.i]?.getD default).Lin (x1.s.1[x1.i]?.getD default).Res))) (by exact setMapS (by simp) (by first | rfl | (simp only [ha, Option.getD_some]; rfl) | (obtain ⟨_, rfl⟩ := List.getElem?_eq_some_iff.1 ha; rfl) | (simp only [Pol.cells_eq]; rfl) | (simp only [ha, Option.getD_some, Pol.cells_eq]; rfl))) ?_
    refine seqE ?_
    refine seqE ?_
    refine andE (by (first | omega | (simp (disch := omega) only [wrap_small, mid_eq, List.length_map]; omega) | (simp; done) | (simp; omega) | (simp at *; omega) | (simp at *; done) | (simp_all; done) | (simp_all; omega))) ?_
    refine rowsE (Y := List.map (Deed.cells true) (List.set x1.s.1 x1.i (Deed.mk x1.s.2 (IntKind.i64.wrap (x1.s.2 + 1)) (Span.mk (IntKind.i64.wrap ((IntKind.i64.wrap (x1.s.2 + 1)) + 1)) (x1.s.1[x1.i]?.getD default).S.Id (x1.s.1[x1.i]?.getD default).S.Start (x1.s.1[x1.i]?.getD default).S.End (x1.s.1[x1.i]?.getD default).S.Err (x1.s.1[x1.i]?.getD default).S.Attrs) (x1.s.1[x1.i]?.getD default).Trace (x1.s.1[x1.i]?.getD default).Stamp (x1.s.1[x1.i]?.getD default).Code (x1.s.1[x1.i]?.getD default).Keep (x1.s.1[x1.i]?.getD default).Void (x1.s.1[x1.i]?.getD default).Took (x1.s.1[x1.i]?.getD default).N (x1.s.1[x1.i]?.getD default).Forgot (x1.s.1[x1.i]?.getD default).Now (x1.s.1[x1.i]?.getD default).Inv (x1.s.1[x1.i]?.getD default).Lin (x1.s.1[x1.i]?.getD default).Res))) (by exact setMapS (by simp) (by first | rfl | (simp only [ha, Option.getD_some]; rfl) | (obtain ⟨_, rfl⟩ := List.getElem?_eq_some_iff.1 ha; rfl) | (simp only [Pol.cells_eq]; rfl) | (simp only [ha, Option.getD_some, Pol.cells_eq]; rfl))) ?_
    refine seqE ?_
    refine seqE ?_
    refine andE (by (first | omega | (simp (disch := omega) only [wrap_small, mid_eq, List.length_map]; omega) | (simp; done) | (simp; omega) | (simp at *; omega) | (simp at *; done) | (simp_all; done) | (simp_all; omega))) ?_
    refine rowsE (Y := List.map (Deed.cells true) (List.set x1.s.1 x1.i (Deed.mk x1.s.2 (IntKind.i64.wrap (x1.s.2 + 1)) (Span.mk (IntKind.i64.wrap ((IntKind.i64.wrap (x1.s.2 + 1)) + 1)) (IntKind.i64.wrap ((IntKind.i64.wrap ((IntKind.i64.wrap (x1.s.2 + 1)) + 1)) + 1)) (x1.s.1[x1.i]?.getD default).S.Start (x1.s.1[x1.i]?.getD default).S.End (x1.s.1[x1.i]?.getD default).S.Err (x1.s.1[x1.i]?.getD default).S.Attrs) (x1.s.1[x1.i]?.getD default).Trace (x1.s.1[x1.i]?.getD default).Stamp (x1.s.1[x1.i]?.getD default).Code (x1.s.1[x1.i]?.getD default).Keep (x1.s.1[x1.i]?.getD default).Void (x1.s.1[x1.i]?.getD default).Took (x1.s.1[x1.i]?.getD default).N (x1.s.1[x1.i]?.getD default).Forgot (x1.s.1[x1.i]?.getD default).Now (x1.s.1[x1.i]?.getD default).Inv (x1.s.1[x1.i]?.getD default).Lin (x1.s.1[x1.i]?.getD default).Res))) (by exact setMapS (by simp) (by first | rfl | (simp only [ha, Option.getD_some]; rfl) | (obtain ⟨_, rfl⟩ := List.getElem?_eq_some_iff.1 ha; rfl) | (simp only [Pol.cells_eq]; rfl) | (simp only [ha, Option.getD_some, Pol.cells_eq]; rfl))) ?_
    refine seqE ?_
    refine seqE ?_
    refine andE (by (first | omega | (simp (disch := omega) only [wrap_small, mid_eq, List.length_map]; omega) | (simp; done) | (simp; omega) | (simp at *; omega) | (simp at *; done) | (simp_all; done) | (simp_all; omega))) ?_
    refine rowsE (Y := List.map (Deed.cells true) (List.set x1.s.1 x1.i (Deed.mk x1.s.2 (IntKind.i64.wrap (x1.s.2 + 1)) (Span.mk (IntKind.i64.wrap ((IntKind.i64.wrap (x1.s.2 + 1)) + 1)) (IntKind.i64.wrap ((IntKind.i64.wrap ((IntKind.i64.wrap (x1.s.2 + 1)) + 1)) + 1)) (IntKind.i64.wrap ((IntKind.i64.wrap ((IntKind.i64.wrap ((IntKind.i64.wrap (x1.s.2 + 1)) + 1)) + 1)) + 1)) (x1.s.1[x1.i]?.getD default).S.End (x1.s.1[x1.i]?.getD default).S.Err (x1.s.1[x1.i]?.getD default).S.Attrs) (x1.s.1[x1.i]?.getD default).Trace (x1.s.1[x1.i]?.getD default).Stamp (x1.s.1[x1.i]?.getD default).Code (x1.s.1[x1.i]?.getD default).Keep (x1.s.1[x1.i]?.getD default).Void (x1.s.1[x1.i]?.getD default).Took (x1.s.1[x1.i]?.getD default).N (x1.s.1[x1.i]?.getD default).Forgot (x1.s.1[x1.i]?.getD default).Now (x1.s.1[x1.i]?.getD default).Inv (x1.s.1[x1.i]?.getD default).Lin (x1.s.1[x1.i]?.getD default).Res))) (by exact setMapS (by simp) (by first | rfl | (simp only [ha, Option.getD_some]; rfl) | (obtain ⟨_, rfl⟩ := List.getElem?_eq_some_iff.1 ha; rfl) | (simp only [Pol.cells_eq]; rfl) | (simp only [ha, Option.getD_some, Pol.cells_eq]; rfl))) ?_
    refine seqE ?_
    refine seqE ?_
    refine andE (by (first | omega | (simp (disch := omega) only [wrap_small, mid_eq, List.length_map]; omega) | (simp; done) | (simp; omega) | (simp at *; omega) | (simp at *; done) | (simp_all; done) | (simp_all; omega))) ?_
    refine rowsE (Y := List.map (Deed.cells true) (List.set x1.s.1 x1.i (Deed.mk x1.s.2 (IntKind.i64.wrap (x1.s.2 + 1)) (Span.mk (IntKind.i64.wrap ((IntKind.i64.wrap (x1.s.2 + 1)) + 1)) (IntKind.i64.wrap ((IntKind.i64.wrap ((IntKind.i64.wrap (x1.s.2 + 1)) + 1)) + 1)) (IntKind.i64.wrap ((IntKind.i64.wrap ((IntKind.i64.wrap ((IntKind.i64.wrap (x1.s.2 + 1)) + 1)) + 1)) + 1)) (IntKind.i64.wrap ((IntKind.i64.wrap ((IntKind.i64.wrap ((IntKind.i64.wrap ((IntKind.i64.wrap (x1.s.2 + 1)) + 1)) + 1)) + 1)) + 1)) (x1.s.1[x1.i]?.getD default).S.Err (x1.s.1[x1.i]?.getD default).S.Attrs) (x1.s.1[x1.i]?.getD default).Trace (x1.s.1[x1.i]?.getD default).Stamp (x1.s.1[x1.i]?.getD default).Code (x1.s.1[x1.i]?.getD default).Keep (x1.s.1[x1.i]?.getD default).Void (x1.s.1[x1.i]?.getD default).Took (x1.s.1[x1.i]?.getD default).N (x1.s.1[x1.i]?.getD default).Forgot (x1.s.1[x1.i]?.getD default).Now (x1.s.1[x1.i]?.getD default).Inv (x1.s.1[x1.i]?.getD default).Lin (x1.s.1[x1.i]?.getD default).Res))) (by exact setMapS (by simp) (by first | rfl | (simp only [ha, Option.getD_some]; rfl) | (obtain ⟨_, rfl⟩ := List.getElem?_eq_some_iff.1 ha; rfl) | (simp only [Pol.cells_eq]; rfl) | (simp only [ha, Option.getD_some, Pol.cells_eq]; rfl))) ?_
    refine seqE ?_
    refine seqE ?_
    refine andE (by (first | omega | (simp (disch := omega) only [wrap_small, mid_eq, List.length_map]; omega) | (simp; done) | (simp; omega) | (simp at *; omega) | (simp at *; done) | (simp_all; done) | (simp_all; omega))) ?_
    refine andE (by (first | omega | (simp (disch := omega) only [wrap_small, mid_eq, List.length_map]; omega) | (simp; done) | (simp; omega) | (simp at *; omega) | (simp at *; done) | (simp_all; done) | (simp_all; omega))) ?_
    refine rowsE (Y := List.map (Deed.cells true) (List.set x1.s.1 x1.i (Deed.mk x1.s.2 (IntKind.i64.wrap (x1.s.2 + 1)) (Span.mk (IntKind.i64.wrap ((IntKind.i64.wrap (x1.s.2 + 1)) + 1)) (IntKind.i64.wrap ((IntKind.i64.wrap ((IntKind.i64.wrap (x1.s.2 + 1)) + 1)) + 1)) (IntKind.i64.wrap ((IntKind.i64.wrap ((IntKind.i64.wrap ((IntKind.i64.wrap (x1.s.2 + 1)) + 1)) + 1)) + 1)) (IntKind.i64.wrap ((IntKind.i64.wrap ((IntKind.i64.wrap ((IntKind.i64.wrap ((IntKind.i64.wrap (x1.s.2 + 1)) + 1)) + 1)) + 1)) + 1)) ((Int.tmod (IntKind.i64.wrap ((IntKind.i64.wrap ((IntKind.i64.wrap ((IntKind.i64.wrap ((IntKind.i64.wrap ((IntKind.i64.wrap (x1.s.2 + 1)) + 1)) + 1)) + 1)) + 1)) + 1)) 3) == 0) (x1.s.1[x1.i]?.getD default).S.Attrs) (x1.s.1[x1.i]?.getD default).Trace (x1.s.1[x1.i]?.getD default).Stamp (x1.s.1[x1.i]?.getD default).Code (x1.s.1[x1.i]?.getD default).Keep (x1.s.1[x1.i]?.getD default).Void (x1.s.1[x1.i]?.getD default).Took (x1.s.1[x1.i]?.getD default).N (x1.s.1[x1.i]?.getD default).Forgot (x1.s.1[x1.i]?.getD default).Now (x1.s.1[x1.i]?.getD default).Inv (x1.s.1[x1.i]?.getD default).Lin (x1.s.1[x1.i]?.getD default).Res))) (by exact setMapS (by simp) (by first | rfl | (simp only [ha, Option.getD_some]; rfl) | (obtain ⟨_, rfl⟩ := List.getElem?_eq_some_iff.1 ha; rfl) | (simp only [Pol.cells_eq]; rfl) | (simp only [ha, Option.getD_some, Pol.cells_eq]; rfl))) ?_
    refine seqE ?_
    refine seqE ?_
    refine andE (by (first | omega | (simp (disch := omega) only [wrap_small, mid_eq, List.length_map]; omega) | (simp; done) | (simp; omega) | (simp at *; omega) | (simp at *; done) | (simp_all; done) | (simp_all; omega))) ?_
    refine rowSetE (i := x1.i) (l := x1.s.1) (x := (Deed.mk x1.s.2 (IntKind.i64.wrap (x1.s.2 + 1)) (Span.mk (IntKind.i64.wrap ((IntKind.i64.wrap (x1.s.2 + 1)) + 1)) (IntKind.i64.wrap ((IntKind.i64.wrap ((IntKind.i64.wrap (x1.s.2 + 1)) + 1)) + 1)) (IntKind.i64.wrap ((IntKind.i64.wrap ((IntKind.i64.wrap ((IntKind.i64.wrap (x1.s.2 + 1)) + 1)) + 1)) + 1)) (IntKind.i64.wrap ((IntKind.i64.wrap ((IntKind.i64.wrap ((IntKind.i64.wrap ((IntKind.i64.wrap (x1.s.2 + 1)) + 1)) + 1)) + 1)) + 1)) ((Int.tmod (IntKind.i64.wrap ((IntKind.i64.wrap ((IntKind.i64.wrap ((IntKind.i64.wrap ((IntKind.i64.wrap ((IntKind.i64.wrap (x1.s.2 + 1)) + 1)) + 1)) + 1)) + 1)) + 1)) 3) == 0) (x1.s.1[x1.i]?.getD default).S.Attrs) (x1.s.1[x1.i]?.getD default).Trace (x1.s.1[x1.i]?.getD default).Stamp (x1.s.1[x1.i]?.getD default).Code (x1.s.1[x1.i]?.getD default).Keep (x1.s.1[x1.i]?.getD default).Void (x1.s.1[x1.i]?.getD default).Took (x1.s.1[x1.i]?.getD default).N (x1.s.1[x1.i]?.getD default).Forgot (x1.s.1[x1.i]?.getD default).Now (x1.s.1[x1.i]?.getD default).Inv (x1.s.1[x1.i]?.getD default).Lin (x1.s.1[x1.i]?.getD default).Res)) (by first | rfl | exact Nat.zero_add _ | simp) (fun _ => ?_)
    refine .inr ⟨0, ?_⟩
    refine rowSetE (i := x1.i) (l := x1.s.1) (x := (Deed.mk x1.s.2 (IntKind.i64.wrap (x1.s.2 + 1)) (Span.mk (IntKind.i64.wrap ((IntKind.i64.wrap (x1.s.2 + 1)) + 1)) (IntKind.i64.wrap ((IntKind.i64.wrap ((IntKind.i64.wrap (x1.s.2 + 1)) + 1)) + 1)) (IntKind.i64.wrap ((IntKind.i64.wrap ((IntKind.i64.wrap ((IntKind.i64.wrap (x1.s.2 + 1)) + 1)) + 1)) + 1)) (IntKind.i64.wrap ((IntKind.i64.wrap ((IntKind.i64.wrap ((IntKind.i64.wrap ((IntKind.i64.wrap (x1.s.2 + 1)) + 1)) + 1)) + 1)) + 1)) ((Int.tmod (IntKind.i64.wrap ((IntKind.i64.wrap ((IntKind.i64.wrap ((IntKind.i64.wrap ((IntKind.i64.wrap ((IntKind.i64.wrap (x1.s.2 + 1)) + 1)) + 1)) + 1)) + 1)) + 1)) 3) == 0) (x1.s.1[x1.i]?.getD default).S.Attrs) (x1.s.1[x1.i]?.getD default).Trace (x1.s.1[x1.i]?.getD default).Stamp (x1.s.1[x1.i]?.getD default).Code (x1.s.1[x1.i]?.getD default).Keep (x1.s.1[x1.i]?.getD default).Void (x1.s.1[x1.i]?.getD default).Took (x1.s.1[x1.i]?.getD default).N (x1.s.1[x1.i]?.getD default).Forgot (x1.s.1[x1.i]?.getD default).Now (x1.s.1[x1.i]?.getD default).Inv (x1.s.1[x1.i]?.getD default).Lin (x1.s.1[x1.i]?.getD default).Res)) (by first | rfl | exact Nat.zero_add _ | simp) (fun _ => ?_)
    refine ⟨_, _, _, c_laws_markAttrS (x1.s.1[x1.i]?.getD default).S.Attrs (IntKind.i64.wrap ((IntKind.i64.wrap ((IntKind.i64.wrap ((IntKind.i64.wrap ((IntKind.i64.wrap ((IntKind.i64.wrap ((IntKind.i64.wrap (x1.s.2 + 1)) + 1)) + 1)) + 1)) + 1)) + 1)) + 1)), (FzAs.same _), .inl ?_⟩
    refine rowsE (Y := List.map (Deed.cells true) (List.set x1.s.1 x1.i (Deed.mk x1.s.2 (IntKind.i64.wrap (x1.s.2 + 1)) (Span.mk (IntKind.i64.wrap ((IntKind.i64.wrap (x1.s.2 + 1)) + 1)) (IntKind.i64.wrap ((IntKind.i64.wrap ((IntKind.i64.wrap (x1.s.2 + 1)) + 1)) + 1)) (IntKind.i64.wrap ((IntKind.i64.wrap ((IntKind.i64.wrap ((IntKind.i64.wrap (x1.s.2 + 1)) + 1)) + 1)) + 1)) (IntKind.i64.wrap ((IntKind.i64.wrap ((IntKind.i64.wrap ((IntKind.i64.wrap ((IntKind.i64.wrap (x1.s.2 + 1)) + 1)) + 1)) + 1)) + 1)) ((Int.tmod (IntKind.i64.wrap ((IntKind.i64.wrap ((IntKind.i64.wrap ((IntKind.i64.wrap ((IntKind.i64.wrap ((IntKind.i64.wrap (x1.s.2 + 1)) + 1)) + 1)) + 1)) + 1)) + 1)) 3) == 0) (laws_markAttrS (x1.s.1[x1.i]?.getD default).S.Attrs (IntKind.i64.wrap ((IntKind.i64.wrap ((IntKind.i64.wrap ((IntKind.i64.wrap ((IntKind.i64.wrap ((IntKind.i64.wrap ((IntKind.i64.wrap (x1.s.2 + 1)) + 1)) + 1)) + 1)) + 1)) + 1)) + 1))).2) (x1.s.1[x1.i]?.getD default).Trace (x1.s.1[x1.i]?.getD default).Stamp (x1.s.1[x1.i]?.getD default).Code (x1.s.1[x1.i]?.getD default).Keep (x1.s.1[x1.i]?.getD default).Void (x1.s.1[x1.i]?.getD default).Took (x1.s.1[x1.i]?.getD default).N (x1.s.1[x1.i]?.getD default).Forgot (x1.s.1[x1.i]?.getD default).Now (x1.s.1[x1.i]?.getD default).Inv (x1.s.1[x1.i]?.getD default).Lin (x1.s.1[x1.i]?.getD default).Res))) (by exact setMapS (by simp) (by first | rfl | (simp only [ha, Option.getD_some]; rfl) | (obtain ⟨_, rfl⟩ := List.getElem?_eq_some_iff.1 ha; rfl) | (simp only [Pol.cells_eq]; rfl) | (simp only [ha, Option.getD_some, Pol.cells_eq]; rfl))) ?_
    refine litE (m := 3) rfl ?_
    refine seqE ?_
    refine andE (by (first | omega | (simp (disch := omega) only [wrap_small, mid_eq, List.length_map]; omega) | (simp; done) | (simp; omega) | (simp at *; omega) | (simp at *; done) | (simp_all; done) | (simp_all; omega))) ?_
    refine rowsE (Y := List.map (Deed.cells true) (List.set x1.s.1 x1.i (Deed.mk x1.s.2 (IntKind.i64.wrap (x1.s.2 + 1)) (Span.mk (IntKind.i64.wrap ((IntKind.i64.wrap (x1.s.2 + 1)) + 1)) (IntKind.i64.wrap ((IntKind.i64.wrap ((IntKind.i64.wrap (x1.s.2 + 1)) + 1)) + 1)) (IntKind.i64.wrap ((IntKind.i64.wrap ((IntKind.i64.wrap ((IntKind.i64.wrap (x1.s.2 + 1)) + 1)) + 1)) + 1)) (IntKind.i64.wrap ((IntKind.i64.wrap ((IntKind.i64.wrap ((IntKind.i64.wrap ((IntKind.i64.wrap (x1.s.2 + 1)) + 1)) + 1)) + 1)) + 1)) ((Int.tmod (IntKind.i64.wrap ((IntKind.i64.wrap ((IntKind.i64.wrap ((IntKind.i64.wrap ((IntKind.i64.wrap ((IntKind.i64.wrap (x1.s.2 + 1)) + 1)) + 1)) + 1)) + 1)) + 1)) 3) == 0) (laws_markAttrS (x1.s.1[x1.i]?.getD default).S.Attrs (IntKind.i64.wrap ((IntKind.i64.wrap ((IntKind.i64.wrap ((IntKind.i64.wrap ((IntKind.i64.wrap ((IntKind.i64.wrap ((IntKind.i64.wrap (x1.s.2 + 1)) + 1)) + 1)) + 1)) + 1)) + 1)) + 1))).2) (laws_markAttrS (x1.s.1[x1.i]?.getD default).S.Attrs (IntKind.i64.wrap ((IntKind.i64.wrap ((IntKind.i64.wrap ((IntKind.i64.wrap ((IntKind.i64.wrap ((IntKind.i64.wrap ((IntKind.i64.wrap (x1.s.2 + 1)) + 1)) + 1)) + 1)) + 1)) + 1)) + 1))).1 (x1.s.1[x1.i]?.getD default).Stamp (x1.s.1[x1.i]?.getD default).Code (x1.s.1[x1.i]?.getD default).Keep (x1.s.1[x1.i]?.getD default).Void (x1.s.1[x1.i]?.getD default).Took (x1.s.1[x1.i]?.getD default).N (x1.s.1[x1.i]?.getD default).Forgot (x1.s.1[x1.i]?.getD default).Now (x1.s.1[x1.i]?.getD default).Inv (x1.s.1[x1.i]?.getD default).Lin (x1.s.1[x1.i]?.getD default).Res))) (by exact setMapS (by simp) (by first | rfl | (simp only [ha, Option.getD_some]; rfl) | (obtain ⟨_, rfl⟩ := List.getElem?_eq_some_iff.1 ha; rfl) | (simp only [Pol.cells_eq]; rfl) | (simp only [ha, Option.getD_some, Pol.cells_eq]; rfl))) ?_
    refine seqE ?_
    refine seqE ?_
    refine andE (by (first | omega | (simp (disch := omega) only [wrap_small, mid_eq, List.length_map]; omega) | (simp; done) | (simp; omega) | (simp at *; omega) | (simp at *; done) | (simp_all; done) | (simp_all; omega))) ?_
    refine rowsE (Y := List.map (Deed.cells true) (List.set x1.s.1 x1.i (Deed.mk x1.s.2 (IntKind.i64.wrap (x1.s.2 + 1)) (Span.mk (IntKind.i64.wrap ((IntKind.i64.wrap (x1.s.2 + 1)) + 1)) (IntKind.i64.wrap ((IntKind.i64.wrap ((IntKind.i64.wrap (x1.s.2 + 1)) + 1)) + 1)) (IntKind.i64.wrap ((IntKind.i64.wrap ((IntKind.i64.wrap ((IntKind.i64.wrap (x1.s.2 + 1)) + 1)) + 1)) + 1)) (IntKind.i64.wrap ((IntKind.i64.wrap ((IntKind.i64.wrap ((IntKind.i64.wrap ((IntKind.i64.wrap (x1.s.2 + 1)) + 1)) + 1)) + 1)) + 1)) ((Int.tmod (IntKind.i64.wrap ((IntKind.i64.wrap ((IntKind.i64.wrap ((IntKind.i64.wrap ((IntKind.i64.wrap ((IntKind.i64.wrap (x1.s.2 + 1)) + 1)) + 1)) + 1)) + 1)) + 1)) 3) == 0) (laws_markAttrS (x1.s.1[x1.i]?.getD default).S.Attrs (IntKind.i64.wrap ((IntKind.i64.wrap ((IntKind.i64.wrap ((IntKind.i64.wrap ((IntKind.i64.wrap ((IntKind.i64.wrap ((IntKind.i64.wrap (x1.s.2 + 1)) + 1)) + 1)) + 1)) + 1)) + 1)) + 1))).2) (laws_markAttrS (x1.s.1[x1.i]?.getD default).S.Attrs (IntKind.i64.wrap ((IntKind.i64.wrap ((IntKind.i64.wrap ((IntKind.i64.wrap ((IntKind.i64.wrap ((IntKind.i64.wrap ((IntKind.i64.wrap (x1.s.2 + 1)) + 1)) + 1)) + 1)) + 1)) + 1)) + 1))).1 (IntKind.i64.wrap ((laws_markAttrS (x1.s.1[x1.i]?.getD default).S.Attrs (IntKind.i64.wrap ((IntKind.i64.wrap ((IntKind.i64.wrap ((IntKind.i64.wrap ((IntKind.i64.wrap ((IntKind.i64.wrap ((IntKind.i64.wrap (x1.s.2 + 1)) + 1)) + 1)) + 1)) + 1)) + 1)) + 1))).1 + 1)) (x1.s.1[x1.i]?.getD default).Code (x1.s.1[x1.i]?.getD default).Keep (x1.s.1[x1.i]?.getD default).Void (x1.s.1[x1.i]?.getD default).Took (x1.s.1[x1.i]?.getD default).N (x1.s.1[x1.i]?.getD default).Forgot (x1.s.1[x1.i]?.getD default).Now (x1.s.1[x1.i]?.getD default).Inv (x1.s.1[x1.i]?.getD default).Lin (x1.s.1[x1.i]?.getD default).Res))) (by exact setMapS (by simp) (by first | rfl | (simp only [ha, Option.getD_some]; rfl) | (obtain ⟨_, rfl⟩ := List.getElem?_eq_some_iff.1 ha; rfl) | (simp only [Pol.cells_eq]; rfl) | (simp only [ha, Option.getD_some, Pol.cells_eq]; rfl))) ?_
    refine seqE ?_
    refine seqE ?_
    refine andE (by (first | omega | (simp (disch := omega) only [wrap_small, mid_eq, List.length_map]; omega) | (simp; done) | (simp; omega) | (simp at *; omega) | (simp at *; done) | (simp_all; done) | (simp_all; omega))) ?_
    refine rowsE (Y := List.map (Deed.cells true) (List.set x1.s.1 x1.i (Deed.mk x1.s.2 (IntKind.i64.wrap (x1.s.2 + 1)) (Span.mk (IntKind.i64.wrap ((IntKind.i64.wrap (x1.s.2 + 1)) + 1)) (IntKind.i64.wrap ((IntKind.i64.wrap ((IntKind.i64.wrap (x1.s.2 + 1)) + 1)) + 1)) (IntKind.i64.wrap ((IntKind.i64.wrap ((IntKind.i64.wrap ((IntKind.i64.wrap (x1.s.2 + 1)) + 1)) + 1)) + 1)) (IntKind.i64.wrap ((IntKind.i64.wrap ((IntKind.i64.wrap ((IntKind.i64.wrap ((IntKind.i64.wrap (x1.s.2 + 1)) + 1)) + 1)) + 1)) + 1)) ((Int.tmod (IntKind.i64.wrap ((IntKind.i64.wrap ((IntKind.i64.wrap ((IntKind.i64.wrap ((IntKind.i64.wrap ((IntKind.i64.wrap (x1.s.2 + 1)) + 1)) + 1)) + 1)) + 1)) + 1)) 3) == 0) (laws_markAttrS (x1.s.1[x1.i]?.getD default).S.Attrs (IntKind.i64.wrap ((IntKind.i64.wrap ((IntKind.i64.wrap ((IntKind.i64.wrap ((IntKind.i64.wrap ((IntKind.i64.wrap ((IntKind.i64.wrap (x1.s.2 + 1)) + 1)) + 1)) + 1)) + 1)) + 1)) + 1))).2) (laws_markAttrS (x1.s.1[x1.i]?.getD default).S.Attrs (IntKind.i64.wrap ((IntKind.i64.wrap ((IntKind.i64.wrap ((IntKind.i64.wrap ((IntKind.i64.wrap ((IntKind.i64.wrap ((IntKind.i64.wrap (x1.s.2 + 1)) + 1)) + 1)) + 1)) + 1)) + 1)) + 1))).1 (IntKind.i64.wrap ((laws_markAttrS (x1.s.1[x1.i]?.getD default).S.Attrs (IntKind.i64.wrap ((IntKind.i64.wrap ((IntKind.i64.wrap ((IntKind.i64.wrap ((IntKind.i64.wrap ((IntKind.i64.wrap ((IntKind.i64.wrap (x1.s.2 + 1)) + 1)) + 1)) + 1)) + 1)) + 1)) + 1))).1 + 1)) (IntKind.i64.wrap ((IntKind.i64.wrap ((laws_markAttrS (x1.s.1[x1.i]?.getD default).S.Attrs (IntKind.i64.wrap ((IntKind.i64.wrap ((IntKind.i64.wrap ((IntKind.i64.wrap ((IntKind.i64.wrap ((IntKind.i64.wrap ((IntKind.i64.wrap (x1.s.2 + 1)) + 1)) + 1)) + 1)) + 1)) + 1)) + 1))).1 + 1)) + 1)) (x1.s.1[x1.i]?.getD default).Keep (x1.s.1[x1.i]?.getD default).Void (x1.s.1[x1.i]?.getD default).Took (x1.s.1[x1.i]?.getD default).N (x1.s.1[x1.i]?.getD default).Forgot (x1.s.1[x1.i]?.getD default).Now (x1.s.1[x1.i]?.getD default).Inv (x1.s.1[x1.i]?.getD default).Lin (x1.s.1[x1.i]?.getD default).Res))) (by exact setMapS (by simp) (by first | rfl | (simp only [ha, Option.getD_some]; rfl) | (obtain ⟨_, rfl⟩ := List.getElem?_eq_some_iff.1 ha; rfl) | (simp only [Pol.cells_eq]; rfl) | (simp only [ha, Option.getD_some, Pol.cells_eq]; rfl))) ?_
    refine seqE ?_
    refine seqE ?_
    refine andE (by (first | omega | (simp (disch := omega) only [wrap_small, mid_eq, List.length_map]; omega) | (simp; done) | (simp; omega) | (simp at *; omega) | (simp at *; done) | (simp_all; done) | (simp_all; omega))) ?_
    refine andE (by (first | omega | (simp (disch := omega) only [wrap_small, mid_eq, List.length_map]; omega) | (simp; done) | (simp; omega) | (simp at *; omega) | (simp at *; done) | (simp_all; done) | (simp_all; omega))) ?_
    refine rowsE (Y := List.map (Deed.cells true) (List.set x1.s.1 x1.i (Deed.mk x1.s.2 (IntKind.i64.wrap (x1.s.2 + 1)) (Span.mk (IntKind.i64.wrap ((IntKind.i64.wrap (x1.s.2 + 1)) + 1)) (IntKind.i64.wrap ((IntKind.i64.wrap ((IntKind.i64.wrap (x1.s.2 + 1)) + 1)) + 1)) (IntKind.i64.wrap ((IntKind.i64.wrap ((IntKind.i64.wrap ((IntKind.i64.wrap (x1.s.2 + 1)) + 1)) + 1)) + 1)) (IntKind.i64.wrap ((IntKind.i64.wrap ((IntKind.i64.wrap ((IntKind.i64.wrap ((IntKind.i64.wrap (x1.s.2 + 1)) + 1)) + 1)) + 1)) + 1)) ((Int.tmod (IntKind.i64.wrap ((IntKind.i64.wrap ((IntKind.i64.wrap ((IntKind.i64.wrap ((IntKind.i64.wrap ((IntKind.i64.wrap (x1.s.2 + 1)) + 1)) + 1)) + 1)) + 1)) + 1)) 3) == 0) (laws_markAttrS (x1.s.1[x1.i]?.getD default).S.Attrs (IntKind.i64.wrap ((IntKind.i64.wrap ((IntKind.i64.wrap ((IntKind.i64.wrap ((IntKind.i64.wrap ((IntKind.i64.wrap ((IntKind.i64.wrap (x1.s.2 + 1)) + 1)) + 1)) + 1)) + 1)) + 1)) + 1))).2) (laws_markAttrS (x1.s.1[x1.i]?.getD default).S.Attrs (IntKind.i64.wrap ((IntKind.i64.wrap ((IntKind.i64.wrap ((IntKind.i64.wrap ((IntKind.i64.wrap ((IntKind.i64.wrap ((IntKind.i64.wrap (x1.s.2 + 1)) + 1)) + 1)) + 1)) + 1)) + 1)) + 1))).1 (IntKind.i64.wrap ((laws_markAttrS (x1.s.1[x1.i]?.getD default).S.Attrs (IntKind.i64.wrap ((IntKind.i64.wrap ((IntKind.i64.wrap ((IntKind.i64.wrap ((IntKind.i64.wrap ((IntKind.i64.wrap ((IntKind.i64.wrap (x1.s.2 + 1)) + 1)) + 1)) + 1)) + 1)) + 1)) + 1))).1 + 1)) (IntKind.i64.wrap ((IntKind.i64.wrap ((laws_markAttrS (x1.s.1[x1.i]?.getD default).S.Attrs (IntKind.i64.wrap ((IntKind.i64.wrap ((IntKind.i64.wrap ((IntKind.i64.wrap ((IntKind.i64.wrap ((IntKind.i64.wrap ((IntKind.i64.wrap (x1.s.2 + 1)) + 1)) + 1)) + 1)) + 1)) + 1)) + 1))).1 + 1)) + 1)) ((Int.tmod (IntKind.i64.wrap ((IntKind.i64.wrap ((IntKind.i64.wrap ((laws_markAttrS (x1.s.1[x1.i]?.getD default).S.Attrs (IntKind.i64.wrap ((IntKind.i64.wrap ((IntKind.i64.wrap ((IntKind.i64.wrap ((IntKind.i64.wrap ((IntKind.i64.wrap ((IntKind.i64.wrap (x1.s.2 + 1)) + 1)) + 1)) + 1)) + 1)) + 1)) + 1))).1 + 1)) + 1)) + 1)) 3) == 0) (x1.s.1[x1.i]?.getD default).Void (x1.s.1[x1.i]?.getD default).Took (x1.s.1[x1.i]?.getD default).N (x1.s.1[x1.i]?.getD default).Forgot (x1.s.1[x1.i]?.getD default).Now (x1.s.1[x1.i]?.getD default).Inv (x1.s.1[x1.i]?.getD default).Lin (x1.s.1[x1.i]?.getD default).Res))) (by exact setMapS (by simp) (by first | rfl | (simp only [ha, Option.getD_some]; rfl) | (obtain ⟨_, rfl⟩ := List.getElem?_eq_some_iff.1 ha; rfl) | (simp only [Pol.cells_eq]; rfl) | (simp only [ha, Option.getD_some, Pol.cells_eq]; rfl))) ?_
    refine seqE ?_
    refine seqE ?_
    refine andE (by (first | omega | (simp (disch := omega) only [wrap_small, mid_eq, List.length_map]; omega) | (simp; done) | (simp; omega) | (simp at *; omega) | (simp at *; done) | (simp_all; done) | (simp_all; omega))) ?_
    refine andE (by (first | omega | (simp (disch := omega) only [wrap_small, mid_eq, List.length_map]; omega) | (simp; done) | (simp; omega) | (simp at *; omega) | (simp at *; done) | (simp_all; done) | (simp_all; omega))) ?_
    refine rowsE (Y := List.map (Deed.cells true) (List.set x1.s.1 x1.i (Deed.mk x1.s.2 (IntKind.i64.wrap (x1.s.2 + 1)) (Span.mk (IntKind.i64.wrap ((IntKind.i64.wrap (x1.s.2 + 1)) + 1)) (IntKind.i64.wrap ((IntKind.i64.wrap ((IntKind.i64.wrap (x1.s.2 + 1)) + 1)) + 1)) (IntKind.i64.wrap ((IntKind.i64.wrap ((IntKind.i64.wrap ((IntKind.i64.wrap (x1.s.2 + 1)) + 1)) + 1)) + 1)) (IntKind.i64.wrap ((IntKind.i64.wrap ((IntKind.i64.wrap ((IntKind.i64.wrap ((IntKind.i64.wrap (x1.s.2 + 1)) + 1)) + 1)) + 1)) + 1)) ((Int.tmod (IntKind.i64.wrap ((IntKind.i64.wrap ((IntKind.i64.wrap ((IntKind.i64.wrap ((IntKind.i64.wrap ((IntKind.i64.wrap (x1.s.2 + 1)) + 1)) + 1)) + 1)) + 1)) + 1)) 3) == 0) (laws_markAttrS (x1.s.1[x1.i]?.getD default).S.Attrs (IntKind.i64.wrap ((IntKind.i64.wrap ((IntKind.i64.wrap ((IntKind.i64.wrap ((IntKind.i64.wrap ((IntKind.i64.wrap ((IntKind.i64.wrap (x1.s.2 + 1)) + 1)) + 1)) + 1)) + 1)) + 1)) + 1))).2) (laws_markAttrS (x1.s.1[x1.i]?.getD default).S.Attrs (IntKind.i64.wrap ((IntKind.i64.wrap ((IntKind.i64.wrap ((IntKind.i64.wrap ((IntKind.i64.wrap ((IntKind.i64.wrap ((IntKind.i64.wrap (x1.s.2 + 1)) + 1)) + 1)) + 1)) + 1)) + 1)) + 1))).1 (IntKind.i64.wrap ((laws_markAttrS (x1.s.1[x1.i]?.getD default).S.Attrs (IntKind.i64.wrap ((IntKind.i64.wrap ((IntKind.i64.wrap ((IntKind.i64.wrap ((IntKind.i64.wrap ((IntKind.i64.wrap ((IntKind.i64.wrap (x1.s.2 + 1)) + 1)) + 1)) + 1)) + 1)) + 1)) + 1))).1 + 1)) (IntKind.i64.wrap ((IntKind.i64.wrap ((laws_markAttrS (x1.s.1[x1.i]?.getD default).S.Attrs (IntKind.i64.wrap ((IntKind.i64.wrap ((IntKind.i64.wrap ((IntKind.i64.wrap ((IntKind.i64.wrap ((IntKind.i64.wrap ((IntKind.i64.wrap (x1.s.2 + 1)) + 1)) + 1)) + 1)) + 1)) + 1)) + 1))).1 + 1)) + 1)) ((Int.tmod (IntKind.i64.wrap ((IntKind.i64.wrap ((IntKind.i64.wrap ((laws_markAttrS (x1.s.1[x1.i]?.getD default).S.Attrs (IntKind.i64.wrap ((IntKind.i64.wrap ((IntKind.i64.wrap ((IntKind.i64.wrap ((IntKind.i64.wrap ((IntKind.i64.wrap ((IntKind.i64.wrap (x1.s.2 + 1)) + 1)) + 1)) + 1)) + 1)) + 1)) + 1))).1 + 1)) + 1)) + 1)) 3) == 0) ((Int.tmod (IntKind.i64.wrap ((IntKind.i64.wrap ((IntKind.i64.wrap ((IntKind.i64.wrap ((laws_markAttrS (x1.s.1[x1.i]?.getD default).S.Attrs (IntKind.i64.wrap ((IntKind.i64.wrap ((IntKind.i64.wrap ((IntKind.i64.wrap ((IntKind.i64.wrap ((IntKind.i64.wrap ((IntKind.i64.wrap (x1.s.2 + 1)) + 1)) + 1)) + 1)) + 1)) + 1)) + 1))).1 + 1)) + 1)) + 1)) + 1)) 3) == 0) (x1.s.1[x1.i]?.getD default).Took (x1.s.1[x1.i]?.getD default).N (x1.s.1[x1.i]?.getD default).Forgot (x1.s.1[x1.i]?.getD default).Now (x1.s.1[x1.i]?.getD default).Inv (x1.s.1[x1.i]?.getD default).Lin (x1.s.1[x1.i]?.getD default).Res))) (by exact setMapS (by simp) (by first | rfl | (simp only [ha, Option.getD_some]; rfl) | (obtain ⟨_, rfl⟩ := List.getElem?_eq_some_iff.1 ha; rfl) | (simp only [Pol.cells_eq]; rfl) | (simp only [ha, Option.getD_some, Pol.cells_eq]; rfl))) ?_
    refine seqE ?_
    refine seqE ?_
    refine andE (by (first | omega | (simp (disch := omega) only [wrap_small, mid_eq, List.length_map]; omega) | (simp; done) | (simp; omega) | (simp at *; omega) | (simp at *; done) | (simp_all; done) | (simp_all; omega))) ?_
    refine rowsE (Y := List.map (Deed.cells true) (List.set x1.s.1 x1.i (Deed.mk x1.s.2 (IntKind.i64.wrap (x1.s.2 + 1)) (Span.mk (IntKind.i64.wrap ((IntKind.i64.wrap (x1.s.2 + 1)) + 1)) (IntKind.i64.wrap ((IntKind.i64.wrap ((IntKind.i64.wrap (x1.s.2 + 1)) + 1)) + 1)) (IntKind.i64.wrap ((IntKind.i64.wrap ((IntKind.i64.wrap ((IntKind.i64.wrap (x1.s.2 + 1)) + 1)) + 1)) + 1)) (IntKind.i64.wrap ((IntKind.i64.wrap ((IntKind.i64.wrap ((IntKind.i64.wrap ((IntKind.i64.wrap (x1.s.2 + 1)) + 1)) + 1)) + 1)) + 1)) ((Int.tmod (IntKind.i64.wrap ((IntKind.i64.wrap ((IntKind.i64.wrap ((IntKind.i64.wrap ((IntKind.i64.wrap ((IntKind.i64.wrap (x1.s.2 + 1)) + 1)) + 1)) + 1)) + 1)) + 1)) 3) == 0) (laws_markAttrS (x1.s.1[x1.i]?.getD default).S.Attrs (IntKind.i64.wrap ((IntKind.i64.wrap ((IntKind.i64.wrap ((IntKind.i64.wrap ((IntKind.i64.wrap ((IntKind.i64.wrap ((IntKind.i64.wrap (x1.s.2 + 1)) + 1)) + 1)) + 1)) + 1)) + 1)) + 1))).2) (laws_markAttrS (x1.s.1[x1.i]?.getD default).S.Attrs (IntKind.i64.wrap ((IntKind.i64.wrap ((IntKind.i64.wrap ((IntKind.i64.wrap ((IntKind.i64.wrap ((IntKind.i64.wrap ((IntKind.i64.wrap (x1.s.2 + 1)) + 1)) + 1)) + 1)) + 1)) + 1)) + 1))).1 (IntKind.i64.wrap ((laws_markAttrS (x1.s.1[x1.i]?.getD default).S.Attrs (IntKind.i64.wrap ((IntKind.i64.wrap ((IntKind.i64.wrap ((IntKind.i64.wrap ((IntKind.i64.wrap ((IntKind.i64.wrap ((IntKind.i64.wrap (x1.s.2 + 1)) + 1)) + 1)) + 1)) + 1)) + 1)) + 1))).1 + 1)) (IntKind.i64.wrap ((IntKind.i64.wrap ((laws_markAttrS (x1.s.1[x1.i]?.getD default).S.Attrs (IntKind.i64.wrap ((IntKind.i64.wrap ((IntKind.i64.wrap ((IntKind.i64.wrap ((IntKind.i64.wrap ((IntKind.i64.wrap ((IntKind.i64.wrap (x1.s.2 + 1)) + 1)) + 1)) + 1)) + 1)) + 1)) + 1))).1 + 1)) + 1)) ((Int.tmod (IntKind.i64.wrap ((IntKind.i64.wrap ((IntKind.i64.wrap ((laws_markAttrS (x1.s.1[x1.i]?.getD default).S.Attrs (IntKind.i64.wrap ((IntKind.i64.wrap ((IntKind.i64.wrap ((IntKind.i64.wrap ((IntKind.i64.wrap ((IntKind.i64.wrap ((IntKind.i64.wrap (x1.s.2 + 1)) + 1)) + 1)) + 1)) + 1)) + 1)) + 1))).1 + 1)) + 1)) + 1)) 3) == 0) ((Int.tmod (IntKind.i64.wrap ((IntKind.i64.wrap ((IntKind.i64.wrap ((IntKind.i64.wrap ((laws_markAttrS (x1.s.1[x1.i]?.getD default).S.Attrs (IntKind.i64.wrap ((IntKind.i64.wrap ((IntKind.i64.wrap ((IntKind.i64.wrap ((IntKind.i64.wrap ((IntKind.i64.wrap ((IntKind.i64.wrap (x1.s.2 + 1)) + 1)) + 1)) + 1)) + 1)) + 1)) + 1))).1 + 1)) + 1)) + 1)) + 1)) 3) == 0) (IntKind.i64.wrap ((IntKind.i64.wrap ((IntKind.i64.wrap ((IntKind.i64.wrap ((IntKind.i64.wrap ((laws_markAttrS (x1.s.1[x1.i]?.getD default).S.Attrs (IntKind.i64.wrap ((IntKind.i64.wrap ((IntKind.i64.wrap ((IntKind.i64.wrap ((IntKind.i64.wrap ((IntKind.i64.wrap ((IntKind.i64.wrap (x1.s.2 + 1)) + 1)) + 1)) + 1)) + 1)) + 1)) + 1))).1 + 1)) + 1)) + 1)) + 1)) + 1)) (x1.s.1[x1.i]?.getD default).N (x1.s.1[x1.i]?.getD default).Forgot (x1.s.1[x1.i]?.getD default).Now (x1.s.1[x1.i]?.getD default).Inv (x1.s.1[x1.i]?.getD default).Lin (x1.s.1[x1.i]?.getD default).Res))) (by exact setMapS (by simp) (by first | rfl | (simp only [ha, Option.getD_some]; rfl) | (obtain ⟨_, rfl⟩ := List.getElem?_eq_some_iff.1 ha; rfl) | (simp only [Pol.cells_eq]; rfl) | (simp only [ha, Option.getD_some, Pol.cells_eq]; rfl))) ?_
    refine seqE ?_
    refine seqE ?_
    refine andE (by (first | omega | (simp (disch := omega) only [wrap_small, mid_eq, List.length_map]; omega) | (simp; done) | (simp; omega) | (simp at *; omega) | (simp at *; done) | (simp_all; done) | (simp_all; omega))) ?_
    refine rowsE (Y := List.map (Deed.cells true) (List.set x1.s.1 x1.i (Deed.mk x1.s.2 (IntKind.i64.wrap (x1.s.2 + 1)) (Span.mk (IntKind.i64.wrap ((IntKind.i64.wrap (x1.s.2 + 1)) + 1)) (IntKind.i64.wrap ((IntKind.i64.wrap ((IntKind.i64.wrap (x1.s.2 + 1)) + 1)) + 1)) (IntKind.i64.wrap ((IntKind.i64.wrap ((IntKind.i64.wrap ((IntKind.i64.wrap (x1.s.2 + 1)) + 1)) + 1)) + 1)) (IntKind.i64.wrap ((IntKind.i64.wrap ((IntKind.i64.wrap ((IntKind.i64.wrap ((IntKind.i64.wrap (x1.s.2 + 1)) + 1)) + 1)) + 1)) + 1)) ((Int.tmod (IntKind.i64.wrap ((IntKind.i64.wrap ((IntKind.i64.wrap ((IntKind.i64.wrap ((IntKind.i64.wrap ((IntKind.i64.wrap (x1.s.2 + 1)) + 1)) + 1)) + 1)) + 1)) + 1)) 3) == 0) (laws_markAttrS (x1.s.1[x1.i]?.getD default).S.Attrs (IntKind.i64.wrap ((IntKind.i64.wrap ((IntKind.i64.wrap ((IntKind.i64.wrap ((IntKind.i64.wrap ((IntKind.i64.wrap ((IntKind.i64.wrap (x1.s.2 + 1)) + 1)) + 1)) + 1)) + 1)) + 1)) + 1))).2) (laws_markAttrS (x1.s.1[x1.i]?.getD default).S.Attrs (IntKind.i64.wrap ((IntKind.i64.wrap ((IntKind.i64.wrap ((IntKind.i64.wrap ((IntKind.i64.wrap ((IntKind.i64.wrap ((IntKind.i64.wrap (x1.s.2 + 1)) + 1)) + 1)) + 1)) + 1)) + 1)) + 1))).1 (IntKind.i64.wrap ((laws_markAttrS (x1.s.1[x1.i]?.getD default).S.Attrs (IntKind.i64.wrap ((IntKind.i64.wrap ((IntKind.i64.wrap ((IntKind.i64.wrap ((IntKind.i64.wrap ((IntKind.i64.wrap ((IntKind.i64.wrap (x1.s.2 + 1)) + 1)) + 1)) + 1)) + 1)) + 1)) + 1))).1 + 1)) (IntKind.i64.wrap ((IntKind.i64.wrap ((laws_markAttrS (x1.s.1[x1.i]?.getD default).S.Attrs (IntKind.i64.wrap ((IntKind.i64.wrap ((IntKind.i64.wrap ((IntKind.i64.wrap ((IntKind.i64.wrap ((IntKind.i64.wrap ((IntKind.i64.wrap (x1.s.2 + 1)) + 1)) + 1)) + 1)) + 1)) + 1)) + 1))).1 + 1)) + 1)) ((Int.tmod (IntKind.i64.wrap ((IntKind.i64.wrap ((IntKind.i64.wrap ((laws_markAttrS (x1.s.1[x1.i]?.getD default).S.Attrs (IntKind.i64.wrap ((IntKind.i64.wrap ((IntKind.i64.wrap ((IntKind.i64.wrap ((IntKind.i64.wrap ((IntKind.i64.wrap ((IntKind.i64.wrap (x1.s.2 + 1)) + 1)) + 1)) + 1)) + 1)) + 1)) + 1))).1 + 1)) + 1)) + 1)) 3) == 0) ((Int.tmod (IntKind.i64.wrap ((IntKind.i64.wrap ((IntKind.i64.wrap ((IntKind.i64.wrap ((laws_markAttrS (x1.s.1[x1.i]?.getD default).S.Attrs (IntKind.i64.wrap ((IntKind.i64.wrap ((IntKind.i64.wrap ((IntKind.i64.wrap ((IntKind.i64.wrap ((IntKind.i64.wrap ((IntKind.i64.wrap (x1.s.2 + 1)) + 1)) + 1)) + 1)) + 1)) + 1)) + 1))).1 + 1)) + 1)) + 1)) + 1)) 3) == 0) (IntKind.i64.wrap ((IntKind.i64.wrap ((IntKind.i64.wrap ((IntKind.i64.wrap ((IntKind.i64.wrap ((laws_markAttrS (x1.s.1[x1.i]?.getD default).S.Attrs (IntKind.i64.wrap ((IntKind.i64.wrap ((IntKind.i64.wrap ((IntKind.i64.wrap ((IntKind.i64.wrap ((IntKind.i64.wrap ((IntKind.i64.wrap (x1.s.2 + 1)) + 1)) + 1)) + 1)) + 1)) + 1)) + 1))).1 + 1)) + 1)) + 1)) + 1)) + 1)) (IntKind.i64.wrap ((IntKind.i64.wrap ((IntKind.i64.wrap ((IntKind.i64.wrap ((IntKind.i64.wrap ((IntKind.i64.wrap ((laws_markAttrS (x1.s.1[x1.i]?.getD default).S.Attrs (IntKind.i64.wrap ((IntKind.i64.wrap ((IntKind.i64.wrap ((IntKind.i64.wrap ((IntKind.i64.wrap ((IntKind.i64.wrap ((IntKind.i64.wrap (x1.s.2 + 1)) + 1)) + 1)) + 1)) + 1)) + 1)) + 1))).1 + 1)) + 1)) + 1)) + 1)) + 1)) + 1)) (x1.s.1[x1.i]?.getD default).Forgot (x1.s.1[x1.i]?.getD default).Now (x1.s.1[x1.i]?.getD default).Inv (x1.s.1[x1.i]?.getD default).Lin (x1.s.1[x1.i]?.getD default).Res))) (by exact setMapS (by simp) (by first | rfl | (simp only [ha, Option.getD_some]; rfl) | (obtain ⟨_, rfl⟩ := List.getElem?_eq_some_iff.1 ha; rfl) | (simp only [Pol.cells_eq]; rfl) | (simp only [ha, Option.getD_some, Pol.cells_eq]; rfl))) ?_
    refine seqE ?_
    refine seqE ?_
    refine andE (by (first | omega | (simp (disch := omega) only [wrap_small, mid_eq, List.length_map]; omega) | (simp; done) | (simp; omega) | (simp at *; omega) | (simp at *; done) | (simp_all; done) | (simp_all; omega))) ?_
    refine rowsE (Y := List.map (Deed.cells true) (List.set x1.s.1 x1.i (Deed.mk x1.s.2 (IntKind.i64.wrap (x1.s.2 + 1)) (Span.mk (IntKind.i64.wrap ((IntKind.i64.wrap (x1.s.2 + 1)) + 1)) (IntKind.i64.wrap ((IntKind.i64.wrap ((IntKind.i64.wrap (x1.s.2 + 1)) + 1)) + 1)) (IntKind.i64.wrap ((IntKind.i64.wrap ((IntKind.i64.wrap ((IntKind.i64.wrap (x1.s.2 + 1)) + 1)) + 1)) + 1)) (IntKind.i64.wrap ((IntKind.i64.wrap ((IntKind.i64.wrap ((IntKind.i64.wrap ((IntKind.i64.wrap (x1.s.2 + 1)) + 1)) + 1)) + 1)) + 1)) ((Int.tmod (IntKind.i64.wrap ((IntKind.i64.wrap ((IntKind.i64.wrap ((IntKind.i64.wrap ((IntKind.i64.wrap ((IntKind.i64.wrap (x1.s.2 + 1)) + 1)) + 1)) + 1)) + 1)) + 1)) 3) == 0) (laws_markAttrS (x1.s.1[x1.i]?.getD default).S.Attrs (IntKind.i64.wrap ((IntKind.i64.wrap ((IntKind.i64.wrap ((IntKind.i64.wrap ((IntKind.i64.wrap ((IntKind.i64.wrap ((IntKind.i64.wrap (x1.s.2 + 1)) + 1)) + 1)) + 1)) + 1)) + 1)) + 1))).2) (laws_markAttrS (x1.s.1[x1.i]?.getD default).S.Attrs (IntKind.i64.wrap ((IntKind.i64.wrap ((IntKind.i64.wrap ((IntKind.i64.wrap ((IntKind.i64.wrap ((IntKind.i64.wrap ((IntKind.i64.wrap (x1.s.2 + 1)) + 1)) + 1)) + 1)) + 1)) + 1)) + 1))).1 (IntKind.i64.wrap ((laws_markAttrS (x1.s.1[x1.i]?.getD default).S.Attrs (IntKind.i64.wrap ((IntKind.i64.wrap ((IntKind.i64.wrap ((IntKind.i64.wrap ((IntKind.i64.wrap ((IntKind.i64.wrap ((IntKind.i64.wrap (x1.s.2 + 1)) + 1)) + 1)) + 1)) + 1)) + 1)) + 1))).1 + 1)) (IntKind.i64.wrap ((IntKind.i64.wrap ((laws_markAttrS (x1.s.1[x1.i]?.getD default).S.Attrs (IntKind.i64.wrap ((IntKind.i64.wrap ((IntKind.i64.wrap ((IntKind.i64.wrap ((IntKind.i64.wrap ((IntKind.i64.wrap ((IntKind.i64.wrap (x1.s.2 + 1)) + 1)) + 1)) + 1)) + 1)) + 1)) + 1))).1 + 1)) + 1)) ((Int.tmod (IntKind.i64.wrap ((IntKind.i64.wrap ((IntKind.i64.wrap ((laws_markAttrS (x1.s.1[x1.i]?.getD default).S.Attrs (IntKind.i64.wrap ((IntKind.i64.wrap ((IntKind.i64.wrap ((IntKind.i64.wrap ((IntKind.i64.wrap ((IntKind.i64.wrap ((IntKind.i64.wrap (x1.s.2 + 1)) + 1)) + 1)) + 1)) + 1)) + 1)) + 1))).1 + 1)) + 1)) + 1)) 3) == 0) ((Int.tmod (IntKind.i64.wrap ((IntKind.i64.wrap ((IntKind.i64.wrap ((IntKind.i64.wrap ((laws_markAttrS (x1.s.1[x1.i]?.getD default).S.Attrs (IntKind.i64.wrap ((IntKind.i64.wrap ((IntKind.i64.wrap ((IntKind.i64.wrap ((IntKind.i64.wrap ((IntKind.i64.wrap ((IntKind.i64.wrap (x1.s.2 + 1)) + 1)) + 1)) + 1)) + 1)) + 1)) + 1))).1 + 1)) + 1)) + 1)) + 1)) 3) == 0) (IntKind.i64.wrap ((IntKind.i64.wrap ((IntKind.i64.wrap ((IntKind.i64.wrap ((IntKind.i64.wrap ((laws_markAttrS (x1.s.1[x1.i]?.getD default).S.Attrs (IntKind.i64.wrap ((IntKind.i64.wrap ((IntKind.i64.wrap ((IntKind.i64.wrap ((IntKind.i64.wrap ((IntKind.i64.wrap ((IntKind.i64.wrap (x1.s.2 + 1)) + 1)) + 1)) + 1)) + 1)) + 1)) + 1))).1 + 1)) + 1)) + 1)) + 1)) + 1)) (IntKind.i64.wrap ((IntKind.i64.wrap ((IntKind.i64.wrap ((IntKind.i64.wrap ((IntKind.i64.wrap ((IntKind.i64.wrap ((laws_markAttrS (x1.s.1[x1.i]?.getD default).S.Attrs (IntKind.i64.wrap ((IntKind.i64.wrap ((IntKind.i64.wrap ((IntKind.i64.wrap ((IntKind.i64.wrap ((IntKind.i64.wrap ((IntKind.i64.wrap (x1.s.2 + 1)) + 1)) + 1)) + 1)) + 1)) + 1)) + 1))).1 + 1)) + 1)) + 1)) + 1)) + 1)) + 1)) (IntKind.i64.wrap ((IntKind.i64.wrap ((IntKind.i64.wrap ((IntKind.i64.wrap ((IntKind.i64.wrap ((IntKind.i64.wrap ((IntKind.i64.wrap ((laws_markAttrS (x1.s.1[x1.i]?.getD default).S.Attrs (IntKind.i64.wrap ((IntKind.i64.wrap ((IntKind.i64.wrap ((IntKind.i64.wrap ((IntKind.i64.wrap ((IntKind.i64.wrap ((IntKind.i64.wrap (x1.s.2 + 1)) + 1)) + 1)) + 1)) + 1)) + 1)) + 1))).1 + 1)) + 1)) + 1)) + 1)) + 1)) + 1)) + 1)) (x1.s.1[x1.i]?.getD default).Now (x1.s.1[x1.i]?.getD default).Inv (x1.s.1[x1.i]?.getD default).Lin (x1.s.1[x1.i]?.getD default).Res))) (by exact setMapS (by simp) (by first | rfl | (simp only [ha, Option.getD_some]; rfl) | (obtain ⟨_, rfl⟩ := List.getElem?_eq_some_iff.1 ha; rfl) | (simp only [Pol.cells_eq]; rfl) | (simp only [ha, Option.getD_some, Pol.cells_eq]; rfl))) ?_
    refine seqE ?_
    refine seqE ?_
    refine andE (by (first | omega | (simp (disch := omega) only [wrap_small, mid_eq, List.length_map]; omega) | (simp; done) | (simp; omega) | (simp at *; omega) | (simp at *; done) | (simp_all; done) | (simp_all; omega))) ?_
    refine rowsE (Y := List.map (Deed.cells true) (List.set x1.s.1 x1.i (Deed.mk x1.s.2 (IntKind.i64.wrap (x1.s.2 + 1)) (Span.mk (IntKind.i64.wrap ((IntKind.i64.wrap (x1.s.2 + 1)) + 1)) (IntKind.i64.wrap ((IntKind.i64.wrap ((IntKind.i64.wrap (x1.s.2 + 1)) + 1)) + 1)) (IntKind.i64.wrap ((IntKind.i64.wrap ((IntKind.i64.wrap ((IntKind.i64.wrap (x1.s.2 + 1)) + 1)) + 1)) + 1)) (IntKind.i64.wrap ((IntKind.i64.wrap ((IntKind.i64.wrap ((IntKind.i64.wrap ((IntKind.i64.wrap (x1.s.2 + 1)) + 1)) + 1)) + 1)) + 1)) ((Int.tmod (IntKind.i64.wrap ((IntKind.i64.wrap ((IntKind.i64.wrap ((IntKind.i64.wrap ((IntKind.i64.wrap ((IntKind.i64.wrap (x1.s.2 + 1)) + 1)) + 1)) + 1)) + 1)) + 1)) 3) == 0) (laws_markAttrS (x1.s.1[x1.i]?.getD default).S.Attrs (IntKind.i64.wrap ((IntKind.i64.wrap ((IntKind.i64.wrap ((IntKind.i64.wrap ((IntKind.i64.wrap ((IntKind.i64.wrap ((IntKind.i64.wrap (x1.s.2 + 1)) + 1)) + 1)) + 1)) + 1)) + 1)) + 1))).2) (laws_markAttrS (x1.s.1[x1.i]?.getD default).S.Attrs (IntKind.i64.wrap ((IntKind.i64.wrap ((IntKind.i64.wrap ((IntKind.i64.wrap ((IntKind.i64.wrap ((IntKind.i64.wrap ((IntKind.i64.wrap (x1.s.2 + 1)) + 1)) + 1)) + 1)) + 1)) + 1)) + 1))).1 (IntKind.i64.wrap ((laws_markAttrS (x1.s.1[x1.i]?.getD default).S.Attrs (IntKind.i64.wrap ((IntKind.i64.wrap ((IntKind.i64.wrap ((IntKind.i64.wrap ((IntKind.i64.wrap ((IntKind.i64.wrap ((IntKind.i64.wrap (x1.s.2 + 1)) + 1)) + 1)) + 1)) + 1)) + 1)) + 1))).1 + 1)) (IntKind.i64.wrap ((IntKind.i64.wrap ((laws_markAttrS (x1.s.1[x1.i]?.getD default).S.Attrs (IntKind.i64.wrap ((IntKind.i64.wrap ((IntKind.i64.wrap ((IntKind.i64.wrap ((IntKind.i64.wrap ((IntKind.i64.wrap ((IntKind.i64.wrap (x1.s.2 + 1)) + 1)) + 1)) + 1)) + 1)) + 1)) + 1))).1 + 1)) + 1)) ((Int.tmod (IntKind.i64.wrap ((IntKind.i64.wrap ((IntKind.i64.wrap ((laws_markAttrS (x1.s.1[x1.i]?.getD default).S.Attrs (IntKind.i64.wrap ((IntKind.i64.wrap ((IntKind.i64.wrap ((IntKind.i64.wrap ((IntKind.i64.wrap ((IntKind.i64.wrap ((IntKind.i64.wrap (x1.s.2 + 1)) + 1)) + 1)) + 1)) + 1)) + 1)) + 1))).1 + 1)) + 1)) + 1)) 3) == 0) ((Int.tmod (IntKind.i64.wrap ((IntKind.i64.wrap ((IntKind.i64.wrap ((IntKind.i64.wrap ((laws_markAttrS (x1.s.1[x1.i]?.getD default).S.Attrs (IntKind.i64.wrap ((IntKind.i64.wrap ((IntKind.i64.wrap ((IntKind.i64.wrap ((IntKind.i64.wrap ((IntKind.i64.wrap ((IntKind.i64.wrap (x1.s.2 + 1)) + 1)) + 1)) + 1)) + 1)) + 1)) + 1))).1 + 1)) + 1)) + 1)) + 1)) 3) == 0) (IntKind.i64.wrap ((IntKind.i64.wrap ((IntKind.i64.wrap ((IntKind.i64.wrap ((IntKind.i64.wrap ((laws_markAttrS (x1.s.1[x1.i]?.getD default).S.Attrs (IntKind.i64.wrap ((IntKind.i64.wrap ((IntKind.i64.wrap ((IntKind.i64.wrap ((IntKind.i64.wrap ((IntKind.i64.wrap ((IntKind.i64.wrap (x1.s.2 + 1)) + 1)) + 1)) + 1)) + 1)) + 1)) + 1))).1 + 1)) + 1)) + 1)) + 1)) + 1)) (IntKind.i64.wrap ((IntKind.i64.wrap ((IntKind.i64.wrap ((IntKind.i64.wrap ((IntKind.i64.wrap ((IntKind.i64.wrap ((laws_markAttrS (x1.s.1[x1.i]?.getD default).S.Attrs (IntKind.i64.wrap ((IntKind.i64.wrap ((IntKind.i64.wrap ((IntKind.i64.wrap ((IntKind.i64.wrap ((IntKind.i64.wrap ((IntKind.i64.wrap (x1.s.2 + 1)) + 1)) + 1)) + 1)) + 1)) + 1)) + 1))).1 + 1)) + 1)) + 1)) + 1)) + 1)) + 1)) (IntKind.i64.wrap ((IntKind.i64.wrap ((IntKind.i64.wrap ((IntKind.i64.wrap ((IntKind.i64.wrap ((IntKind.i64.wrap ((IntKind.i64.wrap ((laws_markAttrS (x1.s.1[x1.i]?.getD default).S.Attrs (IntKind.i64.wrap ((IntKind.i64.wrap ((IntKind.i64.wrap ((IntKind.i64.wrap ((IntKind.i64.wrap ((IntKind.i64.wrap ((IntKind.i64.wrap (x1.s.2 + 1)) + 1)) + 1)) + 1)) + 1)) + 1)) + 1))).1 + 1)) + 1)) + 1)) + 1)) + 1)) + 1)) + 1)) (IntKind.i64.wrap ((IntKind.i64.wrap ((IntKind.i64.wrap ((IntKind.i64.wrap ((IntKind.i64.wrap ((IntKind.i64.wrap ((IntKind.i64.wrap ((IntKind.i64.wrap ((laws_markAttrS (x1.s.1[x1.i]?.getD default).S.Attrs (IntKind.i64.wrap ((IntKind.i64.wrap ((IntKind.i64.wrap ((IntKind.i64.wrap ((IntKind.i64.wrap ((IntKind.i64.wrap ((IntKind.i64.wrap (x1.s.2 + 1)) + 1)) + 1)) + 1)) + 1)) + 1)) + 1))).1 + 1)) + 1)) + 1)) + 1)) + 1)) + 1)) + 1)) + 1)) (x1.s.1[x1.i]?.getD default).Inv (x1.s.1[x1.i]?.getD default).Lin (x1.s.1[x1.i]?.getD default).Res))) (by exact setMapS (by simp) (by first | rfl | (simp only [ha, Option.getD_some]; rfl) | (obtain ⟨_, rfl⟩ := List.getElem?_eq_some_iff.1 ha; rfl) | (simp only [Pol.cells_eq]; rfl) | (simp only [ha, Option.getD_some, Pol.cells_eq]; rfl))) ?_
    refine seqE ?_
    refine seqE ?_
    refine andE (by (first | omega | (simp (disch := omega) only [wrap_small, mid_eq, List.length_map]; omega) | (simp; done) | (simp; omega) | (simp at *; omega) | (simp at *; done) | (simp_all; done) | (simp_all; omega))) ?_
    refine rowsE (Y := List.map (Deed.cells true) (List.set x1.s.1 x1.i (Deed.mk x1.s.2 (IntKind.i64.wrap (x1.s.2 + 1)) (Span.mk (IntKind.i64.wrap ((IntKind.i64.wrap (x1.s.2 + 1)) + 1)) (IntKind.i64.wrap ((IntKind.i64.wrap ((IntKind.i64.wrap (x1.s.2 + 1)) + 1)) + 1)) (IntKind.i64.wrap ((IntKind.i64.wrap ((IntKind.i64.wrap ((IntKind.i64.wrap (x1.s.2 + 1)) + 1)) + 1)) + 1)) (IntKind.i64.wrap ((IntKind.i64.wrap ((IntKind.i64.wrap ((IntKind.i64.wrap ((IntKind.i64.wrap (x1.s.2 + 1)) + 1)) + 1)) + 1)) + 1)) ((Int.tmod (IntKind.i64.wrap ((IntKind.i64.wrap ((IntKind.i64.wrap ((IntKind.i64.wrap ((IntKind.i64.wrap ((IntKind.i64.wrap (x1.s.2 + 1)) + 1)) + 1)) + 1)) + 1)) + 1)) 3) == 0) (laws_markAttrS (x1.s.1[x1.i]?.getD default).S.Attrs (IntKind.i64.wrap ((IntKind.i64.wrap ((IntKind.i64.wrap ((IntKind.i64.wrap ((IntKind.i64.wrap ((IntKind.i64.wrap ((IntKind.i64.wrap (x1.s.2 + 1)) + 1)) + 1)) + 1)) + 1)) + 1)) + 1))).2) (laws_markAttrS (x1.s.1[x1.i]?.getD default).S.Attrs (IntKind.i64.wrap ((IntKind.i64.wrap ((IntKind.i64.wrap ((IntKind.i64.wrap ((IntKind.i64.wrap ((IntKind.i64.wrap ((IntKind.i64.wrap (x1.s.2 + 1)) + 1)) + 1)) + 1)) + 1)) + 1)) + 1))).1 (IntKind.i64.wrap ((laws_markAttrS (x1.s.1[x1.i]?.getD default).S.Attrs (IntKind.i64.wrap ((IntKind.i64.wrap ((IntKind.i64.wrap ((IntKind.i64.wrap ((IntKind.i64.wrap ((IntKind.i64.wrap ((IntKind.i64.wrap (x1.s.2 + 1)) + 1)) + 1)) + 1)) + 1)) + 1)) + 1))).1 + 1)) (IntKind.i64.wrap ((IntKind.i64.wrap ((laws_markAttrS (x1.s.1[x1.i]?.getD default).S.Attrs (IntKind.i64.wrap ((IntKind.i64.wrap ((IntKind.i64.wrap ((IntKind.i64.wrap ((IntKind.i64.wrap ((IntKind.i64.wrap ((IntKind.i64.wrap (x1.s.2 + 1)) + 1)) + 1)) + 1)) + 1)) + 1)) + 1))).1 + 1)) + 1)) ((Int.tmod (IntKind.i64.wrap ((IntKind.i64.wrap ((IntKind.i64.wrap ((laws_markAttrS (x1.s.1[x1.i]?.getD default).S.Attrs (IntKind.i64.wrap ((IntKind.i64.wrap ((IntKind.i64.wrap ((IntKind.i64.wrap ((IntKind.i64.wrap ((IntKind.i64.wrap ((IntKind.i64.wrap (x1.s.2 + 1)) + 1)) + 1)) + 1)) + 1)) + 1)) + 1))).1 + 1)) + 1)) + 1)) 3) == 0) ((Int.tmod (IntKind.i64.wrap ((IntKind.i64.wrap ((IntKind.i64.wrap ((IntKind.i64.wrap ((laws_markAttrS (x1.s.1[x1.i]?.getD default).S.Attrs (IntKind.i64.wrap ((IntKind.i64.wrap ((IntKind.i64.wrap ((IntKind.i64.wrap ((IntKind.i64.wrap ((IntKind.i64.wrap ((IntKind.i64.wrap (x1.s.2 + 1)) + 1)) + 1)) + 1)) + 1)) + 1)) + 1))).1 + 1)) + 1)) + 1)) + 1)) 3) == 0) (IntKind.i64.wrap ((IntKind.i64.wrap ((IntKind.i64.wrap ((IntKind.i64.wrap ((IntKind.i64.wrap ((laws_markAttrS (x1.s.1[x1.i]?.getD default).S.Attrs (IntKind.i64.wrap ((IntKind.i64.wrap ((IntKind.i64.wrap ((IntKind.i64.wrap ((IntKind.i64.wrap ((IntKind.i64.wrap ((IntKind.i64.wrap (x1.s.2 + 1)) + 1)) + 1)) + 1)) + 1)) + 1)) + 1))).1 + 1)) + 1)) + 1)) + 1)) + 1)) (IntKind.i64.wrap ((IntKind.i64.wrap ((IntKind.i64.wrap ((IntKind.i64.wrap ((IntKind.i64.wrap ((IntKind.i64.wrap ((laws_markAttrS (x1.s.1[x1.i]?.getD default).S.Attrs (IntKind.i64.wrap ((IntKind.i64.wrap ((IntKind.i64.wrap ((IntKind.i64.wrap ((IntKind.i64.wrap ((IntKind.i64.wrap ((IntKind.i64.wrap (x1.s.2 + 1)) + 1)) + 1)) + 1)) + 1)) + 1)) + 1))).1 + 1)) + 1)) + 1)) + 1)) + 1)) + 1)) (IntKind.i64.wrap ((IntKind.i64.wrap ((IntKind.i64.wrap ((IntKind.i64.wrap ((IntKind.i64.wrap ((IntKind.i64.wrap ((IntKind.i64.wrap ((laws_markAttrS (x1.s.1[x1.i]?.getD default).S.Attrs (IntKind.i64.wrap ((IntKind.i64.wrap ((IntKind.i64.wrap ((IntKind.i64.wrap ((IntKind.i64.wrap ((IntKind.i64.wrap ((IntKind.i64.wrap (x1.s.2 + 1)) + 1)) + 1)) + 1)) + 1)) + 1)) + 1))).1 + 1)) + 1)) + 1)) + 1)) + 1)) + 1)) + 1)) (IntKind.i64.wrap ((IntKind.i64.wrap ((IntKind.i64.wrap ((IntKind.i64.wrap ((IntKind.i64.wrap ((IntKind.i64.wrap ((IntKind.i64.wrap ((IntKind.i64.wrap ((laws_markAttrS (x1.s.1[x1.i]?.getD default).S.Attrs (IntKind.i64.wrap ((IntKind.i64.wrap ((IntKind.i64.wrap ((IntKind.i64.wrap ((IntKind.i64.wrap ((IntKind.i64.wrap ((IntKind.i64.wrap (x1.s.2 + 1)) + 1)) + 1)) + 1)) + 1)) + 1)) + 1))).1 + 1)) + 1)) + 1)) + 1)) + 1)) + 1)) + 1)) + 1)) (IntKind.i64.wrap ((IntKind.i64.wrap ((IntKind.i64.wrap ((IntKind.i64.wrap ((IntKind.i64.wrap ((IntKind.i64.wrap ((IntKind.i64.wrap ((IntKind.i64.wrap ((IntKind.i64.wrap ((laws_markAttrS (x1.s.1[x1.i]?.getD default).S.Attrs (IntKind.i64.wrap ((IntKind.i64.wrap ((IntKind.i64.wrap ((IntKind.i64.wrap ((IntKind.i64.wrap ((IntKind.i64.wrap ((IntKind.i64.wrap (x1.s.2 + 1)) + 1)) + 1)) + 1)) + 1)) + 1)) + 1))).1 + 1)) + 1)) + 1)) + 1)) + 1)) + 1)) + 1)) + 1)) + 1)) (x1.s.1[x1.i]?.getD default).Lin (x1.s.1[x1.i]?.getD default).Res))) (by exact setMapS (by simp) (by first | rfl | (simp only [ha, Option.getD_some]; rfl) | (obtain ⟨_, rfl⟩ := List.getElem?_eq_some_iff.1 ha; rfl) | (simp only [Pol.cells_eq]; rfl) | (simp only [ha, Option.getD_some, Pol.cells_eq]; rfl))) ?_
    refine seqE ?_
    refine seqE ?_
    refine andE (by (first | omega | (simp (disch := omega) only [wrap_small, mid_eq, List.length_map]; omega) | (simp; done) | (simp; omega) | (simp at *; omega) | (simp at *; done) | (simp_all; done) | (simp_all; omega))) ?_
    refine rowsE (Y := List.map (Deed.cells true) (List.set x1.s.1 x1.i (Deed.mk x1.s.2 (IntKind.i64.wrap (x1.s.2 + 1)) (Span.mk (IntKind.i64.wrap ((IntKind.i64.wrap (x1.s.2 + 1)) + 1)) (IntKind.i64.wrap ((IntKind.i64.wrap ((IntKind.i64.wrap (x1.s.2 + 1)) + 1)) + 1)) (IntKind.i64.wrap ((IntKind.i64.wrap ((IntKind.i64.wrap ((IntKind.i64.wrap (x1.s.2 + 1)) + 1)) + 1)) + 1)) (IntKind.i64.wrap ((IntKind.i64.wrap ((IntKind.i64.wrap ((IntKind.i64.wrap ((IntKind.i64.wrap (x1.s.2 + 1)) + 1)) + 1)) + 1)) + 1)) ((Int.tmod (IntKind.i64.wrap ((IntKind.i64.wrap ((IntKind.i64.wrap ((IntKind.i64.wrap ((IntKind.i64.wrap ((IntKind.i64.wrap (x1.s.2 + 1)) + 1)) + 1)) + 1)) + 1)) + 1)) 3) == 0) (laws_markAttrS (x1.s.1[x1.i]?.getD default).S.Attrs (IntKind.i64.wrap ((IntKind.i64.wrap ((IntKind.i64.wrap ((IntKind.i64.wrap ((IntKind.i64.wrap ((IntKind.i64.wrap ((IntKind.i64.wrap (x1.s.2 + 1)) + 1)) + 1)) + 1)) + 1)) + 1)) + 1))).2) (laws_markAttrS (x1.s.1[x1.i]?.getD default).S.Attrs (IntKind.i64.wrap ((IntKind.i64.wrap ((IntKind.i64.wrap ((IntKind.i64.wrap ((IntKind.i64.wrap ((IntKind.i64.wrap ((IntKind.i64.wrap (x1.s.2 + 1)) + 1)) + 1)) + 1)) + 1)) + 1)) + 1))).1 (IntKind.i64.wrap ((laws_markAttrS (x1.s.1[x1.i]?.getD default).S.Attrs (IntKind.i64.wrap ((IntKind.i64.wrap ((IntKind.i64.wrap ((IntKind.i64.wrap ((IntKind.i64.wrap ((IntKind.i64.wrap ((IntKind.i64.wrap (x1.s.2 + 1)) + 1)) + 1)) + 1)) + 1)) + 1)) + 1))).1 + 1)) (IntKind.i64.wrap ((IntKind.i64.wrap ((laws_markAttrS (x1.s.1[x1.i]?.getD default).S.Attrs (IntKind.i64.wrap ((IntKind.i64.wrap ((IntKind.i64.wrap ((IntKind.i64.wrap ((IntKind.i64.wrap ((IntKind.i64.wrap ((IntKind.i64.wrap (x1.s.2 + 1)) + 1)) + 1)) + 1)) + 1)) + 1)) + 1))).1 + 1)) + 1)) ((Int.tmod (IntKind.i64.wrap ((IntKind.i64.wrap ((IntKind.i64.wrap ((laws_markAttrS (x1.s.1[x1.i]?.getD default).S.Attrs (IntKind.i64.wrap ((IntKind.i64.wrap ((IntKind.i64.wrap ((IntKind.i64.wrap ((IntKind.i64.wrap ((IntKind.i64.wrap ((IntKind.i64.wrap (x1.s.2 + 1)) + 1)) + 1)) + 1)) + 1)) + 1)) + 1))).1 + 1)) + 1)) + 1)) 3) == 0) ((Int.tmod (IntKind.i64.wrap ((IntKind.i64.wrap ((IntKind.i64.wrap ((IntKind.i64.wrap ((laws_markAttrS (x1.s.1[x1.i]?.getD default).S.Attrs (IntKind.i64.wrap ((IntKind.i64.wrap ((IntKind.i64.wrap ((IntKind.i64.wrap ((IntKind.i64.wrap ((IntKind.i64.wrap ((IntKind.i64.wrap (x1.s.2 + 1)) + 1)) + 1)) + 1)) + 1)) + 1)) + 1))).1 + 1)) + 1)) + 1)) + 1)) 3) == 0) (IntKind.i64.wrap ((IntKind.i64.wrap ((IntKind.i64.wrap ((IntKind.i64.wrap ((IntKind.i64.wrap ((laws_markAttrS (x1.s.1[x1.i]?.getD default).S.Attrs (IntKind.i64.wrap ((IntKind.i64.wrap ((IntKind.i64.wrap ((IntKind.i64.wrap ((IntKind.i64.wrap ((IntKind.i64.wrap ((IntKind.i64.wrap (x1.s.2 + 1)) + 1)) + 1)) + 1)) + 1)) + 1)) + 1))).1 + 1)) + 1)) + 1)) + 1)) + 1)) (IntKind.i64.wrap ((IntKind.i64.wrap ((IntKind.i64.wrap ((IntKind.i64.wrap ((IntKind.i64.wrap ((IntKind.i64.wrap ((laws_markAttrS (x1.s.1[x1.i]?.getD default).S.Attrs (IntKind.i64.wrap ((IntKind.i64.wrap ((IntKind.i64.wrap ((IntKind.i64.wrap ((IntKind.i64.wrap ((IntKind.i64.wrap ((IntKind.i64.wrap (x1.s.2 + 1)) + 1)) + 1)) + 1)) + 1)) + 1)) + 1))).1 + 1)) + 1)) + 1)) + 1)) + 1)) + 1)) (IntKind.i64.wrap ((IntKind.i64.wrap ((IntKind.i64.wrap ((IntKind.i64.wrap ((IntKind.i64.wrap ((IntKind.i64.wrap ((IntKind.i64.wrap ((laws_markAttrS (x1.s.1[x1.i]?.getD default).S.Attrs (IntKind.i64.wrap ((IntKind.i64.wrap ((IntKind.i64.wrap ((IntKind.i64.wrap ((IntKind.i64.wrap ((IntKind.i64.wrap ((IntKind.i64.wrap (x1.s.2 + 1)) + 1)) + 1)) + 1)) + 1)) + 1)) + 1))).1 + 1)) + 1)) + 1)) + 1)) + 1)) + 1)) + 1)) (IntKind.i64.wrap ((IntKind.i64.wrap ((IntKind.i64.wrap ((IntKind.i64.wrap ((IntKind.i64.wrap ((IntKind.i64.wrap ((IntKind.i64.wrap ((IntKind.i64.wrap ((laws_markAttrS (x1.s.1[x1.i]?.getD default).S.Attrs (IntKind.i64.wrap ((IntKind.i64.wrap ((IntKind.i64.wrap ((IntKind.i64.wrap ((IntKind.i64.wrap ((IntKind.i64.wrap ((IntKind.i64.wrap (x1.s.2 + 1)) + 1)) + 1)) + 1)) + 1)) + 1)) + 1))).1 + 1)) + 1)) + 1)) + 1)) + 1)) + 1)) + 1)) + 1)) (IntKind.i64.wrap ((IntKind.i64.wrap ((IntKind.i64.wrap ((IntKind.i64.wrap ((IntKind.i64.wrap ((IntKind.i64.wrap ((IntKind.i64.wrap ((IntKind.i64.wrap ((IntKind.i64.wrap ((laws_markAttrS (x1.s.1[x1.i]?.getD default).S.Attrs (IntKind.i64.wrap ((IntKind.i64.wrap ((IntKind.i64.wrap ((IntKind.i64.wrap ((IntKind.i64.wrap ((IntKind.i64.wrap ((IntKind.i64.wrap (x1.s.2 + 1)) + 1)) + 1)) + 1)) + 1)) + 1)) + 1))).1 + 1)) + 1)) + 1)) + 1)) + 1)) + 1)) + 1)) + 1)) + 1)) (IntKind.i64.wrap ((IntKind.i64.wrap ((IntKind.i64.wrap ((IntKind.i64.wrap ((IntKind.i64.wrap ((IntKind.i64.wrap ((IntKind.i64.wrap ((IntKind.i64.wrap ((IntKind.i64.wrap ((IntKind.i64.wrap ((laws_markAttrS (x1.s.1[x1.i]?.getD default).S.Attrs (IntKind.i64.wrap ((IntKind.i64.wrap ((IntKind.i64.wrap ((IntKind.i64.wrap ((IntKind.i64.wrap ((IntKind.i64.wrap ((IntKind.i64.wrap (x1.s.2 + 1)) + 1)) + 1)) + 1)) + 1)) + 1)) + 1))).1 + 1)) + 1)) + 1)) + 1)) + 1)) + 1)) + 1)) + 1)) + 1)) + 1)) (x1.s.1[x1.i]?.getD default).Res))) (by exact setMapS (by simp) (by first | rfl | (simp only [ha, Option.getD_some]; rfl) | (obtain ⟨_, rfl⟩ := List.getElem?_eq_some_iff.1 ha; rfl) | (simp only [Pol.cells_eq]; rfl) | (simp only [ha, Option.getD_some, Pol.cells_eq]; rfl))) ?_
    refine seqE ?_
    refine seqE ?_
    refine andE (by (first | omega | (simp (disch := omega) only [wrap_small, mid_eq, List.length_map]; omega) | (simp; done) | (simp; omega) | (simp at *; omega) | (simp at *; done) | (simp_all; done) | (simp_all; omega))) ?_
    refine rowsE (Y := List.map (Deed.cells true) (List.set x1.s.1 x1.i (Deed.mk x1.s.2 (IntKind.i64.wrap (x1.s.2 + 1)) (Span.mk (IntKind.i64.wrap ((IntKind.i64.wrap (x1.s.2 + 1)) + 1)) (IntKind.i64.wrap ((IntKind.i64.wrap ((IntKind.i64.wrap (x1.s.2 + 1)) + 1)) + 1)) (IntKind.i64.wrap ((IntKind.i64.wrap ((IntKind.i64.wrap ((IntKind.i64.wrap (x1.s.2 + 1)) + 1)) + 1)) + 1)) (IntKind.i64.wrap ((IntKind.i64.wrap ((IntKind.i64.wrap ((IntKind.i64.wrap ((IntKind.i64.wrap (x1.s.2 + 1)) + 1)) + 1)) + 1)) + 1)) ((Int.tmod (IntKind.i64.wrap ((IntKind.i64.wrap ((IntKind.i64.wrap ((IntKind.i64.wrap ((IntKind.i64.wrap ((IntKind.i64.wrap (x1.s.2 + 1)) + 1)) + 1)) + 1)) + 1)) + 1)) 3) == 0) (laws_markAttrS (x1.s.1[x1.i]?.getD default).S.Attrs (IntKind.i64.wrap ((IntKind.i64.wrap ((IntKind.i64.wrap ((IntKind.i64.wrap ((IntKind.i64.wrap ((IntKind.i64.wrap ((IntKind.i64.wrap (x1.s.2 + 1)) + 1)) + 1)) + 1)) + 1)) + 1)) + 1))).2) (laws_markAttrS (x1.s.1[x1.i]?.getD default).S.Attrs (IntKind.i64.wrap ((IntKind.i64.wrap ((IntKind.i64.wrap ((IntKind.i64.wrap ((IntKind.i64.wrap ((IntKind.i64.wrap ((IntKind.i64.wrap (x1.s.2 + 1)) + 1)) + 1)) + 1)) + 1)) + 1)) + 1))).1 (IntKind.i64.wrap ((laws_markAttrS (x1.s.1[x1.i]?.getD default).S.Attrs (IntKind.i64.wrap ((IntKind.i64.wrap ((IntKind.i64.wrap ((IntKind.i64.wrap ((IntKind.i64.wrap ((IntKind.i64.wrap ((IntKind.i64.wrap (x1.s.2 + 1)) + 1)) + 1)) + 1)) + 1)) + 1)) + 1))).1 + 1)) (IntKind.i64.wrap ((IntKind.i64.wrap ((laws_markAttrS (x1.s.1[x1.i]?.getD default).S.Attrs (IntKind.i64.wrap ((IntKind.i64.wrap ((IntKind.i64.wrap ((IntKind.i64.wrap ((IntKind.i64.wrap ((IntKind.i64.wrap ((IntKind.i64.wrap (x1.s.2 + 1)) + 1)) + 1)) + 1)) + 1)) + 1)) + 1))).1 + 1)) + 1)) ((Int.tmod (IntKind.i64.wrap ((IntKind.i64.wrap ((IntKind.i64.wrap ((laws_markAttrS (x1.s.1[x1.i]?.getD default).S.Attrs (IntKind.i64.wrap ((IntKind.i64.wrap ((IntKind.i64.wrap ((IntKind.i64.wrap ((IntKind.i64.wrap ((IntKind.i64.wrap ((IntKind.i64.wrap (x1.s.2 + 1)) + 1)) + 1)) + 1)) + 1)) + 1)) + 1))).1 + 1)) + 1)) + 1)) 3) == 0) ((Int.tmod (IntKind.i64.wrap ((IntKind.i64.wrap ((IntKind.i64.wrap ((IntKind.i64.wrap ((laws_markAttrS (x1.s.1[x1.i]?.getD default).S.Attrs (IntKind.i64.wrap ((IntKind.i64.wrap ((IntKind.i64.wrap ((IntKind.i64.wrap ((IntKind.i64.wrap ((IntKind.i64.wrap ((IntKind.i64.wrap (x1.s.2 + 1)) + 1)) + 1)) + 1)) + 1)) + 1)) + 1))).1 + 1)) + 1)) + 1)) + 1)) 3) == 0) (IntKind.i64.wrap ((IntKind.i64.wrap ((IntKind.i64.wrap ((IntKind.i64.wrap ((IntKind.i64.wrap ((laws_markAttrS (x1.s.1[x1.i]?.getD default).S.Attrs (IntKind.i64.wrap ((IntKind.i64.wrap ((IntKind.i64.wrap ((IntKind.i64.wrap ((IntKind.i64.wrap ((IntKind.i64.wrap ((IntKind.i64.wrap (x1.s.2 + 1)) + 1)) + 1)) + 1)) + 1)) + 1)) + 1))).1 + 1)) + 1)) + 1)) + 1)) + 1)) (IntKind.i64.wrap ((IntKind.i64.wrap ((IntKind.i64.wrap ((IntKind.i64.wrap ((IntKind.i64.wrap ((IntKind.i64.wrap ((laws_markAttrS (x1.s.1[x1.i]?.getD default).S.Attrs (IntKind.i64.wrap ((IntKind.i64.wrap ((IntKind.i64.wrap ((IntKind.i64.wrap ((IntKind.i64.wrap ((IntKind.i64.wrap ((IntKind.i64.wrap (x1.s.2 + 1)) + 1)) + 1)) + 1)) + 1)) + 1)) + 1))).1 + 1)) + 1)) + 1)) + 1)) + 1)) + 1)) (IntKind.i64.wrap ((IntKind.i64.wrap ((IntKind.i64.wrap ((IntKind.i64.wrap ((IntKind.i64.wrap ((IntKind.i64.wrap ((IntKind.i64.wrap ((laws_markAttrS (x1.s.1[x1.i]?.getD default).S.Attrs (IntKind.i64.wrap ((IntKind.i64.wrap ((IntKind.i64.wrap ((IntKind.i64.wrap ((IntKind.i64.wrap ((IntKind.i64.wrap ((IntKind.i64.wrap (x1.s.2 + 1)) + 1)) + 1)) + 1)) + 1)) + 1)) + 1))).1 + 1)) + 1)) + 1)) + 1)) + 1)) + 1)) + 1)) (IntKind.i64.wrap ((IntKind.i64.wrap ((IntKind.i64.wrap ((IntKind.i64.wrap ((IntKind.i64.wrap ((IntKind.i64.wrap ((IntKind.i64.wrap ((IntKind.i64.wrap ((laws_markAttrS (x1.s.1[x1.i]?.getD default).S.Attrs (IntKind.i64.wrap ((IntKind.i64.wrap ((IntKind.i64.wrap ((IntKind.i64.wrap ((IntKind.i64.wrap ((IntKind.i64.wrap ((IntKind.i64.wrap (x1.s.2 + 1)) + 1)) + 1)) + 1)) + 1)) + 1)) + 1))).1 + 1)) + 1)) + 1)) + 1)) + 1)) + 1)) + 1)) + 1)) (IntKind.i64.wrap ((IntKind.i64.wrap ((IntKind.i64.wrap ((IntKind.i64.wrap ((IntKind.i64.wrap ((IntKind.i64.wrap ((IntKind.i64.wrap ((IntKind.i64.wrap ((IntKind.i64.wrap ((laws_markAttrS (x1.s.1[x1.i]?.getD default).S.Attrs (IntKind.i64.wrap ((IntKind.i64.wrap ((IntKind.i64.wrap ((IntKind.i64.wrap ((IntKind.i64.wrap ((IntKind.i64.wrap ((IntKind.i64.wrap (x1.s.2 + 1)) + 1)) + 1)) + 1)) + 1)) + 1)) + 1))).1 + 1)) + 1)) + 1)) + 1)) + 1)) + 1)) + 1)) + 1)) + 1)) (IntKind.i64.wrap ((IntKind.i64.wrap ((IntKind.i64.wrap ((IntKind.i64.wrap ((IntKind.i64.wrap ((IntKind.i64.wrap ((IntKind.i64.wrap ((IntKind.i64.wrap ((IntKind.i64.wrap ((IntKind.i64.wrap ((laws_markAttrS (x1.s.1[x1.i]?.getD default).S.Attrs (IntKind.i64.wrap ((IntKind.i64.wrap ((IntKind.i64.wrap ((IntKind.i64.wrap ((IntKind.i64.wrap ((IntKind.i64.wrap ((IntKind.i64.wrap (x1.s.2 + 1)) + 1)) + 1)) + 1)) + 1)) + 1)) + 1))).1 + 1)) + 1)) + 1)) + 1)) + 1)) + 1)) + 1)) + 1)) + 1)) + 1)) (IntKind.i64.wrap ((IntKind.i64.wrap ((IntKind.i64.wrap ((IntKind.i64.wrap ((IntKind.i64.wrap ((IntKind.i64.wrap ((IntKind.i64.wrap ((IntKind.i64.wrap ((IntKind.i64.wrap ((IntKind.i64.wrap ((IntKind.i64.wrap ((laws_markAttrS (x1.s.1[x1.i]?.getD default).S.Attrs (IntKind.i64.wrap ((IntKind.i64.wrap ((IntKind.i64.wrap ((IntKind.i64.wrap ((IntKind.i64.wrap ((IntKind.i64.wrap ((IntKind.i64.wrap (x1.s.2 + 1)) + 1)) + 1)) + 1)) + 1)) + 1)) + 1))).1 + 1)) + 1)) + 1)) + 1)) + 1)) + 1)) + 1)) + 1)) + 1)) + 1)) + 1))))) (by exact setMapS (by simp) (by first | rfl | (simp only [ha, Option.getD_some]; rfl) | (obtain ⟨_, rfl⟩ := List.getElem?_eq_some_iff.1 ha; rfl) | (simp only [Pol.cells_eq]; rfl) | (simp only [ha, Option.getD_some, Pol.cells_eq]; rfl))) ?_
    exact x1.goE hi1 hb1 (by simpa using x1.hI) [none, some 1] ⟨rfl, ⟨rfl, (eqInt hw1), ⟨rfl, rfl, rfl, rfl, by (first | rfl | omega | (dsimp only; omega) | (simp; done) | (simp; omega) | (simp [LstSt.init, LstSt.step, LstInv.init, CntSt.init, CntSt.step, CntInv.init, WhlSt.init, WhlSt.step]; done) | (simp [LstSt.init, LstSt.step, LstInv.init, CntSt.init, CntSt.step, CntInv.init, WhlSt.init, WhlSt.step]; omega))⟩, trivial⟩, ⟨⟨rfl, rfl, rfl⟩, trivial⟩, ⟨⟨rfl, rfl, rfl, rfl, by (first | rfl | omega | (dsimp only; omega) | (simp; done) | (simp; omega) | (simp [LstSt.init, LstSt.step, LstInv.init, CntSt.init, CntSt.step, CntInv.init, WhlSt.init, WhlSt.step]; done) | (simp [LstSt.init, LstSt.step, LstInv.init, CntSt.init, CntSt.step, CntInv.init, WhlSt.init, WhlSt.step]; omega))⟩, trivial⟩⟩
  have hg := finE hg (x1.fin hi1)
  refine seqE ?_
  exact leafM hown hg
def laws_markVerdictS_b1 (i1 : Nat) (s1 : (List Verdict) × Int) (a1 : Verdict) : Step ((List Verdict) × Int) (Int × (List Verdict)) :=
  (.next ((List.set s1.1 i1 (Verdict.mk s1.2 (IntKind.i64.wrap (s1.2 + 1)) ((Int.tmod (IntKind.i64.wrap ((IntKind.i64.wrap (s1.2 + 1)) + 1)) 3) == 0))), (IntKind.i64.wrap ((IntKind.i64.wrap ((IntKind.i64.wrap (s1.2 + 1)) + 1)) + 1))))
def laws_markVerdictS (p0 : (List Verdict)) (p1 : Int) : (Int × (List Verdict)) :=
  (Fin.get (fun s1 => (s1.2, s1.1)) (loopL laws_markVerdictS_b1 0 (p0, p1) p0))
theorem c_laws_markVerdictS (p0 : (List Verdict)) (p1 : Int) : FnOk prog 40 [.tup [.one (.s true 3 (List.map Verdict.cells p0))], .one (.v (.int .i64 p1))] ⟨.one (.v (.int .i64 (laws_markVerdictS p0 p1).1)), [.one (.s true 3 (List.map Verdict.cells ((laws_markVerdictS p0 p1).2)))], [], false⟩ := by
  refine FnOk.introM (E := env) envOk wide func40 rfl (by kernel_rfl) rfl ?_
  have hg := laws_markVerdictS.eq_1 p0 p1
  have hown : (∀ g : (Int × (List Verdict)), AV.Own (AV.one (.v (.int .i64 g.1)))) ∧ (fun g : (Int × (List Verdict)) => T.s true 3 (List.map Verdict.cells (g.2))) = _ := ⟨fun g => .v _, rfl⟩
  refine seqE ?_
  refine seqE ?_
  refine seqE ?_
  refine loopLI (fun _ s => (s.1).length = (p0).length) hg (by simp) [0] (fun x1 => [(1, .one (.v (.int .i64 x1.s.2))), (5, .one (.v (.int .i64 ((x1.i : Nat) : Int))))]) (fun x1 => [.dead, .new ⟨3, false, List.map Verdict.cells x1.s.1, 0⟩]) [none, some 1] ?_ (fun x1 => ?_)
  · exact ⟨rfl, ⟨rfl, rfl, ⟨rfl, rfl, rfl, rfl, by (first | rfl | omega | (dsimp only; omega) | (simp; done) | (simp; omega) | (simp [LstSt.init, LstSt.step, LstInv.init, CntSt.init, CntSt.step, CntInv.init, WhlSt.init, WhlSt.step]; done) | (simp [LstSt.init, LstSt.step, LstInv.init, CntSt.init, CntSt.step, CntInv.init, WhlSt.init, WhlSt.step]; omega))⟩, trivial⟩, ⟨⟨rfl, rfl, rfl⟩, trivial⟩, ⟨⟨rfl, rfl, rfl, rfl, by (first | rfl | omega | (dsimp only; omega) | (simp; done) | (simp; omega) | (simp [LstSt.init, LstSt.step, LstInv.init, CntSt.init, CntSt.step, CntInv.init, WhlSt.init, WhlSt.step]; done) | (simp [LstSt.init, LstSt.step, LstInv.init, CntSt.init, CntSt.step, CntInv.init, WhlSt.init, WhlSt.step]; omega))⟩, trivial⟩⟩
  have hI1 : (x1.s.1).length = (p0).length := by simpa using x1.hI
  refine seqE ?_
  refine seqE ?_
  refine lenE (k := (p0).length) (by simp) (fun hN1 => ?_)
  refine tstL (fun hi1 => ?_) (fun hi1 => ?_)
  · have hb1 := (x1.bdy hi1).trans (laws_markVerdictS_b1.eq_1 ..)
    have hw1 := wrap_succ hi1 (by first | assumption | omega)
    refine seqE ?_
    refine seqE ?_
    refine andE (by (first | omega | (simp (disch := omega) only [wrap_small, mid_eq, List.length_map]; omega) | (simp; done) | (simp; omega) | (simp at *; omega) | (simp at *; done) | (simp_all; done) | (simp_all; omega))) ?_
    refine rowsE (Y := List.map Verdict.cells (List.set x1.s.1 x1.i (Verdict.mk x1.s.2 (x1.s.1[x1.i]?.getD default).Stamp (x1.s.1[x1.i]?.getD default).Keep))) (by exact setMapE (by simp) (fun a ha => by first | rfl | (simp only [ha, Option.getD_some]; rfl) | (obtain ⟨_, rfl⟩ := List.getElem?_eq_some_iff.1 ha; rfl) | (simp only [Pol.cells_eq]; rfl) | (simp only [ha, Option.getD_some, Pol.cells_eq]; rfl))) ?_
    refine seqE ?_
    refine seqE ?_
    refine andE (by (first | omega | (simp (disch := omega) only [wrap_small, mid_eq, List.length_map]; omega) | (simp; done) | (simp; omega) | (simp at *; omega) | (simp at *; done) | (simp_all; done) | (simp_all; omega))) ?_
    refine rowsE (Y := List.map Verdict.cells (List.set x1.s.1 x1.i (Verdict.mk x1.s.2 (IntKind.i64.wrap (x1.s.2 + 1)) (x1.s.1[x1.i]?.getD default).Keep))) (by exact setMapS (by simp) (by first | rfl | (simp only [ha, Option.getD_some]; rfl) | (obtain ⟨_, rfl⟩ := List.getElem?_eq_some_iff.1 ha; rfl) | (simp only [Pol.cells_eq]; rfl) | (simp only [ha, Option.getD_some, Pol.cells_eq]; rfl))) ?_
    refine seqE ?_
    refine seqE ?_
    refine andE (by (first | omega | (simp (disch := omega) only [wrap_small, mid_eq, List.length_map]; omega) | (simp; done) | (simp; omega) | (simp at *; omega) | (simp at *; done) | (simp_all; done) | (simp_all; omega))) ?_
    refine andE (by (first | omega | (simp (disch := omega) only [wrap_small, mid_eq, List.length_map]; omega) | (simp; done) | (simp; omega) | (simp at *; omega) | (simp at *; done) | (simp_all; done) | (simp_all; omega))) ?_
    refine rowsE (Y := List.map Verdict.cells (List.set x1.s.1 x1.i (Verdict.mk x1.s.2 (IntKind.i64.wrap (x1.s.2 + 1)) ((Int.tmod (IntKind.i64.wrap ((IntKind.i64.wrap (x1.s.2 + 1)) + 1)) 3) == 0)))) (by exact setMapS (by simp) (by first | rfl | (simp only [ha, Option.getD_some]; rfl) | (obtain ⟨_, rfl⟩ := List.getElem?_eq_some_iff.1 ha; rfl) | (simp only [Pol.cells_eq]; rfl) | (simp only [ha, Option.getD_some, Pol.cells_eq]; rfl))) ?_
    exact x1.goE hi1 hb1 (by simpa using x1.hI) [none, some 1] ⟨rfl, ⟨rfl, (eqInt hw1), ⟨rfl, rfl, rfl, rfl, by (first | rfl | omega | (dsimp only; omega) | (simp; done) | (simp; omega) | (simp [LstSt.init, LstSt.step, LstInv.init, CntSt.init, CntSt.step, CntInv.init, WhlSt.init, WhlSt.step]; done) | (simp [LstSt.init, LstSt.step, LstInv.init, CntSt.init, CntSt.step, CntInv.init, WhlSt.init, WhlSt.step]; omega))⟩, trivial⟩, ⟨⟨rfl, rfl, rfl⟩, trivial⟩, ⟨⟨rfl, rfl, rfl, rfl, by (first | rfl | omega | (dsimp only; omega) | (simp; done) | (simp; omega) | (simp [LstSt.init, LstSt.step, LstInv.init, CntSt.init, CntSt.step, CntInv.init, WhlSt.init, WhlSt.step]; done) | (simp [LstSt.init, LstSt.step, LstInv.init, CntSt.init, CntSt.step, CntInv.init, WhlSt.init, WhlSt.step]; omega))⟩, trivial⟩⟩
  have hg := finE hg (x1.fin hi1)
  refine seqE ?_
  exact leafM hown hg
def laws_heldVerdictS_b1 (i1 : Nat) (s1 : Int) (a1 : Verdict) : Step (Int) Int :=
  (bif (a1.Trace != s1) then (.done (-1)) else (bif (a1.Stamp != (IntKind.i64.wrap (s1 + 1))) then (.done (-1)) else (bif (!(a1.Keep == ((Int.tmod (IntKind.i64.wrap ((IntKind.i64.wrap (s1 + 1)) + 1)) 3) == 0))) then (.done (-1)) else (.next (IntKind.i64.wrap ((IntKind.i64.wrap ((IntKind.i64.wrap (s1 + 1)) + 1)) + 1))))))
def laws_heldVerdictS (p0 : (List Verdict)) (p1 : Int) : Int :=
  (Fin.get (fun s1 => s1) (loopL laws_heldVerdictS_b1 0 p1 p0))
theorem c_laws_heldVerdictS (p0 : (List Verdict)) (p1 : Int) : FnOk prog 41 [.one (.s false 3 (List.map Verdict.cells p0)), .one (.v (.int .i64 p1))] ⟨.one (.v (.int .i64 (laws_heldVerdictS p0 p1))), [], [], false⟩ := by
  refine FnOk.intro (E := env) envOk wide func41 rfl (by kernel_rfl) rfl rfl ?_
  have hg := laws_heldVerdictS.eq_1 p0 p1
  have hown : ∀ g : Int, AV.Own (AV.one (.v (.int .i64 g))) := fun g => .v _
  refine seqE ?_
  refine seqE ?_
  refine seqE ?_
  refine loopLE hg [0] (fun x1 => [(1, .one (.v (.int .i64 x1.s))), (5, .one (.v (.int .i64 ((x1.i : Nat) : Int))))]) (fun x1 => []) [] ?_ (fun x1 => ?_)
  · exact ⟨rfl, ⟨rfl, rfl, rfl, trivial⟩, trivial, trivial⟩
  refine seqE ?_
  refine seqE ?_
  refine lenM fun hN1 => ?_
  refine tstL (fun hi1 => ?_) (fun hi1 => ?_)
  · have hb1 := (x1.bdy hi1).trans (laws_heldVerdictS_b1.eq_1 ..)
    have hw1 := wrap_succ hi1 (by first | assumption | omega)
    refine seqE ?_
    refine seqE ?_
    refine seqE ?_
    refine idxAt hi1 ?_
    refine brW hb1 (fun hb1 h2 => ?_) (fun hb1 h2 => ?_)
    · refine seqE ?_
      have hg := donE hg (x1.outD hi1 hb1)
      exact leafE hown hg
    · refine seqE ?_
      refine seqE ?_
      refine seqE ?_
      refine idxAt hi1 ?_
      refine brW hb1 (fun hb1 h3 => ?_) (fun hb1 h3 => ?_)
      · refine seqE ?_
        have hg := donE hg (x1.outD hi1 hb1)
        exact leafE hown hg
      · refine seqE ?_
        refine seqE ?_
        refine seqE ?_
        refine idxAt hi1 ?_
        refine andE (by (first | omega | (simp (disch := omega) only [wrap_small, mid_eq, List.length_map]; omega) | (simp; done) | (simp; omega) | (simp at *; omega) | (simp at *; done) | (simp_all; done) | (simp_all; omega))) ?_
        refine brE hb1 (fun hb1 h4 => ?_) (fun hb1 h4 => x1.goE hi1 hb1 [] ⟨rfl, ⟨rfl, (eqInt hw1), rfl, trivial⟩, trivial, trivial⟩)
        refine seqE ?_
        have hg := donE hg (x1.outD hi1 hb1)
        exact leafE hown hg
  have hg := finE hg (x1.fin hi1)
  refine seqE ?_
  exact leafE hown hg
def laws_FnExactVerdicts (p0 : (List Deed)) : Bool :=
  (bif (decide ((laws_szDeedS p0 1048576) < 0)) then true else (bif (!(laws_eqVerdictS (impl_Verdicts (laws_toDeedS p0)) (spec_Verdicts (laws_toDeedS p0)))) then false else (bif (!(laws_eqDeedS (laws_toDeedS p0) (laws_toDeedS p0))) then false else (bif (decide ((laws_markDeedS (laws_toDeedS p0) 1).1 < 0)) then false else (bif (!(laws_eqVerdictS (impl_Verdicts (laws_toDeedS p0)) (spec_Verdicts (laws_toDeedS p0)))) then false else (bif (decide ((laws_heldVerdictS (laws_markVerdictS (impl_Verdicts (laws_toDeedS p0)) 1).2 1) < 0)) then false else (bif ((laws_heldVerdictS (laws_markVerdictS (impl_Verdicts (laws_toDeedS p0)) 1).2 1) != (laws_markVerdictS (impl_Verdicts (laws_toDeedS p0)) 1).1) then false else (bif (!(laws_eqVerdictS (impl_Verdicts (laws_toDeedS p0)) (spec_Verdicts (laws_toDeedS p0)))) then false else (bif (decide ((laws_heldVerdictS (laws_markVerdictS (impl_Verdicts (laws_toDeedS p0)) 1).2 1) < 0)) then false else (bif ((laws_heldVerdictS (laws_markVerdictS (impl_Verdicts (laws_toDeedS p0)) 1).2 1) != (laws_markVerdictS (impl_Verdicts (laws_toDeedS p0)) 1).1) then false else true))))))))))
theorem c_laws_FnExactVerdicts (p0 : (List Deed)) (hw0 : bdS Deed.bd 9223372036854775807 p0) : FnOk prog 8 [.one (.s false 20 (List.map (Deed.cells false) p0))] ⟨.one (.v (.bool (laws_FnExactVerdicts p0))), [], [], false⟩ := by
  refine FnOk.intro (E := env) envOk wide func8 rfl (by kernel_rfl) rfl rfl ?_
  have hg := laws_FnExactVerdicts.eq_1 p0
  have hown : ∀ g : Bool, AV.Own (AV.one (.v (.bool g))) := fun g => .v _
  refine seqE ?_
  refine seqE ?_
  refine seqE ?_
  refine .inl (⟨_, _, c_laws_szDeedS p0 1048576, (FzAs.same _), ?_⟩)
  refine litE (m := 1) rfl ?_
  refine seqE ?_
  refine seqE ?_
  refine brD hg (fun hg h1 => ?_) (fun hg h1 => ?_)
  · refine seqE ?_
    exact leafE hown hg
  have hz1 := szd_laws_szDeedS p0 1048576 (by assumption) (by decide) (by decide) (Int.not_lt.1 h1)
  have hs1 := hz1.1
  have hl1 : (laws_szDeedS p0 1048576) ≤ 1048576 := Int.le_trans hz1.2 (by decide)
  refine seqE ?_
  refine .inl (⟨_, _, c_laws_toDeedS p0 (by first | assumption | (simp only [id_laws_toDeedS]; assumption)), (FzAs.same _), ?_⟩)
  refine litE (m := 2) rfl ?_
  refine .inl (⟨_, _, c_spec_Verdicts (laws_toDeedS p0) (by first | assumption | (simp only [id_laws_toDeedS]; assumption)), (.cons (.one (.sl _ _ _ _ (frzMap frz_Deed _))) (.same _)), ?_⟩)
  refine litE (m := 4) rfl ?_
  refine seqE ?_
  refine .inl (⟨_, _, c_laws_toDeedS p0 (by first | assumption | (simp only [id_laws_toDeedS]; assumption)), (FzAs.same _), ?_⟩)
  refine litE (m := 6) rfl ?_
  refine seqE ?_
  refine .inl (⟨_, _, c_impl_Verdicts (laws_toDeedS p0) (by first | assumption | (simp only [id_laws_toDeedS]; assumption)), (.cons (.one (.sl _ _ _ _ (frzMap frz_Deed _))) (.same _)), ?_⟩)
  refine litE (m := 8) rfl ?_
  refine seqE ?_
  refine seqE ?_
  refine .inl (⟨_, _, c_laws_eqVerdictS (impl_Verdicts (laws_toDeedS p0)) (spec_Verdicts (laws_toDeedS p0)), (FzAs.same _), ?_⟩)
  refine litE (m := 10) rfl ?_
  refine brE hg (fun hg h2 => ?_) (fun hg h2 => ?_)
  · refine seqE ?_
    exact leafE hown hg
  · refine seqE ?_
    refine seqE ?_
    refine .inl (⟨_, _, c_laws_toDeedS p0 (by first | assumption | (simp only [id_laws_toDeedS]; assumption)), (FzAs.same _), ?_⟩)
    refine litE (m := 11) rfl ?_
    refine .inl (⟨_, _, c_laws_eqDeedS (laws_toDeedS p0) (laws_toDeedS p0), (.cons (.one (.sl _ _ _ _ (frzMap frz_Deed _))) (.cons (.one (.sl _ _ _ _ (frzMap frz_Deed _))) (.same _))), ?_⟩)
    refine litE (m := 13) rfl ?_
    refine brE hg (fun hg h3 => ?_) (fun hg h3 => ?_)
    · refine seqE ?_
      exact leafE hown hg
    · refine seqE ?_
      refine seqE ?_
      refine .inr ⟨0, _, _, _, c_laws_markDeedS (laws_toDeedS p0) 1, (FzAs.same _), .inl ?_⟩
      refine litE (m := 14) rfl ?_
      refine seqE ?_
      refine seqE ?_
      refine brDF hg (fun hg h4 => ?_) (fun hg h4 => ?_)
      · refine .inl (⟨_, _, c_laws_eqVerdictS (impl_Verdicts (laws_toDeedS p0)) (spec_Verdicts (laws_toDeedS p0)), (FzAs.same _), ?_⟩)
        refine litE (m := 15) rfl ?_
        refine brE hg (fun hg h5 => ?_) (fun hg h5 => ?_)
        · refine seqE ?_
          exact leafE hown hg
        · refine seqE ?_
          refine seqE ?_
          refine .inr ⟨0, _, _, _, c_laws_markVerdictS (impl_Verdicts (laws_toDeedS p0)) 1, (FzAs.same _), .inl ?_⟩
          refine litE (m := 16) rfl ?_
          refine seqE ?_
          refine seqE ?_
          refine .inl (⟨_, _, c_laws_heldVerdictS (laws_markVerdictS (impl_Verdicts (laws_toDeedS p0)) 1).2 1, (FzAs.same _), ?_⟩)
          refine litE (m := 17) rfl ?_
          refine seqE ?_
          refine seqE ?_
          refine brD hg (fun hg h6 => ?_) (fun hg h6 => ?_)
          · refine seqE ?_
            exact leafE hown hg
          · refine seqE ?_
            refine seqE ?_
            refine brW hg (fun hg h7 => ?_) (fun hg h7 => ?_)
            · refine seqE ?_
              exact leafE hown hg
            · refine seqE ?_
              refine .inl (⟨_, _, c_laws_toDeedS p0 (by first | assumption | (simp only [id_laws_toDeedS]; assumption)), (FzAs.same _), ?_⟩)
              refine litE (m := 18) rfl ?_
              refine .inl (⟨_, _, c_impl_Verdicts (laws_toDeedS p0) (by first | assumption | (simp only [id_laws_toDeedS]; assumption)), (.cons (.one (.sl _ _ _ _ (frzMap frz_Deed _))) (.same _)), ?_⟩)
              refine litE (m := 20) rfl ?_
              refine seqE ?_
              refine seqE ?_
              refine .inl (⟨_, _, c_laws_eqVerdictS (impl_Verdicts (laws_toDeedS p0)) (spec_Verdicts (laws_toDeedS p0)), (FzAs.same _), ?_⟩)
              refine litE (m := 22) rfl ?_
              refine brE hg (fun hg h8 => ?_) (fun hg h8 => ?_)
              · refine seqE ?_
                exact leafE hown hg
              · refine seqE ?_
                refine seqE ?_
                refine .inl (⟨_, _, c_laws_heldVerdictS (laws_markVerdictS (impl_Verdicts (laws_toDeedS p0)) 1).2 1, (FzAs.same _), ?_⟩)
                refine litE (m := 23) rfl ?_
                refine seqE ?_
                refine seqE ?_
                refine brD hg (fun hg h9 => ?_) (fun hg h9 => ?_)
                · refine seqE ?_
                  exact leafE hown hg
                · refine seqE ?_
                  refine seqE ?_
                  refine brW hg (fun hg h10 => ?_) (fun hg h10 => ?_)
                  · refine seqE ?_
                    exact leafE hown hg
                  · refine seqE ?_
                    exact leafE hown hg
      · refine seqE ?_
        exact leafE hown hg
def mVerdict (_ : Verdict) (k : Int) : Verdict := ⟨k, k + 1, Int.tmod (k + 1 + 1) 3 == 0⟩
theorem mk_VerdictS (l : List Verdict) (k : Int) (h1 : 1 ≤ k) (h2 : k + csum (fun _ => 3) l ≤ 4611686018427387904) : laws_markVerdictS l k = (k + csum (fun _ => 3) l, markL mVerdict (fun _ => 3) k l) := by
  unfold laws_markVerdictS
  have := mark_loop (mb := laws_markVerdictS_b1) (M := mVerdict) (c := fun _ => 3) (Pd := fun _ => True) (fun i s a _ h1 h2 => by unfold laws_markVerdictS_b1; simp (disch := omega) only [wrap_small, mVerdict]; simp [Int.add_assoc]) l l [] k rfl (fun _ _ => trivial) h1 h2
  simp only [List.nil_append, List.length_nil] at this
  rw [this]; rfl
theorem hd_VerdictS (l : List Verdict) (k : Int) (h1 : 1 ≤ k) (h2 : k + csum (fun _ => 3) l ≤ 4611686018427387904) : laws_heldVerdictS (markL mVerdict (fun _ => 3) k l) k = k + csum (fun _ => 3) l := by
  unfold laws_heldVerdictS
  rw [held_loop (hb := laws_heldVerdictS_b1) (M := mVerdict) (c := fun _ => 3) (Pd := fun _ => True) (fun i s a _ h1 h2 => by unfold laws_heldVerdictS_b1; simp (disch := omega) only [wrap_small, mVerdict]; simp [Int.add_assoc]) l 0 k (fun _ _ => trivial) h1 h2]
  rfl
def mAttr (_ : Attr) (k : Int) : Attr := ⟨laws_markText k, Int.tmod (k + 1) 3 == 0, k + 1 + 1, laws_markText (k + 1 + 1 + 1)⟩
theorem mk_AttrS (l : List Attr) (k : Int) (h1 : 1 ≤ k) (h2 : k + csum (fun _ => 4) l ≤ 4611686018427387904) : laws_markAttrS l k = (k + csum (fun _ => 4) l, markL mAttr (fun _ => 4) k l) := by
  unfold laws_markAttrS
  have := mark_loop (mb := laws_markAttrS_b1) (M := mAttr) (c := fun _ => 4) (Pd := fun _ => True) (fun i s a _ h1 h2 => by unfold laws_markAttrS_b1; simp (disch := omega) only [wrap_small, mAttr]; simp [Int.add_assoc]) l l [] k rfl (fun _ _ => trivial) h1 h2
  simp only [List.nil_append, List.length_nil] at this
  rw [this]; rfl
def wDeed (a : Deed) (k : Int) : Deed := (Deed.mk k (IntKind.i64.wrap (k + 1)) (Span.mk (IntKind.i64.wrap ((IntKind.i64.wrap (k + 1)) + 1)) (IntKind.i64.wrap ((IntKind.i64.wrap ((IntKind.i64.wrap (k + 1)) + 1)) + 1)) (IntKind.i64.wrap ((IntKind.i64.wrap ((IntKind.i64.wrap ((IntKind.i64.wrap (k + 1)) + 1)) + 1)) + 1)) (IntKind.i64.wrap ((IntKind.i64.wrap ((IntKind.i64.wrap ((IntKind.i64.wrap ((IntKind.i64.wrap (k + 1)) + 1)) + 1)) + 1)) + 1)) ((Int.tmod (IntKind.i64.wrap ((IntKind.i64.wrap ((IntKind.i64.wrap ((IntKind.i64.wrap ((IntKind.i64.wrap ((IntKind.i64.wrap (k + 1)) + 1)) + 1)) + 1)) + 1)) + 1)) 3) == 0) (laws_markAttrS a.S.Attrs (IntKind.i64.wrap ((IntKind.i64.wrap ((IntKind.i64.wrap ((IntKind.i64.wrap ((IntKind.i64.wrap ((IntKind.i64.wrap ((IntKind.i64.wrap (k + 1)) + 1)) + 1)) + 1)) + 1)) + 1)) + 1))).2) (laws_markAttrS a.S.Attrs (IntKind.i64.wrap ((IntKind.i64.wrap ((IntKind.i64.wrap ((IntKind.i64.wrap ((IntKind.i64.wrap ((IntKind.i64.wrap ((IntKind.i64.wrap (k + 1)) + 1)) + 1)) + 1)) + 1)) + 1)) + 1))).1 (IntKind.i64.wrap ((laws_markAttrS a.S.Attrs (IntKind.i64.wrap ((IntKind.i64.wrap ((IntKind.i64.wrap ((IntKind.i64.wrap ((IntKind.i64.wrap ((IntKind.i64.wrap ((IntKind.i64.wrap (k + 1)) + 1)) + 1)) + 1)) + 1)) + 1)) + 1))).1 + 1)) (IntKind.i64.wrap ((IntKind.i64.wrap ((laws_markAttrS a.S.Attrs (IntKind.i64.wrap ((IntKind.i64.wrap ((IntKind.i64.wrap ((IntKind.i64.wrap ((IntKind.i64.wrap ((IntKind.i64.wrap ((IntKind.i64.wrap (k + 1)) + 1)) + 1)) + 1)) + 1)) + 1)) + 1))).1 + 1)) + 1)) ((Int.tmod (IntKind.i64.wrap ((IntKind.i64.wrap ((IntKind.i64.wrap ((laws_markAttrS a.S.Attrs (IntKind.i64.wrap ((IntKind.i64.wrap ((IntKind.i64.wrap ((IntKind.i64.wrap ((IntKind.i64.wrap ((IntKind.i64.wrap ((IntKind.i64.wrap (k + 1)) + 1)) + 1)) + 1)) + 1)) + 1)) + 1))).1 + 1)) + 1)) + 1)) 3) == 0) ((Int.tmod (IntKind.i64.wrap ((IntKind.i64.wrap ((IntKind.i64.wrap ((IntKind.i64.wrap ((laws_markAttrS a.S.Attrs (IntKind.i64.wrap ((IntKind.i64.wrap ((IntKind.i64.wrap ((IntKind.i64.wrap ((IntKind.i64.wrap ((IntKind.i64.wrap ((IntKind.i64.wrap (k + 1)) + 1)) + 1)) + 1)) + 1)) + 1)) + 1))).1 + 1)) + 1)) + 1)) + 1)) 3) == 0) (IntKind.i64.wrap ((IntKind.i64.wrap ((IntKind.i64.wrap ((IntKind.i64.wrap ((IntKind.i64.wrap ((laws_markAttrS a.S.Attrs (IntKind.i64.wrap ((IntKind.i64.wrap ((IntKind.i64.wrap ((IntKind.i64.wrap ((IntKind.i64.wrap ((IntKind.i64.wrap ((IntKind.i64.wrap (k + 1)) + 1)) + 1)) + 1)) + 1)) + 1)) + 1))).1 + 1)) + 1)) + 1)) + 1)) + 1)) (IntKind.i64.wrap ((IntKind.i64.wrap ((IntKind.i64.wrap ((IntKind.i64.wrap ((IntKind.i64.wrap ((IntKind.i64.wrap ((laws_markAttrS a.S.Attrs (IntKind.i64.wrap ((IntKind.i64.wrap ((IntKind.i64.wrap ((IntKind.i64.wrap ((IntKind.i64.wrap ((IntKind.i64.wrap ((IntKind.i64.wrap (k + 1)) + 1)) + 1)) + 1)) + 1)) + 1)) + 1))).1 + 1)) + 1)) + 1)) + 1)) + 1)) + 1)) (IntKind.i64.wrap ((IntKind.i64.wrap ((IntKind.i64.wrap ((IntKind.i64.wrap ((IntKind.i64.wrap ((IntKind.i64.wrap ((IntKind.i64.wrap ((laws_markAttrS a.S.Attrs (IntKind.i64.wrap ((IntKind.i64.wrap ((IntKind.i64.wrap ((IntKind.i64.wrap ((IntKind.i64.wrap ((IntKind.i64.wrap ((IntKind.i64.wrap (k + 1)) + 1)) + 1)) + 1)) + 1)) + 1)) + 1))).1 + 1)) + 1)) + 1)) + 1)) + 1)) + 1)) + 1)) (IntKind.i64.wrap ((IntKind.i64.wrap ((IntKind.i64.wrap ((IntKind.i64.wrap ((IntKind.i64.wrap ((IntKind.i64.wrap ((IntKind.i64.wrap ((IntKind.i64.wrap ((laws_markAttrS a.S.Attrs (IntKind.i64.wrap ((IntKind.i64.wrap ((IntKind.i64.wrap ((IntKind.i64.wrap ((IntKind.i64.wrap ((IntKind.i64.wrap ((IntKind.i64.wrap (k + 1)) + 1)) + 1)) + 1)) + 1)) + 1)) + 1))).1 + 1)) + 1)) + 1)) + 1)) + 1)) + 1)) + 1)) + 1)) (IntKind.i64.wrap ((IntKind.i64.wrap ((IntKind.i64.wrap ((IntKind.i64.wrap ((IntKind.i64.wrap ((IntKind.i64.wrap ((IntKind.i64.wrap ((IntKind.i64.wrap ((IntKind.i64.wrap ((laws_markAttrS a.S.Attrs (IntKind.i64.wrap ((IntKind.i64.wrap ((IntKind.i64.wrap ((IntKind.i64.wrap ((IntKind.i64.wrap ((IntKind.i64.wrap ((IntKind.i64.wrap (k + 1)) + 1)) + 1)) + 1)) + 1)) + 1)) + 1))).1 + 1)) + 1)) + 1)) + 1)) + 1)) + 1)) + 1)) + 1)) + 1)) (IntKind.i64.wrap ((IntKind.i64.wrap ((IntKind.i64.wrap ((IntKind.i64.wrap ((IntKind.i64.wrap ((IntKind.i64.wrap ((IntKind.i64.wrap ((IntKind.i64.wrap ((IntKind.i64.wrap ((IntKind.i64.wrap ((laws_markAttrS a.S.Attrs (IntKind.i64.wrap ((IntKind.i64.wrap ((IntKind.i64.wrap ((IntKind.i64.wrap ((IntKind.i64.wrap ((IntKind.i64.wrap ((IntKind.i64.wrap (k + 1)) + 1)) + 1)) + 1)) + 1)) + 1)) + 1))).1 + 1)) + 1)) + 1)) + 1)) + 1)) + 1)) + 1)) + 1)) + 1)) + 1)) (IntKind.i64.wrap ((IntKind.i64.wrap ((IntKind.i64.wrap ((IntKind.i64.wrap ((IntKind.i64.wrap ((IntKind.i64.wrap ((IntKind.i64.wrap ((IntKind.i64.wrap ((IntKind.i64.wrap ((IntKind.i64.wrap ((IntKind.i64.wrap ((laws_markAttrS a.S.Attrs (IntKind.i64.wrap ((IntKind.i64.wrap ((IntKind.i64.wrap ((IntKind.i64.wrap ((IntKind.i64.wrap ((IntKind.i64.wrap ((IntKind.i64.wrap (k + 1)) + 1)) + 1)) + 1)) + 1)) + 1)) + 1))).1 + 1)) + 1)) + 1)) + 1)) + 1)) + 1)) + 1)) + 1)) + 1)) + 1)) + 1)))
def cDeed (a : Deed) : Nat := 19 + csum (fun _ : Attr => 4) a.S.Attrs
theorem mk_DeedS (l : List Deed) (k : Int) (h1 : 1 ≤ k) (h2 : k + csum cDeed l ≤ 4611686018427387904) : laws_markDeedS l k = (k + csum cDeed l, markL wDeed cDeed k l) := by
  unfold laws_markDeedS
  have := mark_loop (mb := laws_markDeedS_b1) (M := wDeed) (c := cDeed) (Pd := fun _ => True) (fun i s a _ h1 h2 => by
    unfold laws_markDeedS_b1
    refine congrArg Step.next (Prod.ext rfl ?_)
    generalize s.1[i]?.getD default = x at h2 ⊢
    unfold cDeed at h2 ⊢
    simp (disch := omega) only [wrap_small]
    rw [mk_AttrS _ _ (by omega) (by omega)]
    simp (disch := omega) only [wrap_small]
    omega) l l [] k rfl (fun _ _ => trivial) h1 h2
  simp only [List.nil_append, List.length_nil] at this
  rw [this]; rfl
theorem beqD (a b : Int) : (a == b) = decide (a = b) := by by_cases h : a = b <;> simp [h]
theorem bneD (a b : Int) : (a != b) = !decide (a = b) := by by_cases h : a = b <;> simp [h, bne]
theorem order_eq (p0 : List Deed) (h : p0.length ≤ 1048576) : spec_Order p0 = impl_Order p0 := (spec_Order_ok p0 h).eq (impl_Order_ok p0 h)
theorem cDeed_le (p0 : List Deed) (h : bdS Deed.bd 1048576 p0) : csum cDeed p0 ≤ 4503599627370496 := by
  have h1 : ∀ a ∈ p0, cDeed a ≤ 4294967296 := fun a ha => by
    have h2 : a.S.Attrs.length ≤ 1048576 := (h.2 a ha).1
    unfold cDeed
    rw [csum_const]; omega
  have := csum_le h1
  have h3 := h.1
  omega
/-- What is done with the arguments' marks. -/
theorem marked_DeedS (p0 : List Deed) (h : bdS Deed.bd 1048576 p0) : decide ((laws_markDeedS p0 1).1 < 0) = false := by
  have := cDeed_le p0 h
  rw [mk_DeedS p0 1 (by omega) (by omega)]
  simp only [decide_eq_false_iff_not]
  omega
def gVerd (p0 : List Deed) (v : Int) : List Verdict := let d := p0[v.toNat]?.getD default; if (d.Op = 2 ∧ d.Void = false) ∨ d.Op = 3 then [⟨d.Trace, d.Stamp, d.Keep⟩] else []
theorem spec_Verdicts_eq (p0 : List Deed) : spec_Verdicts p0 = (spec_Order p0).flatMap (gVerd p0) := by
  unfold spec_Verdicts
  rw [app_flat (b := spec_Verdicts_b1 p0) (gVerd p0) (fun i s v => by
    unfold spec_Verdicts_b1 gVerd spec_Verdicts_j2
    generalize p0[v.toNat]?.getD default = d
    by_cases h1 : d.Op = 2
    · cases hv : d.Void <;> simp [h1, hv, Step.get, beqD, bneD]
    · by_cases h3 : d.Op = 3
      · simp [h1, h3, Step.get, beqD, bneD]
      · simp [h1, h3, Step.get, beqD, bneD]), List.nil_append]
  rfl
theorem impl_Verdicts_eq (p0 : List Deed) (h : p0.length ≤ 1048576) : impl_Verdicts p0 = (impl_Order p0).flatMap (gVerd p0) := by
  unfold impl_Verdicts
  have hf : ∀ v ∈ impl_Order p0, (p0[v.toNat]?.getD default).Lin ≠ -1 := fun v hv => by
    have hp := (impl_Order_ok p0 h).p.mem_iff.1 hv
    exact flL_lin Deed.Lin p0 v hp
  rw [app_flat (b := impl_Verdicts_b1) (fun d : Deed => if (d.Op = 2 ∧ d.Lin ≠ -1 ∧ d.Void = false) ∨ d.Op = 3 then [⟨d.Trace, d.Stamp, d.Keep⟩] else []) (fun i s d => by
    unfold impl_Verdicts_b1 impl_Verdicts_j2 impl_judged
    by_cases h1 : d.Op = 2
    · by_cases hl : d.Lin = -1
      · simp [h1, hl, Step.get, beqD, bneD]
      · cases hv : d.Void <;> simp [h1, hv, hl, Step.get, beqD, bneD]
    · by_cases h3 : d.Op = 3
      · simp [h1, h3, Step.get, beqD, bneD]
      · simp [h1, h3, Step.get, beqD, bneD]), List.nil_append, impl_ordered_map, flatMap_mapE]
  show List.flatMap _ _ = _
  refine flatMap_congrE fun v hv => ?_
  have := hf v hv
  unfold gVerd
  simp [this]
theorem law_Verdicts (p0 : List Deed) (hw0 : bdS Deed.bd 9223372036854775807 p0) : laws_FnExactVerdicts p0 = true := by
  unfold laws_FnExactVerdicts
  by_cases hd : laws_szDeedS p0 1048576 < 0
  · rw [decide_eq_true hd]; rfl
  · rw [decide_eq_false hd]
    have hs := (szd_laws_szDeedS p0 1048576 hw0 (by omega) (by omega) (by omega)).1
    have e : impl_Verdicts p0 = spec_Verdicts p0 := by rw [impl_Verdicts_eq p0 hs.1, spec_Verdicts_eq, order_eq p0 hs.1]
    have hl : (spec_Verdicts p0).length ≤ 1048576 := by
      rw [spec_Verdicts_eq]
      refine Nat.le_trans (flat1_len (fun v => by unfold gVerd; dsimp only; split <;> simp) _) (Nat.le_trans (spec_Order_ok p0 hs.1).len hs.1)
    have hk : (1 : Int) + csum (fun _ => 3) (spec_Verdicts p0) ≤ 4611686018427387904 := by rw [csum_const]; omega
    simp only [cond_false, id_laws_toDeedS, e, rf_laws_eqVerdictS, rf_laws_eqDeedS, Bool.not_true, marked_DeedS p0 hs, mk_VerdictS _ _ (Int.le_refl 1) hk, hd_VerdictS _ _ (Int.le_refl 1) hk, bne_self_eq_false]
    have : decide ((1 : Int) + csum (fun _ => 3) (spec_Verdicts p0) < 0) = false := by simp only [decide_eq_false_iff_not]; omega
    rw [this]; rfl
theorem rows_sl {α : Type} (f : α → List T) (W : α → Prop) : ∀ rows : List (List T), (∀ r ∈ rows, ∃ x, r = f x ∧ W x) → ∃ l : List α, rows = l.map f ∧ ∀ x ∈ l, W x
  | [], _ => ⟨[], rfl, by simp⟩
  | r :: rows, h => by
    obtain ⟨x, hx, hw⟩ := h r (by simp)
    obtain ⟨l, hl, hw'⟩ := rows_sl f W rows (fun r hr => h r (by simp [hr]))
    exact ⟨x :: l, by simp [hx, hl], fun y hy => by rcases List.mem_cons.1 hy with rfl | hy; exact hw; exact hw' y hy⟩
theorem shape_sl {α : Type} (f : α → List T) {P : Nat → α → Prop} (W : α → Prop) (hW : W = P 9223372036854775807) {n t e k : Nat} (ht : prog.underlying t = some (.slice e)) (hk : prog.cellsOf e = k) {y : List T} (h : Shape prog (n + 1) t y) (hr : ∀ r, Shape prog n e r → ∃ x, r = f x ∧ W x) :
    ∃ l : List α, y = [.s false k (l.map f)] ∧ bdS P 9223372036854775807 l := by
  subst hW
  unfold Shape at h
  rw [ht] at h
  obtain ⟨rows, h1, h2, h3⟩ := h
  rw [hk] at h1
  obtain ⟨l, rfl, hw⟩ := rows_sl f _ rows (fun r hr' => hr r (h3 r hr').2)
  exact ⟨l, h1, by simpa [maxLen] using h2, hw⟩
theorem shape3 (n : Nat) {l : List T} (h : Shape prog n 3 l) : ∃ x : Int, l = [.v (.int .i64 x)] ∧ True := by
  cases n with
  | zero => exact (h : False).elim
  | succ n =>
    simp only [Shape, underlying3] at h
    obtain ⟨x, hx, _⟩ := h
    exact ⟨x, hx, trivial⟩
theorem shape4 (n : Nat) {l : List T} (h : Shape prog n 4 l) : ∃ x : Bool, l = [.v (.bool x)] ∧ True := by
  cases n with
  | zero => exact (h : False).elim
  | succ n =>
    simp only [Shape, underlying4] at h
    obtain ⟨x, hx⟩ := h
    exact ⟨x, hx, trivial⟩
theorem shape9 (n : Nat) {l : List T} (h : Shape prog n 9 l) : ∃ x : ByteArray, l = [.v (.string x)] ∧ (x).size ≤ 9223372036854775807 := by
  cases n with
  | zero => exact (h : False).elim
  | succ n =>
    simp only [Shape, underlying9] at h
    obtain ⟨x, hx, hw⟩ := h
    exact ⟨x, hx, by simpa [maxLen] using hw⟩
theorem shape266 (n : Nat) {l : List T} (h : Shape prog n 266 l) : ∃ x : Attr, l = Attr.cells x ∧ Attr.bd 9223372036854775807 x := by
  cases n with
  | zero => exact (h : False).elim
  | succ n =>
    unfold Shape at h
    rw [underlying266] at h
    simp only [ShapeL] at h
    obtain ⟨_, _, rfl, h0, _, _, rfl, h1, _, _, rfl, h2, _, _, rfl, h3, rfl⟩ := h
    obtain ⟨x0, rfl, w0⟩ := shape9 n h0
    obtain ⟨x1, rfl, w1⟩ := shape4 n h1
    obtain ⟨x2, rfl, w2⟩ := shape3 n h2
    obtain ⟨x3, rfl, w3⟩ := shape9 n h3
    exact ⟨⟨x0, x1, x2, x3⟩, rfl, ⟨w0, w3⟩⟩
theorem shape150 (n : Nat) {l : List T} (h : Shape prog n 150 l) : ∃ x : (List Attr), l = [.s false 4 (List.map Attr.cells x)] ∧ bdS Attr.bd 9223372036854775807 x := by
  cases n with
  | zero => exact (h : False).elim
  | succ n =>
    exact shape_sl Attr.cells (P := Attr.bd) _ rfl underlying150 (by kernel_rfl) h (fun r hr => shape266 n hr)
theorem shape152 (n : Nat) {l : List T} (h : Shape prog n 152 l) : ∃ x : Span, l = (Span.cells false) x ∧ Span.bd 9223372036854775807 x := by
  cases n with
  | zero => exact (h : False).elim
  | succ n =>
    unfold Shape at h
    rw [underlying152] at h
    simp only [ShapeL] at h
    obtain ⟨_, _, rfl, h0, _, _, rfl, h1, _, _, rfl, h2, _, _, rfl, h3, _, _, rfl, h4, _, _, rfl, h5, rfl⟩ := h
    obtain ⟨x0, rfl, w0⟩ := shape3 n h0
    obtain ⟨x1, rfl, w1⟩ := shape3 n h1
    obtain ⟨x2, rfl, w2⟩ := shape3 n h2
    obtain ⟨x3, rfl, w3⟩ := shape3 n h3
    obtain ⟨x4, rfl, w4⟩ := shape4 n h4
    obtain ⟨x5, rfl, w5⟩ := shape150 n h5
    exact ⟨⟨x0, x1, x2, x3, x4, x5⟩, rfl, w5⟩
theorem shape154 (n : Nat) {l : List T} (h : Shape prog n 154 l) : ∃ x : Deed, l = (Deed.cells false) x ∧ Deed.bd 9223372036854775807 x := by
  cases n with
  | zero => exact (h : False).elim
  | succ n =>
    unfold Shape at h
    rw [underlying154] at h
    simp only [ShapeL] at h
    obtain ⟨_, _, rfl, h0, _, _, rfl, h1, _, _, rfl, h2, _, _, rfl, h3, _, _, rfl, h4, _, _, rfl, h5, _, _, rfl, h6, _, _, rfl, h7, _, _, rfl, h8, _, _, rfl, h9, _, _, rfl, h10, _, _, rfl, h11, _, _, rfl, h12, _, _, rfl, h13, _, _, rfl, h14, rfl⟩ := h
    obtain ⟨x0, rfl, w0⟩ := shape3 n h0
    obtain ⟨x1, rfl, w1⟩ := shape3 n h1
    obtain ⟨x2, rfl, w2⟩ := shape152 n h2
    obtain ⟨x3, rfl, w3⟩ := shape3 n h3
    obtain ⟨x4, rfl, w4⟩ := shape3 n h4
    obtain ⟨x5, rfl, w5⟩ := shape3 n h5
    obtain ⟨x6, rfl, w6⟩ := shape4 n h6
    obtain ⟨x7, rfl, w7⟩ := shape4 n h7
    obtain ⟨x8, rfl, w8⟩ := shape3 n h8
    obtain ⟨x9, rfl, w9⟩ := shape3 n h9
    obtain ⟨x10, rfl, w10⟩ := shape3 n h10
    obtain ⟨x11, rfl, w11⟩ := shape3 n h11
    obtain ⟨x12, rfl, w12⟩ := shape3 n h12
    obtain ⟨x13, rfl, w13⟩ := shape3 n h13
    obtain ⟨x14, rfl, w14⟩ := shape3 n h14
    exact ⟨⟨x0, x1, x2, x3, x4, x5, x6, x7, x8, x9, x10, x11, x12, x13, x14⟩, rfl, w2⟩
theorem shape37 (n : Nat) {l : List T} (h : Shape prog n 37 l) : ∃ x : (List Deed), l = [.s false 20 (List.map (Deed.cells false) x)] ∧ bdS Deed.bd 9223372036854775807 x := by
  cases n with
  | zero => exact (h : False).elim
  | succ n =>
    exact shape_sl (Deed.cells false) (P := Deed.bd) _ rfl underlying37 (by kernel_rfl) h (fun r hr => shape154 n hr)
theorem arg37 {n : Nat} {y : T} (h : Shape prog n 37 [y]) : ∃ x : (List Deed), y = .s false 20 (List.map (Deed.cells false) x) ∧ bdS Deed.bd 9223372036854775807 x := by
  obtain ⟨x, hx, hw⟩ := shape37 n h
  exact ⟨x, by simpa using hx, hw⟩
theorem law_c (p0 : (List Deed)) (h0 : bdS Deed.bd 9223372036854775807 p0) : FnOk prog 8 [.one (.s false 20 (List.map (Deed.cells false) p0))] ⟨.one (.v (.bool true)), [], [], false⟩ :=
  FnOk.fits ⟨_, func8, by kernel_rfl, by kernel_rfl⟩ (fun hf => by
    have h := c_laws_FnExactVerdicts p0 h0
    rw [law_Verdicts p0 h0] at h
    exact h)

end Go.Proofs.Try.Ev
