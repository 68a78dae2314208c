import Derived.Test.YtepchngnmfbffaaLModelOkWalkC
set_option linter.unusedSectionVars false

namespace Go.Proofs.Try.Ev
open Go Go.Ev Go.Proofs
set_option maxHeartbeats 4000000
set_option maxRecDepth 100000
set_option linter.unusedSimpArgs false
set_option linter.unusedVariables false
theorem c_impl_BytesOf (p0 : Trail) : FnOk prog 100 [.agg ((Trail.cells false) p0)] ⟨.one (.v (.int .i64 (impl_BytesOf p0))), [], [], false⟩ := by
  refine FnOk.intro (E := env) envOk wide func100 rfl (by kernel_rfl) rfl rfl ?_
  refine litE (m := 0) rfl ?_
  refine ⟨_, _, c_impl_TotalOf p0.Spans, (FzAs.same _), ?_⟩
  refine litE (m := 2) rfl ?_
  refine And.intro (fun _ => .v _) ?_
  have hg : impl_BytesOf p0 = (impl_TotalOf p0.Spans) := by
    first | rfl | (simp only [impl_BytesOf, cond_true, cond_false, Step.fin_stop, Step.fin_done, Fin.get_fin, Fin.get_done, Step.fin_next, Bool.not_true, Bool.not_false, Option.getD_some]; done) | (simp [impl_BytesOf, cond_true, cond_false, Step.fin_stop, Step.fin_done, Fin.get_fin, Fin.get_done, Step.fin_next, Bool.not_true, Bool.not_false, Option.getD_some]; done) | (exfalso; simp_all; done)
  exact congrArg (fun g : Int => AV.one (.v (.int .i64 g))) hg.symm
def impl_ModelOk_b1 (p0 : Model) (i1 : Nat) (s1 : (List Int) × Int) (a1 : Trail) : Step ((List Int) × Int) Bool :=
  (bif (!(impl_TrailOk a1)) then (.done false) else (bif (decide (((i1 : Nat) : Int) > 0)) then (bif (decide ((p0.Open[((IntKind.i64.wrap (((i1 : Nat) : Int) - 1))).toNat]?.getD default).Id ≥ a1.Id)) then (.done false) else (bif (slices_Contains_99 s1.1 a1.Stamp) then (.done false) else (.next ((s1.1 ++ [a1.Stamp]), (IntKind.i64.wrap (s1.2 + (impl_BytesOf a1))))))) else (bif (slices_Contains_99 s1.1 a1.Stamp) then (.done false) else (.next ((s1.1 ++ [a1.Stamp]), (IntKind.i64.wrap (s1.2 + (impl_BytesOf a1))))))))
def impl_ModelOk (p0 : Model) : Bool :=
  (bif (!(impl_ConfOk p0.C)) then false else (bif (!(impl_CacheOk p0.Cache p0.C.Cache)) then false else (bif (!(impl_BucketOk p0.B)) then false else (bif (p0.B.Rate != p0.C.Rate) then false else (bif (p0.B.Burst != p0.C.Burst) then false else (Fin.get (fun s1 => (bif (p0.Used == s1.2) then (decide (p0.Used ≤ p0.C.Budget)) else false)) (loopL (impl_ModelOk_b1 p0) 0 (([] : List Int), 0) p0.Open)))))))
theorem c_impl_ModelOk (p0 : Model) (hs : Model.bd 1048576 p0) : FnOk prog 24 [.agg ((Model.cells false) p0)] ⟨.one (.v (.bool (impl_ModelOk p0))), [], [], false⟩ := by
  refine FnOk.intro (E := env) envOk wide func24 rfl (by kernel_rfl) rfl rfl ?_
  refine litE (m := 0) rfl ?_
  refine ⟨_, _, c_impl_ConfOk p0.C, (FzAs.same _), ?_⟩
  refine litE (m := 2) rfl ?_
  refine And.intro (fun (h1 : (!(impl_ConfOk p0.C)) = false) => ?_) (fun (h1 : (!(impl_ConfOk p0.C)) = true) => ?_)
  · refine ⟨_, _, c_impl_CacheOk p0.Cache p0.C.Cache, (FzAs.same _), ?_⟩
    refine litE (m := 3) rfl ?_
    refine And.intro (fun (h2 : (!(impl_CacheOk p0.Cache p0.C.Cache)) = false) => ?_) (fun (h2 : (!(impl_CacheOk p0.Cache p0.C.Cache)) = true) => ?_)
    · refine ⟨_, _, c_impl_BucketOk p0.B, (FzAs.same _), ?_⟩
      refine litE (m := 4) rfl ?_
      refine And.intro (fun (h3 : (!(impl_BucketOk p0.B)) = false) => ?_) (fun (h3 : (!(impl_BucketOk p0.B)) = true) => ?_)
      · refine And.intro (fun (h4 : (p0.B.Rate != p0.C.Rate) = false) => ?_) (fun (h4 : (p0.B.Rate != p0.C.Rate) = true) => ?_)
        · refine And.intro (fun (h5 : (p0.B.Burst != p0.C.Burst) = true) => ?_) (fun (h5 : (p0.B.Burst != p0.C.Burst) = false) => ?_)
          · refine And.intro (fun _ => .v _) ?_
            have hg : impl_ModelOk p0 = false := by
              first | rfl | (simp only [impl_ModelOk, h1, h2, h3, h4, h5, cond_true, cond_false, Step.fin_stop, Step.fin_done, Fin.get_fin, Fin.get_done, Step.fin_next, Bool.not_true, Bool.not_false, Option.getD_some]; done) | (simp [impl_ModelOk, h1, h2, h3, h4, h5, cond_true, cond_false, Step.fin_stop, Step.fin_done, Fin.get_fin, Fin.get_done, Step.fin_next, Bool.not_true, Bool.not_false, Option.getD_some]; done) | (exfalso; simp_all; done)
            exact congrArg (fun g : Bool => AV.one (.v (.bool g))) hg.symm
          · refine lenE (k := (p0.Open).length) (by simp) (fun hN6 => ?_)
            refine loop_rule (α := LstInv (fun i s => s.1.length = i) (impl_ModelOk_b1 p0) (([] : List Int), 0) p0.Open) [1, 45, 46] (fun x1 => [(3, .one (.v (.int .i64 x1.s.2))), (4, .one (.n 4 [] 1 0 (x1.s.1).length)), (47, .one (.v (.int .i64 ((x1.i : Nat) : Int))))]) (fun x1 => [.keep 0, .dead, .dead, .dead, .new ⟨1, false, List.map cInt x1.s.1, 0⟩]) (fun x1 => (p0.Open).length - x1.i) (.init (by rfl)) [some 0, none, none, none, none] ?_ (fun x1 => ?_)
            · exact ⟨rfl, ⟨rfl, ⟨rfl, rfl, rfl, rfl, by (first | rfl | (simp; done) | (simp [LstSt.init, LstSt.step, LstInv.init, CntSt.init, CntSt.step, CntInv.init, WhlSt.init, WhlSt.step]; done) | (simp [LstSt.init, LstSt.step, LstInv.init, CntSt.init, CntSt.step, CntInv.init, WhlSt.init, WhlSt.step]; omega))⟩, rfl, ⟨rfl, rfl, rfl, rfl⟩, rfl, rfl, trivial⟩, ⟨⟨rfl, rfl, ⟨rfl, rfl, rfl, rfl, rfl, rfl, rfl, rfl, rfl, rfl, rfl, rfl, rfl, rfl, rfl, rfl, rfl, rfl, rfl, rfl, trivial⟩⟩, ⟨rfl, rfl⟩, trivial⟩, trivial⟩
            · have hI1 : List.length x1.s.1 = x1.i := by simpa using x1.hI
              refine And.intro (fun (h7 : (decide (((x1.i : Nat) : Int) < (((p0.Open).length : Nat) : Int))) = true) => ?_) (fun (h7 : (decide (((x1.i : Nat) : Int) < (((p0.Open).length : Nat) : Int))) = false) => ?_)
              · have hi1 : x1.i < (p0.Open).length := by simpa using h7
                have hw1 : IntKind.i64.wrap ((x1.i : Int) + 1) = ((x1.i + 1 : Nat) : Int) := wrap_succ hi1 (by first | assumption | omega)
                refine And.intro (fun _ => by first | exact idx_at hi1 | exact idx_of (by first | omega | (first | omega | (simp; done) | (simp; omega) | (simp at *; omega) | (simp at *; done) | (simp_all; done) | (simp_all; omega))) (by assumption) | (have hj := hi1; have hk := hi2; rw [List.length_map]; omega) | (have h9 : ((x1.i : Nat) : Int) > 0 := (by first | simpa using ‹decide (((x1.i : Nat) : Int) > 0) = true› | simp_all); have hj := hi1; have e9 : IntKind.i64.wrap (((x1.i : Nat) : Int) - 1) = ((x1.i : Nat) : Int) - 1 := (by rw [Go.Ev.wrap_small (n := ((x1.i : Nat) : Int) - 1)] <;> omega); rw [e9]; (try rw [List.length_map]); omega)) (rowAtE (i := x1.i) (l := p0.Open) rfl hi1 ?_)
                refine litE (m := 5) rfl ?_
                refine .inl ⟨by kernel_rfl, ?_⟩
                refine ⟨_, _, c_impl_TrailOk (p0.Open[x1.i]'hi1), (FzAs.same _), ?_⟩
                refine And.intro (fun (h8 : (!(impl_TrailOk (p0.Open[x1.i]'hi1))) = false) => ?_) (fun (h8 : (!(impl_TrailOk (p0.Open[x1.i]'hi1))) = true) => ?_)
                · refine And.intro (fun (h9 : (decide (((x1.i : Nat) : Int) > 0)) = true) => ?_) (fun (h9 : (decide (((x1.i : Nat) : Int) > 0)) = false) => ?_)
                  · refine And.intro (fun _ => by first | exact idx_at hi1 | exact idx_of (by first | omega | (first | omega | (simp; done) | (simp; omega) | (simp at *; omega) | (simp at *; done) | (simp_all; done) | (simp_all; omega))) (by assumption) | (have hj := hi1; have hk := hi2; rw [List.length_map]; omega) | (have h9 : ((x1.i : Nat) : Int) > 0 := (by first | simpa using ‹decide (((x1.i : Nat) : Int) > 0) = true› | simp_all); have hj := hi1; have e9 : IntKind.i64.wrap (((x1.i : Nat) : Int) - 1) = ((x1.i : Nat) : Int) - 1 := (by rw [Go.Ev.wrap_small (n := ((x1.i : Nat) : Int) - 1)] <;> omega); rw [e9]; (try rw [List.length_map]); omega)) (rowOfE (i := ((IntKind.i64.wrap (((x1.i : Nat) : Int) - 1))).toNat) (l := p0.Open) rfl (fun e10 he10 => ?_))
                    refine And.intro (fun (h11 : (decide (e10.Id ≥ (p0.Open[x1.i]'hi1).Id)) = false) => ?_) (fun (h11 : (decide (e10.Id ≥ (p0.Open[x1.i]'hi1).Id)) = true) => ?_)
                    · refine ⟨_, _, c_slices_Contains_99 x1.s.1 (p0.Open[x1.i]'hi1).Stamp, (FzAs.same _), ?_⟩
                      refine And.intro (fun (h12 : (slices_Contains_99 x1.s.1 (p0.Open[x1.i]'hi1).Stamp) = true) => ?_) (fun (h12 : (slices_Contains_99 x1.s.1 (p0.Open[x1.i]'hi1).Stamp) = false) => ?_)
                      · have hb1 := x1.out hi1 (by first | rfl | (simp only [impl_ModelOk_b1, h1, h2, h3, h4, h5, h7, h8, h9, he10, h11, h12, cond_true, cond_false, Bool.not_true, Bool.not_false, Option.getD_some, Step.isNext_stop, Step.isNext_done, Step.fin_stop, Step.fin_done, Fin.get_fin, Fin.get_done]; done) | (exfalso; simp_all; done))
                        refine And.intro (fun _ => .v _) ?_
                        have hg : impl_ModelOk p0 = false := by
                          first | rfl | (simp only [impl_ModelOk, impl_ModelOk_b1, h1, h2, h3, h4, h5, h7, h8, h9, he10, h11, h12, hb1, cond_true, cond_false, Step.fin_stop, Step.fin_done, Fin.get_fin, Fin.get_done, Step.fin_next, Bool.not_true, Bool.not_false, Option.getD_some]; done) | (simp [impl_ModelOk, impl_ModelOk_b1, h1, h2, h3, h4, h5, h7, h8, h9, he10, h11, h12, hb1, cond_true, cond_false, Step.fin_stop, Step.fin_done, Fin.get_fin, Fin.get_done, Step.fin_next, Bool.not_true, Bool.not_false, Option.getD_some]; done) | (exfalso; simp_all; done)
                        exact congrArg (fun g : Bool => AV.one (.v (.bool g))) hg.symm
                      · refine litE (m := 6) rfl ?_
                        refine rowsE (Y := List.map cInt (x1.s.1 ++ [(p0.Open[x1.i]'hi1).Stamp])) (by first | rfl | (simp [subR, take_map', drop_map', fz_cInt, fl_cInt, fzMap fz_cInt, flMap fl_cInt]; done) | (simp [subR, take_map', drop_map', fz_cInt, fl_cInt, fzMap fz_cInt, flMap fl_cInt]; rfl)) ?_
                        refine And.intro (by have hl := hs.2.1.1; refine ⟨?_, ?_⟩; (show List.length _ * 8 ≤ _); (try simp only [List.length_map, List.length_append, List.length_cons, List.length_nil]); omega; (try simp only [List.length_map, List.length_append, List.length_cons, List.length_nil]); omega) ?_
                        refine litE (m := 7) rfl ?_
                        refine ⟨_, _, c_impl_BytesOf (p0.Open[x1.i]'hi1), (FzAs.same _), ?_⟩
                        refine litE (m := 9) rfl ?_
                        refine x1.go' hi1 (v := ((x1.s.1 ++ [(p0.Open[x1.i]'hi1).Stamp]), (IntKind.i64.wrap (x1.s.2 + (impl_BytesOf (p0.Open[x1.i]'hi1)))))) (by first | rfl | (simp only [impl_ModelOk_b1, h1, h2, h3, h4, h5, h7, h8, h9, he10, h11, h12, cond_true, cond_false, Bool.not_true, Bool.not_false, Option.getD_some, Step.fin_stop, Step.fin_done, Fin.get_fin, Fin.get_done]; done) | (exfalso; simp_all; done)) (by show List.length (_ ++ _) = _; simp only [List.length_append, List.length_cons, List.length_nil]; omega) [some 0, none, none, none, some 7] (by show _ - (x1.i + 1) < _ - x1.i; omega) ?_
                        exact ⟨rfl, ⟨rfl, ⟨rfl, rfl, rfl, rfl, by (first | rfl | (simp; done) | (simp [LstSt.init, LstSt.step, LstInv.init, CntSt.init, CntSt.step, CntInv.init, WhlSt.init, WhlSt.step]; done) | (simp [LstSt.init, LstSt.step, LstInv.init, CntSt.init, CntSt.step, CntInv.init, WhlSt.init, WhlSt.step]; omega))⟩, (eqInt hw1), ⟨rfl, rfl, rfl, rfl⟩, rfl, rfl, trivial⟩, ⟨⟨rfl, rfl, ⟨rfl, rfl, rfl, rfl, rfl, rfl, rfl, rfl, rfl, rfl, rfl, rfl, rfl, rfl, rfl, rfl, rfl, rfl, rfl, rfl, trivial⟩⟩, ⟨rfl, rfl, rfl⟩, trivial⟩, trivial⟩
                    · have hb1 := x1.out hi1 (by first | rfl | (simp only [impl_ModelOk_b1, h1, h2, h3, h4, h5, h7, h8, h9, he10, h11, cond_true, cond_false, Bool.not_true, Bool.not_false, Option.getD_some, Step.isNext_stop, Step.isNext_done, Step.fin_stop, Step.fin_done, Fin.get_fin, Fin.get_done]; done) | (exfalso; simp_all; done))
                      refine And.intro (fun _ => .v _) ?_
                      have hg : impl_ModelOk p0 = false := by
                        first | rfl | (simp only [impl_ModelOk, impl_ModelOk_b1, h1, h2, h3, h4, h5, h7, h8, h9, he10, h11, hb1, cond_true, cond_false, Step.fin_stop, Step.fin_done, Fin.get_fin, Fin.get_done, Step.fin_next, Bool.not_true, Bool.not_false, Option.getD_some]; done) | (simp [impl_ModelOk, impl_ModelOk_b1, h1, h2, h3, h4, h5, h7, h8, h9, he10, h11, hb1, cond_true, cond_false, Step.fin_stop, Step.fin_done, Fin.get_fin, Fin.get_done, Step.fin_next, Bool.not_true, Bool.not_false, Option.getD_some]; done) | (exfalso; simp_all; done)
                      exact congrArg (fun g : Bool => AV.one (.v (.bool g))) hg.symm
                  · refine ⟨_, _, c_slices_Contains_99 x1.s.1 (p0.Open[x1.i]'hi1).Stamp, (FzAs.same _), ?_⟩
                    refine And.intro (fun (h13 : (slices_Contains_99 x1.s.1 (p0.Open[x1.i]'hi1).Stamp) = true) => ?_) (fun (h13 : (slices_Contains_99 x1.s.1 (p0.Open[x1.i]'hi1).Stamp) = false) => ?_)
                    · have hb1 := x1.out hi1 (by first | rfl | (simp only [impl_ModelOk_b1, h1, h2, h3, h4, h5, h7, h8, h9, h13, cond_true, cond_false, Bool.not_true, Bool.not_false, Option.getD_some, Step.isNext_stop, Step.isNext_done, Step.fin_stop, Step.fin_done, Fin.get_fin, Fin.get_done]; done) | (exfalso; simp_all; done))
                      refine And.intro (fun _ => .v _) ?_
                      have hg : impl_ModelOk p0 = false := by
                        first | rfl | (simp only [impl_ModelOk, impl_ModelOk_b1, h1, h2, h3, h4, h5, h7, h8, h9, h13, hb1, cond_true, cond_false, Step.fin_stop, Step.fin_done, Fin.get_fin, Fin.get_done, Step.fin_next, Bool.not_true, Bool.not_false, Option.getD_some]; done) | (simp [impl_ModelOk, impl_ModelOk_b1, h1, h2, h3, h4, h5, h7, h8, h9, h13, hb1, cond_true, cond_false, Step.fin_stop, Step.fin_done, Fin.get_fin, Fin.get_done, Step.fin_next, Bool.not_true, Bool.not_false, Option.getD_some]; done) | (exfalso; simp_all; done)
                      exact congrArg (fun g : Bool => AV.one (.v (.bool g))) hg.symm
                    · refine litE (m := 6) rfl ?_
                      refine rowsE (Y := List.map cInt (x1.s.1 ++ [(p0.Open[x1.i]'hi1).Stamp])) (by first | rfl | (simp [subR, take_map', drop_map', fz_cInt, fl_cInt, fzMap fz_cInt, flMap fl_cInt]; done) | (simp [subR, take_map', drop_map', fz_cInt, fl_cInt, fzMap fz_cInt, flMap fl_cInt]; rfl)) ?_
                      refine And.intro (by have hl := hs.2.1.1; refine ⟨?_, ?_⟩; (show List.length _ * 8 ≤ _); (try simp only [List.length_map, List.length_append, List.length_cons, List.length_nil]); omega; (try simp only [List.length_map, List.length_append, List.length_cons, List.length_nil]); omega) ?_
                      refine litE (m := 7) rfl ?_
                      refine ⟨_, _, c_impl_BytesOf (p0.Open[x1.i]'hi1), (FzAs.same _), ?_⟩
                      refine litE (m := 9) rfl ?_
                      refine x1.go' hi1 (v := ((x1.s.1 ++ [(p0.Open[x1.i]'hi1).Stamp]), (IntKind.i64.wrap (x1.s.2 + (impl_BytesOf (p0.Open[x1.i]'hi1)))))) (by first | rfl | (simp only [impl_ModelOk_b1, h1, h2, h3, h4, h5, h7, h8, h9, h13, cond_true, cond_false, Bool.not_true, Bool.not_false, Option.getD_some, Step.fin_stop, Step.fin_done, Fin.get_fin, Fin.get_done]; done) | (exfalso; simp_all; done)) (by show List.length (_ ++ _) = _; simp only [List.length_append, List.length_cons, List.length_nil]; omega) [some 0, none, none, none, some 7] (by show _ - (x1.i + 1) < _ - x1.i; omega) ?_
                      exact ⟨rfl, ⟨rfl, ⟨rfl, rfl, rfl, rfl, by (first | rfl | (simp; done) | (simp [LstSt.init, LstSt.step, LstInv.init, CntSt.init, CntSt.step, CntInv.init, WhlSt.init, WhlSt.step]; done) | (simp [LstSt.init, LstSt.step, LstInv.init, CntSt.init, CntSt.step, CntInv.init, WhlSt.init, WhlSt.step]; omega))⟩, (eqInt hw1), ⟨rfl, rfl, rfl, rfl⟩, rfl, rfl, trivial⟩, ⟨⟨rfl, rfl, ⟨rfl, rfl, rfl, rfl, rfl, rfl, rfl, rfl, rfl, rfl, rfl, rfl, rfl, rfl, rfl, rfl, rfl, rfl, rfl, rfl, trivial⟩⟩, ⟨rfl, rfl, rfl⟩, trivial⟩, trivial⟩
                · have hb1 := x1.out hi1 (by first | rfl | (simp only [impl_ModelOk_b1, h1, h2, h3, h4, h5, h7, h8, cond_true, cond_false, Bool.not_true, Bool.not_false, Option.getD_some, Step.isNext_stop, Step.isNext_done, Step.fin_stop, Step.fin_done, Fin.get_fin, Fin.get_done]; done) | (exfalso; simp_all; done))
                  refine And.intro (fun _ => .v _) ?_
                  have hg : impl_ModelOk p0 = false := by
                    first | rfl | (simp only [impl_ModelOk, impl_ModelOk_b1, h1, h2, h3, h4, h5, h7, h8, hb1, cond_true, cond_false, Step.fin_stop, Step.fin_done, Fin.get_fin, Fin.get_done, Step.fin_next, Bool.not_true, Bool.not_false, Option.getD_some]; done) | (simp [impl_ModelOk, impl_ModelOk_b1, h1, h2, h3, h4, h5, h7, h8, hb1, cond_true, cond_false, Step.fin_stop, Step.fin_done, Fin.get_fin, Fin.get_done, Step.fin_next, Bool.not_true, Bool.not_false, Option.getD_some]; done) | (exfalso; simp_all; done)
                  exact congrArg (fun g : Bool => AV.one (.v (.bool g))) hg.symm
              · have hf1 := x1.fin (show ¬ x1.i < (p0.Open).length by simpa using h7)
                refine And.intro (fun (h14 : (p0.Used == x1.s.2) = true) => ?_) (fun (h14 : (p0.Used == x1.s.2) = false) => ?_)
                · refine And.intro (fun _ => .v _) ?_
                  have hg : impl_ModelOk p0 = (decide (p0.Used ≤ p0.C.Budget)) := by
                    first | rfl | (simp only [impl_ModelOk, impl_ModelOk_b1, h1, h2, h3, h4, h5, h7, hf1, h14, cond_true, cond_false, Step.fin_stop, Step.fin_done, Fin.get_fin, Fin.get_done, Step.fin_next, Bool.not_true, Bool.not_false, Option.getD_some]; done) | (simp [impl_ModelOk, impl_ModelOk_b1, h1, h2, h3, h4, h5, h7, hf1, h14, cond_true, cond_false, Step.fin_stop, Step.fin_done, Fin.get_fin, Fin.get_done, Step.fin_next, Bool.not_true, Bool.not_false, Option.getD_some]; done) | (exfalso; simp_all; done)
                  exact congrArg (fun g : Bool => AV.one (.v (.bool g))) hg.symm
                · refine And.intro (fun _ => .v _) ?_
                  have hg : impl_ModelOk p0 = false := by
                    first | rfl | (simp only [impl_ModelOk, impl_ModelOk_b1, h1, h2, h3, h4, h5, h7, hf1, h14, cond_true, cond_false, Step.fin_stop, Step.fin_done, Fin.get_fin, Fin.get_done, Step.fin_next, Bool.not_true, Bool.not_false, Option.getD_some]; done) | (simp [impl_ModelOk, impl_ModelOk_b1, h1, h2, h3, h4, h5, h7, hf1, h14, cond_true, cond_false, Step.fin_stop, Step.fin_done, Fin.get_fin, Fin.get_done, Step.fin_next, Bool.not_true, Bool.not_false, Option.getD_some]; done) | (exfalso; simp_all; done)
                  exact congrArg (fun g : Bool => AV.one (.v (.bool g))) hg.symm
        · refine And.intro (fun _ => .v _) ?_
          have hg : impl_ModelOk p0 = false := by
            first | rfl | (simp only [impl_ModelOk, impl_ModelOk_b1, h1, h2, h3, h4, cond_true, cond_false, Step.fin_stop, Step.fin_done, Fin.get_fin, Fin.get_done, Step.fin_next, Bool.not_true, Bool.not_false, Option.getD_some]; done) | (simp [impl_ModelOk, impl_ModelOk_b1, h1, h2, h3, h4, cond_true, cond_false, Step.fin_stop, Step.fin_done, Fin.get_fin, Fin.get_done, Step.fin_next, Bool.not_true, Bool.not_false, Option.getD_some]; done) | (exfalso; simp_all; done)
          exact congrArg (fun g : Bool => AV.one (.v (.bool g))) hg.symm
      · refine And.intro (fun _ => .v _) ?_
        have hg : impl_ModelOk p0 = false := by
          first | rfl | (simp only [impl_ModelOk, impl_ModelOk_b1, h1, h2, h3, cond_true, cond_false, Step.fin_stop, Step.fin_done, Fin.get_fin, Fin.get_done, Step.fin_next, Bool.not_true, Bool.not_false, Option.getD_some]; done) | (simp [impl_ModelOk, impl_ModelOk_b1, h1, h2, h3, cond_true, cond_false, Step.fin_stop, Step.fin_done, Fin.get_fin, Fin.get_done, Step.fin_next, Bool.not_true, Bool.not_false, Option.getD_some]; done) | (exfalso; simp_all; done)
        exact congrArg (fun g : Bool => AV.one (.v (.bool g))) hg.symm
    · refine And.intro (fun _ => .v _) ?_
      have hg : impl_ModelOk p0 = false := by
        first | rfl | (simp only [impl_ModelOk, impl_ModelOk_b1, h1, h2, cond_true, cond_false, Step.fin_stop, Step.fin_done, Fin.get_fin, Fin.get_done, Step.fin_next, Bool.not_true, Bool.not_false, Option.getD_some]; done) | (simp [impl_ModelOk, impl_ModelOk_b1, h1, h2, cond_true, cond_false, Step.fin_stop, Step.fin_done, Fin.get_fin, Fin.get_done, Step.fin_next, Bool.not_true, Bool.not_false, Option.getD_some]; done) | (exfalso; simp_all; done)
      exact congrArg (fun g : Bool => AV.one (.v (.bool g))) hg.symm
  · refine And.intro (fun _ => .v _) ?_
    have hg : impl_ModelOk p0 = false := by
      first | rfl | (simp only [impl_ModelOk, impl_ModelOk_b1, h1, cond_true, cond_false, Step.fin_stop, Step.fin_done, Fin.get_fin, Fin.get_done, Step.fin_next, Bool.not_true, Bool.not_false, Option.getD_some]; done) | (simp [impl_ModelOk, impl_ModelOk_b1, h1, cond_true, cond_false, Step.fin_stop, Step.fin_done, Fin.get_fin, Fin.get_done, Step.fin_next, Bool.not_true, Bool.not_false, Option.getD_some]; done) | (exfalso; simp_all; done)
    exact congrArg (fun g : Bool => AV.one (.v (.bool g))) hg.symm
def laws_eqPolS_b1 (r0 : (Pol → Pol → Bool)) (p1 : (List Pol)) (i1 : Nat) (s1 : Unit) (a1 : Pol) : Step (Unit) Bool :=
  (bif (!(r0 a1 (p1[i1]?.getD default))) then (.done false) else (.next ()))
def laws_eqPolS (r0 : Pol → Pol → Bool) (p0 : (List Pol)) (p1 : (List Pol)) : Bool :=
  (bif ((((p0).length : Nat) : Int) != (((p1).length : Nat) : Int)) then false else (Fin.get (fun s1 => true) (loopL (laws_eqPolS_b1 r0 p1) 0 () p0)))
theorem c_laws_eqPolS (r0 : Pol → Pol → Bool) (p0 : (List Pol)) (p1 : (List Pol)) (m0 : Nat) (hrec0 : ∀ (z0 : Pol) (z1 : Pol), Pol.dep z0 < m0 → FnOk prog 125 [.agg (Pol.opn false z0), .agg (Pol.opn false z1)] ⟨.one (.v (.bool (r0 z0 z1))), [], [], false⟩) (hm0 : ∀ x ∈ p0, Pol.dep x < m0) : FnOk prog 182 [.one (.s false 5 (List.map (Pol.cells false) p0)), .one (.s false 5 (List.map (Pol.cells false) p1))] ⟨.one (.v (.bool (laws_eqPolS r0 p0 p1))), [], [], false⟩ := by
  refine FnOk.intro (E := env) envOk wide func182 rfl (by kernel_rfl) rfl rfl ?_
  refine lenE (k := (p0).length) (by simp) (fun hN1 => ?_)
  refine lenE (k := (p1).length) (by simp) (fun hN2 => ?_)
  refine And.intro (fun (h3 : ((((p0).length : Nat) : Int) != (((p1).length : Nat) : Int)) = true) => ?_) (fun (h3 : ((((p0).length : Nat) : Int) != (((p1).length : Nat) : Int)) = false) => ?_)
  · refine And.intro (fun _ => .v _) ?_
    have hg : laws_eqPolS r0 p0 p1 = false := by
      first | rfl | (simp only [laws_eqPolS, h3, cond_true, cond_false, Step.fin_stop, Step.fin_done, Fin.get_fin, Fin.get_done, Step.fin_next, Bool.not_true, Bool.not_false, Option.getD_some]; done) | (simp [laws_eqPolS, h3, cond_true, cond_false, Step.fin_stop, Step.fin_done, Fin.get_fin, Fin.get_done, Step.fin_next, Bool.not_true, Bool.not_false, Option.getD_some]; done) | (exfalso; simp_all; done)
    exact congrArg (fun g : Bool => AV.one (.v (.bool g))) hg.symm
  · refine loop_rule (α := LstSt (laws_eqPolS_b1 r0 p1) () p0) [0, 1] (fun x1 => [(5, .one (.v (.int .i64 ((x1.i : Nat) : Int))))]) (fun x1 => []) (fun x1 => (p0).length - x1.i) .init [] ?_ (fun x1 => ?_)
    · exact ⟨rfl, ⟨rfl, rfl, rfl, trivial⟩, trivial, trivial⟩
    · refine lenE (k := (p0).length) (by simp) (fun hN4 => ?_)
      refine And.intro (fun (h5 : (decide (((x1.i : Nat) : Int) < (((p0).length : Nat) : Int))) = true) => ?_) (fun (h5 : (decide (((x1.i : Nat) : Int) < (((p0).length : Nat) : Int))) = false) => ?_)
      · have hi1 : x1.i < (p0).length := by simpa using h5
        have hw1 : IntKind.i64.wrap ((x1.i : Int) + 1) = ((x1.i + 1 : Nat) : Int) := wrap_succ hi1 (by first | assumption | omega)
        refine .inl ⟨by kernel_rfl, ?_⟩
        refine And.intro (fun _ => by (first | omega | (simp; done) | (simp; omega) | (simp at *; omega) | (simp at *; done) | (simp_all; done) | (simp_all; omega))) (rowAtR (Pol.cells_eq false) (i := x1.i) (l := p0) rfl hi1 ?_)
        refine And.intro (fun _ => by (first | omega | (simp; done) | (simp; omega) | (simp at *; omega) | (simp at *; done) | (simp_all; done) | (simp_all; omega))) (rowOfR (Pol.cells_eq false) (i := x1.i) (l := p1) rfl (fun e6 he6 => ?_))
        refine ⟨_, _, hrec0 (p0[x1.i]'hi1) e6 (by first | exact hm0 _ (List.getElem_mem _) | exact hm0 _ (List.mem_of_getElem? (by assumption)) | exact Nat.lt_of_lt_of_le (Pol.dep_lt (List.getElem_mem _)) (Nat.le_of_lt_succ hd0) | exact Nat.lt_of_lt_of_le (Pol.dep_lt (List.mem_of_getElem? (by assumption))) (Nat.le_of_lt_succ hd0)), (FzAs.same _), ?_⟩
        refine And.intro (fun (h7 : (!(r0 (p0[x1.i]'hi1) e6)) = true) => ?_) (fun (h7 : (!(r0 (p0[x1.i]'hi1) e6)) = false) => ?_)
        · have hb1 := x1.out hi1 (by first | rfl | (simp only [laws_eqPolS_b1, h3, h5, he6, h7, cond_true, cond_false, Bool.not_true, Bool.not_false, Option.getD_some, Step.isNext_stop, Step.isNext_done, Step.fin_stop, Step.fin_done, Fin.get_fin, Fin.get_done]; done) | (exfalso; simp_all; done))
          refine And.intro (fun _ => .v _) ?_
          have hg : laws_eqPolS r0 p0 p1 = false := by
            first | rfl | (simp only [laws_eqPolS, laws_eqPolS_b1, h3, h5, he6, h7, hb1, cond_true, cond_false, Step.fin_stop, Step.fin_done, Fin.get_fin, Fin.get_done, Step.fin_next, Bool.not_true, Bool.not_false, Option.getD_some]; done) | (simp [laws_eqPolS, laws_eqPolS_b1, h3, h5, he6, h7, hb1, cond_true, cond_false, Step.fin_stop, Step.fin_done, Fin.get_fin, Fin.get_done, Step.fin_next, Bool.not_true, Bool.not_false, Option.getD_some]; done) | (exfalso; simp_all; done)
          exact congrArg (fun g : Bool => AV.one (.v (.bool g))) hg.symm
        · refine x1.go hi1 (v := ()) (by first | rfl | (simp only [laws_eqPolS_b1, h3, h5, he6, h7, cond_true, cond_false, Bool.not_true, Bool.not_false, Option.getD_some, Step.fin_stop, Step.fin_done, Fin.get_fin, Fin.get_done]; done) | (exfalso; simp_all; done)) [] (by show _ - (x1.i + 1) < _ - x1.i; omega) ?_
          exact ⟨rfl, ⟨(eqInt hw1), rfl, rfl, trivial⟩, trivial, trivial⟩
      · have hf1 := x1.fin (show ¬ x1.i < (p0).length by simpa using h5)
        refine And.intro (fun _ => .v _) ?_
        have hg : laws_eqPolS r0 p0 p1 = true := by
          first | rfl | (simp only [laws_eqPolS, laws_eqPolS_b1, h3, h5, hf1, cond_true, cond_false, Step.fin_stop, Step.fin_done, Fin.get_fin, Fin.get_done, Step.fin_next, Bool.not_true, Bool.not_false, Option.getD_some]; done) | (simp [laws_eqPolS, laws_eqPolS_b1, h3, h5, hf1, cond_true, cond_false, Step.fin_stop, Step.fin_done, Fin.get_fin, Fin.get_done, Step.fin_next, Bool.not_true, Bool.not_false, Option.getD_some]; done) | (exfalso; simp_all; done)
        exact congrArg (fun g : Bool => AV.one (.v (.bool g))) hg.symm
def laws_eqPolR : Nat → Pol → Pol → Bool
  | 0, _, _ => default
  | n + 1, p0, p1 => (bif (p0.Kind != p1.Kind) then false else (bif (p0.N != p1.N) then false else (bif (!decide (p0.Key = p1.Key)) then false else (bif (!decide (p0.Text = p1.Text)) then false else (bif (!(laws_eqPolS (laws_eqPolR n) p0.L p1.L)) then false else true)))))
theorem cR_laws_eqPol : ∀ (n : Nat) (p0 : Pol) (p1 : Pol), Pol.dep p0 < n → FnOk prog 125 [.agg (Pol.opn false p0), .agg (Pol.opn false p1)] ⟨.one (.v (.bool (laws_eqPolR n p0 p1))), [], [], false⟩ := by
  intro n
  induction n with
  | zero => intro p0 p1 hd0; omega
  | succ n ih =>
    intro p0 p1 hd0
    refine FnOk.intro (E := env) envOk wide func125 rfl (by kernel_rfl) rfl rfl ?_
    refine litE (m := 0) rfl ?_
    refine litE (m := 1) rfl ?_
    refine And.intro (fun (h1 : (p0.Kind != p1.Kind) = true) => ?_) (fun (h1 : (p0.Kind != p1.Kind) = false) => ?_)
    · refine And.intro (fun _ => .v _) ?_
      have hg : (laws_eqPolR (n + 1) p0 p1) = false := by
        first | rfl | (simp only [laws_eqPolR, h1, cond_true, cond_false, Step.fin_stop, Step.fin_done, Fin.get_fin, Fin.get_done, Step.fin_next, Bool.not_true, Bool.not_false, Option.getD_some]; done) | (simp [laws_eqPolR, h1, cond_true, cond_false, Step.fin_stop, Step.fin_done, Fin.get_fin, Fin.get_done, Step.fin_next, Bool.not_true, Bool.not_false, Option.getD_some]; done) | (exfalso; simp_all; done)
      exact congrArg (fun g : Bool => AV.one (.v (.bool g))) hg.symm
    · refine And.intro (fun (h2 : (p0.N != p1.N) = true) => ?_) (fun (h2 : (p0.N != p1.N) = false) => ?_)
      · refine And.intro (fun _ => .v _) ?_
        have hg : (laws_eqPolR (n + 1) p0 p1) = false := by
          first | rfl | (simp only [laws_eqPolR, h1, h2, cond_true, cond_false, Step.fin_stop, Step.fin_done, Fin.get_fin, Fin.get_done, Step.fin_next, Bool.not_true, Bool.not_false, Option.getD_some]; done) | (simp [laws_eqPolR, h1, h2, cond_true, cond_false, Step.fin_stop, Step.fin_done, Fin.get_fin, Fin.get_done, Step.fin_next, Bool.not_true, Bool.not_false, Option.getD_some]; done) | (exfalso; simp_all; done)
        exact congrArg (fun g : Bool => AV.one (.v (.bool g))) hg.symm
      · refine And.intro (fun (h3 : (!decide (p0.Key = p1.Key)) = true) => ?_) (fun (h3 : (!decide (p0.Key = p1.Key)) = false) => ?_)
        · refine And.intro (fun _ => .v _) ?_
          have hg : (laws_eqPolR (n + 1) p0 p1) = false := by
            first | rfl | (simp only [laws_eqPolR, h1, h2, h3, cond_true, cond_false, Step.fin_stop, Step.fin_done, Fin.get_fin, Fin.get_done, Step.fin_next, Bool.not_true, Bool.not_false, Option.getD_some]; done) | (simp [laws_eqPolR, h1, h2, h3, cond_true, cond_false, Step.fin_stop, Step.fin_done, Fin.get_fin, Fin.get_done, Step.fin_next, Bool.not_true, Bool.not_false, Option.getD_some]; done) | (exfalso; simp_all; done)
          exact congrArg (fun g : Bool => AV.one (.v (.bool g))) hg.symm
        · refine And.intro (fun (h4 : (!decide (p0.Text = p1.Text)) = true) => ?_) (fun (h4 : (!decide (p0.Text = p1.Text)) = false) => ?_)
          · refine And.intro (fun _ => .v _) ?_
            have hg : (laws_eqPolR (n + 1) p0 p1) = false := by
              first | rfl | (simp only [laws_eqPolR, h1, h2, h3, h4, cond_true, cond_false, Step.fin_stop, Step.fin_done, Fin.get_fin, Fin.get_done, Step.fin_next, Bool.not_true, Bool.not_false, Option.getD_some]; done) | (simp [laws_eqPolR, h1, h2, h3, h4, cond_true, cond_false, Step.fin_stop, Step.fin_done, Fin.get_fin, Fin.get_done, Step.fin_next, Bool.not_true, Bool.not_false, Option.getD_some]; done) | (exfalso; simp_all; done)
            exact congrArg (fun g : Bool => AV.one (.v (.bool g))) hg.symm
          · refine ⟨_, _, c_laws_eqPolS (laws_eqPolR n) p0.L p1.L n ih (by first | exact hm0 | exact fun x hx => Nat.lt_of_lt_of_le (Pol.dep_lt hx) (Nat.le_of_lt_succ hd0)), (FzAs.same _), ?_⟩
            refine litE (m := 3) rfl ?_
            refine And.intro (fun (h5 : (!(laws_eqPolS (laws_eqPolR n) p0.L p1.L)) = true) => ?_) (fun (h5 : (!(laws_eqPolS (laws_eqPolR n) p0.L p1.L)) = false) => ?_)
            · refine And.intro (fun _ => .v _) ?_
              have hg : (laws_eqPolR (n + 1) p0 p1) = false := by
                first | rfl | (simp only [laws_eqPolR, h1, h2, h3, h4, h5, cond_true, cond_false, Step.fin_stop, Step.fin_done, Fin.get_fin, Fin.get_done, Step.fin_next, Bool.not_true, Bool.not_false, Option.getD_some]; done) | (simp [laws_eqPolR, h1, h2, h3, h4, h5, cond_true, cond_false, Step.fin_stop, Step.fin_done, Fin.get_fin, Fin.get_done, Step.fin_next, Bool.not_true, Bool.not_false, Option.getD_some]; done) | (exfalso; simp_all; done)
              exact congrArg (fun g : Bool => AV.one (.v (.bool g))) hg.symm
            · refine And.intro (fun _ => .v _) ?_
              have hg : (laws_eqPolR (n + 1) p0 p1) = true := by
                first | rfl | (simp only [laws_eqPolR, h1, h2, h3, h4, h5, cond_true, cond_false, Step.fin_stop, Step.fin_done, Fin.get_fin, Fin.get_done, Step.fin_next, Bool.not_true, Bool.not_false, Option.getD_some]; done) | (simp [laws_eqPolR, h1, h2, h3, h4, h5, cond_true, cond_false, Step.fin_stop, Step.fin_done, Fin.get_fin, Fin.get_done, Step.fin_next, Bool.not_true, Bool.not_false, Option.getD_some]; done) | (exfalso; simp_all; done)
              exact congrArg (fun g : Bool => AV.one (.v (.bool g))) hg.symm
def laws_eqPol (p0 : Pol) (p1 : Pol) : Bool := laws_eqPolR (Pol.dep p0 + 1) p0 p1
theorem c_laws_eqPol (p0 : Pol) (p1 : Pol) : FnOk prog 125 [.agg (Pol.opn false p0), .agg (Pol.opn false p1)] ⟨.one (.v (.bool (laws_eqPol p0 p1))), [], [], false⟩ := cR_laws_eqPol _ p0 p1 (Nat.lt_succ_self _)
theorem rfR_laws_eqPol : ∀ (n : Nat) (x : Pol), Pol.dep x < n → laws_eqPolR n x x = true := by
  intro n
  induction n with
  | zero => intro x h; omega
  | succ n ih =>
    intro x h
    have e : laws_eqPolS (laws_eqPolR n) x.L x.L = true := eqS_okM (b := laws_eqPolS_b1 (laws_eqPolR n)) x.L (fun a ha => ih a (Nat.lt_of_lt_of_le (Pol.dep_lt ha) (Nat.le_of_lt_succ h))) (fun _ _ _ _ => rfl) (fun _ _ => rfl)
    simp [laws_eqPolR, e]
theorem rf_laws_eqPol (x : Pol) : laws_eqPol x x = true := rfR_laws_eqPol _ x (Nat.lt_succ_self _)
def laws_eqConf (p0 : Conf) (p1 : Conf) : Bool :=
  (bif (p0.Stripes != p1.Stripes) then false else (bif (p0.Wait != p1.Wait) then false else (bif (p0.Budget != p1.Budget) then false else (bif (p0.Cache != p1.Cache) then false else (bif (p0.Queue != p1.Queue) then false else (bif (p0.Rate != p1.Rate) then false else (bif (p0.Burst != p1.Burst) then false else (bif (!(laws_eqPol p0.Rule p1.Rule)) then false else true))))))))
theorem c_laws_eqConf (p0 : Conf) (p1 : Conf) : FnOk prog 53 [.agg ((Conf.cells false) p0), .agg ((Conf.cells false) p1)] ⟨.one (.v (.bool (laws_eqConf p0 p1))), [], [], false⟩ := by
  refine FnOk.intro (E := env) envOk wide func53 rfl (by kernel_rfl) rfl rfl ?_
  refine litE (m := 0) rfl ?_
  refine litE (m := 1) rfl ?_
  refine And.intro (fun (h1 : (p0.Stripes != p1.Stripes) = true) => ?_) (fun (h1 : (p0.Stripes != p1.Stripes) = false) => ?_)
  · refine And.intro (fun _ => .v _) ?_
    have hg : laws_eqConf p0 p1 = false := by
      first | rfl | (simp only [laws_eqConf, h1, cond_true, cond_false, Step.fin_stop, Step.fin_done, Fin.get_fin, Fin.get_done, Step.fin_next, Bool.not_true, Bool.not_false, Option.getD_some]; done) | (simp [laws_eqConf, h1, cond_true, cond_false, Step.fin_stop, Step.fin_done, Fin.get_fin, Fin.get_done, Step.fin_next, Bool.not_true, Bool.not_false, Option.getD_some]; done) | (exfalso; simp_all; done)
    exact congrArg (fun g : Bool => AV.one (.v (.bool g))) hg.symm
  · refine And.intro (fun (h2 : (p0.Wait != p1.Wait) = true) => ?_) (fun (h2 : (p0.Wait != p1.Wait) = false) => ?_)
    · refine And.intro (fun _ => .v _) ?_
      have hg : laws_eqConf p0 p1 = false := by
        first | rfl | (simp only [laws_eqConf, h1, h2, cond_true, cond_false, Step.fin_stop, Step.fin_done, Fin.get_fin, Fin.get_done, Step.fin_next, Bool.not_true, Bool.not_false, Option.getD_some]; done) | (simp [laws_eqConf, h1, h2, cond_true, cond_false, Step.fin_stop, Step.fin_done, Fin.get_fin, Fin.get_done, Step.fin_next, Bool.not_true, Bool.not_false, Option.getD_some]; done) | (exfalso; simp_all; done)
      exact congrArg (fun g : Bool => AV.one (.v (.bool g))) hg.symm
    · refine And.intro (fun (h3 : (p0.Budget != p1.Budget) = true) => ?_) (fun (h3 : (p0.Budget != p1.Budget) = false) => ?_)
      · refine And.intro (fun _ => .v _) ?_
        have hg : laws_eqConf p0 p1 = false := by
          first | rfl | (simp only [laws_eqConf, h1, h2, h3, cond_true, cond_false, Step.fin_stop, Step.fin_done, Fin.get_fin, Fin.get_done, Step.fin_next, Bool.not_true, Bool.not_false, Option.getD_some]; done) | (simp [laws_eqConf, h1, h2, h3, cond_true, cond_false, Step.fin_stop, Step.fin_done, Fin.get_fin, Fin.get_done, Step.fin_next, Bool.not_true, Bool.not_false, Option.getD_some]; done) | (exfalso; simp_all; done)
        exact congrArg (fun g : Bool => AV.one (.v (.bool g))) hg.symm
      · refine And.intro (fun (h4 : (p0.Cache != p1.Cache) = true) => ?_) (fun (h4 : (p0.Cache != p1.Cache) = false) => ?_)
        · refine And.intro (fun _ => .v _) ?_
          have hg : laws_eqConf p0 p1 = false := by
            first | rfl | (simp only [laws_eqConf, h1, h2, h3, h4, cond_true, cond_false, Step.fin_stop, Step.fin_done, Fin.get_fin, Fin.get_done, Step.fin_next, Bool.not_true, Bool.not_false, Option.getD_some]; done) | (simp [laws_eqConf, h1, h2, h3, h4, cond_true, cond_false, Step.fin_stop, Step.fin_done, Fin.get_fin, Fin.get_done, Step.fin_next, Bool.not_true, Bool.not_false, Option.getD_some]; done) | (exfalso; simp_all; done)
          exact congrArg (fun g : Bool => AV.one (.v (.bool g))) hg.symm
        · refine And.intro (fun (h5 : (p0.Queue != p1.Queue) = true) => ?_) (fun (h5 : (p0.Queue != p1.Queue) = false) => ?_)
          · refine And.intro (fun _ => .v _) ?_
            have hg : laws_eqConf p0 p1 = false := by
              first | rfl | (simp only [laws_eqConf, h1, h2, h3, h4, h5, cond_true, cond_false, Step.fin_stop, Step.fin_done, Fin.get_fin, Fin.get_done, Step.fin_next, Bool.not_true, Bool.not_false, Option.getD_some]; done) | (simp [laws_eqConf, h1, h2, h3, h4, h5, cond_true, cond_false, Step.fin_stop, Step.fin_done, Fin.get_fin, Fin.get_done, Step.fin_next, Bool.not_true, Bool.not_false, Option.getD_some]; done) | (exfalso; simp_all; done)
            exact congrArg (fun g : Bool => AV.one (.v (.bool g))) hg.symm
          · refine And.intro (fun (h6 : (p0.Rate != p1.Rate) = true) => ?_) (fun (h6 : (p0.Rate != p1.Rate) = false) => ?_)
            · refine And.intro (fun _ => .v _) ?_
              have hg : laws_eqConf p0 p1 = false := by
                first | rfl | (simp only [laws_eqConf, h1, h2, h3, h4, h5, h6, cond_true, cond_false, Step.fin_stop, Step.fin_done, Fin.get_fin, Fin.get_done, Step.fin_next, Bool.not_true, Bool.not_false, Option.getD_some]; done) | (simp [laws_eqConf, h1, h2, h3, h4, h5, h6, cond_true, cond_false, Step.fin_stop, Step.fin_done, Fin.get_fin, Fin.get_done, Step.fin_next, Bool.not_true, Bool.not_false, Option.getD_some]; done) | (exfalso; simp_all; done)
              exact congrArg (fun g : Bool => AV.one (.v (.bool g))) hg.symm
            · refine And.intro (fun (h7 : (p0.Burst != p1.Burst) = true) => ?_) (fun (h7 : (p0.Burst != p1.Burst) = false) => ?_)
              · refine And.intro (fun _ => .v _) ?_
                have hg : laws_eqConf p0 p1 = false := by
                  first | rfl | (simp only [laws_eqConf, h1, h2, h3, h4, h5, h6, h7, cond_true, cond_false, Step.fin_stop, Step.fin_done, Fin.get_fin, Fin.get_done, Step.fin_next, Bool.not_true, Bool.not_false, Option.getD_some]; done) | (simp [laws_eqConf, h1, h2, h3, h4, h5, h6, h7, cond_true, cond_false, Step.fin_stop, Step.fin_done, Fin.get_fin, Fin.get_done, Step.fin_next, Bool.not_true, Bool.not_false, Option.getD_some]; done) | (exfalso; simp_all; done)
                exact congrArg (fun g : Bool => AV.one (.v (.bool g))) hg.symm
              · refine ⟨_, _, c_laws_eqPol p0.Rule p1.Rule, (FzAs.same _), ?_⟩
                refine litE (m := 3) rfl ?_
                refine And.intro (fun (h8 : (!(laws_eqPol p0.Rule p1.Rule)) = true) => ?_) (fun (h8 : (!(laws_eqPol p0.Rule p1.Rule)) = false) => ?_)
                · refine And.intro (fun _ => .v _) ?_
                  have hg : laws_eqConf p0 p1 = false := by
                    first | rfl | (simp only [laws_eqConf, h1, h2, h3, h4, h5, h6, h7, h8, cond_true, cond_false, Step.fin_stop, Step.fin_done, Fin.get_fin, Fin.get_done, Step.fin_next, Bool.not_true, Bool.not_false, Option.getD_some]; done) | (simp [laws_eqConf, h1, h2, h3, h4, h5, h6, h7, h8, cond_true, cond_false, Step.fin_stop, Step.fin_done, Fin.get_fin, Fin.get_done, Step.fin_next, Bool.not_true, Bool.not_false, Option.getD_some]; done) | (exfalso; simp_all; done)
                  exact congrArg (fun g : Bool => AV.one (.v (.bool g))) hg.symm
                · refine And.intro (fun _ => .v _) ?_
                  have hg : laws_eqConf p0 p1 = true := by
                    first | rfl | (simp only [laws_eqConf, h1, h2, h3, h4, h5, h6, h7, h8, cond_true, cond_false, Step.fin_stop, Step.fin_done, Fin.get_fin, Fin.get_done, Step.fin_next, Bool.not_true, Bool.not_false, Option.getD_some]; done) | (simp [laws_eqConf, h1, h2, h3, h4, h5, h6, h7, h8, cond_true, cond_false, Step.fin_stop, Step.fin_done, Fin.get_fin, Fin.get_done, Step.fin_next, Bool.not_true, Bool.not_false, Option.getD_some]; done) | (exfalso; simp_all; done)
                  exact congrArg (fun g : Bool => AV.one (.v (.bool g))) hg.symm
theorem rf_laws_eqConf (x : Conf) : laws_eqConf x x = true := by
  simp [laws_eqConf, rf_laws_eqPol]
def laws_eqAttr (p0 : Attr) (p1 : Attr) : Bool :=
  (bif (!decide (p0.Key = p1.Key)) then false else (bif (!(p0.Num == p1.Num)) then false else (bif (p0.N != p1.N) then false else (bif (!decide (p0.Text = p1.Text)) then false else true))))
theorem c_laws_eqAttr (p0 : Attr) (p1 : Attr) : FnOk prog 205 [.agg (Attr.cells p0), .agg (Attr.cells p1)] ⟨.one (.v (.bool (laws_eqAttr p0 p1))), [], [], false⟩ := by
  refine FnOk.intro (E := env) envOk wide func205 rfl (by kernel_rfl) rfl rfl ?_
  refine litE (m := 0) rfl ?_
  refine litE (m := 1) rfl ?_
  refine And.intro (fun (h1 : (!decide (p0.Key = p1.Key)) = true) => ?_) (fun (h1 : (!decide (p0.Key = p1.Key)) = false) => ?_)
  · refine And.intro (fun _ => .v _) ?_
    have hg : laws_eqAttr p0 p1 = false := by
      first | rfl | (simp only [laws_eqAttr, h1, cond_true, cond_false, Step.fin_stop, Step.fin_done, Fin.get_fin, Fin.get_done, Step.fin_next, Bool.not_true, Bool.not_false, Option.getD_some]; done) | (simp [laws_eqAttr, h1, cond_true, cond_false, Step.fin_stop, Step.fin_done, Fin.get_fin, Fin.get_done, Step.fin_next, Bool.not_true, Bool.not_false, Option.getD_some]; done) | (exfalso; simp_all; done)
    exact congrArg (fun g : Bool => AV.one (.v (.bool g))) hg.symm
  · refine And.intro (fun (h2 : (!(p0.Num == p1.Num)) = true) => ?_) (fun (h2 : (!(p0.Num == p1.Num)) = false) => ?_)
    · refine And.intro (fun _ => .v _) ?_
      have hg : laws_eqAttr p0 p1 = false := by
        first | rfl | (simp only [laws_eqAttr, h1, h2, cond_true, cond_false, Step.fin_stop, Step.fin_done, Fin.get_fin, Fin.get_done, Step.fin_next, Bool.not_true, Bool.not_false, Option.getD_some]; done) | (simp [laws_eqAttr, h1, h2, cond_true, cond_false, Step.fin_stop, Step.fin_done, Fin.get_fin, Fin.get_done, Step.fin_next, Bool.not_true, Bool.not_false, Option.getD_some]; done) | (exfalso; simp_all; done)
      exact congrArg (fun g : Bool => AV.one (.v (.bool g))) hg.symm
    · refine And.intro (fun (h3 : (p0.N != p1.N) = true) => ?_) (fun (h3 : (p0.N != p1.N) = false) => ?_)
      · refine And.intro (fun _ => .v _) ?_
        have hg : laws_eqAttr p0 p1 = false := by
          first | rfl | (simp only [laws_eqAttr, h1, h2, h3, cond_true, cond_false, Step.fin_stop, Step.fin_done, Fin.get_fin, Fin.get_done, Step.fin_next, Bool.not_true, Bool.not_false, Option.getD_some]; done) | (simp [laws_eqAttr, h1, h2, h3, cond_true, cond_false, Step.fin_stop, Step.fin_done, Fin.get_fin, Fin.get_done, Step.fin_next, Bool.not_true, Bool.not_false, Option.getD_some]; done) | (exfalso; simp_all; done)
        exact congrArg (fun g : Bool => AV.one (.v (.bool g))) hg.symm
      · refine And.intro (fun (h4 : (!decide (p0.Text = p1.Text)) = true) => ?_) (fun (h4 : (!decide (p0.Text = p1.Text)) = false) => ?_)
        · refine And.intro (fun _ => .v _) ?_
          have hg : laws_eqAttr p0 p1 = false := by
            first | rfl | (simp only [laws_eqAttr, h1, h2, h3, h4, cond_true, cond_false, Step.fin_stop, Step.fin_done, Fin.get_fin, Fin.get_done, Step.fin_next, Bool.not_true, Bool.not_false, Option.getD_some]; done) | (simp [laws_eqAttr, h1, h2, h3, h4, cond_true, cond_false, Step.fin_stop, Step.fin_done, Fin.get_fin, Fin.get_done, Step.fin_next, Bool.not_true, Bool.not_false, Option.getD_some]; done) | (exfalso; simp_all; done)
          exact congrArg (fun g : Bool => AV.one (.v (.bool g))) hg.symm
        · refine And.intro (fun _ => .v _) ?_
          have hg : laws_eqAttr p0 p1 = true := by
            first | rfl | (simp only [laws_eqAttr, h1, h2, h3, h4, cond_true, cond_false, Step.fin_stop, Step.fin_done, Fin.get_fin, Fin.get_done, Step.fin_next, Bool.not_true, Bool.not_false, Option.getD_some]; done) | (simp [laws_eqAttr, h1, h2, h3, h4, cond_true, cond_false, Step.fin_stop, Step.fin_done, Fin.get_fin, Fin.get_done, Step.fin_next, Bool.not_true, Bool.not_false, Option.getD_some]; done) | (exfalso; simp_all; done)
          exact congrArg (fun g : Bool => AV.one (.v (.bool g))) hg.symm
theorem rf_laws_eqAttr (x : Attr) : laws_eqAttr x x = true := by
  simp [laws_eqAttr]
def laws_eqAttrS_b1 (p1 : (List Attr)) (i1 : Nat) (s1 : Unit) (a1 : Attr) : Step (Unit) Bool :=
  (bif (!(laws_eqAttr a1 (p1[i1]?.getD default))) then (.done false) else (.next ()))
def laws_eqAttrS (p0 : (List Attr)) (p1 : (List Attr)) : Bool :=
  (bif ((((p0).length : Nat) : Int) != (((p1).length : Nat) : Int)) then false else (Fin.get (fun s1 => true) (loopL (laws_eqAttrS_b1 p1) 0 () p0)))
theorem c_laws_eqAttrS (p0 : (List Attr)) (p1 : (List Attr)) : FnOk prog 175 [.one (.s false 4 (List.map Attr.cells p0)), .one (.s false 4 (List.map Attr.cells p1))] ⟨.one (.v (.bool (laws_eqAttrS p0 p1))), [], [], false⟩ := by
  refine FnOk.intro (E := env) envOk wide func175 rfl (by kernel_rfl) rfl rfl ?_
  refine lenE (k := (p0).length) (by simp) (fun hN1 => ?_)
  refine lenE (k := (p1).length) (by simp) (fun hN2 => ?_)
  refine And.intro (fun (h3 : ((((p0).length : Nat) : Int) != (((p1).length : Nat) : Int)) = true) => ?_) (fun (h3 : ((((p0).length : Nat) : Int) != (((p1).length : Nat) : Int)) = false) => ?_)
  · refine And.intro (fun _ => .v _) ?_
    have hg : laws_eqAttrS p0 p1 = false := by
      first | rfl | (simp only [laws_eqAttrS, h3, cond_true, cond_false, Step.fin_stop, Step.fin_done, Fin.get_fin, Fin.get_done, Step.fin_next, Bool.not_true, Bool.not_false, Option.getD_some]; done) | (simp [laws_eqAttrS, h3, cond_true, cond_false, Step.fin_stop, Step.fin_done, Fin.get_fin, Fin.get_done, Step.fin_next, Bool.not_true, Bool.not_false, Option.getD_some]; done) | (exfalso; simp_all; done)
    exact congrArg (fun g : Bool => AV.one (.v (.bool g))) hg.symm
  · refine loop_rule (α := LstSt (laws_eqAttrS_b1 p1) () p0) [0, 1] (fun x1 => [(5, .one (.v (.int .i64 ((x1.i : Nat) : Int))))]) (fun x1 => []) (fun x1 => (p0).length - x1.i) .init [] ?_ (fun x1 => ?_)
    · exact ⟨rfl, ⟨rfl, rfl, rfl, trivial⟩, trivial, trivial⟩
    · refine lenE (k := (p0).length) (by simp) (fun hN4 => ?_)
      refine And.intro (fun (h5 : (decide (((x1.i : Nat) : Int) < (((p0).length : Nat) : Int))) = true) => ?_) (fun (h5 : (decide (((x1.i : Nat) : Int) < (((p0).length : Nat) : Int))) = false) => ?_)
      · have hi1 : x1.i < (p0).length := by simpa using h5
        have hw1 : IntKind.i64.wrap ((x1.i : Int) + 1) = ((x1.i + 1 : Nat) : Int) := wrap_succ hi1 (by first | assumption | omega)
        refine .inl ⟨by kernel_rfl, ?_⟩
        refine And.intro (fun _ => by exact idx_at hi1) (rowAtE (i := x1.i) (l := p0) rfl hi1 ?_)
        refine And.intro (fun _ => by (first | omega | (simp; done) | (simp; omega) | (simp at *; omega) | (simp at *; done) | (simp_all; done) | (simp_all; omega))) (rowOfE (i := x1.i) (l := p1) rfl (fun e6 he6 => ?_))
        refine ⟨_, _, c_laws_eqAttr (p0[x1.i]'hi1) e6, (FzAs.same _), ?_⟩
        refine And.intro (fun (h7 : (!(laws_eqAttr (p0[x1.i]'hi1) e6)) = true) => ?_) (fun (h7 : (!(laws_eqAttr (p0[x1.i]'hi1) e6)) = false) => ?_)
        · have hb1 := x1.out hi1 (by first | rfl | (simp only [laws_eqAttrS_b1, h3, h5, he6, h7, cond_true, cond_false, Bool.not_true, Bool.not_false, Option.getD_some, Step.isNext_stop, Step.isNext_done, Step.fin_stop, Step.fin_done, Fin.get_fin, Fin.get_done]; done) | (exfalso; simp_all; done))
          refine And.intro (fun _ => .v _) ?_
          have hg : laws_eqAttrS p0 p1 = false := by
            first | rfl | (simp only [laws_eqAttrS, laws_eqAttrS_b1, h3, h5, he6, h7, hb1, cond_true, cond_false, Step.fin_stop, Step.fin_done, Fin.get_fin, Fin.get_done, Step.fin_next, Bool.not_true, Bool.not_false, Option.getD_some]; done) | (simp [laws_eqAttrS, laws_eqAttrS_b1, h3, h5, he6, h7, hb1, cond_true, cond_false, Step.fin_stop, Step.fin_done, Fin.get_fin, Fin.get_done, Step.fin_next, Bool.not_true, Bool.not_false, Option.getD_some]; done) | (exfalso; simp_all; done)
          exact congrArg (fun g : Bool => AV.one (.v (.bool g))) hg.symm
        · refine x1.go hi1 (v := ()) (by first | rfl | (simp only [laws_eqAttrS_b1, h3, h5, he6, h7, cond_true, cond_false, Bool.not_true, Bool.not_false, Option.getD_some, Step.fin_stop, Step.fin_done, Fin.get_fin, Fin.get_done]; done) | (exfalso; simp_all; done)) [] (by show _ - (x1.i + 1) < _ - x1.i; omega) ?_
          exact ⟨rfl, ⟨(eqInt hw1), rfl, rfl, trivial⟩, trivial, trivial⟩
      · have hf1 := x1.fin (show ¬ x1.i < (p0).length by simpa using h5)
        refine And.intro (fun _ => .v _) ?_
        have hg : laws_eqAttrS p0 p1 = true := by
          first | rfl | (simp only [laws_eqAttrS, laws_eqAttrS_b1, h3, h5, hf1, cond_true, cond_false, Step.fin_stop, Step.fin_done, Fin.get_fin, Fin.get_done, Step.fin_next, Bool.not_true, Bool.not_false, Option.getD_some]; done) | (simp [laws_eqAttrS, laws_eqAttrS_b1, h3, h5, hf1, cond_true, cond_false, Step.fin_stop, Step.fin_done, Fin.get_fin, Fin.get_done, Step.fin_next, Bool.not_true, Bool.not_false, Option.getD_some]; done) | (exfalso; simp_all; done)
        exact congrArg (fun g : Bool => AV.one (.v (.bool g))) hg.symm
theorem rf_laws_eqAttrS (x : (List Attr)) : laws_eqAttrS x x = true := eqS_ok (b := laws_eqAttrS_b1) rf_laws_eqAttr (fun _ _ _ _ => rfl) (fun _ _ => rfl) x
def laws_eqSpan (p0 : Span) (p1 : Span) : Bool :=
  (bif (p0.Trace != p1.Trace) then false else (bif (p0.Id != p1.Id) then false else (bif (p0.Start != p1.Start) then false else (bif (p0.End != p1.End) then false else (bif (!(p0.Err == p1.Err)) then false else (bif (!(laws_eqAttrS p0.Attrs p1.Attrs)) then false else true))))))
theorem c_laws_eqSpan (p0 : Span) (p1 : Span) : FnOk prog 115 [.agg ((Span.cells false) p0), .agg ((Span.cells false) p1)] ⟨.one (.v (.bool (laws_eqSpan p0 p1))), [], [], false⟩ := by
  refine FnOk.intro (E := env) envOk wide func115 rfl (by kernel_rfl) rfl rfl ?_
  refine litE (m := 0) rfl ?_
  refine litE (m := 1) rfl ?_
  refine And.intro (fun (h1 : (p0.Trace != p1.Trace) = true) => ?_) (fun (h1 : (p0.Trace != p1.Trace) = false) => ?_)
  · refine And.intro (fun _ => .v _) ?_
    have hg : laws_eqSpan p0 p1 = false := by
      first | rfl | (simp only [laws_eqSpan, h1, cond_true, cond_false, Step.fin_stop, Step.fin_done, Fin.get_fin, Fin.get_done, Step.fin_next, Bool.not_true, Bool.not_false, Option.getD_some]; done) | (simp [laws_eqSpan, h1, cond_true, cond_false, Step.fin_stop, Step.fin_done, Fin.get_fin, Fin.get_done, Step.fin_next, Bool.not_true, Bool.not_false, Option.getD_some]; done) | (exfalso; simp_all; done)
    exact congrArg (fun g : Bool => AV.one (.v (.bool g))) hg.symm
  · refine And.intro (fun (h2 : (p0.Id != p1.Id) = true) => ?_) (fun (h2 : (p0.Id != p1.Id) = false) => ?_)
    · refine And.intro (fun _ => .v _) ?_
      have hg : laws_eqSpan p0 p1 = false := by
        first | rfl | (simp only [laws_eqSpan, h1, h2, cond_true, cond_false, Step.fin_stop, Step.fin_done, Fin.get_fin, Fin.get_done, Step.fin_next, Bool.not_true, Bool.not_false, Option.getD_some]; done) | (simp [laws_eqSpan, h1, h2, cond_true, cond_false, Step.fin_stop, Step.fin_done, Fin.get_fin, Fin.get_done, Step.fin_next, Bool.not_true, Bool.not_false, Option.getD_some]; done) | (exfalso; simp_all; done)
      exact congrArg (fun g : Bool => AV.one (.v (.bool g))) hg.symm
    · refine And.intro (fun (h3 : (p0.Start != p1.Start) = true) => ?_) (fun (h3 : (p0.Start != p1.Start) = false) => ?_)
      · refine And.intro (fun _ => .v _) ?_
        have hg : laws_eqSpan p0 p1 = false := by
          first | rfl | (simp only [laws_eqSpan, h1, h2, h3, cond_true, cond_false, Step.fin_stop, Step.fin_done, Fin.get_fin, Fin.get_done, Step.fin_next, Bool.not_true, Bool.not_false, Option.getD_some]; done) | (simp [laws_eqSpan, h1, h2, h3, cond_true, cond_false, Step.fin_stop, Step.fin_done, Fin.get_fin, Fin.get_done, Step.fin_next, Bool.not_true, Bool.not_false, Option.getD_some]; done) | (exfalso; simp_all; done)
        exact congrArg (fun g : Bool => AV.one (.v (.bool g))) hg.symm
      · refine And.intro (fun (h4 : (p0.End != p1.End) = true) => ?_) (fun (h4 : (p0.End != p1.End) = false) => ?_)
        · refine And.intro (fun _ => .v _) ?_
          have hg : laws_eqSpan p0 p1 = false := by
            first | rfl | (simp only [laws_eqSpan, h1, h2, h3, h4, cond_true, cond_false, Step.fin_stop, Step.fin_done, Fin.get_fin, Fin.get_done, Step.fin_next, Bool.not_true, Bool.not_false, Option.getD_some]; done) | (simp [laws_eqSpan, h1, h2, h3, h4, cond_true, cond_false, Step.fin_stop, Step.fin_done, Fin.get_fin, Fin.get_done, Step.fin_next, Bool.not_true, Bool.not_false, Option.getD_some]; done) | (exfalso; simp_all; done)
          exact congrArg (fun g : Bool => AV.one (.v (.bool g))) hg.symm
        · refine And.intro (fun (h5 : (!(p0.Err == p1.Err)) = true) => ?_) (fun (h5 : (!(p0.Err == p1.Err)) = false) => ?_)
          · refine And.intro (fun _ => .v _) ?_
            have hg : laws_eqSpan p0 p1 = false := by
              first | rfl | (simp only [laws_eqSpan, h1, h2, h3, h4, h5, cond_true, cond_false, Step.fin_stop, Step.fin_done, Fin.get_fin, Fin.get_done, Step.fin_next, Bool.not_true, Bool.not_false, Option.getD_some]; done) | (simp [laws_eqSpan, h1, h2, h3, h4, h5, cond_true, cond_false, Step.fin_stop, Step.fin_done, Fin.get_fin, Fin.get_done, Step.fin_next, Bool.not_true, Bool.not_false, Option.getD_some]; done) | (exfalso; simp_all; done)
            exact congrArg (fun g : Bool => AV.one (.v (.bool g))) hg.symm
          · refine ⟨_, _, c_laws_eqAttrS p0.Attrs p1.Attrs, (FzAs.same _), ?_⟩
            refine litE (m := 3) rfl ?_
            refine And.intro (fun (h6 : (!(laws_eqAttrS p0.Attrs p1.Attrs)) = true) => ?_) (fun (h6 : (!(laws_eqAttrS p0.Attrs p1.Attrs)) = false) => ?_)
            · refine And.intro (fun _ => .v _) ?_
              have hg : laws_eqSpan p0 p1 = false := by
                first | rfl | (simp only [laws_eqSpan, h1, h2, h3, h4, h5, h6, cond_true, cond_false, Step.fin_stop, Step.fin_done, Fin.get_fin, Fin.get_done, Step.fin_next, Bool.not_true, Bool.not_false, Option.getD_some]; done) | (simp [laws_eqSpan, h1, h2, h3, h4, h5, h6, cond_true, cond_false, Step.fin_stop, Step.fin_done, Fin.get_fin, Fin.get_done, Step.fin_next, Bool.not_true, Bool.not_false, Option.getD_some]; done) | (exfalso; simp_all; done)
              exact congrArg (fun g : Bool => AV.one (.v (.bool g))) hg.symm
            · refine And.intro (fun _ => .v _) ?_
              have hg : laws_eqSpan p0 p1 = true := by
                first | rfl | (simp only [laws_eqSpan, h1, h2, h3, h4, h5, h6, cond_true, cond_false, Step.fin_stop, Step.fin_done, Fin.get_fin, Fin.get_done, Step.fin_next, Bool.not_true, Bool.not_false, Option.getD_some]; done) | (simp [laws_eqSpan, h1, h2, h3, h4, h5, h6, cond_true, cond_false, Step.fin_stop, Step.fin_done, Fin.get_fin, Fin.get_done, Step.fin_next, Bool.not_true, Bool.not_false, Option.getD_some]; done) | (exfalso; simp_all; done)
              exact congrArg (fun g : Bool => AV.one (.v (.bool g))) hg.symm
theorem rf_laws_eqSpan (x : Span) : laws_eqSpan x x = true := by
  simp [laws_eqSpan, rf_laws_eqAttrS]
def laws_eqSpanS_b1 (p1 : (List Span)) (i1 : Nat) (s1 : Unit) (a1 : Span) : Step (Unit) Bool :=
  (bif (!(laws_eqSpan a1 (p1[i1]?.getD default))) then (.done false) else (.next ()))
def laws_eqSpanS (p0 : (List Span)) (p1 : (List Span)) : Bool :=
  (bif ((((p0).length : Nat) : Int) != (((p1).length : Nat) : Int)) then false else (Fin.get (fun s1 => true) (loopL (laws_eqSpanS_b1 p1) 0 () p0)))
theorem c_laws_eqSpanS (p0 : (List Span)) (p1 : (List Span)) : FnOk prog 44 [.one (.s false 6 (List.map (Span.cells false) p0)), .one (.s false 6 (List.map (Span.cells false) p1))] ⟨.one (.v (.bool (laws_eqSpanS p0 p1))), [], [], false⟩ := by
  refine FnOk.intro (E := env) envOk wide func44 rfl (by kernel_rfl) rfl rfl ?_
  refine lenE (k := (p0).length) (by simp) (fun hN1 => ?_)
  refine lenE (k := (p1).length) (by simp) (fun hN2 => ?_)
  refine And.intro (fun (h3 : ((((p0).length : Nat) : Int) != (((p1).length : Nat) : Int)) = true) => ?_) (fun (h3 : ((((p0).length : Nat) : Int) != (((p1).length : Nat) : Int)) = false) => ?_)
  · refine And.intro (fun _ => .v _) ?_
    have hg : laws_eqSpanS p0 p1 = false := by
      first | rfl | (simp only [laws_eqSpanS, h3, cond_true, cond_false, Step.fin_stop, Step.fin_done, Fin.get_fin, Fin.get_done, Step.fin_next, Bool.not_true, Bool.not_false, Option.getD_some]; done) | (simp [laws_eqSpanS, h3, cond_true, cond_false, Step.fin_stop, Step.fin_done, Fin.get_fin, Fin.get_done, Step.fin_next, Bool.not_true, Bool.not_false, Option.getD_some]; done) | (exfalso; simp_all; done)
    exact congrArg (fun g : Bool => AV.one (.v (.bool g))) hg.symm
  · refine loop_rule (α := LstSt (laws_eqSpanS_b1 p1) () p0) [0, 1] (fun x1 => [(5, .one (.v (.int .i64 ((x1.i : Nat) : Int))))]) (fun x1 => []) (fun x1 => (p0).length - x1.i) .init [] ?_ (fun x1 => ?_)
    · exact ⟨rfl, ⟨rfl, rfl, rfl, trivial⟩, trivial, trivial⟩
    · refine lenE (k := (p0).length) (by simp) (fun hN4 => ?_)
      refine And.intro (fun (h5 : (decide (((x1.i : Nat) : Int) < (((p0).length : Nat) : Int))) = true) => ?_) (fun (h5 : (decide (((x1.i : Nat) : Int) < (((p0).length : Nat) : Int))) = false) => ?_)
      · have hi1 : x1.i < (p0).length := by simpa using h5
        have hw1 : IntKind.i64.wrap ((x1.i : Int) + 1) = ((x1.i + 1 : Nat) : Int) := wrap_succ hi1 (by first | assumption | omega)
        refine .inl ⟨by kernel_rfl, ?_⟩
        refine And.intro (fun _ => by exact idx_at hi1) (rowAtE (i := x1.i) (l := p0) rfl hi1 ?_)
        refine And.intro (fun _ => by (first | omega | (simp; done) | (simp; omega) | (simp at *; omega) | (simp at *; done) | (simp_all; done) | (simp_all; omega))) (rowOfE (i := x1.i) (l := p1) rfl (fun e6 he6 => ?_))
        refine ⟨_, _, c_laws_eqSpan (p0[x1.i]'hi1) e6, (FzAs.same _), ?_⟩
        refine And.intro (fun (h7 : (!(laws_eqSpan (p0[x1.i]'hi1) e6)) = true) => ?_) (fun (h7 : (!(laws_eqSpan (p0[x1.i]'hi1) e6)) = false) => ?_)
        · have hb1 := x1.out hi1 (by first | rfl | (simp only [laws_eqSpanS_b1, h3, h5, he6, h7, cond_true, cond_false, Bool.not_true, Bool.not_false, Option.getD_some, Step.isNext_stop, Step.isNext_done, Step.fin_stop, Step.fin_done, Fin.get_fin, Fin.get_done]; done) | (exfalso; simp_all; done))
          refine And.intro (fun _ => .v _) ?_
          have hg : laws_eqSpanS p0 p1 = false := by
            first | rfl | (simp only [laws_eqSpanS, laws_eqSpanS_b1, h3, h5, he6, h7, hb1, cond_true, cond_false, Step.fin_stop, Step.fin_done, Fin.get_fin, Fin.get_done, Step.fin_next, Bool.not_true, Bool.not_false, Option.getD_some]; done) | (simp [laws_eqSpanS, laws_eqSpanS_b1, h3, h5, he6, h7, hb1, cond_true, cond_false, Step.fin_stop, Step.fin_done, Fin.get_fin, Fin.get_done, Step.fin_next, Bool.not_true, Bool.not_false, Option.getD_some]; done) | (exfalso; simp_all; done)
          exact congrArg (fun g : Bool => AV.one (.v (.bool g))) hg.symm
        · refine x1.go hi1 (v := ()) (by first | rfl | (simp only [laws_eqSpanS_b1, h3, h5, he6, h7, cond_true, cond_false, Bool.not_true, Bool.not_false, Option.getD_some, Step.fin_stop, Step.fin_done, Fin.get_fin, Fin.get_done]; done) | (exfalso; simp_all; done)) [] (by show _ - (x1.i + 1) < _ - x1.i; omega) ?_
          exact ⟨rfl, ⟨(eqInt hw1), rfl, rfl, trivial⟩, trivial, trivial⟩
      · have hf1 := x1.fin (show ¬ x1.i < (p0).length by simpa using h5)
        refine And.intro (fun _ => .v _) ?_
        have hg : laws_eqSpanS p0 p1 = true := by
          first | rfl | (simp only [laws_eqSpanS, laws_eqSpanS_b1, h3, h5, hf1, cond_true, cond_false, Step.fin_stop, Step.fin_done, Fin.get_fin, Fin.get_done, Step.fin_next, Bool.not_true, Bool.not_false, Option.getD_some]; done) | (simp [laws_eqSpanS, laws_eqSpanS_b1, h3, h5, hf1, cond_true, cond_false, Step.fin_stop, Step.fin_done, Fin.get_fin, Fin.get_done, Step.fin_next, Bool.not_true, Bool.not_false, Option.getD_some]; done) | (exfalso; simp_all; done)
        exact congrArg (fun g : Bool => AV.one (.v (.bool g))) hg.symm
theorem rf_laws_eqSpanS (x : (List Span)) : laws_eqSpanS x x = true := eqS_ok (b := laws_eqSpanS_b1) rf_laws_eqSpan (fun _ _ _ _ => rfl) (fun _ _ => rfl) x
def laws_eqTrail (p0 : Trail) (p1 : Trail) : Bool :=
  (bif (p0.Id != p1.Id) then false else (bif (p0.Stamp != p1.Stamp) then false else (bif (p0.First != p1.First) then false else (bif (!(laws_eqSpanS p0.Spans p1.Spans)) then false else true))))
theorem c_laws_eqTrail (p0 : Trail) (p1 : Trail) : FnOk prog 170 [.agg ((Trail.cells false) p0), .agg ((Trail.cells false) p1)] ⟨.one (.v (.bool (laws_eqTrail p0 p1))), [], [], false⟩ := by
  refine FnOk.intro (E := env) envOk wide func170 rfl (by kernel_rfl) rfl rfl ?_
  refine litE (m := 0) rfl ?_
  refine litE (m := 1) rfl ?_
  refine And.intro (fun (h1 : (p0.Id != p1.Id) = true) => ?_) (fun (h1 : (p0.Id != p1.Id) = false) => ?_)
  · refine And.intro (fun _ => .v _) ?_
    have hg : laws_eqTrail p0 p1 = false := by
      first | rfl | (simp only [laws_eqTrail, h1, cond_true, cond_false, Step.fin_stop, Step.fin_done, Fin.get_fin, Fin.get_done, Step.fin_next, Bool.not_true, Bool.not_false, Option.getD_some]; done) | (simp [laws_eqTrail, h1, cond_true, cond_false, Step.fin_stop, Step.fin_done, Fin.get_fin, Fin.get_done, Step.fin_next, Bool.not_true, Bool.not_false, Option.getD_some]; done) | (exfalso; simp_all; done)
    exact congrArg (fun g : Bool => AV.one (.v (.bool g))) hg.symm
  · refine And.intro (fun (h2 : (p0.Stamp != p1.Stamp) = true) => ?_) (fun (h2 : (p0.Stamp != p1.Stamp) = false) => ?_)
    · refine And.intro (fun _ => .v _) ?_
      have hg : laws_eqTrail p0 p1 = false := by
        first | rfl | (simp only [laws_eqTrail, h1, h2, cond_true, cond_false, Step.fin_stop, Step.fin_done, Fin.get_fin, Fin.get_done, Step.fin_next, Bool.not_true, Bool.not_false, Option.getD_some]; done) | (simp [laws_eqTrail, h1, h2, cond_true, cond_false, Step.fin_stop, Step.fin_done, Fin.get_fin, Fin.get_done, Step.fin_next, Bool.not_true, Bool.not_false, Option.getD_some]; done) | (exfalso; simp_all; done)
      exact congrArg (fun g : Bool => AV.one (.v (.bool g))) hg.symm
    · refine And.intro (fun (h3 : (p0.First != p1.First) = true) => ?_) (fun (h3 : (p0.First != p1.First) = false) => ?_)
      · refine And.intro (fun _ => .v _) ?_
        have hg : laws_eqTrail p0 p1 = false := by
          first | rfl | (simp only [laws_eqTrail, h1, h2, h3, cond_true, cond_false, Step.fin_stop, Step.fin_done, Fin.get_fin, Fin.get_done, Step.fin_next, Bool.not_true, Bool.not_false, Option.getD_some]; done) | (simp [laws_eqTrail, h1, h2, h3, cond_true, cond_false, Step.fin_stop, Step.fin_done, Fin.get_fin, Fin.get_done, Step.fin_next, Bool.not_true, Bool.not_false, Option.getD_some]; done) | (exfalso; simp_all; done)
        exact congrArg (fun g : Bool => AV.one (.v (.bool g))) hg.symm
      · refine ⟨_, _, c_laws_eqSpanS p0.Spans p1.Spans, (FzAs.same _), ?_⟩
        refine litE (m := 3) rfl ?_
        refine And.intro (fun (h4 : (!(laws_eqSpanS p0.Spans p1.Spans)) = true) => ?_) (fun (h4 : (!(laws_eqSpanS p0.Spans p1.Spans)) = false) => ?_)
        · refine And.intro (fun _ => .v _) ?_
          have hg : laws_eqTrail p0 p1 = false := by
            first | rfl | (simp only [laws_eqTrail, h1, h2, h3, h4, cond_true, cond_false, Step.fin_stop, Step.fin_done, Fin.get_fin, Fin.get_done, Step.fin_next, Bool.not_true, Bool.not_false, Option.getD_some]; done) | (simp [laws_eqTrail, h1, h2, h3, h4, cond_true, cond_false, Step.fin_stop, Step.fin_done, Fin.get_fin, Fin.get_done, Step.fin_next, Bool.not_true, Bool.not_false, Option.getD_some]; done) | (exfalso; simp_all; done)
          exact congrArg (fun g : Bool => AV.one (.v (.bool g))) hg.symm
        · refine And.intro (fun _ => .v _) ?_
          have hg : laws_eqTrail p0 p1 = true := by
            first | rfl | (simp only [laws_eqTrail, h1, h2, h3, h4, cond_true, cond_false, Step.fin_stop, Step.fin_done, Fin.get_fin, Fin.get_done, Step.fin_next, Bool.not_true, Bool.not_false, Option.getD_some]; done) | (simp [laws_eqTrail, h1, h2, h3, h4, cond_true, cond_false, Step.fin_stop, Step.fin_done, Fin.get_fin, Fin.get_done, Step.fin_next, Bool.not_true, Bool.not_false, Option.getD_some]; done) | (exfalso; simp_all; done)
          exact congrArg (fun g : Bool => AV.one (.v (.bool g))) hg.symm
theorem rf_laws_eqTrail (x : Trail) : laws_eqTrail x x = true := by
  simp [laws_eqTrail, rf_laws_eqSpanS]
def laws_eqTrailS_b1 (p1 : (List Trail)) (i1 : Nat) (s1 : Unit) (a1 : Trail) : Step (Unit) Bool :=
  (bif (!(laws_eqTrail a1 (p1[i1]?.getD default))) then (.done false) else (.next ()))
def laws_eqTrailS (p0 : (List Trail)) (p1 : (List Trail)) : Bool :=
  (bif ((((p0).length : Nat) : Int) != (((p1).length : Nat) : Int)) then false else (Fin.get (fun s1 => true) (loopL (laws_eqTrailS_b1 p1) 0 () p0)))
theorem c_laws_eqTrailS (p0 : (List Trail)) (p1 : (List Trail)) : FnOk prog 101 [.one (.s false 4 (List.map (Trail.cells false) p0)), .one (.s false 4 (List.map (Trail.cells false) p1))] ⟨.one (.v (.bool (laws_eqTrailS p0 p1))), [], [], false⟩ := by
  refine FnOk.intro (E := env) envOk wide func101 rfl (by kernel_rfl) rfl rfl ?_
  refine lenE (k := (p0).length) (by simp) (fun hN1 => ?_)
  refine lenE (k := (p1).length) (by simp) (fun hN2 => ?_)
  refine And.intro (fun (h3 : ((((p0).length : Nat) : Int) != (((p1).length : Nat) : Int)) = true) => ?_) (fun (h3 : ((((p0).length : Nat) : Int) != (((p1).length : Nat) : Int)) = false) => ?_)
  · refine And.intro (fun _ => .v _) ?_
    have hg : laws_eqTrailS p0 p1 = false := by
      first | rfl | (simp only [laws_eqTrailS, h3, cond_true, cond_false, Step.fin_stop, Step.fin_done, Fin.get_fin, Fin.get_done, Step.fin_next, Bool.not_true, Bool.not_false, Option.getD_some]; done) | (simp [laws_eqTrailS, h3, cond_true, cond_false, Step.fin_stop, Step.fin_done, Fin.get_fin, Fin.get_done, Step.fin_next, Bool.not_true, Bool.not_false, Option.getD_some]; done) | (exfalso; simp_all; done)
    exact congrArg (fun g : Bool => AV.one (.v (.bool g))) hg.symm
  · refine loop_rule (α := LstSt (laws_eqTrailS_b1 p1) () p0) [0, 1] (fun x1 => [(5, .one (.v (.int .i64 ((x1.i : Nat) : Int))))]) (fun x1 => []) (fun x1 => (p0).length - x1.i) .init [] ?_ (fun x1 => ?_)
    · exact ⟨rfl, ⟨rfl, rfl, rfl, trivial⟩, trivial, trivial⟩
    · refine lenE (k := (p0).length) (by simp) (fun hN4 => ?_)
      refine And.intro (fun (h5 : (decide (((x1.i : Nat) : Int) < (((p0).length : Nat) : Int))) = true) => ?_) (fun (h5 : (decide (((x1.i : Nat) : Int) < (((p0).length : Nat) : Int))) = false) => ?_)
      · have hi1 : x1.i < (p0).length := by simpa using h5
        have hw1 : IntKind.i64.wrap ((x1.i : Int) + 1) = ((x1.i + 1 : Nat) : Int) := wrap_succ hi1 (by first | assumption | omega)
        refine .inl ⟨by kernel_rfl, ?_⟩
        refine And.intro (fun _ => by exact idx_at hi1) (rowAtE (i := x1.i) (l := p0) rfl hi1 ?_)
        refine And.intro (fun _ => by (first | omega | (simp; done) | (simp; omega) | (simp at *; omega) | (simp at *; done) | (simp_all; done) | (simp_all; omega))) (rowOfE (i := x1.i) (l := p1) rfl (fun e6 he6 => ?_))
        refine ⟨_, _, c_laws_eqTrail (p0[x1.i]'hi1) e6, (FzAs.same _), ?_⟩
        refine And.intro (fun (h7 : (!(laws_eqTrail (p0[x1.i]'hi1) e6)) = true) => ?_) (fun (h7 : (!(laws_eqTrail (p0[x1.i]'hi1) e6)) = false) => ?_)
        · have hb1 := x1.out hi1 (by first | rfl | (simp only [laws_eqTrailS_b1, h3, h5, he6, h7, cond_true, cond_false, Bool.not_true, Bool.not_false, Option.getD_some, Step.isNext_stop, Step.isNext_done, Step.fin_stop, Step.fin_done, Fin.get_fin, Fin.get_done]; done) | (exfalso; simp_all; done))
          refine And.intro (fun _ => .v _) ?_
          have hg : laws_eqTrailS p0 p1 = false := by
            first | rfl | (simp only [laws_eqTrailS, laws_eqTrailS_b1, h3, h5, he6, h7, hb1, cond_true, cond_false, Step.fin_stop, Step.fin_done, Fin.get_fin, Fin.get_done, Step.fin_next, Bool.not_true, Bool.not_false, Option.getD_some]; done) | (simp [laws_eqTrailS, laws_eqTrailS_b1, h3, h5, he6, h7, hb1, cond_true, cond_false, Step.fin_stop, Step.fin_done, Fin.get_fin, Fin.get_done, Step.fin_next, Bool.not_true, Bool.not_false, Option.getD_some]; done) | (exfalso; simp_all; done)
          exact congrArg (fun g : Bool => AV.one (.v (.bool g))) hg.symm
        · refine x1.go hi1 (v := ()) (by first | rfl | (simp only [laws_eqTrailS_b1, h3, h5, he6, h7, cond_true, cond_false, Bool.not_true, Bool.not_false, Option.getD_some, Step.fin_stop, Step.fin_done, Fin.get_fin, Fin.get_done]; done) | (exfalso; simp_all; done)) [] (by show _ - (x1.i + 1) < _ - x1.i; omega) ?_
          exact ⟨rfl, ⟨(eqInt hw1), rfl, rfl, trivial⟩, trivial, trivial⟩
      · have hf1 := x1.fin (show ¬ x1.i < (p0).length by simpa using h5)
        refine And.intro (fun _ => .v _) ?_
        have hg : laws_eqTrailS p0 p1 = true := by
          first | rfl | (simp only [laws_eqTrailS, laws_eqTrailS_b1, h3, h5, hf1, cond_true, cond_false, Step.fin_stop, Step.fin_done, Fin.get_fin, Fin.get_done, Step.fin_next, Bool.not_true, Bool.not_false, Option.getD_some]; done) | (simp [laws_eqTrailS, laws_eqTrailS_b1, h3, h5, hf1, cond_true, cond_false, Step.fin_stop, Step.fin_done, Fin.get_fin, Fin.get_done, Step.fin_next, Bool.not_true, Bool.not_false, Option.getD_some]; done) | (exfalso; simp_all; done)
        exact congrArg (fun g : Bool => AV.one (.v (.bool g))) hg.symm
theorem rf_laws_eqTrailS (x : (List Trail)) : laws_eqTrailS x x = true := eqS_ok (b := laws_eqTrailS_b1) rf_laws_eqTrail (fun _ _ _ _ => rfl) (fun _ _ => rfl) x
def laws_eqVerdict (p0 : Verdict) (p1 : Verdict) : Bool :=
  (bif (p0.Trace != p1.Trace) then false else (bif (p0.Stamp != p1.Stamp) then false else (bif (!(p0.Keep == p1.Keep)) then false else true)))
theorem c_laws_eqVerdict (p0 : Verdict) (p1 : Verdict) : FnOk prog 112 [.agg (Verdict.cells p0), .agg (Verdict.cells p1)] ⟨.one (.v (.bool (laws_eqVerdict p0 p1))), [], [], false⟩ := by
  refine FnOk.intro (E := env) envOk wide func112 rfl (by kernel_rfl) rfl rfl ?_
  refine litE (m := 0) rfl ?_
  refine litE (m := 1) rfl ?_
  refine And.intro (fun (h1 : (p0.Trace != p1.Trace) = true) => ?_) (fun (h1 : (p0.Trace != p1.Trace) = false) => ?_)
  · refine And.intro (fun _ => .v _) ?_
    have hg : laws_eqVerdict p0 p1 = false := by
      first | rfl | (simp only [laws_eqVerdict, h1, cond_true, cond_false, Step.fin_stop, Step.fin_done, Fin.get_fin, Fin.get_done, Step.fin_next, Bool.not_true, Bool.not_false, Option.getD_some]; done) | (simp [laws_eqVerdict, h1, cond_true, cond_false, Step.fin_stop, Step.fin_done, Fin.get_fin, Fin.get_done, Step.fin_next, Bool.not_true, Bool.not_false, Option.getD_some]; done) | (exfalso; simp_all; done)
    exact congrArg (fun g : Bool => AV.one (.v (.bool g))) hg.symm
  · refine And.intro (fun (h2 : (p0.Stamp != p1.Stamp) = true) => ?_) (fun (h2 : (p0.Stamp != p1.Stamp) = false) => ?_)
    · refine And.intro (fun _ => .v _) ?_
      have hg : laws_eqVerdict p0 p1 = false := by
        first | rfl | (simp only [laws_eqVerdict, h1, h2, cond_true, cond_false, Step.fin_stop, Step.fin_done, Fin.get_fin, Fin.get_done, Step.fin_next, Bool.not_true, Bool.not_false, Option.getD_some]; done) | (simp [laws_eqVerdict, h1, h2, cond_true, cond_false, Step.fin_stop, Step.fin_done, Fin.get_fin, Fin.get_done, Step.fin_next, Bool.not_true, Bool.not_false, Option.getD_some]; done) | (exfalso; simp_all; done)
      exact congrArg (fun g : Bool => AV.one (.v (.bool g))) hg.symm
    · refine And.intro (fun (h3 : (!(p0.Keep == p1.Keep)) = true) => ?_) (fun (h3 : (!(p0.Keep == p1.Keep)) = false) => ?_)
      · refine And.intro (fun _ => .v _) ?_
        have hg : laws_eqVerdict p0 p1 = false := by
          first | rfl | (simp only [laws_eqVerdict, h1, h2, h3, cond_true, cond_false, Step.fin_stop, Step.fin_done, Fin.get_fin, Fin.get_done, Step.fin_next, Bool.not_true, Bool.not_false, Option.getD_some]; done) | (simp [laws_eqVerdict, h1, h2, h3, cond_true, cond_false, Step.fin_stop, Step.fin_done, Fin.get_fin, Fin.get_done, Step.fin_next, Bool.not_true, Bool.not_false, Option.getD_some]; done) | (exfalso; simp_all; done)
        exact congrArg (fun g : Bool => AV.one (.v (.bool g))) hg.symm
      · refine And.intro (fun _ => .v _) ?_
        have hg : laws_eqVerdict p0 p1 = true := by
          first | rfl | (simp only [laws_eqVerdict, h1, h2, h3, cond_true, cond_false, Step.fin_stop, Step.fin_done, Fin.get_fin, Fin.get_done, Step.fin_next, Bool.not_true, Bool.not_false, Option.getD_some]; done) | (simp [laws_eqVerdict, h1, h2, h3, cond_true, cond_false, Step.fin_stop, Step.fin_done, Fin.get_fin, Fin.get_done, Step.fin_next, Bool.not_true, Bool.not_false, Option.getD_some]; done) | (exfalso; simp_all; done)
        exact congrArg (fun g : Bool => AV.one (.v (.bool g))) hg.symm
theorem rf_laws_eqVerdict (x : Verdict) : laws_eqVerdict x x = true := by
  simp [laws_eqVerdict]
def laws_eqVerdictS_b1 (p1 : (List Verdict)) (i1 : Nat) (s1 : Unit) (a1 : Verdict) : Step (Unit) Bool :=
  (bif (!(laws_eqVerdict a1 (p1[i1]?.getD default))) then (.done false) else (.next ()))
def laws_eqVerdictS (p0 : (List Verdict)) (p1 : (List Verdict)) : Bool :=
  (bif ((((p0).length : Nat) : Int) != (((p1).length : Nat) : Int)) then false else (Fin.get (fun s1 => true) (loopL (laws_eqVerdictS_b1 p1) 0 () p0)))
theorem c_laws_eqVerdictS (p0 : (List Verdict)) (p1 : (List Verdict)) : FnOk prog 39 [.one (.s false 3 (List.map Verdict.cells p0)), .one (.s false 3 (List.map Verdict.cells p1))] ⟨.one (.v (.bool (laws_eqVerdictS p0 p1))), [], [], false⟩ := by
  refine FnOk.intro (E := env) envOk wide func39 rfl (by kernel_rfl) rfl rfl ?_
  refine lenE (k := (p0).length) (by simp) (fun hN1 => ?_)
  refine lenE (k := (p1).length) (by simp) (fun hN2 => ?_)
  refine And.intro (fun (h3 : ((((p0).length : Nat) : Int) != (((p1).length : Nat) : Int)) = true) => ?_) (fun (h3 : ((((p0).length : Nat) : Int) != (((p1).length : Nat) : Int)) = false) => ?_)
  · refine And.intro (fun _ => .v _) ?_
    have hg : laws_eqVerdictS p0 p1 = false := by
      first | rfl | (simp only [laws_eqVerdictS, h3, cond_true, cond_false, Step.fin_stop, Step.fin_done, Fin.get_fin, Fin.get_done, Step.fin_next, Bool.not_true, Bool.not_false, Option.getD_some]; done) | (simp [laws_eqVerdictS, h3, cond_true, cond_false, Step.fin_stop, Step.fin_done, Fin.get_fin, Fin.get_done, Step.fin_next, Bool.not_true, Bool.not_false, Option.getD_some]; done) | (exfalso; simp_all; done)
    exact congrArg (fun g : Bool => AV.one (.v (.bool g))) hg.symm
  · refine loop_rule (α := LstSt (laws_eqVerdictS_b1 p1) () p0) [0, 1] (fun x1 => [(5, .one (.v (.int .i64 ((x1.i : Nat) : Int))))]) (fun x1 => []) (fun x1 => (p0).length - x1.i) .init [] ?_ (fun x1 => ?_)
    · exact ⟨rfl, ⟨rfl, rfl, rfl, trivial⟩, trivial, trivial⟩
    · refine lenE (k := (p0).length) (by simp) (fun hN4 => ?_)
      refine And.intro (fun (h5 : (decide (((x1.i : Nat) : Int) < (((p0).length : Nat) : Int))) = true) => ?_) (fun (h5 : (decide (((x1.i : Nat) : Int) < (((p0).length : Nat) : Int))) = false) => ?_)
      · have hi1 : x1.i < (p0).length := by simpa using h5
        have hw1 : IntKind.i64.wrap ((x1.i : Int) + 1) = ((x1.i + 1 : Nat) : Int) := wrap_succ hi1 (by first | assumption | omega)
        refine .inl ⟨by kernel_rfl, ?_⟩
        refine And.intro (fun _ => by exact idx_at hi1) (rowAtE (i := x1.i) (l := p0) rfl hi1 ?_)
        refine And.intro (fun _ => by (first | omega | (simp; done) | (simp; omega) | (simp at *; omega) | (simp at *; done) | (simp_all; done) | (simp_all; omega))) (rowOfE (i := x1.i) (l := p1) rfl (fun e6 he6 => ?_))
        refine ⟨_, _, c_laws_eqVerdict (p0[x1.i]'hi1) e6, (FzAs.same _), ?_⟩
        refine And.intro (fun (h7 : (!(laws_eqVerdict (p0[x1.i]'hi1) e6)) = true) => ?_) (fun (h7 : (!(laws_eqVerdict (p0[x1.i]'hi1) e6)) = false) => ?_)
        · have hb1 := x1.out hi1 (by first | rfl | (simp only [laws_eqVerdictS_b1, h3, h5, he6, h7, cond_true, cond_false, Bool.not_true, Bool.not_false, Option.getD_some, Step.isNext_stop, Step.isNext_done, Step.fin_stop, Step.fin_done, Fin.get_fin, Fin.get_done]; done) | (exfalso; simp_all; done))
          refine And.intro (fun _ => .v _) ?_
          have hg : laws_eqVerdictS p0 p1 = false := by
            first | rfl | (simp only [laws_eqVerdictS, laws_eqVerdictS_b1, h3, h5, he6, h7, hb1, cond_true, cond_false, Step.fin_stop, Step.fin_done, Fin.get_fin, Fin.get_done, Step.fin_next, Bool.not_true, Bool.not_false, Option.getD_some]; done) | (simp [laws_eqVerdictS, laws_eqVerdictS_b1, h3, h5, he6, h7, hb1, cond_true, cond_false, Step.fin_stop, Step.fin_done, Fin.get_fin, Fin.get_done, Step.fin_next, Bool.not_true, Bool.not_false, Option.getD_some]; done) | (exfalso; simp_all; done)
          exact congrArg (fun g : Bool => AV.one (.v (.bool g))) hg.symm
        · refine x1.go hi1 (v := ()) (by first | rfl | (simp only [laws_eqVerdictS_b1, h3, h5, he6, h7, cond_true, cond_false, Bool.not_true, Bool.not_false, Option.getD_some, Step.fin_stop, Step.fin_done, Fin.get_fin, Fin.get_done]; done) | (exfalso; simp_all; done)) [] (by show _ - (x1.i + 1) < _ - x1.i; omega) ?_
          exact ⟨rfl, ⟨(eqInt hw1), rfl, rfl, trivial⟩, trivial, trivial⟩
      · have hf1 := x1.fin (show ¬ x1.i < (p0).length by simpa using h5)
        refine And.intro (fun _ => .v _) ?_
        have hg : laws_eqVerdictS p0 p1 = true := by
          first | rfl | (simp only [laws_eqVerdictS, laws_eqVerdictS_b1, h3, h5, hf1, cond_true, cond_false, Step.fin_stop, Step.fin_done, Fin.get_fin, Fin.get_done, Step.fin_next, Bool.not_true, Bool.not_false, Option.getD_some]; done) | (simp [laws_eqVerdictS, laws_eqVerdictS_b1, h3, h5, hf1, cond_true, cond_false, Step.fin_stop, Step.fin_done, Fin.get_fin, Fin.get_done, Step.fin_next, Bool.not_true, Bool.not_false, Option.getD_some]; done) | (exfalso; simp_all; done)
        exact congrArg (fun g : Bool => AV.one (.v (.bool g))) hg.symm
theorem rf_laws_eqVerdictS (x : (List Verdict)) : laws_eqVerdictS x x = true := eqS_ok (b := laws_eqVerdictS_b1) rf_laws_eqVerdict (fun _ _ _ _ => rfl) (fun _ _ => rfl) x
def laws_eqBucket (p0 : Bucket) (p1 : Bucket) : Bool :=
  (bif (p0.Rate != p1.Rate) then false else (bif (p0.Burst != p1.Burst) then false else (bif (p0.Tokens != p1.Tokens) then false else (bif (p0.At != p1.At) then false else true))))
theorem c_laws_eqBucket (p0 : Bucket) (p1 : Bucket) : FnOk prog 78 [.agg (Bucket.cells p0), .agg (Bucket.cells p1)] ⟨.one (.v (.bool (laws_eqBucket p0 p1))), [], [], false⟩ := by
  refine FnOk.intro (E := env) envOk wide func78 rfl (by kernel_rfl) rfl rfl ?_
  refine litE (m := 0) rfl ?_
  refine litE (m := 1) rfl ?_
  refine And.intro (fun (h1 : (p0.Rate != p1.Rate) = true) => ?_) (fun (h1 : (p0.Rate != p1.Rate) = false) => ?_)
  · refine And.intro (fun _ => .v _) ?_
    have hg : laws_eqBucket p0 p1 = false := by
      first | rfl | (simp only [laws_eqBucket, h1, cond_true, cond_false, Step.fin_stop, Step.fin_done, Fin.get_fin, Fin.get_done, Step.fin_next, Bool.not_true, Bool.not_false, Option.getD_some]; done) | (simp [laws_eqBucket, h1, cond_true, cond_false, Step.fin_stop, Step.fin_done, Fin.get_fin, Fin.get_done, Step.fin_next, Bool.not_true, Bool.not_false, Option.getD_some]; done) | (exfalso; simp_all; done)
    exact congrArg (fun g : Bool => AV.one (.v (.bool g))) hg.symm
  · refine And.intro (fun (h2 : (p0.Burst != p1.Burst) = true) => ?_) (fun (h2 : (p0.Burst != p1.Burst) = false) => ?_)
    · refine And.intro (fun _ => .v _) ?_
      have hg : laws_eqBucket p0 p1 = false := by
        first | rfl | (simp only [laws_eqBucket, h1, h2, cond_true, cond_false, Step.fin_stop, Step.fin_done, Fin.get_fin, Fin.get_done, Step.fin_next, Bool.not_true, Bool.not_false, Option.getD_some]; done) | (simp [laws_eqBucket, h1, h2, cond_true, cond_false, Step.fin_stop, Step.fin_done, Fin.get_fin, Fin.get_done, Step.fin_next, Bool.not_true, Bool.not_false, Option.getD_some]; done) | (exfalso; simp_all; done)
      exact congrArg (fun g : Bool => AV.one (.v (.bool g))) hg.symm
    · refine And.intro (fun (h3 : (p0.Tokens != p1.Tokens) = true) => ?_) (fun (h3 : (p0.Tokens != p1.Tokens) = false) => ?_)
      · refine And.intro (fun _ => .v _) ?_
        have hg : laws_eqBucket p0 p1 = false := by
          first | rfl | (simp only [laws_eqBucket, h1, h2, h3, cond_true, cond_false, Step.fin_stop, Step.fin_done, Fin.get_fin, Fin.get_done, Step.fin_next, Bool.not_true, Bool.not_false, Option.getD_some]; done) | (simp [laws_eqBucket, h1, h2, h3, cond_true, cond_false, Step.fin_stop, Step.fin_done, Fin.get_fin, Fin.get_done, Step.fin_next, Bool.not_true, Bool.not_false, Option.getD_some]; done) | (exfalso; simp_all; done)
        exact congrArg (fun g : Bool => AV.one (.v (.bool g))) hg.symm
      · refine And.intro (fun (h4 : (p0.At != p1.At) = true) => ?_) (fun (h4 : (p0.At != p1.At) = false) => ?_)
        · refine And.intro (fun _ => .v _) ?_
          have hg : laws_eqBucket p0 p1 = false := by
            first | rfl | (simp only [laws_eqBucket, h1, h2, h3, h4, cond_true, cond_false, Step.fin_stop, Step.fin_done, Fin.get_fin, Fin.get_done, Step.fin_next, Bool.not_true, Bool.not_false, Option.getD_some]; done) | (simp [laws_eqBucket, h1, h2, h3, h4, cond_true, cond_false, Step.fin_stop, Step.fin_done, Fin.get_fin, Fin.get_done, Step.fin_next, Bool.not_true, Bool.not_false, Option.getD_some]; done) | (exfalso; simp_all; done)
          exact congrArg (fun g : Bool => AV.one (.v (.bool g))) hg.symm
        · refine And.intro (fun _ => .v _) ?_
          have hg : laws_eqBucket p0 p1 = true := by
            first | rfl | (simp only [laws_eqBucket, h1, h2, h3, h4, cond_true, cond_false, Step.fin_stop, Step.fin_done, Fin.get_fin, Fin.get_done, Step.fin_next, Bool.not_true, Bool.not_false, Option.getD_some]; done) | (simp [laws_eqBucket, h1, h2, h3, h4, cond_true, cond_false, Step.fin_stop, Step.fin_done, Fin.get_fin, Fin.get_done, Step.fin_next, Bool.not_true, Bool.not_false, Option.getD_some]; done) | (exfalso; simp_all; done)
          exact congrArg (fun g : Bool => AV.one (.v (.bool g))) hg.symm
theorem rf_laws_eqBucket (x : Bucket) : laws_eqBucket x x = true := by
  simp [laws_eqBucket]
def laws_eqModel (p0 : Model) (p1 : Model) : Bool :=
  (bif (!(laws_eqConf p0.C p1.C)) then false else (bif (!(p0.Shut == p1.Shut)) then false else (bif (!(laws_eqTrailS p0.Open p1.Open)) then false else (bif (!(laws_eqVerdictS p0.Cache p1.Cache)) then false else (bif (!(laws_eqBucket p0.B p1.B)) then false else (bif (p0.Used != p1.Used) then false else true))))))
theorem c_laws_eqModel (p0 : Model) (p1 : Model) : FnOk prog 25 [.agg ((Model.cells false) p0), .agg ((Model.cells false) p1)] ⟨.one (.v (.bool (laws_eqModel p0 p1))), [], [], false⟩ := by
  refine FnOk.intro (E := env) envOk wide func25 rfl (by kernel_rfl) rfl rfl ?_
  refine litE (m := 0) rfl ?_
  refine litE (m := 1) rfl ?_
  refine ⟨_, _, c_laws_eqConf p0.C p1.C, (FzAs.same _), ?_⟩
  refine litE (m := 3) rfl ?_
  refine And.intro (fun (h1 : (!(laws_eqConf p0.C p1.C)) = true) => ?_) (fun (h1 : (!(laws_eqConf p0.C p1.C)) = false) => ?_)
  · refine And.intro (fun _ => .v _) ?_
    have hg : laws_eqModel p0 p1 = false := by
      first | rfl | (simp only [laws_eqModel, h1, cond_true, cond_false, Step.fin_stop, Step.fin_done, Fin.get_fin, Fin.get_done, Step.fin_next, Bool.not_true, Bool.not_false, Option.getD_some]; done) | (simp [laws_eqModel, h1, cond_true, cond_false, Step.fin_stop, Step.fin_done, Fin.get_fin, Fin.get_done, Step.fin_next, Bool.not_true, Bool.not_false, Option.getD_some]; done) | (exfalso; simp_all; done)
    exact congrArg (fun g : Bool => AV.one (.v (.bool g))) hg.symm
  · refine And.intro (fun (h2 : (!(p0.Shut == p1.Shut)) = true) => ?_) (fun (h2 : (!(p0.Shut == p1.Shut)) = false) => ?_)
    · refine And.intro (fun _ => .v _) ?_
      have hg : laws_eqModel p0 p1 = false := by
        first | rfl | (simp only [laws_eqModel, h1, h2, cond_true, cond_false, Step.fin_stop, Step.fin_done, Fin.get_fin, Fin.get_done, Step.fin_next, Bool.not_true, Bool.not_false, Option.getD_some]; done) | (simp [laws_eqModel, h1, h2, cond_true, cond_false, Step.fin_stop, Step.fin_done, Fin.get_fin, Fin.get_done, Step.fin_next, Bool.not_true, Bool.not_false, Option.getD_some]; done) | (exfalso; simp_all; done)
      exact congrArg (fun g : Bool => AV.one (.v (.bool g))) hg.symm
    · refine ⟨_, _, c_laws_eqTrailS p0.Open p1.Open, (FzAs.same _), ?_⟩
      refine litE (m := 4) rfl ?_
      refine And.intro (fun (h3 : (!(laws_eqTrailS p0.Open p1.Open)) = true) => ?_) (fun (h3 : (!(laws_eqTrailS p0.Open p1.Open)) = false) => ?_)
      · refine And.intro (fun _ => .v _) ?_
        have hg : laws_eqModel p0 p1 = false := by
          first | rfl | (simp only [laws_eqModel, h1, h2, h3, cond_true, cond_false, Step.fin_stop, Step.fin_done, Fin.get_fin, Fin.get_done, Step.fin_next, Bool.not_true, Bool.not_false, Option.getD_some]; done) | (simp [laws_eqModel, h1, h2, h3, cond_true, cond_false, Step.fin_stop, Step.fin_done, Fin.get_fin, Fin.get_done, Step.fin_next, Bool.not_true, Bool.not_false, Option.getD_some]; done) | (exfalso; simp_all; done)
        exact congrArg (fun g : Bool => AV.one (.v (.bool g))) hg.symm
      · refine ⟨_, _, c_laws_eqVerdictS p0.Cache p1.Cache, (FzAs.same _), ?_⟩
        refine litE (m := 5) rfl ?_
        refine And.intro (fun (h4 : (!(laws_eqVerdictS p0.Cache p1.Cache)) = true) => ?_) (fun (h4 : (!(laws_eqVerdictS p0.Cache p1.Cache)) = false) => ?_)
        · refine And.intro (fun _ => .v _) ?_
          have hg : laws_eqModel p0 p1 = false := by
            first | rfl | (simp only [laws_eqModel, h1, h2, h3, h4, cond_true, cond_false, Step.fin_stop, Step.fin_done, Fin.get_fin, Fin.get_done, Step.fin_next, Bool.not_true, Bool.not_false, Option.getD_some]; done) | (simp [laws_eqModel, h1, h2, h3, h4, cond_true, cond_false, Step.fin_stop, Step.fin_done, Fin.get_fin, Fin.get_done, Step.fin_next, Bool.not_true, Bool.not_false, Option.getD_some]; done) | (exfalso; simp_all; done)
          exact congrArg (fun g : Bool => AV.one (.v (.bool g))) hg.symm
        · refine ⟨_, _, c_laws_eqBucket p0.B p1.B, (FzAs.same _), ?_⟩
          refine litE (m := 6) rfl ?_
          refine And.intro (fun (h5 : (!(laws_eqBucket p0.B p1.B)) = true) => ?_) (fun (h5 : (!(laws_eqBucket p0.B p1.B)) = false) => ?_)
          · refine And.intro (fun _ => .v _) ?_
            have hg : laws_eqModel p0 p1 = false := by
              first | rfl | (simp only [laws_eqModel, h1, h2, h3, h4, h5, cond_true, cond_false, Step.fin_stop, Step.fin_done, Fin.get_fin, Fin.get_done, Step.fin_next, Bool.not_true, Bool.not_false, Option.getD_some]; done) | (simp [laws_eqModel, h1, h2, h3, h4, h5, cond_true, cond_false, Step.fin_stop, Step.fin_done, Fin.get_fin, Fin.get_done, Step.fin_next, Bool.not_true, Bool.not_false, Option.getD_some]; done) | (exfalso; simp_all; done)
            exact congrArg (fun g : Bool => AV.one (.v (.bool g))) hg.symm
          · refine And.intro (fun (h6 : (p0.Used != p1.Used) = true) => ?_) (fun (h6 : (p0.Used != p1.Used) = false) => ?_)
            · refine And.intro (fun _ => .v _) ?_
              have hg : laws_eqModel p0 p1 = false := by
                first | rfl | (simp only [laws_eqModel, h1, h2, h3, h4, h5, h6, cond_true, cond_false, Step.fin_stop, Step.fin_done, Fin.get_fin, Fin.get_done, Step.fin_next, Bool.not_true, Bool.not_false, Option.getD_some]; done) | (simp [laws_eqModel, h1, h2, h3, h4, h5, h6, cond_true, cond_false, Step.fin_stop, Step.fin_done, Fin.get_fin, Fin.get_done, Step.fin_next, Bool.not_true, Bool.not_false, Option.getD_some]; done) | (exfalso; simp_all; done)
              exact congrArg (fun g : Bool => AV.one (.v (.bool g))) hg.symm
            · refine And.intro (fun _ => .v _) ?_
              have hg : laws_eqModel p0 p1 = true := by
                first | rfl | (simp only [laws_eqModel, h1, h2, h3, h4, h5, h6, cond_true, cond_false, Step.fin_stop, Step.fin_done, Fin.get_fin, Fin.get_done, Step.fin_next, Bool.not_true, Bool.not_false, Option.getD_some]; done) | (simp [laws_eqModel, h1, h2, h3, h4, h5, h6, cond_true, cond_false, Step.fin_stop, Step.fin_done, Fin.get_fin, Fin.get_done, Step.fin_next, Bool.not_true, Bool.not_false, Option.getD_some]; done) | (exfalso; simp_all; done)
              exact congrArg (fun g : Bool => AV.one (.v (.bool g))) hg.symm
theorem rf_laws_eqModel (x : Model) : laws_eqModel x x = true := by
  simp [laws_eqModel, rf_laws_eqConf, rf_laws_eqTrailS, rf_laws_eqVerdictS, rf_laws_eqBucket]
def laws_FnExactModelOk (p0 : Model) : Bool :=
  (bif (decide ((laws_szModel p0 1048576) < 0)) then true else (bif (!((impl_ModelOk (laws_toModel p0)) == (spec_ModelOk (laws_toModel p0)))) then false else (bif (!(laws_eqModel (laws_toModel p0) (laws_toModel p0))) then false else true)))
theorem c_laws_FnExactModelOk (p0 : Model) (hw0 : Model.bd 9223372036854775807 p0) : FnOk prog 5 [.agg ((Model.cells false) p0)] ⟨.one (.v (.bool (laws_FnExactModelOk p0))), [], [], false⟩ := by
  refine FnOk.intro (E := env) envOk wide func5 rfl (by kernel_rfl) rfl rfl ?_
  refine litE (m := 0) rfl ?_
  refine ⟨_, _, c_laws_szModel p0 1048576, (FzAs.same _), ?_⟩
  refine litE (m := 2) rfl ?_
  refine And.intro (fun (h1 : (decide ((laws_szModel p0 1048576) < 0)) = true) => ?_) (fun (h1 : (decide ((laws_szModel p0 1048576) < 0)) = false) => ?_)
  · refine And.intro (fun _ => .v _) ?_
    have hg : laws_FnExactModelOk p0 = true := by
      first | rfl | (simp only [laws_FnExactModelOk, h1, cond_true, cond_false, Step.fin_stop, Step.fin_done, Fin.get_fin, Fin.get_done, Step.fin_next, Bool.not_true, Bool.not_false, Option.getD_some]; done) | (simp [laws_FnExactModelOk, h1, cond_true, cond_false, Step.fin_stop, Step.fin_done, Fin.get_fin, Fin.get_done, Step.fin_next, Bool.not_true, Bool.not_false, Option.getD_some]; done) | (exfalso; simp_all; done)
    exact congrArg (fun g : Bool => AV.one (.v (.bool g))) hg.symm
  · have hz1 := szd_laws_szModel p0 1048576 (by assumption) (by decide) (by decide) (by simpa using h1)
    have hs1 := hz1.1
    have hl1 : (laws_szModel p0 1048576) ≤ 1048576 := Int.le_trans hz1.2 (by decide)
    refine ⟨_, _, c_laws_toModel p0 (by first | assumption | (simp only [id_laws_toModel]; assumption)), (FzAs.same _), ?_⟩
    refine litE (m := 3) rfl ?_
    refine ⟨_, _, c_spec_ModelOk (laws_toModel p0) (by first | assumption | (simp only [id_laws_toModel]; assumption)), (.cons (.agg (.cons (.same _) (.cons (.same _) (.cons (.same _) (.cons (.same _) (.cons (.same _) (.cons (.same _) (.cons (.same _) (.cons (.same _) (.cons (.same _) (.cons (.same _) (.cons (.same _) (.cons (.sl _ _ _ _ (frzMap frz_Pol _)) (.cons (.same _) (.cons (.sl _ _ _ _ (frzMap frz_Trail _)) (.cons (.same _) (.cons (.same _) (.cons (.same _) (.cons (.same _) (.cons (.same _) (.cons (.same _) .nil))))))))))))))))))))) (.same _)), ?_⟩
    refine litE (m := 7) rfl ?_
    refine ⟨_, _, c_laws_toModel p0 (by first | assumption | (simp only [id_laws_toModel]; assumption)), (FzAs.same _), ?_⟩
    refine litE (m := 8) rfl ?_
    refine litE (m := 11) rfl ?_
    refine ⟨_, _, c_impl_ModelOk (laws_toModel p0) (by first | assumption | (simp only [id_laws_toModel]; assumption)), (.cons (.agg (.cons (.same _) (.cons (.same _) (.cons (.same _) (.cons (.same _) (.cons (.same _) (.cons (.same _) (.cons (.same _) (.cons (.same _) (.cons (.same _) (.cons (.same _) (.cons (.same _) (.cons (.sl _ _ _ _ (frzMap frz_Pol _)) (.cons (.same _) (.cons (.sl _ _ _ _ (frzMap frz_Trail _)) (.cons (.same _) (.cons (.same _) (.cons (.same _) (.cons (.same _) (.cons (.same _) (.cons (.same _) .nil))))))))))))))))))))) (.same _)), ?_⟩
    refine litE (m := 13) rfl ?_
    refine And.intro (fun (h2 : (!((impl_ModelOk (laws_toModel p0)) == (spec_ModelOk (laws_toModel p0)))) = true) => ?_) (fun (h2 : (!((impl_ModelOk (laws_toModel p0)) == (spec_ModelOk (laws_toModel p0)))) = false) => ?_)
    · refine And.intro (fun _ => .v _) ?_
      have hg : laws_FnExactModelOk p0 = false := by
        first | rfl | (simp only [laws_FnExactModelOk, h1, h2, cond_true, cond_false, Step.fin_stop, Step.fin_done, Fin.get_fin, Fin.get_done, Step.fin_next, Bool.not_true, Bool.not_false, Option.getD_some]; done) | (simp [laws_FnExactModelOk, h1, h2, cond_true, cond_false, Step.fin_stop, Step.fin_done, Fin.get_fin, Fin.get_done, Step.fin_next, Bool.not_true, Bool.not_false, Option.getD_some]; done) | (exfalso; simp_all; done)
      exact congrArg (fun g : Bool => AV.one (.v (.bool g))) hg.symm
    · refine .inr (.inl ⟨5, [(0, true), (1, true), (2, false), (3, false), (4, false)], by kernel_rfl, ?_⟩)
      refine ⟨_, _, c_laws_toModel p0 (by first | assumption | (simp only [id_laws_toModel]; assumption)), (FzAs.same _), ?_⟩
      refine litE (m := 14) rfl ?_
      refine ⟨_, _, c_laws_eqModel (laws_toModel p0) (laws_toModel p0), (.cons (.agg (.cons (.same _) (.cons (.same _) (.cons (.same _) (.cons (.same _) (.cons (.same _) (.cons (.same _) (.cons (.same _) (.cons (.same _) (.cons (.same _) (.cons (.same _) (.cons (.same _) (.cons (.sl _ _ _ _ (frzMap frz_Pol _)) (.cons (.same _) (.cons (.sl _ _ _ _ (frzMap frz_Trail _)) (.cons (.same _) (.cons (.same _) (.cons (.same _) (.cons (.same _) (.cons (.same _) (.cons (.same _) .nil))))))))))))))))))))) (.cons (.agg (.cons (.same _) (.cons (.same _) (.cons (.same _) (.cons (.same _) (.cons (.same _) (.cons (.same _) (.cons (.same _) (.cons (.same _) (.cons (.same _) (.cons (.same _) (.cons (.same _) (.cons (.sl _ _ _ _ (frzMap frz_Pol _)) (.cons (.same _) (.cons (.sl _ _ _ _ (frzMap frz_Trail _)) (.cons (.same _) (.cons (.same _) (.cons (.same _) (.cons (.same _) (.cons (.same _) (.cons (.same _) .nil))))))))))))))))))))) (.same _))), ?_⟩
      refine litE (m := 18) rfl ?_
      refine And.intro (fun (h3 : (!(laws_eqModel (laws_toModel p0) (laws_toModel p0))) = true) => ?_) (fun (h3 : (!(laws_eqModel (laws_toModel p0) (laws_toModel p0))) = false) => ?_)
      · refine And.intro (fun _ => .v _) ?_
        have hg : laws_FnExactModelOk p0 = false := by
          first | rfl | (simp only [laws_FnExactModelOk, h1, h2, h3, cond_true, cond_false, Step.fin_stop, Step.fin_done, Fin.get_fin, Fin.get_done, Step.fin_next, Bool.not_true, Bool.not_false, Option.getD_some]; done) | (simp [laws_FnExactModelOk, h1, h2, h3, cond_true, cond_false, Step.fin_stop, Step.fin_done, Fin.get_fin, Fin.get_done, Step.fin_next, Bool.not_true, Bool.not_false, Option.getD_some]; done) | (exfalso; simp_all; done)
        exact congrArg (fun g : Bool => AV.one (.v (.bool g))) hg.symm
      · refine And.intro (fun _ => .v _) ?_
        have hg : laws_FnExactModelOk p0 = true := by
          first | rfl | (simp only [laws_FnExactModelOk, h1, h2, h3, cond_true, cond_false, Step.fin_stop, Step.fin_done, Fin.get_fin, Fin.get_done, Step.fin_next, Bool.not_true, Bool.not_false, Option.getD_some]; done) | (simp [laws_FnExactModelOk, h1, h2, h3, cond_true, cond_false, Step.fin_stop, Step.fin_done, Fin.get_fin, Fin.get_done, Step.fin_next, Bool.not_true, Bool.not_false, Option.getD_some]; done) | (exfalso; simp_all; done)
        exact congrArg (fun g : Bool => AV.one (.v (.bool g))) hg.symm
theorem main_NameOk (s : ByteArray) : spec_NameOk s = impl_NameOk s := rfl
theorem main_PlainOk (s : ByteArray) : spec_PlainOk s = impl_PlainOk s := by
  have e : spec_PlainOk_b1 s = impl_PlainOk_b1 s := by
    funext i u
    unfold spec_PlainOk_b1 impl_PlainOk_b1 impl_within
    have h := (s.data.getD i 0).toNat_lt
    generalize (s.data.getD i 0).toNat = n at h ⊢
    rw [Go.Ev.wrap_small (n := (n : Int)) (by omega) (by omega)]
    by_cases h1 : (n : Int) < 32
    · have h2 : ¬ (n : Int) ≥ 32 := by omega
      simp [h1, h2]
    · have h2 : (n : Int) ≥ 32 := by omega
      by_cases h3 : (n : Int) > 126
      · have h4 : ¬ (n : Int) ≤ 126 := by omega
        simp [h1, h2, h3, h4]
      · have h4 : (n : Int) ≤ 126 := by omega
        simp [h1, h2, h3, h4]
  unfold spec_PlainOk impl_PlainOk
  rw [e]
theorem main_AttrOk (a : Attr) : spec_AttrOk a = impl_AttrOk a := by
  unfold spec_AttrOk impl_AttrOk
  rw [main_NameOk, main_PlainOk, show spec_l1In a.N 0 2147483647 = impl_within a.N 0 2147483647 from rfl]
  cases impl_NameOk a.Key <;> cases a.Num <;> cases (a.N == 0) <;> cases impl_PlainOk a.Text <;> rfl
theorem main_AttrsOk (l : List Attr) : spec_AttrsOk l = impl_AttrsOk l := by
  unfold spec_AttrsOk impl_AttrsOk
  rw [show spec_AttrsOk_b1 l = impl_AttrsOk_b1 l from by funext i s a; unfold spec_AttrsOk_b1 impl_AttrsOk_b1; rw [main_AttrOk]]
theorem main_SizeOf (s : Span) : spec_SizeOf s = impl_SizeOf s := by
  rfl
theorem main_SpanOk (s : Span) : spec_SpanOk s = impl_SpanOk s := by
  unfold spec_SpanOk impl_SpanOk
  rw [main_AttrsOk, main_SizeOf, show spec_l1In s.Trace 1 999 = impl_within s.Trace 1 999 from rfl, show spec_l1In s.Id 1 999 = impl_within s.Id 1 999 from rfl]
  have e : (bif spec_l1In s.Start 0 99999 then spec_l1In s.End s.Start 99999 else false) = (bif impl_within s.End 0 99999 then impl_within s.Start 0 s.End else false) := by
    unfold spec_l1In impl_within
    rw [Bool.eq_iff_iff]
    simp only [Bool.cond_eq_ite]
    repeat' split
    all_goals simp_all
    all_goals omega
  cases impl_within s.Trace 1 999 <;> cases impl_within s.Id 1 999 <;> simp only [cond_true, cond_false]
  revert e
  cases spec_l1In s.Start 0 99999 <;> cases spec_l1In s.End s.Start 99999 <;> cases impl_within s.End 0 99999 <;> cases impl_within s.Start 0 s.End <;> simp
theorem main_AttrSize (a : Attr) : spec_AttrSize a = impl_AttrSize a := rfl
theorem main_TotalOf (l : List Span) : spec_TotalOf l = impl_TotalOf l := by
  have e : spec_TotalOf_b1 = impl_TotalOf_b1 := by
    funext i s a
    unfold spec_TotalOf_b1 impl_TotalOf_b1
    rw [main_SizeOf]
  unfold spec_TotalOf impl_TotalOf
  rw [e]
theorem main_BytesOf (t : Trail) : spec_BytesOf t = impl_BytesOf t := main_TotalOf t.Spans
theorem main_TrailOk (t : Trail) : spec_TrailOk t = impl_TrailOk t := by
  have e : spec_TrailOk_b1 t = impl_TrailOk_b1 t := by
    funext i s a
    unfold spec_TrailOk_b1 impl_TrailOk_b1
    rw [main_SpanOk]
  unfold spec_TrailOk impl_TrailOk
  rw [e]
  rfl
theorem first_loop {α ρ : Type} {p : α → Bool} {r : Nat → ρ} {b : Nat → Unit → α → Step Unit ρ} (hb : ∀ i s a, b i s a = bif p a then .done (r i) else .next ()) : ∀ (l : List α) (i : Nat), loopL b i () l = match l.findIdx? p with | some j => .done (r (i + j)) | none => .fin ()
  | [], i => rfl
  | a :: l, i => by
    unfold loopL
    rw [hb, List.findIdx?_cons]
    cases p a with
    | true => rfl
    | false =>
      simp only [cond_false, Bool.false_eq_true, if_false]
      rw [first_loop hb l (i + 1)]
      cases l.findIdx? p with
      | none => rfl
      | some j => simp only [Option.map_some]; congr 2; omega
theorem main_l11Has (l : List Int) (x : Int) : spec_l11Has l x = slices_Contains_99 l x := by
  unfold spec_l11Has slices_Contains_99 slices_Index_168
  rw [first_loop (p := fun a => a == x) (r := fun _ => true) (b := spec_l11Has_b1 x) (fun _ _ _ => rfl), first_loop (p := fun a => x == a) (r := fun i => ((i : Nat) : Int)) (b := slices_Index_168_b1 x) (fun _ _ _ => rfl)]
  rw [show (fun a : Int => x == a) = (fun a => a == x) from by funext a; exact BEq.comm]
  cases List.findIdx? (fun a => a == x) l with
  | none => rfl
  | some j => simp [Fin.get]
theorem some_loopC {ρ : Type} {p : Nat → Bool} {r : ρ} {b : Nat → Unit → Step Unit ρ} (hb : ∀ i s, b i s = bif p i then .done r else .next ()) : ∀ (n i : Nat), ((∃ k, k < n ∧ p (i + k) = true) ∧ loopC b i () n = .done r) ∨ ((∀ k, k < n → p (i + k) = false) ∧ loopC b i () n = .fin ())
  | 0, i => .inr ⟨fun k hk => absurd hk (by omega), rfl⟩
  | n + 1, i => by
    cases hp : p i with
    | true =>
      refine .inl ⟨⟨0, by omega, hp⟩, ?_⟩
      unfold loopC
      rw [hb, hp]
      rfl
    | false =>
      have hs : loopC b i () (n + 1) = loopC b (i + 1) () n := by
        conv => lhs; unfold loopC
        rw [hb, hp]
        rfl
      rw [hs]
      rcases some_loopC hb n (i + 1) with ⟨⟨k, hk, h⟩, e⟩ | ⟨h, e⟩
      · exact .inl ⟨⟨k + 1, by omega, by rw [← h]; congr 1; omega⟩, e⟩
      · refine .inr ⟨fun k hk => ?_, e⟩
        cases k with
        | zero => exact hp
        | succ k => rw [← h k (by omega)]; congr 1; omega
theorem loopL_at {α σ ρ : Type} {f g : Nat → σ → α → Step σ ρ} : ∀ (l : List α) (i : Nat) (s : σ), (∀ k (hk : k < l.length) s, f (i + k) s l[k] = g (i + k) s l[k]) → loopL f i s l = loopL g i s l
  | [], i, s, _ => rfl
  | a :: l, i, s, h => by
    unfold loopL
    rw [show f i s a = g i s a from h 0 (by simp) s]
    cases g i s a with
    | next s' =>
      refine loopL_at l (i + 1) s' (fun k hk s => ?_)
      have := h (k + 1) (by simpa using hk) s
      rw [show i + (k + 1) = i + 1 + k by omega] at this
      simpa using this
    | _ => rfl
theorem main_CacheOk (l : List Verdict) (m : Int) : spec_CacheOk l m = impl_CacheOk l m := by
  unfold spec_CacheOk impl_CacheOk
  rw [loopL_at (f := spec_CacheOk_b1 l) (g := impl_CacheOk_b1 l) l 0 ()]
  intro i hi s
  rw [Nat.zero_add]
  unfold spec_CacheOk_b1 impl_CacheOk_b1 impl_verdictAt slices_IndexFunc_196_c197
  rw [show spec_l1In l[i].Trace 1 999 = impl_within l[i].Trace 1 999 from rfl]
  cases impl_within l[i].Trace 1 999 with
  | false => rfl
  | true =>
    cases decide (l[i].Stamp < 1) with
    | true => rfl
    | false =>
      simp only [Bool.not_true, cond_false]
      rw [first_loop (p := fun a : Verdict => a.Trace == l[i].Trace) (r := fun i => ((i : Nat) : Int)) (b := slices_IndexFunc_196_c197_b1 l[i].Trace) (fun _ _ _ => rfl)]
      cases hf : l.findIdx? (fun a : Verdict => a.Trace == l[i].Trace) with
      | none =>
        rw [List.findIdx?_eq_none_iff] at hf
        have := hf l[i] (List.getElem_mem hi)
        simp at this
      | some j =>
        rw [List.findIdx?_eq_some_iff_getElem] at hf
        obtain ⟨hj, h1, h2⟩ := hf
        rcases some_loopC (p := fun k => (l[k]?.getD default).Trace == l[i].Trace) (r := (Step.done false : Step Unit Bool)) (b := spec_CacheOk_b2 l l[i]) (fun _ _ => rfl) i 0 with ⟨⟨k, hk, e⟩, h⟩ | ⟨e, h⟩
        · rw [h]
          have hne : j ≠ i := by
            intro hji
            rw [Nat.zero_add, List.getElem?_eq_getElem (by omega), Option.getD_some] at e
            exact h2 k (by omega) e
          have hb : ((((0 + j : Nat) : Nat) : Int) != ((i : Nat) : Int)) = true := by simp; omega
          simp only [Fin.get]
          rw [hb]
          rfl
        · rw [h]
          have he : j = i := by
            rcases Nat.lt_trichotomy j i with h | h | h
            · have := e j h
              rw [Nat.zero_add, List.getElem?_eq_getElem hj, Option.getD_some] at this
              rw [this] at h1
              cases h1
            · exact h
            · have := h2 i h
              simp at this
          have hb : ((((0 + j : Nat) : Nat) : Int) != ((i : Nat) : Int)) = false := by simp; omega
          simp only [Fin.get]
          rw [hb]
          rfl
theorem main_polHead (p : Pol) : spec_l5One p = impl_polHeadOk p := by
  unfold spec_l5One impl_polHeadOk
  rw [main_NameOk, main_PlainOk, show spec_l1In p.N 0 2147483647 = impl_within p.N 0 2147483647 from rfl, show spec_l1In ((p.L.length : Nat) : Int) 1 4 = impl_within ((p.L.length : Nat) : Int) 1 4 from rfl]
  generalize (p.N == 0) = a
  generalize decide (p.Key = ByteArray.mk #[]) = b
  generalize decide (p.Text = ByteArray.mk #[]) = c
  generalize impl_within p.N 0 2147483647 = d
  generalize impl_NameOk p.Key = e
  generalize impl_PlainOk p.Text = f
  generalize (((p.L.length : Nat) : Int) == 0) = g
  generalize impl_within ((p.L.length : Nat) : Int) 1 4 = h
  generalize (((p.L.length : Nat) : Int) == 1) = k
  by_cases h1 : p.Kind = 1
  · simp only [h1]; revert a b c d e f g h k; decide
  by_cases h2 : p.Kind = 2
  · simp only [h2]; revert a b c d e f g h k; decide
  by_cases h3 : p.Kind = 3
  · simp only [h3]; revert a b c d e f g h k; decide
  by_cases h4 : p.Kind = 4
  · simp only [h4]; revert a b c d e f g h k; decide
  by_cases h5 : p.Kind = 5
  · simp only [h5]; revert a b c d e f g h k; decide
  by_cases h6 : p.Kind = 6
  · simp only [h6]; revert a b c d e f g h k; decide
  by_cases h7 : p.Kind = 7
  · simp only [h7]; revert a b c d e f g h k; decide
  by_cases h8 : p.Kind = 8
  · simp only [h8]; revert a b c d e f g h k; decide
  by_cases h9 : p.Kind = 9
  · simp only [h9]; revert a b c d e f g h k; decide
  have g1 : (p.Kind == 1) = false := by simpa using h1
  have g2 : (p.Kind == 2) = false := by simpa using h2
  have g3 : (p.Kind == 3) = false := by simpa using h3
  have g4 : (p.Kind == 4) = false := by simpa using h4
  have g5 : (p.Kind == 5) = false := by simpa using h5
  have g6 : (p.Kind == 6) = false := by simpa using h6
  have g7 : (p.Kind == 7) = false := by simpa using h7
  have g8 : (p.Kind == 8) = false := by simpa using h8
  have g9 : (p.Kind == 9) = false := by simpa using h9
  simp only [g1, g2, g3, g4, g5, g6, g7, g8, g9, cond_false]
  revert a b c; decide
theorem polHead_len {p : Pol} (h : impl_polHeadOk p = true) : p.L.length ≤ 4 := by
  rcases Nat.lt_or_ge 4 p.L.length with hl | hl
  · exfalso
    unfold impl_polHeadOk at h
    rw [show impl_within ((p.L.length : Nat) : Int) 1 4 = false from by unfold impl_within; simp; omega, show (((p.L.length : Nat) : Int) == 0) = false from by simp; intro e; rw [e] at hl; simp at hl, show (((p.L.length : Nat) : Int) == 1) = false from by simp; omega] at h
    simp at h
  · exact hl
/-- The counts of parts, beside whether they lie too deep. -/
def PolAt (n : Nat) (B : Nat) (d : Int) (p : Pol) : Prop :=
  (spec_l5DeepR n p d = true ∧ ∃ c : Nat, 1 ≤ c ∧ c ≤ B ∧ spec_PolCountR n p = ((c : Nat) : Int) ∧ impl_polPartsR n p d = ((min c 13 : Nat) : Int)) ∨
  (spec_l5DeepR n p d = false ∧ impl_polPartsR n p d = 13)
theorem pol_list {n B : Nat} {d : Int} (hB : B ≤ 1000) : ∀ (l : List Pol) (i : Nat), (∀ x ∈ l, PolAt n B (IntKind.i64.wrap (d + 1)) x) → ∀ s : Nat, s < 13 →
    (loopL (spec_l5Deep_b1 (spec_l5DeepR n) d) i () l = .fin () ∧ ∃ c : Nat, c ≤ l.length * B ∧ (∀ t : Nat, t + l.length * B ≤ 1000000000 → loopL (spec_PolCount_b1 (spec_PolCountR n)) i ((t : Nat) : Int) l = .fin (((t + c : Nat) : Nat) : Int)) ∧ Fin.get (fun x => x) (loopL (impl_polParts_b1 (impl_polPartsR n) d) i ((s : Nat) : Int) l) = ((min (s + c) 13 : Nat) : Int)) ∨
    (loopL (spec_l5Deep_b1 (spec_l5DeepR n) d) i () l = .done false ∧ Fin.get (fun x => x) (loopL (impl_polParts_b1 (impl_polPartsR n) d) i ((s : Nat) : Int) l) = 13)
  | [], i, _, s, hs => .inl ⟨rfl, 0, by simp, fun t _ => rfl, by show ((s : Nat) : Int) = _; congr 1; omega⟩
  | a :: l, i, h, s, hs => by
    have hK : ∀ c : Nat, c ≤ B → spec_PolCountR n a = ((c : Nat) : Int) → ∀ t : Nat, t + (a :: l).length * B ≤ 1000000000 → loopL (spec_PolCount_b1 (spec_PolCountR n)) i ((t : Nat) : Int) (a :: l) = loopL (spec_PolCount_b1 (spec_PolCountR n)) (i + 1) (((t + c : Nat) : Nat) : Int) l := by
      intro c hc hn t ht
      rw [List.length_cons, Nat.succ_mul] at ht
      conv => lhs; unfold loopL
      simp only [spec_PolCount_b1, hn]
      rw [Go.Ev.wrap_small (n := ((t : Nat) : Int) + ((c : Nat) : Int)) (by omega) (by omega)]
      congr 1
    rcases h a (by simp) with ⟨hd, c, hc1, hcB, hn, hp⟩ | ⟨hd, hp⟩
    · have hD : loopL (spec_l5Deep_b1 (spec_l5DeepR n) d) i () (a :: l) = loopL (spec_l5Deep_b1 (spec_l5DeepR n) d) (i + 1) () l := by
        conv => lhs; unfold loopL
        simp only [spec_l5Deep_b1, hd, Bool.not_true, cond_false]
      rw [hD]
      rcases Nat.lt_or_ge (s + min c 13) 13 with hlt | hge
      · have hP : loopL (impl_polParts_b1 (impl_polPartsR n) d) i ((s : Nat) : Int) (a :: l) = loopL (impl_polParts_b1 (impl_polPartsR n) d) (i + 1) (((s + c : Nat) : Nat) : Int) l := by
          conv => lhs; unfold loopL
          simp only [impl_polParts_b1, hp]
          rw [Go.Ev.wrap_small (n := ((s : Nat) : Int) + ((min c 13 : Nat) : Int)) (by omega) (by omega), show decide (((s : Nat) : Int) + ((min c 13 : Nat) : Int) ≥ 13) = false from by simp; omega]
          simp only [cond_false]
          congr 1
          omega
        rw [hP]
        rcases pol_list hB l (i + 1) (fun x hx => h x (by simp [hx])) (s + c) (by omega) with ⟨e1, c2, b2, e2, e3⟩ | ⟨e1, e3⟩
        · refine .inl ⟨e1, c + c2, by rw [List.length_cons, Nat.succ_mul]; omega, fun t ht => ?_, ?_⟩
          · rw [hK c hcB hn t ht, e2 (t + c) (by rw [List.length_cons, Nat.succ_mul] at ht; omega), Nat.add_assoc]
          · rw [e3, Nat.add_assoc]
        · exact .inr ⟨e1, e3⟩
      · have hP : loopL (impl_polParts_b1 (impl_polPartsR n) d) i ((s : Nat) : Int) (a :: l) = .done 13 := by
          conv => lhs; unfold loopL
          simp only [impl_polParts_b1, hp]
          rw [Go.Ev.wrap_small (n := ((s : Nat) : Int) + ((min c 13 : Nat) : Int)) (by omega) (by omega), show decide (((s : Nat) : Int) + ((min c 13 : Nat) : Int) ≥ 13) = true from by simp; omega]
          rfl
        rw [hP]
        rcases pol_list hB l (i + 1) (fun x hx => h x (by simp [hx])) 0 (by omega) with ⟨e1, c2, b2, e2, e3⟩ | ⟨e1, e3⟩
        · refine .inl ⟨e1, c + c2, by rw [List.length_cons, Nat.succ_mul]; omega, fun t ht => ?_, ?_⟩
          · rw [hK c hcB hn t ht, e2 (t + c) (by rw [List.length_cons, Nat.succ_mul] at ht; omega), Nat.add_assoc]
          · show (13 : Int) = _
            omega
        · exact .inr ⟨e1, rfl⟩
    · refine .inr ⟨?_, ?_⟩
      · unfold loopL
        simp only [spec_l5Deep_b1, hd, Bool.not_false, cond_true]
        rfl
      · unfold loopL
        simp only [impl_polParts_b1, hp]
        rw [Go.Ev.wrap_small (n := ((s : Nat) : Int) + 13) (by omega) (by omega), show decide (((s : Nat) : Int) + 13 ≥ 13) = true from by simp; omega]
        rfl
theorem pol_at : ∀ (k n : Nat) (p : Pol), k ≤ 4 → Pol.dep p < n → PolAt n (5 ^ k) (5 - ((k : Nat) : Int)) p
  | k, 0, p, _, h => absurd h (by omega)
  | 0, n + 1, p, hk, h => .inr ⟨rfl, rfl⟩
  | k + 1, n + 1, p, hk, h => by
    have hd : decide ((5 - ((k + 1 : Nat) : Int)) > 4) = false := by simp; omega
    cases ho : impl_polHeadOk p with
    | false =>
      refine .inr ⟨?_, ?_⟩
      · simp only [spec_l5DeepR, hd, main_polHead, ho, Bool.not_false, cond_true, cond_false]
      · simp only [impl_polPartsR, hd, ho, Bool.not_false, cond_true, cond_false]
    | true =>
      have hl := polHead_len ho
      have hB : 5 ^ k ≤ 1000 := by
        have : 5 ^ k ≤ 5 ^ 3 := Nat.pow_le_pow_right (by omega) (by omega)
        omega
      have ew : IntKind.i64.wrap (5 - ((k + 1 : Nat) : Int) + 1) = 5 - ((k : Nat) : Int) := by rw [Go.Ev.wrap_small] <;> omega
      have hm : p.L.length * 5 ^ k ≤ 4 * 5 ^ k := Nat.mul_le_mul_right _ hl
      have hp5 : 5 ^ (k + 1) = 5 * 5 ^ k := by rw [Nat.pow_succ, Nat.mul_comm]
      have h1 : 1 ≤ 5 ^ k := Nat.pos_of_ne_zero (by simp)
      rcases pol_list (n := n) (B := 5 ^ k) (d := 5 - ((k + 1 : Nat) : Int)) hB p.L 0 (fun x hx => by rw [ew]; exact pol_at k n x (by omega) (Nat.lt_of_lt_of_le (Pol.dep_lt hx) (Nat.le_of_lt_succ h))) 1 (by omega) with ⟨e1, c, b, e2, e3⟩ | ⟨e1, e3⟩
      · refine .inl ⟨?_, 1 + c, by omega, by omega, ?_, ?_⟩
        · simp only [spec_l5DeepR, hd, main_polHead, ho, Bool.not_true, cond_false, e1, Fin.get]
        · simp only [spec_PolCountR]
          rw [show (1 : Int) = ((1 : Nat) : Int) from rfl, e2 1 (by omega)]
          rfl
        · simp only [impl_polPartsR, hd, ho, Bool.not_true, cond_false]
          exact e3
      · refine .inr ⟨?_, ?_⟩
        · simp only [spec_l5DeepR, hd, main_polHead, ho, Bool.not_true, cond_false, e1, Fin.get]
        · simp only [impl_polPartsR, hd, ho, Bool.not_true, cond_false]
          exact e3
theorem main_PolOk (p : Pol) : spec_PolOk p = impl_PolOk p := by
  unfold spec_PolOk impl_PolOk
  rcases (pol_at 4 (Pol.dep p + 1) p (by omega) (Nat.lt_succ_self _)) with ⟨hd, c, _, hc, hn, hp⟩ | ⟨hd, hp⟩
  · rw [show spec_PolCount p = ((c : Nat) : Int) from hn, show spec_l5Deep p 1 = true from hd, show impl_polParts p 1 = ((min c 13 : Nat) : Int) from hp]
    by_cases h : c ≤ 12
    · rw [show decide (((c : Nat) : Int) ≤ 12) = true from by simp; omega, show decide (((min c 13 : Nat) : Int) ≤ 12) = true from by simp; omega]; rfl
    · rw [show decide (((c : Nat) : Int) ≤ 12) = false from by simp; omega, show decide (((min c 13 : Nat) : Int) ≤ 12) = false from by simp; omega]; rfl
  · rw [show spec_l5Deep p 1 = false from hd, show impl_polParts p 1 = 13 from hp]
    cases decide (spec_PolCount p ≤ 12) <;> rfl
theorem main_ConfOk (c : Conf) : spec_ConfOk c = impl_ConfOk c := by
  unfold spec_ConfOk impl_ConfOk
  rw [main_PolOk]
  rfl
theorem main_ModelOk (m : Model) : impl_ModelOk m = spec_ModelOk m := by
  have e : spec_ModelOk_b1 m = impl_ModelOk_b1 m := by
    funext i s a
    unfold spec_ModelOk_b1 impl_ModelOk_b1
    rw [main_TrailOk, main_BytesOf, main_l11Has]
  have hr : ∀ (l : List Trail) (i : Nat) (s : List Int × Int) (r : Bool), loopL (impl_ModelOk_b1 m) i s l = .done r → r = false := by
    intro l i s r h
    rcases loopL_all (f := impl_ModelOk_b1 m) (fun i s a r hr => by
      unfold impl_ModelOk_b1 at hr
      simp only [Bool.cond_eq_ite] at hr
      repeat' split at hr
      all_goals (first | (cases hr; rfl) | cases hr)) l i s with ⟨t, ht⟩ | ht
    · rw [ht] at h; cases h
    · rw [ht] at h; cases h; rfl
  unfold impl_ModelOk spec_ModelOk
  rw [e, main_ConfOk, main_CacheOk, show spec_BucketOk m.B = impl_BucketOk m.B from rfl]
  cases hf : loopL (impl_ModelOk_b1 m) 0 (([] : List Int), 0) m.Open with
  | done r =>
    cases hr _ _ _ _ hf
    simp [Fin.get]
  | fin t =>
    simp only [Fin.get]
    have hn : ∀ a b : Int, (a != b) = !(a == b) := fun _ _ => rfl
    rw [hn, hn]
    cases impl_ConfOk m.C <;> cases impl_CacheOk m.Cache m.C.Cache <;> cases impl_BucketOk m.B <;> cases (m.B.Rate == m.C.Rate) <;> cases (m.B.Burst == m.C.Burst) <;> try rfl
    cases hu : (m.Used == t.2) with
    | false => rfl
    | true => rw [show t.2 = m.Used from by simpa using (beq_iff_eq.mp hu).symm]; rfl
theorem law_ModelOk (p0 : Model) : laws_FnExactModelOk p0 = true := by
  unfold laws_FnExactModelOk
  cases decide (laws_szModel p0 1048576 < 0) with
  | true => rfl
  | false => simp only [cond_false, id_laws_toModel, main_ModelOk, rf_laws_eqModel, beq_self_eq_true, Bool.not_true]
theorem rows_sl {α : Type} (f : α → List T) (W : α → Prop) : ∀ rows : List (List T), (∀ r ∈ rows, ∃ x, r = f x ∧ W x) → ∃ l : List α, rows = l.map f ∧ ∀ x ∈ l, W x
  | [], _ => ⟨[], rfl, by simp⟩
  | r :: rows, h => by
    obtain ⟨x, hx, hw⟩ := h r (by simp)
    obtain ⟨l, hl, hw'⟩ := rows_sl f W rows (fun r hr => h r (by simp [hr]))
    exact ⟨x :: l, by simp [hx, hl], fun y hy => by rcases List.mem_cons.1 hy with rfl | hy; exact hw; exact hw' y hy⟩
theorem shape_sl {α : Type} (f : α → List T) {P : Nat → α → Prop} (W : α → Prop) (hW : W = P 9223372036854775807) {n t e k : Nat} (ht : prog.underlying t = some (.slice e)) (hk : prog.cellsOf e = k) {y : List T} (h : Shape prog (n + 1) t y) (hr : ∀ r, Shape prog n e r → ∃ x, r = f x ∧ W x) :
    ∃ l : List α, y = [.s false k (l.map f)] ∧ bdS P 9223372036854775807 l := by
  subst hW
  unfold Shape at h
  rw [ht] at h
  obtain ⟨rows, h1, h2, h3⟩ := h
  rw [hk] at h1
  obtain ⟨l, rfl, hw⟩ := rows_sl f _ rows (fun r hr' => hr r (h3 r hr').2)
  exact ⟨l, h1, by simpa [maxLen] using h2, hw⟩
theorem shape3 (n : Nat) {l : List T} (h : Shape prog n 3 l) : ∃ x : Int, l = [.v (.int .i64 x)] ∧ True := by
  cases n with
  | zero => exact (h : False).elim
  | succ n =>
    simp only [Shape, underlying3] at h
    obtain ⟨x, hx, _⟩ := h
    exact ⟨x, hx, trivial⟩
theorem shape9 (n : Nat) {l : List T} (h : Shape prog n 9 l) : ∃ x : ByteArray, l = [.v (.string x)] ∧ (x).size ≤ 9223372036854775807 := by
  cases n with
  | zero => exact (h : False).elim
  | succ n =>
    simp only [Shape, underlying9] at h
    obtain ⟨x, hx, hw⟩ := h
    exact ⟨x, hx, by simpa [maxLen] using hw⟩
theorem shape24 : ∀ (n : Nat) {l : List T}, Shape prog n 24 l → ∃ x : Pol, l = Pol.cells false x ∧ Pol.bd 9223372036854775807 x := by
  intro n
  induction n using Nat.strongRecOn with
  | _ n ih =>
    intro l h
    cases n with
    | zero => exact (h : False).elim
    | succ n =>
      unfold Shape at h
      rw [underlying24] at h
      simp only [ShapeL] at h
      obtain ⟨l0, _, rfl, h0, l1, _, rfl, h1, l2, _, rfl, h2, l3, _, rfl, h3, l4, _, rfl, h4, rfl⟩ := h
      obtain ⟨x0, rfl, w0⟩ := shape3 n h0
      obtain ⟨x1, rfl, w1⟩ := shape3 n h1
      obtain ⟨x2, rfl, w2⟩ := shape9 n h2
      obtain ⟨x3, rfl, w3⟩ := shape9 n h3
      obtain ⟨x4, rfl, w4⟩ : ∃ x : List Pol, l4 = [.s false 5 (List.map (Pol.cells false) x)] ∧ bdS Pol.bd 9223372036854775807 x := by
        cases n with
        | zero => exact (h4 : False).elim
        | succ n => exact shape_sl (Pol.cells false) (P := Pol.bd) _ rfl underlying22 (by kernel_rfl) h4 (fun r hr => ih n (by omega) hr)
      refine ⟨⟨x0, x1, x2, x3, x4⟩, ?_, ?_⟩
      · rw [Pol.cells_eq]; rfl
      · rw [Pol.bd_eq]; exact ⟨w2, w3, w4⟩
theorem shape22 (n : Nat) {l : List T} (h : Shape prog n 22 l) : ∃ x : (List Pol), l = [.s false 5 (List.map (Pol.cells false) x)] ∧ bdS Pol.bd 9223372036854775807 x := by
  cases n with
  | zero => exact (h : False).elim
  | succ n =>
    exact shape_sl (Pol.cells false) (P := Pol.bd) _ rfl underlying22 (by kernel_rfl) h (fun r hr => shape24 n hr)
theorem shape26 (n : Nat) {l : List T} (h : Shape prog n 26 l) : ∃ x : Conf, l = (Conf.cells false) x ∧ Conf.bd 9223372036854775807 x := by
  cases n with
  | zero => exact (h : False).elim
  | succ n =>
    unfold Shape at h
    rw [underlying26] at h
    simp only [ShapeL] at h
    obtain ⟨_, _, rfl, h0, _, _, rfl, h1, _, _, rfl, h2, _, _, rfl, h3, _, _, rfl, h4, _, _, rfl, h5, _, _, rfl, h6, _, _, rfl, h7, rfl⟩ := h
    obtain ⟨x0, rfl, w0⟩ := shape3 n h0
    obtain ⟨x1, rfl, w1⟩ := shape3 n h1
    obtain ⟨x2, rfl, w2⟩ := shape3 n h2
    obtain ⟨x3, rfl, w3⟩ := shape3 n h3
    obtain ⟨x4, rfl, w4⟩ := shape3 n h4
    obtain ⟨x5, rfl, w5⟩ := shape3 n h5
    obtain ⟨x6, rfl, w6⟩ := shape3 n h6
    obtain ⟨x7, e7, w7⟩ := shape24 n h7
    rw [Pol.cells_eq] at e7
    subst e7
    exact ⟨⟨x0, x1, x2, x3, x4, x5, x6, x7⟩, rfl, w7⟩
theorem shape4 (n : Nat) {l : List T} (h : Shape prog n 4 l) : ∃ x : Bool, l = [.v (.bool x)] ∧ True := by
  cases n with
  | zero => exact (h : False).elim
  | succ n =>
    simp only [Shape, underlying4] at h
    obtain ⟨x, hx⟩ := h
    exact ⟨x, hx, trivial⟩
theorem shape266 (n : Nat) {l : List T} (h : Shape prog n 266 l) : ∃ x : Attr, l = Attr.cells x ∧ Attr.bd 9223372036854775807 x := by
  cases n with
  | zero => exact (h : False).elim
  | succ n =>
    unfold Shape at h
    rw [underlying266] at h
    simp only [ShapeL] at h
    obtain ⟨_, _, rfl, h0, _, _, rfl, h1, _, _, rfl, h2, _, _, rfl, h3, rfl⟩ := h
    obtain ⟨x0, rfl, w0⟩ := shape9 n h0
    obtain ⟨x1, rfl, w1⟩ := shape4 n h1
    obtain ⟨x2, rfl, w2⟩ := shape3 n h2
    obtain ⟨x3, rfl, w3⟩ := shape9 n h3
    exact ⟨⟨x0, x1, x2, x3⟩, rfl, ⟨w0, w3⟩⟩
theorem shape150 (n : Nat) {l : List T} (h : Shape prog n 150 l) : ∃ x : (List Attr), l = [.s false 4 (List.map Attr.cells x)] ∧ bdS Attr.bd 9223372036854775807 x := by
  cases n with
  | zero => exact (h : False).elim
  | succ n =>
    exact shape_sl Attr.cells (P := Attr.bd) _ rfl underlying150 (by kernel_rfl) h (fun r hr => shape266 n hr)
theorem shape152 (n : Nat) {l : List T} (h : Shape prog n 152 l) : ∃ x : Span, l = (Span.cells false) x ∧ Span.bd 9223372036854775807 x := by
  cases n with
  | zero => exact (h : False).elim
  | succ n =>
    unfold Shape at h
    rw [underlying152] at h
    simp only [ShapeL] at h
    obtain ⟨_, _, rfl, h0, _, _, rfl, h1, _, _, rfl, h2, _, _, rfl, h3, _, _, rfl, h4, _, _, rfl, h5, rfl⟩ := h
    obtain ⟨x0, rfl, w0⟩ := shape3 n h0
    obtain ⟨x1, rfl, w1⟩ := shape3 n h1
    obtain ⟨x2, rfl, w2⟩ := shape3 n h2
    obtain ⟨x3, rfl, w3⟩ := shape3 n h3
    obtain ⟨x4, rfl, w4⟩ := shape4 n h4
    obtain ⟨x5, rfl, w5⟩ := shape150 n h5
    exact ⟨⟨x0, x1, x2, x3, x4, x5⟩, rfl, w5⟩
theorem shape211 (n : Nat) {l : List T} (h : Shape prog n 211 l) : ∃ x : (List Span), l = [.s false 6 (List.map (Span.cells false) x)] ∧ bdS Span.bd 9223372036854775807 x := by
  cases n with
  | zero => exact (h : False).elim
  | succ n =>
    exact shape_sl (Span.cells false) (P := Span.bd) _ rfl underlying211 (by kernel_rfl) h (fun r hr => shape152 n hr)
theorem shape213 (n : Nat) {l : List T} (h : Shape prog n 213 l) : ∃ x : Trail, l = (Trail.cells false) x ∧ Trail.bd 9223372036854775807 x := by
  cases n with
  | zero => exact (h : False).elim
  | succ n =>
    unfold Shape at h
    rw [underlying213] at h
    simp only [ShapeL] at h
    obtain ⟨_, _, rfl, h0, _, _, rfl, h1, _, _, rfl, h2, _, _, rfl, h3, rfl⟩ := h
    obtain ⟨x0, rfl, w0⟩ := shape3 n h0
    obtain ⟨x1, rfl, w1⟩ := shape3 n h1
    obtain ⟨x2, rfl, w2⟩ := shape3 n h2
    obtain ⟨x3, rfl, w3⟩ := shape211 n h3
    exact ⟨⟨x0, x1, x2, x3⟩, rfl, w3⟩
theorem shape67 (n : Nat) {l : List T} (h : Shape prog n 67 l) : ∃ x : (List Trail), l = [.s false 4 (List.map (Trail.cells false) x)] ∧ bdS Trail.bd 9223372036854775807 x := by
  cases n with
  | zero => exact (h : False).elim
  | succ n =>
    exact shape_sl (Trail.cells false) (P := Trail.bd) _ rfl underlying67 (by kernel_rfl) h (fun r hr => shape213 n hr)
theorem shape193 (n : Nat) {l : List T} (h : Shape prog n 193 l) : ∃ x : Verdict, l = Verdict.cells x ∧ True := by
  cases n with
  | zero => exact (h : False).elim
  | succ n =>
    unfold Shape at h
    rw [underlying193] at h
    simp only [ShapeL] at h
    obtain ⟨_, _, rfl, h0, _, _, rfl, h1, _, _, rfl, h2, rfl⟩ := h
    obtain ⟨x0, rfl, w0⟩ := shape3 n h0
    obtain ⟨x1, rfl, w1⟩ := shape3 n h1
    obtain ⟨x2, rfl, w2⟩ := shape4 n h2
    exact ⟨⟨x0, x1, x2⟩, rfl, trivial⟩
theorem shape30 (n : Nat) {l : List T} (h : Shape prog n 30 l) : ∃ x : (List Verdict), l = [.s false 3 (List.map Verdict.cells x)] ∧ bdS Verdict.bd 9223372036854775807 x := by
  cases n with
  | zero => exact (h : False).elim
  | succ n =>
    exact shape_sl Verdict.cells (P := Verdict.bd) _ rfl underlying30 (by kernel_rfl) h (fun r hr => shape193 n hr)
theorem shape29 (n : Nat) {l : List T} (h : Shape prog n 29 l) : ∃ x : Bucket, l = Bucket.cells x ∧ True := by
  cases n with
  | zero => exact (h : False).elim
  | succ n =>
    unfold Shape at h
    rw [underlying29] at h
    simp only [ShapeL] at h
    obtain ⟨_, _, rfl, h0, _, _, rfl, h1, _, _, rfl, h2, _, _, rfl, h3, rfl⟩ := h
    obtain ⟨x0, rfl, w0⟩ := shape3 n h0
    obtain ⟨x1, rfl, w1⟩ := shape3 n h1
    obtain ⟨x2, rfl, w2⟩ := shape3 n h2
    obtain ⟨x3, rfl, w3⟩ := shape3 n h3
    exact ⟨⟨x0, x1, x2, x3⟩, rfl, trivial⟩
theorem shape69 (n : Nat) {l : List T} (h : Shape prog n 69 l) : ∃ x : Model, l = (Model.cells false) x ∧ Model.bd 9223372036854775807 x := by
  cases n with
  | zero => exact (h : False).elim
  | succ n =>
    unfold Shape at h
    rw [underlying69] at h
    simp only [ShapeL] at h
    obtain ⟨_, _, rfl, h0, _, _, rfl, h1, _, _, rfl, h2, _, _, rfl, h3, _, _, rfl, h4, _, _, rfl, h5, rfl⟩ := h
    obtain ⟨x0, rfl, w0⟩ := shape26 n h0
    obtain ⟨x1, rfl, w1⟩ := shape4 n h1
    obtain ⟨x2, rfl, w2⟩ := shape67 n h2
    obtain ⟨x3, rfl, w3⟩ := shape30 n h3
    obtain ⟨x4, rfl, w4⟩ := shape29 n h4
    obtain ⟨x5, rfl, w5⟩ := shape3 n h5
    exact ⟨⟨x0, x1, x2, x3, x4, x5⟩, rfl, ⟨w0, w2, w3⟩⟩
theorem arg69 {n : Nat} {l : List T} (h : Shape prog n 69 l) : ∃ x : Model, l = (Model.cells false) x ∧ Model.bd 9223372036854775807 x := shape69 n h
theorem law_c (p0 : Model) (h0 : Model.bd 9223372036854775807 p0) : FnOk prog 5 [.agg ((Model.cells false) p0)] ⟨.one (.v (.bool true)), [], [], false⟩ :=
  FnOk.fits ⟨_, func5, by kernel_rfl, by kernel_rfl⟩ (fun hf => by
    have h := c_laws_FnExactModelOk p0 h0
    rw [law_ModelOk p0] at h
    exact h)

end Go.Proofs.Try.Ev
