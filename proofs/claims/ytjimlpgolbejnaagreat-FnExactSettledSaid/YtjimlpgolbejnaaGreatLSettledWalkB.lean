import Derived.Test.YtjimlpgolbejnaaGreatLSettledWalk
set_option linter.unusedSectionVars false

namespace Go.Proofs.Tryz.Ev
open Go Go.Ev Go.Proofs
set_option maxHeartbeats 4000000
set_option maxRecDepth 100000
set_option linter.unusedSimpArgs false
set_option linter.unusedVariables false
set_option linter.unusedSectionVars false
theorem c_spec_WheelOk (p0 : Wheel) (hs : Wheel.bd 1048576 p0) : FnOk prog 55 [.agg ((Wheel.cells false) p0)] ⟨.one (.v (.bool (spec_WheelOk p0))), [], [], false⟩ := by
  refine FnOk.intro (E := env) envOk wide func55 rfl (by kernel_rfl) rfl rfl ?_
  have hg := spec_WheelOk.eq_1 p0
  have hown : ∀ g : Bool, AV.Own (AV.one (.v (.bool g))) := fun g => .v _
  refine seqE ?_
  refine litE (m := 0) rfl ?_
  refine seqE ?_
  refine seqE ?_
  refine lenM fun hN1 => ?_
  refine brWF hg (fun hg h2 => ?_) (fun hg h2 => ?_)
  · refine lenM fun hN3 => ?_
    refine brWF hg (fun hg h4 => ?_) (fun hg h4 => ?_)
    · refine .inl (⟨_, _, c_spec_l1In p0.Now 0 2147483647, (FzAs.same _), ?_⟩)
      refine litE (m := 2) rfl ?_
      refine brF hg (fun hg h5 => ?_) (fun hg h5 => ?_)
      · refine .inl (⟨_, _, c_spec_l8Slot p0 p0.Rest 3 0, (FzAs.same _), ?_⟩)
        refine litE (m := 3) rfl ?_
        refine brE hg (fun hg h6 => ?_) (fun hg h6 => ?_)
        · refine seqE ?_
          exact leafE hown hg
        · refine seqE ?_
          refine seqE ?_
          refine loopCE hg [1] (fun x1 => [(3, .one (.v (.int .i64 ((x1.i : Nat) : Int))))]) (fun x1 => [.keep 0, .dead, .dead]) [some 0, none, none] ?_ (fun x1 => ?_)
          · exact ⟨rfl, ⟨rfl, ⟨rfl, rfl, rfl, rfl⟩, trivial⟩, ⟨⟨rfl, rfl, ⟨rfl, rfl, rfl, rfl, trivial⟩⟩, trivial⟩, trivial⟩
          refine seqE ?_
          refine seqE ?_
          refine tstC (fun hi1 => ?_) (fun hi1 => ?_)
          · have hb1 := (x1.bdy hi1).trans (spec_WheelOk_b1.eq_1 ..)
            have hw1 := wrapC hi1
            refine seqE ?_
            refine seqE ?_
            refine .inl ⟨by kernel_rfl, ?_⟩
            refine idxOf (l := p0.Near) (by (first | omega | (simp (disch := omega) only [wrap_small, mid_eq, List.length_map]; omega) | (simp; done) | (simp; omega) | (simp at *; omega) | (simp at *; done) | (simp_all; done) | (simp_all; omega))) (fun hq7 => ?_)
            refine ⟨_, _, c_spec_l8Slot p0 (p0.Near[x1.i]?.getD default) 1 ((x1.i : Nat) : Int), (FzAs.same _), ?_⟩
            refine brF hb1 (fun hb1 h8 => ?_) (fun hb1 h8 => ?_)
            · refine idxOf (l := p0.Far) (by (first | omega | (simp (disch := omega) only [wrap_small, mid_eq, List.length_map]; omega) | (simp; done) | (simp; omega) | (simp at *; omega) | (simp at *; done) | (simp_all; done) | (simp_all; omega))) (fun hq9 => ?_)
              refine ⟨_, _, c_spec_l8Slot p0 (p0.Far[x1.i]?.getD default) 2 ((x1.i : Nat) : Int), (FzAs.same _), ?_⟩
              refine brE hb1 (fun hb1 h10 => ?_) (fun hb1 h10 => x1.goE hi1 hb1 [some 0, none, none] ⟨rfl, ⟨(eqInt hw1), ⟨rfl, rfl, rfl, rfl⟩, trivial⟩, ⟨⟨rfl, rfl, ⟨rfl, rfl, rfl, rfl, trivial⟩⟩, trivial⟩, trivial⟩)
              refine seqE ?_
              have hg := donE hg (x1.outD hi1 hb1)
              exact leafE hown hg
            · refine seqE ?_
              have hg := donE hg (x1.outD hi1 hb1)
              exact leafE hown hg
          have hg := finE hg (x1.fin hi1)
          refine seqE ?_
          refine .inl (⟨_, _, c_spec_Timers p0 (by exact hs), (FzAs.same _), ?_⟩)
          refine litE (m := 4) rfl ?_
          refine seqE ?_
          refine seqE ?_
          refine loopLE hg [4] (fun x2 => [(5, .one (.v (.int .i64 ((x2.i : Nat) : Int))))]) (fun x2 => [.dead, .dead, .dead, .dead, .keep 4]) [none, none, none, none, some 4] ?_ (fun x2 => ?_)
          · exact ⟨rfl, ⟨rfl, ⟨rfl, rfl, rfl, rfl, by (first | rfl | omega | (dsimp only; omega) | (simp; done) | (simp; omega) | (simp [LstSt.init, LstSt.step, LstInv.init, CntSt.init, CntSt.step, CntInv.init, WhlSt.init, WhlSt.step]; done) | (simp [LstSt.init, LstSt.step, LstInv.init, CntSt.init, CntSt.step, CntInv.init, WhlSt.init, WhlSt.step]; omega))⟩, trivial⟩, ⟨⟨rfl, rfl, rfl⟩, trivial⟩, trivial⟩
          refine seqE ?_
          refine seqE ?_
          refine lenE (k := ((spec_Timers p0)).length) (by simp) (fun hN11 => ?_)
          refine tstL (fun hi2 => ?_) (fun hi2 => ?_)
          · have hb2 := (x2.bdy hi2).trans (spec_WheelOk_b2.eq_1 ..)
            have hw2 := wrap_succ hi2 (by first | assumption | omega)
            refine seqE ?_
            refine seqE ?_
            refine loopCE hb2 [4, 5] (fun x3 => [(6, .one (.v (.int .i64 ((x3.i : Nat) : Int))))]) (fun x3 => [.dead, .dead, .dead, .dead, .keep 4]) [none, none, none, none, some 4] ?_ (fun x3 => ?_)
            · exact ⟨rfl, ⟨rfl, ⟨rfl, rfl, rfl, rfl, by (first | rfl | omega | (dsimp only; omega) | (simp; done) | (simp; omega) | (simp [LstSt.init, LstSt.step, LstInv.init, CntSt.init, CntSt.step, CntInv.init, WhlSt.init, WhlSt.step]; done) | (simp [LstSt.init, LstSt.step, LstInv.init, CntSt.init, CntSt.step, CntInv.init, WhlSt.init, WhlSt.step]; omega))⟩, rfl, trivial⟩, ⟨⟨rfl, rfl, rfl⟩, trivial⟩, trivial⟩
            refine seqE ?_
            refine seqE ?_
            refine tstL (fun hi3 => ?_) (fun hi3 => ?_)
            · have hb3 := (x3.bdy hi3).trans (spec_WheelOk_b3.eq_1 ..)
              have hw3 := wrap_succ hi3 (by first | assumption | omega)
              refine seqE ?_
              refine seqE ?_
              refine .inl ⟨by kernel_rfl, ?_⟩
              refine andE (by (first | omega | (simp (disch := omega) only [wrap_small, mid_eq, List.length_map]; omega) | (simp; done) | (simp; omega) | (simp at *; omega) | (simp at *; done) | (simp_all; done) | (simp_all; omega))) ?_
              refine rowGet (i := x3.i) (l := (spec_Timers p0)) (by first | rfl | exact Nat.zero_add _ | simp) (fun hq12 => ?_)
              refine andE (by (first | omega | (simp (disch := omega) only [wrap_small, mid_eq, List.length_map]; omega) | (simp; done) | (simp; omega) | (simp at *; omega) | (simp at *; done) | (simp_all; done) | (simp_all; omega))) ?_
              refine rowAtE (i := x2.i) (l := (spec_Timers p0)) (by first | rfl | exact Nat.zero_add _ | simp) hi2 ?_
              refine brQ hb3 (fun hb3 h13 => ?_) (fun hb3 h13 => x3.goE hi3 hb3 [none, none, none, none, some 4] ⟨rfl, ⟨(eqInt hw3), ⟨rfl, rfl, rfl, rfl, by (first | rfl | omega | (dsimp only; omega) | (simp; done) | (simp; omega) | (simp [LstSt.init, LstSt.step, LstInv.init, CntSt.init, CntSt.step, CntInv.init, WhlSt.init, WhlSt.step]; done) | (simp [LstSt.init, LstSt.step, LstInv.init, CntSt.init, CntSt.step, CntInv.init, WhlSt.init, WhlSt.step]; omega))⟩, rfl, trivial⟩, ⟨⟨rfl, rfl, rfl⟩, trivial⟩, trivial⟩)
              refine seqE ?_
              have hb2 := donE hb2 (x3.outD hi3 hb3)
              have hg := donE hg (x2.outD hi2 hb2)
              exact leafE hown hg
            have hb2 := finE hb2 (x3.fin hi3)
            exact x2.goE hi2 hb2 [none, none, none, none, some 4] ⟨rfl, ⟨(eqInt hw2), ⟨rfl, rfl, rfl, rfl, by (first | rfl | omega | (dsimp only; omega) | (simp; done) | (simp; omega) | (simp [LstSt.init, LstSt.step, LstInv.init, CntSt.init, CntSt.step, CntInv.init, WhlSt.init, WhlSt.step]; done) | (simp [LstSt.init, LstSt.step, LstInv.init, CntSt.init, CntSt.step, CntInv.init, WhlSt.init, WhlSt.step]; omega))⟩, trivial⟩, ⟨⟨rfl, rfl, rfl⟩, trivial⟩, trivial⟩
          have hg := finE hg (x2.fin hi2)
          refine seqE ?_
          refine lenE (k := ((spec_Timers p0)).length) (by simp) (fun hN14 => ?_)
          exact leafE hown hg
      · refine seqE ?_
        exact leafE hown hg
    · refine seqE ?_
      exact leafE hown hg
  · refine seqE ?_
    exact leafE hown hg
def spec_ItemOk (p0 : Item) : Bool :=
  (bif (decide (p0.Stamp ≥ 1)) then (spec_SpanOk p0.S) else false)
theorem c_spec_ItemOk (p0 : Item) : FnOk prog 57 [.agg ((Item.cells false) p0)] ⟨.one (.v (.bool (spec_ItemOk p0))), [], [], false⟩ := by
  refine FnOk.intro (E := env) envOk wide func57 rfl (by kernel_rfl) rfl rfl ?_
  have hg := spec_ItemOk.eq_1 p0
  have hown : ∀ g : Bool, AV.Own (AV.one (.v (.bool g))) := fun g => .v _
  refine seqE ?_
  refine litE (m := 0) rfl ?_
  refine seqE ?_
  refine brD hg (fun hg h1 => ?_) (fun hg h1 => leafE hown hg)
  refine .inl (⟨_, _, c_spec_SpanOk p0.S, (FzAs.same _), ?_⟩)
  refine litE (m := 2) rfl ?_
  exact leafE hown hg
def spec_DeedOk_j2 (p0 : Deed) : Step (Unit) (Step (Unit) Bool) :=
  (bif (p0.Lin != (-1)) then (bif (decide (p0.Lin < p0.Inv)) then (.done (.done false)) else (bif (p0.Res != (-1)) then (bif (p0.Lin == (-1)) then (.done (.done false)) else (.next ())) else (.done (.next ())))) else (bif (p0.Res != (-1)) then (bif (p0.Lin == (-1)) then (.done (.done false)) else (.next ())) else (.done (.next ()))))
def spec_DeedOk_j1 (p0 : Deed) : Step (Unit) Bool :=
  (Step.get (fun s2 => (bif (decide (p0.Res < p0.Lin)) then (.done false) else (.next ()))) (spec_DeedOk_j2 p0))
def spec_DeedOk (p0 : Deed) : Bool :=
  (bif (!(spec_l1In p0.Op 1 4)) then false else (bif (decide (p0.Inv < 0)) then false else (bif (decide (p0.Took < 0)) then false else (bif (decide (p0.N < 0)) then false else (bif (decide (p0.Forgot < 0)) then false else (bif (decide (p0.Now < 0)) then false else (Step.get (fun s1 => (bif (p0.Op == 1) then (bif (p0.Lin != (-1)) then (spec_l1In p0.Code 1 5) else (p0.Code == 0)) else (p0.Code == 0))) (spec_DeedOk_j1 p0))))))))
theorem c_spec_DeedOk (p0 : Deed) : FnOk prog 58 [.agg ((Deed.cells false) p0)] ⟨.one (.v (.bool (spec_DeedOk p0))), [], [], false⟩ := by
  refine FnOk.intro (E := env) envOk wide func58 rfl (by kernel_rfl) rfl rfl ?_
  have hg := spec_DeedOk.eq_1 p0
  have hown : ∀ g : Bool, AV.Own (AV.one (.v (.bool g))) := fun g => .v _
  refine seqE ?_
  refine litE (m := 0) rfl ?_
  refine seqE ?_
  refine seqE ?_
  refine .inl (⟨_, _, c_spec_l1In p0.Op 1 4, (FzAs.same _), ?_⟩)
  refine litE (m := 2) rfl ?_
  refine brF hg (fun hg h1 => ?_) (fun hg h1 => ?_)
  · refine brDF hg (fun hg h2 => ?_) (fun hg h2 => ?_)
    · refine brDF hg (fun hg h3 => ?_) (fun hg h3 => ?_)
      · refine brDF hg (fun hg h4 => ?_) (fun hg h4 => ?_)
        · refine brDF hg (fun hg h5 => ?_) (fun hg h5 => ?_)
          · refine brD hg (fun hg h6 => ?_) (fun hg h6 => ?_)
            · refine seqE ?_
              exact leafE hown hg
            · refine joinE hg [1] (fun x1 => []) (fun x1 => [.keep 0, .dead]) (fun hb1 => ?_) (fun x1 hg => ?_)
              · have hb1 := hb1.trans (spec_DeedOk_j1.eq_1 ..)
                refine joinE hb1 [1] (fun x2 => [(58, .one (.v (.bool (decide (p0.Res < p0.Lin)))))]) (fun x2 => [.keep 0, .dead]) (fun hb2 => ?_) (fun x2 hb1 => ?_)
                · have hb2 := hb2.trans (spec_DeedOk_j2.eq_1 ..)
                  refine brW hb2 (fun hb2 h7 => ?_) (fun hb2 h7 => ?_)
                  · refine brDF hb2 (fun hb2 h8 => ?_) (fun hb2 h8 => ?_)
                    · refine brW hb2 (fun hb2 h9 => ?_) (fun hb2 h9 => ?_)
                      · refine brQF hb2 (fun hb2 h10 => .inl ⟨⟨_, hb2⟩, [some 0, none], ⟨rfl, ⟨rfl, ⟨rfl, rfl, rfl, rfl⟩, trivial⟩, ⟨⟨rfl, rfl, ⟨rfl, rfl, rfl, rfl, rfl, rfl, rfl, rfl, rfl, rfl, rfl, rfl, rfl, rfl, rfl, rfl, rfl, rfl, rfl, rfl, trivial⟩⟩, trivial⟩, trivial⟩⟩) (fun hb2 h10 => ?_)
                        refine .inr ?_
                        have hb1 := getD hb1 hb2
                        refine seqE ?_
                        have hg := getD hg hb1
                        exact leafE hown hg
                      · refine .inr ?_
                        have hb1 := getD hb1 hb2
                        exact .inl ⟨⟨_, hb1⟩, [some 0, none], ⟨rfl, ⟨⟨rfl, rfl, rfl, rfl⟩, trivial⟩, ⟨⟨rfl, rfl, ⟨rfl, rfl, rfl, rfl, rfl, rfl, rfl, rfl, rfl, rfl, rfl, rfl, rfl, rfl, rfl, rfl, rfl, rfl, rfl, rfl, trivial⟩⟩, trivial⟩, trivial⟩⟩
                    · refine .inr ?_
                      have hb1 := getD hb1 hb2
                      refine seqE ?_
                      have hg := getD hg hb1
                      exact leafE hown hg
                  · refine brW hb2 (fun hb2 h11 => ?_) (fun hb2 h11 => ?_)
                    · refine brQF hb2 (fun hb2 h12 => .inl ⟨⟨_, hb2⟩, [some 0, none], ⟨rfl, ⟨rfl, ⟨rfl, rfl, rfl, rfl⟩, trivial⟩, ⟨⟨rfl, rfl, ⟨rfl, rfl, rfl, rfl, rfl, rfl, rfl, rfl, rfl, rfl, rfl, rfl, rfl, rfl, rfl, rfl, rfl, rfl, rfl, rfl, trivial⟩⟩, trivial⟩, trivial⟩⟩) (fun hb2 h12 => ?_)
                      refine .inr ?_
                      have hb1 := getD hb1 hb2
                      refine seqE ?_
                      have hg := getD hg hb1
                      exact leafE hown hg
                    · refine .inr ?_
                      have hb1 := getD hb1 hb2
                      exact .inl ⟨⟨_, hb1⟩, [some 0, none], ⟨rfl, ⟨⟨rfl, rfl, rfl, rfl⟩, trivial⟩, ⟨⟨rfl, rfl, ⟨rfl, rfl, rfl, rfl, rfl, rfl, rfl, rfl, rfl, rfl, rfl, rfl, rfl, rfl, rfl, rfl, rfl, rfl, rfl, rfl, trivial⟩⟩, trivial⟩, trivial⟩⟩
                refine brD hb1 (fun hb1 h13 => ?_) (fun hb1 h13 => .inl ⟨⟨_, hb1⟩, [some 0, none], ⟨rfl, ⟨⟨rfl, rfl, rfl, rfl⟩, trivial⟩, ⟨⟨rfl, rfl, ⟨rfl, rfl, rfl, rfl, rfl, rfl, rfl, rfl, rfl, rfl, rfl, rfl, rfl, rfl, rfl, rfl, rfl, rfl, rfl, rfl, trivial⟩⟩, trivial⟩, trivial⟩⟩)
                refine seqE ?_
                have hg := getD hg hb1
                exact leafE hown hg
              refine seqE ?_
              refine seqE ?_
              refine brQ hg (fun hg h14 => ?_) (fun hg h14 => ?_)
              · refine brW hg (fun hg h15 => ?_) (fun hg h15 => ?_)
                · refine seqE ?_
                  refine .inl (⟨_, _, c_spec_l1In p0.Code 1 5, (FzAs.same _), ?_⟩)
                  refine litE (m := 3) rfl ?_
                  exact leafE hown hg
                · refine seqE ?_
                  exact leafE hown hg
              · refine seqE ?_
                exact leafE hown hg
          · refine seqE ?_
            exact leafE hown hg
        · refine seqE ?_
          exact leafE hown hg
      · refine seqE ?_
        exact leafE hown hg
    · refine seqE ?_
      exact leafE hown hg
  · refine seqE ?_
    exact leafE hown hg
def spec_l16Known_b2 (p2 : Int) (p1 : Int) (i2 : Nat) (s2 : Unit) (a2 : Task) : Step (Unit) Bool :=
  (bif (a2.Op == 2) then (bif (a2.Pc != 3) then (bif (a2.Stamp == p2) then (bif (a2.Trace == p1) then (.done true) else (.next ())) else (.next ())) else (.next ())) else (.next ()))
def spec_l16Known_b1 (p2 : Int) (p1 : Int) (i1 : Nat) (s1 : Unit) (a1 : Timer) : Step (Unit) Bool :=
  (bif (a1.Id == p2) then (bif (a1.Trace == p1) then (.done true) else (.next ())) else (.next ()))
def spec_l16Known (p0 : World) (p1 : Int) (p2 : Int) : Bool :=
  (Fin.get (fun s1 => (Fin.get (fun s2 => false) (loopL (spec_l16Known_b2 p2 p1) 0 () p0.Tasks))) (loopL (spec_l16Known_b1 p2 p1) 0 () ((spec_Timers p0.W) ++ p0.Due)))
theorem c_spec_l16Known (p0 : World) (p1 : Int) (p2 : Int) (hs : World.bd 1048576 p0) : FnOk prog 93 [.agg ((World.cells false) p0), .one (.v (.int .i64 p1)), .one (.v (.int .i64 p2))] ⟨.one (.v (.bool (spec_l16Known p0 p1 p2))), [], [], false⟩ := by
  refine FnOk.intro (E := env) envOk wide func93 rfl (by kernel_rfl) rfl rfl ?_
  have hg := spec_l16Known.eq_1 p0 p1 p2
  have hown : ∀ g : Bool, AV.Own (AV.one (.v (.bool g))) := fun g => .v _
  refine seqE ?_
  refine litE (m := 0) rfl ?_
  refine seqE ?_
  refine .inr (.inl ⟨5, [(0, true), (1, true), (3, true), (4, true), (2, false)], by kernel_rfl, ?_⟩)
  refine ⟨_, _, c_spec_Timers p0.W (by first | exact hs | exact hs.2.2.2.1), (FzAs.same _), ?_⟩
  refine litE (m := 2) rfl ?_
  refine .inl ?_
  refine rowsE (Y := List.map Timer.cells ((spec_Timers p0.W) ++ p0.Due)) (by first | rfl | (simp [subR0, subR1, -List.map_take, -List.map_drop, take_map', drop_map', fz_Timer, fl_Timer, fzMap fz_Timer, flMap fl_Timer]; done) | (simp [subR0, subR1, -List.map_take, -List.map_drop, take_map', drop_map', fz_Timer, fl_Timer, fzMap fz_Timer, flMap fl_Timer]; rfl)) ?_
  refine appB (b := 24) (hs := by have t1 := spec_Timers_len p0.W hs.2.2.2.1; have t2 : p0.Due.length ≤ 1048576 := hs.2.2.2.2.1.1; refine ⟨?_, ?_⟩; (show List.length _ * 24 ≤ _); (try simp only [List.length_map, List.length_append, List.length_cons, List.length_nil, List.length_take, List.length_drop]); omega; (try simp only [List.length_map, List.length_append, List.length_cons, List.length_nil, List.length_take, List.length_drop]); omega) ?_
  refine litE (m := 3) rfl ?_
  refine seqE ?_
  refine seqE ?_
  refine loopLE hg [1, 2, 3, 7] (fun x1 => [(8, .one (.v (.int .i64 ((x1.i : Nat) : Int))))]) (fun x1 => [.keep 0, .dead, .dead, .keep 3]) [some 0, none, none, some 3] ?_ (fun x1 => ?_)
  · exact ⟨rfl, ⟨rfl, rfl, rfl, ⟨rfl, rfl, rfl, rfl⟩, ⟨rfl, rfl, rfl, rfl, by (first | rfl | omega | (dsimp only; omega) | (simp; done) | (simp; omega) | (simp [LstSt.init, LstSt.step, LstInv.init, CntSt.init, CntSt.step, CntInv.init, WhlSt.init, WhlSt.step]; done) | (simp [LstSt.init, LstSt.step, LstInv.init, CntSt.init, CntSt.step, CntInv.init, WhlSt.init, WhlSt.step]; omega))⟩, trivial⟩, ⟨⟨rfl, rfl, ⟨rfl, rfl, rfl, rfl, rfl, rfl, rfl, rfl, rfl, rfl, rfl, rfl, rfl, rfl, rfl, rfl, rfl, rfl, rfl, rfl, rfl, rfl, rfl, rfl, rfl, rfl, rfl, rfl, rfl, rfl, rfl, rfl, trivial⟩⟩, ⟨rfl, rfl, rfl⟩, trivial⟩, trivial⟩
  refine seqE ?_
  refine seqE ?_
  refine lenE (k := (((spec_Timers p0.W) ++ p0.Due)).length) (by simp) (fun hN1 => ?_)
  refine tstL (fun hi1 => ?_) (fun hi1 => ?_)
  · have hb1 := (x1.bdy hi1).trans (spec_l16Known_b1.eq_1 ..)
    have hw1 := wrap_succ hi1 (by first | assumption | omega)
    refine seqE ?_
    refine seqE ?_
    refine andE (by (first | omega | (simp (disch := omega) only [wrap_small, mid_eq, List.length_map]; omega) | (simp; done) | (simp; omega) | (simp at *; omega) | (simp at *; done) | (simp_all; done) | (simp_all; omega))) ?_
    refine rowAtE (i := x1.i) (l := ((spec_Timers p0.W) ++ p0.Due)) (by first | rfl | exact Nat.zero_add _ | simp) hi1 ?_
    refine brQ hb1 (fun hb1 h2 => ?_) (fun hb1 h2 => x1.goE hi1 hb1 [some 0, none, none, some 3] ⟨rfl, ⟨(eqInt hw1), rfl, rfl, ⟨rfl, rfl, rfl, rfl⟩, ⟨rfl, rfl, rfl, rfl, by (first | rfl | omega | (dsimp only; omega) | (simp; done) | (simp; omega) | (simp [LstSt.init, LstSt.step, LstInv.init, CntSt.init, CntSt.step, CntInv.init, WhlSt.init, WhlSt.step]; done) | (simp [LstSt.init, LstSt.step, LstInv.init, CntSt.init, CntSt.step, CntInv.init, WhlSt.init, WhlSt.step]; omega))⟩, trivial⟩, ⟨⟨rfl, rfl, ⟨rfl, rfl, rfl, rfl, rfl, rfl, rfl, rfl, rfl, rfl, rfl, rfl, rfl, rfl, rfl, rfl, rfl, rfl, rfl, rfl, rfl, rfl, rfl, rfl, rfl, rfl, rfl, rfl, rfl, rfl, rfl, rfl, trivial⟩⟩, ⟨rfl, rfl, rfl⟩, trivial⟩, trivial⟩)
    refine andE (by (first | omega | (simp (disch := omega) only [wrap_small, mid_eq, List.length_map]; omega) | (simp; done) | (simp; omega) | (simp at *; omega) | (simp at *; done) | (simp_all; done) | (simp_all; omega))) ?_
    refine rowAtE (i := x1.i) (l := ((spec_Timers p0.W) ++ p0.Due)) (by first | rfl | exact Nat.zero_add _ | simp) hi1 ?_
    refine brQ hb1 (fun hb1 h3 => ?_) (fun hb1 h3 => x1.goE hi1 hb1 [some 0, none, none, some 3] ⟨rfl, ⟨(eqInt hw1), rfl, rfl, ⟨rfl, rfl, rfl, rfl⟩, ⟨rfl, rfl, rfl, rfl, by (first | rfl | omega | (dsimp only; omega) | (simp; done) | (simp; omega) | (simp [LstSt.init, LstSt.step, LstInv.init, CntSt.init, CntSt.step, CntInv.init, WhlSt.init, WhlSt.step]; done) | (simp [LstSt.init, LstSt.step, LstInv.init, CntSt.init, CntSt.step, CntInv.init, WhlSt.init, WhlSt.step]; omega))⟩, trivial⟩, ⟨⟨rfl, rfl, ⟨rfl, rfl, rfl, rfl, rfl, rfl, rfl, rfl, rfl, rfl, rfl, rfl, rfl, rfl, rfl, rfl, rfl, rfl, rfl, rfl, rfl, rfl, rfl, rfl, rfl, rfl, rfl, rfl, rfl, rfl, rfl, rfl, trivial⟩⟩, ⟨rfl, rfl, rfl⟩, trivial⟩, trivial⟩)
    refine seqE ?_
    have hg := donE hg (x1.outD hi1 hb1)
    exact leafE hown hg
  have hg := finE hg (x1.fin hi1)
  refine seqE ?_
  refine seqE ?_
  refine loopLE hg [1, 2, 3] (fun x2 => [(9, .one (.v (.int .i64 ((x2.i : Nat) : Int))))]) (fun x2 => [.keep 0, .dead, .dead, .dead]) [some 0, none, none, none] ?_ (fun x2 => ?_)
  · exact ⟨rfl, ⟨rfl, rfl, rfl, ⟨rfl, rfl, rfl, rfl⟩, trivial⟩, ⟨⟨rfl, rfl, ⟨rfl, rfl, rfl, rfl, rfl, rfl, rfl, rfl, rfl, rfl, rfl, rfl, rfl, rfl, rfl, rfl, rfl, rfl, rfl, rfl, rfl, rfl, rfl, rfl, rfl, rfl, rfl, rfl, rfl, rfl, rfl, rfl, trivial⟩⟩, trivial⟩, trivial⟩
  refine seqE ?_
  refine seqE ?_
  refine lenM fun hN4 => ?_
  refine tstL (fun hi2 => ?_) (fun hi2 => ?_)
  · have hb2 := (x2.bdy hi2).trans (spec_l16Known_b2.eq_1 ..)
    have hw2 := wrap_succ hi2 (by first | assumption | omega)
    refine seqE ?_
    refine seqE ?_
    refine idxAt hi2 ?_
    refine brQ hb2 (fun hb2 h5 => ?_) (fun hb2 h5 => x2.goE hi2 hb2 [some 0, none, none, none] ⟨rfl, ⟨(eqInt hw2), rfl, rfl, ⟨rfl, rfl, rfl, rfl⟩, trivial⟩, ⟨⟨rfl, rfl, ⟨rfl, rfl, rfl, rfl, rfl, rfl, rfl, rfl, rfl, rfl, rfl, rfl, rfl, rfl, rfl, rfl, rfl, rfl, rfl, rfl, rfl, rfl, rfl, rfl, rfl, rfl, rfl, rfl, rfl, rfl, rfl, rfl, trivial⟩⟩, trivial⟩, trivial⟩)
    refine idxAt hi2 ?_
    refine brW hb2 (fun hb2 h6 => ?_) (fun hb2 h6 => x2.goE hi2 hb2 [some 0, none, none, none] ⟨rfl, ⟨(eqInt hw2), rfl, rfl, ⟨rfl, rfl, rfl, rfl⟩, trivial⟩, ⟨⟨rfl, rfl, ⟨rfl, rfl, rfl, rfl, rfl, rfl, rfl, rfl, rfl, rfl, rfl, rfl, rfl, rfl, rfl, rfl, rfl, rfl, rfl, rfl, rfl, rfl, rfl, rfl, rfl, rfl, rfl, rfl, rfl, rfl, rfl, rfl, trivial⟩⟩, trivial⟩, trivial⟩)
    refine idxAt hi2 ?_
    refine brQ hb2 (fun hb2 h7 => ?_) (fun hb2 h7 => x2.goE hi2 hb2 [some 0, none, none, none] ⟨rfl, ⟨(eqInt hw2), rfl, rfl, ⟨rfl, rfl, rfl, rfl⟩, trivial⟩, ⟨⟨rfl, rfl, ⟨rfl, rfl, rfl, rfl, rfl, rfl, rfl, rfl, rfl, rfl, rfl, rfl, rfl, rfl, rfl, rfl, rfl, rfl, rfl, rfl, rfl, rfl, rfl, rfl, rfl, rfl, rfl, rfl, rfl, rfl, rfl, rfl, trivial⟩⟩, trivial⟩, trivial⟩)
    refine idxAt hi2 ?_
    refine brQ hb2 (fun hb2 h8 => ?_) (fun hb2 h8 => x2.goE hi2 hb2 [some 0, none, none, none] ⟨rfl, ⟨(eqInt hw2), rfl, rfl, ⟨rfl, rfl, rfl, rfl⟩, trivial⟩, ⟨⟨rfl, rfl, ⟨rfl, rfl, rfl, rfl, rfl, rfl, rfl, rfl, rfl, rfl, rfl, rfl, rfl, rfl, rfl, rfl, rfl, rfl, rfl, rfl, rfl, rfl, rfl, rfl, rfl, rfl, rfl, rfl, rfl, rfl, rfl, rfl, trivial⟩⟩, trivial⟩, trivial⟩)
    refine seqE ?_
    have hg := donE hg (x2.outD hi2 hb2)
    exact leafE hown hg
  have hg := finE hg (x2.fin hi2)
  refine seqE ?_
  exact leafE hown hg
def spec_l16Stamps_b2 (p0 : World) (i2 : Nat) (s2 : Unit) (a2 : Trail) : Step (Unit) (Step (Unit) Bool) :=
  (bif (decide (a2.Stamp ≥ p0.Next)) then (.done (.done false)) else (bif (!(spec_l16Known p0 a2.Id a2.Stamp)) then (.done (.done false)) else (.next ())))
def spec_l16Stamps_b4 (p0 : World) (i4 : Nat) (s4 : Unit) (a4 : Timer) : Step (Unit) Bool :=
  (bif (!(spec_l1In a4.Id 1 (IntKind.i64.wrap (p0.Next - 1)))) then (.done false) else (bif (!(spec_l1In a4.Trace 1 999)) then (.done false) else (.next ())))
def spec_l16Stamps_b3 (p0 : World) (i3 : Nat) (s3 : Unit) (a3 : Verdict) : Step (Unit) Bool :=
  (bif (decide (a3.Stamp ≥ p0.Next)) then (.done false) else (.next ()))
def spec_l16Stamps_b1 (p0 : World) (i1 : Nat) (s1 : Unit) (a1 : Stripe) : Step (Unit) Bool :=
  (Fin.get (fun s2 => (.next ())) (loopL (spec_l16Stamps_b2 p0) 0 () a1.L))
def spec_l16Stamps (p0 : World) : Bool :=
  (Fin.get (fun s1 => (Fin.get (fun s3 => (Fin.get (fun s4 => true) (loopL (spec_l16Stamps_b4 p0) 0 () ((spec_Timers p0.W) ++ p0.Due)))) (loopL (spec_l16Stamps_b3 p0) 0 () p0.Cache))) (loopL (spec_l16Stamps_b1 p0) 0 () p0.St))
theorem c_spec_l16Stamps (p0 : World) (hs : World.bd 1048576 p0) : FnOk prog 59 [.agg ((World.cells false) p0)] ⟨.one (.v (.bool (spec_l16Stamps p0))), [], [], false⟩ := by
  refine FnOk.intro (E := env) envOk wide func59 rfl (by kernel_rfl) rfl rfl ?_
  have hg := spec_l16Stamps.eq_1 p0
  have hown : ∀ g : Bool, AV.Own (AV.one (.v (.bool g))) := fun g => .v _
  refine seqE ?_
  refine litE (m := 0) rfl ?_
  refine seqE ?_
  refine seqE ?_
  refine loopLE hg [1] (fun x1 => [(3, .one (.v (.int .i64 ((x1.i : Nat) : Int))))]) (fun x1 => [.keep 0]) [some 0] ?_ (fun x1 => ?_)
  · exact ⟨rfl, ⟨rfl, ⟨rfl, rfl, rfl, rfl⟩, trivial⟩, ⟨⟨rfl, rfl, ⟨rfl, rfl, rfl, rfl, rfl, rfl, rfl, rfl, rfl, rfl, rfl, rfl, rfl, rfl, rfl, rfl, rfl, rfl, rfl, rfl, rfl, rfl, rfl, rfl, rfl, rfl, rfl, rfl, rfl, rfl, rfl, rfl, trivial⟩⟩, trivial⟩, trivial⟩
  refine seqE ?_
  refine seqE ?_
  refine lenM fun hN1 => ?_
  refine tstL (fun hi1 => ?_) (fun hi1 => ?_)
  · have hb1 := (x1.bdy hi1).trans (spec_l16Stamps_b1.eq_1 ..)
    have hw1 := wrap_succ hi1 (by first | assumption | omega)
    refine seqE ?_
    refine seqE ?_
    refine loopLE hb1 [1, 3] (fun x2 => [(4, .one (.v (.int .i64 ((x2.i : Nat) : Int))))]) (fun x2 => [.keep 0]) [some 0] ?_ (fun x2 => ?_)
    · exact ⟨rfl, ⟨rfl, ⟨rfl, rfl, rfl, rfl⟩, rfl, trivial⟩, ⟨⟨rfl, rfl, ⟨rfl, rfl, rfl, rfl, rfl, rfl, rfl, rfl, rfl, rfl, rfl, rfl, rfl, rfl, rfl, rfl, rfl, rfl, rfl, rfl, rfl, rfl, rfl, rfl, rfl, rfl, rfl, rfl, rfl, rfl, rfl, rfl, trivial⟩⟩, trivial⟩, trivial⟩
    refine seqE ?_
    refine seqE ?_
    refine idxAt hi1 ?_
    refine lenM fun hN2 => ?_
    refine tstL (fun hi2 => ?_) (fun hi2 => ?_)
    · have hb2 := (x2.bdy hi2).trans (spec_l16Stamps_b2.eq_1 ..)
      have hw2 := wrap_succ hi2 (by first | assumption | omega)
      refine seqE ?_
      refine seqE ?_
      refine idxAt hi1 ?_
      refine idxAt hi2 ?_
      refine litE (m := 1) rfl ?_
      refine seqE ?_
      refine brDF hb2 (fun hb2 h3 => ?_) (fun hb2 h3 => ?_)
      · refine .inl (⟨_, _, c_spec_l16Known p0 ((p0.St[x1.i]'hi1).L[x2.i]'hi2).Id ((p0.St[x1.i]'hi1).L[x2.i]'hi2).Stamp (by first | exact hs | exact hs.2.2.2.1), (FzAs.same _), ?_⟩)
        refine litE (m := 3) rfl ?_
        refine brE hb2 (fun hb2 h4 => ?_) (fun hb2 h4 => x2.goE hi2 hb2 [some 0] ⟨rfl, ⟨(eqInt hw2), ⟨rfl, rfl, rfl, rfl⟩, rfl, trivial⟩, ⟨⟨rfl, rfl, ⟨rfl, rfl, rfl, rfl, rfl, rfl, rfl, rfl, rfl, rfl, rfl, rfl, rfl, rfl, rfl, rfl, rfl, rfl, rfl, rfl, rfl, rfl, rfl, rfl, rfl, rfl, rfl, rfl, rfl, rfl, rfl, rfl, trivial⟩⟩, trivial⟩, trivial⟩)
        refine seqE ?_
        have hb1 := donE hb1 (x2.outD hi2 hb2)
        have hg := donE hg (x1.outD hi1 hb1)
        exact leafE hown hg
      · refine seqE ?_
        have hb1 := donE hb1 (x2.outD hi2 hb2)
        have hg := donE hg (x1.outD hi1 hb1)
        exact leafE hown hg
    have hb1 := finE hb1 (x2.fin hi2)
    exact x1.goE hi1 hb1 [some 0] ⟨rfl, ⟨(eqInt hw1), ⟨rfl, rfl, rfl, rfl⟩, trivial⟩, ⟨⟨rfl, rfl, ⟨rfl, rfl, rfl, rfl, rfl, rfl, rfl, rfl, rfl, rfl, rfl, rfl, rfl, rfl, rfl, rfl, rfl, rfl, rfl, rfl, rfl, rfl, rfl, rfl, rfl, rfl, rfl, rfl, rfl, rfl, rfl, rfl, trivial⟩⟩, trivial⟩, trivial⟩
  have hg := finE hg (x1.fin hi1)
  refine seqE ?_
  refine seqE ?_
  refine loopLE hg [1] (fun x3 => [(6, .one (.v (.int .i64 ((x3.i : Nat) : Int))))]) (fun x3 => [.keep 0]) [some 0] ?_ (fun x3 => ?_)
  · exact ⟨rfl, ⟨rfl, ⟨rfl, rfl, rfl, rfl⟩, trivial⟩, ⟨⟨rfl, rfl, ⟨rfl, rfl, rfl, rfl, rfl, rfl, rfl, rfl, rfl, rfl, rfl, rfl, rfl, rfl, rfl, rfl, rfl, rfl, rfl, rfl, rfl, rfl, rfl, rfl, rfl, rfl, rfl, rfl, rfl, rfl, rfl, rfl, trivial⟩⟩, trivial⟩, trivial⟩
  refine seqE ?_
  refine seqE ?_
  refine lenM fun hN5 => ?_
  refine tstL (fun hi3 => ?_) (fun hi3 => ?_)
  · have hb3 := (x3.bdy hi3).trans (spec_l16Stamps_b3.eq_1 ..)
    have hw3 := wrap_succ hi3 (by first | assumption | omega)
    refine seqE ?_
    refine seqE ?_
    refine .inl ⟨by kernel_rfl, ?_⟩
    refine idxAt hi3 ?_
    refine brD hb3 (fun hb3 h6 => ?_) (fun hb3 h6 => x3.goE hi3 hb3 [some 0] ⟨rfl, ⟨(eqInt hw3), ⟨rfl, rfl, rfl, rfl⟩, trivial⟩, ⟨⟨rfl, rfl, ⟨rfl, rfl, rfl, rfl, rfl, rfl, rfl, rfl, rfl, rfl, rfl, rfl, rfl, rfl, rfl, rfl, rfl, rfl, rfl, rfl, rfl, rfl, rfl, rfl, rfl, rfl, rfl, rfl, rfl, rfl, rfl, rfl, trivial⟩⟩, trivial⟩, trivial⟩)
    refine seqE ?_
    have hg := donE hg (x3.outD hi3 hb3)
    exact leafE hown hg
  have hg := finE hg (x3.fin hi3)
  refine seqE ?_
  refine .inr (.inl ⟨5, [(0, true), (1, true), (3, true), (4, true), (2, false)], by kernel_rfl, ?_⟩)
  refine ⟨_, _, c_spec_Timers p0.W (by first | exact hs | exact hs.2.2.2.1), (FzAs.same _), ?_⟩
  refine litE (m := 2) rfl ?_
  refine .inl ?_
  refine rowsE (Y := List.map Timer.cells ((spec_Timers p0.W) ++ p0.Due)) (by first | rfl | (simp [subR0, subR1, -List.map_take, -List.map_drop, take_map', drop_map', fz_Timer, fl_Timer, fzMap fz_Timer, flMap fl_Timer]; done) | (simp [subR0, subR1, -List.map_take, -List.map_drop, take_map', drop_map', fz_Timer, fl_Timer, fzMap fz_Timer, flMap fl_Timer]; rfl)) ?_
  refine appB (b := 24) (hs := by have t1 := spec_Timers_len p0.W hs.2.2.2.1; have t2 : p0.Due.length ≤ 1048576 := hs.2.2.2.2.1.1; refine ⟨?_, ?_⟩; (show List.length _ * 24 ≤ _); (try simp only [List.length_map, List.length_append, List.length_cons, List.length_nil, List.length_take, List.length_drop]); omega; (try simp only [List.length_map, List.length_append, List.length_cons, List.length_nil, List.length_take, List.length_drop]); omega) ?_
  refine litE (m := 3) rfl ?_
  refine seqE ?_
  refine seqE ?_
  refine loopLE hg [1, 7] (fun x4 => [(8, .one (.v (.int .i64 ((x4.i : Nat) : Int))))]) (fun x4 => [.keep 0, .dead, .dead, .keep 3]) [some 0, none, none, some 3] ?_ (fun x4 => ?_)
  · exact ⟨rfl, ⟨rfl, ⟨rfl, rfl, rfl, rfl⟩, ⟨rfl, rfl, rfl, rfl, by (first | rfl | omega | (dsimp only; omega) | (simp; done) | (simp; omega) | (simp [LstSt.init, LstSt.step, LstInv.init, CntSt.init, CntSt.step, CntInv.init, WhlSt.init, WhlSt.step]; done) | (simp [LstSt.init, LstSt.step, LstInv.init, CntSt.init, CntSt.step, CntInv.init, WhlSt.init, WhlSt.step]; omega))⟩, trivial⟩, ⟨⟨rfl, rfl, ⟨rfl, rfl, rfl, rfl, rfl, rfl, rfl, rfl, rfl, rfl, rfl, rfl, rfl, rfl, rfl, rfl, rfl, rfl, rfl, rfl, rfl, rfl, rfl, rfl, rfl, rfl, rfl, rfl, rfl, rfl, rfl, rfl, trivial⟩⟩, ⟨rfl, rfl, rfl⟩, trivial⟩, trivial⟩
  refine seqE ?_
  refine seqE ?_
  refine lenE (k := (((spec_Timers p0.W) ++ p0.Due)).length) (by simp) (fun hN7 => ?_)
  refine tstL (fun hi4 => ?_) (fun hi4 => ?_)
  · have hb4 := (x4.bdy hi4).trans (spec_l16Stamps_b4.eq_1 ..)
    have hw4 := wrap_succ hi4 (by first | assumption | omega)
    refine seqE ?_
    refine seqE ?_
    refine .inl ⟨by kernel_rfl, ?_⟩
    refine andE (by (first | omega | (simp (disch := omega) only [wrap_small, mid_eq, List.length_map]; omega) | (simp; done) | (simp; omega) | (simp at *; omega) | (simp at *; done) | (simp_all; done) | (simp_all; omega))) ?_
    refine rowAtE (i := x4.i) (l := ((spec_Timers p0.W) ++ p0.Due)) (by first | rfl | exact Nat.zero_add _ | simp) hi4 ?_
    refine ⟨_, _, c_spec_l1In (((spec_Timers p0.W) ++ p0.Due)[x4.i]'hi4).Id 1 (IntKind.i64.wrap (p0.Next - 1)), (FzAs.same _), ?_⟩
    refine brF hb4 (fun hb4 h8 => ?_) (fun hb4 h8 => ?_)
    · refine andE (by (first | omega | (simp (disch := omega) only [wrap_small, mid_eq, List.length_map]; omega) | (simp; done) | (simp; omega) | (simp at *; omega) | (simp at *; done) | (simp_all; done) | (simp_all; omega))) ?_
      refine rowAtE (i := x4.i) (l := ((spec_Timers p0.W) ++ p0.Due)) (by first | rfl | exact Nat.zero_add _ | simp) hi4 ?_
      refine ⟨_, _, c_spec_l1In (((spec_Timers p0.W) ++ p0.Due)[x4.i]'hi4).Trace 1 999, (FzAs.same _), ?_⟩
      refine brE hb4 (fun hb4 h9 => ?_) (fun hb4 h9 => x4.goE hi4 hb4 [some 0, none, none, some 3] ⟨rfl, ⟨(eqInt hw4), ⟨rfl, rfl, rfl, rfl⟩, ⟨rfl, rfl, rfl, rfl, by (first | rfl | omega | (dsimp only; omega) | (simp; done) | (simp; omega) | (simp [LstSt.init, LstSt.step, LstInv.init, CntSt.init, CntSt.step, CntInv.init, WhlSt.init, WhlSt.step]; done) | (simp [LstSt.init, LstSt.step, LstInv.init, CntSt.init, CntSt.step, CntInv.init, WhlSt.init, WhlSt.step]; omega))⟩, trivial⟩, ⟨⟨rfl, rfl, ⟨rfl, rfl, rfl, rfl, rfl, rfl, rfl, rfl, rfl, rfl, rfl, rfl, rfl, rfl, rfl, rfl, rfl, rfl, rfl, rfl, rfl, rfl, rfl, rfl, rfl, rfl, rfl, rfl, rfl, rfl, rfl, rfl, trivial⟩⟩, ⟨rfl, rfl, rfl⟩, trivial⟩, trivial⟩)
      refine seqE ?_
      have hg := donE hg (x4.outD hi4 hb4)
      exact leafE hown hg
    · refine seqE ?_
      have hg := donE hg (x4.outD hi4 hb4)
      exact leafE hown hg
  have hg := finE hg (x4.fin hi4)
  refine seqE ?_
  exact leafE hown hg
def spec_SameSpan_b1 (p1 : Span) (i1 : Nat) (s1 : Unit) (a1 : Attr) : Step (Unit) Bool :=
  (bif (!((decide (a1.Key = (p1.Attrs[i1]?.getD default).Key)) && ((a1.Num == (p1.Attrs[i1]?.getD default).Num) && ((a1.N == (p1.Attrs[i1]?.getD default).N) && ((decide (a1.Text = (p1.Attrs[i1]?.getD default).Text)) && true))))) then (.done false) else (.next ()))
def spec_SameSpan (p0 : Span) (p1 : Span) : Bool :=
  (bif (p0.Trace != p1.Trace) then false else (bif (p0.Id != p1.Id) then false else (bif (p0.Start != p1.Start) then false else (bif (p0.End != p1.End) then false else (bif (!(p0.Err == p1.Err)) then false else (bif ((((p0.Attrs).length : Nat) : Int) != (((p1.Attrs).length : Nat) : Int)) then false else (Fin.get (fun s1 => true) (loopL (spec_SameSpan_b1 p1) 0 () p0.Attrs))))))))
theorem c_spec_SameSpan (p0 : Span) (p1 : Span) : FnOk prog 134 [.agg ((Span.cells false) p0), .agg ((Span.cells false) p1)] ⟨.one (.v (.bool (spec_SameSpan p0 p1))), [], [], false⟩ := by
  refine FnOk.intro (E := env) envOk wide func134 rfl (by kernel_rfl) rfl rfl ?_
  have hg := spec_SameSpan.eq_1 p0 p1
  have hown : ∀ g : Bool, AV.Own (AV.one (.v (.bool g))) := fun g => .v _
  refine seqE ?_
  refine litE (m := 0) rfl ?_
  refine litE (m := 1) rfl ?_
  refine seqE ?_
  refine seqE ?_
  refine brWF hg (fun hg h1 => ?_) (fun hg h1 => ?_)
  · refine brWF hg (fun hg h2 => ?_) (fun hg h2 => ?_)
    · refine brWF hg (fun hg h3 => ?_) (fun hg h3 => ?_)
      · refine brWF hg (fun hg h4 => ?_) (fun hg h4 => ?_)
        · refine brF hg (fun hg h5 => ?_) (fun hg h5 => ?_)
          · refine lenM fun hN6 => ?_
            refine lenM fun hN7 => ?_
            refine brW hg (fun hg h8 => ?_) (fun hg h8 => ?_)
            · refine seqE ?_
              exact leafE hown hg
            · refine seqE ?_
              refine seqE ?_
              refine loopLE hg [2, 3] (fun x1 => [(5, .one (.v (.int .i64 ((x1.i : Nat) : Int))))]) (fun x1 => [.keep 0, .keep 1]) [some 0, some 1] ?_ (fun x1 => ?_)
              · exact ⟨rfl, ⟨rfl, ⟨rfl, rfl, rfl, rfl⟩, ⟨rfl, rfl, rfl, rfl⟩, trivial⟩, ⟨⟨rfl, rfl, ⟨rfl, rfl, rfl, rfl, rfl, rfl, trivial⟩⟩, ⟨rfl, rfl, ⟨rfl, rfl, rfl, rfl, rfl, rfl, trivial⟩⟩, trivial⟩, trivial⟩
              refine seqE ?_
              refine seqE ?_
              refine lenM fun hN9 => ?_
              refine tstL (fun hi1 => ?_) (fun hi1 => ?_)
              · have hb1 := (x1.bdy hi1).trans (spec_SameSpan_b1.eq_1 ..)
                have hw1 := wrap_succ hi1 (by first | assumption | omega)
                refine seqE ?_
                refine seqE ?_
                refine .inl ⟨by kernel_rfl, ?_⟩
                refine idxAt hi1 ?_
                refine idxOf (l := p1.Attrs) (by (first | omega | (simp (disch := omega) only [wrap_small, mid_eq, List.length_map]; omega) | (simp; done) | (simp; omega) | (simp at *; omega) | (simp at *; done) | (simp_all; done) | (simp_all; omega))) (fun hq10 => ?_)
                refine brE hb1 (fun hb1 h11 => ?_) (fun hb1 h11 => x1.goE hi1 hb1 [some 0, some 1] ⟨rfl, ⟨(eqInt hw1), ⟨rfl, rfl, rfl, rfl⟩, ⟨rfl, rfl, rfl, rfl⟩, trivial⟩, ⟨⟨rfl, rfl, ⟨rfl, rfl, rfl, rfl, rfl, rfl, trivial⟩⟩, ⟨rfl, rfl, ⟨rfl, rfl, rfl, rfl, rfl, rfl, trivial⟩⟩, trivial⟩, trivial⟩)
                refine seqE ?_
                have hg := donE hg (x1.outD hi1 hb1)
                exact leafE hown hg
              have hg := finE hg (x1.fin hi1)
              refine seqE ?_
              exact leafE hown hg
          · refine seqE ?_
            exact leafE hown hg
        · refine seqE ?_
          exact leafE hown hg
      · refine seqE ?_
        exact leafE hown hg
    · refine seqE ?_
      exact leafE hown hg
  · refine seqE ?_
    exact leafE hown hg
def spec_l14NoSpan (p0 : Span) : Bool :=
  (spec_SameSpan p0 (Span.mk 0 0 0 0 false ([] : List Attr)))
theorem c_spec_l14NoSpan (p0 : Span) : FnOk prog 133 [.agg ((Span.cells false) p0)] ⟨.one (.v (.bool (spec_l14NoSpan p0))), [], [], false⟩ := by
  refine FnOk.intro (E := env) envOk wide func133 rfl (by kernel_rfl) rfl rfl ?_
  have hg := spec_l14NoSpan.eq_1 p0
  have hown : ∀ g : Bool, AV.Own (AV.one (.v (.bool g))) := fun g => .v _
  refine seqE ?_
  refine litE (m := 0) rfl ?_
  refine seqE ?_
  refine .inl (⟨_, _, c_spec_SameSpan p0 (Span.mk 0 0 0 0 false ([] : List Attr)), (FzAs.same _), ?_⟩)
  refine litE (m := 2) rfl ?_
  exact leafE hown hg
def spec_TaskOk_b1 (p0 : Task) (i1 : Nat) (s1 : Unit) (a1 : Item) : Step (Unit) Bool :=
  (bif (!(spec_ItemOk a1)) then (.done false) else (bif (a1.Stamp != p0.Stamp) then (.done false) else (.next ())))
def spec_TaskOk (p0 : Task) (p1 : Int) : Bool :=
  (bif (decide (p0.H < 0)) then false else (bif (!(spec_l1In p0.Pc 0 3)) then false else (bif (!(spec_l1In p1 0 4)) then false else (bif (p0.Op == 0) then (bif (p0.Pc == 0) then (bif (spec_l14NoSpan p0.S) then (bif (p0.Trace == 0) then (bif (p0.Stamp == 0) then (bif ((((p0.Hand).length : Nat) : Int) == 0) then (p0.H == 0) else false) else false) else false) else false) else false) else (bif (p0.Op == 1) then (bif (decide (p1 ≥ 3)) then false else (bif (!(spec_SpanOk p0.S)) then false else (bif (decide ((((p0.Hand).length : Nat) : Int) > 0)) then false else (bif (p0.Pc == 3) then (bif (spec_l1In p0.Trace 1 999) then (decide (p0.Stamp ≥ 1)) else false) else (bif (p0.Trace == 0) then (p0.Stamp == 0) else false))))) else (bif (p0.Op == 2) then (Fin.get (fun s1 => (bif (decide (p1 ≥ 3)) then (bif (spec_l14NoSpan p0.S) then (bif (spec_l1In p0.Trace 1 999) then (bif (decide (p0.Stamp ≥ 1)) then ((p0.Pc == 3) == (decide ((((p0.Hand).length : Nat) : Int) > 0))) else false) else false) else false) else false)) (loopL (spec_TaskOk_b1 p0) 0 () p0.Hand)) else false))))))
theorem c_spec_TaskOk (p0 : Task) (p1 : Int) : FnOk prog 94 [.agg ((Task.cells false) p0), .one (.v (.int .i64 p1))] ⟨.one (.v (.bool (spec_TaskOk p0 p1))), [], [], false⟩ := by
  refine FnOk.intro (E := env) envOk wide func94 rfl (by kernel_rfl) rfl rfl ?_
  have hg := spec_TaskOk.eq_1 p0 p1
  have hown : ∀ g : Bool, AV.Own (AV.one (.v (.bool g))) := fun g => .v _
  refine seqE ?_
  refine litE (m := 0) rfl ?_
  refine seqE ?_
  refine seqE ?_
  refine brDF hg (fun hg h1 => ?_) (fun hg h1 => ?_)
  · refine .inl (⟨_, _, c_spec_l1In p0.Pc 0 3, (FzAs.same _), ?_⟩)
    refine litE (m := 2) rfl ?_
    refine brF hg (fun hg h2 => ?_) (fun hg h2 => ?_)
    · refine .inl (⟨_, _, c_spec_l1In p1 0 4, (FzAs.same _), ?_⟩)
      refine litE (m := 3) rfl ?_
      refine brE hg (fun hg h3 => ?_) (fun hg h3 => ?_)
      · refine seqE ?_
        exact leafE hown hg
      · refine seqE ?_
        refine seqE ?_
        refine seqE ?_
        refine brQ hg (fun hg h4 => ?_) (fun hg h4 => ?_)
        · refine seqE ?_
          refine brQ hg (fun hg h5 => ?_) (fun hg h5 => leafE hown hg)
          refine .inl (⟨_, _, c_spec_l14NoSpan p0.S, (FzAs.same _), ?_⟩)
          refine litE (m := 4) rfl ?_
          refine brE hg (fun hg h6 => ?_) (fun hg h6 => leafE hown hg)
          refine brQ hg (fun hg h7 => ?_) (fun hg h7 => leafE hown hg)
          refine brQ hg (fun hg h8 => ?_) (fun hg h8 => leafE hown hg)
          refine lenM fun hN9 => ?_
          exact brQ hg (fun hg h10 => leafE hown hg) (fun hg h10 => leafE hown hg)
        · refine seqE ?_
          refine brQ hg (fun hg h11 => ?_) (fun hg h11 => ?_)
          · refine seqE ?_
            refine seqE ?_
            refine brDF hg (fun hg h12 => ?_) (fun hg h12 => ?_)
            · refine .inl (⟨_, _, c_spec_SpanOk p0.S, (FzAs.same _), ?_⟩)
              refine litE (m := 4) rfl ?_
              refine brF hg (fun hg h13 => ?_) (fun hg h13 => ?_)
              · refine lenM fun hN14 => ?_
                refine brD hg (fun hg h15 => ?_) (fun hg h15 => ?_)
                · refine seqE ?_
                  exact leafE hown hg
                · refine seqE ?_
                  refine seqE ?_
                  refine brQ hg (fun hg h16 => ?_) (fun hg h16 => ?_)
                  · refine seqE ?_
                    refine .inl (⟨_, _, c_spec_l1In p0.Trace 1 999, (FzAs.same _), ?_⟩)
                    refine litE (m := 5) rfl ?_
                    exact brE hg (fun hg h17 => leafE hown hg) (fun hg h17 => leafE hown hg)
                  · refine seqE ?_
                    exact brQ hg (fun hg h18 => leafE hown hg) (fun hg h18 => leafE hown hg)
              · refine seqE ?_
                exact leafE hown hg
            · refine seqE ?_
              exact leafE hown hg
          · refine seqE ?_
            refine brQ hg (fun hg h19 => ?_) (fun hg h19 => ?_)
            · refine seqE ?_
              refine seqE ?_
              refine loopLE hg [1, 2] (fun x1 => [(5, .one (.v (.int .i64 ((x1.i : Nat) : Int))))]) (fun x1 => [.keep 0, .dead, .dead]) [some 0, none, none] ?_ (fun x1 => ?_)
              · exact ⟨rfl, ⟨rfl, rfl, ⟨rfl, rfl, rfl, rfl⟩, trivial⟩, ⟨⟨rfl, rfl, ⟨rfl, rfl, rfl, rfl, rfl, rfl, rfl, rfl, rfl, rfl, rfl, rfl, trivial⟩⟩, trivial⟩, trivial⟩
              refine seqE ?_
              refine seqE ?_
              refine lenM fun hN20 => ?_
              refine tstL (fun hi1 => ?_) (fun hi1 => ?_)
              · have hb1 := (x1.bdy hi1).trans (spec_TaskOk_b1.eq_1 ..)
                have hw1 := wrap_succ hi1 (by first | assumption | omega)
                refine seqE ?_
                refine seqE ?_
                refine .inl ⟨by kernel_rfl, ?_⟩
                refine idxAt hi1 ?_
                refine ⟨_, _, c_spec_ItemOk (p0.Hand[x1.i]'hi1), (FzAs.same _), ?_⟩
                refine brF hb1 (fun hb1 h21 => ?_) (fun hb1 h21 => ?_)
                · refine idxAt hi1 ?_
                  refine brW hb1 (fun hb1 h22 => ?_) (fun hb1 h22 => x1.goE hi1 hb1 [some 0, none, none] ⟨rfl, ⟨(eqInt hw1), rfl, ⟨rfl, rfl, rfl, rfl⟩, trivial⟩, ⟨⟨rfl, rfl, ⟨rfl, rfl, rfl, rfl, rfl, rfl, rfl, rfl, rfl, rfl, rfl, rfl, trivial⟩⟩, trivial⟩, trivial⟩)
                  refine seqE ?_
                  have hg := donE hg (x1.outD hi1 hb1)
                  exact leafE hown hg
                · refine seqE ?_
                  have hg := donE hg (x1.outD hi1 hb1)
                  exact leafE hown hg
              have hg := finE hg (x1.fin hi1)
              refine seqE ?_
              refine brD hg (fun hg h23 => ?_) (fun hg h23 => leafE hown hg)
              refine .inl (⟨_, _, c_spec_l14NoSpan p0.S, (FzAs.same _), ?_⟩)
              refine litE (m := 4) rfl ?_
              refine brE hg (fun hg h24 => ?_) (fun hg h24 => leafE hown hg)
              refine .inl (⟨_, _, c_spec_l1In p0.Trace 1 999, (FzAs.same _), ?_⟩)
              refine litE (m := 5) rfl ?_
              refine brE hg (fun hg h25 => ?_) (fun hg h25 => leafE hown hg)
              refine brD hg (fun hg h26 => ?_) (fun hg h26 => leafE hown hg)
              refine lenM fun hN27 => ?_
              exact leafE hown hg
            · refine seqE ?_
              exact leafE hown hg
    · refine seqE ?_
      exact leafE hown hg
  · refine seqE ?_
    exact leafE hown hg
theorem spec_TaskOk_H {t : Task} {k : Int} (h : spec_TaskOk t k = true) : 0 ≤ t.H := by
  by_cases hq : t.H < 0
  · unfold spec_TaskOk at h
    rw [decide_eq_true hq] at h
    cases h
  · omega
def spec_l16Deed_j1 (p0 : World) (p1 : Int) : Step (Bool) Bool :=
  (bif ((p0.Deeds[((p0.Tasks[(p1).toNat]?.getD default).H).toNat]?.getD default).Task != p1) then (.done false) else (bif ((p0.Deeds[((p0.Tasks[(p1).toNat]?.getD default).H).toNat]?.getD default).Res != (-1)) then (.done false) else (bif ((p0.Tasks[(p1).toNat]?.getD default).Op == 2) then (.next (!(((p0.Deeds[((p0.Tasks[(p1).toNat]?.getD default).H).toNat]?.getD default).Lin != (-1)) == ((p0.Tasks[(p1).toNat]?.getD default).Pc == 3)))) else (.next (!(((p0.Deeds[((p0.Tasks[(p1).toNat]?.getD default).H).toNat]?.getD default).Lin != (-1)) == false))))))
def spec_l16Deed (p0 : World) (p1 : Int) : Bool :=
  (bif ((p0.Tasks[(p1).toNat]?.getD default).Op == 0) then true else (bif (decide ((p0.Tasks[(p1).toNat]?.getD default).H ≥ (((p0.Deeds).length : Nat) : Int))) then false else (Step.get (fun s1 => (bif s1 then false else (bif ((p0.Tasks[(p1).toNat]?.getD default).Op == 1) then (bif ((p0.Deeds[((p0.Tasks[(p1).toNat]?.getD default).H).toNat]?.getD default).Op == 1) then (spec_SameSpan (p0.Deeds[((p0.Tasks[(p1).toNat]?.getD default).H).toNat]?.getD default).S (p0.Tasks[(p1).toNat]?.getD default).S) else false) else (bif ((p0.Deeds[((p0.Tasks[(p1).toNat]?.getD default).H).toNat]?.getD default).Op == 2) then (bif ((p0.Deeds[((p0.Tasks[(p1).toNat]?.getD default).H).toNat]?.getD default).Trace == (p0.Tasks[(p1).toNat]?.getD default).Trace) then ((p0.Deeds[((p0.Tasks[(p1).toNat]?.getD default).H).toNat]?.getD default).Stamp == (p0.Tasks[(p1).toNat]?.getD default).Stamp) else false) else false)))) (spec_l16Deed_j1 p0 p1))))
theorem c_spec_l16Deed (p0 : World) (p1 : Int) (hk : 0 ≤ p1 ∧ p1 < ((p0.Tasks.length : Nat) : Int)) (hH : 0 ≤ (p0.Tasks[(p1).toNat]?.getD default).H) : FnOk prog 95 [.agg ((World.cells false) p0), .one (.v (.int .i64 p1))] ⟨.one (.v (.bool (spec_l16Deed p0 p1))), [], [], false⟩ := by
  refine FnOk.intro (E := env) envOk wide func95 rfl (by kernel_rfl) rfl rfl ?_
  have hg := spec_l16Deed.eq_1 p0 p1
  have hown : ∀ g : Bool, AV.Own (AV.one (.v (.bool g))) := fun g => .v _
  refine seqE ?_
  refine litE (m := 0) rfl ?_
  refine seqE ?_
  refine idxOf (l := p0.Tasks) (by first | omega | (first | omega | (dsimp only <;> omega) | (simp (disch := omega) only [wrap_small, mid_eq, mid_eq1, mid_eq2, mid_eq3, List.length_map, List.length_set] <;> omega) | (simp (disch := omega) only [wrap_small, mid_eq, mid_eq1, mid_eq2, mid_eq3, List.length_map, List.length_set] at * <;> omega))) (fun hq1 => ?_)
  refine litE (m := 1) rfl ?_
  refine seqE ?_
  refine seqE ?_
  refine brQ hg (fun hg h2 => ?_) (fun hg h2 => ?_)
  · refine seqE ?_
    exact leafE hown hg
  · refine seqE ?_
    refine seqE ?_
    refine lenM fun hN3 => ?_
    refine brD hg (fun hg h4 => ?_) (fun hg h4 => ?_)
    · refine seqE ?_
      exact leafE hown hg
    · refine seqE ?_
      refine idxOf (l := p0.Deeds) (by first | omega | (first | omega | (dsimp only <;> omega) | (simp (disch := omega) only [wrap_small, mid_eq, mid_eq1, mid_eq2, mid_eq3, List.length_map, List.length_set] <;> omega) | (simp (disch := omega) only [wrap_small, mid_eq, mid_eq1, mid_eq2, mid_eq3, List.length_map, List.length_set] at * <;> omega))) (fun hq5 => ?_)
      refine litE (m := 2) rfl ?_
      refine seqE ?_
      refine joinE hg [5, 6] (fun x1 => [(49, .one (.v (.bool x1.s)))]) (fun x1 => [.dead, .keep 1, .keep 2]) (fun hb1 => ?_) (fun x1 hg => ?_)
      · have hb1 := hb1.trans (spec_l16Deed_j1.eq_1 ..)
        refine brWF hb1 (fun hb1 h6 => ?_) (fun hb1 h6 => ?_)
        · refine brWF hb1 (fun hb1 h7 => brQ hb1 (fun hb1 h8 => .inl ⟨⟨_, hb1⟩, [none, some 1, some 2], ⟨rfl, ⟨rfl, ⟨rfl, rfl, rfl, rfl⟩, ⟨rfl, rfl, rfl, rfl⟩, trivial⟩, ⟨⟨rfl, rfl, ⟨rfl, rfl, rfl, rfl, rfl, rfl, rfl, rfl, rfl, rfl, rfl, rfl, trivial⟩⟩, ⟨rfl, rfl, ⟨rfl, rfl, rfl, rfl, rfl, rfl, rfl, rfl, rfl, rfl, rfl, rfl, rfl, rfl, rfl, rfl, rfl, rfl, rfl, rfl, trivial⟩⟩, trivial⟩, trivial⟩⟩) (fun hb1 h8 => .inl ⟨⟨_, hb1⟩, [none, some 1, some 2], ⟨rfl, ⟨rfl, ⟨rfl, rfl, rfl, rfl⟩, ⟨rfl, rfl, rfl, rfl⟩, trivial⟩, ⟨⟨rfl, rfl, ⟨rfl, rfl, rfl, rfl, rfl, rfl, rfl, rfl, rfl, rfl, rfl, rfl, trivial⟩⟩, ⟨rfl, rfl, ⟨rfl, rfl, rfl, rfl, rfl, rfl, rfl, rfl, rfl, rfl, rfl, rfl, rfl, rfl, rfl, rfl, rfl, rfl, rfl, rfl, trivial⟩⟩, trivial⟩, trivial⟩⟩)) (fun hb1 h7 => ?_)
          refine .inr ?_
          have hg := getD hg hb1
          refine seqE ?_
          exact leafE hown hg
        · refine .inr ?_
          have hg := getD hg hb1
          refine seqE ?_
          exact leafE hown hg
      refine brE hg (fun hg h9 => ?_) (fun hg h9 => ?_)
      · refine seqE ?_
        exact leafE hown hg
      · refine seqE ?_
        refine seqE ?_
        refine brQ hg (fun hg h10 => ?_) (fun hg h10 => ?_)
        · refine seqE ?_
          refine brQ hg (fun hg h11 => ?_) (fun hg h11 => leafE hown hg)
          refine .inl (⟨_, _, c_spec_SameSpan (p0.Deeds[((p0.Tasks[(p1).toNat]?.getD default).H).toNat]?.getD default).S (p0.Tasks[(p1).toNat]?.getD default).S, (FzAs.same _), ?_⟩)
          refine litE (m := 4) rfl ?_
          exact leafE hown hg
        · refine seqE ?_
          exact brQ hg (fun hg h12 => brQ hg (fun hg h13 => leafE hown hg) (fun hg h13 => leafE hown hg)) (fun hg h12 => leafE hown hg)
def spec_HoldsStripe_j1 (p0 : Task) : Step (Bool) Int :=
  (bif (p0.Op == 1) then (.next (p0.Pc == 1)) else (.next false))
def spec_HoldsStripe_j3 (p0 : Task) : Step (Bool) (Step (Bool) Int) :=
  (bif (p0.Op == 1) then (.next (p0.Pc == 3)) else (.next false))
def spec_HoldsStripe_j2 (p0 : Task) : Step (Bool) Int :=
  (Step.get (fun s3 => (bif s3 then (.next s3) else (bif (p0.Op == 2) then (bif (p0.Pc == 1) then (.next true) else (.next (p0.Pc == 2))) else (.done (-1))))) (spec_HoldsStripe_j3 p0))
def spec_HoldsStripe (p0 : Task) (p1 : Int) : Int :=
  (bif (decide (p1 < 1)) then (-1) else (Step.get (fun s1 => (bif s1 then (spec_StripeOf p0.S.Trace p1) else (Step.get (fun s2 => (bif s2 then (spec_StripeOf p0.Trace p1) else (-1))) (spec_HoldsStripe_j2 p0)))) (spec_HoldsStripe_j1 p0)))
theorem c_spec_HoldsStripe (p0 : Task) (p1 : Int) : FnOk prog 96 [.agg ((Task.cells false) p0), .one (.v (.int .i64 p1))] ⟨.one (.v (.int .i64 (spec_HoldsStripe p0 p1))), [], [], false⟩ := by
  refine FnOk.intro (E := env) envOk wide func96 rfl (by kernel_rfl) rfl rfl ?_
  have hg := spec_HoldsStripe.eq_1 p0 p1
  have hown : ∀ g : Int, AV.Own (AV.one (.v (.int .i64 g))) := fun g => .v _
  refine seqE ?_
  refine litE (m := 0) rfl ?_
  refine seqE ?_
  refine seqE ?_
  refine brD hg (fun hg h1 => ?_) (fun hg h1 => ?_)
  · refine seqE ?_
    exact leafE hown hg
  · refine seqE ?_
    refine joinE hg [1, 2] (fun x1 => [(7, .one (.v (.bool x1.s)))]) (fun x1 => [.keep 0]) (fun hb1 => ?_) (fun x1 hg => ?_)
    · have hb1 := hb1.trans (spec_HoldsStripe_j1.eq_1 ..)
      exact brQ hb1 (fun hb1 h2 => .inl ⟨⟨_, hb1⟩, [some 0], ⟨rfl, ⟨rfl, rfl, ⟨rfl, rfl, rfl, rfl⟩, trivial⟩, ⟨⟨rfl, rfl, ⟨rfl, rfl, rfl, rfl, rfl, rfl, rfl, rfl, rfl, rfl, rfl, rfl, trivial⟩⟩, trivial⟩, trivial⟩⟩) (fun hb1 h2 => .inl ⟨⟨_, hb1⟩, [some 0], ⟨rfl, ⟨rfl, rfl, ⟨rfl, rfl, rfl, rfl⟩, trivial⟩, ⟨⟨rfl, rfl, ⟨rfl, rfl, rfl, rfl, rfl, rfl, rfl, rfl, rfl, rfl, rfl, rfl, trivial⟩⟩, trivial⟩, trivial⟩⟩)
    refine brE hg (fun hg h3 => ?_) (fun hg h3 => ?_)
    · refine seqE ?_
      refine .inl (⟨_, _, c_spec_StripeOf p0.S.Trace p1, (FzAs.same _), ?_⟩)
      refine litE (m := 2) rfl ?_
      exact leafE hown hg
    · refine joinE hg [1, 2] (fun x2 => [(21, .one (.v (.bool x2.s)))]) (fun x2 => [.keep 0]) (fun hb2 => ?_) (fun x2 hg => ?_)
      · have hb2 := hb2.trans (spec_HoldsStripe_j2.eq_1 ..)
        refine joinE hb2 [1, 2] (fun x3 => [(21, .one (.v (.bool x3.s)))]) (fun x3 => [.keep 0]) (fun hb3 => ?_) (fun x3 hb2 => ?_)
        · have hb3 := hb3.trans (spec_HoldsStripe_j3.eq_1 ..)
          exact brQ hb3 (fun hb3 h4 => .inl ⟨⟨_, hb3⟩, [some 0], ⟨rfl, ⟨rfl, rfl, ⟨rfl, rfl, rfl, rfl⟩, trivial⟩, ⟨⟨rfl, rfl, ⟨rfl, rfl, rfl, rfl, rfl, rfl, rfl, rfl, rfl, rfl, rfl, rfl, trivial⟩⟩, trivial⟩, trivial⟩⟩) (fun hb3 h4 => .inl ⟨⟨_, hb3⟩, [some 0], ⟨rfl, ⟨rfl, rfl, ⟨rfl, rfl, rfl, rfl⟩, trivial⟩, ⟨⟨rfl, rfl, ⟨rfl, rfl, rfl, rfl, rfl, rfl, rfl, rfl, rfl, rfl, rfl, rfl, trivial⟩⟩, trivial⟩, trivial⟩⟩)
        refine brE hb2 (fun hb2 h5 => .inl ⟨⟨_, hb2⟩, [some 0], ⟨rfl, ⟨rfl, rfl, ⟨rfl, rfl, rfl, rfl⟩, trivial⟩, ⟨⟨rfl, rfl, ⟨rfl, rfl, rfl, rfl, rfl, rfl, rfl, rfl, rfl, rfl, rfl, rfl, trivial⟩⟩, trivial⟩, trivial⟩⟩) (fun hb2 h5 => ?_)
        refine brQ hb2 (fun hb2 h6 => brQF hb2 (fun hb2 h7 => .inl ⟨⟨_, hb2⟩, [some 0], ⟨rfl, ⟨rfl, rfl, ⟨rfl, rfl, rfl, rfl⟩, trivial⟩, ⟨⟨rfl, rfl, ⟨rfl, rfl, rfl, rfl, rfl, rfl, rfl, rfl, rfl, rfl, rfl, rfl, trivial⟩⟩, trivial⟩, trivial⟩⟩) (fun hb2 h7 => .inl ⟨⟨_, hb2⟩, [some 0], ⟨rfl, ⟨rfl, rfl, ⟨rfl, rfl, rfl, rfl⟩, trivial⟩, ⟨⟨rfl, rfl, ⟨rfl, rfl, rfl, rfl, rfl, rfl, rfl, rfl, rfl, rfl, rfl, rfl, trivial⟩⟩, trivial⟩, trivial⟩⟩)) (fun hb2 h6 => ?_)
        refine .inr ?_
        have hg := getD hg hb2
        refine seqE ?_
        exact leafE hown hg
      refine brE hg (fun hg h8 => ?_) (fun hg h8 => ?_)
      · refine seqE ?_
        refine .inl (⟨_, _, c_spec_StripeOf p0.Trace p1, (FzAs.same _), ?_⟩)
        refine litE (m := 2) rfl ?_
        exact leafE hown hg
      · refine seqE ?_
        exact leafE hown hg
theorem spec_HoldsStripe_lt (t : Task) (n : Int) : spec_HoldsStripe t n ≥ 0 → spec_HoldsStripe t n < n := by
  unfold spec_HoldsStripe
  by_cases hn : n < 1
  · rw [decide_eq_true hn, cond_true]; intro h; omega
  · rw [decide_eq_false hn, cond_false]
    have h1 := fun a => spec_StripeOf_lt a n (by omega)
    intro _
    have h2 : ∀ b : Bool, (bif b then (spec_StripeOf t.Trace n) else (-1)) < n := fun b => by cases b; (show (-1 : Int) < n; omega); exact h1 _
    have h3 : ∀ z : Step Bool Int, (∀ r, z = .done r → r < n) → Step.get (fun s2 => bif s2 then (spec_StripeOf t.Trace n) else (-1)) z < n := fun z hz => by cases z with
      | next s => exact h2 s
      | stop s => exact h2 s
      | done r => exact hz r rfl
    have h4 : ∀ r, spec_HoldsStripe_j2 t = .done r → r < n := by
      intro r h
      unfold spec_HoldsStripe_j2 spec_HoldsStripe_j3 at h
      cases ha : (t.Op == 1) <;> cases hb : (t.Pc == 3) <;> cases hc : (t.Op == 2) <;> cases hd : (t.Pc == 1) <;> rw [ha, hc, hd] at h <;> (try rw [hb] at h) <;> cases h <;> omega
    have h5 : ∀ b : Bool, (bif b then (spec_StripeOf t.S.Trace n) else Step.get (fun s2 => bif s2 then (spec_StripeOf t.Trace n) else (-1)) (spec_HoldsStripe_j2 t)) < n := fun b => by cases b; exact h3 _ h4; exact h1 _
    unfold spec_HoldsStripe_j1
    cases ha : (t.Op == 1)
    · exact h5 false
    · exact h5 (t.Pc == 1)
def spec_HoldsRule (p0 : Task) : Bool :=
  (bif (p0.Op == 2) then (p0.Pc == 2) else false)
theorem c_spec_HoldsRule (p0 : Task) : FnOk prog 97 [.agg ((Task.cells false) p0)] ⟨.one (.v (.bool (spec_HoldsRule p0))), [], [], false⟩ := by
  refine FnOk.intro (E := env) envOk wide func97 rfl (by kernel_rfl) rfl rfl ?_
  have hg := spec_HoldsRule.eq_1 p0
  have hown : ∀ g : Bool, AV.Own (AV.one (.v (.bool g))) := fun g => .v _
  refine seqE ?_
  refine litE (m := 0) rfl ?_
  refine seqE ?_
  exact brQ hg (fun hg h1 => leafE hown hg) (fun hg h1 => leafE hown hg)
def spec_l16Tasks_j3 (a2 : Task) (p0 : World) (s2 : (List Int) × Int) (i2 : Nat) : Step ((List Int)) (Step ((List Int) × Int) Bool) :=
  (bif (decide ((spec_HoldsStripe a2 (((p0.St).length : Nat) : Int)) ≥ 0)) then (bif ((s2.1[((spec_HoldsStripe a2 (((p0.St).length : Nat) : Int))).toNat]?.getD default) != (-1)) then (.done (.done false)) else (.next (List.set s2.1 ((spec_HoldsStripe a2 (((p0.St).length : Nat) : Int))).toNat ((i2 : Nat) : Int)))) else (.next s2.1))
def spec_l16Tasks_b4 (s2 : (List Int) × Int) (i4 : Nat) (s4 : Unit) (a4 : Stripe) : Step (Unit) Bool :=
  (bif (a4.Held != (s2.1[i4]?.getD default)) then (.done false) else (.next ()))
def spec_l16Tasks_b2 (p0 : World) (i2 : Nat) (s2 : (List Int) × Int) (a2 : Task) : Step ((List Int) × Int) Bool :=
  (bif (!(spec_TaskOk a2 ((i2 : Nat) : Int))) then (.done false) else (bif (!(spec_l16Deed p0 ((i2 : Nat) : Int))) then (.done false) else (bif (decide (a2.Stamp ≥ p0.Next)) then (.done false) else (Step.get (fun s3 => (bif (spec_HoldsRule a2) then (bif (s2.2 != (-1)) then (.done false) else (.next (s3, ((i2 : Nat) : Int)))) else (.next (s3, s2.2)))) (spec_l16Tasks_j3 a2 p0 s2 i2)))))
def spec_l16Tasks_b1 (i1 : Nat) (s1 : (List Int)) (a1 : Stripe) : Step ((List Int)) Bool :=
  (.next (s1 ++ [(-1)]))
def spec_l16Tasks (p0 : World) : Bool :=
  (Fin.get (fun s1 => (Fin.get (fun s2 => (Fin.get (fun s4 => (p0.RuleHeld == s2.2)) (loopL (spec_l16Tasks_b4 s2) 0 () p0.St))) (loopL (spec_l16Tasks_b2 p0) 0 (s1, (-1)) p0.Tasks))) (loopL spec_l16Tasks_b1 0 ([] : List Int) p0.St))
theorem spec_l16Tasks_len {a2 : Task} {p0 : World} {s2 : List Int × Int} {i2 : Nat} {v : List Int} (h : spec_l16Tasks_j3 a2 p0 s2 i2 = .next v) : v.length = s2.1.length := by
  unfold spec_l16Tasks_j3 at h
  simp only [Bool.cond_eq_ite] at h
  split at h
  · split at h
    · cases h
    · cases h; simp
  · cases h; rfl
theorem c_spec_l16Tasks (p0 : World) (hs : World.bd 1048576 p0) : FnOk prog 60 [.agg ((World.cells false) p0)] ⟨.one (.v (.bool (spec_l16Tasks p0))), [], [], false⟩ := by
  refine FnOk.intro (E := env) envOk wide func60 rfl (by kernel_rfl) rfl rfl ?_
  have hg := spec_l16Tasks.eq_1 p0
  have hown : ∀ g : Bool, AV.Own (AV.one (.v (.bool g))) := fun g => .v _
  refine seqE ?_
  refine litE (m := 0) rfl ?_
  refine seqE ?_
  refine litE (m := 1) rfl ?_
  refine seqE ?_
  refine seqE ?_
  refine loopLI (fun (i : Nat) (s : List Int) => s.length = i) hg (by rfl) [1] (fun x1 => [(3, .one (.n 1 [] 1 0 (x1.s).length)), (4, .one (.v (.int .i64 ((x1.i : Nat) : Int))))]) (fun x1 => [.keep 0, .new ⟨1, false, List.map cInt x1.s, 0⟩]) [some 0, some 1] ?_ (fun x1 => ?_)
  · exact ⟨rfl, ⟨⟨rfl, rfl, rfl, rfl, by (first | rfl | omega | (dsimp only; omega) | (simp; done) | (simp; omega) | (simp [LstSt.init, LstSt.step, LstInv.init, CntSt.init, CntSt.step, CntInv.init, WhlSt.init, WhlSt.step]; done) | (simp [LstSt.init, LstSt.step, LstInv.init, CntSt.init, CntSt.step, CntInv.init, WhlSt.init, WhlSt.step]; omega))⟩, rfl, ⟨rfl, rfl, rfl, rfl⟩, trivial⟩, ⟨⟨rfl, rfl, ⟨rfl, rfl, rfl, rfl, rfl, rfl, rfl, rfl, rfl, rfl, rfl, rfl, rfl, rfl, rfl, rfl, rfl, rfl, rfl, rfl, rfl, rfl, rfl, rfl, rfl, rfl, rfl, rfl, rfl, rfl, rfl, rfl, trivial⟩⟩, ⟨rfl, rfl, rfl⟩, trivial⟩, trivial⟩
  have hI1 := x1.hI
  try dsimp only at hI1
  refine seqE ?_
  refine seqE ?_
  refine lenM fun hN1 => ?_
  refine tstL (fun hi1 => ?_) (fun hi1 => ?_)
  · have hb1 := (x1.bdy hi1).trans (spec_l16Tasks_b1.eq_1 ..)
    have hw1 := wrap_succ hi1 (by first | assumption | omega)
    refine seqE ?_
    refine litE (m := 2) rfl ?_
    refine .inl ?_
    refine rowsE (Y := List.map cInt (x1.s ++ [(-1)])) (by first | rfl | (simp [subR0, subR1, -List.map_take, -List.map_drop, take_map', drop_map', fz_cInt, fl_cInt, fzMap fz_cInt, flMap fl_cInt]; done) | (simp [subR0, subR1, -List.map_take, -List.map_drop, take_map', drop_map', fz_cInt, fl_cInt, fzMap fz_cInt, flMap fl_cInt]; rfl)) ?_
    refine appB (b := 8) (hs := by have q1 := hI1; have q2 : p0.St.length ≤ 1048576 := hs.2.1.1; refine ⟨?_, ?_⟩; (show List.length _ * 8 ≤ _); (try simp only [List.length_map, List.length_append, List.length_cons, List.length_nil, List.length_take, List.length_drop]); omega; (try simp only [List.length_map, List.length_append, List.length_cons, List.length_nil, List.length_take, List.length_drop]); omega) ?_
    refine litE (m := 3) rfl ?_
    exact x1.goE hi1 hb1 (by have q1 := hI1; simp only [List.length_map, List.length_append, List.length_cons, List.length_nil, List.length_take, List.length_drop]; omega) [some 0, some 3] ⟨rfl, ⟨⟨rfl, rfl, rfl, rfl, by (first | rfl | omega | (dsimp only; omega) | (simp; done) | (simp; omega) | (simp [LstSt.init, LstSt.step, LstInv.init, CntSt.init, CntSt.step, CntInv.init, WhlSt.init, WhlSt.step]; done) | (simp [LstSt.init, LstSt.step, LstInv.init, CntSt.init, CntSt.step, CntInv.init, WhlSt.init, WhlSt.step]; omega))⟩, (eqInt hw1), ⟨rfl, rfl, rfl, rfl⟩, trivial⟩, ⟨⟨rfl, rfl, ⟨rfl, rfl, rfl, rfl, rfl, rfl, rfl, rfl, rfl, rfl, rfl, rfl, rfl, rfl, rfl, rfl, rfl, rfl, rfl, rfl, rfl, rfl, rfl, rfl, rfl, rfl, rfl, rfl, rfl, rfl, rfl, rfl, trivial⟩⟩, ⟨rfl, rfl, rfl⟩, trivial⟩, trivial⟩
  have hg := finE hg (x1.fin hi1)
  refine seqE ?_
  refine seqE ?_
  refine seqE ?_
  refine loopLI (fun (_ : Nat) (s : List Int × Int) => s.1.length = p0.St.length) hg (by have q := hI1; have q2 := x1.h; show List.length x1.s = _; omega) [1] (fun x2 => [(3, .one (.n 1 [] 1 0 (x2.s.1).length)), (5, .one (.v (.int .i64 x2.s.2))), (6, .one (.v (.int .i64 ((x2.i : Nat) : Int))))]) (fun x2 => [.keep 0, .new ⟨1, false, List.map cInt x2.s.1, 0⟩]) [some 0, some 1] ?_ (fun x2 => ?_)
  · exact ⟨rfl, ⟨⟨rfl, rfl, rfl, rfl, by (first | rfl | omega | (dsimp only; omega) | (simp; done) | (simp; omega) | (simp [LstSt.init, LstSt.step, LstInv.init, CntSt.init, CntSt.step, CntInv.init, WhlSt.init, WhlSt.step]; done) | (simp [LstSt.init, LstSt.step, LstInv.init, CntSt.init, CntSt.step, CntInv.init, WhlSt.init, WhlSt.step]; omega))⟩, rfl, rfl, ⟨rfl, rfl, rfl, rfl⟩, trivial⟩, ⟨⟨rfl, rfl, ⟨rfl, rfl, rfl, rfl, rfl, rfl, rfl, rfl, rfl, rfl, rfl, rfl, rfl, rfl, rfl, rfl, rfl, rfl, rfl, rfl, rfl, rfl, rfl, rfl, rfl, rfl, rfl, rfl, rfl, rfl, rfl, rfl, trivial⟩⟩, ⟨rfl, rfl, rfl⟩, trivial⟩, trivial⟩
  have hI2 := x2.hI
  try dsimp only at hI2
  refine seqE ?_
  refine seqE ?_
  refine lenM fun hN2 => ?_
  refine tstL (fun hi2 => ?_) (fun hi2 => ?_)
  · have hb2 := (x2.bdy hi2).trans (spec_l16Tasks_b2.eq_1 ..)
    have hw2 := wrap_succ hi2 (by first | assumption | omega)
    refine seqE ?_
    refine seqE ?_
    refine idxAt hi2 ?_
    refine litE (m := 2) rfl ?_
    refine seqE ?_
    refine seqE ?_
    refine .inl (⟨_, _, c_spec_TaskOk (p0.Tasks[x2.i]'hi2) ((x2.i : Nat) : Int), (FzAs.same _), ?_⟩)
    refine litE (m := 4) rfl ?_
    refine brF hb2 (fun hb2 h3 => ?_) (fun hb2 h3 => ?_)
    · refine .inl (⟨_, _, c_spec_l16Deed p0 ((x2.i : Nat) : Int) (by first | exact ⟨by omega, by omega⟩ | (rw [Int.toNat_natCast, List.getElem?_eq_getElem hi2]; exact spec_TaskOk_H (nf (by assumption)))) (by first | exact ⟨by omega, by omega⟩ | (rw [Int.toNat_natCast, List.getElem?_eq_getElem hi2]; exact spec_TaskOk_H (nf (by assumption)))), (FzAs.same _), ?_⟩)
      refine litE (m := 5) rfl ?_
      refine brF hb2 (fun hb2 h4 => ?_) (fun hb2 h4 => ?_)
      · refine brD hb2 (fun hb2 h5 => ?_) (fun hb2 h5 => ?_)
        · refine seqE ?_
          have hg := donE hg (x2.outD hi2 hb2)
          exact leafE hown hg
        · refine seqE ?_
          refine lenM fun hN6 => ?_
          refine .inl (⟨_, _, c_spec_HoldsStripe (p0.Tasks[x2.i]'hi2) (((p0.St).length : Nat) : Int), (FzAs.same _), ?_⟩)
          refine litE (m := 6) rfl ?_
          refine joinE hb2 [1, 5, 6, 7, 38, 39, 40, 41, 44, 45, 46, 47, 48] (fun x3 => [(3, .one (.n 1 [] 1 0 (x3.s).length))]) (fun x3 => [.keep 0, .new ⟨1, false, List.map cInt x3.s, 0⟩, .keep 2, .dead, .dead, .dead]) (fun hb3 => ?_) (fun x3 hb2 => ?_)
          · have hb3 := hb3.trans (spec_l16Tasks_j3.eq_1 ..)
            refine seqE ?_
            refine brD hb3 (fun hb3 h7 => ?_) (fun hb3 h7 => .inl ⟨⟨_, hb3⟩, [some 0, some 1, some 2, none, none, none], ⟨rfl, ⟨⟨rfl, rfl, rfl, rfl, by (first | rfl | omega | (dsimp only; omega) | (simp; done) | (simp; omega) | (simp [LstSt.init, LstSt.step, LstInv.init, CntSt.init, CntSt.step, CntInv.init, WhlSt.init, WhlSt.step]; done) | (simp [LstSt.init, LstSt.step, LstInv.init, CntSt.init, CntSt.step, CntInv.init, WhlSt.init, WhlSt.step]; omega))⟩, ⟨rfl, rfl, rfl, rfl⟩, rfl, rfl, ⟨rfl, rfl, rfl, rfl⟩, (eqAV_same rfl), rfl, rfl, rfl, ⟨rfl, rfl, rfl, rfl⟩, rfl, ⟨rfl, rfl, rfl, rfl⟩, rfl, rfl, trivial⟩, ⟨⟨rfl, rfl, ⟨rfl, rfl, rfl, rfl, rfl, rfl, rfl, rfl, rfl, rfl, rfl, rfl, rfl, rfl, rfl, rfl, rfl, rfl, rfl, rfl, rfl, rfl, rfl, rfl, rfl, rfl, rfl, rfl, rfl, rfl, rfl, rfl, trivial⟩⟩, ⟨rfl, rfl, rfl⟩, ⟨rfl, rfl, ⟨rfl, rfl, rfl, rfl, rfl, rfl, rfl, rfl, rfl, rfl, rfl, rfl, trivial⟩⟩, trivial⟩, trivial⟩⟩)
            refine seqE ?_
            refine seqE ?_
            refine andE (by first | omega | (simp only [List.length_map, List.length_replicate]; omega) | (have q := hI2; (try dsimp only at q); omega) | (have q := hI2; (try dsimp only at q); simp only [List.length_map, List.length_replicate]; omega) | (have q := spec_HoldsStripe_lt (p0.Tasks[x2.i]'hi2) ((p0.St.length : Nat) : Int) (by assumption); have q5 := hI2; (try dsimp only at q5); (try simp only [List.length_map, List.length_replicate]); omega) | (first | omega | (dsimp only <;> omega) | (simp (disch := omega) only [wrap_small, mid_eq, mid_eq1, mid_eq2, mid_eq3, List.length_map, List.length_set] <;> omega) | (simp (disch := omega) only [wrap_small, mid_eq, mid_eq1, mid_eq2, mid_eq3, List.length_map, List.length_set] at * <;> omega))) ?_
            refine rowGet (i := ((spec_HoldsStripe (p0.Tasks[x2.i]'hi2) (((p0.St).length : Nat) : Int))).toNat) (l := x2.s.1) (by first | rfl | exact Nat.zero_add _ | simp) (fun hq8 => ?_)
            refine brW hb3 (fun hb3 h9 => ?_) (fun hb3 h9 => ?_)
            · refine seqE ?_
              have hb2 := getD hb2 hb3
              have hg := donE hg (x2.outD hi2 hb2)
              exact leafE hown hg
            · refine andE (by first | omega | (simp only [List.length_map, List.length_replicate]; omega) | (have q := hI2; (try dsimp only at q); omega) | (have q := hI2; (try dsimp only at q); simp only [List.length_map, List.length_replicate]; omega) | (have q := spec_HoldsStripe_lt (p0.Tasks[x2.i]'hi2) ((p0.St.length : Nat) : Int) (by assumption); have q5 := hI2; (try dsimp only at q5); (try simp only [List.length_map, List.length_replicate]); omega) | (first | omega | (dsimp only <;> omega) | (simp (disch := omega) only [wrap_small, mid_eq, mid_eq1, mid_eq2, mid_eq3, List.length_map, List.length_set] <;> omega) | (simp (disch := omega) only [wrap_small, mid_eq, mid_eq1, mid_eq2, mid_eq3, List.length_map, List.length_set] at * <;> omega))) ?_
              refine rowsE (Y := List.map cInt (List.set x2.s.1 ((spec_HoldsStripe (p0.Tasks[x2.i]'hi2) (((p0.St).length : Nat) : Int))).toNat ((x2.i : Nat) : Int))) (by exact setMapE (by simp) (fun a ha => by first | rfl | (simp only [ha, Option.getD_some]; rfl) | (obtain ⟨_, rfl⟩ := List.getElem?_eq_some_iff.1 ha; rfl) | (simp only [Pol.cells_eq]; rfl) | (simp only [ha, Option.getD_some, Pol.cells_eq]; rfl))) ?_
              exact .inl ⟨⟨_, hb3⟩, [some 0, some 1, some 2, none, none, none], ⟨rfl, ⟨⟨rfl, rfl, rfl, rfl, by (first | rfl | omega | (dsimp only; omega) | (simp; done) | (simp; omega) | (simp [LstSt.init, LstSt.step, LstInv.init, CntSt.init, CntSt.step, CntInv.init, WhlSt.init, WhlSt.step]; done) | (simp [LstSt.init, LstSt.step, LstInv.init, CntSt.init, CntSt.step, CntInv.init, WhlSt.init, WhlSt.step]; omega))⟩, ⟨rfl, rfl, rfl, rfl⟩, rfl, rfl, ⟨rfl, rfl, rfl, rfl⟩, (eqAV_same rfl), rfl, rfl, rfl, ⟨rfl, rfl, rfl, rfl⟩, rfl, ⟨rfl, rfl, rfl, rfl⟩, rfl, rfl, trivial⟩, ⟨⟨rfl, rfl, ⟨rfl, rfl, rfl, rfl, rfl, rfl, rfl, rfl, rfl, rfl, rfl, rfl, rfl, rfl, rfl, rfl, rfl, rfl, rfl, rfl, rfl, rfl, rfl, rfl, rfl, rfl, rfl, rfl, rfl, rfl, rfl, rfl, trivial⟩⟩, ⟨rfl, rfl, rfl⟩, ⟨rfl, rfl, ⟨rfl, rfl, rfl, rfl, rfl, rfl, rfl, rfl, rfl, rfl, rfl, rfl, trivial⟩⟩, trivial⟩, trivial⟩⟩
          have q3 := spec_l16Tasks_len x3.e
          refine seqE ?_
          refine .inl (⟨_, _, c_spec_HoldsRule (p0.Tasks[x2.i]'hi2), (FzAs.same _), ?_⟩)
          refine litE (m := 7) rfl ?_
          refine brE hb2 (fun hb2 h10 => ?_) (fun hb2 h10 => x2.goE hi2 hb2 (by have q := hI2; have q4 := q3; show List.length x3.s = _; omega) [some 0, some 1] ⟨rfl, ⟨⟨rfl, rfl, rfl, rfl, by (first | rfl | omega | (dsimp only; omega) | (simp; done) | (simp; omega) | (simp [LstSt.init, LstSt.step, LstInv.init, CntSt.init, CntSt.step, CntInv.init, WhlSt.init, WhlSt.step]; done) | (simp [LstSt.init, LstSt.step, LstInv.init, CntSt.init, CntSt.step, CntInv.init, WhlSt.init, WhlSt.step]; omega))⟩, rfl, (eqInt hw2), ⟨rfl, rfl, rfl, rfl⟩, trivial⟩, ⟨⟨rfl, rfl, ⟨rfl, rfl, rfl, rfl, rfl, rfl, rfl, rfl, rfl, rfl, rfl, rfl, rfl, rfl, rfl, rfl, rfl, rfl, rfl, rfl, rfl, rfl, rfl, rfl, rfl, rfl, rfl, rfl, rfl, rfl, rfl, rfl, trivial⟩⟩, ⟨rfl, rfl, rfl⟩, trivial⟩, trivial⟩)
          refine seqE ?_
          refine seqE ?_
          refine brW hb2 (fun hb2 h11 => ?_) (fun hb2 h11 => x2.goE hi2 hb2 (by have q := hI2; have q4 := q3; show List.length x3.s = _; omega) [some 0, some 1] ⟨rfl, ⟨⟨rfl, rfl, rfl, rfl, by (first | rfl | omega | (dsimp only; omega) | (simp; done) | (simp; omega) | (simp [LstSt.init, LstSt.step, LstInv.init, CntSt.init, CntSt.step, CntInv.init, WhlSt.init, WhlSt.step]; done) | (simp [LstSt.init, LstSt.step, LstInv.init, CntSt.init, CntSt.step, CntInv.init, WhlSt.init, WhlSt.step]; omega))⟩, rfl, (eqInt hw2), ⟨rfl, rfl, rfl, rfl⟩, trivial⟩, ⟨⟨rfl, rfl, ⟨rfl, rfl, rfl, rfl, rfl, rfl, rfl, rfl, rfl, rfl, rfl, rfl, rfl, rfl, rfl, rfl, rfl, rfl, rfl, rfl, rfl, rfl, rfl, rfl, rfl, rfl, rfl, rfl, rfl, rfl, rfl, rfl, trivial⟩⟩, ⟨rfl, rfl, rfl⟩, trivial⟩, trivial⟩)
          refine seqE ?_
          have hg := donE hg (x2.outD hi2 hb2)
          exact leafE hown hg
      · refine seqE ?_
        have hg := donE hg (x2.outD hi2 hb2)
        exact leafE hown hg
    · refine seqE ?_
      have hg := donE hg (x2.outD hi2 hb2)
      exact leafE hown hg
  have hg := finE hg (x2.fin hi2)
  refine seqE ?_
  refine seqE ?_
  refine loopLE hg [1, 3, 5] (fun x4 => [(9, .one (.v (.int .i64 ((x4.i : Nat) : Int))))]) (fun x4 => [.keep 0, .keep 1]) [some 0, some 1] ?_ (fun x4 => ?_)
  · exact ⟨rfl, ⟨rfl, ⟨rfl, rfl, rfl, rfl⟩, ⟨rfl, rfl, rfl, rfl, by (first | rfl | omega | (dsimp only; omega) | (simp; done) | (simp; omega) | (simp [LstSt.init, LstSt.step, LstInv.init, CntSt.init, CntSt.step, CntInv.init, WhlSt.init, WhlSt.step]; done) | (simp [LstSt.init, LstSt.step, LstInv.init, CntSt.init, CntSt.step, CntInv.init, WhlSt.init, WhlSt.step]; omega))⟩, rfl, trivial⟩, ⟨⟨rfl, rfl, ⟨rfl, rfl, rfl, rfl, rfl, rfl, rfl, rfl, rfl, rfl, rfl, rfl, rfl, rfl, rfl, rfl, rfl, rfl, rfl, rfl, rfl, rfl, rfl, rfl, rfl, rfl, rfl, rfl, rfl, rfl, rfl, rfl, trivial⟩⟩, ⟨rfl, rfl, rfl⟩, trivial⟩, trivial⟩
  refine seqE ?_
  refine seqE ?_
  refine lenM fun hN12 => ?_
  refine tstL (fun hi4 => ?_) (fun hi4 => ?_)
  · have hb4 := (x4.bdy hi4).trans (spec_l16Tasks_b4.eq_1 ..)
    have hw4 := wrap_succ hi4 (by first | assumption | omega)
    refine seqE ?_
    refine seqE ?_
    refine .inl ⟨by kernel_rfl, ?_⟩
    refine idxAt hi4 ?_
    refine andE (by first | omega | (simp only [List.length_map, List.length_replicate]; omega) | (have q := hI2; (try dsimp only at q); omega) | (have q := hI2; (try dsimp only at q); simp only [List.length_map, List.length_replicate]; omega) | (have q := spec_HoldsStripe_lt (p0.Tasks[x2.i]'hi2) ((p0.St.length : Nat) : Int) (by assumption); have q5 := hI2; (try dsimp only at q5); (try simp only [List.length_map, List.length_replicate]); omega) | (first | omega | (dsimp only <;> omega) | (simp (disch := omega) only [wrap_small, mid_eq, mid_eq1, mid_eq2, mid_eq3, List.length_map, List.length_set] <;> omega) | (simp (disch := omega) only [wrap_small, mid_eq, mid_eq1, mid_eq2, mid_eq3, List.length_map, List.length_set] at * <;> omega))) ?_
    refine rowGet (i := x4.i) (l := x2.s.1) (by first | rfl | exact Nat.zero_add _ | simp) (fun hq13 => ?_)
    refine brW hb4 (fun hb4 h14 => ?_) (fun hb4 h14 => x4.goE hi4 hb4 [some 0, some 1] ⟨rfl, ⟨(eqInt hw4), ⟨rfl, rfl, rfl, rfl⟩, ⟨rfl, rfl, rfl, rfl, by (first | rfl | omega | (dsimp only; omega) | (simp; done) | (simp; omega) | (simp [LstSt.init, LstSt.step, LstInv.init, CntSt.init, CntSt.step, CntInv.init, WhlSt.init, WhlSt.step]; done) | (simp [LstSt.init, LstSt.step, LstInv.init, CntSt.init, CntSt.step, CntInv.init, WhlSt.init, WhlSt.step]; omega))⟩, rfl, trivial⟩, ⟨⟨rfl, rfl, ⟨rfl, rfl, rfl, rfl, rfl, rfl, rfl, rfl, rfl, rfl, rfl, rfl, rfl, rfl, rfl, rfl, rfl, rfl, rfl, rfl, rfl, rfl, rfl, rfl, rfl, rfl, rfl, rfl, rfl, rfl, rfl, rfl, trivial⟩⟩, ⟨rfl, rfl, rfl⟩, trivial⟩, trivial⟩)
    refine seqE ?_
    have hg := donE hg (x4.outD hi4 hb4)
    exact leafE hown hg
  have hg := finE hg (x4.fin hi4)
  refine seqE ?_
  exact leafE hown hg
def spec_WorldOk_j1 (p0 : World) : Step (Unit) Bool :=
  (bif (!(spec_ConfOk p0.C)) then (.done false) else (bif (decide (p0.Time < 0)) then (.done false) else (bif (decide (p0.Next < 1)) then (.done false) else (bif (!(spec_StripesOk p0.St)) then (.done false) else (bif ((((p0.St).length : Nat) : Int) != p0.C.Stripes) then (.done false) else (bif (!(spec_BucketOk p0.B)) then (.done false) else (bif (p0.B.Rate != p0.C.Rate) then (.done false) else (bif (p0.B.Burst != p0.C.Burst) then (.done false) else (bif (decide (p0.B.At > p0.W.Now)) then (.done false) else (bif (!(spec_CacheOk p0.Cache p0.C.Cache)) then (.done false) else (bif (p0.Used != (spec_HeldBytes p0.St)) then (.done false) else (bif (decide (p0.Used > p0.C.Budget)) then (.done false) else (bif (!(spec_WheelOk p0.W)) then (.done false) else (bif (decide (p0.W.Now > 100000)) then (.done false) else (bif p0.Shut then (bif (decide (((((spec_Timers p0.W)).length : Nat) : Int) > 0)) then (.done false) else (bif (decide ((((p0.Queue).length : Nat) : Int) > p0.C.Queue)) then (.done false) else (.next ()))) else (bif (decide ((((p0.Queue).length : Nat) : Int) > p0.C.Queue)) then (.done false) else (.next ())))))))))))))))))
def spec_WorldOk_b4 (p0 : World) (i4 : Nat) (s4 : Unit) (a4 : Deed) : Step (Unit) Bool :=
  (bif (!(spec_DeedOk a4)) then (.done false) else (bif (decide (a4.Inv ≥ p0.Time)) then (.done false) else (bif (decide (a4.Lin ≥ p0.Time)) then (.done false) else (bif (decide (a4.Res ≥ p0.Time)) then (.done false) else (.next ())))))
def spec_WorldOk_b3 (i3 : Nat) (s3 : Unit) (a3 : Item) : Step (Unit) Bool :=
  (bif (!(spec_ItemOk a3)) then (.done false) else (.next ()))
def spec_WorldOk_b2 (i2 : Nat) (s2 : Unit) (a2 : Item) : Step (Unit) Bool :=
  (bif (!(spec_ItemOk a2)) then (.done false) else (.next ()))
def spec_WorldOk (p0 : World) : Bool :=
  (Step.get (fun s1 => (bif ((((p0.Tasks).length : Nat) : Int) != 5) then false else (Fin.get (fun s2 => (Fin.get (fun s3 => (Fin.get (fun s4 => (bif (spec_l16Stamps p0) then (spec_l16Tasks p0) else false)) (loopL (spec_WorldOk_b4 p0) 0 () p0.Deeds))) (loopL spec_WorldOk_b3 0 () p0.Out))) (loopL spec_WorldOk_b2 0 () p0.Queue)))) (spec_WorldOk_j1 p0))
theorem c_spec_WorldOk (p0 : World) (hs : World.bd 1048576 p0) : FnOk prog 20 [.agg ((World.cells false) p0)] ⟨.one (.v (.bool (spec_WorldOk p0))), [], [], false⟩ := by
  refine FnOk.intro (E := env) envOk wide func20 rfl (by kernel_rfl) rfl rfl ?_
  have hg := spec_WorldOk.eq_1 p0
  have hown : ∀ g : Bool, AV.Own (AV.one (.v (.bool g))) := fun g => .v _
  refine seqE ?_
  refine litE (m := 0) rfl ?_
  refine seqE ?_
  refine joinE hg [1] (fun x1 => [(131, .one (.v (.bool ((((p0.Tasks).length : Nat) : Int) != 5))))]) (fun x1 => [.keep 0, .dead, .dead]) (fun hb1 => ?_) (fun x1 hg => ?_)
  · have hb1 := hb1.trans (spec_WorldOk_j1.eq_1 ..)
    refine .inr (.inr (.inr (.inr ⟨[(110, [(0, true), (1, true), (2, true), (3, true), (4, true), (5, true), (6, true), (7, true), (8, true), (9, true), (10, true), (11, true), (12, true), (13, true), (14, true), (15, true), (16, true), (17, true), (18, true), (19, true), (20, true), (21, true), (22, true), (23, true), (24, true), (25, true), (26, true), (27, true), (28, true), (29, true), (30, true), (31, true), (32, true), (33, true), (34, true), (35, true), (36, true), (37, true), (38, true), (39, true), (40, true), (41, true), (42, true), (43, true), (44, true), (45, true), (46, true), (47, true), (48, true), (49, true), (50, true), (51, true), (52, true), (53, true), (54, true), (55, true), (56, true), (57, true), (58, true), (59, true), (60, true), (61, true), (62, true), (63, true), (64, true), (65, true), (66, true), (67, true), (68, true), (69, true), (70, true), (71, true), (72, true), (73, true), (74, true), (75, true), (76, true), (77, true), (78, true), (79, true), (80, true), (81, true), (82, true), (83, true), (84, true), (85, true), (86, true), (87, true), (88, true), (89, true), (90, true), (91, true), (92, true), (93, true), (94, true), (95, true), (96, true), (97, true), (98, true), (99, true), (100, true), (101, true), (102, true), (103, true), (104, true), (105, false), (106, false), (107, false), (108, false), (109, false)]), (125, [(110, true), (111, true), (112, true), (113, true), (114, true), (115, true), (116, true), (117, true), (118, true), (119, true), (120, true), (121, true), (122, true), (123, true), (124, true)])], regionF_ok (tab := [(0, 128, 2), (1, 256, 128), (2, 512, 256), (4, 1024, 512), (12, 2048, 1024), (16, 4096, 2050), (48, 8192, 6144), (80, 16384, 10240), (144, 32768, 18432), (272, 65536, 32768), (512, 131072, 65538), (1536, 262144, 196608), (2560, 524288, 327680), (4608, 1048576, 589824), (8704, 2097152, 1048576), (16384, 4194304, 2097154), (49152, 8388608, 6291456), (81920, 16777216, 10485760), (147456, 33554432, 18874368), (278528, 67108864, 35651584), (655360, 134217728, 67108864), (1048576, 268435456, 134217730), (3145728, 536870912, 402653184), (5242880, 1073741824, 671088640), (1048576, 2147483648, 134217730), (17825792, 4294967296, 2281701376), (34603008, 8589934592, 4429185024), (76546048, 17179869184, 9797894144), (135266304, 34359738368, 17314086912), (269484032, 68719476736, 34359738368), (536870912, 137438953472, 68719476738), (1610612736, 274877906944, 206158430208), (2684354560, 549755813888, 343597383680), (4831838208, 1099511627776, 618475290624), (9126805504, 2199023255552, 1168231104512), (21474836480, 4398046511104, 2199023255552), (34359738368, 8796093022208, 4398046511106), (103079215104, 17592186044416, 13194139533312), (171798691840, 35184372088832, 21990232555520), (34359738368, 70368744177664, 4398046511106), (584115552256, 140737488355328, 74766790688768), (1133871366144, 281474976710656, 145135534866432), (2508260900864, 562949953421312, 321057395310592), (4432406249472, 1125899906842624, 567347999932416), (8830452760576, 2251799813685248, 1125899906842624), (17592186044416, 4503599627370496, 2251799813685250), (52776558133248, 9007199254740992, 6755399441055744), (87960930222080, 18014398509481984, 11258999068426240), (17592186044416, 36028797018963968, 2251799813685250), (299067162755072, 72057594037927936, 38280596832649216), (580542139465728, 144115188075855872, 74309393851613184), (1284229581242368, 288230376151711744, 164381386399023104), (2269391999729664, 576460752303423488, 290482175965396992), (4521191813414912, 1152921504606846976, 576460752303423488), (9007199254740992, 2305843009213693952, 1152921504606846978), (27021597764222976, 4611686018427387904, 3458764513820540928), (45035996273704960, 9223372036854775808, 5764607523034234880), (9007199254740992, 18446744073709551616, 1152921504606846978), (153122387330596864, 36893488147419103232, 19599665578316398592), (297237575406452736, 73786976294838206464, 38046409652025950208), (657525545596092416, 147573952589676412928, 84163269836299829248), (1161928703861587968, 295147905179352825856, 148726874094283259904), (2314850208468434944, 590295810358705651712, 295147905179352825856), (4611686018427387904, 1180591620717411303424, 590295810358705651714), (13835058055282163712, 2361183241434822606848, 1770887431076116955136), (4611686018427387904, 4722366482869645213696, 590295810358705651714), (41505174165846491136, 9444732965739290427392, 5312662293228350865408), (78398662313265594368, 18889465931478580854784, 10035028776097996079104), (170632382681813352448, 37778931862957161709568, 21840944983272109113344), (299759591197780213760, 75557863725914323419136, 38369227673315867361280), (594907496377133039616, 151115727451828646838272, 76148159536273029070848), (1475739525896764129280, 302231454903657293676544, 151115727451828646838272), (2361183241434822606848, 604462909807314587353088, 302231454903657293676546), (7083549724304467820544, 1208925819614629174706176, 906694364710971881029632), (2361183241434822606848, 2417851639229258349412352, 302231454903657293676546), (21250649172913403461632, 4835703278458516698824704, 2720083094132915643088896), (40140115104391984316416, 9671406556917033397649408, 5137934733362173992501248), (87363779933088436453376, 19342813113834066795298816, 11182563831435319866032128), (153476910693263469445120, 38685626227668133590597632, 19645044568737724088975360), (377789318629571617095680, 77371252455336267181195264, 38685626227668133590597632), (604462909807314587353088, 154742504910672534362390528, 77371252455336267181195266), (1813388729421943762059264, 309485009821345068724781056, 232113757366008801543585792), (604462909807314587353088, 618970019642690137449562112, 77371252455336267181195266), (5440166188265831286177792, 1237940039285380274899124224, 696341272098026404630757376), (10275869466724347985002496, 2475880078570760549798248448, 1315311291740716542080319488), (22365127662870639732064256, 4951760157141521099596496896, 2862736340847441885704224768), (39290089137475448177950720, 9903520314283042199192993792, 5029131409596857366777692160), (77975715365143581768548352, 19807040628566084398385987584, 9903520314283042199192993792), (154742504910672534362390528, 39614081257132168796771975168, 19807040628566084398385987586), (464227514732017603087171584, 79228162514264337593543950336, 59421121885698253195157962752), (773712524553362671811952640, 158456325028528675187087900672, 99035203142830421991929937920), (1392682544196052809261514752, 316912650057057350374175801344, 178263365657094759585473888256), (2630622583481433084160638976, 633825300114114700748351602688, 336719690685623434772561788928), (6189700196426901374495621120, 1267650600228229401496703205376, 633825300114114700748351602688), (9903520314283042199192993792, 2535301200456458802993406410752, 1267650600228229401496703205378), (29710560942849126597578981376, 5070602400912917605986812821504, 3802951800684688204490109616128), (49517601571415210995964968960, 10141204801825835211973625643008, 6338253001141147007483516026880), (89131682828547379792736944128, 20282409603651670423947251286016, 11408855402054064613470328848384), (168359845342811717386280894464, 40564819207303340847894502572032, 21550060203879899825443954491392), (326816170371340392573368795136, 81129638414606681695789005144064, 40564819207303340847894502572032), (633825300114114700748351602688, 162259276829213363391578010288128, 81129638414606681695789005144066), (1901475900342344102245054808064, 324518553658426726783156020576256, 243388915243820045087367015432192), (3169126500570573503741758013440, 649037107316853453566312041152512, 405648192073033408478945025720320), (5070602400912917605986812821504, 1298074214633706907132624082305024, 649037107316853453566312041152514), (15211807202738752817960438464512, 2596148429267413814265248164610048, 1947111321950560360698936123457536), (25353012004564588029934064107520, 5192296858534827628530496329220096, 3245185536584267267831560205762560), (45635421608216258453881315393536, 10384593717069655257060992658440192, 5841333965851681082096808370372608), (86200240815519599301775817965568, 20769187434139310514121985316880384, 11033630824386508710627304699592704), (167963704530240395698313174712320, 41538374868278621028243970633760768, 21499354179870770649384086363176960), (325152378958540841483904372178944, 83076749736557242056487941267521536, 41619504506693227709939759638904832), (689601926524156794414206543724544, 166153499473114484112975882535043072, 83076749736557242056487941267521536), (1298074214633706907132624082305024, 332306998946228968225951765070086144, 166153499473114484112975882535043074), (3894222643901120721397872246915072, 664613997892457936451903530140172288, 498460498419343452338927647605129216), (6490371073168534535663120411525120, 1329227995784915872903807060280344576, 830767497365572420564879412675215360), (1298074214633706907132624082305024, 2658455991569831745807614120560689152, 166153499473114484112975882535043074), (22067261648773017421254609399185408, 5316911983139663491615228241121378304, 2824609491042946229920590003095732224), (42836449082912327935376594716065792, 10633823966279326983230456482242756608, 5483065482612777975728204123656421376), (94759417668260604220681558008266752, 21267647932558653966460912964485513216, 12129205461537357340247239425058144256), (167451573687748191020108506617348096, 42535295865117307932921825928971026432, 21433801432031768450573888847020556288), (333605073160862675133084389152391168, 85070591730234615865843651857942052864, 42535295865117307932921825928971026432), (664613997892457936451903530140172288, 170141183460469231731687303715884105728, 85070591730234615865843651857942052866), (1993841993677373809355710590420516864, 340282366920938463463374607431768211456, 255211775190703847597530955573826158592), (3323069989462289682259517650700861440, 680564733841876926926749214863536422912, 425352958651173079329218259289710264320), (5981525981032121428067131771261550592, 1361129467683753853853498429727072845824, 765635325572111542792592866721478475776), (11298437964171784919682360012382928896, 2722258935367507707706996859454145691648, 1446200059413988469719342081585014898688)]) (by kernel_rfl), ?_⟩)))
    refine ⟨_, _, c_spec_ConfOk p0.C, (FzAs.same _), ?_⟩
    refine brF hb1 (fun hb1 h1 => ?_) (fun hb1 h1 => ?_)
    · refine brDF hb1 (fun hb1 h2 => ?_) (fun hb1 h2 => ?_)
      · refine brDF hb1 (fun hb1 h3 => ?_) (fun hb1 h3 => ?_)
        · refine ⟨_, _, c_spec_StripesOk p0.St (by first | exact hs | exact hs.2.1 | exact hs.2.2.2.1 | exact trivial), (FzAs.same _), ?_⟩
          refine brF hb1 (fun hb1 h4 => ?_) (fun hb1 h4 => ?_)
          · refine lenM fun hN5 => ?_
            refine brWF hb1 (fun hb1 h6 => ?_) (fun hb1 h6 => ?_)
            · refine ⟨_, _, c_spec_BucketOk p0.B, (FzAs.same _), ?_⟩
              refine brF hb1 (fun hb1 h7 => ?_) (fun hb1 h7 => ?_)
              · refine brWF hb1 (fun hb1 h8 => ?_) (fun hb1 h8 => ?_)
                · refine brWF hb1 (fun hb1 h9 => ?_) (fun hb1 h9 => ?_)
                  · refine brDF hb1 (fun hb1 h10 => ?_) (fun hb1 h10 => ?_)
                    · refine ⟨_, _, c_spec_CacheOk p0.Cache p0.C.Cache, (FzAs.same _), ?_⟩
                      refine brF hb1 (fun hb1 h11 => ?_) (fun hb1 h11 => ?_)
                      · refine ⟨_, _, c_spec_HeldBytes p0.St, (FzAs.same _), ?_⟩
                        refine brWF hb1 (fun hb1 h12 => ?_) (fun hb1 h12 => ?_)
                        · refine brDF hb1 (fun hb1 h13 => ?_) (fun hb1 h13 => ?_)
                          · refine ⟨_, _, c_spec_WheelOk p0.W (by first | exact hs | exact hs.2.1 | exact hs.2.2.2.1 | exact trivial), (FzAs.same _), ?_⟩
                            refine brF hb1 (fun hb1 h14 => ?_) (fun hb1 h14 => ?_)
                            · refine brDF hb1 (fun hb1 h15 => ?_) (fun hb1 h15 => ?_)
                              · refine brE hb1 (fun hb1 h16 => ?_) (fun hb1 h16 => ?_)
                                · refine ⟨_, _, c_spec_Timers p0.W (by first | exact hs | exact hs.2.1 | exact hs.2.2.2.1 | exact trivial), (FzAs.same _), ?_⟩
                                  refine litE (m := 2) rfl ?_
                                  refine lenE (k := ((spec_Timers p0.W)).length) (by simp) (fun hN17 => ?_)
                                  refine brDF hb1 (fun hb1 h18 => ?_) (fun hb1 h18 => ?_)
                                  · refine lenM fun hN19 => ?_
                                    refine brDF hb1 (fun hb1 h20 => ?_) (fun hb1 h20 => ?_)
                                    · refine lenM fun hN21 => ?_
                                      exact .inl ⟨⟨_, hb1⟩, [some 0, none, none], ⟨rfl, ⟨rfl, ⟨rfl, rfl, rfl, rfl⟩, trivial⟩, ⟨⟨rfl, rfl, ⟨rfl, rfl, rfl, rfl, rfl, rfl, rfl, rfl, rfl, rfl, rfl, rfl, rfl, rfl, rfl, rfl, rfl, rfl, rfl, rfl, rfl, rfl, rfl, rfl, rfl, rfl, rfl, rfl, rfl, rfl, rfl, rfl, trivial⟩⟩, trivial⟩, trivial⟩⟩
                                    · refine .inr ?_
                                      have hg := getD hg hb1
                                      refine seqE ?_
                                      exact leafE hown hg
                                  · refine .inr ?_
                                    have hg := getD hg hb1
                                    refine seqE ?_
                                    exact leafE hown hg
                                · refine lenM fun hN22 => ?_
                                  refine brDF hb1 (fun hb1 h23 => ?_) (fun hb1 h23 => ?_)
                                  · refine lenM fun hN24 => ?_
                                    exact .inl ⟨⟨_, hb1⟩, [some 0, none, none], ⟨rfl, ⟨rfl, ⟨rfl, rfl, rfl, rfl⟩, trivial⟩, ⟨⟨rfl, rfl, ⟨rfl, rfl, rfl, rfl, rfl, rfl, rfl, rfl, rfl, rfl, rfl, rfl, rfl, rfl, rfl, rfl, rfl, rfl, rfl, rfl, rfl, rfl, rfl, rfl, rfl, rfl, rfl, rfl, rfl, rfl, rfl, rfl, trivial⟩⟩, trivial⟩, trivial⟩⟩
                                  · refine .inr ?_
                                    have hg := getD hg hb1
                                    refine seqE ?_
                                    exact leafE hown hg
                              · refine .inr ?_
                                have hg := getD hg hb1
                                refine seqE ?_
                                exact leafE hown hg
                            · refine .inr ?_
                              have hg := getD hg hb1
                              refine seqE ?_
                              exact leafE hown hg
                          · refine .inr ?_
                            have hg := getD hg hb1
                            refine seqE ?_
                            exact leafE hown hg
                        · refine .inr ?_
                          have hg := getD hg hb1
                          refine seqE ?_
                          exact leafE hown hg
                      · refine .inr ?_
                        have hg := getD hg hb1
                        refine seqE ?_
                        exact leafE hown hg
                    · refine .inr ?_
                      have hg := getD hg hb1
                      refine seqE ?_
                      exact leafE hown hg
                  · refine .inr ?_
                    have hg := getD hg hb1
                    refine seqE ?_
                    exact leafE hown hg
                · refine .inr ?_
                  have hg := getD hg hb1
                  refine seqE ?_
                  exact leafE hown hg
              · refine .inr ?_
                have hg := getD hg hb1
                refine seqE ?_
                exact leafE hown hg
            · refine .inr ?_
              have hg := getD hg hb1
              refine seqE ?_
              exact leafE hown hg
          · refine .inr ?_
            have hg := getD hg hb1
            refine seqE ?_
            exact leafE hown hg
        · refine .inr ?_
          have hg := getD hg hb1
          refine seqE ?_
          exact leafE hown hg
      · refine .inr ?_
        have hg := getD hg hb1
        refine seqE ?_
        exact leafE hown hg
    · refine .inr ?_
      have hg := getD hg hb1
      refine seqE ?_
      exact leafE hown hg
  refine brW hg (fun hg h25 => ?_) (fun hg h25 => ?_)
  · refine seqE ?_
    exact leafE hown hg
  · refine seqE ?_
    refine seqE ?_
    refine loopLE hg [1] (fun x2 => [(3, .one (.v (.int .i64 ((x2.i : Nat) : Int))))]) (fun x2 => [.keep 0, .dead, .dead]) [some 0, none, none] ?_ (fun x2 => ?_)
    · exact ⟨rfl, ⟨rfl, ⟨rfl, rfl, rfl, rfl⟩, trivial⟩, ⟨⟨rfl, rfl, ⟨rfl, rfl, rfl, rfl, rfl, rfl, rfl, rfl, rfl, rfl, rfl, rfl, rfl, rfl, rfl, rfl, rfl, rfl, rfl, rfl, rfl, rfl, rfl, rfl, rfl, rfl, rfl, rfl, rfl, rfl, rfl, rfl, trivial⟩⟩, trivial⟩, trivial⟩
    refine seqE ?_
    refine seqE ?_
    refine lenM fun hN26 => ?_
    refine tstL (fun hi2 => ?_) (fun hi2 => ?_)
    · have hb2 := (x2.bdy hi2).trans (spec_WorldOk_b2.eq_1 ..)
      have hw2 := wrap_succ hi2 (by first | assumption | omega)
      refine seqE ?_
      refine seqE ?_
      refine idxAt hi2 ?_
      refine .inl (⟨_, _, c_spec_ItemOk (p0.Queue[x2.i]'hi2), (FzAs.same _), ?_⟩)
      refine litE (m := 4) rfl ?_
      refine brE hb2 (fun hb2 h27 => ?_) (fun hb2 h27 => x2.goE hi2 hb2 [some 0, none, none] ⟨rfl, ⟨(eqInt hw2), ⟨rfl, rfl, rfl, rfl⟩, trivial⟩, ⟨⟨rfl, rfl, ⟨rfl, rfl, rfl, rfl, rfl, rfl, rfl, rfl, rfl, rfl, rfl, rfl, rfl, rfl, rfl, rfl, rfl, rfl, rfl, rfl, rfl, rfl, rfl, rfl, rfl, rfl, rfl, rfl, rfl, rfl, rfl, rfl, trivial⟩⟩, trivial⟩, trivial⟩)
      refine seqE ?_
      have hg := donE hg (x2.outD hi2 hb2)
      exact leafE hown hg
    have hg := finE hg (x2.fin hi2)
    refine seqE ?_
    refine seqE ?_
    refine loopLE hg [1] (fun x3 => [(4, .one (.v (.int .i64 ((x3.i : Nat) : Int))))]) (fun x3 => [.keep 0, .dead, .dead]) [some 0, none, none] ?_ (fun x3 => ?_)
    · exact ⟨rfl, ⟨rfl, ⟨rfl, rfl, rfl, rfl⟩, trivial⟩, ⟨⟨rfl, rfl, ⟨rfl, rfl, rfl, rfl, rfl, rfl, rfl, rfl, rfl, rfl, rfl, rfl, rfl, rfl, rfl, rfl, rfl, rfl, rfl, rfl, rfl, rfl, rfl, rfl, rfl, rfl, rfl, rfl, rfl, rfl, rfl, rfl, trivial⟩⟩, trivial⟩, trivial⟩
    refine seqE ?_
    refine seqE ?_
    refine lenM fun hN28 => ?_
    refine tstL (fun hi3 => ?_) (fun hi3 => ?_)
    · have hb3 := (x3.bdy hi3).trans (spec_WorldOk_b3.eq_1 ..)
      have hw3 := wrap_succ hi3 (by first | assumption | omega)
      refine seqE ?_
      refine seqE ?_
      refine idxAt hi3 ?_
      refine .inl (⟨_, _, c_spec_ItemOk (p0.Out[x3.i]'hi3), (FzAs.same _), ?_⟩)
      refine litE (m := 4) rfl ?_
      refine brE hb3 (fun hb3 h29 => ?_) (fun hb3 h29 => x3.goE hi3 hb3 [some 0, none, none] ⟨rfl, ⟨(eqInt hw3), ⟨rfl, rfl, rfl, rfl⟩, trivial⟩, ⟨⟨rfl, rfl, ⟨rfl, rfl, rfl, rfl, rfl, rfl, rfl, rfl, rfl, rfl, rfl, rfl, rfl, rfl, rfl, rfl, rfl, rfl, rfl, rfl, rfl, rfl, rfl, rfl, rfl, rfl, rfl, rfl, rfl, rfl, rfl, rfl, trivial⟩⟩, trivial⟩, trivial⟩)
      refine seqE ?_
      have hg := donE hg (x3.outD hi3 hb3)
      exact leafE hown hg
    have hg := finE hg (x3.fin hi3)
    refine seqE ?_
    refine seqE ?_
    refine loopLE hg [1] (fun x4 => [(5, .one (.v (.int .i64 ((x4.i : Nat) : Int))))]) (fun x4 => [.keep 0, .dead, .dead]) [some 0, none, none] ?_ (fun x4 => ?_)
    · exact ⟨rfl, ⟨rfl, ⟨rfl, rfl, rfl, rfl⟩, trivial⟩, ⟨⟨rfl, rfl, ⟨rfl, rfl, rfl, rfl, rfl, rfl, rfl, rfl, rfl, rfl, rfl, rfl, rfl, rfl, rfl, rfl, rfl, rfl, rfl, rfl, rfl, rfl, rfl, rfl, rfl, rfl, rfl, rfl, rfl, rfl, rfl, rfl, trivial⟩⟩, trivial⟩, trivial⟩
    refine seqE ?_
    refine seqE ?_
    refine lenM fun hN30 => ?_
    refine tstL (fun hi4 => ?_) (fun hi4 => ?_)
    · have hb4 := (x4.bdy hi4).trans (spec_WorldOk_b4.eq_1 ..)
      have hw4 := wrap_succ hi4 (by first | assumption | omega)
      refine seqE ?_
      refine seqE ?_
      refine idxAt hi4 ?_
      refine litE (m := 3) rfl ?_
      refine seqE ?_
      refine .inl (⟨_, _, c_spec_DeedOk (p0.Deeds[x4.i]'hi4), (FzAs.same _), ?_⟩)
      refine litE (m := 5) rfl ?_
      refine brF hb4 (fun hb4 h31 => ?_) (fun hb4 h31 => ?_)
      · refine brDF hb4 (fun hb4 h32 => ?_) (fun hb4 h32 => ?_)
        · refine brDF hb4 (fun hb4 h33 => ?_) (fun hb4 h33 => ?_)
          · refine brD hb4 (fun hb4 h34 => ?_) (fun hb4 h34 => x4.goE hi4 hb4 [some 0, none, none] ⟨rfl, ⟨(eqInt hw4), ⟨rfl, rfl, rfl, rfl⟩, trivial⟩, ⟨⟨rfl, rfl, ⟨rfl, rfl, rfl, rfl, rfl, rfl, rfl, rfl, rfl, rfl, rfl, rfl, rfl, rfl, rfl, rfl, rfl, rfl, rfl, rfl, rfl, rfl, rfl, rfl, rfl, rfl, rfl, rfl, rfl, rfl, rfl, rfl, trivial⟩⟩, trivial⟩, trivial⟩)
            refine seqE ?_
            have hg := donE hg (x4.outD hi4 hb4)
            exact leafE hown hg
          · refine seqE ?_
            have hg := donE hg (x4.outD hi4 hb4)
            exact leafE hown hg
        · refine seqE ?_
          have hg := donE hg (x4.outD hi4 hb4)
          exact leafE hown hg
      · refine seqE ?_
        have hg := donE hg (x4.outD hi4 hb4)
        exact leafE hown hg
    have hg := finE hg (x4.fin hi4)
    refine seqE ?_
    refine .inl (⟨_, _, c_spec_l16Stamps p0 (by first | exact hs | exact hs.2.1 | exact hs.2.2.2.1 | exact trivial), (FzAs.same _), ?_⟩)
    refine litE (m := 4) rfl ?_
    refine brE hg (fun hg h35 => ?_) (fun hg h35 => leafE hown hg)
    refine .inl (⟨_, _, c_spec_l16Tasks p0 (by first | exact hs | exact hs.2.1 | exact hs.2.2.2.1 | exact trivial), (FzAs.same _), ?_⟩)
    refine litE (m := 5) rfl ?_
    exact leafE hown hg
def spec_Busy_b1 (i1 : Nat) (s1 : Int) (a1 : Task) : Step (Int) Int :=
  (bif (a1.Op != 0) then (.next (IntKind.i64.wrap (s1 + 1))) else (.next s1))
def spec_Busy (p0 : World) : Int :=
  (Fin.get (fun s1 => s1) (loopL spec_Busy_b1 0 0 p0.Tasks))
theorem c_spec_Busy (p0 : World) : FnOk prog 21 [.agg ((World.cells false) p0)] ⟨.one (.v (.int .i64 (spec_Busy p0))), [], [], false⟩ := by
  refine FnOk.intro (E := env) envOk wide func21 rfl (by kernel_rfl) rfl rfl ?_
  have hg := spec_Busy.eq_1 p0
  have hown : ∀ g : Int, AV.Own (AV.one (.v (.int .i64 g))) := fun g => .v _
  refine seqE ?_
  refine litE (m := 0) rfl ?_
  refine seqE ?_
  refine seqE ?_
  refine seqE ?_
  refine loopLE hg [1] (fun x1 => [(3, .one (.v (.int .i64 x1.s))), (4, .one (.v (.int .i64 ((x1.i : Nat) : Int))))]) (fun x1 => [.keep 0]) [some 0] ?_ (fun x1 => ?_)
  · exact ⟨rfl, ⟨rfl, rfl, ⟨rfl, rfl, rfl, rfl⟩, trivial⟩, ⟨⟨rfl, rfl, ⟨rfl, rfl, rfl, rfl, rfl, rfl, rfl, rfl, rfl, rfl, rfl, rfl, rfl, rfl, rfl, rfl, rfl, rfl, rfl, rfl, rfl, rfl, rfl, rfl, rfl, rfl, rfl, rfl, rfl, rfl, rfl, rfl, trivial⟩⟩, trivial⟩, trivial⟩
  refine seqE ?_
  refine seqE ?_
  refine lenM fun hN1 => ?_
  refine tstL (fun hi1 => ?_) (fun hi1 => ?_)
  · have hb1 := (x1.bdy hi1).trans (spec_Busy_b1.eq_1 ..)
    have hw1 := wrap_succ hi1 (by first | assumption | omega)
    refine seqE ?_
    refine seqE ?_
    refine idxAt hi1 ?_
    exact brW hb1 (fun hb1 h2 => x1.goE hi1 hb1 [some 0] ⟨rfl, ⟨rfl, (eqInt hw1), ⟨rfl, rfl, rfl, rfl⟩, trivial⟩, ⟨⟨rfl, rfl, ⟨rfl, rfl, rfl, rfl, rfl, rfl, rfl, rfl, rfl, rfl, rfl, rfl, rfl, rfl, rfl, rfl, rfl, rfl, rfl, rfl, rfl, rfl, rfl, rfl, rfl, rfl, rfl, rfl, rfl, rfl, rfl, rfl, trivial⟩⟩, trivial⟩, trivial⟩) (fun hb1 h2 => x1.goE hi1 hb1 [some 0] ⟨rfl, ⟨rfl, (eqInt hw1), ⟨rfl, rfl, rfl, rfl⟩, trivial⟩, ⟨⟨rfl, rfl, ⟨rfl, rfl, rfl, rfl, rfl, rfl, rfl, rfl, rfl, rfl, rfl, rfl, rfl, rfl, rfl, rfl, rfl, rfl, rfl, rfl, rfl, rfl, rfl, rfl, rfl, rfl, rfl, rfl, rfl, rfl, rfl, rfl, trivial⟩⟩, trivial⟩, trivial⟩)
  have hg := finE hg (x1.fin hi1)
  refine seqE ?_
  exact leafE hown hg
def spec_Quiet (p0 : World) : Bool :=
  (bif (spec_WorldOk p0) then (bif ((spec_Busy p0) == 0) then (bif ((((p0.Due).length : Nat) : Int) == 0) then ((((p0.Queue).length : Nat) : Int) == 0) else false) else false) else false)
theorem c_spec_Quiet (p0 : World) (hs : World.bd 1048576 p0) : FnOk prog 6 [.agg ((World.cells false) p0)] ⟨.one (.v (.bool (spec_Quiet p0))), [], [], false⟩ := by
  refine FnOk.intro (E := env) envOk wide func6 rfl (by kernel_rfl) rfl rfl ?_
  have hg := spec_Quiet.eq_1 p0
  have hown : ∀ g : Bool, AV.Own (AV.one (.v (.bool g))) := fun g => .v _
  refine seqE ?_
  refine litE (m := 0) rfl ?_
  refine seqE ?_
  refine .inl (⟨_, _, c_spec_WorldOk p0 (by first | exact hs | exact hs.2.1 | exact hs.2.2.2.1 | exact trivial), (FzAs.same _), ?_⟩)
  refine litE (m := 2) rfl ?_
  refine brE hg (fun hg h1 => ?_) (fun hg h1 => leafE hown hg)
  refine .inl (⟨_, _, c_spec_Busy p0, (FzAs.same _), ?_⟩)
  refine litE (m := 3) rfl ?_
  refine brQ hg (fun hg h2 => ?_) (fun hg h2 => leafE hown hg)
  refine lenM fun hN3 => ?_
  refine brQ hg (fun hg h4 => ?_) (fun hg h4 => leafE hown hg)
  refine lenM fun hN5 => ?_
  exact leafE hown hg
def spec_l3Copy (p0 : Span) : Span :=
  p0
theorem c_spec_l3Copy (p0 : Span) (hs : Span.bd 1048576 p0) : FnOk prog 156 [.agg ((Span.cells false) p0)] ⟨.agg ((Span.cells true) (spec_l3Copy p0)), [], [], false⟩ := by
  refine FnOk.intro (E := env) envOk wide func156 rfl (by kernel_rfl) rfl rfl ?_
  have hg := spec_l3Copy.eq_1 p0
  have hown : ∀ g : Span, AV.Own (AV.agg ((Span.cells true) g)) := fun g => own_Span _
  refine seqE ?_
  refine litE (m := 0) rfl ?_
  refine litE (m := 1) rfl ?_
  refine seqE ?_
  refine litE (m := 2) rfl ?_
  refine .inl ?_
  refine rowsE (Y := List.map Attr.cells p0.Attrs) (by first | rfl | (simp [subR0, subR1, -List.map_take, -List.map_drop, take_map', drop_map', fz_Attr, fl_Attr, fzMap fz_Attr, flMap fl_Attr]; done) | (simp [subR0, subR1, -List.map_take, -List.map_drop, take_map', drop_map', fz_Attr, fl_Attr, fzMap fz_Attr, flMap fl_Attr]; rfl)) ?_
  refine appB (b := 48) (hs := by have hl := hs.1; refine ⟨?_, ?_⟩; (show List.length _ * 48 ≤ _); (try simp only [List.length_map, List.length_append, List.length_cons, List.length_nil, List.length_take, List.length_drop]); omega; (try simp only [List.length_map, List.length_append, List.length_cons, List.length_nil, List.length_take, List.length_drop]); omega) ?_
  refine litE (m := 3) rfl ?_
  refine seqE ?_
  exact leafE hown hg
def spec_l3All_b1 (i1 : Nat) (s1 : (List Span)) (a1 : Span) : Step ((List Span)) (List Span) :=
  (.next (s1 ++ [(spec_l3Copy a1)]))
def spec_l3All (p0 : (List Span)) : (List Span) :=
  (Fin.get (fun s1 => s1) (loopL spec_l3All_b1 0 ([] : List Span) p0))
theorem c_spec_l3All (p0 : (List Span)) (hs : bdS Span.bd 1048576 p0) : FnOk prog 122 [.one (.s false 6 (List.map (Span.cells false) p0))] ⟨.one (.s true 6 (List.map (Span.cells true) (spec_l3All p0))), [], [], false⟩ := by
  refine FnOk.intro (E := env) envOk wide func122 rfl (by kernel_rfl) rfl rfl ?_
  have hg := spec_l3All.eq_1 p0
  have hown : ∀ g : (List Span), AV.Own (AV.one (.s true 6 (List.map (Span.cells true) g))) := fun g => ownSl own_Span _
  refine seqE ?_
  refine seqE ?_
  refine litE (m := 0) rfl ?_
  refine seqE ?_
  refine seqE ?_
  refine loopLI (fun (i : Nat) s => s.length ≤ i) hg (Nat.le_refl _) [0] (fun x1 => [(3, .one (.n 0 [] 1 0 (x1.s).length)), (4, .one (.v (.int .i64 ((x1.i : Nat) : Int))))]) (fun x1 => [.new ⟨6, false, List.map (Span.cells true) x1.s, 0⟩]) [some 0] ?_ (fun x1 => ?_)
  · exact ⟨rfl, ⟨⟨rfl, rfl, rfl, rfl, by (first | rfl | omega | (dsimp only; omega) | (simp; done) | (simp; omega) | (simp [LstSt.init, LstSt.step, LstInv.init, CntSt.init, CntSt.step, CntInv.init, WhlSt.init, WhlSt.step]; done) | (simp [LstSt.init, LstSt.step, LstInv.init, CntSt.init, CntSt.step, CntInv.init, WhlSt.init, WhlSt.step]; omega))⟩, rfl, rfl, trivial⟩, ⟨⟨rfl, rfl, rfl⟩, trivial⟩, trivial⟩
  have hI1 := x1.hI
  try dsimp only at hI1
  refine seqE ?_
  refine seqE ?_
  refine lenM fun hN1 => ?_
  refine tstL (fun hi1 => ?_) (fun hi1 => ?_)
  · have hb1 := (x1.bdy hi1).trans (spec_l3All_b1.eq_1 ..)
    have hw1 := wrap_succ hi1 (by first | assumption | omega)
    refine seqE ?_
    refine seqE ?_
    refine idxAt hi1 ?_
    refine .inl (⟨_, _, c_spec_l3Copy (p0[x1.i]'hi1) (by exact hs.get hi1), (FzAs.same _), ?_⟩)
    refine litE (m := 2) rfl ?_
    refine litE (m := 3) rfl ?_
    refine litE (m := 4) rfl ?_
    refine .inl ?_
    refine rowsE (Y := List.map (Span.cells true) (x1.s ++ [(spec_l3Copy (p0[x1.i]'hi1))])) (by first | rfl | (simp [subR0, subR1, -List.map_take, -List.map_drop, take_map', drop_map', fz_Span, fzMap fz_Span, shMap sh_Span]; done) | (simp [subR0, subR1, -List.map_take, -List.map_drop, take_map', drop_map', fz_Span, fzMap fz_Span, shMap sh_Span]; rfl)) ?_
    refine appB (b := 64) (hs := by have q0 := hs.1; have q1 := hI1; have q2 := hi1; refine ⟨?_, ?_⟩; (show List.length _ * 64 ≤ _); (try simp only [List.length_map, List.length_append, List.length_cons, List.length_nil, List.length_take, List.length_drop]); omega; (try simp only [List.length_map, List.length_append, List.length_cons, List.length_nil, List.length_take, List.length_drop]); omega) ?_
    refine litE (m := 5) rfl ?_
    exact x1.goE hi1 hb1 (by have q1 := hI1; simp only [List.length_append, List.length_cons, List.length_nil]; omega) [some 5] ⟨rfl, ⟨⟨rfl, rfl, rfl, rfl, by (first | rfl | omega | (dsimp only; omega) | (simp; done) | (simp; omega) | (simp [LstSt.init, LstSt.step, LstInv.init, CntSt.init, CntSt.step, CntInv.init, WhlSt.init, WhlSt.step]; done) | (simp [LstSt.init, LstSt.step, LstInv.init, CntSt.init, CntSt.step, CntInv.init, WhlSt.init, WhlSt.step]; omega))⟩, (eqInt hw1), rfl, trivial⟩, ⟨⟨rfl, rfl, rfl⟩, trivial⟩, trivial⟩
  have hg := finE hg (x1.fin hi1)
  refine seqE ?_
  exact leafE hown hg
def spec_l10Copy (p0 : Trail) : Trail :=
  (Trail.mk p0.Id p0.Stamp p0.First (spec_l3All p0.Spans))
theorem c_spec_l10Copy (p0 : Trail) (hs : Trail.bd 1048576 p0) : FnOk prog 80 [.agg ((Trail.cells false) p0)] ⟨.agg ((Trail.cells true) (spec_l10Copy p0)), [], [], false⟩ := by
  refine FnOk.intro (E := env) envOk wide func80 rfl (by kernel_rfl) rfl rfl ?_
  have hg := spec_l10Copy.eq_1 p0
  have hown : ∀ g : Trail, AV.Own (AV.agg ((Trail.cells true) g)) := fun g => own_Trail _
  refine seqE ?_
  refine litE (m := 0) rfl ?_
  refine litE (m := 1) rfl ?_
  refine seqE ?_
  refine .inl (⟨_, _, c_spec_l3All p0.Spans (by exact hs), (FzAs.same _), ?_⟩)
  refine litE (m := 3) rfl ?_
  refine seqE ?_
  exact leafE hown hg
def spec_OpenTrails_b4 (s2 : (List Trail)) (a2 : Trail) (s4 : Int) : Step (Int) (Step (Int) (Step ((List Trail)) (Step ((List Trail)) (List Trail)))) :=
  (bif (decide (s4 > 0)) then (bif (decide ((s2[((IntKind.i64.wrap (s4 - 1))).toNat]?.getD default).Id > (spec_l10Copy a2).Id)) then (.next (IntKind.i64.wrap (s4 - 1))) else (.stop s4)) else (.stop s4))
def spec_OpenTrails_j3 (s2 : (List Trail)) (a2 : Trail) : Step (Int) (Step ((List Trail)) (Step ((List Trail)) (List Trail))) :=
  (Fin.get (fun s4 => (.next s4)) (loopW (spec_OpenTrails_b4 s2 a2) (Int.toNat (((s2).length : Nat) : Int)) (((s2).length : Nat) : Int)))
def spec_OpenTrails_b2 (i2 : Nat) (s2 : (List Trail)) (a2 : Trail) : Step ((List Trail)) (Step ((List Trail)) (List Trail)) :=
  (Step.get (fun s3 => (.next (((List.take ((s3).toNat - 0) (List.drop 0 s2)) ++ [(spec_l10Copy a2)]) ++ (List.take ((s2).length - (s3).toNat) (List.drop (s3).toNat s2))))) (spec_OpenTrails_j3 s2 a2))
def spec_OpenTrails_b1 (i1 : Nat) (s1 : (List Trail)) (a1 : Stripe) : Step ((List Trail)) (List Trail) :=
  (Fin.get (fun s2 => (.next s2)) (loopL spec_OpenTrails_b2 0 s1 a1.L))
def spec_OpenTrails (p0 : (List Stripe)) : (List Trail) :=
  (Fin.get (fun s1 => s1) (loopL spec_OpenTrails_b1 0 ([] : List Trail) p0))
theorem otr_bd {s2 : List Trail} {a2 : Trail} {v : Int} (hl : s2.length ≤ 4503599627370496) (h : spec_OpenTrails_j3 s2 a2 = .next v) : 0 ≤ v ∧ v ≤ ((s2.length : Nat) : Int) := by
  have key : ∀ v, spec_OpenTrails_j3 s2 a2 = .next v → 0 ≤ v ∧ v ≤ ((s2.length : Nat) : Int) := by
    unfold spec_OpenTrails_j3
    refine len_fin (P := fun k : Int => 0 ≤ k ∧ k ≤ ((s2.length : Nat) : Int)) (Q := fun z : Step Int (Step (List Trail) (Step (List Trail) (List Trail))) => ∀ v, z = .next v → 0 ≤ v ∧ v ≤ ((s2.length : Nat) : Int)) (loopW_ind (P := fun k : Int => 0 ≤ k ∧ k ≤ ((s2.length : Nat) : Int)) (fun s hs => ?_) _ _ ⟨by omega, by omega⟩) (fun v hv w hw => by cases hw; exact hv)
    unfold spec_OpenTrails_b4
    by_cases hp : s > 0
    · have hd : decide (s > 0) = true := by simpa using hp
      rw [hd, cond_true, wrap_small (by omega) (by omega)]
      exact bif_step (nx_step (by omega)) (st_step hs)
    · have hd : decide (s > 0) = false := by simpa using hp
      rw [hd, cond_false]
      exact st_step hs
  exact key v h
theorem c_spec_OpenTrails (p0 : (List Stripe)) (hs : bdS Stripe.bd 1048576 p0) : FnOk prog 42 [.one (.s false 2 (List.map (Stripe.cells false) p0))] ⟨.one (.s true 4 (List.map (Trail.cells false) (spec_OpenTrails p0))), [], [], true⟩ := by
  refine FnOk.intro (E := env) envOk wide func42 rfl (by kernel_rfl) rfl rfl ?_
  have hg := spec_OpenTrails.eq_1 p0
  have hown : (fun g : (List Trail) => AV.one (.s true 4 (List.map (Trail.cells false) g))) = _ := rfl
  refine seqE ?_
  refine seqE ?_
  refine litE (m := 0) rfl ?_
  refine seqE ?_
  refine seqE ?_
  refine loopLI (fun (i : Nat) (s : List Trail) => s.length ≤ 1048576 * i) hg (Nat.zero_le _) [0] (fun x1 => [(3, .one (.n 0 [] 1 0 (x1.s).length)), (4, .one (.v (.int .i64 ((x1.i : Nat) : Int))))]) (fun x1 => [.new ⟨4, false, List.map (Trail.cells false) x1.s, 0⟩]) [some 0] ?_ (fun x1 => ?_)
  · exact ⟨rfl, ⟨⟨rfl, rfl, rfl, rfl, by (first | rfl | omega | (dsimp only; omega) | (simp; done) | (simp; omega) | (simp [LstSt.init, LstSt.step, LstInv.init, CntSt.init, CntSt.step, CntInv.init, WhlSt.init, WhlSt.step]; done) | (simp [LstSt.init, LstSt.step, LstInv.init, CntSt.init, CntSt.step, CntInv.init, WhlSt.init, WhlSt.step]; omega))⟩, rfl, rfl, trivial⟩, ⟨⟨rfl, rfl, rfl⟩, trivial⟩, trivial⟩
  have hI1 := x1.hI
  try dsimp only at hI1
  refine seqE ?_
  refine seqE ?_
  refine lenM fun hN1 => ?_
  refine tstL (fun hi1 => ?_) (fun hi1 => ?_)
  · have hb1 := (x1.bdy hi1).trans (spec_OpenTrails_b1.eq_1 ..)
    have hw1 := wrap_succ hi1 (by first | assumption | omega)
    refine seqE ?_
    refine seqE ?_
    refine loopLI (fun (i : Nat) (s : List Trail) => s.length ≤ 1048576 * x1.i + i) hb1 (by have q := hI1; omega) [0, 4] (fun x2 => [(3, .one (.n 0 [] 1 0 (x2.s).length)), (5, .one (.v (.int .i64 ((x2.i : Nat) : Int))))]) (fun x2 => [.new ⟨4, false, List.map (Trail.cells false) x2.s, 0⟩]) [some 0] ?_ (fun x2 => ?_)
    · exact ⟨rfl, ⟨⟨rfl, rfl, rfl, rfl, by (first | rfl | omega | (dsimp only; omega) | (simp; done) | (simp; omega) | (simp [LstSt.init, LstSt.step, LstInv.init, CntSt.init, CntSt.step, CntInv.init, WhlSt.init, WhlSt.step]; done) | (simp [LstSt.init, LstSt.step, LstInv.init, CntSt.init, CntSt.step, CntInv.init, WhlSt.init, WhlSt.step]; omega))⟩, rfl, rfl, rfl, trivial⟩, ⟨⟨rfl, rfl, rfl⟩, trivial⟩, trivial⟩
    have hI2 := x2.hI
    try dsimp only at hI2
    refine seqE ?_
    refine seqE ?_
    refine idxAt hi1 ?_
    refine lenM fun hN2 => ?_
    refine tstL (fun hi2 => ?_) (fun hi2 => ?_)
    · have hb2 := (x2.bdy hi2).trans (spec_OpenTrails_b2.eq_1 ..)
      have hw2 := wrap_succ hi2 (by first | assumption | omega)
      refine seqE ?_
      refine seqE ?_
      refine idxAt hi1 ?_
      refine idxAt hi2 ?_
      refine .inl (⟨_, _, (FnOk.frzA rfl (frz_Trail _) (c_spec_l10Copy ((p0[x1.i]'hi1).L[x2.i]'hi2) (by exact bdS.get (show bdS Trail.bd 1048576 (p0[x1.i]'hi1).L from hs.get hi1) hi2))), (FzAs.same _), ?_⟩)
      refine litE (m := 2) rfl ?_
      refine litE (m := 2) rfl ?_
      refine seqE ?_
      refine lenE (k := (x2.s).length) (by simp) (fun hN3 => ?_)
      refine joinE hb2 [0, 3, 4, 5, 6] (fun x3 => [(7, .one (.v (.int .i64 x3.s)))]) (fun x3 => [.keep 0, .dead, .keep 2]) (fun hb3 => ?_) (fun x3 hb2 => ?_)
      · have hb3 := hb3.trans (spec_OpenTrails_j3.eq_1 ..)
        refine loopWE (m := Int.toNat) (s0 := (((x2.s).length : Nat) : Int)) (fun k : Int => 0 ≤ k ∧ k ≤ ((x2.s.length : Nat) : Int)) hb3 (by exact ⟨by omega, by omega⟩) [0, 3, 4, 5, 6] (fun x4 => [(7, .one (.v (.int .i64 x4.s)))]) (fun x4 => [.keep 0, .dead, .keep 2]) [some 0, none, some 2] ?_ (fun x4 => ?_)
        · exact ⟨rfl, ⟨rfl, rfl, ⟨rfl, rfl, rfl, rfl, by (first | rfl | omega | (dsimp only; omega) | (simp; done) | (simp; omega) | (simp [LstSt.init, LstSt.step, LstInv.init, CntSt.init, CntSt.step, CntInv.init, WhlSt.init, WhlSt.step]; done) | (simp [LstSt.init, LstSt.step, LstInv.init, CntSt.init, CntSt.step, CntInv.init, WhlSt.init, WhlSt.step]; omega))⟩, rfl, rfl, ⟨rfl, rfl, rfl, rfl⟩, trivial⟩, ⟨⟨rfl, rfl, rfl⟩, ⟨rfl, rfl, ⟨rfl, rfl, rfl, rfl, trivial⟩⟩, trivial⟩, trivial⟩
        have hI4 := x4.hI
        try dsimp only at hI4
        have hb4 := x4.bdy.trans (spec_OpenTrails_b4.eq_1 ..)
        refine seqE ?_
        refine seqE ?_
        refine .inl ⟨by kernel_rfl, ?_⟩
        refine brD hb4 (fun hb4 h4 => ?_) (fun hb4 h4 => ?_)
        · refine andE (by have f1 := hs.1; have f2 := hI2; have f3 := hi1; have f4 := hi2; have f5 : (p0[x1.i]'hi1).L.length ≤ 1048576 := (hs.get hi1).1; (first | omega | (dsimp only <;> omega) | (simp (disch := omega) only [wrap_small, mid_eq, mid_eq1, mid_eq2, mid_eq3, List.length_map, List.length_set] <;> omega) | (simp (disch := omega) only [wrap_small, mid_eq, mid_eq1, mid_eq2, mid_eq3, List.length_map, List.length_set] at * <;> omega))) ?_
          refine rowGet (i := ((IntKind.i64.wrap (x4.s - 1))).toNat) (l := x2.s) (by first | rfl | exact Nat.zero_add _ | simp) (fun hq5 => ?_)
          refine brD hb4 (fun hb4 h6 => x4.goE hb4 (show (fun k : Int => 0 ≤ k ∧ k ≤ ((x2.s.length : Nat) : Int)) (IntKind.i64.wrap (x4.s - 1)) ∧ Int.toNat (IntKind.i64.wrap (x4.s - 1)) < Int.toNat x4.s by have f1 := hs.1; have f2 := hI2; have f3 := hi1; have f4 := hi2; have f5 : (p0[x1.i]'hi1).L.length ≤ 1048576 := (hs.get hi1).1; exact ⟨⟨by (first | omega | (dsimp only <;> omega) | (simp (disch := omega) only [wrap_small, mid_eq, mid_eq1, mid_eq2, mid_eq3, List.length_map, List.length_set] <;> omega) | (simp (disch := omega) only [wrap_small, mid_eq, mid_eq1, mid_eq2, mid_eq3, List.length_map, List.length_set] at * <;> omega)), by (first | omega | (dsimp only <;> omega) | (simp (disch := omega) only [wrap_small, mid_eq, mid_eq1, mid_eq2, mid_eq3, List.length_map, List.length_set] <;> omega) | (simp (disch := omega) only [wrap_small, mid_eq, mid_eq1, mid_eq2, mid_eq3, List.length_map, List.length_set] at * <;> omega))⟩, by (first | omega | (dsimp only <;> omega) | (simp (disch := omega) only [wrap_small, mid_eq, mid_eq1, mid_eq2, mid_eq3, List.length_map, List.length_set] <;> omega) | (simp (disch := omega) only [wrap_small, mid_eq, mid_eq1, mid_eq2, mid_eq3, List.length_map, List.length_set] at * <;> omega))⟩) [some 0, none, some 2] ⟨rfl, ⟨rfl, rfl, ⟨rfl, rfl, rfl, rfl, by (first | rfl | omega | (dsimp only; omega) | (simp; done) | (simp; omega) | (simp [LstSt.init, LstSt.step, LstInv.init, CntSt.init, CntSt.step, CntInv.init, WhlSt.init, WhlSt.step]; done) | (simp [LstSt.init, LstSt.step, LstInv.init, CntSt.init, CntSt.step, CntInv.init, WhlSt.init, WhlSt.step]; omega))⟩, rfl, rfl, ⟨rfl, rfl, rfl, rfl⟩, trivial⟩, ⟨⟨rfl, rfl, rfl⟩, ⟨rfl, rfl, ⟨rfl, rfl, rfl, rfl, trivial⟩⟩, trivial⟩, trivial⟩) (fun hb4 h6 => ?_)
          have hb3 := finE hb3 (x4.outS hb4)
          exact .inl ⟨⟨_, hb3⟩, [some 0, none, some 2], ⟨rfl, ⟨rfl, rfl, ⟨rfl, rfl, rfl, rfl, by (first | rfl | omega | (dsimp only; omega) | (simp; done) | (simp; omega) | (simp [LstSt.init, LstSt.step, LstInv.init, CntSt.init, CntSt.step, CntInv.init, WhlSt.init, WhlSt.step]; done) | (simp [LstSt.init, LstSt.step, LstInv.init, CntSt.init, CntSt.step, CntInv.init, WhlSt.init, WhlSt.step]; omega))⟩, rfl, rfl, ⟨rfl, rfl, rfl, rfl⟩, trivial⟩, ⟨⟨rfl, rfl, rfl⟩, ⟨rfl, rfl, ⟨rfl, rfl, rfl, rfl, trivial⟩⟩, trivial⟩, trivial⟩⟩
        · have hb3 := finE hb3 (x4.outS hb4)
          exact .inl ⟨⟨_, hb3⟩, [some 0, none, some 2], ⟨rfl, ⟨rfl, rfl, ⟨rfl, rfl, rfl, rfl, by (first | rfl | omega | (dsimp only; omega) | (simp; done) | (simp; omega) | (simp [LstSt.init, LstSt.step, LstInv.init, CntSt.init, CntSt.step, CntInv.init, WhlSt.init, WhlSt.step]; done) | (simp [LstSt.init, LstSt.step, LstInv.init, CntSt.init, CntSt.step, CntInv.init, WhlSt.init, WhlSt.step]; omega))⟩, rfl, rfl, ⟨rfl, rfl, rfl, rfl⟩, trivial⟩, ⟨⟨rfl, rfl, rfl⟩, ⟨rfl, rfl, ⟨rfl, rfl, rfl, rfl, trivial⟩⟩, trivial⟩, trivial⟩⟩
      have q3 := otr_bd (by have f1 := hs.1; have f2 := hI2; have f3 := hi1; have f4 := hi2; have f5 : (p0[x1.i]'hi1).L.length ≤ 1048576 := (hs.get hi1).1; omega) x3.e
      refine .inr (.inr (.inr (.inl ⟨(.q 1 (.q 2 (.q 3 (.q 8 (.q 9 (.q 10 (.b 0 (.b 4 (.o 5 (.o 6 (.o 7 (.o 11 (.o 12 .leaf))))) 5 (.b 4 (.o 6 (.o 7 (.o 11 (.o 12 .leaf)))) 6 (.o 4 (.o 7 (.o 11 (.o 12 .leaf)))))) 5 (.b 0 (.b 4 (.o 6 (.o 7 (.o 11 (.o 12 .leaf)))) 6 (.o 4 (.o 7 (.o 11 (.o 12 .leaf))))) 6 (.o 0 (.o 4 (.o 7 (.o 11 (.o 12 .leaf))))))))))))), by kernel_rfl, ?_⟩)))
      refine And.intro (by have f1 := hs.1; have f2 := hI2; have f3 := hi1; have f4 := hi2; have f5 : (p0[x1.i]'hi1).L.length ≤ 1048576 := (hs.get hi1).1; first | exact ⟨by omega, by omega, by omega⟩ | (first | omega | (dsimp only <;> omega) | (simp (disch := omega) only [wrap_small, mid_eq, mid_eq1, mid_eq2, mid_eq3, List.length_map, List.length_set] <;> omega) | (simp (disch := omega) only [wrap_small, mid_eq, mid_eq1, mid_eq2, mid_eq3, List.length_map, List.length_set] at * <;> omega))) ?_
      refine And.intro (by have f1 := hs.1; have f2 := hI2; have f3 := hi1; have f4 := hi2; have f5 : (p0[x1.i]'hi1).L.length ≤ 1048576 := (hs.get hi1).1; first | exact ⟨by omega, by omega, by omega⟩ | (first | omega | (dsimp only <;> omega) | (simp (disch := omega) only [wrap_small, mid_eq, mid_eq1, mid_eq2, mid_eq3, List.length_map, List.length_set] <;> omega) | (simp (disch := omega) only [wrap_small, mid_eq, mid_eq1, mid_eq2, mid_eq3, List.length_map, List.length_set] at * <;> omega))) ?_
      refine And.intro ?_ ?_
      · refine litE (m := 3) rfl ?_
        refine And.intro ?_ ?_
        · refine .inr ?_
          refine rowsE (Y := List.map (Trail.cells false) (List.take ((x3.s).toNat - 0) (List.drop 0 x2.s))) (by first | rfl | (simp [subR0, subR1, -List.map_take, -List.map_drop, take_map', drop_map', fz_Trail, fzMap fz_Trail, shMap sh_Trail]; done) | (simp [subR0, subR1, -List.map_take, -List.map_drop, take_map', drop_map', fz_Trail, fzMap fz_Trail, shMap sh_Trail]; rfl)) ?_
          refine appB (b := 48) (hs := by have f1 := hs.1; have f2 := hI2; have f3 := hi1; have f4 := hi2; have f5 : (p0[x1.i]'hi1).L.length ≤ 1048576 := (hs.get hi1).1; refine ⟨?_, ?_⟩; (show List.length _ * 48 ≤ _); (try simp only [List.length_map, List.length_append, List.length_cons, List.length_nil, List.length_take, List.length_drop]); omega; (try simp only [List.length_map, List.length_append, List.length_cons, List.length_nil, List.length_take, List.length_drop]); omega) ?_
          refine litE (m := 4) rfl ?_
          refine litE (m := 5) rfl ?_
          refine .inr ?_
          refine rowsE (Y := List.map (Trail.cells false) ((List.take ((x3.s).toNat - 0) (List.drop 0 x2.s)) ++ [(spec_l10Copy ((p0[x1.i]'hi1).L[x2.i]'hi2))])) (by first | rfl | (simp [subR0, subR1, -List.map_take, -List.map_drop, take_map', drop_map', fz_Trail, fzMap fz_Trail, shMap sh_Trail]; done) | (simp [subR0, subR1, -List.map_take, -List.map_drop, take_map', drop_map', fz_Trail, fzMap fz_Trail, shMap sh_Trail]; rfl)) ?_
          refine appB (b := 48) (hs := by have f1 := hs.1; have f2 := hI2; have f3 := hi1; have f4 := hi2; have f5 : (p0[x1.i]'hi1).L.length ≤ 1048576 := (hs.get hi1).1; refine ⟨?_, ?_⟩; (show List.length _ * 48 ≤ _); (try simp only [List.length_map, List.length_append, List.length_cons, List.length_nil, List.length_take, List.length_drop]); omega; (try simp only [List.length_map, List.length_append, List.length_cons, List.length_nil, List.length_take, List.length_drop]); omega) ?_
          refine litE (m := 6) rfl ?_
          refine .inr ?_
          refine rowsE (Y := List.map (Trail.cells false) (((List.take ((x3.s).toNat - 0) (List.drop 0 x2.s)) ++ [(spec_l10Copy ((p0[x1.i]'hi1).L[x2.i]'hi2))]) ++ (List.take ((x2.s).length - (x3.s).toNat) (List.drop (x3.s).toNat x2.s)))) (by first | rfl | (simp [subR0, subR1, -List.map_take, -List.map_drop, take_map', drop_map', fz_Trail, fzMap fz_Trail, shMap sh_Trail]; done) | (simp [subR0, subR1, -List.map_take, -List.map_drop, take_map', drop_map', fz_Trail, fzMap fz_Trail, shMap sh_Trail]; rfl)) ?_
          refine appB (b := 48) (hs := by have f1 := hs.1; have f2 := hI2; have f3 := hi1; have f4 := hi2; have f5 : (p0[x1.i]'hi1).L.length ≤ 1048576 := (hs.get hi1).1; refine ⟨?_, ?_⟩; (show List.length _ * 48 ≤ _); (try simp only [List.length_map, List.length_append, List.length_cons, List.length_nil, List.length_take, List.length_drop]); omega; (try simp only [List.length_map, List.length_append, List.length_cons, List.length_nil, List.length_take, List.length_drop]); omega) ?_
          refine litE (m := 7) rfl ?_
          exact x2.goE hi2 hb2 (by have q1 := hI2; have q2 := q3; simp only [List.length_map, List.length_append, List.length_cons, List.length_nil, List.length_take, List.length_drop]; omega) [some 7] ⟨rfl, ⟨⟨rfl, rfl, rfl, rfl, by (first | rfl | omega | (dsimp only; omega) | (simp; done) | (simp; omega) | (simp [LstSt.init, LstSt.step, LstInv.init, CntSt.init, CntSt.step, CntInv.init, WhlSt.init, WhlSt.step]; done) | (simp [LstSt.init, LstSt.step, LstInv.init, CntSt.init, CntSt.step, CntInv.init, WhlSt.init, WhlSt.step]; omega))⟩, (eqInt hw2), rfl, rfl, trivial⟩, ⟨⟨rfl, rfl, rfl⟩, trivial⟩, trivial⟩
        refine And.intro ?_ ?_
        · refine .inr ?_
          refine rowsE (Y := List.map (Trail.cells false) (List.take ((x3.s).toNat - 0) (List.drop 0 x2.s))) (by first | rfl | (simp [subR0, subR1, -List.map_take, -List.map_drop, take_map', drop_map', fz_Trail, fzMap fz_Trail, shMap sh_Trail]; done) | (simp [subR0, subR1, -List.map_take, -List.map_drop, take_map', drop_map', fz_Trail, fzMap fz_Trail, shMap sh_Trail]; rfl)) ?_
          refine appB (b := 48) (hs := by have f1 := hs.1; have f2 := hI2; have f3 := hi1; have f4 := hi2; have f5 : (p0[x1.i]'hi1).L.length ≤ 1048576 := (hs.get hi1).1; refine ⟨?_, ?_⟩; (show List.length _ * 48 ≤ _); (try simp only [List.length_map, List.length_append, List.length_cons, List.length_nil, List.length_take, List.length_drop]); omega; (try simp only [List.length_map, List.length_append, List.length_cons, List.length_nil, List.length_take, List.length_drop]); omega) ?_
          refine litE (m := 4) rfl ?_
          refine litE (m := 5) rfl ?_
          refine .inr ?_
          refine rowsE (Y := List.map (Trail.cells false) ((List.take ((x3.s).toNat - 0) (List.drop 0 x2.s)) ++ [(spec_l10Copy ((p0[x1.i]'hi1).L[x2.i]'hi2))])) (by first | rfl | (simp [subR0, subR1, -List.map_take, -List.map_drop, take_map', drop_map', fz_Trail, fzMap fz_Trail, shMap sh_Trail]; done) | (simp [subR0, subR1, -List.map_take, -List.map_drop, take_map', drop_map', fz_Trail, fzMap fz_Trail, shMap sh_Trail]; rfl)) ?_
          refine appB (b := 48) (hs := by have f1 := hs.1; have f2 := hI2; have f3 := hi1; have f4 := hi2; have f5 : (p0[x1.i]'hi1).L.length ≤ 1048576 := (hs.get hi1).1; refine ⟨?_, ?_⟩; (show List.length _ * 48 ≤ _); (try simp only [List.length_map, List.length_append, List.length_cons, List.length_nil, List.length_take, List.length_drop]); omega; (try simp only [List.length_map, List.length_append, List.length_cons, List.length_nil, List.length_take, List.length_drop]); omega) ?_
          refine litE (m := 6) rfl ?_
          refine .inr ?_
          refine rowsE (Y := List.map (Trail.cells false) (((List.take ((x3.s).toNat - 0) (List.drop 0 x2.s)) ++ [(spec_l10Copy ((p0[x1.i]'hi1).L[x2.i]'hi2))]) ++ (List.take ((x2.s).length - (x3.s).toNat) (List.drop (x3.s).toNat x2.s)))) (by first | rfl | (simp [subR0, subR1, -List.map_take, -List.map_drop, take_map', drop_map', fz_Trail, fzMap fz_Trail, shMap sh_Trail]; done) | (simp [subR0, subR1, -List.map_take, -List.map_drop, take_map', drop_map', fz_Trail, fzMap fz_Trail, shMap sh_Trail]; rfl)) ?_
          refine appB (b := 48) (hs := by have f1 := hs.1; have f2 := hI2; have f3 := hi1; have f4 := hi2; have f5 : (p0[x1.i]'hi1).L.length ≤ 1048576 := (hs.get hi1).1; refine ⟨?_, ?_⟩; (show List.length _ * 48 ≤ _); (try simp only [List.length_map, List.length_append, List.length_cons, List.length_nil, List.length_take, List.length_drop]); omega; (try simp only [List.length_map, List.length_append, List.length_cons, List.length_nil, List.length_take, List.length_drop]); omega) ?_
          refine litE (m := 7) rfl ?_
          exact x2.goE hi2 hb2 (by have q1 := hI2; have q2 := q3; simp only [List.length_map, List.length_append, List.length_cons, List.length_nil, List.length_take, List.length_drop]; omega) [some 7] ⟨rfl, ⟨⟨rfl, rfl, rfl, rfl, by (first | rfl | omega | (dsimp only; omega) | (simp; done) | (simp; omega) | (simp [LstSt.init, LstSt.step, LstInv.init, CntSt.init, CntSt.step, CntInv.init, WhlSt.init, WhlSt.step]; done) | (simp [LstSt.init, LstSt.step, LstInv.init, CntSt.init, CntSt.step, CntInv.init, WhlSt.init, WhlSt.step]; omega))⟩, (eqInt hw2), rfl, rfl, trivial⟩, ⟨⟨rfl, rfl, rfl⟩, trivial⟩, trivial⟩
        refine litE (m := 4) rfl ?_
        refine .inr ?_
        refine rowsE (Y := List.map (Trail.cells false) (List.take ((x3.s).toNat - 0) (List.drop 0 x2.s))) (by first | rfl | (simp [subR0, subR1, -List.map_take, -List.map_drop, take_map', drop_map', fz_Trail, fzMap fz_Trail, shMap sh_Trail]; done) | (simp [subR0, subR1, -List.map_take, -List.map_drop, take_map', drop_map', fz_Trail, fzMap fz_Trail, shMap sh_Trail]; rfl)) ?_
        refine appB (b := 48) (hs := by have f1 := hs.1; have f2 := hI2; have f3 := hi1; have f4 := hi2; have f5 : (p0[x1.i]'hi1).L.length ≤ 1048576 := (hs.get hi1).1; refine ⟨?_, ?_⟩; (show List.length _ * 48 ≤ _); (try simp only [List.length_map, List.length_append, List.length_cons, List.length_nil, List.length_take, List.length_drop]); omega; (try simp only [List.length_map, List.length_append, List.length_cons, List.length_nil, List.length_take, List.length_drop]); omega) ?_
        refine litE (m := 5) rfl ?_
        refine .inr ?_
        refine rowsE (Y := List.map (Trail.cells false) ((List.take ((x3.s).toNat - 0) (List.drop 0 x2.s)) ++ [(spec_l10Copy ((p0[x1.i]'hi1).L[x2.i]'hi2))])) (by first | rfl | (simp [subR0, subR1, -List.map_take, -List.map_drop, take_map', drop_map', fz_Trail, fzMap fz_Trail, shMap sh_Trail]; done) | (simp [subR0, subR1, -List.map_take, -List.map_drop, take_map', drop_map', fz_Trail, fzMap fz_Trail, shMap sh_Trail]; rfl)) ?_
        refine appB (b := 48) (hs := by have f1 := hs.1; have f2 := hI2; have f3 := hi1; have f4 := hi2; have f5 : (p0[x1.i]'hi1).L.length ≤ 1048576 := (hs.get hi1).1; refine ⟨?_, ?_⟩; (show List.length _ * 48 ≤ _); (try simp only [List.length_map, List.length_append, List.length_cons, List.length_nil, List.length_take, List.length_drop]); omega; (try simp only [List.length_map, List.length_append, List.length_cons, List.length_nil, List.length_take, List.length_drop]); omega) ?_
        refine litE (m := 6) rfl ?_
        refine .inr ?_
        refine rowsE (Y := List.map (Trail.cells false) (((List.take ((x3.s).toNat - 0) (List.drop 0 x2.s)) ++ [(spec_l10Copy ((p0[x1.i]'hi1).L[x2.i]'hi2))]) ++ (List.take ((x2.s).length - (x3.s).toNat) (List.drop (x3.s).toNat x2.s)))) (by first | rfl | (simp [subR0, subR1, -List.map_take, -List.map_drop, take_map', drop_map', fz_Trail, fzMap fz_Trail, shMap sh_Trail]; done) | (simp [subR0, subR1, -List.map_take, -List.map_drop, take_map', drop_map', fz_Trail, fzMap fz_Trail, shMap sh_Trail]; rfl)) ?_
        refine appB (b := 48) (hs := by have f1 := hs.1; have f2 := hI2; have f3 := hi1; have f4 := hi2; have f5 : (p0[x1.i]'hi1).L.length ≤ 1048576 := (hs.get hi1).1; refine ⟨?_, ?_⟩; (show List.length _ * 48 ≤ _); (try simp only [List.length_map, List.length_append, List.length_cons, List.length_nil, List.length_take, List.length_drop]); omega; (try simp only [List.length_map, List.length_append, List.length_cons, List.length_nil, List.length_take, List.length_drop]); omega) ?_
        refine litE (m := 7) rfl ?_
        exact x2.goE hi2 hb2 (by have q1 := hI2; have q2 := q3; simp only [List.length_map, List.length_append, List.length_cons, List.length_nil, List.length_take, List.length_drop]; omega) [some 7] ⟨rfl, ⟨⟨rfl, rfl, rfl, rfl, by (first | rfl | omega | (dsimp only; omega) | (simp; done) | (simp; omega) | (simp [LstSt.init, LstSt.step, LstInv.init, CntSt.init, CntSt.step, CntInv.init, WhlSt.init, WhlSt.step]; done) | (simp [LstSt.init, LstSt.step, LstInv.init, CntSt.init, CntSt.step, CntInv.init, WhlSt.init, WhlSt.step]; omega))⟩, (eqInt hw2), rfl, rfl, trivial⟩, ⟨⟨rfl, rfl, rfl⟩, trivial⟩, trivial⟩
      refine And.intro ?_ ?_
      · refine litE (m := 3) rfl ?_
        refine And.intro ?_ ?_
        · refine .inr ?_
          refine rowsE (Y := List.map (Trail.cells false) (List.take ((x3.s).toNat - 0) (List.drop 0 x2.s))) (by first | rfl | (simp [subR0, subR1, -List.map_take, -List.map_drop, take_map', drop_map', fz_Trail, fzMap fz_Trail, shMap sh_Trail]; done) | (simp [subR0, subR1, -List.map_take, -List.map_drop, take_map', drop_map', fz_Trail, fzMap fz_Trail, shMap sh_Trail]; rfl)) ?_
          refine appB (b := 48) (hs := by have f1 := hs.1; have f2 := hI2; have f3 := hi1; have f4 := hi2; have f5 : (p0[x1.i]'hi1).L.length ≤ 1048576 := (hs.get hi1).1; refine ⟨?_, ?_⟩; (show List.length _ * 48 ≤ _); (try simp only [List.length_map, List.length_append, List.length_cons, List.length_nil, List.length_take, List.length_drop]); omega; (try simp only [List.length_map, List.length_append, List.length_cons, List.length_nil, List.length_take, List.length_drop]); omega) ?_
          refine litE (m := 4) rfl ?_
          refine litE (m := 5) rfl ?_
          refine .inr ?_
          refine rowsE (Y := List.map (Trail.cells false) ((List.take ((x3.s).toNat - 0) (List.drop 0 x2.s)) ++ [(spec_l10Copy ((p0[x1.i]'hi1).L[x2.i]'hi2))])) (by first | rfl | (simp [subR0, subR1, -List.map_take, -List.map_drop, take_map', drop_map', fz_Trail, fzMap fz_Trail, shMap sh_Trail]; done) | (simp [subR0, subR1, -List.map_take, -List.map_drop, take_map', drop_map', fz_Trail, fzMap fz_Trail, shMap sh_Trail]; rfl)) ?_
          refine appB (b := 48) (hs := by have f1 := hs.1; have f2 := hI2; have f3 := hi1; have f4 := hi2; have f5 : (p0[x1.i]'hi1).L.length ≤ 1048576 := (hs.get hi1).1; refine ⟨?_, ?_⟩; (show List.length _ * 48 ≤ _); (try simp only [List.length_map, List.length_append, List.length_cons, List.length_nil, List.length_take, List.length_drop]); omega; (try simp only [List.length_map, List.length_append, List.length_cons, List.length_nil, List.length_take, List.length_drop]); omega) ?_
          refine litE (m := 6) rfl ?_
          refine .inr ?_
          refine rowsE (Y := List.map (Trail.cells false) (((List.take ((x3.s).toNat - 0) (List.drop 0 x2.s)) ++ [(spec_l10Copy ((p0[x1.i]'hi1).L[x2.i]'hi2))]) ++ (List.take ((x2.s).length - (x3.s).toNat) (List.drop (x3.s).toNat x2.s)))) (by first | rfl | (simp [subR0, subR1, -List.map_take, -List.map_drop, take_map', drop_map', fz_Trail, fzMap fz_Trail, shMap sh_Trail]; done) | (simp [subR0, subR1, -List.map_take, -List.map_drop, take_map', drop_map', fz_Trail, fzMap fz_Trail, shMap sh_Trail]; rfl)) ?_
          refine appB (b := 48) (hs := by have f1 := hs.1; have f2 := hI2; have f3 := hi1; have f4 := hi2; have f5 : (p0[x1.i]'hi1).L.length ≤ 1048576 := (hs.get hi1).1; refine ⟨?_, ?_⟩; (show List.length _ * 48 ≤ _); (try simp only [List.length_map, List.length_append, List.length_cons, List.length_nil, List.length_take, List.length_drop]); omega; (try simp only [List.length_map, List.length_append, List.length_cons, List.length_nil, List.length_take, List.length_drop]); omega) ?_
          refine litE (m := 7) rfl ?_
          exact x2.goE hi2 hb2 (by have q1 := hI2; have q2 := q3; simp only [List.length_map, List.length_append, List.length_cons, List.length_nil, List.length_take, List.length_drop]; omega) [some 7] ⟨rfl, ⟨⟨rfl, rfl, rfl, rfl, by (first | rfl | omega | (dsimp only; omega) | (simp; done) | (simp; omega) | (simp [LstSt.init, LstSt.step, LstInv.init, CntSt.init, CntSt.step, CntInv.init, WhlSt.init, WhlSt.step]; done) | (simp [LstSt.init, LstSt.step, LstInv.init, CntSt.init, CntSt.step, CntInv.init, WhlSt.init, WhlSt.step]; omega))⟩, (eqInt hw2), rfl, rfl, trivial⟩, ⟨⟨rfl, rfl, rfl⟩, trivial⟩, trivial⟩
        refine litE (m := 4) rfl ?_
        refine .inr ?_
        refine rowsE (Y := List.map (Trail.cells false) (List.take ((x3.s).toNat - 0) (List.drop 0 x2.s))) (by first | rfl | (simp [subR0, subR1, -List.map_take, -List.map_drop, take_map', drop_map', fz_Trail, fzMap fz_Trail, shMap sh_Trail]; done) | (simp [subR0, subR1, -List.map_take, -List.map_drop, take_map', drop_map', fz_Trail, fzMap fz_Trail, shMap sh_Trail]; rfl)) ?_
        refine appB (b := 48) (hs := by have f1 := hs.1; have f2 := hI2; have f3 := hi1; have f4 := hi2; have f5 : (p0[x1.i]'hi1).L.length ≤ 1048576 := (hs.get hi1).1; refine ⟨?_, ?_⟩; (show List.length _ * 48 ≤ _); (try simp only [List.length_map, List.length_append, List.length_cons, List.length_nil, List.length_take, List.length_drop]); omega; (try simp only [List.length_map, List.length_append, List.length_cons, List.length_nil, List.length_take, List.length_drop]); omega) ?_
        refine litE (m := 5) rfl ?_
        refine .inr ?_
        refine rowsE (Y := List.map (Trail.cells false) ((List.take ((x3.s).toNat - 0) (List.drop 0 x2.s)) ++ [(spec_l10Copy ((p0[x1.i]'hi1).L[x2.i]'hi2))])) (by first | rfl | (simp [subR0, subR1, -List.map_take, -List.map_drop, take_map', drop_map', fz_Trail, fzMap fz_Trail, shMap sh_Trail]; done) | (simp [subR0, subR1, -List.map_take, -List.map_drop, take_map', drop_map', fz_Trail, fzMap fz_Trail, shMap sh_Trail]; rfl)) ?_
        refine appB (b := 48) (hs := by have f1 := hs.1; have f2 := hI2; have f3 := hi1; have f4 := hi2; have f5 : (p0[x1.i]'hi1).L.length ≤ 1048576 := (hs.get hi1).1; refine ⟨?_, ?_⟩; (show List.length _ * 48 ≤ _); (try simp only [List.length_map, List.length_append, List.length_cons, List.length_nil, List.length_take, List.length_drop]); omega; (try simp only [List.length_map, List.length_append, List.length_cons, List.length_nil, List.length_take, List.length_drop]); omega) ?_
        refine litE (m := 6) rfl ?_
        refine .inr ?_
        refine rowsE (Y := List.map (Trail.cells false) (((List.take ((x3.s).toNat - 0) (List.drop 0 x2.s)) ++ [(spec_l10Copy ((p0[x1.i]'hi1).L[x2.i]'hi2))]) ++ (List.take ((x2.s).length - (x3.s).toNat) (List.drop (x3.s).toNat x2.s)))) (by first | rfl | (simp [subR0, subR1, -List.map_take, -List.map_drop, take_map', drop_map', fz_Trail, fzMap fz_Trail, shMap sh_Trail]; done) | (simp [subR0, subR1, -List.map_take, -List.map_drop, take_map', drop_map', fz_Trail, fzMap fz_Trail, shMap sh_Trail]; rfl)) ?_
        refine appB (b := 48) (hs := by have f1 := hs.1; have f2 := hI2; have f3 := hi1; have f4 := hi2; have f5 : (p0[x1.i]'hi1).L.length ≤ 1048576 := (hs.get hi1).1; refine ⟨?_, ?_⟩; (show List.length _ * 48 ≤ _); (try simp only [List.length_map, List.length_append, List.length_cons, List.length_nil, List.length_take, List.length_drop]); omega; (try simp only [List.length_map, List.length_append, List.length_cons, List.length_nil, List.length_take, List.length_drop]); omega) ?_
        refine litE (m := 7) rfl ?_
        exact x2.goE hi2 hb2 (by have q1 := hI2; have q2 := q3; simp only [List.length_map, List.length_append, List.length_cons, List.length_nil, List.length_take, List.length_drop]; omega) [some 7] ⟨rfl, ⟨⟨rfl, rfl, rfl, rfl, by (first | rfl | omega | (dsimp only; omega) | (simp; done) | (simp; omega) | (simp [LstSt.init, LstSt.step, LstInv.init, CntSt.init, CntSt.step, CntInv.init, WhlSt.init, WhlSt.step]; done) | (simp [LstSt.init, LstSt.step, LstInv.init, CntSt.init, CntSt.step, CntInv.init, WhlSt.init, WhlSt.step]; omega))⟩, (eqInt hw2), rfl, rfl, trivial⟩, ⟨⟨rfl, rfl, rfl⟩, trivial⟩, trivial⟩
      refine litE (m := 3) rfl ?_
      refine litE (m := 4) rfl ?_
      refine .inr ?_
      refine rowsE (Y := List.map (Trail.cells false) (List.take ((x3.s).toNat - 0) (List.drop 0 x2.s))) (by first | rfl | (simp [subR0, subR1, -List.map_take, -List.map_drop, take_map', drop_map', fz_Trail, fzMap fz_Trail, shMap sh_Trail]; done) | (simp [subR0, subR1, -List.map_take, -List.map_drop, take_map', drop_map', fz_Trail, fzMap fz_Trail, shMap sh_Trail]; rfl)) ?_
      refine appB (b := 48) (hs := by have f1 := hs.1; have f2 := hI2; have f3 := hi1; have f4 := hi2; have f5 : (p0[x1.i]'hi1).L.length ≤ 1048576 := (hs.get hi1).1; refine ⟨?_, ?_⟩; (show List.length _ * 48 ≤ _); (try simp only [List.length_map, List.length_append, List.length_cons, List.length_nil, List.length_take, List.length_drop]); omega; (try simp only [List.length_map, List.length_append, List.length_cons, List.length_nil, List.length_take, List.length_drop]); omega) ?_
      refine litE (m := 5) rfl ?_
      refine .inr ?_
      refine rowsE (Y := List.map (Trail.cells false) ((List.take ((x3.s).toNat - 0) (List.drop 0 x2.s)) ++ [(spec_l10Copy ((p0[x1.i]'hi1).L[x2.i]'hi2))])) (by first | rfl | (simp [subR0, subR1, -List.map_take, -List.map_drop, take_map', drop_map', fz_Trail, fzMap fz_Trail, shMap sh_Trail]; done) | (simp [subR0, subR1, -List.map_take, -List.map_drop, take_map', drop_map', fz_Trail, fzMap fz_Trail, shMap sh_Trail]; rfl)) ?_
      refine appB (b := 48) (hs := by have f1 := hs.1; have f2 := hI2; have f3 := hi1; have f4 := hi2; have f5 : (p0[x1.i]'hi1).L.length ≤ 1048576 := (hs.get hi1).1; refine ⟨?_, ?_⟩; (show List.length _ * 48 ≤ _); (try simp only [List.length_map, List.length_append, List.length_cons, List.length_nil, List.length_take, List.length_drop]); omega; (try simp only [List.length_map, List.length_append, List.length_cons, List.length_nil, List.length_take, List.length_drop]); omega) ?_
      refine litE (m := 6) rfl ?_
      refine .inr ?_
      refine rowsE (Y := List.map (Trail.cells false) (((List.take ((x3.s).toNat - 0) (List.drop 0 x2.s)) ++ [(spec_l10Copy ((p0[x1.i]'hi1).L[x2.i]'hi2))]) ++ (List.take ((x2.s).length - (x3.s).toNat) (List.drop (x3.s).toNat x2.s)))) (by first | rfl | (simp [subR0, subR1, -List.map_take, -List.map_drop, take_map', drop_map', fz_Trail, fzMap fz_Trail, shMap sh_Trail]; done) | (simp [subR0, subR1, -List.map_take, -List.map_drop, take_map', drop_map', fz_Trail, fzMap fz_Trail, shMap sh_Trail]; rfl)) ?_
      refine appB (b := 48) (hs := by have f1 := hs.1; have f2 := hI2; have f3 := hi1; have f4 := hi2; have f5 : (p0[x1.i]'hi1).L.length ≤ 1048576 := (hs.get hi1).1; refine ⟨?_, ?_⟩; (show List.length _ * 48 ≤ _); (try simp only [List.length_map, List.length_append, List.length_cons, List.length_nil, List.length_take, List.length_drop]); omega; (try simp only [List.length_map, List.length_append, List.length_cons, List.length_nil, List.length_take, List.length_drop]); omega) ?_
      refine litE (m := 7) rfl ?_
      exact x2.goE hi2 hb2 (by have q1 := hI2; have q2 := q3; simp only [List.length_map, List.length_append, List.length_cons, List.length_nil, List.length_take, List.length_drop]; omega) [some 7] ⟨rfl, ⟨⟨rfl, rfl, rfl, rfl, by (first | rfl | omega | (dsimp only; omega) | (simp; done) | (simp; omega) | (simp [LstSt.init, LstSt.step, LstInv.init, CntSt.init, CntSt.step, CntInv.init, WhlSt.init, WhlSt.step]; done) | (simp [LstSt.init, LstSt.step, LstInv.init, CntSt.init, CntSt.step, CntInv.init, WhlSt.init, WhlSt.step]; omega))⟩, (eqInt hw2), rfl, rfl, trivial⟩, ⟨⟨rfl, rfl, rfl⟩, trivial⟩, trivial⟩
    have hb1 := finE hb1 (x2.fin hi2)
    exact x1.goE hi1 hb1 (by have f5 : (p0[x1.i]'hi1).L.length ≤ 1048576 := (hs.get hi1).1; have f6 := x2.h; have f7 := hI2; omega) [some 0] ⟨rfl, ⟨⟨rfl, rfl, rfl, rfl, by (first | rfl | omega | (dsimp only; omega) | (simp; done) | (simp; omega) | (simp [LstSt.init, LstSt.step, LstInv.init, CntSt.init, CntSt.step, CntInv.init, WhlSt.init, WhlSt.step]; done) | (simp [LstSt.init, LstSt.step, LstInv.init, CntSt.init, CntSt.step, CntInv.init, WhlSt.init, WhlSt.step]; omega))⟩, (eqInt hw1), rfl, trivial⟩, ⟨⟨rfl, rfl, rfl⟩, trivial⟩, trivial⟩
  have hg := finE hg (x1.fin hi1)
  refine seqE ?_
  exact leafA hown hg
def spec_Settled (p0 : World) : Bool :=
  (bif (spec_Quiet p0) then (bif p0.Shut then (((((spec_OpenTrails p0.St)).length : Nat) : Int) == 0) else false) else false)
theorem c_spec_Settled (p0 : World) (hs : World.bd 1048576 p0) : FnOk prog 10 [.agg ((World.cells false) p0)] ⟨.one (.v (.bool (spec_Settled p0))), [], [], false⟩ := by
  refine FnOk.intro (E := env) envOk wide func10 rfl (by kernel_rfl) rfl rfl ?_
  have hg := spec_Settled.eq_1 p0
  have hown : ∀ g : Bool, AV.Own (AV.one (.v (.bool g))) := fun g => .v _
  refine seqE ?_
  refine litE (m := 0) rfl ?_
  refine seqE ?_
  refine .inl (⟨_, _, c_spec_Quiet p0 (by first | exact hs | exact hs.2.1 | exact hs.2.2.2.1 | exact trivial), (FzAs.same _), ?_⟩)
  refine litE (m := 2) rfl ?_
  refine brE hg (fun hg h1 => ?_) (fun hg h1 => leafE hown hg)
  refine brE hg (fun hg h2 => ?_) (fun hg h2 => leafE hown hg)
  refine .inl (⟨_, _, (FnOk.frz1 rfl (frzMap frz_Trail _) (c_spec_OpenTrails p0.St (by first | exact hs | exact hs.2.1 | exact hs.2.2.2.1 | exact trivial))), (FzAs.same _), ?_⟩)
  refine litE (m := 3) rfl ?_
  refine lenM fun hN3 => ?_
  exact leafE hown hg
def impl_within (p0 : Int) (p1 : Int) (p2 : Int) : Bool :=
  (bif (decide (p0 ≥ p1)) then (decide (p0 ≤ p2)) else false)
theorem c_impl_within (p0 : Int) (p1 : Int) (p2 : Int) : FnOk prog 102 [.one (.v (.int .i64 p0)), .one (.v (.int .i64 p1)), .one (.v (.int .i64 p2))] ⟨.one (.v (.bool (impl_within p0 p1 p2))), [], [], false⟩ := by
  refine FnOk.intro (E := env) envOk wide func102 rfl (by kernel_rfl) rfl rfl ?_
  have hg := impl_within.eq_1 p0 p1 p2
  have hown : ∀ g : Bool, AV.Own (AV.one (.v (.bool g))) := fun g => .v _
  refine seqE ?_
  refine seqE ?_
  exact brD hg (fun hg h1 => leafE hown hg) (fun hg h1 => leafE hown hg)
def impl_NameOk_b1 (p0 : ByteArray) (i1 : Nat) (s1 : Unit) : Step (Unit) Bool :=
  (bif (decide ((((p0).data.getD i1 0).toNat : Int) < 97)) then (.done false) else (bif (decide ((((p0).data.getD i1 0).toNat : Int) > 122)) then (.done false) else (.next ())))
def impl_NameOk (p0 : ByteArray) : Bool :=
  (Fin.get (fun s1 => (impl_within (((p0).size : Nat) : Int) 1 8)) (loopC (impl_NameOk_b1 p0) 0 () (p0).size))
theorem c_impl_NameOk (p0 : ByteArray) : FnOk prog 187 [.one (.v (.string p0))] ⟨.one (.v (.bool (impl_NameOk p0))), [], [], false⟩ := by
  refine FnOk.intro (E := env) envOk wide func187 rfl (by kernel_rfl) rfl rfl ?_
  have hg := impl_NameOk.eq_1 p0
  have hown : ∀ g : Bool, AV.Own (AV.one (.v (.bool g))) := fun g => .v _
  refine seqE ?_
  refine seqE ?_
  refine seqE ?_
  refine loopCE hg [0] (fun x1 => [(3, .one (.v (.int .i64 ((x1.i : Nat) : Int))))]) (fun x1 => []) [] ?_ (fun x1 => ?_)
  · exact ⟨rfl, ⟨rfl, rfl, trivial⟩, trivial, trivial⟩
  refine seqE ?_
  refine seqE ?_
  refine lenS fun hN1 => ?_
  refine tstL (fun hi1 => ?_) (fun hi1 => ?_)
  · have hb1 := (x1.bdy hi1).trans (impl_NameOk_b1.eq_1 ..)
    have hw1 := wrap_succ hi1 (by first | assumption | omega)
    refine seqE ?_
    refine seqE ?_
    refine andE (by (first | omega | (simp (disch := omega) only [wrap_small, mid_eq, List.length_map]; omega) | (simp; done) | (simp; omega) | (simp at *; omega) | (simp at *; done) | (simp_all; done) | (simp_all; omega))) ?_
    refine brDF hb1 (fun hb1 h2 => ?_) (fun hb1 h2 => ?_)
    · refine andE (by (first | omega | (simp (disch := omega) only [wrap_small, mid_eq, List.length_map]; omega) | (simp; done) | (simp; omega) | (simp at *; omega) | (simp at *; done) | (simp_all; done) | (simp_all; omega))) ?_
      refine brD hb1 (fun hb1 h3 => ?_) (fun hb1 h3 => x1.goE hi1 hb1 [] ⟨rfl, ⟨(eqInt hw1), rfl, trivial⟩, trivial, trivial⟩)
      refine seqE ?_
      have hg := donE hg (x1.outD hi1 hb1)
      exact leafE hown hg
    · refine seqE ?_
      have hg := donE hg (x1.outD hi1 hb1)
      exact leafE hown hg
  have hg := finE hg (x1.fin hi1)
  refine seqE ?_
  refine lenS fun hN4 => ?_
  refine .inl (⟨_, _, c_impl_within (((p0).size : Nat) : Int) 1 8, (FzAs.same _), ?_⟩)
  refine litE (m := 1) rfl ?_
  exact leafE hown hg
def impl_PlainOk_b1 (p0 : ByteArray) (i1 : Nat) (s1 : Unit) : Step (Unit) Bool :=
  (bif (!(impl_within (IntKind.i64.wrap (((p0).data.getD i1 0).toNat : Int)) 32 126)) then (.done false) else (bif ((((p0).data.getD i1 0).toNat : Int) == 34) then (.done false) else (.next ())))
def impl_PlainOk (p0 : ByteArray) : Bool :=
  (Fin.get (fun s1 => (decide ((((p0).size : Nat) : Int) ≤ 20))) (loopC (impl_PlainOk_b1 p0) 0 () (p0).size))
theorem c_impl_PlainOk (p0 : ByteArray) : FnOk prog 188 [.one (.v (.string p0))] ⟨.one (.v (.bool (impl_PlainOk p0))), [], [], false⟩ := by
  refine FnOk.intro (E := env) envOk wide func188 rfl (by kernel_rfl) rfl rfl ?_
  have hg := impl_PlainOk.eq_1 p0
  have hown : ∀ g : Bool, AV.Own (AV.one (.v (.bool g))) := fun g => .v _
  refine seqE ?_
  refine seqE ?_
  refine seqE ?_
  refine loopCE hg [0] (fun x1 => [(3, .one (.v (.int .i64 ((x1.i : Nat) : Int))))]) (fun x1 => []) [] ?_ (fun x1 => ?_)
  · exact ⟨rfl, ⟨rfl, rfl, trivial⟩, trivial, trivial⟩
  refine seqE ?_
  refine seqE ?_
  refine lenS fun hN1 => ?_
  refine tstL (fun hi1 => ?_) (fun hi1 => ?_)
  · have hb1 := (x1.bdy hi1).trans (impl_PlainOk_b1.eq_1 ..)
    have hw1 := wrap_succ hi1 (by first | assumption | omega)
    refine seqE ?_
    refine seqE ?_
    refine andE (by (first | omega | (simp (disch := omega) only [wrap_small, mid_eq, List.length_map]; omega) | (simp; done) | (simp; omega) | (simp at *; omega) | (simp at *; done) | (simp_all; done) | (simp_all; omega))) ?_
    refine .inl (⟨_, _, c_impl_within (IntKind.i64.wrap (((p0).data.getD x1.i 0).toNat : Int)) 32 126, (FzAs.same _), ?_⟩)
    refine litE (m := 1) rfl ?_
    refine brF hb1 (fun hb1 h2 => ?_) (fun hb1 h2 => ?_)
    · refine andE (by (first | omega | (simp (disch := omega) only [wrap_small, mid_eq, List.length_map]; omega) | (simp; done) | (simp; omega) | (simp at *; omega) | (simp at *; done) | (simp_all; done) | (simp_all; omega))) ?_
      refine brQ hb1 (fun hb1 h3 => ?_) (fun hb1 h3 => x1.goE hi1 hb1 [] ⟨rfl, ⟨(eqInt hw1), rfl, trivial⟩, trivial, trivial⟩)
      refine seqE ?_
      have hg := donE hg (x1.outD hi1 hb1)
      exact leafE hown hg
    · refine seqE ?_
      have hg := donE hg (x1.outD hi1 hb1)
      exact leafE hown hg
  have hg := finE hg (x1.fin hi1)
  refine seqE ?_
  refine lenS fun hN4 => ?_
  exact leafE hown hg
def impl_polHeadOk_j1 (p0 : Pol) : Step (Bool) Bool :=
  (bif (p0.N == 0) then (bif (decide (p0.Key = (ByteArray.mk #[]))) then (.next (decide (p0.Text = (ByteArray.mk #[])))) else (.next false)) else (.next false))
def impl_polHeadOk_j2 (p0 : Pol) : Step (Bool) Bool :=
  (bif (p0.Kind == 1) then (.next (p0.Kind == 1)) else (bif (p0.Kind == 2) then (.next (p0.Kind == 2)) else (.next (p0.Kind == 6))))
def impl_polHeadOk_j3 (p0 : Pol) : Step (Bool) Bool :=
  (bif (p0.Kind == 7) then (.next (p0.Kind == 7)) else (.next (p0.Kind == 8)))
def impl_polHeadOk (p0 : Pol) : Bool :=
  (Step.get (fun s1 => (Step.get (fun s2 => (bif s2 then (bif s1 then ((((p0.L).length : Nat) : Int) == 0) else false) else (bif (p0.Kind == 3) then (bif (impl_within p0.N 0 2147483647) then (bif (decide (p0.Key = (ByteArray.mk #[]))) then (bif (decide (p0.Text = (ByteArray.mk #[]))) then ((((p0.L).length : Nat) : Int) == 0) else false) else false) else false) else (bif (p0.Kind == 4) then (bif (p0.N == 0) then (bif (impl_NameOk p0.Key) then (bif (impl_PlainOk p0.Text) then ((((p0.L).length : Nat) : Int) == 0) else false) else false) else false) else (bif (p0.Kind == 5) then (bif (impl_within p0.N 0 2147483647) then (bif (impl_NameOk p0.Key) then (bif (decide (p0.Text = (ByteArray.mk #[]))) then ((((p0.L).length : Nat) : Int) == 0) else false) else false) else false) else (Step.get (fun s3 => (bif s3 then (bif s1 then (impl_within (((p0.L).length : Nat) : Int) 1 4) else false) else (bif (p0.Kind == 9) then (bif s1 then ((((p0.L).length : Nat) : Int) == 1) else false) else false))) (impl_polHeadOk_j3 p0))))))) (impl_polHeadOk_j2 p0))) (impl_polHeadOk_j1 p0))
theorem c_impl_polHeadOk (p0 : Pol) : FnOk prog 183 [.agg (Pol.opn false p0)] ⟨.one (.v (.bool (impl_polHeadOk p0))), [], [], false⟩ := by
  refine FnOk.intro (E := env) envOk wide func183 rfl (by kernel_rfl) rfl rfl ?_
  have hg := impl_polHeadOk.eq_1 p0
  have hown : ∀ g : Bool, AV.Own (AV.one (.v (.bool g))) := fun g => .v _
  refine seqE ?_
  refine litE (m := 0) rfl ?_
  refine joinE hg [1] (fun x1 => [(3, .one (.v (.bool x1.s)))]) (fun x1 => [.keep 0]) (fun hb1 => ?_) (fun x1 hg => ?_)
  · have hb1 := hb1.trans (impl_polHeadOk_j1.eq_1 ..)
    exact brQ hb1 (fun hb1 h1 => brD hb1 (fun hb1 h2 => .inl ⟨⟨_, hb1⟩, [some 0], ⟨rfl, ⟨rfl, ⟨rfl, rfl, rfl, rfl⟩, trivial⟩, ⟨⟨rfl, rfl, ⟨rfl, rfl, rfl, rfl, rfl, trivial⟩⟩, trivial⟩, trivial⟩⟩) (fun hb1 h2 => .inl ⟨⟨_, hb1⟩, [some 0], ⟨rfl, ⟨rfl, ⟨rfl, rfl, rfl, rfl⟩, trivial⟩, ⟨⟨rfl, rfl, ⟨rfl, rfl, rfl, rfl, rfl, trivial⟩⟩, trivial⟩, trivial⟩⟩)) (fun hb1 h1 => .inl ⟨⟨_, hb1⟩, [some 0], ⟨rfl, ⟨rfl, ⟨rfl, rfl, rfl, rfl⟩, trivial⟩, ⟨⟨rfl, rfl, ⟨rfl, rfl, rfl, rfl, rfl, trivial⟩⟩, trivial⟩, trivial⟩⟩)
  refine seqE ?_
  refine seqE ?_
  refine joinE hg [1, 3, 18] (fun x2 => [(19, .one (.v (.bool x2.s)))]) (fun x2 => [.keep 0]) (fun hb2 => ?_) (fun x2 hg => ?_)
  · have hb2 := hb2.trans (impl_polHeadOk_j2.eq_1 ..)
    refine seqE ?_
    refine brQ hb2 (fun hb2 h3 => .inl ⟨⟨_, hb2⟩, [some 0], ⟨rfl, ⟨rfl, ⟨rfl, rfl, rfl, rfl⟩, rfl, rfl, trivial⟩, ⟨⟨rfl, rfl, ⟨rfl, rfl, rfl, rfl, rfl, trivial⟩⟩, trivial⟩, trivial⟩⟩) (fun hb2 h3 => ?_)
    refine seqE ?_
    exact brQ hb2 (fun hb2 h4 => .inl ⟨⟨_, hb2⟩, [some 0], ⟨rfl, ⟨rfl, ⟨rfl, rfl, rfl, rfl⟩, rfl, rfl, trivial⟩, ⟨⟨rfl, rfl, ⟨rfl, rfl, rfl, rfl, rfl, trivial⟩⟩, trivial⟩, trivial⟩⟩) (fun hb2 h4 => .inl ⟨⟨_, hb2⟩, [some 0], ⟨rfl, ⟨rfl, ⟨rfl, rfl, rfl, rfl⟩, rfl, rfl, trivial⟩, ⟨⟨rfl, rfl, ⟨rfl, rfl, rfl, rfl, rfl, trivial⟩⟩, trivial⟩, trivial⟩⟩)
  refine brE hg (fun hg h5 => ?_) (fun hg h5 => ?_)
  · refine seqE ?_
    refine brE hg (fun hg h6 => ?_) (fun hg h6 => leafE hown hg)
    refine lenM fun hN7 => ?_
    exact leafE hown hg
  · refine seqE ?_
    refine brQ hg (fun hg h8 => ?_) (fun hg h8 => ?_)
    · refine seqE ?_
      refine .inl (⟨_, _, c_impl_within p0.N 0 2147483647, (FzAs.same _), ?_⟩)
      refine litE (m := 2) rfl ?_
      refine brE hg (fun hg h9 => ?_) (fun hg h9 => leafE hown hg)
      refine brD hg (fun hg h10 => ?_) (fun hg h10 => leafE hown hg)
      refine brD hg (fun hg h11 => ?_) (fun hg h11 => leafE hown hg)
      refine lenM fun hN12 => ?_
      exact leafE hown hg
    · refine seqE ?_
      refine brQ hg (fun hg h13 => ?_) (fun hg h13 => ?_)
      · refine seqE ?_
        refine brQ hg (fun hg h14 => ?_) (fun hg h14 => leafE hown hg)
        refine .inl (⟨_, _, c_impl_NameOk p0.Key, (FzAs.same _), ?_⟩)
        refine litE (m := 2) rfl ?_
        refine brE hg (fun hg h15 => ?_) (fun hg h15 => leafE hown hg)
        refine .inl (⟨_, _, c_impl_PlainOk p0.Text, (FzAs.same _), ?_⟩)
        refine litE (m := 3) rfl ?_
        refine brE hg (fun hg h16 => ?_) (fun hg h16 => leafE hown hg)
        refine lenM fun hN17 => ?_
        exact leafE hown hg
      · refine seqE ?_
        refine brQ hg (fun hg h18 => ?_) (fun hg h18 => ?_)
        · refine seqE ?_
          refine .inl (⟨_, _, c_impl_within p0.N 0 2147483647, (FzAs.same _), ?_⟩)
          refine litE (m := 2) rfl ?_
          refine brE hg (fun hg h19 => ?_) (fun hg h19 => leafE hown hg)
          refine .inl (⟨_, _, c_impl_NameOk p0.Key, (FzAs.same _), ?_⟩)
          refine litE (m := 3) rfl ?_
          refine brE hg (fun hg h20 => ?_) (fun hg h20 => leafE hown hg)
          refine brD hg (fun hg h21 => ?_) (fun hg h21 => leafE hown hg)
          refine lenM fun hN22 => ?_
          exact leafE hown hg
        · refine joinE hg [1, 3, 18] (fun x3 => [(93, .one (.v (.bool x3.s)))]) (fun x3 => [.keep 0]) (fun hb3 => ?_) (fun x3 hg => ?_)
          · have hb3 := hb3.trans (impl_polHeadOk_j3.eq_1 ..)
            refine seqE ?_
            exact brQ hb3 (fun hb3 h23 => .inl ⟨⟨_, hb3⟩, [some 0], ⟨rfl, ⟨rfl, ⟨rfl, rfl, rfl, rfl⟩, rfl, rfl, trivial⟩, ⟨⟨rfl, rfl, ⟨rfl, rfl, rfl, rfl, rfl, trivial⟩⟩, trivial⟩, trivial⟩⟩) (fun hb3 h23 => .inl ⟨⟨_, hb3⟩, [some 0], ⟨rfl, ⟨rfl, ⟨rfl, rfl, rfl, rfl⟩, rfl, rfl, trivial⟩, ⟨⟨rfl, rfl, ⟨rfl, rfl, rfl, rfl, rfl, trivial⟩⟩, trivial⟩, trivial⟩⟩)
          refine brE hg (fun hg h24 => ?_) (fun hg h24 => ?_)
          · refine seqE ?_
            refine brE hg (fun hg h25 => ?_) (fun hg h25 => leafE hown hg)
            refine lenM fun hN26 => ?_
            refine .inl (⟨_, _, c_impl_within (((p0.L).length : Nat) : Int) 1 4, (FzAs.same _), ?_⟩)
            refine litE (m := 2) rfl ?_
            exact leafE hown hg
          · refine seqE ?_
            refine brQ hg (fun hg h27 => ?_) (fun hg h27 => ?_)
            · refine seqE ?_
              refine brE hg (fun hg h28 => ?_) (fun hg h28 => leafE hown hg)
              refine lenM fun hN29 => ?_
              exact leafE hown hg
            · refine seqE ?_
              exact leafE hown hg
def impl_polParts_b1 (r0 : (Pol → Int → Int)) (p1 : Int) (i1 : Nat) (s1 : Int) (a1 : Pol) : Step (Int) Int :=
  (bif (decide ((IntKind.i64.wrap (s1 + (r0 a1 (IntKind.i64.wrap (p1 + 1))))) ≥ 13)) then (.done 13) else (.next (IntKind.i64.wrap (s1 + (r0 a1 (IntKind.i64.wrap (p1 + 1)))))))
def impl_polPartsR : Nat → Pol → Int → Int
  | 0, _, _ => default
  | n + 1, p0, p1 => (bif (decide (p1 > 4)) then 13 else (bif (!(impl_polHeadOk p0)) then 13 else (Fin.get (fun s1 => s1) (loopL (impl_polParts_b1 (impl_polPartsR n) p1) 0 1 p0.L))))
theorem cR_impl_polParts : ∀ (n : Nat) (p0 : Pol) (p1 : Int), Pol.dep p0 < n → FnOk prog 165 [.agg (Pol.opn false p0), .one (.v (.int .i64 p1))] ⟨.one (.v (.int .i64 (impl_polPartsR n p0 p1))), [], [], false⟩ := by
  intro n
  induction n with
  | zero => intro p0 p1 hd0; omega
  | succ n ih =>
    intro p0 p1 hd0
    refine FnOk.intro (E := env) envOk wide func165 rfl (by kernel_rfl) rfl rfl ?_
    have hg : impl_polPartsR (n + 1) p0 p1 = _ := impl_polPartsR.eq_2 ..
    have hown : ∀ g : Int, AV.Own (AV.one (.v (.int .i64 g))) := fun g => .v _
    refine seqE ?_
    refine litE (m := 0) rfl ?_
    refine seqE ?_
    refine seqE ?_
    refine brDF hg (fun hg h1 => ?_) (fun hg h1 => ?_)
    · refine .inl (⟨_, _, c_impl_polHeadOk p0, (FzAs.same _), ?_⟩)
      refine litE (m := 2) rfl ?_
      refine brE hg (fun hg h2 => ?_) (fun hg h2 => ?_)
      · refine seqE ?_
        exact leafE hown hg
      · refine seqE ?_
        refine seqE ?_
        refine seqE ?_
        refine lenM fun hN3 => ?_
        refine loopLE hg [1, 16, 17] (fun x1 => [(5, .one (.v (.int .i64 x1.s))), (18, .one (.v (.int .i64 ((x1.i : Nat) : Int))))]) (fun x1 => [.dead, .dead]) [none, none] ?_ (fun x1 => ?_)
        · exact ⟨rfl, ⟨rfl, rfl, rfl, rfl, rfl, trivial⟩, trivial, trivial⟩
        refine seqE ?_
        refine seqE ?_
        refine tstL (fun hi1 => ?_) (fun hi1 => ?_)
        · have hb1 := (x1.bdy hi1).trans (impl_polParts_b1.eq_1 ..)
          have hw1 := wrap_succ hi1 (by first | assumption | omega)
          refine seqE ?_
          refine seqE ?_
          refine idxAtR (Pol.cells_eq false) hi1 ?_
          refine litE (m := 2) rfl ?_
          refine seqE ?_
          refine .inl (⟨_, _, ih (p0.L[x1.i]'hi1) (IntKind.i64.wrap (p1 + 1)) (by first | exact hm0 _ (List.getElem_mem _) | exact hm0 _ (List.mem_of_getElem? (by assumption)) | exact Nat.lt_of_lt_of_le (Pol.dep_lt (List.getElem_mem _)) (Nat.le_of_lt_succ hd0) | exact Nat.lt_of_lt_of_le (Pol.dep_lt (List.mem_of_getElem? (by assumption))) (Nat.le_of_lt_succ hd0)), (FzAs.same _), ?_⟩)
          refine litE (m := 4) rfl ?_
          refine seqE ?_
          refine brD hb1 (fun hb1 h4 => ?_) (fun hb1 h4 => x1.goE hi1 hb1 [none, none] ⟨rfl, ⟨rfl, (eqInt hw1), rfl, rfl, rfl, trivial⟩, trivial, trivial⟩)
          refine seqE ?_
          have hg := donE hg (x1.outD hi1 hb1)
          exact leafE hown hg
        have hg := finE hg (x1.fin hi1)
        refine seqE ?_
        exact leafE hown hg
    · refine seqE ?_
      exact leafE hown hg
def impl_polParts (p0 : Pol) (p1 : Int) : Int := impl_polPartsR (Pol.dep p0 + 1) p0 p1
theorem c_impl_polParts (p0 : Pol) (p1 : Int) : FnOk prog 165 [.agg (Pol.opn false p0), .one (.v (.int .i64 p1))] ⟨.one (.v (.int .i64 (impl_polParts p0 p1))), [], [], false⟩ := cR_impl_polParts _ p0 p1 (Nat.lt_succ_self _)
def impl_PolOk (p0 : Pol) : Bool :=
  (decide ((impl_polParts p0 1) ≤ 12))
theorem c_impl_PolOk (p0 : Pol) : FnOk prog 137 [.agg (Pol.opn false p0)] ⟨.one (.v (.bool (impl_PolOk p0))), [], [], false⟩ := by
  refine FnOk.intro (E := env) envOk wide func137 rfl (by kernel_rfl) rfl rfl ?_
  have hg := impl_PolOk.eq_1 p0
  have hown : ∀ g : Bool, AV.Own (AV.one (.v (.bool g))) := fun g => .v _
  refine seqE ?_
  refine litE (m := 0) rfl ?_
  refine seqE ?_
  refine .inl (⟨_, _, c_impl_polParts p0 1, (FzAs.same _), ?_⟩)
  refine litE (m := 2) rfl ?_
  exact leafE hown hg
def impl_ConfOk (p0 : Conf) : Bool :=
  (bif (impl_within p0.Stripes 1 3) then (bif (impl_within p0.Wait 1 50) then (bif (impl_within p0.Budget 1 190) then (bif (impl_within p0.Cache 1 6) then (bif (impl_within p0.Queue 1 4) then (bif (impl_within p0.Rate 0 99) then (bif (impl_within p0.Burst 0 999) then (impl_PolOk p0.Rule) else false) else false) else false) else false) else false) else false) else false)
theorem c_impl_ConfOk (p0 : Conf) : FnOk prog 101 [.agg ((Conf.cells false) p0)] ⟨.one (.v (.bool (impl_ConfOk p0))), [], [], false⟩ := by
  refine FnOk.intro (E := env) envOk wide func101 rfl (by kernel_rfl) rfl rfl ?_
  have hg := impl_ConfOk.eq_1 p0
  have hown : ∀ g : Bool, AV.Own (AV.one (.v (.bool g))) := fun g => .v _
  refine seqE ?_
  refine litE (m := 0) rfl ?_
  refine seqE ?_
  refine .inl (⟨_, _, c_impl_within p0.Stripes 1 3, (FzAs.same _), ?_⟩)
  refine litE (m := 2) rfl ?_
  refine brE hg (fun hg h1 => ?_) (fun hg h1 => leafE hown hg)
  refine .inl (⟨_, _, c_impl_within p0.Wait 1 50, (FzAs.same _), ?_⟩)
  refine litE (m := 3) rfl ?_
  refine brE hg (fun hg h2 => ?_) (fun hg h2 => leafE hown hg)
  refine .inl (⟨_, _, c_impl_within p0.Budget 1 190, (FzAs.same _), ?_⟩)
  refine litE (m := 4) rfl ?_
  refine brE hg (fun hg h3 => ?_) (fun hg h3 => leafE hown hg)
  refine .inl (⟨_, _, c_impl_within p0.Cache 1 6, (FzAs.same _), ?_⟩)
  refine litE (m := 5) rfl ?_
  refine brE hg (fun hg h4 => ?_) (fun hg h4 => leafE hown hg)
  refine .inl (⟨_, _, c_impl_within p0.Queue 1 4, (FzAs.same _), ?_⟩)
  refine litE (m := 6) rfl ?_
  refine brE hg (fun hg h5 => ?_) (fun hg h5 => leafE hown hg)
  refine .inl (⟨_, _, c_impl_within p0.Rate 0 99, (FzAs.same _), ?_⟩)
  refine litE (m := 7) rfl ?_
  refine brE hg (fun hg h6 => ?_) (fun hg h6 => leafE hown hg)
  refine .inl (⟨_, _, c_impl_within p0.Burst 0 999, (FzAs.same _), ?_⟩)
  refine litE (m := 8) rfl ?_
  refine brE hg (fun hg h7 => ?_) (fun hg h7 => leafE hown hg)
  refine .inl (⟨_, _, c_impl_PolOk p0.Rule, (FzAs.same _), ?_⟩)
  refine litE (m := 9) rfl ?_
  exact leafE hown hg
def impl_AttrOk (p0 : Attr) : Bool :=
  (bif p0.Num then (bif (impl_NameOk p0.Key) then (bif (impl_within p0.N 0 2147483647) then (decide (p0.Text = (ByteArray.mk #[]))) else false) else false) else (bif (impl_NameOk p0.Key) then (bif (impl_PlainOk p0.Text) then (p0.N == 0) else false) else false))
theorem c_impl_AttrOk (p0 : Attr) : FnOk prog 184 [.agg (Attr.cells p0)] ⟨.one (.v (.bool (impl_AttrOk p0))), [], [], false⟩ := by
  refine FnOk.intro (E := env) envOk wide func184 rfl (by kernel_rfl) rfl rfl ?_
  have hg := impl_AttrOk.eq_1 p0
  have hown : ∀ g : Bool, AV.Own (AV.one (.v (.bool g))) := fun g => .v _
  refine seqE ?_
  refine litE (m := 0) rfl ?_
  refine seqE ?_
  refine seqE ?_
  refine brE hg (fun hg h1 => ?_) (fun hg h1 => ?_)
  · refine seqE ?_
    refine .inl (⟨_, _, c_impl_NameOk p0.Key, (FzAs.same _), ?_⟩)
    refine litE (m := 2) rfl ?_
    refine brE hg (fun hg h2 => ?_) (fun hg h2 => leafE hown hg)
    refine .inl (⟨_, _, c_impl_within p0.N 0 2147483647, (FzAs.same _), ?_⟩)
    refine litE (m := 3) rfl ?_
    exact brE hg (fun hg h3 => leafE hown hg) (fun hg h3 => leafE hown hg)
  · refine seqE ?_
    refine .inl (⟨_, _, c_impl_NameOk p0.Key, (FzAs.same _), ?_⟩)
    refine litE (m := 2) rfl ?_
    refine brE hg (fun hg h4 => ?_) (fun hg h4 => leafE hown hg)
    refine .inl (⟨_, _, c_impl_PlainOk p0.Text, (FzAs.same _), ?_⟩)
    refine litE (m := 3) rfl ?_
    exact brE hg (fun hg h5 => leafE hown hg) (fun hg h5 => leafE hown hg)
def impl_AttrsOk_b1 (p0 : (List Attr)) (i1 : Nat) (s1 : Unit) (a1 : Attr) : Step (Unit) Bool :=
  (bif (!(impl_AttrOk a1)) then (.done false) else (bif (decide (((i1 : Nat) : Int) > 0)) then (bif (!Op.bytesLess ((p0[((IntKind.i64.wrap (((i1 : Nat) : Int) - 1))).toNat]?.getD default).Key).toList (a1.Key).toList) then (.done false) else (.next ())) else (.next ())))
def impl_AttrsOk (p0 : (List Attr)) : Bool :=
  (Fin.get (fun s1 => (decide ((((p0).length : Nat) : Int) ≤ 4))) (loopL (impl_AttrsOk_b1 p0) 0 () p0))
theorem c_impl_AttrsOk (p0 : (List Attr)) : FnOk prog 175 [.one (.s false 4 (List.map Attr.cells p0))] ⟨.one (.v (.bool (impl_AttrsOk p0))), [], [], false⟩ := by
  refine FnOk.intro (E := env) envOk wide func175 rfl (by kernel_rfl) rfl rfl ?_
  have hg := impl_AttrsOk.eq_1 p0
  have hown : ∀ g : Bool, AV.Own (AV.one (.v (.bool g))) := fun g => .v _
  refine seqE ?_
  refine seqE ?_
  refine seqE ?_
  refine lenM fun hN1 => ?_
  refine loopLE hg [0, 5, 6] (fun x1 => [(7, .one (.v (.int .i64 ((x1.i : Nat) : Int))))]) (fun x1 => []) [] ?_ (fun x1 => ?_)
  · exact ⟨rfl, ⟨rfl, rfl, rfl, rfl, trivial⟩, trivial, trivial⟩
  refine seqE ?_
  refine seqE ?_
  refine tstL (fun hi1 => ?_) (fun hi1 => ?_)
  · have hb1 := (x1.bdy hi1).trans (impl_AttrsOk_b1.eq_1 ..)
    have hw1 := wrap_succ hi1 (by first | assumption | omega)
    refine seqE ?_
    refine seqE ?_
    refine idxAt hi1 ?_
    refine litE (m := 0) rfl ?_
    refine seqE ?_
    refine .inl ⟨by kernel_rfl, ?_⟩
    refine ⟨_, _, c_impl_AttrOk (p0[x1.i]'hi1), (FzAs.same _), ?_⟩
    refine brF hb1 (fun hb1 h2 => ?_) (fun hb1 h2 => ?_)
    · refine brD hb1 (fun hb1 h3 => ?_) (fun hb1 h3 => x1.goE hi1 hb1 [] ⟨rfl, ⟨(eqInt hw1), rfl, rfl, rfl, trivial⟩, trivial, trivial⟩)
      refine idxOf (l := p0) (by (first | omega | (simp (disch := omega) only [wrap_small, mid_eq, List.length_map]; omega) | (simp; done) | (simp; omega) | (simp at *; omega) | (simp at *; done) | (simp_all; done) | (simp_all; omega))) (fun hq4 => ?_)
      refine brE hb1 (fun hb1 h5 => ?_) (fun hb1 h5 => x1.goE hi1 hb1 [] ⟨rfl, ⟨(eqInt hw1), rfl, rfl, rfl, trivial⟩, trivial, trivial⟩)
      refine seqE ?_
      have hg := donE hg (x1.outD hi1 hb1)
      exact leafE hown hg
    · refine seqE ?_
      have hg := donE hg (x1.outD hi1 hb1)
      exact leafE hown hg
  have hg := finE hg (x1.fin hi1)
  refine seqE ?_
  refine lenM fun hN6 => ?_
  exact leafE hown hg
def impl_AttrSize (p0 : Attr) : Int :=
  (bif p0.Num then (IntKind.i64.wrap ((((p0.Key).size : Nat) : Int) + 4)) else (IntKind.i64.wrap ((((p0.Key).size : Nat) : Int) + (((p0.Text).size : Nat) : Int))))
theorem c_impl_AttrSize (p0 : Attr) : FnOk prog 185 [.agg (Attr.cells p0)] ⟨.one (.v (.int .i64 (impl_AttrSize p0))), [], [], false⟩ := by
  refine FnOk.intro (E := env) envOk wide func185 rfl (by kernel_rfl) rfl rfl ?_
  have hg := impl_AttrSize.eq_1 p0
  have hown : ∀ g : Int, AV.Own (AV.one (.v (.int .i64 g))) := fun g => .v _
  refine seqE ?_
  refine litE (m := 0) rfl ?_
  refine seqE ?_
  refine seqE ?_
  refine brE hg (fun hg h1 => ?_) (fun hg h1 => ?_)
  · refine seqE ?_
    refine lenS fun hN2 => ?_
    exact leafE hown hg
  · refine seqE ?_
    refine lenS fun hN3 => ?_
    refine lenS fun hN4 => ?_
    exact leafE hown hg
def impl_SizeOf_b1 (i1 : Nat) (s1 : Int) (a1 : Attr) : Step (Int) Int :=
  (.next (IntKind.i64.wrap (s1 + (impl_AttrSize a1))))
def impl_SizeOf (p0 : Span) : Int :=
  (Fin.get (fun s1 => s1) (loopL impl_SizeOf_b1 0 12 p0.Attrs))
theorem c_impl_SizeOf (p0 : Span) : FnOk prog 176 [.agg ((Span.cells false) p0)] ⟨.one (.v (.int .i64 (impl_SizeOf p0))), [], [], false⟩ := by
  refine FnOk.intro (E := env) envOk wide func176 rfl (by kernel_rfl) rfl rfl ?_
  have hg := impl_SizeOf.eq_1 p0
  have hown : ∀ g : Int, AV.Own (AV.one (.v (.int .i64 g))) := fun g => .v _
  refine seqE ?_
  refine litE (m := 0) rfl ?_
  refine seqE ?_
  refine seqE ?_
  refine seqE ?_
  refine lenM fun hN1 => ?_
  refine loopLE hg [7, 8] (fun x1 => [(3, .one (.v (.int .i64 x1.s))), (9, .one (.v (.int .i64 ((x1.i : Nat) : Int))))]) (fun x1 => [.dead]) [none] ?_ (fun x1 => ?_)
  · exact ⟨rfl, ⟨rfl, rfl, rfl, rfl, trivial⟩, trivial, trivial⟩
  refine seqE ?_
  refine seqE ?_
  refine tstL (fun hi1 => ?_) (fun hi1 => ?_)
  · have hb1 := (x1.bdy hi1).trans (impl_SizeOf_b1.eq_1 ..)
    have hw1 := wrap_succ hi1 (by first | assumption | omega)
    refine seqE ?_
    refine seqE ?_
    refine idxAt hi1 ?_
    refine litE (m := 1) rfl ?_
    refine .inl (⟨_, _, c_impl_AttrSize (p0.Attrs[x1.i]'hi1), (FzAs.same _), ?_⟩)
    refine litE (m := 3) rfl ?_
    exact x1.goE hi1 hb1 [none] ⟨rfl, ⟨rfl, (eqInt hw1), rfl, rfl, trivial⟩, trivial, trivial⟩
  have hg := finE hg (x1.fin hi1)
  refine seqE ?_
  exact leafE hown hg
def impl_SpanOk (p0 : Span) : Bool :=
  (bif (impl_within p0.Trace 1 999) then (bif (impl_within p0.Id 1 999) then (bif (impl_within p0.End 0 99999) then (bif (impl_within p0.Start 0 p0.End) then (bif (impl_AttrsOk p0.Attrs) then (decide ((impl_SizeOf p0) ≤ 96)) else false) else false) else false) else false) else false)
theorem c_impl_SpanOk (p0 : Span) : FnOk prog 149 [.agg ((Span.cells false) p0)] ⟨.one (.v (.bool (impl_SpanOk p0))), [], [], false⟩ := by
  refine FnOk.intro (E := env) envOk wide func149 rfl (by kernel_rfl) rfl rfl ?_
  have hg := impl_SpanOk.eq_1 p0
  have hown : ∀ g : Bool, AV.Own (AV.one (.v (.bool g))) := fun g => .v _
  refine seqE ?_
  refine litE (m := 0) rfl ?_
  refine seqE ?_
  refine .inl (⟨_, _, c_impl_within p0.Trace 1 999, (FzAs.same _), ?_⟩)
  refine litE (m := 2) rfl ?_
  refine brE hg (fun hg h1 => ?_) (fun hg h1 => leafE hown hg)
  refine .inl (⟨_, _, c_impl_within p0.Id 1 999, (FzAs.same _), ?_⟩)
  refine litE (m := 3) rfl ?_
  refine brE hg (fun hg h2 => ?_) (fun hg h2 => leafE hown hg)
  refine .inl (⟨_, _, c_impl_within p0.End 0 99999, (FzAs.same _), ?_⟩)
  refine litE (m := 4) rfl ?_
  refine brE hg (fun hg h3 => ?_) (fun hg h3 => leafE hown hg)
  refine .inl (⟨_, _, c_impl_within p0.Start 0 p0.End, (FzAs.same _), ?_⟩)
  refine litE (m := 5) rfl ?_
  refine brE hg (fun hg h4 => ?_) (fun hg h4 => leafE hown hg)
  refine .inl (⟨_, _, c_impl_AttrsOk p0.Attrs, (FzAs.same _), ?_⟩)
  refine litE (m := 6) rfl ?_
  refine brE hg (fun hg h5 => ?_) (fun hg h5 => leafE hown hg)
  refine .inl (⟨_, _, c_impl_SizeOf p0, (FzAs.same _), ?_⟩)
  refine litE (m := 7) rfl ?_
  exact leafE hown hg
def impl_TrailOk_b1 (p0 : Trail) (i1 : Nat) (s1 : Unit) (a1 : Span) : Step (Unit) Bool :=
  (bif (!(impl_SpanOk a1)) then (.done false) else (bif (a1.Trace != p0.Id) then (.done false) else (.next ())))
def impl_TrailOk (p0 : Trail) : Bool :=
  (Fin.get (fun s1 => (bif (impl_within p0.Id 1 999) then (bif (decide (p0.Stamp ≥ 1)) then (bif (impl_within p0.First 0 2147483647) then (decide ((((p0.Spans).length : Nat) : Int) > 0)) else false) else false) else false)) (loopL (impl_TrailOk_b1 p0) 0 () p0.Spans))
theorem c_impl_TrailOk (p0 : Trail) : FnOk prog 138 [.agg ((Trail.cells false) p0)] ⟨.one (.v (.bool (impl_TrailOk p0))), [], [], false⟩ := by
  refine FnOk.intro (E := env) envOk wide func138 rfl (by kernel_rfl) rfl rfl ?_
  have hg := impl_TrailOk.eq_1 p0
  have hown : ∀ g : Bool, AV.Own (AV.one (.v (.bool g))) := fun g => .v _
  refine seqE ?_
  refine litE (m := 0) rfl ?_
  refine seqE ?_
  refine seqE ?_
  refine lenM fun hN1 => ?_
  refine loopLE hg [1, 6, 7] (fun x1 => [(8, .one (.v (.int .i64 ((x1.i : Nat) : Int))))]) (fun x1 => [.keep 0]) [some 0] ?_ (fun x1 => ?_)
  · exact ⟨rfl, ⟨rfl, ⟨rfl, rfl, rfl, rfl⟩, rfl, rfl, trivial⟩, ⟨⟨rfl, rfl, ⟨rfl, rfl, rfl, rfl, trivial⟩⟩, trivial⟩, trivial⟩
  refine seqE ?_
  refine seqE ?_
  refine tstL (fun hi1 => ?_) (fun hi1 => ?_)
  · have hb1 := (x1.bdy hi1).trans (impl_TrailOk_b1.eq_1 ..)
    have hw1 := wrap_succ hi1 (by first | assumption | omega)
    refine seqE ?_
    refine seqE ?_
    refine idxAt hi1 ?_
    refine litE (m := 1) rfl ?_
    refine seqE ?_
    refine .inl (⟨_, _, c_impl_SpanOk (p0.Spans[x1.i]'hi1), (FzAs.same _), ?_⟩)
    refine litE (m := 3) rfl ?_
    refine brF hb1 (fun hb1 h2 => ?_) (fun hb1 h2 => ?_)
    · refine brW hb1 (fun hb1 h3 => ?_) (fun hb1 h3 => x1.goE hi1 hb1 [some 0] ⟨rfl, ⟨(eqInt hw1), ⟨rfl, rfl, rfl, rfl⟩, rfl, rfl, trivial⟩, ⟨⟨rfl, rfl, ⟨rfl, rfl, rfl, rfl, trivial⟩⟩, trivial⟩, trivial⟩)
      refine seqE ?_
      have hg := donE hg (x1.outD hi1 hb1)
      exact leafE hown hg
    · refine seqE ?_
      have hg := donE hg (x1.outD hi1 hb1)
      exact leafE hown hg
  have hg := finE hg (x1.fin hi1)
  refine seqE ?_
  refine .inl (⟨_, _, c_impl_within p0.Id 1 999, (FzAs.same _), ?_⟩)
  refine litE (m := 2) rfl ?_
  refine brE hg (fun hg h4 => ?_) (fun hg h4 => leafE hown hg)
  refine brD hg (fun hg h5 => ?_) (fun hg h5 => leafE hown hg)
  refine .inl (⟨_, _, c_impl_within p0.First 0 2147483647, (FzAs.same _), ?_⟩)
  refine litE (m := 3) rfl ?_
  refine brE hg (fun hg h6 => ?_) (fun hg h6 => leafE hown hg)
  refine lenM fun hN7 => ?_
  exact leafE hown hg
def impl_Mix (p0 : Int) : Int :=
  (iXor .i64 (iXor .i64 (iXor .i64 (iAnd .i64 p0 65535) (iAnd .i64 (iShl .i64 (iAnd .i64 p0 65535) 7) 65535)) (iShr .i64 (iXor .i64 (iAnd .i64 p0 65535) (iAnd .i64 (iShl .i64 (iAnd .i64 p0 65535) 7) 65535)) 9)) (iAnd .i64 (iShl .i64 (iXor .i64 (iXor .i64 (iAnd .i64 p0 65535) (iAnd .i64 (iShl .i64 (iAnd .i64 p0 65535) 7) 65535)) (iShr .i64 (iXor .i64 (iAnd .i64 p0 65535) (iAnd .i64 (iShl .i64 (iAnd .i64 p0 65535) 7) 65535)) 9)) 8) 65535))
theorem c_impl_Mix (p0 : Int) : FnOk prog 166 [.one (.v (.int .i64 p0))] ⟨.one (.v (.int .i64 (impl_Mix p0))), [], [], false⟩ := by
  refine FnOk.intro (E := env) envOk wide func166 rfl (by kernel_rfl) rfl rfl ?_
  have hg := impl_Mix.eq_1 p0
  have hown : ∀ g : Int, AV.Own (AV.one (.v (.int .i64 g))) := fun g => .v _
  refine seqE ?_
  refine seqE ?_
  refine seqE ?_
  refine andE (by (first | omega | (simp (disch := omega) only [wrap_small, mid_eq, List.length_map]; omega) | (simp; done) | (simp; omega) | (simp at *; omega) | (simp at *; done) | (simp_all; done) | (simp_all; omega))) ?_
  refine seqE ?_
  refine andE (by (first | omega | (simp (disch := omega) only [wrap_small, mid_eq, List.length_map]; omega) | (simp; done) | (simp; omega) | (simp at *; omega) | (simp at *; done) | (simp_all; done) | (simp_all; omega))) ?_
  refine seqE ?_
  refine andE (by (first | omega | (simp (disch := omega) only [wrap_small, mid_eq, List.length_map]; omega) | (simp; done) | (simp; omega) | (simp at *; omega) | (simp at *; done) | (simp_all; done) | (simp_all; omega))) ?_
  exact leafE hown hg
def impl_StripeOf (p0 : Int) (p1 : Int) : Int :=
  (bif (decide (p1 < 1)) then 0 else (Int.tmod (impl_Mix p0) p1))
theorem c_impl_StripeOf (p0 : Int) (p1 : Int) : FnOk prog 139 [.one (.v (.int .i64 p0)), .one (.v (.int .i64 p1))] ⟨.one (.v (.int .i64 (impl_StripeOf p0 p1))), [], [], false⟩ := by
  refine FnOk.intro (E := env) envOk wide func139 rfl (by kernel_rfl) rfl rfl ?_
  have hg := impl_StripeOf.eq_1 p0 p1
  have hown : ∀ g : Int, AV.Own (AV.one (.v (.int .i64 g))) := fun g => .v _
  refine seqE ?_
  refine seqE ?_
  refine seqE ?_
  refine brD hg (fun hg h1 => ?_) (fun hg h1 => ?_)
  · refine seqE ?_
    exact leafE hown hg
  · refine seqE ?_
    refine .inl (⟨_, _, c_impl_Mix p0, (FzAs.same _), ?_⟩)
    refine litE (m := 1) rfl ?_
    refine andE (by (first | omega | (simp (disch := omega) only [wrap_small, mid_eq, List.length_map]; omega) | (simp; done) | (simp; omega) | (simp at *; omega) | (simp at *; done) | (simp_all; done) | (simp_all; omega))) ?_
    exact leafE hown hg
theorem impl_StripeOf_lt (a n : Int) (hn : 1 ≤ n) : impl_StripeOf a n < n := by
  unfold impl_StripeOf
  rw [show decide (n < 1) = false from decide_eq_false (by omega), cond_false]
  exact Int.tmod_lt_of_pos _ (by omega)
def slices_Index_Sint_int_b1 (p1 : Int) (i1 : Nat) (s1 : Unit) (a1 : Int) : Step (Unit) Int :=
  (bif (p1 == a1) then (.done ((i1 : Nat) : Int)) else (.next ()))
def slices_Index_Sint_int (p0 : (List Int)) (p1 : Int) : Int :=
  (Fin.get (fun s1 => (-1)) (loopL (slices_Index_Sint_int_b1 p1) 0 () p0))
theorem c_slices_Index_Sint_int (p0 : (List Int)) (p1 : Int) : FnOk prog 167 [.one (.s false 1 (List.map cInt p0)), .one (.v (.int .i64 p1))] ⟨.one (.v (.int .i64 (slices_Index_Sint_int p0 p1))), [], [], false⟩ := by
  refine FnOk.intro (E := env) envOk wide func167 rfl (by kernel_rfl) rfl rfl ?_
  have hg := slices_Index_Sint_int.eq_1 p0 p1
  have hown : ∀ g : Int, AV.Own (AV.one (.v (.int .i64 g))) := fun g => .v _
  refine seqE ?_
  refine seqE ?_
  refine seqE ?_
  refine lenM fun hN1 => ?_
  refine loopLE hg [0, 1, 7] (fun x1 => [(8, .one (.v (.int .i64 ((x1.i : Nat) : Int))))]) (fun x1 => []) [] ?_ (fun x1 => ?_)
  · exact ⟨rfl, ⟨rfl, rfl, rfl, rfl, trivial⟩, trivial, trivial⟩
  refine seqE ?_
  refine seqE ?_
  refine tstL (fun hi1 => ?_) (fun hi1 => ?_)
  · have hb1 := (x1.bdy hi1).trans (slices_Index_Sint_int_b1.eq_1 ..)
    have hw1 := wrap_succ hi1 (by first | assumption | omega)
    refine seqE ?_
    refine seqE ?_
    refine seqE ?_
    refine idxAt hi1 ?_
    refine brQ hb1 (fun hb1 h2 => ?_) (fun hb1 h2 => x1.goE hi1 hb1 [] ⟨rfl, ⟨(eqInt hw1), rfl, rfl, rfl, trivial⟩, trivial, trivial⟩)
    refine seqE ?_
    have hg := donE hg (x1.outD hi1 hb1)
    exact leafE hown hg
  have hg := finE hg (x1.fin hi1)
  refine seqE ?_
  exact leafE hown hg
def slices_Contains_Sint_int (p0 : (List Int)) (p1 : Int) : Bool :=
  (decide ((slices_Index_Sint_int p0 p1) ≥ 0))
theorem c_slices_Contains_Sint_int (p0 : (List Int)) (p1 : Int) : FnOk prog 140 [.one (.s false 1 (List.map cInt p0)), .one (.v (.int .i64 p1))] ⟨.one (.v (.bool (slices_Contains_Sint_int p0 p1))), [], [], false⟩ := by
  refine FnOk.intro (E := env) envOk wide func140 rfl (by kernel_rfl) rfl rfl ?_
  have hg := slices_Contains_Sint_int.eq_1 p0 p1
  have hown : ∀ g : Bool, AV.Own (AV.one (.v (.bool g))) := fun g => .v _
  refine seqE ?_
  refine seqE ?_
  refine .inl (⟨_, _, c_slices_Index_Sint_int p0 p1, (FzAs.same _), ?_⟩)
  refine litE (m := 1) rfl ?_
  exact leafE hown hg
def impl_StripesOk_j3 (a2 : Trail) (p0 : (List Stripe)) (i1 : Nat) (i2 : Nat) (a1 : Stripe) : Step (Bool × Bool) (Step ((List Int)) (Step ((List Int)) Bool)) :=
  (bif (!(impl_TrailOk a2)) then (.done (.done (.done false))) else (bif ((impl_StripeOf a2.Id (((p0).length : Nat) : Int)) != ((i1 : Nat) : Int)) then (.done (.done (.done false))) else (bif (decide (((i2 : Nat) : Int) > 0)) then (bif (decide ((a1.L[((IntKind.i64.wrap (((i2 : Nat) : Int) - 1))).toNat]?.getD default).Id ≥ a2.Id)) then (.done (.done (.done false))) else (.next (true, (decide ((a1.L[((IntKind.i64.wrap (((i2 : Nat) : Int) - 1))).toNat]?.getD default).Id ≥ a2.Id))))) else (.next (false, false)))))
def impl_StripesOk_b2 (p0 : (List Stripe)) (i1 : Nat) (a1 : Stripe) (i2 : Nat) (s2 : (List Int)) (a2 : Trail) : Step ((List Int)) (Step ((List Int)) Bool) :=
  (Step.get (fun s3 => (bif (slices_Contains_Sint_int s2 a2.Stamp) then (.done (.done false)) else (.next (s2 ++ [a2.Stamp])))) (impl_StripesOk_j3 a2 p0 i1 i2 a1))
def impl_StripesOk_b1 (p0 : (List Stripe)) (i1 : Nat) (s1 : (List Int)) (a1 : Stripe) : Step ((List Int)) Bool :=
  (bif (!(impl_within a1.Held (-1) 4)) then (.done false) else (Fin.get (fun s2 => (.next s2)) (loopL (impl_StripesOk_b2 p0 i1 a1) 0 s1 a1.L)))
def impl_StripesOk (p0 : (List Stripe)) : Bool :=
  (bif (!(impl_within (((p0).length : Nat) : Int) 1 3)) then false else (Fin.get (fun s1 => true) (loopL (impl_StripesOk_b1 p0) 0 ([] : List Int) p0)))
theorem c_impl_StripesOk (p0 : (List Stripe)) (hs : bdS Stripe.bd 1048576 p0) : FnOk prog 103 [.one (.s false 2 (List.map (Stripe.cells false) p0))] ⟨.one (.v (.bool (impl_StripesOk p0))), [], [], false⟩ := by
  refine FnOk.intro (E := env) envOk wide func103 rfl (by kernel_rfl) rfl rfl ?_
  have hg := impl_StripesOk.eq_1 p0
  have hown : ∀ g : Bool, AV.Own (AV.one (.v (.bool g))) := fun g => .v _
  refine seqE ?_
  refine seqE ?_
  refine seqE ?_
  refine lenM fun hN1 => ?_
  refine .inl (⟨_, _, c_impl_within (((p0).length : Nat) : Int) 1 3, (FzAs.same _), ?_⟩)
  refine litE (m := 1) rfl ?_
  refine brE hg (fun hg h2 => ?_) (fun hg h2 => ?_)
  · refine seqE ?_
    exact leafE hown hg
  · refine seqE ?_
    refine seqE ?_
    refine seqE ?_
    refine lenM fun hN3 => ?_
    refine loopLI (fun (i : Nat) (s : List Int) => s.length ≤ 1048576 * i) hg (Nat.zero_le _) [0, 12, 13] (fun x1 => [(3, .one (.n 1 [] 1 0 (x1.s).length)), (14, .one (.v (.int .i64 ((x1.i : Nat) : Int))))]) (fun x1 => [.dead, .new ⟨1, false, List.map cInt x1.s, 0⟩]) [none, none] ?_ (fun x1 => ?_)
    · exact ⟨rfl, ⟨⟨rfl, rfl, rfl, rfl, rfl⟩, rfl, rfl, rfl, rfl, trivial⟩, ⟨⟨rfl, rfl⟩, trivial⟩, trivial⟩
    have hI1 := x1.hI
    try dsimp only at hI1
    refine seqE ?_
    refine seqE ?_
    refine tstL (fun hi1 => ?_) (fun hi1 => ?_)
    · have hb1 := (x1.bdy hi1).trans (impl_StripesOk_b1.eq_1 ..)
      have hw1 := wrap_succ hi1 (by first | assumption | omega)
      refine seqE ?_
      refine seqE ?_
      refine idxAt hi1 ?_
      refine litE (m := 2) rfl ?_
      refine seqE ?_
      refine seqE ?_
      refine .inl (⟨_, _, c_impl_within (p0[x1.i]'hi1).Held (-1) 4, (FzAs.same _), ?_⟩)
      refine litE (m := 4) rfl ?_
      refine brE hb1 (fun hb1 h4 => ?_) (fun hb1 h4 => ?_)
      · refine seqE ?_
        have hg := donE hg (x1.outD hi1 hb1)
        exact leafE hown hg
      · refine seqE ?_
        refine lenM fun hN5 => ?_
        refine loopLI (fun (i : Nat) (s : List Int) => s.length ≤ 1048576 * x1.i + i) hb1 (by have q := hI1; omega) [0, 4, 5, 12, 13, 14, 24, 25] (fun x2 => [(3, .one (.n 1 [] 1 0 (x2.s).length)), (26, .one (.v (.int .i64 ((x2.i : Nat) : Int))))]) (fun x2 => [.dead, .new ⟨1, false, List.map cInt x2.s, 0⟩, .keep 2, .dead]) [none, some 1, some 2, none] ?_ (fun x2 => ?_)
        · exact ⟨rfl, ⟨⟨rfl, rfl, rfl, rfl, by (first | rfl | omega | (dsimp only; omega) | (simp; done) | (simp; omega) | (simp [LstSt.init, LstSt.step, LstInv.init, CntSt.init, CntSt.step, CntInv.init, WhlSt.init, WhlSt.step]; done) | (simp [LstSt.init, LstSt.step, LstInv.init, CntSt.init, CntSt.step, CntInv.init, WhlSt.init, WhlSt.step]; omega))⟩, rfl, rfl, rfl, ⟨rfl, rfl, rfl, rfl⟩, rfl, rfl, rfl, rfl, rfl, trivial⟩, ⟨⟨rfl, rfl, rfl⟩, ⟨rfl, rfl, ⟨rfl, rfl, trivial⟩⟩, trivial⟩, trivial⟩
        have hI2 := x2.hI
        try dsimp only at hI2
        refine seqE ?_
        refine seqE ?_
        refine tstL (fun hi2 => ?_) (fun hi2 => ?_)
        · have hb2 := (x2.bdy hi2).trans (impl_StripesOk_b2.eq_1 ..)
          have hw2 := wrap_succ hi2 (by first | assumption | omega)
          refine seqE ?_
          refine seqE ?_
          refine idxAt hi2 ?_
          refine litE (m := 4) rfl ?_
          refine seqE ?_
          refine joinE hb2 [0, 3, 4, 5, 7, 12, 13, 14, 24, 25, 26] (fun x3 => [(35, .one (.p 4 [] 0 0 0)), (36, .one (.v (.int .i64 ((p0[x1.i]'hi1).L[x2.i]'hi2).Id))), (37, .one (.s false 2 (List.map (Stripe.cells false) p0))), (38, .one (.v (.int .i64 (((p0).length : Nat) : Int)))), (39, .one (.v (.int .i64 (impl_StripeOf ((p0[x1.i]'hi1).L[x2.i]'hi2).Id (((p0).length : Nat) : Int))))), (40, .one (.v (.int .i64 ((x1.i : Nat) : Int)))), (41, .one (.v (.bool ((impl_StripeOf ((p0[x1.i]'hi1).L[x2.i]'hi2).Id (((p0).length : Nat) : Int)) != ((x1.i : Nat) : Int))))), (44, .one (.v (.int .i64 ((x2.i : Nat) : Int)))), (45, .one (.v (.bool (decide (((x2.i : Nat) : Int) > 0))))), (46, .one (.v (.bool x3.s.1))), (57, .one (.v (.bool x3.s.2))), (60, .one (.n 1 [] 1 0 (x2.s).length)), (61, .one (.p 4 [] 0 0 1)), (62, .one (.v (.int .i64 ((p0[x1.i]'hi1).L[x2.i]'hi2).Stamp))), (63, .one (.v (.bool (slices_Contains_Sint_int x2.s ((p0[x1.i]'hi1).L[x2.i]'hi2).Stamp)))), (64, .one (.v (.bool (slices_Contains_Sint_int x2.s ((p0[x1.i]'hi1).L[x2.i]'hi2).Stamp))))]) (fun x3 => [.dead, .keep 1, .keep 2, .dead, .keep 4]) (fun hb3 => ?_) (fun x3 hb2 => ?_)
          · have hb3 := hb3.trans (impl_StripesOk_j3.eq_1 ..)
            refine .inl ⟨by kernel_rfl, ?_⟩
            refine ⟨_, _, c_impl_TrailOk ((p0[x1.i]'hi1).L[x2.i]'hi2), (FzAs.same _), ?_⟩
            refine brF hb3 (fun hb3 h6 => ?_) (fun hb3 h6 => ?_)
            · refine lenM fun hN7 => ?_
              refine ⟨_, _, c_impl_StripeOf ((p0[x1.i]'hi1).L[x2.i]'hi2).Id (((p0).length : Nat) : Int), (FzAs.same _), ?_⟩
              refine brWF hb3 (fun hb3 h8 => ?_) (fun hb3 h8 => ?_)
              · refine brD hb3 (fun hb3 h9 => ?_) (fun hb3 h9 => ?_)
                · refine idxOf (l := (p0[x1.i]'hi1).L) (by (first | omega | (simp (disch := omega) only [wrap_small, mid_eq, List.length_map]; omega) | (simp; done) | (simp; omega) | (simp at *; omega) | (simp at *; done) | (simp_all; done) | (simp_all; omega))) (fun hq10 => ?_)
                  refine brDF hb3 (fun hb3 h11 => ?_) (fun hb3 h11 => ?_)
                  · refine ⟨_, _, c_slices_Contains_Sint_int x2.s ((p0[x1.i]'hi1).L[x2.i]'hi2).Stamp, (FzAs.same _), ?_⟩
                    exact .inl ⟨⟨_, hb3⟩, [none, some 1, some 2, none, some 4], ⟨rfl, ⟨⟨rfl, rfl, rfl, rfl⟩, rfl, rfl, rfl, rfl, rfl, rfl, rfl, rfl, rfl, rfl, ⟨rfl, rfl, rfl, rfl, by (first | rfl | omega | (dsimp only; omega) | (simp; done) | (simp; omega) | (simp [LstSt.init, LstSt.step, LstInv.init, CntSt.init, CntSt.step, CntInv.init, WhlSt.init, WhlSt.step]; done) | (simp [LstSt.init, LstSt.step, LstInv.init, CntSt.init, CntSt.step, CntInv.init, WhlSt.init, WhlSt.step]; omega))⟩, ⟨rfl, rfl, rfl, rfl⟩, rfl, rfl, rfl, rfl, ⟨rfl, rfl, rfl, rfl, by (first | rfl | omega | (dsimp only; omega) | (simp; done) | (simp; omega) | (simp [LstSt.init, LstSt.step, LstInv.init, CntSt.init, CntSt.step, CntInv.init, WhlSt.init, WhlSt.step]; done) | (simp [LstSt.init, LstSt.step, LstInv.init, CntSt.init, CntSt.step, CntInv.init, WhlSt.init, WhlSt.step]; omega))⟩, rfl, ⟨rfl, rfl, rfl, rfl⟩, ⟨rfl, rfl, rfl, rfl⟩, rfl, rfl, rfl, rfl, rfl, rfl, trivial⟩, ⟨⟨rfl, rfl, rfl⟩, ⟨rfl, rfl, ⟨rfl, rfl, trivial⟩⟩, ⟨rfl, rfl, ⟨rfl, rfl, rfl, rfl, trivial⟩⟩, trivial⟩, trivial⟩⟩
                  · refine .inr ?_
                    have hb2 := getD hb2 hb3
                    refine seqE ?_
                    have hb1 := donE hb1 (x2.outD hi2 hb2)
                    have hg := donE hg (x1.outD hi1 hb1)
                    exact leafE hown hg
                · refine ⟨_, _, c_slices_Contains_Sint_int x2.s ((p0[x1.i]'hi1).L[x2.i]'hi2).Stamp, (FzAs.same _), ?_⟩
                  exact .inl ⟨⟨_, hb3⟩, [none, some 1, some 2, none, some 4], ⟨rfl, ⟨⟨rfl, rfl, rfl, rfl⟩, rfl, rfl, rfl, rfl, rfl, rfl, rfl, rfl, rfl, rfl, ⟨rfl, rfl, rfl, rfl, by (first | rfl | omega | (dsimp only; omega) | (simp; done) | (simp; omega) | (simp [LstSt.init, LstSt.step, LstInv.init, CntSt.init, CntSt.step, CntInv.init, WhlSt.init, WhlSt.step]; done) | (simp [LstSt.init, LstSt.step, LstInv.init, CntSt.init, CntSt.step, CntInv.init, WhlSt.init, WhlSt.step]; omega))⟩, ⟨rfl, rfl, rfl, rfl⟩, rfl, rfl, rfl, rfl, ⟨rfl, rfl, rfl, rfl, by (first | rfl | omega | (dsimp only; omega) | (simp; done) | (simp; omega) | (simp [LstSt.init, LstSt.step, LstInv.init, CntSt.init, CntSt.step, CntInv.init, WhlSt.init, WhlSt.step]; done) | (simp [LstSt.init, LstSt.step, LstInv.init, CntSt.init, CntSt.step, CntInv.init, WhlSt.init, WhlSt.step]; omega))⟩, rfl, ⟨rfl, rfl, rfl, rfl⟩, ⟨rfl, rfl, rfl, rfl⟩, rfl, rfl, rfl, rfl, rfl, rfl, trivial⟩, ⟨⟨rfl, rfl, rfl⟩, ⟨rfl, rfl, ⟨rfl, rfl, trivial⟩⟩, ⟨rfl, rfl, ⟨rfl, rfl, rfl, rfl, trivial⟩⟩, trivial⟩, trivial⟩⟩
              · refine .inr ?_
                have hb2 := getD hb2 hb3
                refine seqE ?_
                have hb1 := donE hb1 (x2.outD hi2 hb2)
                have hg := donE hg (x1.outD hi1 hb1)
                exact leafE hown hg
            · refine .inr ?_
              have hb2 := getD hb2 hb3
              refine seqE ?_
              have hb1 := donE hb1 (x2.outD hi2 hb2)
              have hg := donE hg (x1.outD hi1 hb1)
              exact leafE hown hg
          refine brE hb2 (fun hb2 h12 => ?_) (fun hb2 h12 => ?_)
          · refine seqE ?_
            have hb1 := donE hb1 (x2.outD hi2 hb2)
            have hg := donE hg (x1.outD hi1 hb1)
            exact leafE hown hg
          · refine litE (m := 5) rfl ?_
            refine .inl ?_
            refine rowsE (Y := List.map cInt (x2.s ++ [((p0[x1.i]'hi1).L[x2.i]'hi2).Stamp])) (by first | rfl | (simp [subR0, subR1, -List.map_take, -List.map_drop, take_map', drop_map', fz_cInt, fl_cInt, fzMap fz_cInt, flMap fl_cInt]; done) | (simp [subR0, subR1, -List.map_take, -List.map_drop, take_map', drop_map', fz_cInt, fl_cInt, fzMap fz_cInt, flMap fl_cInt]; rfl)) ?_
            refine appB (b := 8) (hs := by have f1 := hs.1; have f2 := hI2; have f3 := hi1; have f4 := hi2; have f5 : (p0[x1.i]'hi1).L.length ≤ 1048576 := (hs.get hi1).1; refine ⟨?_, ?_⟩; (show List.length _ * 8 ≤ _); (try simp only [List.length_map, List.length_append, List.length_cons, List.length_nil, List.length_take, List.length_drop]); omega; (try simp only [List.length_map, List.length_append, List.length_cons, List.length_nil, List.length_take, List.length_drop]); omega) ?_
            refine litE (m := 6) rfl ?_
            exact x2.goE hi2 hb2 (by have q1 := hI2; simp only [List.length_map, List.length_append, List.length_cons, List.length_nil, List.length_take, List.length_drop]; omega) [none, some 6, some 2, none] ⟨rfl, ⟨⟨rfl, rfl, rfl, rfl, by (first | rfl | omega | (dsimp only; omega) | (simp; done) | (simp; omega) | (simp [LstSt.init, LstSt.step, LstInv.init, CntSt.init, CntSt.step, CntInv.init, WhlSt.init, WhlSt.step]; done) | (simp [LstSt.init, LstSt.step, LstInv.init, CntSt.init, CntSt.step, CntInv.init, WhlSt.init, WhlSt.step]; omega))⟩, (eqInt hw2), rfl, rfl, ⟨rfl, rfl, rfl, rfl⟩, rfl, rfl, rfl, rfl, rfl, trivial⟩, ⟨⟨rfl, rfl, rfl⟩, ⟨rfl, rfl, ⟨rfl, rfl, trivial⟩⟩, trivial⟩, trivial⟩
        have hb1 := finE hb1 (x2.fin hi2)
        exact x1.goE hi1 hb1 (by have f5 : (p0[x1.i]'hi1).L.length ≤ 1048576 := (hs.get hi1).1; have f6 := x2.h; have f7 := hI2; omega) [none, some 1] ⟨rfl, ⟨⟨rfl, rfl, rfl, rfl, by (first | rfl | omega | (dsimp only; omega) | (simp; done) | (simp; omega) | (simp [LstSt.init, LstSt.step, LstInv.init, CntSt.init, CntSt.step, CntInv.init, WhlSt.init, WhlSt.step]; done) | (simp [LstSt.init, LstSt.step, LstInv.init, CntSt.init, CntSt.step, CntInv.init, WhlSt.init, WhlSt.step]; omega))⟩, (eqInt hw1), rfl, rfl, rfl, trivial⟩, ⟨⟨rfl, rfl, rfl⟩, trivial⟩, trivial⟩
    have hg := finE hg (x1.fin hi1)
    refine seqE ?_
    exact leafE hown hg
def impl_belongs_j2 (p2 : Int) (a1 : Timer) (p0 : Wheel) (p3 : Int) : Step (Bool) (Step (Unit) Bool) :=
  (bif (p2 == 0) then (bif ((IntKind.i64.wrap ((IntKind.i64.wrap (Int.tdiv a1.At 8)) - (IntKind.i64.wrap (Int.tdiv p0.Now 8)))) == 0) then (.next ((Int.tmod a1.At 8) == p3)) else (.next false)) else (bif (p2 == 1) then (bif (impl_within (IntKind.i64.wrap ((IntKind.i64.wrap (Int.tdiv a1.At 8)) - (IntKind.i64.wrap (Int.tdiv p0.Now 8)))) 1 7) then (.next ((Int.tmod (IntKind.i64.wrap (Int.tdiv a1.At 8)) 8) == p3)) else (.next false)) else (.next (decide ((IntKind.i64.wrap ((IntKind.i64.wrap (Int.tdiv a1.At 8)) - (IntKind.i64.wrap (Int.tdiv p0.Now 8)))) ≥ 8)))))
def impl_belongs_b1 (p0 : Wheel) (p2 : Int) (p3 : Int) (i1 : Nat) (s1 : Unit) (a1 : Timer) : Step (Unit) Bool :=
  (bif (decide (a1.Id < 1)) then (.done false) else (bif (!(impl_within a1.Trace 1 999)) then (.done false) else (bif (decide (a1.At ≤ p0.Now)) then (.done false) else (bif (decide (a1.At > 2147483647)) then (.done false) else (Step.get (fun s2 => (bif (!s2) then (.done false) else (.next ()))) (impl_belongs_j2 p2 a1 p0 p3))))))
def impl_belongs (p0 : Wheel) (p1 : (List Timer)) (p2 : Int) (p3 : Int) : Bool :=
  (Fin.get (fun s1 => true) (loopL (impl_belongs_b1 p0 p2 p3) 0 () p1))
theorem c_impl_belongs (p0 : Wheel) (p1 : (List Timer)) (p2 : Int) (p3 : Int) : FnOk prog 141 [.agg ((Wheel.cells false) p0), .one (.s false 3 (List.map Timer.cells p1)), .one (.v (.int .i64 p2)), .one (.v (.int .i64 p3))] ⟨.one (.v (.bool (impl_belongs p0 p1 p2 p3))), [], [], false⟩ := by
  refine FnOk.intro (E := env) envOk wide func141 rfl (by kernel_rfl) rfl rfl ?_
  have hg := impl_belongs.eq_1 p0 p1 p2 p3
  have hown : ∀ g : Bool, AV.Own (AV.one (.v (.bool g))) := fun g => .v _
  refine seqE ?_
  refine litE (m := 0) rfl ?_
  refine seqE ?_
  refine seqE ?_
  refine lenM fun hN1 => ?_
  refine loopLE hg [2, 3, 4, 13, 14] (fun x1 => [(15, .one (.v (.int .i64 ((x1.i : Nat) : Int))))]) (fun x1 => [.keep 0]) [some 0] ?_ (fun x1 => ?_)
  · exact ⟨rfl, ⟨rfl, rfl, rfl, ⟨rfl, rfl, rfl, rfl⟩, rfl, rfl, trivial⟩, ⟨⟨rfl, rfl, ⟨rfl, rfl, rfl, rfl, trivial⟩⟩, trivial⟩, trivial⟩
  refine seqE ?_
  refine seqE ?_
  refine tstL (fun hi1 => ?_) (fun hi1 => ?_)
  · have hb1 := (x1.bdy hi1).trans (impl_belongs_b1.eq_1 ..)
    have hw1 := wrap_succ hi1 (by first | assumption | omega)
    refine seqE ?_
    refine seqE ?_
    refine idxAt hi1 ?_
    refine litE (m := 1) rfl ?_
    refine seqE ?_
    refine seqE ?_
    refine brDF hb1 (fun hb1 h2 => ?_) (fun hb1 h2 => ?_)
    · refine .inl (⟨_, _, c_impl_within (p1[x1.i]'hi1).Trace 1 999, (FzAs.same _), ?_⟩)
      refine litE (m := 3) rfl ?_
      refine brF hb1 (fun hb1 h3 => ?_) (fun hb1 h3 => ?_)
      · refine brDF hb1 (fun hb1 h4 => ?_) (fun hb1 h4 => ?_)
        · refine brD hb1 (fun hb1 h5 => ?_) (fun hb1 h5 => ?_)
          · refine seqE ?_
            have hg := donE hg (x1.outD hi1 hb1)
            exact leafE hown hg
          · refine seqE ?_
            refine andE (by (first | omega | (simp (disch := omega) only [wrap_small, mid_eq, List.length_map]; omega) | (simp; done) | (simp; omega) | (simp at *; omega) | (simp at *; done) | (simp_all; done) | (simp_all; omega))) ?_
            refine andE (by (first | omega | (simp (disch := omega) only [wrap_small, mid_eq, List.length_map]; omega) | (simp; done) | (simp; omega) | (simp at *; omega) | (simp at *; done) | (simp_all; done) | (simp_all; omega))) ?_
            refine seqE ?_
            refine joinE hb1 [2, 3, 4, 13, 14, 15, 23, 24, 25, 26, 29, 30, 31, 32, 33, 36, 37, 38] (fun x2 => [(12, .one (.v (.bool x2.s)))]) (fun x2 => [.keep 0, .keep 1, .dead]) (fun hb2 => ?_) (fun x2 hb1 => ?_)
            · have hb2 := hb2.trans (impl_belongs_j2.eq_1 ..)
              refine seqE ?_
              refine seqE ?_
              refine brQ hb2 (fun hb2 h6 => ?_) (fun hb2 h6 => ?_)
              · refine brQ hb2 (fun hb2 h7 => ?_) (fun hb2 h7 => .inl ⟨⟨_, hb2⟩, [some 0, some 1, none], ⟨rfl, ⟨rfl, rfl, rfl, ⟨rfl, rfl, rfl, rfl⟩, rfl, rfl, rfl, ⟨rfl, rfl, rfl, rfl⟩, rfl, rfl, rfl, ⟨rfl, rfl, rfl, rfl⟩, rfl, ⟨rfl, rfl, rfl, rfl⟩, rfl, rfl, ⟨rfl, rfl, rfl, rfl⟩, rfl, rfl, trivial⟩, ⟨⟨rfl, rfl, ⟨rfl, rfl, rfl, rfl, trivial⟩⟩, ⟨rfl, rfl, ⟨rfl, rfl, rfl, trivial⟩⟩, trivial⟩, trivial⟩⟩)
                refine andE (by (first | omega | (simp (disch := omega) only [wrap_small, mid_eq, List.length_map]; omega) | (simp; done) | (simp; omega) | (simp at *; omega) | (simp at *; done) | (simp_all; done) | (simp_all; omega))) ?_
                exact .inl ⟨⟨_, hb2⟩, [some 0, some 1, none], ⟨rfl, ⟨rfl, rfl, rfl, ⟨rfl, rfl, rfl, rfl⟩, rfl, rfl, rfl, ⟨rfl, rfl, rfl, rfl⟩, rfl, rfl, rfl, ⟨rfl, rfl, rfl, rfl⟩, rfl, ⟨rfl, rfl, rfl, rfl⟩, rfl, rfl, ⟨rfl, rfl, rfl, rfl⟩, rfl, rfl, trivial⟩, ⟨⟨rfl, rfl, ⟨rfl, rfl, rfl, rfl, trivial⟩⟩, ⟨rfl, rfl, ⟨rfl, rfl, rfl, trivial⟩⟩, trivial⟩, trivial⟩⟩
              · refine seqE ?_
                refine brQ hb2 (fun hb2 h8 => ?_) (fun hb2 h8 => .inl ⟨⟨_, hb2⟩, [some 0, some 1, none], ⟨rfl, ⟨rfl, rfl, rfl, ⟨rfl, rfl, rfl, rfl⟩, rfl, rfl, rfl, ⟨rfl, rfl, rfl, rfl⟩, rfl, rfl, rfl, ⟨rfl, rfl, rfl, rfl⟩, rfl, ⟨rfl, rfl, rfl, rfl⟩, rfl, rfl, ⟨rfl, rfl, rfl, rfl⟩, rfl, rfl, trivial⟩, ⟨⟨rfl, rfl, ⟨rfl, rfl, rfl, rfl, trivial⟩⟩, ⟨rfl, rfl, ⟨rfl, rfl, rfl, trivial⟩⟩, trivial⟩, trivial⟩⟩)
                refine .inl (⟨_, _, c_impl_within (IntKind.i64.wrap ((IntKind.i64.wrap (Int.tdiv (p1[x1.i]'hi1).At 8)) - (IntKind.i64.wrap (Int.tdiv p0.Now 8)))) 1 7, (FzAs.same _), ?_⟩)
                refine litE (m := 4) rfl ?_
                refine brE hb2 (fun hb2 h9 => ?_) (fun hb2 h9 => .inl ⟨⟨_, hb2⟩, [some 0, some 1, none], ⟨rfl, ⟨rfl, rfl, rfl, ⟨rfl, rfl, rfl, rfl⟩, rfl, rfl, rfl, ⟨rfl, rfl, rfl, rfl⟩, rfl, rfl, rfl, ⟨rfl, rfl, rfl, rfl⟩, rfl, ⟨rfl, rfl, rfl, rfl⟩, rfl, rfl, ⟨rfl, rfl, rfl, rfl⟩, rfl, rfl, trivial⟩, ⟨⟨rfl, rfl, ⟨rfl, rfl, rfl, rfl, trivial⟩⟩, ⟨rfl, rfl, ⟨rfl, rfl, rfl, trivial⟩⟩, trivial⟩, trivial⟩⟩)
                refine andE (by (first | omega | (simp (disch := omega) only [wrap_small, mid_eq, List.length_map]; omega) | (simp; done) | (simp; omega) | (simp at *; omega) | (simp at *; done) | (simp_all; done) | (simp_all; omega))) ?_
                refine andE (by (first | omega | (simp (disch := omega) only [wrap_small, mid_eq, List.length_map]; omega) | (simp; done) | (simp; omega) | (simp at *; omega) | (simp at *; done) | (simp_all; done) | (simp_all; omega))) ?_
                exact .inl ⟨⟨_, hb2⟩, [some 0, some 1, none], ⟨rfl, ⟨rfl, rfl, rfl, ⟨rfl, rfl, rfl, rfl⟩, rfl, rfl, rfl, ⟨rfl, rfl, rfl, rfl⟩, rfl, rfl, rfl, ⟨rfl, rfl, rfl, rfl⟩, rfl, ⟨rfl, rfl, rfl, rfl⟩, rfl, rfl, ⟨rfl, rfl, rfl, rfl⟩, rfl, rfl, trivial⟩, ⟨⟨rfl, rfl, ⟨rfl, rfl, rfl, rfl, trivial⟩⟩, ⟨rfl, rfl, ⟨rfl, rfl, rfl, trivial⟩⟩, trivial⟩, trivial⟩⟩
            refine seqE ?_
            refine brE hb1 (fun hb1 h10 => ?_) (fun hb1 h10 => x1.goE hi1 hb1 [some 0] ⟨rfl, ⟨(eqInt hw1), rfl, rfl, ⟨rfl, rfl, rfl, rfl⟩, rfl, rfl, trivial⟩, ⟨⟨rfl, rfl, ⟨rfl, rfl, rfl, rfl, trivial⟩⟩, trivial⟩, trivial⟩)
            refine seqE ?_
            have hg := donE hg (x1.outD hi1 hb1)
            exact leafE hown hg
        · refine seqE ?_
          have hg := donE hg (x1.outD hi1 hb1)
          exact leafE hown hg
      · refine seqE ?_
        have hg := donE hg (x1.outD hi1 hb1)
        exact leafE hown hg
    · refine seqE ?_
      have hg := donE hg (x1.outD hi1 hb1)
      exact leafE hown hg
  have hg := finE hg (x1.fin hi1)
  refine seqE ?_
  exact leafE hown hg
def impl_Timers_b2 (i2 : Nat) (s2 : (List Timer)) (a2 : (List Timer)) : Step ((List Timer)) (List Timer) :=
  (.next (s2 ++ a2))
def impl_Timers_b1 (i1 : Nat) (s1 : (List Timer)) (a1 : (List Timer)) : Step ((List Timer)) (List Timer) :=
  (.next (s1 ++ a1))
def impl_Timers (p0 : Wheel) : (List Timer) :=
  (Fin.get (fun s1 => (Fin.get (fun s2 => (s2 ++ p0.Rest)) (loopL impl_Timers_b2 0 s1 p0.Far))) (loopL impl_Timers_b1 0 ([] : List Timer) p0.Near))
theorem c_impl_Timers (p0 : Wheel) (hs : Wheel.bd 1048576 p0) : FnOk prog 105 [.agg ((Wheel.cells false) p0)] ⟨.one (.s true 3 (List.map Timer.cells (impl_Timers p0))), [], [], false⟩ := by
  refine FnOk.intro (E := env) envOk wide func105 rfl (by kernel_rfl) rfl rfl ?_
  have hg := impl_Timers.eq_1 p0
  have hown : ∀ g : (List Timer), AV.Own (AV.one (.s true 3 (List.map Timer.cells g))) := fun g => ownSl own_Timer _
  refine seqE ?_
  refine litE (m := 0) rfl ?_
  refine seqE ?_
  refine seqE ?_
  refine seqE ?_
  refine lenM fun hN1 => ?_
  refine loopLI (fun i s => s.length ≤ 1048576 * i) hg (by show 0 ≤ _; omega) [1, 9, 10] (fun x1 => [(3, .one (.n 1 [] 1 0 (x1.s).length)), (11, .one (.v (.int .i64 ((x1.i : Nat) : Int))))]) (fun x1 => [.keep 0, .new ⟨3, false, List.map Timer.cells x1.s, 0⟩]) [some 0, none] ?_ (fun x1 => ?_)
  · exact ⟨rfl, ⟨⟨rfl, rfl, rfl, rfl, rfl⟩, rfl, ⟨rfl, rfl, rfl, rfl⟩, rfl, rfl, trivial⟩, ⟨⟨rfl, rfl, ⟨rfl, rfl, rfl, rfl, trivial⟩⟩, ⟨rfl, rfl⟩, trivial⟩, trivial⟩
  have hI1 : List.length x1.s ≤ 1048576 * x1.i := by simpa using x1.hI
  refine seqE ?_
  refine seqE ?_
  refine tstL (fun hi1 => ?_) (fun hi1 => ?_)
  · have hb1 := (x1.bdy hi1).trans (impl_Timers_b1.eq_1 ..)
    have hw1 := wrap_succ hi1 (by first | assumption | omega)
    refine seqE ?_
    refine seqE ?_
    refine idxAt hi1 ?_
    refine .inl ?_
    refine rowsE (Y := List.map Timer.cells (x1.s ++ (p0.Near[x1.i]'hi1))) (by first | rfl | (simp [subR0, subR1, -List.map_take, -List.map_drop, take_map', drop_map', fz_Timer, fl_Timer, fzMap fz_Timer, flMap fl_Timer]; done) | (simp [subR0, subR1, -List.map_take, -List.map_drop, take_map', drop_map', fz_Timer, fl_Timer, fzMap fz_Timer, flMap fl_Timer]; rfl)) ?_
    refine appB (b := 24) (hs := by have hl := hs.1.1; have hl2 := hs.2.1.1; have hl3 := hs.2.2.1; (try have hq := (hs.1.get hi1).1); (try have hq := (hs.2.1.get hi2).1); (try have hq3 := x2.h); refine ⟨?_, ?_⟩; (show List.length _ * 24 ≤ _); (try simp only [List.length_map, List.length_append, List.length_cons, List.length_nil]); omega; (try simp only [List.length_map, List.length_append, List.length_cons, List.length_nil]); omega) ?_
    refine litE (m := 2) rfl ?_
    exact x1.goE hi1 hb1 (by have hq := (hs.1.get hi1).1; show List.length (_ ++ _) ≤ _; rw [List.length_append]; omega) [some 0, some 2] ⟨rfl, ⟨⟨rfl, rfl, rfl, rfl, by (first | rfl | omega | (dsimp only; omega) | (simp; done) | (simp; omega) | (simp [LstSt.init, LstSt.step, LstInv.init, CntSt.init, CntSt.step, CntInv.init, WhlSt.init, WhlSt.step]; done) | (simp [LstSt.init, LstSt.step, LstInv.init, CntSt.init, CntSt.step, CntInv.init, WhlSt.init, WhlSt.step]; omega))⟩, (eqInt hw1), ⟨rfl, rfl, rfl, rfl⟩, rfl, rfl, trivial⟩, ⟨⟨rfl, rfl, ⟨rfl, rfl, rfl, rfl, trivial⟩⟩, ⟨rfl, rfl, rfl⟩, trivial⟩, trivial⟩
  have hg := finE hg (x1.fin hi1)
  refine seqE ?_
  refine seqE ?_
  refine lenM fun hN2 => ?_
  refine loopLI (fun i s => s.length ≤ 1099511627776 + 1048576 * i) hg (by have hq := x1.h; have hq2 := hs.1.1; show List.length x1.s ≤ _; omega) [1, 20, 21] (fun x2 => [(3, .one (.n 1 [] 1 0 (x2.s).length)), (22, .one (.v (.int .i64 ((x2.i : Nat) : Int))))]) (fun x2 => [.keep 0, .new ⟨3, false, List.map Timer.cells x2.s, 0⟩]) [some 0, some 1] ?_ (fun x2 => ?_)
  · exact ⟨rfl, ⟨⟨rfl, rfl, rfl, rfl, by (first | rfl | omega | (dsimp only; omega) | (simp; done) | (simp; omega) | (simp [LstSt.init, LstSt.step, LstInv.init, CntSt.init, CntSt.step, CntInv.init, WhlSt.init, WhlSt.step]; done) | (simp [LstSt.init, LstSt.step, LstInv.init, CntSt.init, CntSt.step, CntInv.init, WhlSt.init, WhlSt.step]; omega))⟩, rfl, ⟨rfl, rfl, rfl, rfl⟩, rfl, rfl, trivial⟩, ⟨⟨rfl, rfl, ⟨rfl, rfl, rfl, rfl, trivial⟩⟩, ⟨rfl, rfl, rfl⟩, trivial⟩, trivial⟩
  have hI2 : List.length x2.s ≤ 1099511627776 + 1048576 * x2.i := by simpa using x2.hI
  refine seqE ?_
  refine seqE ?_
  refine tstL (fun hi2 => ?_) (fun hi2 => ?_)
  · have hb2 := (x2.bdy hi2).trans (impl_Timers_b2.eq_1 ..)
    have hw2 := wrap_succ hi2 (by first | assumption | omega)
    refine seqE ?_
    refine seqE ?_
    refine idxAt hi2 ?_
    refine .inl ?_
    refine rowsE (Y := List.map Timer.cells (x2.s ++ (p0.Far[x2.i]'hi2))) (by first | rfl | (simp [subR0, subR1, -List.map_take, -List.map_drop, take_map', drop_map', fz_Timer, fl_Timer, fzMap fz_Timer, flMap fl_Timer]; done) | (simp [subR0, subR1, -List.map_take, -List.map_drop, take_map', drop_map', fz_Timer, fl_Timer, fzMap fz_Timer, flMap fl_Timer]; rfl)) ?_
    refine appB (b := 24) (hs := by have hl := hs.1.1; have hl2 := hs.2.1.1; have hl3 := hs.2.2.1; (try have hq := (hs.1.get hi1).1); (try have hq := (hs.2.1.get hi2).1); (try have hq3 := x2.h); refine ⟨?_, ?_⟩; (show List.length _ * 24 ≤ _); (try simp only [List.length_map, List.length_append, List.length_cons, List.length_nil]); omega; (try simp only [List.length_map, List.length_append, List.length_cons, List.length_nil]); omega) ?_
    refine litE (m := 2) rfl ?_
    exact x2.goE hi2 hb2 (by have hq := (hs.2.1.get hi2).1; show List.length (_ ++ _) ≤ _; rw [List.length_append]; omega) [some 0, some 2] ⟨rfl, ⟨⟨rfl, rfl, rfl, rfl, by (first | rfl | omega | (dsimp only; omega) | (simp; done) | (simp; omega) | (simp [LstSt.init, LstSt.step, LstInv.init, CntSt.init, CntSt.step, CntInv.init, WhlSt.init, WhlSt.step]; done) | (simp [LstSt.init, LstSt.step, LstInv.init, CntSt.init, CntSt.step, CntInv.init, WhlSt.init, WhlSt.step]; omega))⟩, (eqInt hw2), ⟨rfl, rfl, rfl, rfl⟩, rfl, rfl, trivial⟩, ⟨⟨rfl, rfl, ⟨rfl, rfl, rfl, rfl, trivial⟩⟩, ⟨rfl, rfl, rfl⟩, trivial⟩, trivial⟩
  have hg := finE hg (x2.fin hi2)
  refine seqE ?_
  refine .inl ?_
  refine rowsE (Y := List.map Timer.cells (x2.s ++ p0.Rest)) (by first | rfl | (simp [subR0, subR1, -List.map_take, -List.map_drop, take_map', drop_map', fz_Timer, fl_Timer, fzMap fz_Timer, flMap fl_Timer]; done) | (simp [subR0, subR1, -List.map_take, -List.map_drop, take_map', drop_map', fz_Timer, fl_Timer, fzMap fz_Timer, flMap fl_Timer]; rfl)) ?_
  refine appB (b := 24) (hs := by have hl := hs.1.1; have hl2 := hs.2.1.1; have hl3 := hs.2.2.1; (try have hq := (hs.1.get hi1).1); (try have hq := (hs.2.1.get hi2).1); (try have hq3 := x2.h); refine ⟨?_, ?_⟩; (show List.length _ * 24 ≤ _); (try simp only [List.length_map, List.length_append, List.length_cons, List.length_nil]); omega; (try simp only [List.length_map, List.length_append, List.length_cons, List.length_nil]); omega) ?_
  refine litE (m := 2) rfl ?_
  exact leafE hown hg
theorem impl_Timers_eq (w : Wheel) : impl_Timers w = w.Near.flatMap id ++ w.Far.flatMap id ++ w.Rest := by
  unfold impl_Timers
  rw [app_flat (b := impl_Timers_b1) id (fun _ _ _ => rfl), Fin.get_fin, app_flat (b := impl_Timers_b2) id (fun _ _ _ => rfl), Fin.get_fin]
  simp
theorem impl_Timers_len (w : Wheel) (hs : Wheel.bd 1048576 w) : (impl_Timers w).length ≤ 2199024304128 := by
  rw [impl_Timers_eq]
  have h1 := flat_len' id 1048576 w.Near (fun a ha => (hs.1.2 a ha).1)
  have h2 := flat_len' id 1048576 w.Far (fun a ha => (hs.2.1.2 a ha).1)
  have h3 : w.Near.length ≤ 1048576 := hs.1.1
  have h4 : w.Far.length ≤ 1048576 := hs.2.1.1
  have h5 : w.Rest.length ≤ 1048576 := hs.2.2.1
  simp only [List.length_append]
  omega
def impl_timerAt_1 (p0 : Timer) (c0 : Int) : Bool :=
  (p0.Id == c0)
theorem c_impl_timerAt_1 (p0 : Timer) (c0 : Int) : FnOk prog 168 [.agg (Timer.cells p0), .one (.q 1 [[.v (.int .i64 c0)]] 0 0)] ⟨.one (.v (.bool (impl_timerAt_1 p0 c0))), [], [], false⟩ := by
  refine FnOk.intro (E := env) envOk wide func168 rfl (by kernel_rfl) rfl rfl ?_
  have hg := impl_timerAt_1.eq_1 p0 c0
  have hown : ∀ g : Bool, AV.Own (AV.one (.v (.bool g))) := fun g => .v _
  refine seqE ?_
  refine litE (m := 0) rfl ?_
  refine seqE ?_
  exact leafE hown hg
def slices_IndexFunc_STimer_Timer_c_impl_timerAt_1_b1 (p1_0 : Int) (i1 : Nat) (s1 : Unit) (a1 : Timer) : Step (Unit) Int :=
  (bif (impl_timerAt_1 a1 p1_0) then (.done ((i1 : Nat) : Int)) else (.next ()))
def slices_IndexFunc_STimer_Timer_c_impl_timerAt_1 (p0 : (List Timer)) (p1_0 : Int) : Int :=
  (Fin.get (fun s1 => (-1)) (loopL (slices_IndexFunc_STimer_Timer_c_impl_timerAt_1_b1 p1_0) 0 () p0))
theorem c_slices_IndexFunc_STimer_Timer_c_impl_timerAt_1 (p0 : (List Timer)) (p1_0 : Int) : FnOk prog 152 [.one (.s false 3 (List.map Timer.cells p0)), .one (.c 168 [.q 1 [[.v (.int .i64 p1_0)]] 0 0])] ⟨.one (.v (.int .i64 (slices_IndexFunc_STimer_Timer_c_impl_timerAt_1 p0 p1_0))), [], [], false⟩ := by
  refine FnOk.intro (E := env) envOk wide func152 rfl (by kernel_rfl) rfl rfl ?_
  have hg := slices_IndexFunc_STimer_Timer_c_impl_timerAt_1.eq_1 p0 p1_0
  have hown : ∀ g : Int, AV.Own (AV.one (.v (.int .i64 g))) := fun g => .v _
  refine seqE ?_
  refine seqE ?_
  refine seqE ?_
  refine lenM fun hN1 => ?_
  refine loopLE hg [0, 1, 7] (fun x1 => [(8, .one (.v (.int .i64 ((x1.i : Nat) : Int))))]) (fun x1 => []) [] ?_ (fun x1 => ?_)
  · exact ⟨rfl, ⟨rfl, rfl, ⟨rfl, ⟨rfl, trivial⟩⟩, rfl, trivial⟩, trivial, trivial⟩
  refine seqE ?_
  refine seqE ?_
  refine tstL (fun hi1 => ?_) (fun hi1 => ?_)
  · have hb1 := (x1.bdy hi1).trans (slices_IndexFunc_STimer_Timer_c_impl_timerAt_1_b1.eq_1 ..)
    have hw1 := wrap_succ hi1 (by first | assumption | omega)
    refine seqE ?_
    refine seqE ?_
    refine seqE ?_
    refine idxAt hi1 ?_
    refine .inl (⟨_, _, c_impl_timerAt_1 (p0[x1.i]'hi1) p1_0, (FzAs.same _), ?_⟩)
    refine litE (m := 1) rfl ?_
    refine brE hb1 (fun hb1 h2 => ?_) (fun hb1 h2 => x1.goE hi1 hb1 [] ⟨rfl, ⟨(eqInt hw1), rfl, ⟨rfl, ⟨rfl, trivial⟩⟩, rfl, trivial⟩, trivial, trivial⟩)
    refine seqE ?_
    have hg := donE hg (x1.outD hi1 hb1)
    exact leafE hown hg
  have hg := finE hg (x1.fin hi1)
  refine seqE ?_
  exact leafE hown hg
def impl_timerAt (p0 : (List Timer)) (p1 : Int) : Int :=
  (slices_IndexFunc_STimer_Timer_c_impl_timerAt_1 p0 p1)
theorem c_impl_timerAt (p0 : (List Timer)) (p1 : Int) : FnOk prog 142 [.one (.s false 3 (List.map Timer.cells p0)), .one (.v (.int .i64 p1))] ⟨.one (.v (.int .i64 (impl_timerAt p0 p1))), [], [], false⟩ := by
  refine FnOk.intro (E := env) envOk wide func142 rfl (by kernel_rfl) rfl rfl ?_
  have hg := impl_timerAt.eq_1 p0 p1
  have hown : ∀ g : Int, AV.Own (AV.one (.v (.int .i64 g))) := fun g => .v _
  refine seqE ?_
  refine litE (m := 0) rfl ?_
  refine seqE ?_
  refine .inl (⟨_, _, c_slices_IndexFunc_STimer_Timer_c_impl_timerAt_1 p0 p1, (FzAs.same _), ?_⟩)
  refine litE (m := 2) rfl ?_
  exact leafE hown hg
def impl_WheelOk_b2 (p0 : Wheel) (i2 : Nat) (s2 : Unit) (a2 : Timer) : Step (Unit) Bool :=
  (bif ((impl_timerAt (impl_Timers p0) a2.Id) != ((i2 : Nat) : Int)) then (.done false) else (.next ()))
def impl_WheelOk_b1 (p0 : Wheel) (i1 : Nat) (s1 : Unit) : Step (Unit) Bool :=
  (bif (!(impl_belongs p0 (p0.Near[i1]?.getD default) 0 ((i1 : Nat) : Int))) then (.done false) else (bif (!(impl_belongs p0 (p0.Far[i1]?.getD default) 1 ((i1 : Nat) : Int))) then (.done false) else (.next ())))
def impl_WheelOk (p0 : Wheel) : Bool :=
  (bif (!(impl_within p0.Now 0 2147483647)) then false else (bif ((((p0.Near).length : Nat) : Int) != 8) then false else (bif ((((p0.Far).length : Nat) : Int) != 8) then false else (bif (!(impl_belongs p0 p0.Rest 2 0)) then false else (Fin.get (fun s1 => (Fin.get (fun s2 => (decide (((((impl_Timers p0)).length : Nat) : Int) ≤ 16))) (loopL (impl_WheelOk_b2 p0) 0 () (impl_Timers p0)))) (loopC (impl_WheelOk_b1 p0) 0 () ((8 : Int)).toNat))))))
theorem c_impl_WheelOk (p0 : Wheel) (hs : Wheel.bd 1048576 p0) : FnOk prog 104 [.agg ((Wheel.cells false) p0)] ⟨.one (.v (.bool (impl_WheelOk p0))), [], [], false⟩ := by
  refine FnOk.intro (E := env) envOk wide func104 rfl (by kernel_rfl) rfl rfl ?_
  have hg := impl_WheelOk.eq_1 p0
  have hown : ∀ g : Bool, AV.Own (AV.one (.v (.bool g))) := fun g => .v _
  refine seqE ?_
  refine litE (m := 0) rfl ?_
  refine seqE ?_
  refine seqE ?_
  refine .inl (⟨_, _, c_impl_within p0.Now 0 2147483647, (FzAs.same _), ?_⟩)
  refine litE (m := 2) rfl ?_
  refine brF hg (fun hg h1 => ?_) (fun hg h1 => ?_)
  · refine lenM fun hN2 => ?_
    refine brWF hg (fun hg h3 => ?_) (fun hg h3 => ?_)
    · refine lenM fun hN4 => ?_
      refine brWF hg (fun hg h5 => ?_) (fun hg h5 => ?_)
      · refine .inl (⟨_, _, c_impl_belongs p0 p0.Rest 2 0, (FzAs.same _), ?_⟩)
        refine litE (m := 3) rfl ?_
        refine brE hg (fun hg h6 => ?_) (fun hg h6 => ?_)
        · refine seqE ?_
          exact leafE hown hg
        · refine seqE ?_
          refine seqE ?_
          refine loopCE hg [1] (fun x1 => [(3, .one (.v (.int .i64 ((x1.i : Nat) : Int))))]) (fun x1 => [.keep 0, .dead, .dead]) [some 0, none, none] ?_ (fun x1 => ?_)
          · exact ⟨rfl, ⟨rfl, ⟨rfl, rfl, rfl, rfl⟩, trivial⟩, ⟨⟨rfl, rfl, ⟨rfl, rfl, rfl, rfl, trivial⟩⟩, trivial⟩, trivial⟩
          refine seqE ?_
          refine seqE ?_
          refine tstC (fun hi1 => ?_) (fun hi1 => ?_)
          · have hb1 := (x1.bdy hi1).trans (impl_WheelOk_b1.eq_1 ..)
            have hw1 := wrapC hi1
            refine seqE ?_
            refine seqE ?_
            refine .inl ⟨by kernel_rfl, ?_⟩
            refine idxOf (l := p0.Near) (by (first | omega | (simp (disch := omega) only [wrap_small, mid_eq, List.length_map]; omega) | (simp; done) | (simp; omega) | (simp at *; omega) | (simp at *; done) | (simp_all; done) | (simp_all; omega))) (fun hq7 => ?_)
            refine ⟨_, _, c_impl_belongs p0 (p0.Near[x1.i]?.getD default) 0 ((x1.i : Nat) : Int), (FzAs.same _), ?_⟩
            refine brF hb1 (fun hb1 h8 => ?_) (fun hb1 h8 => ?_)
            · refine idxOf (l := p0.Far) (by (first | omega | (simp (disch := omega) only [wrap_small, mid_eq, List.length_map]; omega) | (simp; done) | (simp; omega) | (simp at *; omega) | (simp at *; done) | (simp_all; done) | (simp_all; omega))) (fun hq9 => ?_)
              refine ⟨_, _, c_impl_belongs p0 (p0.Far[x1.i]?.getD default) 1 ((x1.i : Nat) : Int), (FzAs.same _), ?_⟩
              refine brE hb1 (fun hb1 h10 => ?_) (fun hb1 h10 => x1.goE hi1 hb1 [some 0, none, none] ⟨rfl, ⟨(eqInt hw1), ⟨rfl, rfl, rfl, rfl⟩, trivial⟩, ⟨⟨rfl, rfl, ⟨rfl, rfl, rfl, rfl, trivial⟩⟩, trivial⟩, trivial⟩)
              refine seqE ?_
              have hg := donE hg (x1.outD hi1 hb1)
              exact leafE hown hg
            · refine seqE ?_
              have hg := donE hg (x1.outD hi1 hb1)
              exact leafE hown hg
          have hg := finE hg (x1.fin hi1)
          refine seqE ?_
          refine .inl (⟨_, _, c_impl_Timers p0 (by exact hs), (FzAs.same _), ?_⟩)
          refine litE (m := 4) rfl ?_
          refine seqE ?_
          refine seqE ?_
          refine lenE (k := ((impl_Timers p0)).length) (by simp) (fun hN11 => ?_)
          refine loopLE hg [4, 56, 57] (fun x2 => [(58, .one (.v (.int .i64 ((x2.i : Nat) : Int))))]) (fun x2 => [.dead, .dead, .dead, .dead, .keep 4]) [none, none, none, none, some 4] ?_ (fun x2 => ?_)
          · exact ⟨rfl, ⟨rfl, ⟨rfl, rfl, rfl, rfl, by (first | rfl | omega | (dsimp only; omega) | (simp; done) | (simp; omega) | (simp [LstSt.init, LstSt.step, LstInv.init, CntSt.init, CntSt.step, CntInv.init, WhlSt.init, WhlSt.step]; done) | (simp [LstSt.init, LstSt.step, LstInv.init, CntSt.init, CntSt.step, CntInv.init, WhlSt.init, WhlSt.step]; omega))⟩, ⟨rfl, rfl, rfl, rfl, by (first | rfl | omega | (dsimp only; omega) | (simp; done) | (simp; omega) | (simp [LstSt.init, LstSt.step, LstInv.init, CntSt.init, CntSt.step, CntInv.init, WhlSt.init, WhlSt.step]; done) | (simp [LstSt.init, LstSt.step, LstInv.init, CntSt.init, CntSt.step, CntInv.init, WhlSt.init, WhlSt.step]; omega))⟩, rfl, trivial⟩, ⟨⟨rfl, rfl, rfl⟩, trivial⟩, trivial⟩
          refine seqE ?_
          refine seqE ?_
          refine tstL (fun hi2 => ?_) (fun hi2 => ?_)
          · have hb2 := (x2.bdy hi2).trans (impl_WheelOk_b2.eq_1 ..)
            have hw2 := wrap_succ hi2 (by first | assumption | omega)
            refine seqE ?_
            refine seqE ?_
            refine andE (by (first | omega | (simp (disch := omega) only [wrap_small, mid_eq, List.length_map]; omega) | (simp; done) | (simp; omega) | (simp at *; omega) | (simp at *; done) | (simp_all; done) | (simp_all; omega))) ?_
            refine rowAtE (i := x2.i) (l := (impl_Timers p0)) (by first | rfl | exact Nat.zero_add _ | simp) hi2 ?_
            refine litE (m := 5) rfl ?_
            refine seqE ?_
            refine .inl (⟨_, _, c_impl_timerAt (impl_Timers p0) ((impl_Timers p0)[x2.i]'hi2).Id, (FzAs.same _), ?_⟩)
            refine litE (m := 7) rfl ?_
            refine brW hb2 (fun hb2 h12 => ?_) (fun hb2 h12 => x2.goE hi2 hb2 [none, none, none, none, some 4] ⟨rfl, ⟨(eqInt hw2), ⟨rfl, rfl, rfl, rfl, by (first | rfl | omega | (dsimp only; omega) | (simp; done) | (simp; omega) | (simp [LstSt.init, LstSt.step, LstInv.init, CntSt.init, CntSt.step, CntInv.init, WhlSt.init, WhlSt.step]; done) | (simp [LstSt.init, LstSt.step, LstInv.init, CntSt.init, CntSt.step, CntInv.init, WhlSt.init, WhlSt.step]; omega))⟩, ⟨rfl, rfl, rfl, rfl, by (first | rfl | omega | (dsimp only; omega) | (simp; done) | (simp; omega) | (simp [LstSt.init, LstSt.step, LstInv.init, CntSt.init, CntSt.step, CntInv.init, WhlSt.init, WhlSt.step]; done) | (simp [LstSt.init, LstSt.step, LstInv.init, CntSt.init, CntSt.step, CntInv.init, WhlSt.init, WhlSt.step]; omega))⟩, rfl, trivial⟩, ⟨⟨rfl, rfl, rfl⟩, trivial⟩, trivial⟩)
            refine seqE ?_
            have hg := donE hg (x2.outD hi2 hb2)
            exact leafE hown hg
          have hg := finE hg (x2.fin hi2)
          refine seqE ?_
          refine lenE (k := ((impl_Timers p0)).length) (by simp) (fun hN13 => ?_)
          exact leafE hown hg
      · refine seqE ?_
        exact leafE hown hg
    · refine seqE ?_
      exact leafE hown hg
  · refine seqE ?_
    exact leafE hown hg
def impl_BucketOk (p0 : Bucket) : Bool :=
  (bif (impl_within p0.Rate 0 99) then (bif (impl_within p0.Burst 0 999) then (bif (impl_within p0.Tokens 0 p0.Burst) then (impl_within p0.At 0 2147483647) else false) else false) else false)
theorem c_impl_BucketOk (p0 : Bucket) : FnOk prog 106 [.agg (Bucket.cells p0)] ⟨.one (.v (.bool (impl_BucketOk p0))), [], [], false⟩ := by
  refine FnOk.intro (E := env) envOk wide func106 rfl (by kernel_rfl) rfl rfl ?_
  have hg := impl_BucketOk.eq_1 p0
  have hown : ∀ g : Bool, AV.Own (AV.one (.v (.bool g))) := fun g => .v _
  refine seqE ?_
  refine litE (m := 0) rfl ?_
  refine seqE ?_
  refine .inl (⟨_, _, c_impl_within p0.Rate 0 99, (FzAs.same _), ?_⟩)
  refine litE (m := 2) rfl ?_
  refine brE hg (fun hg h1 => ?_) (fun hg h1 => leafE hown hg)
  refine .inl (⟨_, _, c_impl_within p0.Burst 0 999, (FzAs.same _), ?_⟩)
  refine litE (m := 3) rfl ?_
  refine brE hg (fun hg h2 => ?_) (fun hg h2 => leafE hown hg)
  refine .inl (⟨_, _, c_impl_within p0.Tokens 0 p0.Burst, (FzAs.same _), ?_⟩)
  refine litE (m := 4) rfl ?_
  refine brE hg (fun hg h3 => ?_) (fun hg h3 => leafE hown hg)
  refine .inl (⟨_, _, c_impl_within p0.At 0 2147483647, (FzAs.same _), ?_⟩)
  refine litE (m := 5) rfl ?_
  exact leafE hown hg
def impl_verdictAt_1 (p0 : Verdict) (c0 : Int) : Bool :=
  (p0.Trace == c0)
theorem c_impl_verdictAt_1 (p0 : Verdict) (c0 : Int) : FnOk prog 170 [.agg (Verdict.cells p0), .one (.q 1 [[.v (.int .i64 c0)]] 0 0)] ⟨.one (.v (.bool (impl_verdictAt_1 p0 c0))), [], [], false⟩ := by
  refine FnOk.intro (E := env) envOk wide func170 rfl (by kernel_rfl) rfl rfl ?_
  have hg := impl_verdictAt_1.eq_1 p0 c0
  have hown : ∀ g : Bool, AV.Own (AV.one (.v (.bool g))) := fun g => .v _
  refine seqE ?_
  refine litE (m := 0) rfl ?_
  refine seqE ?_
  exact leafE hown hg
def slices_IndexFunc_SVerdict_Verdict_c_impl_verdictAt_1_b1 (p1_0 : Int) (i1 : Nat) (s1 : Unit) (a1 : Verdict) : Step (Unit) Int :=
  (bif (impl_verdictAt_1 a1 p1_0) then (.done ((i1 : Nat) : Int)) else (.next ()))
def slices_IndexFunc_SVerdict_Verdict_c_impl_verdictAt_1 (p0 : (List Verdict)) (p1_0 : Int) : Int :=
  (Fin.get (fun s1 => (-1)) (loopL (slices_IndexFunc_SVerdict_Verdict_c_impl_verdictAt_1_b1 p1_0) 0 () p0))
theorem c_slices_IndexFunc_SVerdict_Verdict_c_impl_verdictAt_1 (p0 : (List Verdict)) (p1_0 : Int) : FnOk prog 169 [.one (.s false 3 (List.map Verdict.cells p0)), .one (.c 170 [.q 1 [[.v (.int .i64 p1_0)]] 0 0])] ⟨.one (.v (.int .i64 (slices_IndexFunc_SVerdict_Verdict_c_impl_verdictAt_1 p0 p1_0))), [], [], false⟩ := by
  refine FnOk.intro (E := env) envOk wide func169 rfl (by kernel_rfl) rfl rfl ?_
  have hg := slices_IndexFunc_SVerdict_Verdict_c_impl_verdictAt_1.eq_1 p0 p1_0
  have hown : ∀ g : Int, AV.Own (AV.one (.v (.int .i64 g))) := fun g => .v _
  refine seqE ?_
  refine seqE ?_
  refine seqE ?_
  refine lenM fun hN1 => ?_
  refine loopLE hg [0, 1, 7] (fun x1 => [(8, .one (.v (.int .i64 ((x1.i : Nat) : Int))))]) (fun x1 => []) [] ?_ (fun x1 => ?_)
  · exact ⟨rfl, ⟨rfl, rfl, ⟨rfl, ⟨rfl, trivial⟩⟩, rfl, trivial⟩, trivial, trivial⟩
  refine seqE ?_
  refine seqE ?_
  refine tstL (fun hi1 => ?_) (fun hi1 => ?_)
  · have hb1 := (x1.bdy hi1).trans (slices_IndexFunc_SVerdict_Verdict_c_impl_verdictAt_1_b1.eq_1 ..)
    have hw1 := wrap_succ hi1 (by first | assumption | omega)
    refine seqE ?_
    refine seqE ?_
    refine seqE ?_
    refine idxAt hi1 ?_
    refine .inl (⟨_, _, c_impl_verdictAt_1 (p0[x1.i]'hi1) p1_0, (FzAs.same _), ?_⟩)
    refine litE (m := 1) rfl ?_
    refine brE hb1 (fun hb1 h2 => ?_) (fun hb1 h2 => x1.goE hi1 hb1 [] ⟨rfl, ⟨(eqInt hw1), rfl, ⟨rfl, ⟨rfl, trivial⟩⟩, rfl, trivial⟩, trivial, trivial⟩)
    refine seqE ?_
    have hg := donE hg (x1.outD hi1 hb1)
    exact leafE hown hg
  have hg := finE hg (x1.fin hi1)
  refine seqE ?_
  exact leafE hown hg
def impl_verdictAt (p0 : (List Verdict)) (p1 : Int) : Int :=
  (slices_IndexFunc_SVerdict_Verdict_c_impl_verdictAt_1 p0 p1)
theorem c_impl_verdictAt (p0 : (List Verdict)) (p1 : Int) : FnOk prog 143 [.one (.s false 3 (List.map Verdict.cells p0)), .one (.v (.int .i64 p1))] ⟨.one (.v (.int .i64 (impl_verdictAt p0 p1))), [], [], false⟩ := by
  refine FnOk.intro (E := env) envOk wide func143 rfl (by kernel_rfl) rfl rfl ?_
  have hg := impl_verdictAt.eq_1 p0 p1
  have hown : ∀ g : Int, AV.Own (AV.one (.v (.int .i64 g))) := fun g => .v _
  refine seqE ?_
  refine litE (m := 0) rfl ?_
  refine seqE ?_
  refine .inl (⟨_, _, c_slices_IndexFunc_SVerdict_Verdict_c_impl_verdictAt_1 p0 p1, (FzAs.same _), ?_⟩)
  refine litE (m := 2) rfl ?_
  exact leafE hown hg
def impl_CacheOk_b1 (p0 : (List Verdict)) (i1 : Nat) (s1 : Unit) (a1 : Verdict) : Step (Unit) Bool :=
  (bif (!(impl_within a1.Trace 1 999)) then (.done false) else (bif (decide (a1.Stamp < 1)) then (.done false) else (bif ((impl_verdictAt p0 a1.Trace) != ((i1 : Nat) : Int)) then (.done false) else (.next ()))))
def impl_CacheOk (p0 : (List Verdict)) (p1 : Int) : Bool :=
  (Fin.get (fun s1 => (decide ((((p0).length : Nat) : Int) ≤ p1))) (loopL (impl_CacheOk_b1 p0) 0 () p0))
theorem c_impl_CacheOk (p0 : (List Verdict)) (p1 : Int) : FnOk prog 107 [.one (.s false 3 (List.map Verdict.cells p0)), .one (.v (.int .i64 p1))] ⟨.one (.v (.bool (impl_CacheOk p0 p1))), [], [], false⟩ := by
  refine FnOk.intro (E := env) envOk wide func107 rfl (by kernel_rfl) rfl rfl ?_
  have hg := impl_CacheOk.eq_1 p0 p1
  have hown : ∀ g : Bool, AV.Own (AV.one (.v (.bool g))) := fun g => .v _
  refine seqE ?_
  refine seqE ?_
  refine seqE ?_
  refine lenM fun hN1 => ?_
  refine loopLE hg [0, 1, 7, 8] (fun x1 => [(9, .one (.v (.int .i64 ((x1.i : Nat) : Int))))]) (fun x1 => []) [] ?_ (fun x1 => ?_)
  · exact ⟨rfl, ⟨rfl, rfl, rfl, rfl, rfl, trivial⟩, trivial, trivial⟩
  refine seqE ?_
  refine seqE ?_
  refine tstL (fun hi1 => ?_) (fun hi1 => ?_)
  · have hb1 := (x1.bdy hi1).trans (impl_CacheOk_b1.eq_1 ..)
    have hw1 := wrap_succ hi1 (by first | assumption | omega)
    refine seqE ?_
    refine seqE ?_
    refine idxAt hi1 ?_
    refine litE (m := 0) rfl ?_
    refine seqE ?_
    refine .inl (⟨_, _, c_impl_within (p0[x1.i]'hi1).Trace 1 999, (FzAs.same _), ?_⟩)
    refine litE (m := 2) rfl ?_
    refine brF hb1 (fun hb1 h2 => ?_) (fun hb1 h2 => ?_)
    · refine brDF hb1 (fun hb1 h3 => ?_) (fun hb1 h3 => ?_)
      · refine .inl (⟨_, _, c_impl_verdictAt p0 (p0[x1.i]'hi1).Trace, (FzAs.same _), ?_⟩)
        refine litE (m := 3) rfl ?_
        refine brW hb1 (fun hb1 h4 => ?_) (fun hb1 h4 => x1.goE hi1 hb1 [] ⟨rfl, ⟨(eqInt hw1), rfl, rfl, rfl, rfl, trivial⟩, trivial, trivial⟩)
        refine seqE ?_
        have hg := donE hg (x1.outD hi1 hb1)
        exact leafE hown hg
      · refine seqE ?_
        have hg := donE hg (x1.outD hi1 hb1)
        exact leafE hown hg
    · refine seqE ?_
      have hg := donE hg (x1.outD hi1 hb1)
      exact leafE hown hg
  have hg := finE hg (x1.fin hi1)
  refine seqE ?_
  refine lenM fun hN5 => ?_
  exact leafE hown hg
def impl_copySpan (p0 : Span) : Span :=
  p0
theorem c_impl_copySpan (p0 : Span) (hs : Span.bd 1048576 p0) : FnOk prog 186 [.agg ((Span.cells false) p0)] ⟨.agg ((Span.cells true) (impl_copySpan p0)), [], [], false⟩ := by
  refine FnOk.intro (E := env) envOk wide func186 rfl (by kernel_rfl) rfl rfl ?_
  have hg := impl_copySpan.eq_1 p0
  have hown : ∀ g : Span, AV.Own (AV.agg ((Span.cells true) g)) := fun g => own_Span _
  refine seqE ?_
  refine litE (m := 0) rfl ?_
  refine litE (m := 1) rfl ?_
  refine seqE ?_
  refine .inl ?_
  refine rowsE (Y := List.map Attr.cells p0.Attrs) (by first | rfl | (simp [subR0, subR1, -List.map_take, -List.map_drop, take_map', drop_map', fz_Attr, fl_Attr, fzMap fz_Attr, flMap fl_Attr]; done) | (simp [subR0, subR1, -List.map_take, -List.map_drop, take_map', drop_map', fz_Attr, fl_Attr, fzMap fz_Attr, flMap fl_Attr]; rfl)) ?_
  refine appB (b := 48) (hs := by have hl := hs.1; refine ⟨?_, ?_⟩; (show List.length _ * 48 ≤ _); (try simp only [List.length_map, List.length_append, List.length_cons, List.length_nil]); omega; (try simp only [List.length_map, List.length_append, List.length_cons, List.length_nil]); omega) ?_
  refine litE (m := 2) rfl ?_
  refine seqE ?_
  exact leafE hown hg
def impl_copySpans_b1 (i1 : Nat) (s1 : (List Span)) (a1 : Span) : Step ((List Span)) (List Span) :=
  (.next (s1 ++ [(impl_copySpan a1)]))
def impl_copySpans (p0 : (List Span)) : (List Span) :=
  (Fin.get (fun s1 => s1) (loopL impl_copySpans_b1 0 ([] : List Span) p0))
theorem c_impl_copySpans (p0 : (List Span)) (hs : bdS Span.bd 1048576 p0) : FnOk prog 180 [.one (.s false 6 (List.map (Span.cells false) p0))] ⟨.one (.s true 6 (List.map (Span.cells true) (impl_copySpans p0))), [], [], false⟩ := by
  refine FnOk.intro (E := env) envOk wide func180 rfl (by kernel_rfl) rfl rfl ?_
  have hg := impl_copySpans.eq_1 p0
  have hown : ∀ g : (List Span), AV.Own (AV.one (.s true 6 (List.map (Span.cells true) g))) := fun g => ownSl own_Span _
  refine seqE ?_
  refine seqE ?_
  refine seqE ?_
  refine seqE ?_
  refine lenM fun hN1 => ?_
  refine loopLI (fun i s => s.length = i) hg (by rfl) [6, 7] (fun x1 => [(3, .one (.n 0 [] 1 0 (x1.s).length)), (8, .one (.v (.int .i64 ((x1.i : Nat) : Int))))]) (fun x1 => [.new ⟨6, false, List.map (Span.cells true) x1.s, 0⟩]) [none] ?_ (fun x1 => ?_)
  · exact ⟨rfl, ⟨⟨rfl, rfl, rfl, rfl, rfl⟩, rfl, rfl, rfl, trivial⟩, ⟨⟨rfl, rfl⟩, trivial⟩, trivial⟩
  have hI1 : List.length x1.s = x1.i := by simpa using x1.hI
  refine seqE ?_
  refine seqE ?_
  refine tstL (fun hi1 => ?_) (fun hi1 => ?_)
  · have hb1 := (x1.bdy hi1).trans (impl_copySpans_b1.eq_1 ..)
    have hw1 := wrap_succ hi1 (by first | assumption | omega)
    refine seqE ?_
    refine seqE ?_
    refine idxAt hi1 ?_
    refine litE (m := 1) rfl ?_
    refine .inl (⟨_, _, c_impl_copySpan (p0[x1.i]'hi1) (by exact hs.get hi1), (FzAs.same _), ?_⟩)
    refine litE (m := 3) rfl ?_
    refine litE (m := 4) rfl ?_
    refine .inl ?_
    refine rowsE (Y := List.map (Span.cells true) (x1.s ++ [(impl_copySpan (p0[x1.i]'hi1))])) (by first | rfl | (simp [subR0, subR1, -List.map_take, -List.map_drop, take_map', drop_map', fz_Span, fzMap fz_Span, shMap sh_Span]; done) | (simp [subR0, subR1, -List.map_take, -List.map_drop, take_map', drop_map', fz_Span, fzMap fz_Span, shMap sh_Span]; rfl)) ?_
    refine appB (b := 64) (hs := by have hl := hs.1; refine ⟨?_, ?_⟩; (show List.length _ * 64 ≤ _); (try simp only [List.length_map, List.length_append, List.length_cons, List.length_nil]); omega; (try simp only [List.length_map, List.length_append, List.length_cons, List.length_nil]); omega) ?_
    refine litE (m := 5) rfl ?_
    exact x1.goE hi1 hb1 (by show List.length (_ ++ _) = _; simp only [List.length_append, List.length_cons, List.length_nil]; omega) [some 5] ⟨rfl, ⟨⟨rfl, rfl, rfl, rfl, by (first | rfl | omega | (dsimp only; omega) | (simp; done) | (simp; omega) | (simp [LstSt.init, LstSt.step, LstInv.init, CntSt.init, CntSt.step, CntInv.init, WhlSt.init, WhlSt.step]; done) | (simp [LstSt.init, LstSt.step, LstInv.init, CntSt.init, CntSt.step, CntInv.init, WhlSt.init, WhlSt.step]; omega))⟩, (eqInt hw1), rfl, rfl, trivial⟩, ⟨⟨rfl, rfl, rfl⟩, trivial⟩, trivial⟩
  have hg := finE hg (x1.fin hi1)
  refine seqE ?_
  exact leafE hown hg
theorem copySpans_id (l : List Span) : impl_copySpans l = l := by
  unfold impl_copySpans
  rw [app_loop (f := fun a => [a]) (b := impl_copySpans_b1) (fun _ _ _ => rfl)]
  simp [Fin.get]
def impl_copyTrail (p0 : Trail) : Trail :=
  (Trail.mk p0.Id p0.Stamp p0.First (impl_copySpans p0.Spans))
theorem c_impl_copyTrail (p0 : Trail) (hs : Trail.bd 1048576 p0) : FnOk prog 157 [.agg ((Trail.cells false) p0)] ⟨.agg ((Trail.cells true) (impl_copyTrail p0)), [], [], false⟩ := by
  refine FnOk.intro (E := env) envOk wide func157 rfl (by kernel_rfl) rfl rfl ?_
  have hg := impl_copyTrail.eq_1 p0
  have hown : ∀ g : Trail, AV.Own (AV.agg ((Trail.cells true) g)) := fun g => own_Trail _
  refine seqE ?_
  refine litE (m := 0) rfl ?_
  refine litE (m := 1) rfl ?_
  refine seqE ?_
  refine .inl (⟨_, _, c_impl_copySpans p0.Spans (by exact hs), (FzAs.same _), ?_⟩)
  refine litE (m := 3) rfl ?_
  refine seqE ?_
  exact leafE hown hg
theorem copyTrail_id (t : Trail) : impl_copyTrail t = t := by
  unfold impl_copyTrail
  rw [copySpans_id]
def impl_copyTrails_b1 (i1 : Nat) (s1 : (List Trail)) (a1 : Trail) : Step ((List Trail)) (List Trail) :=
  (.next (s1 ++ [(impl_copyTrail a1)]))
def impl_copyTrails (p0 : (List Trail)) : (List Trail) :=
  (Fin.get (fun s1 => s1) (loopL impl_copyTrails_b1 0 ([] : List Trail) p0))
theorem c_impl_copyTrails (p0 : (List Trail)) (hs : bdS Trail.bd 1048576 p0) : FnOk prog 123 [.one (.s false 4 (List.map (Trail.cells false) p0))] ⟨.one (.s true 4 (List.map (Trail.cells true) (impl_copyTrails p0))), [], [], false⟩ := by
  refine FnOk.intro (E := env) envOk wide func123 rfl (by kernel_rfl) rfl rfl ?_
  have hg := impl_copyTrails.eq_1 p0
  have hown : ∀ g : (List Trail), AV.Own (AV.one (.s true 4 (List.map (Trail.cells true) g))) := fun g => ownSl own_Trail _
  refine seqE ?_
  refine seqE ?_
  refine seqE ?_
  refine seqE ?_
  refine lenM fun hN1 => ?_
  refine loopLI (fun i s => s.length = i) hg (by rfl) [6, 7] (fun x1 => [(3, .one (.n 0 [] 1 0 (x1.s).length)), (8, .one (.v (.int .i64 ((x1.i : Nat) : Int))))]) (fun x1 => [.new ⟨4, false, List.map (Trail.cells true) x1.s, 0⟩]) [none] ?_ (fun x1 => ?_)
  · exact ⟨rfl, ⟨⟨rfl, rfl, rfl, rfl, rfl⟩, rfl, rfl, rfl, trivial⟩, ⟨⟨rfl, rfl⟩, trivial⟩, trivial⟩
  have hI1 : List.length x1.s = x1.i := by simpa using x1.hI
  refine seqE ?_
  refine seqE ?_
  refine tstL (fun hi1 => ?_) (fun hi1 => ?_)
  · have hb1 := (x1.bdy hi1).trans (impl_copyTrails_b1.eq_1 ..)
    have hw1 := wrap_succ hi1 (by first | assumption | omega)
    refine seqE ?_
    refine seqE ?_
    refine idxAt hi1 ?_
    refine litE (m := 1) rfl ?_
    refine .inl (⟨_, _, c_impl_copyTrail (p0[x1.i]'hi1) (by exact hs.get hi1), (FzAs.same _), ?_⟩)
    refine litE (m := 3) rfl ?_
    refine litE (m := 4) rfl ?_
    refine .inl ?_
    refine rowsE (Y := List.map (Trail.cells true) (x1.s ++ [(impl_copyTrail (p0[x1.i]'hi1))])) (by first | rfl | (simp [subR0, subR1, -List.map_take, -List.map_drop, take_map', drop_map', fz_Trail, fzMap fz_Trail, shMap sh_Trail]; done) | (simp [subR0, subR1, -List.map_take, -List.map_drop, take_map', drop_map', fz_Trail, fzMap fz_Trail, shMap sh_Trail]; rfl)) ?_
    refine appB (b := 48) (hs := by have hl := hs.1; refine ⟨?_, ?_⟩; (show List.length _ * 48 ≤ _); (try simp only [List.length_map, List.length_append, List.length_cons, List.length_nil]); omega; (try simp only [List.length_map, List.length_append, List.length_cons, List.length_nil]); omega) ?_
    refine litE (m := 5) rfl ?_
    exact x1.goE hi1 hb1 (by show List.length (_ ++ _) = _; simp only [List.length_append, List.length_cons, List.length_nil]; omega) [some 5] ⟨rfl, ⟨⟨rfl, rfl, rfl, rfl, by (first | rfl | omega | (dsimp only; omega) | (simp; done) | (simp; omega) | (simp [LstSt.init, LstSt.step, LstInv.init, CntSt.init, CntSt.step, CntInv.init, WhlSt.init, WhlSt.step]; done) | (simp [LstSt.init, LstSt.step, LstInv.init, CntSt.init, CntSt.step, CntInv.init, WhlSt.init, WhlSt.step]; omega))⟩, (eqInt hw1), rfl, rfl, trivial⟩, ⟨⟨rfl, rfl, rfl⟩, trivial⟩, trivial⟩
  have hg := finE hg (x1.fin hi1)
  refine seqE ?_
  exact leafE hown hg
theorem copyTrails_id (l : List Trail) : impl_copyTrails l = l := by
  unfold impl_copyTrails
  rw [app_loop (f := fun a => [a]) (b := impl_copyTrails_b1) (fun _ s a => by unfold impl_copyTrails_b1; rw [copyTrail_id])]
  simp [Fin.get]
def impl_allTrails_b1 (i1 : Nat) (s1 : (List Trail)) (a1 : Stripe) : Step ((List Trail)) (List Trail) :=
  (.next (s1 ++ (impl_copyTrails a1.L)))
def impl_allTrails (p0 : (List Stripe)) : (List Trail) :=
  (Fin.get (fun s1 => s1) (loopL impl_allTrails_b1 0 ([] : List Trail) p0))
theorem c_impl_allTrails (p0 : (List Stripe)) (hs : bdS Stripe.bd 1048576 p0) : FnOk prog 81 [.one (.s false 2 (List.map (Stripe.cells false) p0))] ⟨.one (.s true 4 (List.map (Trail.cells true) (impl_allTrails p0))), [], [], false⟩ := by
  refine FnOk.intro (E := env) envOk wide func81 rfl (by kernel_rfl) rfl rfl ?_
  have hg := impl_allTrails.eq_1 p0
  have hown : ∀ g : (List Trail), AV.Own (AV.one (.s true 4 (List.map (Trail.cells true) g))) := fun g => ownSl own_Trail _
  refine seqE ?_
  refine seqE ?_
  refine seqE ?_
  refine seqE ?_
  refine lenM fun hN1 => ?_
  refine loopLI (fun i s => s.length ≤ 1048576 * i) hg (by show 0 ≤ _; omega) [6, 7] (fun x1 => [(3, .one (.n 0 [] 1 0 (x1.s).length)), (8, .one (.v (.int .i64 ((x1.i : Nat) : Int))))]) (fun x1 => [.new ⟨4, false, List.map (Trail.cells true) x1.s, 0⟩]) [none] ?_ (fun x1 => ?_)
  · exact ⟨rfl, ⟨⟨rfl, rfl, rfl, rfl, rfl⟩, rfl, rfl, rfl, trivial⟩, ⟨⟨rfl, rfl⟩, trivial⟩, trivial⟩
  have hI1 : List.length x1.s ≤ 1048576 * x1.i := by simpa using x1.hI
  refine seqE ?_
  refine seqE ?_
  refine tstL (fun hi1 => ?_) (fun hi1 => ?_)
  · have hb1 := (x1.bdy hi1).trans (impl_allTrails_b1.eq_1 ..)
    have hw1 := wrap_succ hi1 (by first | assumption | omega)
    refine seqE ?_
    refine seqE ?_
    refine idxAt hi1 ?_
    refine litE (m := 1) rfl ?_
    refine .inl (⟨_, _, c_impl_copyTrails (p0[x1.i]'hi1).L (by exact hs.get hi1), (FzAs.same _), ?_⟩)
    refine litE (m := 3) rfl ?_
    refine .inl ?_
    refine rowsE (Y := List.map (Trail.cells true) (x1.s ++ (impl_copyTrails (p0[x1.i]'hi1).L))) (by first | rfl | (simp [subR0, subR1, -List.map_take, -List.map_drop, take_map', drop_map', fz_Trail, fzMap fz_Trail, shMap sh_Trail]; done) | (simp [subR0, subR1, -List.map_take, -List.map_drop, take_map', drop_map', fz_Trail, fzMap fz_Trail, shMap sh_Trail]; rfl)) ?_
    refine appB (b := 48) (hs := by have hl := hs.1; have hq : bdS Trail.bd 1048576 (p0[x1.i]'hi1).L := hs.get hi1; have hq1 := hq.1; have hq2 := copyTrails_id (p0[x1.i]'hi1).L; (try rw [hq2]); refine ⟨?_, ?_⟩; (show List.length _ * 48 ≤ _); (try simp only [List.length_map, List.length_append, List.length_cons, List.length_nil]); omega; (try simp only [List.length_map, List.length_append, List.length_cons, List.length_nil]); omega) ?_
    refine litE (m := 4) rfl ?_
    exact x1.goE hi1 hb1 (by have hq : bdS Trail.bd 1048576 (p0[x1.i]'hi1).L := hs.get hi1; show List.length (_ ++ _) ≤ _; rw [List.length_append, copyTrails_id]; have := hq.1; omega) [some 4] ⟨rfl, ⟨⟨rfl, rfl, rfl, rfl, by (first | rfl | omega | (dsimp only; omega) | (simp; done) | (simp; omega) | (simp [LstSt.init, LstSt.step, LstInv.init, CntSt.init, CntSt.step, CntInv.init, WhlSt.init, WhlSt.step]; done) | (simp [LstSt.init, LstSt.step, LstInv.init, CntSt.init, CntSt.step, CntInv.init, WhlSt.init, WhlSt.step]; omega))⟩, (eqInt hw1), rfl, rfl, trivial⟩, ⟨⟨rfl, rfl, rfl⟩, trivial⟩, trivial⟩
  have hg := finE hg (x1.fin hi1)
  refine seqE ?_
  exact leafE hown hg
theorem allTrails_eq (l : List Stripe) : impl_allTrails l = l.flatMap (fun x => x.L) := by
  unfold impl_allTrails
  rw [app_loop (f := fun x : Stripe => x.L) (b := impl_allTrails_b1) (fun _ s a => by unfold impl_allTrails_b1; rw [copyTrails_id])]
  simp [Fin.get]
theorem flat_len {α β : Type} (g : α → List β) (N : Nat) : ∀ l : List α, (∀ a ∈ l, (g a).length ≤ N) → (l.flatMap g).length ≤ N * l.length
  | [], _ => Nat.zero_le _
  | a :: l, h => by
    have h1 := h a (by simp)
    have h2 := flat_len g N l (fun x hx => h x (by simp [hx]))
    simp only [List.flatMap_cons, List.length_append, List.length_cons, Nat.mul_succ]; omega
theorem allTrails_len (p0 : List Stripe) (hs : bdS Stripe.bd 1048576 p0) : (impl_allTrails p0).length ≤ 1099511627776 := by
  rw [allTrails_eq]
  have h1 := hs.1
  have := flat_len (fun x : Stripe => x.L) 1048576 p0 (fun a ha => (hs.2 a ha).1)
  omega
def impl_TotalOf_b1 (i1 : Nat) (s1 : Int) (a1 : Span) : Step (Int) Int :=
  (.next (IntKind.i64.wrap (s1 + (impl_SizeOf a1))))
def impl_TotalOf (p0 : (List Span)) : Int :=
  (Fin.get (fun s1 => s1) (loopL impl_TotalOf_b1 0 0 p0))
theorem c_impl_TotalOf (p0 : (List Span)) : FnOk prog 171 [.one (.s false 6 (List.map (Span.cells false) p0))] ⟨.one (.v (.int .i64 (impl_TotalOf p0))), [], [], false⟩ := by
  refine FnOk.intro (E := env) envOk wide func171 rfl (by kernel_rfl) rfl rfl ?_
  have hg := impl_TotalOf.eq_1 p0
  have hown : ∀ g : Int, AV.Own (AV.one (.v (.int .i64 g))) := fun g => .v _
  refine seqE ?_
  refine seqE ?_
  refine seqE ?_
  refine seqE ?_
  refine lenM fun hN1 => ?_
  refine loopLE hg [6, 7] (fun x1 => [(3, .one (.v (.int .i64 x1.s))), (8, .one (.v (.int .i64 ((x1.i : Nat) : Int))))]) (fun x1 => []) [] ?_ (fun x1 => ?_)
  · exact ⟨rfl, ⟨rfl, rfl, rfl, rfl, trivial⟩, trivial, trivial⟩
  refine seqE ?_
  refine seqE ?_
  refine tstL (fun hi1 => ?_) (fun hi1 => ?_)
  · have hb1 := (x1.bdy hi1).trans (impl_TotalOf_b1.eq_1 ..)
    have hw1 := wrap_succ hi1 (by first | assumption | omega)
    refine seqE ?_
    refine seqE ?_
    refine idxAt hi1 ?_
    refine litE (m := 0) rfl ?_
    refine .inl (⟨_, _, c_impl_SizeOf (p0[x1.i]'hi1), (FzAs.same _), ?_⟩)
    refine litE (m := 2) rfl ?_
    exact x1.goE hi1 hb1 [] ⟨rfl, ⟨rfl, (eqInt hw1), rfl, rfl, trivial⟩, trivial, trivial⟩
  have hg := finE hg (x1.fin hi1)
  refine seqE ?_
  exact leafE hown hg
def impl_BytesOf (p0 : Trail) : Int :=
  (impl_TotalOf p0.Spans)
theorem c_impl_BytesOf (p0 : Trail) : FnOk prog 144 [.agg ((Trail.cells false) p0)] ⟨.one (.v (.int .i64 (impl_BytesOf p0))), [], [], false⟩ := by
  refine FnOk.intro (E := env) envOk wide func144 rfl (by kernel_rfl) rfl rfl ?_
  have hg := impl_BytesOf.eq_1 p0
  have hown : ∀ g : Int, AV.Own (AV.one (.v (.int .i64 g))) := fun g => .v _
  refine seqE ?_
  refine litE (m := 0) rfl ?_
  refine seqE ?_
  refine .inl (⟨_, _, c_impl_TotalOf p0.Spans, (FzAs.same _), ?_⟩)
  refine litE (m := 2) rfl ?_
  exact leafE hown hg
def impl_HeldBytes_b1 (i1 : Nat) (s1 : Int) (a1 : Trail) : Step (Int) Int :=
  (.next (IntKind.i64.wrap (s1 + (impl_BytesOf a1))))
def impl_HeldBytes (p0 : (List Stripe)) : Int :=
  (Fin.get (fun s1 => s1) (loopL impl_HeldBytes_b1 0 0 (impl_allTrails p0)))
theorem c_impl_HeldBytes (p0 : (List Stripe)) (hs : bdS Stripe.bd 1048576 p0) : FnOk prog 108 [.one (.s false 2 (List.map (Stripe.cells false) p0))] ⟨.one (.v (.int .i64 (impl_HeldBytes p0))), [], [], false⟩ := by
  refine FnOk.intro (E := env) envOk wide func108 rfl (by kernel_rfl) rfl rfl ?_
  have hg := impl_HeldBytes.eq_1 p0
  have hown : ∀ g : Int, AV.Own (AV.one (.v (.int .i64 g))) := fun g => .v _
  refine seqE ?_
  refine seqE ?_
  refine seqE ?_
  refine seqE ?_
  refine .inl (⟨_, _, (FnOk.frz1 rfl (frzMap frz_Trail _) (c_impl_allTrails p0 (by exact hs))), (FzAs.same _), ?_⟩)
  refine litE (m := 1) rfl ?_
  refine lenM fun hN1 => ?_
  refine loopLE hg [7, 8] (fun x1 => [(3, .one (.v (.int .i64 x1.s))), (9, .one (.v (.int .i64 ((x1.i : Nat) : Int))))]) (fun x1 => [.dead]) [none] ?_ (fun x1 => ?_)
  · exact ⟨rfl, ⟨rfl, rfl, rfl, rfl, trivial⟩, trivial, trivial⟩
  refine seqE ?_
  refine seqE ?_
  refine tstL (fun hi1 => ?_) (fun hi1 => ?_)
  · have hb1 := (x1.bdy hi1).trans (impl_HeldBytes_b1.eq_1 ..)
    have hw1 := wrap_succ hi1 (by first | assumption | omega)
    refine seqE ?_
    refine seqE ?_
    refine idxAt hi1 ?_
    refine litE (m := 1) rfl ?_
    refine .inl (⟨_, _, c_impl_BytesOf ((impl_allTrails p0)[x1.i]'hi1), (FzAs.same _), ?_⟩)
    refine litE (m := 3) rfl ?_
    exact x1.goE hi1 hb1 [none] ⟨rfl, ⟨rfl, (eqInt hw1), rfl, rfl, trivial⟩, trivial, trivial⟩
  have hg := finE hg (x1.fin hi1)
  refine seqE ?_
  exact leafE hown hg
end Go.Proofs.Tryz.Ev
