import Derived.Test.YtjimlpgolbejnaaGreatLSettledWalkB
set_option linter.unusedSectionVars false

namespace Go.Proofs.Tryz.Ev
open Go Go.Ev Go.Proofs
set_option maxHeartbeats 4000000
set_option maxRecDepth 100000
set_option linter.unusedSimpArgs false
set_option linter.unusedVariables false
set_option linter.unusedSectionVars false
def impl_ItemOk (p0 : Item) : Bool :=
  (bif (decide (p0.Stamp ≥ 1)) then (impl_SpanOk p0.S) else false)
theorem c_impl_ItemOk (p0 : Item) : FnOk prog 147 [.agg ((Item.cells false) p0)] ⟨.one (.v (.bool (impl_ItemOk p0))), [], [], false⟩ := by
  refine FnOk.intro (E := env) envOk wide func147 rfl (by kernel_rfl) rfl rfl ?_
  have hg := impl_ItemOk.eq_1 p0
  have hown : ∀ g : Bool, AV.Own (AV.one (.v (.bool g))) := fun g => .v _
  refine seqE ?_
  refine litE (m := 0) rfl ?_
  refine seqE ?_
  refine brD hg (fun hg h1 => ?_) (fun hg h1 => leafE hown hg)
  refine .inl (⟨_, _, c_impl_SpanOk p0.S, (FzAs.same _), ?_⟩)
  refine litE (m := 2) rfl ?_
  exact leafE hown hg
def impl_itemsOk_1 (p0 : Item) : Bool :=
  (!(impl_ItemOk p0))
theorem c_impl_itemsOk_1 (p0 : Item) : FnOk prog 146 [.agg ((Item.cells false) p0)] ⟨.one (.v (.bool (impl_itemsOk_1 p0))), [], [], false⟩ := by
  refine FnOk.intro (E := env) envOk wide func146 rfl (by kernel_rfl) rfl rfl ?_
  have hg := impl_itemsOk_1.eq_1 p0
  have hown : ∀ g : Bool, AV.Own (AV.one (.v (.bool g))) := fun g => .v _
  refine seqE ?_
  refine litE (m := 0) rfl ?_
  refine seqE ?_
  refine .inl (⟨_, _, c_impl_ItemOk p0, (FzAs.same _), ?_⟩)
  refine litE (m := 2) rfl ?_
  exact leafE hown hg
def slices_IndexFunc_SItem_Item_c_impl_itemsOk_1_b1 (i1 : Nat) (s1 : Unit) (a1 : Item) : Step (Unit) Int :=
  (bif (impl_itemsOk_1 a1) then (.done ((i1 : Nat) : Int)) else (.next ()))
def slices_IndexFunc_SItem_Item_c_impl_itemsOk_1 (p0 : (List Item)) : Int :=
  (Fin.get (fun s1 => (-1)) (loopL slices_IndexFunc_SItem_Item_c_impl_itemsOk_1_b1 0 () p0))
theorem c_slices_IndexFunc_SItem_Item_c_impl_itemsOk_1 (p0 : (List Item)) : FnOk prog 172 [.one (.s false 7 (List.map (Item.cells false) p0)), .one (.c 146 [])] ⟨.one (.v (.int .i64 (slices_IndexFunc_SItem_Item_c_impl_itemsOk_1 p0))), [], [], false⟩ := by
  refine FnOk.intro (E := env) envOk wide func172 rfl (by kernel_rfl) rfl rfl ?_
  have hg := slices_IndexFunc_SItem_Item_c_impl_itemsOk_1.eq_1 p0
  have hown : ∀ g : Int, AV.Own (AV.one (.v (.int .i64 g))) := fun g => .v _
  refine seqE ?_
  refine seqE ?_
  refine seqE ?_
  refine lenM fun hN1 => ?_
  refine loopLE hg [0, 1, 7] (fun x1 => [(8, .one (.v (.int .i64 ((x1.i : Nat) : Int))))]) (fun x1 => []) [] ?_ (fun x1 => ?_)
  · exact ⟨rfl, ⟨rfl, rfl, ⟨rfl, trivial⟩, rfl, trivial⟩, trivial, trivial⟩
  refine seqE ?_
  refine seqE ?_
  refine tstL (fun hi1 => ?_) (fun hi1 => ?_)
  · have hb1 := (x1.bdy hi1).trans (slices_IndexFunc_SItem_Item_c_impl_itemsOk_1_b1.eq_1 ..)
    have hw1 := wrap_succ hi1 (by first | assumption | omega)
    refine seqE ?_
    refine seqE ?_
    refine seqE ?_
    refine idxAt hi1 ?_
    refine .inl (⟨_, _, c_impl_itemsOk_1 (p0[x1.i]'hi1), (FzAs.same _), ?_⟩)
    refine litE (m := 1) rfl ?_
    refine brE hb1 (fun hb1 h2 => ?_) (fun hb1 h2 => x1.goE hi1 hb1 [] ⟨rfl, ⟨(eqInt hw1), rfl, ⟨rfl, trivial⟩, rfl, trivial⟩, trivial, trivial⟩)
    refine seqE ?_
    have hg := donE hg (x1.outD hi1 hb1)
    exact leafE hown hg
  have hg := finE hg (x1.fin hi1)
  refine seqE ?_
  exact leafE hown hg
def slices_ContainsFunc_SItem_Item_c_impl_itemsOk_1 (p0 : (List Item)) : Bool :=
  (decide ((slices_IndexFunc_SItem_Item_c_impl_itemsOk_1 p0) ≥ 0))
theorem c_slices_ContainsFunc_SItem_Item_c_impl_itemsOk_1 (p0 : (List Item)) : FnOk prog 145 [.one (.s false 7 (List.map (Item.cells false) p0)), .one (.c 146 [])] ⟨.one (.v (.bool (slices_ContainsFunc_SItem_Item_c_impl_itemsOk_1 p0))), [], [], false⟩ := by
  refine FnOk.intro (E := env) envOk wide func145 rfl (by kernel_rfl) rfl rfl ?_
  have hg := slices_ContainsFunc_SItem_Item_c_impl_itemsOk_1.eq_1 p0
  have hown : ∀ g : Bool, AV.Own (AV.one (.v (.bool g))) := fun g => .v _
  refine seqE ?_
  refine seqE ?_
  refine .inl (⟨_, _, c_slices_IndexFunc_SItem_Item_c_impl_itemsOk_1 p0, (FzAs.same _), ?_⟩)
  refine litE (m := 1) rfl ?_
  exact leafE hown hg
def impl_itemsOk (p0 : (List Item)) : Bool :=
  (!(slices_ContainsFunc_SItem_Item_c_impl_itemsOk_1 p0))
theorem c_impl_itemsOk (p0 : (List Item)) : FnOk prog 109 [.one (.s false 7 (List.map (Item.cells false) p0))] ⟨.one (.v (.bool (impl_itemsOk p0))), [], [], false⟩ := by
  refine FnOk.intro (E := env) envOk wide func109 rfl (by kernel_rfl) rfl rfl ?_
  have hg := impl_itemsOk.eq_1 p0
  have hown : ∀ g : Bool, AV.Own (AV.one (.v (.bool g))) := fun g => .v _
  refine seqE ?_
  refine seqE ?_
  refine .inl (⟨_, _, c_slices_ContainsFunc_SItem_Item_c_impl_itemsOk_1 p0, (FzAs.same _), ?_⟩)
  refine litE (m := 1) rfl ?_
  exact leafE hown hg
def impl_DeedOk_j2 (p0 : Deed) : Step (Bool) (Step (Unit) Bool) :=
  (bif (p0.Op == 1) then (.next (p0.Lin != (-1))) else (.next false))
def impl_DeedOk_j1 (p0 : Deed) : Step (Unit) Bool :=
  (Step.get (fun s2 => (bif s2 then (bif (!(impl_within p0.Code 1 5)) then (.done false) else (.next ())) else (bif (p0.Code != 0) then (.done false) else (.next ())))) (impl_DeedOk_j2 p0))
def impl_DeedOk (p0 : Deed) : Bool :=
  (bif (!(impl_within p0.Op 1 4)) then false else (bif (decide (p0.Inv < 0)) then false else (bif (decide ((min (min (min p0.Took p0.N) p0.Forgot) p0.Now) < 0)) then false else (Step.get (fun s1 => (bif (p0.Lin == (-1)) then (bif (p0.Res == (-1)) then true else (bif (p0.Lin != (-1)) then (decide (p0.Res ≥ p0.Lin)) else false)) else (bif (decide (p0.Lin ≥ p0.Inv)) then (bif (p0.Res == (-1)) then true else (bif (p0.Lin != (-1)) then (decide (p0.Res ≥ p0.Lin)) else false)) else false))) (impl_DeedOk_j1 p0)))))
theorem c_impl_DeedOk (p0 : Deed) : FnOk prog 110 [.agg ((Deed.cells false) p0)] ⟨.one (.v (.bool (impl_DeedOk p0))), [], [], false⟩ := by
  refine FnOk.intro (E := env) envOk wide func110 rfl (by kernel_rfl) rfl rfl ?_
  have hg := impl_DeedOk.eq_1 p0
  have hown : ∀ g : Bool, AV.Own (AV.one (.v (.bool g))) := fun g => .v _
  refine seqE ?_
  refine litE (m := 0) rfl ?_
  refine seqE ?_
  refine seqE ?_
  refine .inl (⟨_, _, c_impl_within p0.Op 1 4, (FzAs.same _), ?_⟩)
  refine litE (m := 2) rfl ?_
  refine brF hg (fun hg h1 => ?_) (fun hg h1 => ?_)
  · refine brDF hg (fun hg h2 => ?_) (fun hg h2 => ?_)
    · refine brD hg (fun hg h3 => ?_) (fun hg h3 => ?_)
      · refine seqE ?_
        exact leafE hown hg
      · refine joinE hg [1] (fun x1 => []) (fun x1 => [.keep 0, .dead, .dead]) (fun hb1 => ?_) (fun x1 hg => ?_)
        · have hb1 := hb1.trans (impl_DeedOk_j1.eq_1 ..)
          refine joinE hb1 [1] (fun x2 => [(31, .one (.v (.bool x2.s)))]) (fun x2 => [.keep 0, .dead]) (fun hb2 => ?_) (fun x2 hb1 => ?_)
          · have hb2 := hb2.trans (impl_DeedOk_j2.eq_1 ..)
            exact brQ hb2 (fun hb2 h4 => .inl ⟨⟨_, hb2⟩, [some 0, none], ⟨rfl, ⟨rfl, ⟨rfl, rfl, rfl, rfl⟩, trivial⟩, ⟨⟨rfl, rfl, ⟨rfl, rfl, rfl, rfl, rfl, rfl, rfl, rfl, rfl, rfl, rfl, rfl, rfl, rfl, rfl, rfl, rfl, rfl, rfl, rfl, trivial⟩⟩, trivial⟩, trivial⟩⟩) (fun hb2 h4 => .inl ⟨⟨_, hb2⟩, [some 0, none], ⟨rfl, ⟨rfl, ⟨rfl, rfl, rfl, rfl⟩, trivial⟩, ⟨⟨rfl, rfl, ⟨rfl, rfl, rfl, rfl, rfl, rfl, rfl, rfl, rfl, rfl, rfl, rfl, rfl, rfl, rfl, rfl, rfl, rfl, rfl, rfl, trivial⟩⟩, trivial⟩, trivial⟩⟩)
          refine brE hb1 (fun hb1 h5 => ?_) (fun hb1 h5 => ?_)
          · refine seqE ?_
            refine .inl (⟨_, _, c_impl_within p0.Code 1 5, (FzAs.same _), ?_⟩)
            refine litE (m := 3) rfl ?_
            refine brE hb1 (fun hb1 h6 => ?_) (fun hb1 h6 => .inl ⟨⟨_, hb1⟩, [some 0, none, none], ⟨rfl, ⟨⟨rfl, rfl, rfl, rfl⟩, trivial⟩, ⟨⟨rfl, rfl, ⟨rfl, rfl, rfl, rfl, rfl, rfl, rfl, rfl, rfl, rfl, rfl, rfl, rfl, rfl, rfl, rfl, rfl, rfl, rfl, rfl, trivial⟩⟩, trivial⟩, trivial⟩⟩)
            refine seqE ?_
            have hg := getD hg hb1
            exact leafE hown hg
          · refine seqE ?_
            refine brW hb1 (fun hb1 h7 => ?_) (fun hb1 h7 => .inl ⟨⟨_, hb1⟩, [some 0, none, none], ⟨rfl, ⟨⟨rfl, rfl, rfl, rfl⟩, trivial⟩, ⟨⟨rfl, rfl, ⟨rfl, rfl, rfl, rfl, rfl, rfl, rfl, rfl, rfl, rfl, rfl, rfl, rfl, rfl, rfl, rfl, rfl, rfl, rfl, rfl, trivial⟩⟩, trivial⟩, trivial⟩⟩)
            refine seqE ?_
            have hg := getD hg hb1
            exact leafE hown hg
        refine seqE ?_
        exact brQF hg (fun hg h8 => brD hg (fun hg h11 => brQF hg (fun hg h12 => brW hg (fun hg h13 => leafE hown hg) (fun hg h13 => leafE hown hg)) (fun hg h12 => leafE hown hg)) (fun hg h11 => leafE hown hg)) (fun hg h8 => brQF hg (fun hg h9 => brW hg (fun hg h10 => leafE hown hg) (fun hg h10 => leafE hown hg)) (fun hg h9 => leafE hown hg))
    · refine seqE ?_
      exact leafE hown hg
  · refine seqE ?_
    exact leafE hown hg
def impl_valuesOk_j1 (p0 : World) : Step (Unit) Bool :=
  (bif (!(impl_WheelOk p0.W)) then (.done false) else (bif (decide (p0.W.Now > 100000)) then (.done false) else (bif p0.Shut then (bif (decide (((((impl_Timers p0.W)).length : Nat) : Int) > 0)) then (.done false) else (bif (!(impl_BucketOk p0.B)) then (.done false) else (bif (p0.B.Rate != p0.C.Rate) then (.done false) else (bif (p0.B.Burst != p0.C.Burst) then (.done false) else (.next ()))))) else (bif (!(impl_BucketOk p0.B)) then (.done false) else (bif (p0.B.Rate != p0.C.Rate) then (.done false) else (bif (p0.B.Burst != p0.C.Burst) then (.done false) else (.next ())))))))
def impl_valuesOk_b3 (p0 : World) (i3 : Nat) (s3 : Unit) (a3 : Deed) : Step (Unit) Bool :=
  (bif (!(impl_DeedOk a3)) then (.done false) else (bif (decide ((max (max a3.Inv a3.Lin) a3.Res) ≥ p0.Time)) then (.done false) else (.next ())))
def impl_valuesOk_b2 (i2 : Nat) (s2 : Unit) (a2 : Timer) : Step (Unit) Bool :=
  (bif (decide (a2.Id < 1)) then (.done false) else (bif (!(impl_within a2.Trace 1 999)) then (.done false) else (.next ())))
def impl_valuesOk (p0 : World) : Bool :=
  (bif (!(impl_ConfOk p0.C)) then false else (bif (decide (p0.Time < 0)) then false else (bif (!(impl_within p0.RuleHeld (-1) 4)) then false else (bif (decide (p0.Next < 1)) then false else (bif (!(impl_StripesOk p0.St)) then false else (bif ((((p0.St).length : Nat) : Int) != p0.C.Stripes) then false else (Step.get (fun s1 => (bif (decide (p0.B.At > p0.W.Now)) then false else (bif (!(impl_CacheOk p0.Cache p0.C.Cache)) then false else (bif (p0.Used != (impl_HeldBytes p0.St)) then false else (bif (decide (p0.Used > p0.C.Budget)) then false else (bif (decide ((((p0.Queue).length : Nat) : Int) > p0.C.Queue)) then false else (bif (!(impl_itemsOk p0.Queue)) then false else (bif (!(impl_itemsOk p0.Out)) then false else (Fin.get (fun s2 => (Fin.get (fun s3 => true) (loopL (impl_valuesOk_b3 p0) 0 () p0.Deeds))) (loopL impl_valuesOk_b2 0 () p0.Due)))))))))) (impl_valuesOk_j1 p0))))))))
theorem c_impl_valuesOk (p0 : World) (hs : World.bd 1048576 p0) : FnOk prog 69 [.agg ((World.cells false) p0)] ⟨.one (.v (.bool (impl_valuesOk p0))), [], [], false⟩ := by
  refine FnOk.intro (E := env) envOk wide func69 rfl (by kernel_rfl) rfl rfl ?_
  have hg := impl_valuesOk.eq_1 p0
  have hown : ∀ g : Bool, AV.Own (AV.one (.v (.bool g))) := fun g => .v _
  refine seqE ?_
  refine litE (m := 0) rfl ?_
  refine seqE ?_
  refine seqE ?_
  refine .inl (⟨_, _, c_impl_ConfOk p0.C, (FzAs.same _), ?_⟩)
  refine litE (m := 2) rfl ?_
  refine brF hg (fun hg h1 => ?_) (fun hg h1 => ?_)
  · refine brDF hg (fun hg h2 => ?_) (fun hg h2 => ?_)
    · refine .inl (⟨_, _, c_impl_within p0.RuleHeld (-1) 4, (FzAs.same _), ?_⟩)
      refine litE (m := 3) rfl ?_
      refine brF hg (fun hg h3 => ?_) (fun hg h3 => ?_)
      · refine brDF hg (fun hg h4 => ?_) (fun hg h4 => ?_)
        · refine .inl (⟨_, _, c_impl_StripesOk p0.St (by first | exact hs | exact hs.2.1 | exact hs.2.2.2.1 | exact trivial), (FzAs.same _), ?_⟩)
          refine litE (m := 4) rfl ?_
          refine brF hg (fun hg h5 => ?_) (fun hg h5 => ?_)
          · refine lenM fun hN6 => ?_
            refine brW hg (fun hg h7 => ?_) (fun hg h7 => ?_)
            · refine seqE ?_
              exact leafE hown hg
            · refine seqE ?_
              refine joinE hg [1] (fun x1 => [(95, .one (.v (.bool (decide (p0.B.At > p0.W.Now)))))]) (fun x1 => [.keep 0, .dead, .dead, .dead, .dead, .dead, .dead, .dead]) (fun hb1 => ?_) (fun x1 hg => ?_)
              · have hb1 := hb1.trans (impl_valuesOk_j1.eq_1 ..)
                refine .inl (⟨_, _, c_impl_WheelOk p0.W (by first | exact hs | exact hs.2.1 | exact hs.2.2.2.1 | exact trivial), (FzAs.same _), ?_⟩)
                refine litE (m := 5) rfl ?_
                refine brF hb1 (fun hb1 h8 => ?_) (fun hb1 h8 => ?_)
                · refine brDF hb1 (fun hb1 h9 => ?_) (fun hb1 h9 => ?_)
                  · refine brE hb1 (fun hb1 h10 => ?_) (fun hb1 h10 => ?_)
                    · refine .inl (⟨_, _, c_impl_Timers p0.W (by first | exact hs | exact hs.2.1 | exact hs.2.2.2.1 | exact trivial), (FzAs.same _), ?_⟩)
                      refine litE (m := 6) rfl ?_
                      refine lenE (k := ((impl_Timers p0.W)).length) (by simp) (fun hN11 => ?_)
                      refine brDF hb1 (fun hb1 h12 => ?_) (fun hb1 h12 => ?_)
                      · refine .inl (⟨_, _, c_impl_BucketOk p0.B, (FzAs.same _), ?_⟩)
                        refine litE (m := 8) rfl ?_
                        refine brF hb1 (fun hb1 h13 => ?_) (fun hb1 h13 => ?_)
                        · refine brWF hb1 (fun hb1 h14 => ?_) (fun hb1 h14 => ?_)
                          · refine brWF hb1 (fun hb1 h15 => .inl ⟨⟨_, hb1⟩, [some 0, none, none, none, none, none, none, none], ⟨rfl, ⟨rfl, ⟨rfl, rfl, rfl, rfl⟩, trivial⟩, ⟨⟨rfl, rfl, ⟨rfl, rfl, rfl, rfl, rfl, rfl, rfl, rfl, rfl, rfl, rfl, rfl, rfl, rfl, rfl, rfl, rfl, rfl, rfl, rfl, rfl, rfl, rfl, rfl, rfl, rfl, rfl, rfl, rfl, rfl, rfl, rfl, trivial⟩⟩, trivial⟩, trivial⟩⟩) (fun hb1 h15 => ?_)
                            refine .inr ?_
                            have hg := getD hg hb1
                            refine seqE ?_
                            exact leafE hown hg
                          · refine .inr ?_
                            have hg := getD hg hb1
                            refine seqE ?_
                            exact leafE hown hg
                        · refine .inr ?_
                          have hg := getD hg hb1
                          refine seqE ?_
                          exact leafE hown hg
                      · refine .inr ?_
                        have hg := getD hg hb1
                        refine seqE ?_
                        exact leafE hown hg
                    · refine .inl (⟨_, _, c_impl_BucketOk p0.B, (FzAs.same _), ?_⟩)
                      refine litE (m := 6) rfl ?_
                      refine brF hb1 (fun hb1 h16 => ?_) (fun hb1 h16 => ?_)
                      · refine brWF hb1 (fun hb1 h17 => ?_) (fun hb1 h17 => ?_)
                        · refine brWF hb1 (fun hb1 h18 => .inl ⟨⟨_, hb1⟩, [some 0, none, none, none, none, none, none, none], ⟨rfl, ⟨rfl, ⟨rfl, rfl, rfl, rfl⟩, trivial⟩, ⟨⟨rfl, rfl, ⟨rfl, rfl, rfl, rfl, rfl, rfl, rfl, rfl, rfl, rfl, rfl, rfl, rfl, rfl, rfl, rfl, rfl, rfl, rfl, rfl, rfl, rfl, rfl, rfl, rfl, rfl, rfl, rfl, rfl, rfl, rfl, rfl, trivial⟩⟩, trivial⟩, trivial⟩⟩) (fun hb1 h18 => ?_)
                          refine .inr ?_
                          have hg := getD hg hb1
                          refine seqE ?_
                          exact leafE hown hg
                        · refine .inr ?_
                          have hg := getD hg hb1
                          refine seqE ?_
                          exact leafE hown hg
                      · refine .inr ?_
                        have hg := getD hg hb1
                        refine seqE ?_
                        exact leafE hown hg
                  · refine .inr ?_
                    have hg := getD hg hb1
                    refine seqE ?_
                    exact leafE hown hg
                · refine .inr ?_
                  have hg := getD hg hb1
                  refine seqE ?_
                  exact leafE hown hg
              refine brD hg (fun hg h19 => ?_) (fun hg h19 => ?_)
              · refine seqE ?_
                exact leafE hown hg
              · refine seqE ?_
                refine seqE ?_
                refine .inl ⟨by kernel_rfl, ?_⟩
                refine ⟨_, _, c_impl_CacheOk p0.Cache p0.C.Cache, (FzAs.same _), ?_⟩
                refine brF hg (fun hg h20 => ?_) (fun hg h20 => ?_)
                · refine ⟨_, _, c_impl_HeldBytes p0.St (by first | exact hs | exact hs.2.1 | exact hs.2.2.2.1 | exact trivial), (FzAs.same _), ?_⟩
                  refine brWF hg (fun hg h21 => ?_) (fun hg h21 => ?_)
                  · refine brDF hg (fun hg h22 => ?_) (fun hg h22 => ?_)
                    · refine lenM fun hN23 => ?_
                      refine brDF hg (fun hg h24 => ?_) (fun hg h24 => ?_)
                      · refine ⟨_, _, c_impl_itemsOk p0.Queue, (FzAs.same _), ?_⟩
                        refine brF hg (fun hg h25 => ?_) (fun hg h25 => ?_)
                        · refine ⟨_, _, c_impl_itemsOk p0.Out, (FzAs.same _), ?_⟩
                          refine brE hg (fun hg h26 => ?_) (fun hg h26 => ?_)
                          · refine seqE ?_
                            exact leafE hown hg
                          · refine seqE ?_
                            refine seqE ?_
                            refine lenM fun hN27 => ?_
                            refine loopLE hg [1, 141, 142] (fun x2 => [(143, .one (.v (.int .i64 ((x2.i : Nat) : Int))))]) (fun x2 => [.keep 0, .dead, .dead, .dead, .dead, .dead, .dead, .dead]) [some 0, none, none, none, none, none, none, none] ?_ (fun x2 => ?_)
                            · exact ⟨rfl, ⟨rfl, ⟨rfl, rfl, rfl, rfl⟩, rfl, rfl, trivial⟩, ⟨⟨rfl, rfl, ⟨rfl, rfl, rfl, rfl, rfl, rfl, rfl, rfl, rfl, rfl, rfl, rfl, rfl, rfl, rfl, rfl, rfl, rfl, rfl, rfl, rfl, rfl, rfl, rfl, rfl, rfl, rfl, rfl, rfl, rfl, rfl, rfl, trivial⟩⟩, trivial⟩, trivial⟩
                            refine seqE ?_
                            refine seqE ?_
                            refine tstL (fun hi2 => ?_) (fun hi2 => ?_)
                            · have hb2 := (x2.bdy hi2).trans (impl_valuesOk_b2.eq_1 ..)
                              have hw2 := wrap_succ hi2 (by first | assumption | omega)
                              refine seqE ?_
                              refine seqE ?_
                              refine idxAt hi2 ?_
                              refine litE (m := 8) rfl ?_
                              refine seqE ?_
                              refine brDF hb2 (fun hb2 h28 => ?_) (fun hb2 h28 => ?_)
                              · refine .inl (⟨_, _, c_impl_within (p0.Due[x2.i]'hi2).Trace 1 999, (FzAs.same _), ?_⟩)
                                refine litE (m := 10) rfl ?_
                                refine brE hb2 (fun hb2 h29 => ?_) (fun hb2 h29 => x2.goE hi2 hb2 [some 0, none, none, none, none, none, none, none] ⟨rfl, ⟨(eqInt hw2), ⟨rfl, rfl, rfl, rfl⟩, rfl, rfl, trivial⟩, ⟨⟨rfl, rfl, ⟨rfl, rfl, rfl, rfl, rfl, rfl, rfl, rfl, rfl, rfl, rfl, rfl, rfl, rfl, rfl, rfl, rfl, rfl, rfl, rfl, rfl, rfl, rfl, rfl, rfl, rfl, rfl, rfl, rfl, rfl, rfl, rfl, trivial⟩⟩, trivial⟩, trivial⟩)
                                refine seqE ?_
                                have hg := donE hg (x2.outD hi2 hb2)
                                exact leafE hown hg
                              · refine seqE ?_
                                have hg := donE hg (x2.outD hi2 hb2)
                                exact leafE hown hg
                            have hg := finE hg (x2.fin hi2)
                            refine seqE ?_
                            refine seqE ?_
                            refine lenM fun hN30 => ?_
                            refine loopLE hg [1, 158, 159] (fun x3 => [(160, .one (.v (.int .i64 ((x3.i : Nat) : Int))))]) (fun x3 => [.keep 0, .dead, .dead, .dead, .dead, .dead, .dead, .dead]) [some 0, none, none, none, none, none, none, none] ?_ (fun x3 => ?_)
                            · exact ⟨rfl, ⟨rfl, ⟨rfl, rfl, rfl, rfl⟩, rfl, rfl, trivial⟩, ⟨⟨rfl, rfl, ⟨rfl, rfl, rfl, rfl, rfl, rfl, rfl, rfl, rfl, rfl, rfl, rfl, rfl, rfl, rfl, rfl, rfl, rfl, rfl, rfl, rfl, rfl, rfl, rfl, rfl, rfl, rfl, rfl, rfl, rfl, rfl, rfl, trivial⟩⟩, trivial⟩, trivial⟩
                            refine seqE ?_
                            refine seqE ?_
                            refine tstL (fun hi3 => ?_) (fun hi3 => ?_)
                            · have hb3 := (x3.bdy hi3).trans (impl_valuesOk_b3.eq_1 ..)
                              have hw3 := wrap_succ hi3 (by first | assumption | omega)
                              refine seqE ?_
                              refine seqE ?_
                              refine idxAt hi3 ?_
                              refine litE (m := 8) rfl ?_
                              refine seqE ?_
                              refine .inl (⟨_, _, c_impl_DeedOk (p0.Deeds[x3.i]'hi3), (FzAs.same _), ?_⟩)
                              refine litE (m := 10) rfl ?_
                              refine brF hb3 (fun hb3 h31 => ?_) (fun hb3 h31 => ?_)
                              · refine brD hb3 (fun hb3 h32 => ?_) (fun hb3 h32 => x3.goE hi3 hb3 [some 0, none, none, none, none, none, none, none] ⟨rfl, ⟨(eqInt hw3), ⟨rfl, rfl, rfl, rfl⟩, rfl, rfl, trivial⟩, ⟨⟨rfl, rfl, ⟨rfl, rfl, rfl, rfl, rfl, rfl, rfl, rfl, rfl, rfl, rfl, rfl, rfl, rfl, rfl, rfl, rfl, rfl, rfl, rfl, rfl, rfl, rfl, rfl, rfl, rfl, rfl, rfl, rfl, rfl, rfl, rfl, trivial⟩⟩, trivial⟩, trivial⟩)
                                refine seqE ?_
                                have hg := donE hg (x3.outD hi3 hb3)
                                exact leafE hown hg
                              · refine seqE ?_
                                have hg := donE hg (x3.outD hi3 hb3)
                                exact leafE hown hg
                            have hg := finE hg (x3.fin hi3)
                            refine seqE ?_
                            exact leafE hown hg
                        · refine seqE ?_
                          exact leafE hown hg
                      · refine seqE ?_
                        exact leafE hown hg
                    · refine seqE ?_
                      exact leafE hown hg
                  · refine seqE ?_
                    exact leafE hown hg
                · refine seqE ?_
                  exact leafE hown hg
          · refine seqE ?_
            exact leafE hown hg
        · refine seqE ?_
          exact leafE hown hg
      · refine seqE ?_
        exact leafE hown hg
    · refine seqE ?_
      exact leafE hown hg
  · refine seqE ?_
    exact leafE hown hg
def slices_Equal_SAttr_Attr_b1 (p1 : (List Attr)) (i1 : Nat) (s1 : Unit) (a1 : Attr) : Step (Unit) Bool :=
  (bif (!((decide (a1.Key = (p1[i1]?.getD default).Key)) && ((a1.Num == (p1[i1]?.getD default).Num) && ((a1.N == (p1[i1]?.getD default).N) && ((decide (a1.Text = (p1[i1]?.getD default).Text)) && true))))) then (.done false) else (.next ()))
def slices_Equal_SAttr_Attr (p0 : (List Attr)) (p1 : (List Attr)) : Bool :=
  (bif ((((p0).length : Nat) : Int) != (((p1).length : Nat) : Int)) then false else (Fin.get (fun s1 => true) (loopL (slices_Equal_SAttr_Attr_b1 p1) 0 () p0)))
theorem c_slices_Equal_SAttr_Attr (p0 : (List Attr)) (p1 : (List Attr)) : FnOk prog 177 [.one (.s false 4 (List.map Attr.cells p0)), .one (.s false 4 (List.map Attr.cells p1))] ⟨.one (.v (.bool (slices_Equal_SAttr_Attr p0 p1))), [], [], false⟩ := by
  refine FnOk.intro (E := env) envOk wide func177 rfl (by kernel_rfl) rfl rfl ?_
  have hg := slices_Equal_SAttr_Attr.eq_1 p0 p1
  have hown : ∀ g : Bool, AV.Own (AV.one (.v (.bool g))) := fun g => .v _
  refine seqE ?_
  refine seqE ?_
  refine seqE ?_
  refine lenM fun hN1 => ?_
  refine lenM fun hN2 => ?_
  refine brW hg (fun hg h3 => ?_) (fun hg h3 => ?_)
  · refine seqE ?_
    exact leafE hown hg
  · refine seqE ?_
    refine seqE ?_
    refine lenM fun hN4 => ?_
    refine loopLE hg [0, 1, 12] (fun x1 => [(13, .one (.v (.int .i64 ((x1.i : Nat) : Int))))]) (fun x1 => []) [] ?_ (fun x1 => ?_)
    · exact ⟨rfl, ⟨rfl, rfl, rfl, rfl, trivial⟩, trivial, trivial⟩
    refine seqE ?_
    refine seqE ?_
    refine tstL (fun hi1 => ?_) (fun hi1 => ?_)
    · have hb1 := (x1.bdy hi1).trans (slices_Equal_SAttr_Attr_b1.eq_1 ..)
      have hw1 := wrap_succ hi1 (by first | assumption | omega)
      refine seqE ?_
      refine seqE ?_
      refine seqE ?_
      refine .inl ⟨by kernel_rfl, ?_⟩
      refine idxAt hi1 ?_
      refine idxOf (l := p1) (by (first | omega | (simp (disch := omega) only [wrap_small, mid_eq, List.length_map]; omega) | (simp; done) | (simp; omega) | (simp at *; omega) | (simp at *; done) | (simp_all; done) | (simp_all; omega))) (fun hq5 => ?_)
      refine brE hb1 (fun hb1 h6 => ?_) (fun hb1 h6 => x1.goE hi1 hb1 [] ⟨rfl, ⟨(eqInt hw1), rfl, rfl, rfl, trivial⟩, trivial, trivial⟩)
      refine seqE ?_
      have hg := donE hg (x1.outD hi1 hb1)
      exact leafE hown hg
    have hg := finE hg (x1.fin hi1)
    refine seqE ?_
    exact leafE hown hg
def impl_SameSpan (p0 : Span) (p1 : Span) : Bool :=
  (bif (p0.Trace == p1.Trace) then (bif (p0.Id == p1.Id) then (bif (p0.Start == p1.Start) then (bif (p0.End == p1.End) then (bif (p0.Err == p1.Err) then (slices_Equal_SAttr_Attr p0.Attrs p1.Attrs) else false) else false) else false) else false) else false)
theorem c_impl_SameSpan (p0 : Span) (p1 : Span) : FnOk prog 150 [.agg ((Span.cells false) p0), .agg ((Span.cells false) p1)] ⟨.one (.v (.bool (impl_SameSpan p0 p1))), [], [], false⟩ := by
  refine FnOk.intro (E := env) envOk wide func150 rfl (by kernel_rfl) rfl rfl ?_
  have hg := impl_SameSpan.eq_1 p0 p1
  have hown : ∀ g : Bool, AV.Own (AV.one (.v (.bool g))) := fun g => .v _
  refine seqE ?_
  refine litE (m := 0) rfl ?_
  refine litE (m := 1) rfl ?_
  refine seqE ?_
  refine brQ hg (fun hg h1 => ?_) (fun hg h1 => leafE hown hg)
  refine brQ hg (fun hg h2 => ?_) (fun hg h2 => leafE hown hg)
  refine brQ hg (fun hg h3 => ?_) (fun hg h3 => leafE hown hg)
  refine brQ hg (fun hg h4 => ?_) (fun hg h4 => leafE hown hg)
  refine brE hg (fun hg h5 => ?_) (fun hg h5 => leafE hown hg)
  refine .inl (⟨_, _, c_slices_Equal_SAttr_Attr p0.Attrs p1.Attrs, (FzAs.same _), ?_⟩)
  refine litE (m := 3) rfl ?_
  exact leafE hown hg
def impl_SameItem (p0 : Item) (p1 : Item) : Bool :=
  (bif (p0.Stamp == p1.Stamp) then (impl_SameSpan p0.S p1.S) else false)
theorem c_impl_SameItem (p0 : Item) (p1 : Item) : FnOk prog 174 [.agg ((Item.cells false) p0), .agg ((Item.cells false) p1)] ⟨.one (.v (.bool (impl_SameItem p0 p1))), [], [], false⟩ := by
  refine FnOk.intro (E := env) envOk wide func174 rfl (by kernel_rfl) rfl rfl ?_
  have hg := impl_SameItem.eq_1 p0 p1
  have hown : ∀ g : Bool, AV.Own (AV.one (.v (.bool g))) := fun g => .v _
  refine seqE ?_
  refine litE (m := 0) rfl ?_
  refine litE (m := 1) rfl ?_
  refine seqE ?_
  refine brQ hg (fun hg h1 => ?_) (fun hg h1 => leafE hown hg)
  refine .inl (⟨_, _, c_impl_SameSpan p0.S p1.S, (FzAs.same _), ?_⟩)
  refine litE (m := 3) rfl ?_
  exact leafE hown hg
def slices_EqualFunc_SItem_SItem_Item_Item_c_impl_SameItem_b1 (p1 : (List Item)) (i1 : Nat) (s1 : Unit) (a1 : Item) : Step (Unit) Bool :=
  (bif (!(impl_SameItem a1 (p1[i1]?.getD default))) then (.done false) else (.next ()))
def slices_EqualFunc_SItem_SItem_Item_Item_c_impl_SameItem (p0 : (List Item)) (p1 : (List Item)) : Bool :=
  (bif ((((p0).length : Nat) : Int) != (((p1).length : Nat) : Int)) then false else (Fin.get (fun s1 => true) (loopL (slices_EqualFunc_SItem_SItem_Item_Item_c_impl_SameItem_b1 p1) 0 () p0)))
theorem c_slices_EqualFunc_SItem_SItem_Item_Item_c_impl_SameItem (p0 : (List Item)) (p1 : (List Item)) : FnOk prog 173 [.one (.s false 7 (List.map (Item.cells false) p0)), .one (.s false 7 (List.map (Item.cells false) p1)), .one (.c 174 [])] ⟨.one (.v (.bool (slices_EqualFunc_SItem_SItem_Item_Item_c_impl_SameItem p0 p1))), [], [], false⟩ := by
  refine FnOk.intro (E := env) envOk wide func173 rfl (by kernel_rfl) rfl rfl ?_
  have hg := slices_EqualFunc_SItem_SItem_Item_Item_c_impl_SameItem.eq_1 p0 p1
  have hown : ∀ g : Bool, AV.Own (AV.one (.v (.bool g))) := fun g => .v _
  refine seqE ?_
  refine seqE ?_
  refine seqE ?_
  refine lenM fun hN1 => ?_
  refine lenM fun hN2 => ?_
  refine brW hg (fun hg h3 => ?_) (fun hg h3 => ?_)
  · refine seqE ?_
    exact leafE hown hg
  · refine seqE ?_
    refine seqE ?_
    refine lenM fun hN4 => ?_
    refine loopLE hg [1, 2, 15, 16] (fun x1 => [(17, .one (.v (.int .i64 ((x1.i : Nat) : Int))))]) (fun x1 => []) [] ?_ (fun x1 => ?_)
    · exact ⟨rfl, ⟨rfl, rfl, ⟨rfl, trivial⟩, rfl, rfl, trivial⟩, trivial, trivial⟩
    refine seqE ?_
    refine seqE ?_
    refine tstL (fun hi1 => ?_) (fun hi1 => ?_)
    · have hb1 := (x1.bdy hi1).trans (slices_EqualFunc_SItem_SItem_Item_Item_c_impl_SameItem_b1.eq_1 ..)
      have hw1 := wrap_succ hi1 (by first | assumption | omega)
      refine seqE ?_
      refine seqE ?_
      refine idxAt hi1 ?_
      refine litE (m := 0) rfl ?_
      refine seqE ?_
      refine idxOf (l := p1) (by (first | omega | (simp (disch := omega) only [wrap_small, mid_eq, List.length_map]; omega) | (simp; done) | (simp; omega) | (simp at *; omega) | (simp at *; done) | (simp_all; done) | (simp_all; omega))) (fun hq5 => ?_)
      refine litE (m := 1) rfl ?_
      refine seqE ?_
      refine .inl (⟨_, _, c_impl_SameItem (p0[x1.i]'hi1) (p1[x1.i]?.getD default), (FzAs.same _), ?_⟩)
      refine litE (m := 3) rfl ?_
      refine brE hb1 (fun hb1 h6 => ?_) (fun hb1 h6 => x1.goE hi1 hb1 [] ⟨rfl, ⟨(eqInt hw1), rfl, ⟨rfl, trivial⟩, rfl, rfl, trivial⟩, trivial, trivial⟩)
      refine seqE ?_
      have hg := donE hg (x1.outD hi1 hb1)
      exact leafE hown hg
    have hg := finE hg (x1.fin hi1)
    refine seqE ?_
    exact leafE hown hg
def impl_sameTask (p0 : Task) (p1 : Task) : Bool :=
  (bif (p0.Op == p1.Op) then (bif (p0.Pc == p1.Pc) then (bif (impl_SameSpan p0.S p1.S) then (bif (p0.Trace == p1.Trace) then (bif (p0.Stamp == p1.Stamp) then (bif (slices_EqualFunc_SItem_SItem_Item_Item_c_impl_SameItem p0.Hand p1.Hand) then (p0.H == p1.H) else false) else false) else false) else false) else false) else false)
theorem c_impl_sameTask (p0 : Task) (p1 : Task) : FnOk prog 148 [.agg ((Task.cells false) p0), .agg ((Task.cells false) p1)] ⟨.one (.v (.bool (impl_sameTask p0 p1))), [], [], false⟩ := by
  refine FnOk.intro (E := env) envOk wide func148 rfl (by kernel_rfl) rfl rfl ?_
  have hg := impl_sameTask.eq_1 p0 p1
  have hown : ∀ g : Bool, AV.Own (AV.one (.v (.bool g))) := fun g => .v _
  refine seqE ?_
  refine litE (m := 0) rfl ?_
  refine litE (m := 1) rfl ?_
  refine seqE ?_
  refine brQ hg (fun hg h1 => ?_) (fun hg h1 => leafE hown hg)
  refine brQ hg (fun hg h2 => ?_) (fun hg h2 => leafE hown hg)
  refine .inl (⟨_, _, c_impl_SameSpan p0.S p1.S, (FzAs.same _), ?_⟩)
  refine litE (m := 3) rfl ?_
  refine brE hg (fun hg h3 => ?_) (fun hg h3 => leafE hown hg)
  refine brQ hg (fun hg h4 => ?_) (fun hg h4 => leafE hown hg)
  refine brQ hg (fun hg h5 => ?_) (fun hg h5 => leafE hown hg)
  refine .inl (⟨_, _, c_slices_EqualFunc_SItem_SItem_Item_Item_c_impl_SameItem p0.Hand p1.Hand, (FzAs.same _), ?_⟩)
  refine litE (m := 4) rfl ?_
  exact brE hg (fun hg h6 => leafE hown hg) (fun hg h6 => leafE hown hg)
def impl_handOk_b1 (p0 : Task) (i1 : Nat) (s1 : Unit) (a1 : Item) : Step (Unit) Bool :=
  (bif (!(impl_ItemOk a1)) then (.done false) else (bif (a1.Stamp != p0.Stamp) then (.done false) else (.next ())))
def impl_handOk (p0 : Task) : Bool :=
  (Fin.get (fun s1 => ((p0.Pc == 3) == (decide ((((p0.Hand).length : Nat) : Int) > 0)))) (loopL (impl_handOk_b1 p0) 0 () p0.Hand))
theorem c_impl_handOk (p0 : Task) : FnOk prog 151 [.agg ((Task.cells false) p0)] ⟨.one (.v (.bool (impl_handOk p0))), [], [], false⟩ := by
  refine FnOk.intro (E := env) envOk wide func151 rfl (by kernel_rfl) rfl rfl ?_
  have hg := impl_handOk.eq_1 p0
  have hown : ∀ g : Bool, AV.Own (AV.one (.v (.bool g))) := fun g => .v _
  refine seqE ?_
  refine litE (m := 0) rfl ?_
  refine seqE ?_
  refine seqE ?_
  refine lenM fun hN1 => ?_
  refine loopLE hg [1, 6, 7] (fun x1 => [(8, .one (.v (.int .i64 ((x1.i : Nat) : Int))))]) (fun x1 => [.keep 0]) [some 0] ?_ (fun x1 => ?_)
  · exact ⟨rfl, ⟨rfl, ⟨rfl, rfl, rfl, rfl⟩, rfl, rfl, trivial⟩, ⟨⟨rfl, rfl, ⟨rfl, rfl, rfl, rfl, rfl, rfl, rfl, rfl, rfl, rfl, rfl, rfl, trivial⟩⟩, trivial⟩, trivial⟩
  refine seqE ?_
  refine seqE ?_
  refine tstL (fun hi1 => ?_) (fun hi1 => ?_)
  · have hb1 := (x1.bdy hi1).trans (impl_handOk_b1.eq_1 ..)
    have hw1 := wrap_succ hi1 (by first | assumption | omega)
    refine seqE ?_
    refine seqE ?_
    refine idxAt hi1 ?_
    refine litE (m := 1) rfl ?_
    refine seqE ?_
    refine .inl (⟨_, _, c_impl_ItemOk (p0.Hand[x1.i]'hi1), (FzAs.same _), ?_⟩)
    refine litE (m := 3) rfl ?_
    refine brF hb1 (fun hb1 h2 => ?_) (fun hb1 h2 => ?_)
    · refine brW hb1 (fun hb1 h3 => ?_) (fun hb1 h3 => x1.goE hi1 hb1 [some 0] ⟨rfl, ⟨(eqInt hw1), ⟨rfl, rfl, rfl, rfl⟩, rfl, rfl, trivial⟩, ⟨⟨rfl, rfl, ⟨rfl, rfl, rfl, rfl, rfl, rfl, rfl, rfl, rfl, rfl, rfl, rfl, trivial⟩⟩, trivial⟩, trivial⟩)
      refine seqE ?_
      have hg := donE hg (x1.outD hi1 hb1)
      exact leafE hown hg
    · refine seqE ?_
      have hg := donE hg (x1.outD hi1 hb1)
      exact leafE hown hg
  have hg := finE hg (x1.fin hi1)
  refine seqE ?_
  refine lenM fun hN4 => ?_
  exact leafE hown hg
def impl_TaskOk_j1 (p0 : Task) (p1 : Int) : Step (Bool × Bool) Bool :=
  (bif (p0.Op == 1) then (bif (p0.Op == 2) then (.next ((decide (p1 < 3)), (decide (p1 ≥ 3)))) else (.next ((decide (p1 < 3)), false))) else (bif (p0.Op == 2) then (.next (false, (decide (p1 ≥ 3)))) else (.next (false, false))))
def impl_TaskOk_j2 (p0 : Task) : Step (Bool) Bool :=
  (bif (p0.Trace == 0) then (.next (p0.Stamp == 0)) else (.next false))
def impl_TaskOk_j3 (p0 : Task) : Step (Bool) Bool :=
  (bif (impl_within p0.Trace 1 999) then (.next (decide (p0.Stamp ≥ 1))) else (.next false))
def impl_TaskOk (p0 : Task) (p1 : Int) : Bool :=
  (bif (!(impl_within p1 0 4)) then false else (bif (!(impl_within p0.Pc 0 3)) then false else (bif (decide (p0.H < 0)) then false else (Step.get (fun s1 => (Step.get (fun s2 => (Step.get (fun s3 => (bif (p0.Op == 0) then (impl_sameTask p0 (Task.mk 0 0 (Span.mk 0 0 0 0 false ([] : List Attr)) 0 0 ([] : List Item) 0)) else (bif s1.1 then (bif (impl_SpanOk p0.S) then (bif (p0.Pc == 3) then (bif s3 then ((((p0.Hand).length : Nat) : Int) == 0) else (bif (p0.Pc != 3) then (bif s2 then ((((p0.Hand).length : Nat) : Int) == 0) else false) else false)) else (bif (p0.Pc != 3) then (bif s2 then ((((p0.Hand).length : Nat) : Int) == 0) else false) else false)) else false) else (bif s1.2 then (bif s3 then (bif (impl_SameSpan p0.S (Span.mk 0 0 0 0 false ([] : List Attr))) then (impl_handOk p0) else false) else false) else false)))) (impl_TaskOk_j3 p0))) (impl_TaskOk_j2 p0))) (impl_TaskOk_j1 p0 p1)))))
theorem c_impl_TaskOk (p0 : Task) (p1 : Int) : FnOk prog 111 [.agg ((Task.cells false) p0), .one (.v (.int .i64 p1))] ⟨.one (.v (.bool (impl_TaskOk p0 p1))), [], [], false⟩ := by
  refine FnOk.intro (E := env) envOk wide func111 rfl (by kernel_rfl) rfl rfl ?_
  have hg := impl_TaskOk.eq_1 p0 p1
  have hown : ∀ g : Bool, AV.Own (AV.one (.v (.bool g))) := fun g => .v _
  refine seqE ?_
  refine litE (m := 0) rfl ?_
  refine seqE ?_
  refine seqE ?_
  refine .inl (⟨_, _, c_impl_within p1 0 4, (FzAs.same _), ?_⟩)
  refine litE (m := 2) rfl ?_
  refine brF hg (fun hg h1 => ?_) (fun hg h1 => ?_)
  · refine .inl (⟨_, _, c_impl_within p0.Pc 0 3, (FzAs.same _), ?_⟩)
    refine litE (m := 3) rfl ?_
    refine brF hg (fun hg h2 => ?_) (fun hg h2 => ?_)
    · refine brD hg (fun hg h3 => ?_) (fun hg h3 => ?_)
      · refine seqE ?_
        exact leafE hown hg
      · refine joinE hg [2] (fun x1 => [(5, .one (.v (.bool x1.s.1))), (6, .one (.v (.bool x1.s.2)))]) (fun x1 => [.keep 0, .dead, .dead]) (fun hb1 => ?_) (fun x1 hg => ?_)
        · have hb1 := hb1.trans (impl_TaskOk_j1.eq_1 ..)
          exact brQ hb1 (fun hb1 h4 => brQ hb1 (fun hb1 h5 => .inl ⟨⟨_, hb1⟩, [some 0, none, none], ⟨rfl, ⟨rfl, rfl, ⟨rfl, rfl, rfl, rfl⟩, trivial⟩, ⟨⟨rfl, rfl, ⟨rfl, rfl, rfl, rfl, rfl, rfl, rfl, rfl, rfl, rfl, rfl, rfl, trivial⟩⟩, trivial⟩, trivial⟩⟩) (fun hb1 h5 => .inl ⟨⟨_, hb1⟩, [some 0, none, none], ⟨rfl, ⟨rfl, rfl, ⟨rfl, rfl, rfl, rfl⟩, trivial⟩, ⟨⟨rfl, rfl, ⟨rfl, rfl, rfl, rfl, rfl, rfl, rfl, rfl, rfl, rfl, rfl, rfl, trivial⟩⟩, trivial⟩, trivial⟩⟩)) (fun hb1 h4 => brQ hb1 (fun hb1 h6 => .inl ⟨⟨_, hb1⟩, [some 0, none, none], ⟨rfl, ⟨rfl, rfl, ⟨rfl, rfl, rfl, rfl⟩, trivial⟩, ⟨⟨rfl, rfl, ⟨rfl, rfl, rfl, rfl, rfl, rfl, rfl, rfl, rfl, rfl, rfl, rfl, trivial⟩⟩, trivial⟩, trivial⟩⟩) (fun hb1 h6 => .inl ⟨⟨_, hb1⟩, [some 0, none, none], ⟨rfl, ⟨rfl, rfl, ⟨rfl, rfl, rfl, rfl⟩, trivial⟩, ⟨⟨rfl, rfl, ⟨rfl, rfl, rfl, rfl, rfl, rfl, rfl, rfl, rfl, rfl, rfl, rfl, trivial⟩⟩, trivial⟩, trivial⟩⟩))
        refine joinE hg [2, 5, 6] (fun x2 => [(7, .one (.v (.bool x2.s)))]) (fun x2 => [.keep 0, .dead, .dead]) (fun hb2 => ?_) (fun x2 hg => ?_)
        · have hb2 := hb2.trans (impl_TaskOk_j2.eq_1 ..)
          exact brQ hb2 (fun hb2 h7 => .inl ⟨⟨_, hb2⟩, [some 0, none, none], ⟨rfl, ⟨rfl, ⟨rfl, rfl, rfl, rfl⟩, rfl, rfl, trivial⟩, ⟨⟨rfl, rfl, ⟨rfl, rfl, rfl, rfl, rfl, rfl, rfl, rfl, rfl, rfl, rfl, rfl, trivial⟩⟩, trivial⟩, trivial⟩⟩) (fun hb2 h7 => .inl ⟨⟨_, hb2⟩, [some 0, none, none], ⟨rfl, ⟨rfl, ⟨rfl, rfl, rfl, rfl⟩, rfl, rfl, trivial⟩, ⟨⟨rfl, rfl, ⟨rfl, rfl, rfl, rfl, rfl, rfl, rfl, rfl, rfl, rfl, rfl, rfl, trivial⟩⟩, trivial⟩, trivial⟩⟩)
        refine joinE hg [2, 5, 6, 7] (fun x3 => [(8, .one (.v (.bool x3.s)))]) (fun x3 => [.keep 0, .dead, .dead, .dead]) (fun hb3 => ?_) (fun x3 hg => ?_)
        · have hb3 := hb3.trans (impl_TaskOk_j3.eq_1 ..)
          refine .inl (⟨_, _, c_impl_within p0.Trace 1 999, (FzAs.same _), ?_⟩)
          refine litE (m := 4) rfl ?_
          exact brE hb3 (fun hb3 h8 => .inl ⟨⟨_, hb3⟩, [some 0, none, none, none], ⟨rfl, ⟨rfl, ⟨rfl, rfl, rfl, rfl⟩, rfl, rfl, rfl, trivial⟩, ⟨⟨rfl, rfl, ⟨rfl, rfl, rfl, rfl, rfl, rfl, rfl, rfl, rfl, rfl, rfl, rfl, trivial⟩⟩, trivial⟩, trivial⟩⟩) (fun hb3 h8 => .inl ⟨⟨_, hb3⟩, [some 0, none, none, none], ⟨rfl, ⟨rfl, ⟨rfl, rfl, rfl, rfl⟩, rfl, rfl, rfl, trivial⟩, ⟨⟨rfl, rfl, ⟨rfl, rfl, rfl, rfl, rfl, rfl, rfl, rfl, rfl, rfl, rfl, rfl, trivial⟩⟩, trivial⟩, trivial⟩⟩)
        refine seqE ?_
        refine seqE ?_
        refine brQ hg (fun hg h9 => ?_) (fun hg h9 => ?_)
        · refine seqE ?_
          refine .inl (⟨_, _, c_impl_sameTask p0 (Task.mk 0 0 (Span.mk 0 0 0 0 false ([] : List Attr)) 0 0 ([] : List Item) 0), (.cons (.same _) (.cons (.agg (.cons (.same _) (.cons (.same _) (.cons (.same _) (.cons (.same _) (.cons (.same _) (.cons (.same _) (.cons (.same _) (.cons (.same _) (.cons (.same _) (.cons (.same _) (.cons (.sl _ _ _ _ (frzMap (f := (Item.cells true)) frz_Item [])) (.cons (.same _) .nil))))))))))))) (.same _))), ?_⟩)
          refine litE (m := 5) rfl ?_
          exact leafE hown hg
        · refine seqE ?_
          refine brE hg (fun hg h10 => ?_) (fun hg h10 => ?_)
          · refine seqE ?_
            refine .inl (⟨_, _, c_impl_SpanOk p0.S, (FzAs.same _), ?_⟩)
            refine litE (m := 5) rfl ?_
            refine brE hg (fun hg h11 => ?_) (fun hg h11 => leafE hown hg)
            refine brQ hg (fun hg h12 => ?_) (fun hg h12 => ?_)
            · refine brF hg (fun hg h13 => ?_) (fun hg h13 => ?_)
              · refine brW hg (fun hg h15 => ?_) (fun hg h15 => leafE hown hg)
                refine brE hg (fun hg h16 => ?_) (fun hg h16 => leafE hown hg)
                refine lenM fun hN17 => ?_
                exact leafE hown hg
              · refine lenM fun hN14 => ?_
                exact leafE hown hg
            · refine brW hg (fun hg h18 => ?_) (fun hg h18 => leafE hown hg)
              refine brE hg (fun hg h19 => ?_) (fun hg h19 => leafE hown hg)
              refine lenM fun hN20 => ?_
              exact leafE hown hg
          · refine seqE ?_
            refine brE hg (fun hg h21 => ?_) (fun hg h21 => ?_)
            · refine seqE ?_
              refine brE hg (fun hg h22 => ?_) (fun hg h22 => leafE hown hg)
              refine .inl (⟨_, _, c_impl_SameSpan p0.S (Span.mk 0 0 0 0 false ([] : List Attr)), (FzAs.same _), ?_⟩)
              refine litE (m := 5) rfl ?_
              refine brE hg (fun hg h23 => ?_) (fun hg h23 => leafE hown hg)
              refine .inl (⟨_, _, c_impl_handOk p0, (FzAs.same _), ?_⟩)
              refine litE (m := 6) rfl ?_
              exact leafE hown hg
            · refine seqE ?_
              exact leafE hown hg
    · refine seqE ?_
      exact leafE hown hg
  · refine seqE ?_
    exact leafE hown hg
theorem impl_TaskOk_H {t : Task} {k : Int} (h : impl_TaskOk t k = true) : 0 ≤ t.H := by
  by_cases hq : t.H < 0
  · unfold impl_TaskOk at h
    rw [decide_eq_true hq] at h
    cases h1 : impl_within k 0 4 <;> rw [h1] at h
    · cases h
    · cases h2 : impl_within t.Pc 0 3 <;> rw [h2] at h <;> cases h
  · omega
def impl_deedOfTask_j1 (p0 : World) (p1 : Int) : Step (Bool) Bool :=
  (bif ((p0.Deeds[((p0.Tasks[(p1).toNat]?.getD default).H).toNat]?.getD default).Op == 1) then (.next (impl_SameSpan (p0.Deeds[((p0.Tasks[(p1).toNat]?.getD default).H).toNat]?.getD default).S (p0.Tasks[(p1).toNat]?.getD default).S)) else (.next false))
def impl_deedOfTask_j2 (p0 : World) (p1 : Int) (s1 : Bool) : Step (Bool) Bool :=
  (bif ((p0.Tasks[(p1).toNat]?.getD default).Op == 2) then (bif ((p0.Deeds[((p0.Tasks[(p1).toNat]?.getD default).H).toNat]?.getD default).Op == 2) then (bif ((p0.Deeds[((p0.Tasks[(p1).toNat]?.getD default).H).toNat]?.getD default).Trace == (p0.Tasks[(p1).toNat]?.getD default).Trace) then (.next ((p0.Deeds[((p0.Tasks[(p1).toNat]?.getD default).H).toNat]?.getD default).Stamp == (p0.Tasks[(p1).toNat]?.getD default).Stamp)) else (.done false)) else (.done false)) else (.next s1))
def impl_deedOfTask (p0 : World) (p1 : Int) : Bool :=
  (bif (decide ((p0.Tasks[(p1).toNat]?.getD default).H ≥ (((p0.Deeds).length : Nat) : Int))) then false else (Step.get (fun s1 => (Step.get (fun s2 => (bif s2 then (bif ((p0.Deeds[((p0.Tasks[(p1).toNat]?.getD default).H).toNat]?.getD default).Task == p1) then (bif ((p0.Deeds[((p0.Tasks[(p1).toNat]?.getD default).H).toNat]?.getD default).Res == (-1)) then (bif ((p0.Tasks[(p1).toNat]?.getD default).Op == 2) then (((p0.Deeds[((p0.Tasks[(p1).toNat]?.getD default).H).toNat]?.getD default).Lin != (-1)) == ((p0.Tasks[(p1).toNat]?.getD default).Pc == 3)) else (((p0.Deeds[((p0.Tasks[(p1).toNat]?.getD default).H).toNat]?.getD default).Lin != (-1)) == false)) else false) else false) else false)) (impl_deedOfTask_j2 p0 p1 s1))) (impl_deedOfTask_j1 p0 p1)))
theorem c_impl_deedOfTask (p0 : World) (p1 : Int) (hk : 0 ≤ p1 ∧ p1 < ((p0.Tasks.length : Nat) : Int)) (hH : 0 ≤ (p0.Tasks[(p1).toNat]?.getD default).H) : FnOk prog 112 [.agg ((World.cells false) p0), .one (.v (.int .i64 p1))] ⟨.one (.v (.bool (impl_deedOfTask p0 p1))), [], [], false⟩ := by
  refine FnOk.intro (E := env) envOk wide func112 rfl (by kernel_rfl) rfl rfl ?_
  have hg := impl_deedOfTask.eq_1 p0 p1
  have hown : ∀ g : Bool, AV.Own (AV.one (.v (.bool g))) := fun g => .v _
  refine seqE ?_
  refine litE (m := 0) rfl ?_
  refine seqE ?_
  refine idxOf (l := p0.Tasks) (by first | omega | (first | omega | (dsimp only <;> omega) | (simp (disch := omega) only [wrap_small, mid_eq, mid_eq1, mid_eq2, mid_eq3, List.length_map, List.length_set] <;> omega) | (simp (disch := omega) only [wrap_small, mid_eq, mid_eq1, mid_eq2, mid_eq3, List.length_map, List.length_set] at * <;> omega))) (fun hq1 => ?_)
  refine litE (m := 1) rfl ?_
  refine seqE ?_
  refine seqE ?_
  refine lenM fun hN2 => ?_
  refine brD hg (fun hg h3 => ?_) (fun hg h3 => ?_)
  · refine seqE ?_
    exact leafE hown hg
  · refine seqE ?_
    refine idxOf (l := p0.Deeds) (by first | omega | (first | omega | (dsimp only <;> omega) | (simp (disch := omega) only [wrap_small, mid_eq, mid_eq1, mid_eq2, mid_eq3, List.length_map, List.length_set] <;> omega) | (simp (disch := omega) only [wrap_small, mid_eq, mid_eq1, mid_eq2, mid_eq3, List.length_map, List.length_set] at * <;> omega))) (fun hq4 => ?_)
    refine litE (m := 2) rfl ?_
    refine joinE hg [1, 5, 6] (fun x1 => [(7, .one (.v (.bool x1.s)))]) (fun x1 => [.dead, .keep 1, .keep 2, .dead]) (fun hb1 => ?_) (fun x1 hg => ?_)
    · have hb1 := hb1.trans (impl_deedOfTask_j1.eq_1 ..)
      refine brQ hb1 (fun hb1 h5 => ?_) (fun hb1 h5 => .inl ⟨⟨_, hb1⟩, [none, some 1, some 2, none], ⟨rfl, ⟨rfl, rfl, ⟨rfl, rfl, rfl, rfl⟩, ⟨rfl, rfl, rfl, rfl⟩, trivial⟩, ⟨⟨rfl, rfl, ⟨rfl, rfl, rfl, rfl, rfl, rfl, rfl, rfl, rfl, rfl, rfl, rfl, trivial⟩⟩, ⟨rfl, rfl, ⟨rfl, rfl, rfl, rfl, rfl, rfl, rfl, rfl, rfl, rfl, rfl, rfl, rfl, rfl, rfl, rfl, rfl, rfl, rfl, rfl, trivial⟩⟩, trivial⟩, trivial⟩⟩)
      refine .inl (⟨_, _, c_impl_SameSpan (p0.Deeds[((p0.Tasks[(p1).toNat]?.getD default).H).toNat]?.getD default).S (p0.Tasks[(p1).toNat]?.getD default).S, (FzAs.same _), ?_⟩)
      refine litE (m := 4) rfl ?_
      exact .inl ⟨⟨_, hb1⟩, [none, some 1, some 2, none], ⟨rfl, ⟨rfl, rfl, ⟨rfl, rfl, rfl, rfl⟩, ⟨rfl, rfl, rfl, rfl⟩, trivial⟩, ⟨⟨rfl, rfl, ⟨rfl, rfl, rfl, rfl, rfl, rfl, rfl, rfl, rfl, rfl, rfl, rfl, trivial⟩⟩, ⟨rfl, rfl, ⟨rfl, rfl, rfl, rfl, rfl, rfl, rfl, rfl, rfl, rfl, rfl, rfl, rfl, rfl, rfl, rfl, rfl, rfl, rfl, rfl, trivial⟩⟩, trivial⟩, trivial⟩⟩
    refine joinE hg [1, 5, 6] (fun x2 => [(7, .one (.v (.bool x2.s)))]) (fun x2 => [.dead, .keep 1, .keep 2, .dead]) (fun hb2 => ?_) (fun x2 hg => ?_)
    · have hb2 := hb2.trans (impl_deedOfTask_j2.eq_1 ..)
      refine seqE ?_
      refine brQ hb2 (fun hb2 h6 => ?_) (fun hb2 h6 => .inl ⟨⟨_, hb2⟩, [none, some 1, some 2, none], ⟨rfl, ⟨rfl, rfl, ⟨rfl, rfl, rfl, rfl⟩, ⟨rfl, rfl, rfl, rfl⟩, trivial⟩, ⟨⟨rfl, rfl, ⟨rfl, rfl, rfl, rfl, rfl, rfl, rfl, rfl, rfl, rfl, rfl, rfl, trivial⟩⟩, ⟨rfl, rfl, ⟨rfl, rfl, rfl, rfl, rfl, rfl, rfl, rfl, rfl, rfl, rfl, rfl, rfl, rfl, rfl, rfl, rfl, rfl, rfl, rfl, trivial⟩⟩, trivial⟩, trivial⟩⟩)
      refine brQ hb2 (fun hb2 h7 => ?_) (fun hb2 h7 => ?_)
      · refine brQ hb2 (fun hb2 h8 => .inl ⟨⟨_, hb2⟩, [none, some 1, some 2, none], ⟨rfl, ⟨rfl, rfl, ⟨rfl, rfl, rfl, rfl⟩, ⟨rfl, rfl, rfl, rfl⟩, trivial⟩, ⟨⟨rfl, rfl, ⟨rfl, rfl, rfl, rfl, rfl, rfl, rfl, rfl, rfl, rfl, rfl, rfl, trivial⟩⟩, ⟨rfl, rfl, ⟨rfl, rfl, rfl, rfl, rfl, rfl, rfl, rfl, rfl, rfl, rfl, rfl, rfl, rfl, rfl, rfl, rfl, rfl, rfl, rfl, trivial⟩⟩, trivial⟩, trivial⟩⟩) (fun hb2 h8 => ?_)
        refine .inr ?_
        have hg := getD hg hb2
        refine seqE ?_
        exact leafE hown hg
      · refine .inr ?_
        have hg := getD hg hb2
        refine seqE ?_
        exact leafE hown hg
    refine seqE ?_
    exact brE hg (fun hg h9 => brQ hg (fun hg h10 => brQ hg (fun hg h11 => brQ hg (fun hg h12 => leafE hown hg) (fun hg h12 => leafE hown hg)) (fun hg h11 => leafE hown hg)) (fun hg h10 => leafE hown hg)) (fun hg h9 => leafE hown hg)
def impl_HoldsStripe_j1 (p0 : Task) : Step (Bool) Int :=
  (bif (p0.Op == 1) then (.next (p0.Pc == 1)) else (.next false))
def impl_HoldsStripe_j3 (p0 : Task) : Step (Bool) (Step (Bool) Int) :=
  (bif (p0.Op == 1) then (.next (p0.Pc == 3)) else (.next false))
def impl_HoldsStripe_j2 (p0 : Task) : Step (Bool) Int :=
  (Step.get (fun s3 => (bif s3 then (.next s3) else (bif (p0.Op == 2) then (bif (p0.Pc == 1) then (.next true) else (.next (p0.Pc == 2))) else (.done (-1))))) (impl_HoldsStripe_j3 p0))
def impl_HoldsStripe (p0 : Task) (p1 : Int) : Int :=
  (bif (decide (p1 < 1)) then (-1) else (Step.get (fun s1 => (bif s1 then (impl_StripeOf p0.S.Trace p1) else (Step.get (fun s2 => (bif s2 then (impl_StripeOf p0.Trace p1) else (-1))) (impl_HoldsStripe_j2 p0)))) (impl_HoldsStripe_j1 p0)))
theorem c_impl_HoldsStripe (p0 : Task) (p1 : Int) : FnOk prog 113 [.agg ((Task.cells false) p0), .one (.v (.int .i64 p1))] ⟨.one (.v (.int .i64 (impl_HoldsStripe p0 p1))), [], [], false⟩ := by
  refine FnOk.intro (E := env) envOk wide func113 rfl (by kernel_rfl) rfl rfl ?_
  have hg := impl_HoldsStripe.eq_1 p0 p1
  have hown : ∀ g : Int, AV.Own (AV.one (.v (.int .i64 g))) := fun g => .v _
  refine seqE ?_
  refine litE (m := 0) rfl ?_
  refine seqE ?_
  refine seqE ?_
  refine brD hg (fun hg h1 => ?_) (fun hg h1 => ?_)
  · refine seqE ?_
    exact leafE hown hg
  · refine joinE hg [1, 2] (fun x1 => [(8, .one (.v (.bool x1.s)))]) (fun x1 => [.keep 0]) (fun hb1 => ?_) (fun x1 hg => ?_)
    · have hb1 := hb1.trans (impl_HoldsStripe_j1.eq_1 ..)
      exact brQ hb1 (fun hb1 h2 => .inl ⟨⟨_, hb1⟩, [some 0], ⟨rfl, ⟨rfl, rfl, ⟨rfl, rfl, rfl, rfl⟩, trivial⟩, ⟨⟨rfl, rfl, ⟨rfl, rfl, rfl, rfl, rfl, rfl, rfl, rfl, rfl, rfl, rfl, rfl, trivial⟩⟩, trivial⟩, trivial⟩⟩) (fun hb1 h2 => .inl ⟨⟨_, hb1⟩, [some 0], ⟨rfl, ⟨rfl, rfl, ⟨rfl, rfl, rfl, rfl⟩, trivial⟩, ⟨⟨rfl, rfl, ⟨rfl, rfl, rfl, rfl, rfl, rfl, rfl, rfl, rfl, rfl, rfl, rfl, trivial⟩⟩, trivial⟩, trivial⟩⟩)
    refine brE hg (fun hg h3 => ?_) (fun hg h3 => ?_)
    · refine seqE ?_
      refine .inl (⟨_, _, c_impl_StripeOf p0.S.Trace p1, (FzAs.same _), ?_⟩)
      refine litE (m := 2) rfl ?_
      exact leafE hown hg
    · refine joinE hg [1, 2] (fun x2 => [(22, .one (.v (.bool x2.s)))]) (fun x2 => [.keep 0]) (fun hb2 => ?_) (fun x2 hg => ?_)
      · have hb2 := hb2.trans (impl_HoldsStripe_j2.eq_1 ..)
        refine joinE hb2 [1, 2] (fun x3 => [(22, .one (.v (.bool x3.s)))]) (fun x3 => [.keep 0]) (fun hb3 => ?_) (fun x3 hb2 => ?_)
        · have hb3 := hb3.trans (impl_HoldsStripe_j3.eq_1 ..)
          exact brQ hb3 (fun hb3 h4 => .inl ⟨⟨_, hb3⟩, [some 0], ⟨rfl, ⟨rfl, rfl, ⟨rfl, rfl, rfl, rfl⟩, trivial⟩, ⟨⟨rfl, rfl, ⟨rfl, rfl, rfl, rfl, rfl, rfl, rfl, rfl, rfl, rfl, rfl, rfl, trivial⟩⟩, trivial⟩, trivial⟩⟩) (fun hb3 h4 => .inl ⟨⟨_, hb3⟩, [some 0], ⟨rfl, ⟨rfl, rfl, ⟨rfl, rfl, rfl, rfl⟩, trivial⟩, ⟨⟨rfl, rfl, ⟨rfl, rfl, rfl, rfl, rfl, rfl, rfl, rfl, rfl, rfl, rfl, rfl, trivial⟩⟩, trivial⟩, trivial⟩⟩)
        refine brE hb2 (fun hb2 h5 => .inl ⟨⟨_, hb2⟩, [some 0], ⟨rfl, ⟨rfl, rfl, ⟨rfl, rfl, rfl, rfl⟩, trivial⟩, ⟨⟨rfl, rfl, ⟨rfl, rfl, rfl, rfl, rfl, rfl, rfl, rfl, rfl, rfl, rfl, rfl, trivial⟩⟩, trivial⟩, trivial⟩⟩) (fun hb2 h5 => ?_)
        refine brQ hb2 (fun hb2 h6 => brQF hb2 (fun hb2 h7 => .inl ⟨⟨_, hb2⟩, [some 0], ⟨rfl, ⟨rfl, rfl, ⟨rfl, rfl, rfl, rfl⟩, trivial⟩, ⟨⟨rfl, rfl, ⟨rfl, rfl, rfl, rfl, rfl, rfl, rfl, rfl, rfl, rfl, rfl, rfl, trivial⟩⟩, trivial⟩, trivial⟩⟩) (fun hb2 h7 => .inl ⟨⟨_, hb2⟩, [some 0], ⟨rfl, ⟨rfl, rfl, ⟨rfl, rfl, rfl, rfl⟩, trivial⟩, ⟨⟨rfl, rfl, ⟨rfl, rfl, rfl, rfl, rfl, rfl, rfl, rfl, rfl, rfl, rfl, rfl, trivial⟩⟩, trivial⟩, trivial⟩⟩)) (fun hb2 h6 => ?_)
        refine .inr ?_
        have hg := getD hg hb2
        refine seqE ?_
        exact leafE hown hg
      refine brE hg (fun hg h8 => ?_) (fun hg h8 => ?_)
      · refine seqE ?_
        refine .inl (⟨_, _, c_impl_StripeOf p0.Trace p1, (FzAs.same _), ?_⟩)
        refine litE (m := 2) rfl ?_
        exact leafE hown hg
      · refine seqE ?_
        exact leafE hown hg
theorem impl_HoldsStripe_lt (t : Task) (n : Int) : impl_HoldsStripe t n ≥ 0 → impl_HoldsStripe t n < n := by
  unfold impl_HoldsStripe
  by_cases hn : n < 1
  · rw [decide_eq_true hn, cond_true]; intro h; omega
  · rw [decide_eq_false hn, cond_false]
    have h1 := fun a => impl_StripeOf_lt a n (by omega)
    intro _
    have h2 : ∀ b : Bool, (bif b then (impl_StripeOf t.Trace n) else (-1)) < n := fun b => by cases b; (show (-1 : Int) < n; omega); exact h1 _
    have h3 : ∀ z : Step Bool Int, (∀ r, z = .done r → r < n) → Step.get (fun s2 => bif s2 then (impl_StripeOf t.Trace n) else (-1)) z < n := fun z hz => by cases z with
      | next s => exact h2 s
      | stop s => exact h2 s
      | done r => exact hz r rfl
    have h4 : ∀ r, impl_HoldsStripe_j2 t = .done r → r < n := by
      intro r h
      unfold impl_HoldsStripe_j2 impl_HoldsStripe_j3 at h
      cases ha : (t.Op == 1) <;> cases hb : (t.Pc == 3) <;> cases hc : (t.Op == 2) <;> cases hd : (t.Pc == 1) <;> rw [ha, hc, hd] at h <;> (try rw [hb] at h) <;> cases h <;> omega
    have h5 : ∀ b : Bool, (bif b then (impl_StripeOf t.S.Trace n) else Step.get (fun s2 => bif s2 then (impl_StripeOf t.Trace n) else (-1)) (impl_HoldsStripe_j2 t)) < n := fun b => by cases b; exact h3 _ h4; exact h1 _
    unfold impl_HoldsStripe_j1
    cases ha : (t.Op == 1)
    · exact h5 false
    · exact h5 (t.Pc == 1)
def impl_HoldsRule (p0 : Task) : Bool :=
  (bif (p0.Op == 2) then (p0.Pc == 2) else false)
theorem c_impl_HoldsRule (p0 : Task) : FnOk prog 114 [.agg ((Task.cells false) p0)] ⟨.one (.v (.bool (impl_HoldsRule p0))), [], [], false⟩ := by
  refine FnOk.intro (E := env) envOk wide func114 rfl (by kernel_rfl) rfl rfl ?_
  have hg := impl_HoldsRule.eq_1 p0
  have hown : ∀ g : Bool, AV.Own (AV.one (.v (.bool g))) := fun g => .v _
  refine seqE ?_
  refine litE (m := 0) rfl ?_
  refine seqE ?_
  exact brQ hg (fun hg h1 => leafE hown hg) (fun hg h1 => leafE hown hg)
def impl_tasksOk_j3 (a2 : Task) (i2 : Nat) (p0 : World) : Step (Bool × Bool) (Step ((List Int) × Int) Bool) :=
  (bif (!(impl_TaskOk a2 ((i2 : Nat) : Int))) then (.done (.done false)) else (bif (a2.Op != 0) then (bif (!(impl_deedOfTask p0 ((i2 : Nat) : Int))) then (.done (.done false)) else (.next (true, (!(impl_deedOfTask p0 ((i2 : Nat) : Int)))))) else (.next (false, false))))
def impl_tasksOk_j4 (a2 : Task) (p0 : World) (s2 : (List Int) × Int) (i2 : Nat) : Step ((List Int)) (Step ((List Int) × Int) Bool) :=
  (bif (decide ((impl_HoldsStripe a2 (((p0.St).length : Nat) : Int)) ≥ 0)) then (bif ((s2.1[((impl_HoldsStripe a2 (((p0.St).length : Nat) : Int))).toNat]?.getD default) != (-1)) then (.done (.done false)) else (.next (List.set s2.1 ((impl_HoldsStripe a2 (((p0.St).length : Nat) : Int))).toNat ((i2 : Nat) : Int)))) else (.next s2.1))
def impl_tasksOk_b5 (s2 : (List Int) × Int) (i5 : Nat) (s5 : Unit) (a5 : Stripe) : Step (Unit) Bool :=
  (bif (a5.Held != (s2.1[i5]?.getD default)) then (.done false) else (.next ()))
def impl_tasksOk_b2 (p0 : World) (i2 : Nat) (s2 : (List Int) × Int) (a2 : Task) : Step ((List Int) × Int) Bool :=
  (Step.get (fun s3 => (Step.get (fun s4 => (bif (impl_HoldsRule a2) then (bif (s2.2 != (-1)) then (.done false) else (.next (s4, ((i2 : Nat) : Int)))) else (.next (s4, s2.2)))) (impl_tasksOk_j4 a2 p0 s2 i2))) (impl_tasksOk_j3 a2 i2 p0))
def impl_tasksOk_b1 (i1 : Nat) (s1 : (List Int)) (a1 : Stripe) : Step ((List Int)) Bool :=
  (.next (List.set s1 i1 (-1)))
def impl_tasksOk (p0 : World) : Bool :=
  (bif ((((p0.Tasks).length : Nat) : Int) != 5) then false else (Fin.get (fun s1 => (Fin.get (fun s2 => (Fin.get (fun s5 => (p0.RuleHeld == s2.2)) (loopL (impl_tasksOk_b5 s2) 0 () p0.St))) (loopL (impl_tasksOk_b2 p0) 0 (s1, (-1)) p0.Tasks))) (loopL impl_tasksOk_b1 0 (List.replicate (p0.St).length 0) p0.St)))
theorem impl_tasksOk_len {a2 : Task} {p0 : World} {s2 : List Int × Int} {i2 : Nat} {v : List Int} (h : impl_tasksOk_j4 a2 p0 s2 i2 = .next v) : v.length = s2.1.length := by
  unfold impl_tasksOk_j4 at h
  simp only [Bool.cond_eq_ite] at h
  split at h
  · split at h
    · cases h
    · cases h; simp
  · cases h; rfl
theorem c_impl_tasksOk (p0 : World) (hs : World.bd 1048576 p0) : FnOk prog 70 [.agg ((World.cells false) p0)] ⟨.one (.v (.bool (impl_tasksOk p0))), [], [], false⟩ := by
  refine FnOk.intro (E := env) envOk wide func70 rfl (by kernel_rfl) rfl rfl ?_
  have hg := impl_tasksOk.eq_1 p0
  have hown : ∀ g : Bool, AV.Own (AV.one (.v (.bool g))) := fun g => .v _
  refine seqE ?_
  refine litE (m := 0) rfl ?_
  refine seqE ?_
  refine seqE ?_
  refine lenM fun hN1 => ?_
  refine brW hg (fun hg h2 => ?_) (fun hg h2 => ?_)
  · refine seqE ?_
    exact leafE hown hg
  · refine seqE ?_
    refine lenM fun hN3 => ?_
    refine And.intro (by have q2 : p0.St.length ≤ 1048576 := hs.2.1.1; exact ⟨rfl, by omega, by show ((8 : Nat) : Int) * _ ≤ _; omega, by omega⟩) (rowsE (Y := List.map cInt (List.replicate (p0.St).length 0)) (by rw [List.map_replicate]; rfl) ?_)
    refine litE (m := 1) rfl ?_
    refine seqE ?_
    refine seqE ?_
    refine lenE (k := (p0.St).length) (by simp) (fun hN4 => ?_)
    refine loopLI (fun _ s => (s).length = (p0.St).length) hg (by simp) [1, 3, 20] (fun x1 => [(21, .one (.v (.int .i64 ((x1.i : Nat) : Int))))]) (fun x1 => [.keep 0, .new ⟨1, false, List.map cInt x1.s, 0⟩]) [some 0, some 1] ?_ (fun x1 => ?_)
    · exact ⟨rfl, ⟨rfl, ⟨rfl, rfl, rfl, rfl⟩, ⟨rfl, rfl, rfl, rfl, by (first | rfl | omega | (dsimp only; omega) | (simp; done) | (simp; omega) | (simp [LstSt.init, LstSt.step, LstInv.init, CntSt.init, CntSt.step, CntInv.init, WhlSt.init, WhlSt.step]; done) | (simp [LstSt.init, LstSt.step, LstInv.init, CntSt.init, CntSt.step, CntInv.init, WhlSt.init, WhlSt.step]; omega))⟩, rfl, trivial⟩, ⟨⟨rfl, rfl, ⟨rfl, rfl, rfl, rfl, rfl, rfl, rfl, rfl, rfl, rfl, rfl, rfl, rfl, rfl, rfl, rfl, rfl, rfl, rfl, rfl, rfl, rfl, rfl, rfl, rfl, rfl, rfl, rfl, rfl, rfl, rfl, rfl, trivial⟩⟩, ⟨rfl, rfl, rfl⟩, trivial⟩, trivial⟩
    have hI1 : (x1.s).length = (p0.St).length := by simpa using x1.hI
    refine seqE ?_
    refine seqE ?_
    refine tstL (fun hi1 => ?_) (fun hi1 => ?_)
    · have hb1 := (x1.bdy hi1).trans (impl_tasksOk_b1.eq_1 ..)
      have hw1 := wrap_succ hi1 (by first | assumption | omega)
      refine seqE ?_
      refine seqE ?_
      refine andE (by first | omega | (simp only [List.length_map, List.length_replicate]; omega) | (have q := hI2; (try dsimp only at q); omega) | (have q := hI2; (try dsimp only at q); simp only [List.length_map, List.length_replicate]; omega) | (have q := impl_HoldsStripe_lt (p0.Tasks[x2.i]'hi2) ((p0.St.length : Nat) : Int) (by assumption); have q5 := hI2; (try dsimp only at q5); (try simp only [List.length_map, List.length_replicate]); omega) | (first | omega | (dsimp only <;> omega) | (simp (disch := omega) only [wrap_small, mid_eq, mid_eq1, mid_eq2, mid_eq3, List.length_map, List.length_set] <;> omega) | (simp (disch := omega) only [wrap_small, mid_eq, mid_eq1, mid_eq2, mid_eq3, List.length_map, List.length_set] at * <;> omega))) ?_
      refine rowsE (Y := List.map cInt (List.set x1.s x1.i (-1))) (by exact setMapE (by simp) (fun a ha => by first | rfl | (simp only [ha, Option.getD_some]; rfl) | (obtain ⟨_, rfl⟩ := List.getElem?_eq_some_iff.1 ha; rfl) | (simp only [Pol.cells_eq]; rfl) | (simp only [ha, Option.getD_some, Pol.cells_eq]; rfl))) ?_
      exact x1.goE hi1 hb1 (by simpa using x1.hI) [some 0, some 1] ⟨rfl, ⟨(eqInt hw1), ⟨rfl, rfl, rfl, rfl⟩, ⟨rfl, rfl, rfl, rfl, by (first | rfl | omega | (dsimp only; omega) | (simp; done) | (simp; omega) | (simp [LstSt.init, LstSt.step, LstInv.init, CntSt.init, CntSt.step, CntInv.init, WhlSt.init, WhlSt.step]; done) | (simp [LstSt.init, LstSt.step, LstInv.init, CntSt.init, CntSt.step, CntInv.init, WhlSt.init, WhlSt.step]; omega))⟩, rfl, trivial⟩, ⟨⟨rfl, rfl, ⟨rfl, rfl, rfl, rfl, rfl, rfl, rfl, rfl, rfl, rfl, rfl, rfl, rfl, rfl, rfl, rfl, rfl, rfl, rfl, rfl, rfl, rfl, rfl, rfl, rfl, rfl, rfl, rfl, rfl, rfl, rfl, rfl, trivial⟩⟩, ⟨rfl, rfl, rfl⟩, trivial⟩, trivial⟩
    have hg := finE hg (x1.fin hi1)
    refine seqE ?_
    refine seqE ?_
    refine seqE ?_
    refine lenM fun hN5 => ?_
    refine loopLI (fun (_ : Nat) (s : List Int × Int) => s.1.length = p0.St.length) hg (by have q := hI1; show List.length x1.s = _; simpa using q) [1, 3, 29, 30] (fun x2 => [(5, .one (.v (.int .i64 x2.s.2))), (31, .one (.v (.int .i64 ((x2.i : Nat) : Int))))]) (fun x2 => [.keep 0, .new ⟨1, false, List.map cInt x2.s.1, 0⟩]) [some 0, some 1] ?_ (fun x2 => ?_)
    · exact ⟨rfl, ⟨rfl, rfl, ⟨rfl, rfl, rfl, rfl⟩, ⟨rfl, rfl, rfl, rfl, by (first | rfl | omega | (dsimp only; omega) | (simp; done) | (simp; omega) | (simp [LstSt.init, LstSt.step, LstInv.init, CntSt.init, CntSt.step, CntInv.init, WhlSt.init, WhlSt.step]; done) | (simp [LstSt.init, LstSt.step, LstInv.init, CntSt.init, CntSt.step, CntInv.init, WhlSt.init, WhlSt.step]; omega))⟩, rfl, rfl, trivial⟩, ⟨⟨rfl, rfl, ⟨rfl, rfl, rfl, rfl, rfl, rfl, rfl, rfl, rfl, rfl, rfl, rfl, rfl, rfl, rfl, rfl, rfl, rfl, rfl, rfl, rfl, rfl, rfl, rfl, rfl, rfl, rfl, rfl, rfl, rfl, rfl, rfl, trivial⟩⟩, ⟨rfl, rfl, rfl⟩, trivial⟩, trivial⟩
    have hI2 := x2.hI
    try dsimp only at hI2
    refine seqE ?_
    refine seqE ?_
    refine tstL (fun hi2 => ?_) (fun hi2 => ?_)
    · have hb2 := (x2.bdy hi2).trans (impl_tasksOk_b2.eq_1 ..)
      have hw2 := wrap_succ hi2 (by first | assumption | omega)
      refine seqE ?_
      refine seqE ?_
      refine idxAt hi2 ?_
      refine litE (m := 2) rfl ?_
      refine joinE hb2 [1, 3, 5, 6, 7, 29, 30, 31] (fun x3 => [(41, .one (.p 2 [] 0 0 0)), (42, .one (.v (.int .i64 (p0.Tasks[x2.i]'hi2).Op))), (43, .one (.v (.bool ((p0.Tasks[x2.i]'hi2).Op != 0)))), (44, .one (.v (.bool x3.s.1))), (49, .one (.v (.bool x3.s.2)))]) (fun x3 => [.keep 0, .keep 1, .keep 2, .dead, .dead]) (fun hb3 => ?_) (fun x3 hb2 => ?_)
      · have hb3 := hb3.trans (impl_tasksOk_j3.eq_1 ..)
        refine seqE ?_
        refine .inl (⟨_, _, c_impl_TaskOk (p0.Tasks[x2.i]'hi2) ((x2.i : Nat) : Int), (FzAs.same _), ?_⟩)
        refine litE (m := 4) rfl ?_
        refine brF hb3 (fun hb3 h6 => ?_) (fun hb3 h6 => ?_)
        · refine brW hb3 (fun hb3 h7 => ?_) (fun hb3 h7 => .inl ⟨⟨_, hb3⟩, [some 0, some 1, some 2, none, none], ⟨rfl, ⟨⟨rfl, rfl, rfl, rfl⟩, rfl, rfl, rfl, rfl, ⟨rfl, rfl, rfl, rfl⟩, ⟨rfl, rfl, rfl, rfl, by (first | rfl | omega | (dsimp only; omega) | (simp; done) | (simp; omega) | (simp [LstSt.init, LstSt.step, LstInv.init, CntSt.init, CntSt.step, CntInv.init, WhlSt.init, WhlSt.step]; done) | (simp [LstSt.init, LstSt.step, LstInv.init, CntSt.init, CntSt.step, CntInv.init, WhlSt.init, WhlSt.step]; omega))⟩, rfl, rfl, ⟨rfl, rfl, rfl, rfl⟩, rfl, rfl, rfl, trivial⟩, ⟨⟨rfl, rfl, ⟨rfl, rfl, rfl, rfl, rfl, rfl, rfl, rfl, rfl, rfl, rfl, rfl, rfl, rfl, rfl, rfl, rfl, rfl, rfl, rfl, rfl, rfl, rfl, rfl, rfl, rfl, rfl, rfl, rfl, rfl, rfl, rfl, trivial⟩⟩, ⟨rfl, rfl, rfl⟩, ⟨rfl, rfl, ⟨rfl, rfl, rfl, rfl, rfl, rfl, rfl, rfl, rfl, rfl, rfl, rfl, trivial⟩⟩, trivial⟩, trivial⟩⟩)
          refine .inl (⟨_, _, c_impl_deedOfTask p0 ((x2.i : Nat) : Int) (by first | exact ⟨by omega, by omega⟩ | (rw [Int.toNat_natCast, List.getElem?_eq_getElem hi2]; exact impl_TaskOk_H (nf (by assumption)))) (by first | exact ⟨by omega, by omega⟩ | (rw [Int.toNat_natCast, List.getElem?_eq_getElem hi2]; exact impl_TaskOk_H (nf (by assumption)))), (FzAs.same _), ?_⟩)
          refine litE (m := 5) rfl ?_
          refine brE hb3 (fun hb3 h8 => ?_) (fun hb3 h8 => .inl ⟨⟨_, hb3⟩, [some 0, some 1, some 2, none, none], ⟨rfl, ⟨⟨rfl, rfl, rfl, rfl⟩, rfl, rfl, rfl, rfl, ⟨rfl, rfl, rfl, rfl⟩, ⟨rfl, rfl, rfl, rfl, by (first | rfl | omega | (dsimp only; omega) | (simp; done) | (simp; omega) | (simp [LstSt.init, LstSt.step, LstInv.init, CntSt.init, CntSt.step, CntInv.init, WhlSt.init, WhlSt.step]; done) | (simp [LstSt.init, LstSt.step, LstInv.init, CntSt.init, CntSt.step, CntInv.init, WhlSt.init, WhlSt.step]; omega))⟩, rfl, rfl, ⟨rfl, rfl, rfl, rfl⟩, rfl, rfl, rfl, trivial⟩, ⟨⟨rfl, rfl, ⟨rfl, rfl, rfl, rfl, rfl, rfl, rfl, rfl, rfl, rfl, rfl, rfl, rfl, rfl, rfl, rfl, rfl, rfl, rfl, rfl, rfl, rfl, rfl, rfl, rfl, rfl, rfl, rfl, rfl, rfl, rfl, rfl, trivial⟩⟩, ⟨rfl, rfl, rfl⟩, ⟨rfl, rfl, ⟨rfl, rfl, rfl, rfl, rfl, rfl, rfl, rfl, rfl, rfl, rfl, rfl, trivial⟩⟩, trivial⟩, trivial⟩⟩)
          refine seqE ?_
          have hb2 := getD hb2 hb3
          have hg := donE hg (x2.outD hi2 hb2)
          exact leafE hown hg
        · refine seqE ?_
          have hb2 := getD hb2 hb3
          have hg := donE hg (x2.outD hi2 hb2)
          exact leafE hown hg
      refine joinE hb2 [1, 5, 6, 7, 29, 30, 31, 41, 42, 43, 44, 49] (fun x4 => [(3, .one (.n 1 [] 1 0 (x4.s).length))]) (fun x4 => [.keep 0, .new ⟨1, false, List.map cInt x4.s, 0⟩, .keep 2, .dead, .dead, .dead]) (fun hb4 => ?_) (fun x4 hb2 => ?_)
      · have hb4 := hb4.trans (impl_tasksOk_j4.eq_1 ..)
        refine seqE ?_
        refine lenM fun hN9 => ?_
        refine .inl (⟨_, _, c_impl_HoldsStripe (p0.Tasks[x2.i]'hi2) (((p0.St).length : Nat) : Int), (FzAs.same _), ?_⟩)
        refine litE (m := 6) rfl ?_
        refine seqE ?_
        refine brD hb4 (fun hb4 h10 => ?_) (fun hb4 h10 => .inl ⟨⟨_, hb4⟩, [some 0, some 1, some 2, none, none, none], ⟨rfl, ⟨⟨rfl, rfl, rfl, rfl, by (first | rfl | omega | (dsimp only; omega) | (simp; done) | (simp; omega) | (simp [LstSt.init, LstSt.step, LstInv.init, CntSt.init, CntSt.step, CntInv.init, WhlSt.init, WhlSt.step]; done) | (simp [LstSt.init, LstSt.step, LstInv.init, CntSt.init, CntSt.step, CntInv.init, WhlSt.init, WhlSt.step]; omega))⟩, ⟨rfl, rfl, rfl, rfl⟩, rfl, rfl, ⟨rfl, rfl, rfl, rfl⟩, rfl, rfl, rfl, ⟨rfl, rfl, rfl, rfl⟩, rfl, rfl, rfl, rfl, trivial⟩, ⟨⟨rfl, rfl, ⟨rfl, rfl, rfl, rfl, rfl, rfl, rfl, rfl, rfl, rfl, rfl, rfl, rfl, rfl, rfl, rfl, rfl, rfl, rfl, rfl, rfl, rfl, rfl, rfl, rfl, rfl, rfl, rfl, rfl, rfl, rfl, rfl, trivial⟩⟩, ⟨rfl, rfl, rfl⟩, ⟨rfl, rfl, ⟨rfl, rfl, rfl, rfl, rfl, rfl, rfl, rfl, rfl, rfl, rfl, rfl, trivial⟩⟩, trivial⟩, trivial⟩⟩)
        refine seqE ?_
        refine seqE ?_
        refine andE (by first | omega | (simp only [List.length_map, List.length_replicate]; omega) | (have q := hI2; (try dsimp only at q); omega) | (have q := hI2; (try dsimp only at q); simp only [List.length_map, List.length_replicate]; omega) | (have q := impl_HoldsStripe_lt (p0.Tasks[x2.i]'hi2) ((p0.St.length : Nat) : Int) (by assumption); have q5 := hI2; (try dsimp only at q5); (try simp only [List.length_map, List.length_replicate]); omega) | (first | omega | (dsimp only <;> omega) | (simp (disch := omega) only [wrap_small, mid_eq, mid_eq1, mid_eq2, mid_eq3, List.length_map, List.length_set] <;> omega) | (simp (disch := omega) only [wrap_small, mid_eq, mid_eq1, mid_eq2, mid_eq3, List.length_map, List.length_set] at * <;> omega))) ?_
        refine rowGet (i := ((impl_HoldsStripe (p0.Tasks[x2.i]'hi2) (((p0.St).length : Nat) : Int))).toNat) (l := x2.s.1) (by first | rfl | exact Nat.zero_add _ | simp) (fun hq11 => ?_)
        refine brW hb4 (fun hb4 h12 => ?_) (fun hb4 h12 => ?_)
        · refine seqE ?_
          have hb2 := getD hb2 hb4
          have hg := donE hg (x2.outD hi2 hb2)
          exact leafE hown hg
        · refine andE (by first | omega | (simp only [List.length_map, List.length_replicate]; omega) | (have q := hI2; (try dsimp only at q); omega) | (have q := hI2; (try dsimp only at q); simp only [List.length_map, List.length_replicate]; omega) | (have q := impl_HoldsStripe_lt (p0.Tasks[x2.i]'hi2) ((p0.St.length : Nat) : Int) (by assumption); have q5 := hI2; (try dsimp only at q5); (try simp only [List.length_map, List.length_replicate]); omega) | (first | omega | (dsimp only <;> omega) | (simp (disch := omega) only [wrap_small, mid_eq, mid_eq1, mid_eq2, mid_eq3, List.length_map, List.length_set] <;> omega) | (simp (disch := omega) only [wrap_small, mid_eq, mid_eq1, mid_eq2, mid_eq3, List.length_map, List.length_set] at * <;> omega))) ?_
          refine rowsE (Y := List.map cInt (List.set x2.s.1 ((impl_HoldsStripe (p0.Tasks[x2.i]'hi2) (((p0.St).length : Nat) : Int))).toNat ((x2.i : Nat) : Int))) (by exact setMapE (by simp) (fun a ha => by first | rfl | (simp only [ha, Option.getD_some]; rfl) | (obtain ⟨_, rfl⟩ := List.getElem?_eq_some_iff.1 ha; rfl) | (simp only [Pol.cells_eq]; rfl) | (simp only [ha, Option.getD_some, Pol.cells_eq]; rfl))) ?_
          exact .inl ⟨⟨_, hb4⟩, [some 0, some 1, some 2, none, none, none], ⟨rfl, ⟨⟨rfl, rfl, rfl, rfl, by (first | rfl | omega | (dsimp only; omega) | (simp; done) | (simp; omega) | (simp [LstSt.init, LstSt.step, LstInv.init, CntSt.init, CntSt.step, CntInv.init, WhlSt.init, WhlSt.step]; done) | (simp [LstSt.init, LstSt.step, LstInv.init, CntSt.init, CntSt.step, CntInv.init, WhlSt.init, WhlSt.step]; omega))⟩, ⟨rfl, rfl, rfl, rfl⟩, rfl, rfl, ⟨rfl, rfl, rfl, rfl⟩, rfl, rfl, rfl, ⟨rfl, rfl, rfl, rfl⟩, rfl, rfl, rfl, rfl, trivial⟩, ⟨⟨rfl, rfl, ⟨rfl, rfl, rfl, rfl, rfl, rfl, rfl, rfl, rfl, rfl, rfl, rfl, rfl, rfl, rfl, rfl, rfl, rfl, rfl, rfl, rfl, rfl, rfl, rfl, rfl, rfl, rfl, rfl, rfl, rfl, rfl, rfl, trivial⟩⟩, ⟨rfl, rfl, rfl⟩, ⟨rfl, rfl, ⟨rfl, rfl, rfl, rfl, rfl, rfl, rfl, rfl, rfl, rfl, rfl, rfl, trivial⟩⟩, trivial⟩, trivial⟩⟩
      have q3 := impl_tasksOk_len x4.e
      refine seqE ?_
      refine .inl (⟨_, _, c_impl_HoldsRule (p0.Tasks[x2.i]'hi2), (FzAs.same _), ?_⟩)
      refine litE (m := 7) rfl ?_
      refine brE hb2 (fun hb2 h13 => ?_) (fun hb2 h13 => x2.goE hi2 hb2 (by have q := hI2; have q4 := q3; show List.length x4.s = _; omega) [some 0, some 1] ⟨rfl, ⟨rfl, (eqInt hw2), ⟨rfl, rfl, rfl, rfl⟩, ⟨rfl, rfl, rfl, rfl, by (first | rfl | omega | (dsimp only; omega) | (simp; done) | (simp; omega) | (simp [LstSt.init, LstSt.step, LstInv.init, CntSt.init, CntSt.step, CntInv.init, WhlSt.init, WhlSt.step]; done) | (simp [LstSt.init, LstSt.step, LstInv.init, CntSt.init, CntSt.step, CntInv.init, WhlSt.init, WhlSt.step]; omega))⟩, rfl, rfl, trivial⟩, ⟨⟨rfl, rfl, ⟨rfl, rfl, rfl, rfl, rfl, rfl, rfl, rfl, rfl, rfl, rfl, rfl, rfl, rfl, rfl, rfl, rfl, rfl, rfl, rfl, rfl, rfl, rfl, rfl, rfl, rfl, rfl, rfl, rfl, rfl, rfl, rfl, trivial⟩⟩, ⟨rfl, rfl, rfl⟩, trivial⟩, trivial⟩)
      refine seqE ?_
      refine seqE ?_
      refine brW hb2 (fun hb2 h14 => ?_) (fun hb2 h14 => x2.goE hi2 hb2 (by have q := hI2; have q4 := q3; show List.length x4.s = _; omega) [some 0, some 1] ⟨rfl, ⟨rfl, (eqInt hw2), ⟨rfl, rfl, rfl, rfl⟩, ⟨rfl, rfl, rfl, rfl, by (first | rfl | omega | (dsimp only; omega) | (simp; done) | (simp; omega) | (simp [LstSt.init, LstSt.step, LstInv.init, CntSt.init, CntSt.step, CntInv.init, WhlSt.init, WhlSt.step]; done) | (simp [LstSt.init, LstSt.step, LstInv.init, CntSt.init, CntSt.step, CntInv.init, WhlSt.init, WhlSt.step]; omega))⟩, rfl, rfl, trivial⟩, ⟨⟨rfl, rfl, ⟨rfl, rfl, rfl, rfl, rfl, rfl, rfl, rfl, rfl, rfl, rfl, rfl, rfl, rfl, rfl, rfl, rfl, rfl, rfl, rfl, rfl, rfl, rfl, rfl, rfl, rfl, rfl, rfl, rfl, rfl, rfl, rfl, trivial⟩⟩, ⟨rfl, rfl, rfl⟩, trivial⟩, trivial⟩)
      refine seqE ?_
      have hg := donE hg (x2.outD hi2 hb2)
      exact leafE hown hg
    have hg := finE hg (x2.fin hi2)
    refine seqE ?_
    refine seqE ?_
    refine lenM fun hN15 => ?_
    refine loopLE hg [1, 3, 5, 74, 75] (fun x5 => [(76, .one (.v (.int .i64 ((x5.i : Nat) : Int))))]) (fun x5 => [.keep 0, .keep 1]) [some 0, some 1] ?_ (fun x5 => ?_)
    · exact ⟨rfl, ⟨rfl, ⟨rfl, rfl, rfl, rfl⟩, ⟨rfl, rfl, rfl, rfl, by (first | rfl | omega | (dsimp only; omega) | (simp; done) | (simp; omega) | (simp [LstSt.init, LstSt.step, LstInv.init, CntSt.init, CntSt.step, CntInv.init, WhlSt.init, WhlSt.step]; done) | (simp [LstSt.init, LstSt.step, LstInv.init, CntSt.init, CntSt.step, CntInv.init, WhlSt.init, WhlSt.step]; omega))⟩, rfl, rfl, rfl, trivial⟩, ⟨⟨rfl, rfl, ⟨rfl, rfl, rfl, rfl, rfl, rfl, rfl, rfl, rfl, rfl, rfl, rfl, rfl, rfl, rfl, rfl, rfl, rfl, rfl, rfl, rfl, rfl, rfl, rfl, rfl, rfl, rfl, rfl, rfl, rfl, rfl, rfl, trivial⟩⟩, ⟨rfl, rfl, rfl⟩, trivial⟩, trivial⟩
    refine seqE ?_
    refine seqE ?_
    refine tstL (fun hi5 => ?_) (fun hi5 => ?_)
    · have hb5 := (x5.bdy hi5).trans (impl_tasksOk_b5.eq_1 ..)
      have hw5 := wrap_succ hi5 (by first | assumption | omega)
      refine seqE ?_
      refine seqE ?_
      refine idxAt hi5 ?_
      refine litE (m := 2) rfl ?_
      refine seqE ?_
      refine .inl ⟨by kernel_rfl, ?_⟩
      refine andE (by first | omega | (simp only [List.length_map, List.length_replicate]; omega) | (have q := hI2; (try dsimp only at q); omega) | (have q := hI2; (try dsimp only at q); simp only [List.length_map, List.length_replicate]; omega) | (have q := impl_HoldsStripe_lt (p0.Tasks[x2.i]'hi2) ((p0.St.length : Nat) : Int) (by assumption); have q5 := hI2; (try dsimp only at q5); (try simp only [List.length_map, List.length_replicate]); omega) | (first | omega | (dsimp only <;> omega) | (simp (disch := omega) only [wrap_small, mid_eq, mid_eq1, mid_eq2, mid_eq3, List.length_map, List.length_set] <;> omega) | (simp (disch := omega) only [wrap_small, mid_eq, mid_eq1, mid_eq2, mid_eq3, List.length_map, List.length_set] at * <;> omega))) ?_
      refine rowGet (i := x5.i) (l := x2.s.1) (by first | rfl | exact Nat.zero_add _ | simp) (fun hq16 => ?_)
      refine brW hb5 (fun hb5 h17 => ?_) (fun hb5 h17 => x5.goE hi5 hb5 [some 0, some 1] ⟨rfl, ⟨(eqInt hw5), ⟨rfl, rfl, rfl, rfl⟩, ⟨rfl, rfl, rfl, rfl, by (first | rfl | omega | (dsimp only; omega) | (simp; done) | (simp; omega) | (simp [LstSt.init, LstSt.step, LstInv.init, CntSt.init, CntSt.step, CntInv.init, WhlSt.init, WhlSt.step]; done) | (simp [LstSt.init, LstSt.step, LstInv.init, CntSt.init, CntSt.step, CntInv.init, WhlSt.init, WhlSt.step]; omega))⟩, rfl, rfl, rfl, trivial⟩, ⟨⟨rfl, rfl, ⟨rfl, rfl, rfl, rfl, rfl, rfl, rfl, rfl, rfl, rfl, rfl, rfl, rfl, rfl, rfl, rfl, rfl, rfl, rfl, rfl, rfl, rfl, rfl, rfl, rfl, rfl, rfl, rfl, rfl, rfl, rfl, rfl, trivial⟩⟩, ⟨rfl, rfl, rfl⟩, trivial⟩, trivial⟩)
      refine seqE ?_
      have hg := donE hg (x5.outD hi5 hb5)
      exact leafE hown hg
    have hg := finE hg (x5.fin hi5)
    refine seqE ?_
    exact leafE hown hg
def impl_stampsOk_1 (p0 : Timer) (c0 : Trail) : Bool :=
  (bif (p0.Id == c0.Stamp) then (p0.Trace == c0.Id) else false)
theorem c_impl_stampsOk_1 (p0 : Timer) (c0 : Trail) : FnOk prog 116 [.agg (Timer.cells p0), .one (.q 4 [(Trail.cells false) c0] 0 0)] ⟨.one (.v (.bool (impl_stampsOk_1 p0 c0))), [], [], false⟩ := by
  refine FnOk.intro (E := env) envOk wide func116 rfl (by kernel_rfl) rfl rfl ?_
  have hg := impl_stampsOk_1.eq_1 p0 c0
  have hown : ∀ g : Bool, AV.Own (AV.one (.v (.bool g))) := fun g => .v _
  refine seqE ?_
  refine litE (m := 0) rfl ?_
  refine seqE ?_
  exact brQ hg (fun hg h1 => leafE hown hg) (fun hg h1 => leafE hown hg)
def slices_IndexFunc_STimer_Timer_c_impl_stampsOk_1_b1 (p1_0 : Trail) (i1 : Nat) (s1 : Unit) (a1 : Timer) : Step (Unit) Int :=
  (bif (impl_stampsOk_1 a1 p1_0) then (.done ((i1 : Nat) : Int)) else (.next ()))
def slices_IndexFunc_STimer_Timer_c_impl_stampsOk_1 (p0 : (List Timer)) (p1_0 : Trail) : Int :=
  (Fin.get (fun s1 => (-1)) (loopL (slices_IndexFunc_STimer_Timer_c_impl_stampsOk_1_b1 p1_0) 0 () p0))
theorem c_slices_IndexFunc_STimer_Timer_c_impl_stampsOk_1 (p0 : (List Timer)) (p1_0 : Trail) : FnOk prog 152 [.one (.s false 3 (List.map Timer.cells p0)), .one (.c 116 [.q 4 [(Trail.cells false) p1_0] 0 0])] ⟨.one (.v (.int .i64 (slices_IndexFunc_STimer_Timer_c_impl_stampsOk_1 p0 p1_0))), [], [], false⟩ := by
  refine FnOk.intro (E := env) envOk wide func152 rfl (by kernel_rfl) rfl rfl ?_
  have hg := slices_IndexFunc_STimer_Timer_c_impl_stampsOk_1.eq_1 p0 p1_0
  have hown : ∀ g : Int, AV.Own (AV.one (.v (.int .i64 g))) := fun g => .v _
  refine seqE ?_
  refine seqE ?_
  refine seqE ?_
  refine lenM fun hN1 => ?_
  refine loopLE hg [0, 1, 7] (fun x1 => [(8, .one (.v (.int .i64 ((x1.i : Nat) : Int))))]) (fun x1 => []) [] ?_ (fun x1 => ?_)
  · exact ⟨rfl, ⟨rfl, rfl, ⟨rfl, ⟨rfl, trivial⟩⟩, rfl, trivial⟩, trivial, trivial⟩
  refine seqE ?_
  refine seqE ?_
  refine tstL (fun hi1 => ?_) (fun hi1 => ?_)
  · have hb1 := (x1.bdy hi1).trans (slices_IndexFunc_STimer_Timer_c_impl_stampsOk_1_b1.eq_1 ..)
    have hw1 := wrap_succ hi1 (by first | assumption | omega)
    refine seqE ?_
    refine seqE ?_
    refine seqE ?_
    refine idxAt hi1 ?_
    refine .inl (⟨_, _, c_impl_stampsOk_1 (p0[x1.i]'hi1) p1_0, (FzAs.same _), ?_⟩)
    refine litE (m := 1) rfl ?_
    refine brE hb1 (fun hb1 h2 => ?_) (fun hb1 h2 => x1.goE hi1 hb1 [] ⟨rfl, ⟨(eqInt hw1), rfl, ⟨rfl, ⟨rfl, trivial⟩⟩, rfl, trivial⟩, trivial, trivial⟩)
    refine seqE ?_
    have hg := donE hg (x1.outD hi1 hb1)
    exact leafE hown hg
  have hg := finE hg (x1.fin hi1)
  refine seqE ?_
  exact leafE hown hg
def slices_ContainsFunc_STimer_Timer_c_impl_stampsOk_1 (p0 : (List Timer)) (p1_0 : Trail) : Bool :=
  (decide ((slices_IndexFunc_STimer_Timer_c_impl_stampsOk_1 p0 p1_0) ≥ 0))
theorem c_slices_ContainsFunc_STimer_Timer_c_impl_stampsOk_1 (p0 : (List Timer)) (p1_0 : Trail) : FnOk prog 115 [.one (.s false 3 (List.map Timer.cells p0)), .one (.c 116 [.q 4 [(Trail.cells false) p1_0] 0 0])] ⟨.one (.v (.bool (slices_ContainsFunc_STimer_Timer_c_impl_stampsOk_1 p0 p1_0))), [], [], false⟩ := by
  refine FnOk.intro (E := env) envOk wide func115 rfl (by kernel_rfl) rfl rfl ?_
  have hg := slices_ContainsFunc_STimer_Timer_c_impl_stampsOk_1.eq_1 p0 p1_0
  have hown : ∀ g : Bool, AV.Own (AV.one (.v (.bool g))) := fun g => .v _
  refine seqE ?_
  refine seqE ?_
  refine .inl (⟨_, _, c_slices_IndexFunc_STimer_Timer_c_impl_stampsOk_1 p0 p1_0, (FzAs.same _), ?_⟩)
  refine litE (m := 1) rfl ?_
  exact leafE hown hg
def impl_stampsOk_2 (p0 : Int) (c0 : World) : Bool :=
  (decide (p0 ≥ c0.Next))
theorem c_impl_stampsOk_2 (p0 : Int) (c0 : World) : FnOk prog 118 [.one (.v (.int .i64 p0)), .one (.q 32 [(World.cells false) c0] 0 0)] ⟨.one (.v (.bool (impl_stampsOk_2 p0 c0))), [], [], false⟩ := by
  refine FnOk.intro (E := env) envOk wide func118 rfl (by kernel_rfl) rfl rfl ?_
  have hg := impl_stampsOk_2.eq_1 p0 c0
  have hown : ∀ g : Bool, AV.Own (AV.one (.v (.bool g))) := fun g => .v _
  refine seqE ?_
  refine seqE ?_
  exact leafE hown hg
def slices_IndexFunc_Sint_int_c_impl_stampsOk_2_b1 (p1_0 : World) (i1 : Nat) (s1 : Unit) (a1 : Int) : Step (Unit) Int :=
  (bif (impl_stampsOk_2 a1 p1_0) then (.done ((i1 : Nat) : Int)) else (.next ()))
def slices_IndexFunc_Sint_int_c_impl_stampsOk_2 (p0 : (List Int)) (p1_0 : World) : Int :=
  (Fin.get (fun s1 => (-1)) (loopL (slices_IndexFunc_Sint_int_c_impl_stampsOk_2_b1 p1_0) 0 () p0))
theorem c_slices_IndexFunc_Sint_int_c_impl_stampsOk_2 (p0 : (List Int)) (p1_0 : World) : FnOk prog 153 [.one (.s false 1 (List.map cInt p0)), .one (.c 118 [.q 32 [(World.cells false) p1_0] 0 0])] ⟨.one (.v (.int .i64 (slices_IndexFunc_Sint_int_c_impl_stampsOk_2 p0 p1_0))), [], [], false⟩ := by
  refine FnOk.intro (E := env) envOk wide func153 rfl (by kernel_rfl) rfl rfl ?_
  have hg := slices_IndexFunc_Sint_int_c_impl_stampsOk_2.eq_1 p0 p1_0
  have hown : ∀ g : Int, AV.Own (AV.one (.v (.int .i64 g))) := fun g => .v _
  refine seqE ?_
  refine seqE ?_
  refine seqE ?_
  refine lenM fun hN1 => ?_
  refine loopLE hg [0, 1, 7] (fun x1 => [(8, .one (.v (.int .i64 ((x1.i : Nat) : Int))))]) (fun x1 => []) [] ?_ (fun x1 => ?_)
  · exact ⟨rfl, ⟨rfl, rfl, ⟨rfl, ⟨rfl, trivial⟩⟩, rfl, trivial⟩, trivial, trivial⟩
  refine seqE ?_
  refine seqE ?_
  refine tstL (fun hi1 => ?_) (fun hi1 => ?_)
  · have hb1 := (x1.bdy hi1).trans (slices_IndexFunc_Sint_int_c_impl_stampsOk_2_b1.eq_1 ..)
    have hw1 := wrap_succ hi1 (by first | assumption | omega)
    refine seqE ?_
    refine seqE ?_
    refine seqE ?_
    refine idxAt hi1 ?_
    refine .inl (⟨_, _, c_impl_stampsOk_2 (p0[x1.i]'hi1) p1_0, (FzAs.same _), ?_⟩)
    refine litE (m := 1) rfl ?_
    refine brE hb1 (fun hb1 h2 => ?_) (fun hb1 h2 => x1.goE hi1 hb1 [] ⟨rfl, ⟨(eqInt hw1), rfl, ⟨rfl, ⟨rfl, trivial⟩⟩, rfl, trivial⟩, trivial, trivial⟩)
    refine seqE ?_
    have hg := donE hg (x1.outD hi1 hb1)
    exact leafE hown hg
  have hg := finE hg (x1.fin hi1)
  refine seqE ?_
  exact leafE hown hg
def slices_ContainsFunc_Sint_int_c_impl_stampsOk_2 (p0 : (List Int)) (p1_0 : World) : Bool :=
  (decide ((slices_IndexFunc_Sint_int_c_impl_stampsOk_2 p0 p1_0) ≥ 0))
theorem c_slices_ContainsFunc_Sint_int_c_impl_stampsOk_2 (p0 : (List Int)) (p1_0 : World) : FnOk prog 117 [.one (.s false 1 (List.map cInt p0)), .one (.c 118 [.q 32 [(World.cells false) p1_0] 0 0])] ⟨.one (.v (.bool (slices_ContainsFunc_Sint_int_c_impl_stampsOk_2 p0 p1_0))), [], [], false⟩ := by
  refine FnOk.intro (E := env) envOk wide func117 rfl (by kernel_rfl) rfl rfl ?_
  have hg := slices_ContainsFunc_Sint_int_c_impl_stampsOk_2.eq_1 p0 p1_0
  have hown : ∀ g : Bool, AV.Own (AV.one (.v (.bool g))) := fun g => .v _
  refine seqE ?_
  refine seqE ?_
  refine .inl (⟨_, _, c_slices_IndexFunc_Sint_int_c_impl_stampsOk_2 p0 p1_0, (FzAs.same _), ?_⟩)
  refine litE (m := 1) rfl ?_
  exact leafE hown hg
def impl_stampsOk_b4 (s3 : (List Timer) × (List Int)) (i4 : Nat) (s4 : (List Int)) (a4 : Trail) : Step ((List Int)) Bool :=
  (bif (!(slices_ContainsFunc_STimer_Timer_c_impl_stampsOk_1 s3.1 a4)) then (.done false) else (.next (s4 ++ [a4.Stamp])))
def impl_stampsOk_b3 (i3 : Nat) (s3 : (List Timer) × (List Int)) (a3 : Task) : Step ((List Timer) × (List Int)) Bool :=
  (bif (a3.Op == 2) then (bif (a3.Pc != 3) then (.next ((s3.1 ++ [(Timer.mk a3.Stamp a3.Trace 0)]), (s3.2 ++ [a3.Stamp]))) else (.next (s3.1, (s3.2 ++ [a3.Stamp])))) else (.next (s3.1, (s3.2 ++ [a3.Stamp]))))
def impl_stampsOk_b2 (i2 : Nat) (s2 : (List Int)) (a2 : Verdict) : Step ((List Int)) Bool :=
  (.next (s2 ++ [a2.Stamp]))
def impl_stampsOk_b1 (i1 : Nat) (s1 : (List Int)) (a1 : Timer) : Step ((List Int)) Bool :=
  (.next (s1 ++ [a1.Id]))
def impl_stampsOk (p0 : World) : Bool :=
  (Fin.get (fun s1 => (Fin.get (fun s2 => (Fin.get (fun s3 => (Fin.get (fun s4 => (!(slices_ContainsFunc_Sint_int_c_impl_stampsOk_2 s4 p0))) (loopL (impl_stampsOk_b4 s3) 0 s3.2 (impl_allTrails p0.St)))) (loopL impl_stampsOk_b3 0 (((impl_Timers p0.W) ++ p0.Due), s2) p0.Tasks))) (loopL impl_stampsOk_b2 0 s1 p0.Cache))) (loopL impl_stampsOk_b1 0 ([] : List Int) ((impl_Timers p0.W) ++ p0.Due)))
theorem c_impl_stampsOk (p0 : World) (hs : World.bd 1048576 p0) : FnOk prog 71 [.agg ((World.cells false) p0)] ⟨.one (.v (.bool (impl_stampsOk p0))), [], [], false⟩ := by
  refine FnOk.intro (E := env) envOk wide func71 rfl (by kernel_rfl) rfl rfl ?_
  have hg := impl_stampsOk.eq_1 p0
  have hown : ∀ g : Bool, AV.Own (AV.one (.v (.bool g))) := fun g => .v _
  refine seqE ?_
  refine litE (m := 0) rfl ?_
  refine seqE ?_
  refine seqE ?_
  refine .inr (.inl ⟨5, [(0, true), (1, true), (3, true), (4, true), (2, false)], by kernel_rfl, ?_⟩)
  refine ⟨_, _, c_impl_Timers p0.W (by first | exact hs | exact hs.2.1 | exact hs.2.2.2.1 | exact trivial), (FzAs.same _), ?_⟩
  refine litE (m := 2) rfl ?_
  refine .inl ?_
  refine rowsE (Y := List.map Timer.cells ((impl_Timers p0.W) ++ p0.Due)) (by first | rfl | (simp [subR0, subR1, -List.map_take, -List.map_drop, take_map', drop_map', fz_Timer, fl_Timer, fzMap fz_Timer, flMap fl_Timer]; done) | (simp [subR0, subR1, -List.map_take, -List.map_drop, take_map', drop_map', fz_Timer, fl_Timer, fzMap fz_Timer, flMap fl_Timer]; rfl)) ?_
  refine appB (b := 24) (hs := by have t1 := impl_Timers_len p0.W hs.2.2.2.1; have t2 : p0.Due.length ≤ 1048576 := hs.2.2.2.2.1.1; have t3 : p0.Cache.length ≤ 1048576 := hs.2.2.1.1; have t4 : p0.Tasks.length ≤ 1048576 := hs.2.2.2.2.2.2.2.1.1; have t5 := allTrails_len p0.St hs.2.1; (try have q1 := hI1); (try have q2 := hI2); (try have q3 := hI3.1); (try have q7 := hI3.2); (try have q4 := hI4); (try have y1 := x1.h); (try have y2 := x2.h); (try have y3 := x3.h); (try have y4 := x4.h); (try simp only [List.length_append] at y1); refine ⟨?_, ?_⟩; (show List.length _ * 24 ≤ _); (try simp only [List.length_map, List.length_append, List.length_cons, List.length_nil, List.length_take, List.length_drop]); omega; (try simp only [List.length_map, List.length_append, List.length_cons, List.length_nil, List.length_take, List.length_drop]); omega) ?_
  refine litE (m := 3) rfl ?_
  refine seqE ?_
  refine seqE ?_
  refine lenE (k := (((impl_Timers p0.W) ++ p0.Due)).length) (by simp) (fun hN1 => ?_)
  refine loopLI (fun (i : Nat) (s : List Int) => s.length ≤ i) hg (Nat.le_refl _) [1, 4, 19, 20] (fun x1 => [(3, .one (.n 4 [] 1 0 (x1.s).length)), (21, .one (.v (.int .i64 ((x1.i : Nat) : Int))))]) (fun x1 => [.keep 0, .dead, .dead, .keep 3, .new ⟨1, false, List.map cInt x1.s, 0⟩]) [some 0, none, none, some 3, none] ?_ (fun x1 => ?_)
  · exact ⟨rfl, ⟨⟨rfl, rfl, rfl, rfl, rfl⟩, rfl, ⟨rfl, rfl, rfl, rfl⟩, ⟨rfl, rfl, rfl, rfl, by (first | rfl | omega | (dsimp only; omega) | (simp; done) | (simp; omega) | (simp [LstSt.init, LstSt.step, LstInv.init, CntSt.init, CntSt.step, CntInv.init, WhlSt.init, WhlSt.step]; done) | (simp [LstSt.init, LstSt.step, LstInv.init, CntSt.init, CntSt.step, CntInv.init, WhlSt.init, WhlSt.step]; omega))⟩, ⟨rfl, rfl, rfl, rfl, by (first | rfl | omega | (dsimp only; omega) | (simp; done) | (simp; omega) | (simp [LstSt.init, LstSt.step, LstInv.init, CntSt.init, CntSt.step, CntInv.init, WhlSt.init, WhlSt.step]; done) | (simp [LstSt.init, LstSt.step, LstInv.init, CntSt.init, CntSt.step, CntInv.init, WhlSt.init, WhlSt.step]; omega))⟩, rfl, trivial⟩, ⟨⟨rfl, rfl, ⟨rfl, rfl, rfl, rfl, rfl, rfl, rfl, rfl, rfl, rfl, rfl, rfl, rfl, rfl, rfl, rfl, rfl, rfl, rfl, rfl, rfl, rfl, rfl, rfl, rfl, rfl, rfl, rfl, rfl, rfl, rfl, rfl, trivial⟩⟩, ⟨rfl, rfl, rfl⟩, ⟨rfl, rfl⟩, trivial⟩, trivial⟩
  have hI1 := x1.hI
  try dsimp only at hI1
  refine seqE ?_
  refine seqE ?_
  refine tstL (fun hi1 => ?_) (fun hi1 => ?_)
  · have hb1 := (x1.bdy hi1).trans (impl_stampsOk_b1.eq_1 ..)
    have hw1 := wrap_succ hi1 (by first | assumption | omega)
    refine seqE ?_
    refine seqE ?_
    refine andE (by (first | omega | (simp (disch := omega) only [wrap_small, mid_eq, List.length_map]; omega) | (simp; done) | (simp; omega) | (simp at *; omega) | (simp at *; done) | (simp_all; done) | (simp_all; omega))) ?_
    refine rowAtE (i := x1.i) (l := ((impl_Timers p0.W) ++ p0.Due)) (by first | rfl | exact Nat.zero_add _ | simp) hi1 ?_
    refine litE (m := 5) rfl ?_
    refine litE (m := 6) rfl ?_
    refine .inl ?_
    refine rowsE (Y := List.map cInt (x1.s ++ [(((impl_Timers p0.W) ++ p0.Due)[x1.i]'hi1).Id])) (by first | rfl | (simp [subR0, subR1, -List.map_take, -List.map_drop, take_map', drop_map', fz_cInt, fl_cInt, fzMap fz_cInt, flMap fl_cInt]; done) | (simp [subR0, subR1, -List.map_take, -List.map_drop, take_map', drop_map', fz_cInt, fl_cInt, fzMap fz_cInt, flMap fl_cInt]; rfl)) ?_
    refine appB (b := 8) (hs := by have t1 := impl_Timers_len p0.W hs.2.2.2.1; have t2 : p0.Due.length ≤ 1048576 := hs.2.2.2.2.1.1; have t3 : p0.Cache.length ≤ 1048576 := hs.2.2.1.1; have t4 : p0.Tasks.length ≤ 1048576 := hs.2.2.2.2.2.2.2.1.1; have t5 := allTrails_len p0.St hs.2.1; (try have q1 := hI1); (try have q2 := hI2); (try have q3 := hI3.1); (try have q7 := hI3.2); (try have q4 := hI4); (try have y1 := x1.h); (try have y2 := x2.h); (try have y3 := x3.h); (try have y4 := x4.h); (try simp only [List.length_append] at y1); refine ⟨?_, ?_⟩; (show List.length _ * 8 ≤ _); (try simp only [List.length_map, List.length_append, List.length_cons, List.length_nil, List.length_take, List.length_drop]); omega; (try simp only [List.length_map, List.length_append, List.length_cons, List.length_nil, List.length_take, List.length_drop]); omega) ?_
    refine litE (m := 7) rfl ?_
    exact x1.goE hi1 hb1 (by have q1 := hI1; simp only [List.length_map, List.length_append, List.length_cons, List.length_nil, List.length_take, List.length_drop]; omega) [some 0, none, none, some 3, some 7] ⟨rfl, ⟨⟨rfl, rfl, rfl, rfl, by (first | rfl | omega | (dsimp only; omega) | (simp; done) | (simp; omega) | (simp [LstSt.init, LstSt.step, LstInv.init, CntSt.init, CntSt.step, CntInv.init, WhlSt.init, WhlSt.step]; done) | (simp [LstSt.init, LstSt.step, LstInv.init, CntSt.init, CntSt.step, CntInv.init, WhlSt.init, WhlSt.step]; omega))⟩, (eqInt hw1), ⟨rfl, rfl, rfl, rfl⟩, ⟨rfl, rfl, rfl, rfl, by (first | rfl | omega | (dsimp only; omega) | (simp; done) | (simp; omega) | (simp [LstSt.init, LstSt.step, LstInv.init, CntSt.init, CntSt.step, CntInv.init, WhlSt.init, WhlSt.step]; done) | (simp [LstSt.init, LstSt.step, LstInv.init, CntSt.init, CntSt.step, CntInv.init, WhlSt.init, WhlSt.step]; omega))⟩, ⟨rfl, rfl, rfl, rfl, by (first | rfl | omega | (dsimp only; omega) | (simp; done) | (simp; omega) | (simp [LstSt.init, LstSt.step, LstInv.init, CntSt.init, CntSt.step, CntInv.init, WhlSt.init, WhlSt.step]; done) | (simp [LstSt.init, LstSt.step, LstInv.init, CntSt.init, CntSt.step, CntInv.init, WhlSt.init, WhlSt.step]; omega))⟩, rfl, trivial⟩, ⟨⟨rfl, rfl, ⟨rfl, rfl, rfl, rfl, rfl, rfl, rfl, rfl, rfl, rfl, rfl, rfl, rfl, rfl, rfl, rfl, rfl, rfl, rfl, rfl, rfl, rfl, rfl, rfl, rfl, rfl, rfl, rfl, rfl, rfl, rfl, rfl, trivial⟩⟩, ⟨rfl, rfl, rfl⟩, ⟨rfl, rfl, rfl⟩, trivial⟩, trivial⟩
  have hg := finE hg (x1.fin hi1)
  refine seqE ?_
  refine seqE ?_
  refine lenM fun hN2 => ?_
  refine loopLI (fun (i : Nat) (s : List Int) => s.length ≤ 2199025352704 + i) hg (by have t1 := impl_Timers_len p0.W hs.2.2.2.1; have t2 : p0.Due.length ≤ 1048576 := hs.2.2.2.2.1.1; have t3 : p0.Cache.length ≤ 1048576 := hs.2.2.1.1; have t4 : p0.Tasks.length ≤ 1048576 := hs.2.2.2.2.2.2.2.1.1; have t5 := allTrails_len p0.St hs.2.1; have q := hI1; have q2 := x1.h; simp only [List.length_append] at q2; show List.length x1.s ≤ _; omega) [1, 4, 32, 33] (fun x2 => [(3, .one (.n 4 [] 1 0 (x2.s).length)), (34, .one (.v (.int .i64 ((x2.i : Nat) : Int))))]) (fun x2 => [.keep 0, .dead, .dead, .keep 3, .new ⟨1, false, List.map cInt x2.s, 0⟩]) [some 0, none, none, some 3, some 4] ?_ (fun x2 => ?_)
  · exact ⟨rfl, ⟨⟨rfl, rfl, rfl, rfl, by (first | rfl | omega | (dsimp only; omega) | (simp; done) | (simp; omega) | (simp [LstSt.init, LstSt.step, LstInv.init, CntSt.init, CntSt.step, CntInv.init, WhlSt.init, WhlSt.step]; done) | (simp [LstSt.init, LstSt.step, LstInv.init, CntSt.init, CntSt.step, CntInv.init, WhlSt.init, WhlSt.step]; omega))⟩, rfl, ⟨rfl, rfl, rfl, rfl⟩, ⟨rfl, rfl, rfl, rfl, by (first | rfl | omega | (dsimp only; omega) | (simp; done) | (simp; omega) | (simp [LstSt.init, LstSt.step, LstInv.init, CntSt.init, CntSt.step, CntInv.init, WhlSt.init, WhlSt.step]; done) | (simp [LstSt.init, LstSt.step, LstInv.init, CntSt.init, CntSt.step, CntInv.init, WhlSt.init, WhlSt.step]; omega))⟩, rfl, rfl, trivial⟩, ⟨⟨rfl, rfl, ⟨rfl, rfl, rfl, rfl, rfl, rfl, rfl, rfl, rfl, rfl, rfl, rfl, rfl, rfl, rfl, rfl, rfl, rfl, rfl, rfl, rfl, rfl, rfl, rfl, rfl, rfl, rfl, rfl, rfl, rfl, rfl, rfl, trivial⟩⟩, ⟨rfl, rfl, rfl⟩, ⟨rfl, rfl, rfl⟩, trivial⟩, trivial⟩
  have hI2 := x2.hI
  try dsimp only at hI2
  refine seqE ?_
  refine seqE ?_
  refine tstL (fun hi2 => ?_) (fun hi2 => ?_)
  · have hb2 := (x2.bdy hi2).trans (impl_stampsOk_b2.eq_1 ..)
    have hw2 := wrap_succ hi2 (by first | assumption | omega)
    refine seqE ?_
    refine seqE ?_
    refine idxAt hi2 ?_
    refine litE (m := 5) rfl ?_
    refine litE (m := 6) rfl ?_
    refine .inl ?_
    refine rowsE (Y := List.map cInt (x2.s ++ [(p0.Cache[x2.i]'hi2).Stamp])) (by first | rfl | (simp [subR0, subR1, -List.map_take, -List.map_drop, take_map', drop_map', fz_cInt, fl_cInt, fzMap fz_cInt, flMap fl_cInt]; done) | (simp [subR0, subR1, -List.map_take, -List.map_drop, take_map', drop_map', fz_cInt, fl_cInt, fzMap fz_cInt, flMap fl_cInt]; rfl)) ?_
    refine appB (b := 8) (hs := by have t1 := impl_Timers_len p0.W hs.2.2.2.1; have t2 : p0.Due.length ≤ 1048576 := hs.2.2.2.2.1.1; have t3 : p0.Cache.length ≤ 1048576 := hs.2.2.1.1; have t4 : p0.Tasks.length ≤ 1048576 := hs.2.2.2.2.2.2.2.1.1; have t5 := allTrails_len p0.St hs.2.1; (try have q1 := hI1); (try have q2 := hI2); (try have q3 := hI3.1); (try have q7 := hI3.2); (try have q4 := hI4); (try have y1 := x1.h); (try have y2 := x2.h); (try have y3 := x3.h); (try have y4 := x4.h); (try simp only [List.length_append] at y1); refine ⟨?_, ?_⟩; (show List.length _ * 8 ≤ _); (try simp only [List.length_map, List.length_append, List.length_cons, List.length_nil, List.length_take, List.length_drop]); omega; (try simp only [List.length_map, List.length_append, List.length_cons, List.length_nil, List.length_take, List.length_drop]); omega) ?_
    refine litE (m := 7) rfl ?_
    exact x2.goE hi2 hb2 (by have q1 := hI2; simp only [List.length_map, List.length_append, List.length_cons, List.length_nil, List.length_take, List.length_drop]; omega) [some 0, none, none, some 3, some 7] ⟨rfl, ⟨⟨rfl, rfl, rfl, rfl, by (first | rfl | omega | (dsimp only; omega) | (simp; done) | (simp; omega) | (simp [LstSt.init, LstSt.step, LstInv.init, CntSt.init, CntSt.step, CntInv.init, WhlSt.init, WhlSt.step]; done) | (simp [LstSt.init, LstSt.step, LstInv.init, CntSt.init, CntSt.step, CntInv.init, WhlSt.init, WhlSt.step]; omega))⟩, (eqInt hw2), ⟨rfl, rfl, rfl, rfl⟩, ⟨rfl, rfl, rfl, rfl, by (first | rfl | omega | (dsimp only; omega) | (simp; done) | (simp; omega) | (simp [LstSt.init, LstSt.step, LstInv.init, CntSt.init, CntSt.step, CntInv.init, WhlSt.init, WhlSt.step]; done) | (simp [LstSt.init, LstSt.step, LstInv.init, CntSt.init, CntSt.step, CntInv.init, WhlSt.init, WhlSt.step]; omega))⟩, rfl, rfl, trivial⟩, ⟨⟨rfl, rfl, ⟨rfl, rfl, rfl, rfl, rfl, rfl, rfl, rfl, rfl, rfl, rfl, rfl, rfl, rfl, rfl, rfl, rfl, rfl, rfl, rfl, rfl, rfl, rfl, rfl, rfl, rfl, rfl, rfl, rfl, rfl, rfl, rfl, trivial⟩⟩, ⟨rfl, rfl, rfl⟩, ⟨rfl, rfl, rfl⟩, trivial⟩, trivial⟩
  have hg := finE hg (x2.fin hi2)
  refine seqE ?_
  refine seqE ?_
  refine lenM fun hN3 => ?_
  refine loopLI (fun (i : Nat) (s : List Timer × List Int) => s.1.length ≤ 2199025352704 + i ∧ s.2.length ≤ 2199026401280 + i) hg (by have t1 := impl_Timers_len p0.W hs.2.2.2.1; have t2 : p0.Due.length ≤ 1048576 := hs.2.2.2.2.1.1; have t3 : p0.Cache.length ≤ 1048576 := hs.2.2.1.1; have t4 : p0.Tasks.length ≤ 1048576 := hs.2.2.2.2.2.2.2.1.1; have t5 := allTrails_len p0.St hs.2.1; have q := hI2; have q2 := x2.h; refine ⟨?_, ?_⟩; (show List.length (_ ++ _) ≤ _; rw [List.length_append]; omega); (show List.length x2.s ≤ _; omega)) [1, 45, 46] (fun x3 => [(3, .one (.n 4 [] 1 0 (x3.s.2).length)), (4, .one (.n 3 [] 1 0 (x3.s.1).length)), (47, .one (.v (.int .i64 ((x3.i : Nat) : Int))))]) (fun x3 => [.keep 0, .dead, .dead, .new ⟨3, false, List.map Timer.cells x3.s.1, 0⟩, .new ⟨1, false, List.map cInt x3.s.2, 0⟩]) [some 0, none, none, some 3, some 4] ?_ (fun x3 => ?_)
  · exact ⟨rfl, ⟨⟨rfl, rfl, rfl, rfl, by (first | rfl | omega | (dsimp only; omega) | (simp; done) | (simp; omega) | (simp [LstSt.init, LstSt.step, LstInv.init, CntSt.init, CntSt.step, CntInv.init, WhlSt.init, WhlSt.step]; done) | (simp [LstSt.init, LstSt.step, LstInv.init, CntSt.init, CntSt.step, CntInv.init, WhlSt.init, WhlSt.step]; omega))⟩, ⟨rfl, rfl, rfl, rfl, by (first | rfl | omega | (dsimp only; omega) | (simp; done) | (simp; omega) | (simp [LstSt.init, LstSt.step, LstInv.init, CntSt.init, CntSt.step, CntInv.init, WhlSt.init, WhlSt.step]; done) | (simp [LstSt.init, LstSt.step, LstInv.init, CntSt.init, CntSt.step, CntInv.init, WhlSt.init, WhlSt.step]; omega))⟩, rfl, ⟨rfl, rfl, rfl, rfl⟩, rfl, rfl, trivial⟩, ⟨⟨rfl, rfl, ⟨rfl, rfl, rfl, rfl, rfl, rfl, rfl, rfl, rfl, rfl, rfl, rfl, rfl, rfl, rfl, rfl, rfl, rfl, rfl, rfl, rfl, rfl, rfl, rfl, rfl, rfl, rfl, rfl, rfl, rfl, rfl, rfl, trivial⟩⟩, ⟨rfl, rfl, rfl⟩, ⟨rfl, rfl, rfl⟩, trivial⟩, trivial⟩
  have hI3 := x3.hI
  try dsimp only at hI3
  refine seqE ?_
  refine seqE ?_
  refine tstL (fun hi3 => ?_) (fun hi3 => ?_)
  · have hb3 := (x3.bdy hi3).trans (impl_stampsOk_b3.eq_1 ..)
    have hw3 := wrap_succ hi3 (by first | assumption | omega)
    refine seqE ?_
    refine seqE ?_
    refine idxAt hi3 ?_
    refine litE (m := 5) rfl ?_
    refine seqE ?_
    refine litE (m := 6) rfl ?_
    refine .inl ?_
    refine rowsE (Y := List.map cInt (x3.s.2 ++ [(p0.Tasks[x3.i]'hi3).Stamp])) (by first | rfl | (simp [subR0, subR1, -List.map_take, -List.map_drop, take_map', drop_map', fz_cInt, fl_cInt, fzMap fz_cInt, flMap fl_cInt]; done) | (simp [subR0, subR1, -List.map_take, -List.map_drop, take_map', drop_map', fz_cInt, fl_cInt, fzMap fz_cInt, flMap fl_cInt]; rfl)) ?_
    refine appB (b := 8) (hs := by have t1 := impl_Timers_len p0.W hs.2.2.2.1; have t2 : p0.Due.length ≤ 1048576 := hs.2.2.2.2.1.1; have t3 : p0.Cache.length ≤ 1048576 := hs.2.2.1.1; have t4 : p0.Tasks.length ≤ 1048576 := hs.2.2.2.2.2.2.2.1.1; have t5 := allTrails_len p0.St hs.2.1; (try have q1 := hI1); (try have q2 := hI2); (try have q3 := hI3.1); (try have q7 := hI3.2); (try have q4 := hI4); (try have y1 := x1.h); (try have y2 := x2.h); (try have y3 := x3.h); (try have y4 := x4.h); (try simp only [List.length_append] at y1); refine ⟨?_, ?_⟩; (show List.length _ * 8 ≤ _); (try simp only [List.length_map, List.length_append, List.length_cons, List.length_nil, List.length_take, List.length_drop]); omega; (try simp only [List.length_map, List.length_append, List.length_cons, List.length_nil, List.length_take, List.length_drop]); omega) ?_
    refine litE (m := 7) rfl ?_
    refine seqE ?_
    refine brQ hb3 (fun hb3 h4 => ?_) (fun hb3 h4 => x3.goE hi3 hb3 (by have q1 := hI3.1; have q2 := hI3.2; refine ⟨?_, ?_⟩; (simp only [List.length_map, List.length_append, List.length_cons, List.length_nil, List.length_take, List.length_drop]; omega); (simp only [List.length_map, List.length_append, List.length_cons, List.length_nil, List.length_take, List.length_drop]; omega)) [some 0, none, none, some 3, some 7] ⟨rfl, ⟨⟨rfl, rfl, rfl, rfl, by (first | rfl | omega | (dsimp only; omega) | (simp; done) | (simp; omega) | (simp [LstSt.init, LstSt.step, LstInv.init, CntSt.init, CntSt.step, CntInv.init, WhlSt.init, WhlSt.step]; done) | (simp [LstSt.init, LstSt.step, LstInv.init, CntSt.init, CntSt.step, CntInv.init, WhlSt.init, WhlSt.step]; omega))⟩, ⟨rfl, rfl, rfl, rfl, by (first | rfl | omega | (dsimp only; omega) | (simp; done) | (simp; omega) | (simp [LstSt.init, LstSt.step, LstInv.init, CntSt.init, CntSt.step, CntInv.init, WhlSt.init, WhlSt.step]; done) | (simp [LstSt.init, LstSt.step, LstInv.init, CntSt.init, CntSt.step, CntInv.init, WhlSt.init, WhlSt.step]; omega))⟩, (eqInt hw3), ⟨rfl, rfl, rfl, rfl⟩, rfl, rfl, trivial⟩, ⟨⟨rfl, rfl, ⟨rfl, rfl, rfl, rfl, rfl, rfl, rfl, rfl, rfl, rfl, rfl, rfl, rfl, rfl, rfl, rfl, rfl, rfl, rfl, rfl, rfl, rfl, rfl, rfl, rfl, rfl, rfl, rfl, rfl, rfl, rfl, rfl, trivial⟩⟩, ⟨rfl, rfl, rfl⟩, ⟨rfl, rfl, rfl⟩, trivial⟩, trivial⟩)
    refine brW hb3 (fun hb3 h5 => ?_) (fun hb3 h5 => x3.goE hi3 hb3 (by have q1 := hI3.1; have q2 := hI3.2; refine ⟨?_, ?_⟩; (simp only [List.length_map, List.length_append, List.length_cons, List.length_nil, List.length_take, List.length_drop]; omega); (simp only [List.length_map, List.length_append, List.length_cons, List.length_nil, List.length_take, List.length_drop]; omega)) [some 0, none, none, some 3, some 7] ⟨rfl, ⟨⟨rfl, rfl, rfl, rfl, by (first | rfl | omega | (dsimp only; omega) | (simp; done) | (simp; omega) | (simp [LstSt.init, LstSt.step, LstInv.init, CntSt.init, CntSt.step, CntInv.init, WhlSt.init, WhlSt.step]; done) | (simp [LstSt.init, LstSt.step, LstInv.init, CntSt.init, CntSt.step, CntInv.init, WhlSt.init, WhlSt.step]; omega))⟩, ⟨rfl, rfl, rfl, rfl, by (first | rfl | omega | (dsimp only; omega) | (simp; done) | (simp; omega) | (simp [LstSt.init, LstSt.step, LstInv.init, CntSt.init, CntSt.step, CntInv.init, WhlSt.init, WhlSt.step]; done) | (simp [LstSt.init, LstSt.step, LstInv.init, CntSt.init, CntSt.step, CntInv.init, WhlSt.init, WhlSt.step]; omega))⟩, (eqInt hw3), ⟨rfl, rfl, rfl, rfl⟩, rfl, rfl, trivial⟩, ⟨⟨rfl, rfl, ⟨rfl, rfl, rfl, rfl, rfl, rfl, rfl, rfl, rfl, rfl, rfl, rfl, rfl, rfl, rfl, rfl, rfl, rfl, rfl, rfl, rfl, rfl, rfl, rfl, rfl, rfl, rfl, rfl, rfl, rfl, rfl, rfl, trivial⟩⟩, ⟨rfl, rfl, rfl⟩, ⟨rfl, rfl, rfl⟩, trivial⟩, trivial⟩)
    refine litE (m := 8) rfl ?_
    refine .inl ?_
    refine rowsE (Y := List.map Timer.cells (x3.s.1 ++ [(Timer.mk (p0.Tasks[x3.i]'hi3).Stamp (p0.Tasks[x3.i]'hi3).Trace 0)])) (by first | rfl | (simp [subR0, subR1, -List.map_take, -List.map_drop, take_map', drop_map', fz_Timer, fl_Timer, fzMap fz_Timer, flMap fl_Timer]; done) | (simp [subR0, subR1, -List.map_take, -List.map_drop, take_map', drop_map', fz_Timer, fl_Timer, fzMap fz_Timer, flMap fl_Timer]; rfl)) ?_
    refine appB (b := 24) (hs := by have t1 := impl_Timers_len p0.W hs.2.2.2.1; have t2 : p0.Due.length ≤ 1048576 := hs.2.2.2.2.1.1; have t3 : p0.Cache.length ≤ 1048576 := hs.2.2.1.1; have t4 : p0.Tasks.length ≤ 1048576 := hs.2.2.2.2.2.2.2.1.1; have t5 := allTrails_len p0.St hs.2.1; (try have q1 := hI1); (try have q2 := hI2); (try have q3 := hI3.1); (try have q7 := hI3.2); (try have q4 := hI4); (try have y1 := x1.h); (try have y2 := x2.h); (try have y3 := x3.h); (try have y4 := x4.h); (try simp only [List.length_append] at y1); refine ⟨?_, ?_⟩; (show List.length _ * 24 ≤ _); (try simp only [List.length_map, List.length_append, List.length_cons, List.length_nil, List.length_take, List.length_drop]); omega; (try simp only [List.length_map, List.length_append, List.length_cons, List.length_nil, List.length_take, List.length_drop]); omega) ?_
    refine litE (m := 9) rfl ?_
    exact x3.goE hi3 hb3 (by have q1 := hI3.1; have q2 := hI3.2; refine ⟨?_, ?_⟩; (simp only [List.length_map, List.length_append, List.length_cons, List.length_nil, List.length_take, List.length_drop]; omega); (simp only [List.length_map, List.length_append, List.length_cons, List.length_nil, List.length_take, List.length_drop]; omega)) [some 0, none, none, some 9, some 7] ⟨rfl, ⟨⟨rfl, rfl, rfl, rfl, by (first | rfl | omega | (dsimp only; omega) | (simp; done) | (simp; omega) | (simp [LstSt.init, LstSt.step, LstInv.init, CntSt.init, CntSt.step, CntInv.init, WhlSt.init, WhlSt.step]; done) | (simp [LstSt.init, LstSt.step, LstInv.init, CntSt.init, CntSt.step, CntInv.init, WhlSt.init, WhlSt.step]; omega))⟩, ⟨rfl, rfl, rfl, rfl, by (first | rfl | omega | (dsimp only; omega) | (simp; done) | (simp; omega) | (simp [LstSt.init, LstSt.step, LstInv.init, CntSt.init, CntSt.step, CntInv.init, WhlSt.init, WhlSt.step]; done) | (simp [LstSt.init, LstSt.step, LstInv.init, CntSt.init, CntSt.step, CntInv.init, WhlSt.init, WhlSt.step]; omega))⟩, (eqInt hw3), ⟨rfl, rfl, rfl, rfl⟩, rfl, rfl, trivial⟩, ⟨⟨rfl, rfl, ⟨rfl, rfl, rfl, rfl, rfl, rfl, rfl, rfl, rfl, rfl, rfl, rfl, rfl, rfl, rfl, rfl, rfl, rfl, rfl, rfl, rfl, rfl, rfl, rfl, rfl, rfl, rfl, rfl, rfl, rfl, rfl, rfl, trivial⟩⟩, ⟨rfl, rfl, rfl⟩, ⟨rfl, rfl, rfl⟩, trivial⟩, trivial⟩
  have hg := finE hg (x3.fin hi3)
  refine seqE ?_
  refine seqE ?_
  refine .inl (⟨_, _, (FnOk.frz1 rfl (frzMap frz_Trail _) (c_impl_allTrails p0.St (by first | exact hs | exact hs.2.1 | exact hs.2.2.2.1 | exact trivial))), (FzAs.same _), ?_⟩)
  refine litE (m := 6) rfl ?_
  refine lenM fun hN6 => ?_
  refine loopLI (fun (i : Nat) (s : List Int) => s.length ≤ 2199027449856 + i) hg (by have t1 := impl_Timers_len p0.W hs.2.2.2.1; have t2 : p0.Due.length ≤ 1048576 := hs.2.2.2.2.1.1; have t3 : p0.Cache.length ≤ 1048576 := hs.2.2.1.1; have t4 : p0.Tasks.length ≤ 1048576 := hs.2.2.2.2.2.2.2.1.1; have t5 := allTrails_len p0.St hs.2.1; have q := hI3.2; have q2 := x3.h; show List.length x3.s.2 ≤ _; omega) [1, 4, 75, 76] (fun x4 => [(3, .one (.n 4 [] 1 0 (x4.s).length)), (77, .one (.v (.int .i64 ((x4.i : Nat) : Int))))]) (fun x4 => [.keep 0, .dead, .dead, .keep 3, .new ⟨1, false, List.map cInt x4.s, 0⟩, .dead]) [some 0, none, none, some 3, some 4, none] ?_ (fun x4 => ?_)
  · exact ⟨rfl, ⟨⟨rfl, rfl, rfl, rfl, by (first | rfl | omega | (dsimp only; omega) | (simp; done) | (simp; omega) | (simp [LstSt.init, LstSt.step, LstInv.init, CntSt.init, CntSt.step, CntInv.init, WhlSt.init, WhlSt.step]; done) | (simp [LstSt.init, LstSt.step, LstInv.init, CntSt.init, CntSt.step, CntInv.init, WhlSt.init, WhlSt.step]; omega))⟩, rfl, ⟨rfl, rfl, rfl, rfl⟩, ⟨rfl, rfl, rfl, rfl, by (first | rfl | omega | (dsimp only; omega) | (simp; done) | (simp; omega) | (simp [LstSt.init, LstSt.step, LstInv.init, CntSt.init, CntSt.step, CntInv.init, WhlSt.init, WhlSt.step]; done) | (simp [LstSt.init, LstSt.step, LstInv.init, CntSt.init, CntSt.step, CntInv.init, WhlSt.init, WhlSt.step]; omega))⟩, rfl, rfl, trivial⟩, ⟨⟨rfl, rfl, ⟨rfl, rfl, rfl, rfl, rfl, rfl, rfl, rfl, rfl, rfl, rfl, rfl, rfl, rfl, rfl, rfl, rfl, rfl, rfl, rfl, rfl, rfl, rfl, rfl, rfl, rfl, rfl, rfl, rfl, rfl, rfl, rfl, trivial⟩⟩, ⟨rfl, rfl, rfl⟩, ⟨rfl, rfl, rfl⟩, trivial⟩, trivial⟩
  have hI4 := x4.hI
  try dsimp only at hI4
  refine seqE ?_
  refine seqE ?_
  refine tstL (fun hi4 => ?_) (fun hi4 => ?_)
  · have hb4 := (x4.bdy hi4).trans (impl_stampsOk_b4.eq_1 ..)
    have hw4 := wrap_succ hi4 (by first | assumption | omega)
    refine seqE ?_
    refine seqE ?_
    refine idxAt hi4 ?_
    refine litE (m := 6) rfl ?_
    refine seqE ?_
    refine litE (m := 7) rfl ?_
    refine .inl ?_
    refine rowsE (Y := List.map cInt (x4.s ++ [((impl_allTrails p0.St)[x4.i]'hi4).Stamp])) (by first | rfl | (simp [subR0, subR1, -List.map_take, -List.map_drop, take_map', drop_map', fz_cInt, fl_cInt, fzMap fz_cInt, flMap fl_cInt]; done) | (simp [subR0, subR1, -List.map_take, -List.map_drop, take_map', drop_map', fz_cInt, fl_cInt, fzMap fz_cInt, flMap fl_cInt]; rfl)) ?_
    refine appB (b := 8) (hs := by have t1 := impl_Timers_len p0.W hs.2.2.2.1; have t2 : p0.Due.length ≤ 1048576 := hs.2.2.2.2.1.1; have t3 : p0.Cache.length ≤ 1048576 := hs.2.2.1.1; have t4 : p0.Tasks.length ≤ 1048576 := hs.2.2.2.2.2.2.2.1.1; have t5 := allTrails_len p0.St hs.2.1; (try have q1 := hI1); (try have q2 := hI2); (try have q3 := hI3.1); (try have q7 := hI3.2); (try have q4 := hI4); (try have y1 := x1.h); (try have y2 := x2.h); (try have y3 := x3.h); (try have y4 := x4.h); (try simp only [List.length_append] at y1); refine ⟨?_, ?_⟩; (show List.length _ * 8 ≤ _); (try simp only [List.length_map, List.length_append, List.length_cons, List.length_nil, List.length_take, List.length_drop]); omega; (try simp only [List.length_map, List.length_append, List.length_cons, List.length_nil, List.length_take, List.length_drop]); omega) ?_
    refine litE (m := 8) rfl ?_
    refine seqE ?_
    refine .inl (⟨_, _, c_slices_ContainsFunc_STimer_Timer_c_impl_stampsOk_1 x3.s.1 ((impl_allTrails p0.St)[x4.i]'hi4), (FzAs.same _), ?_⟩)
    refine litE (m := 10) rfl ?_
    refine brE hb4 (fun hb4 h7 => ?_) (fun hb4 h7 => x4.goE hi4 hb4 (by have q1 := hI4; simp only [List.length_map, List.length_append, List.length_cons, List.length_nil, List.length_take, List.length_drop]; omega) [some 0, none, none, some 3, some 8, none] ⟨rfl, ⟨⟨rfl, rfl, rfl, rfl, by (first | rfl | omega | (dsimp only; omega) | (simp; done) | (simp; omega) | (simp [LstSt.init, LstSt.step, LstInv.init, CntSt.init, CntSt.step, CntInv.init, WhlSt.init, WhlSt.step]; done) | (simp [LstSt.init, LstSt.step, LstInv.init, CntSt.init, CntSt.step, CntInv.init, WhlSt.init, WhlSt.step]; omega))⟩, (eqInt hw4), ⟨rfl, rfl, rfl, rfl⟩, ⟨rfl, rfl, rfl, rfl, by (first | rfl | omega | (dsimp only; omega) | (simp; done) | (simp; omega) | (simp [LstSt.init, LstSt.step, LstInv.init, CntSt.init, CntSt.step, CntInv.init, WhlSt.init, WhlSt.step]; done) | (simp [LstSt.init, LstSt.step, LstInv.init, CntSt.init, CntSt.step, CntInv.init, WhlSt.init, WhlSt.step]; omega))⟩, rfl, rfl, trivial⟩, ⟨⟨rfl, rfl, ⟨rfl, rfl, rfl, rfl, rfl, rfl, rfl, rfl, rfl, rfl, rfl, rfl, rfl, rfl, rfl, rfl, rfl, rfl, rfl, rfl, rfl, rfl, rfl, rfl, rfl, rfl, rfl, rfl, rfl, rfl, rfl, rfl, trivial⟩⟩, ⟨rfl, rfl, rfl⟩, ⟨rfl, rfl, rfl⟩, trivial⟩, trivial⟩)
    refine seqE ?_
    have hg := donE hg (x4.outD hi4 hb4)
    exact leafE hown hg
  have hg := finE hg (x4.fin hi4)
  refine seqE ?_
  refine .inl (⟨_, _, c_slices_ContainsFunc_Sint_int_c_impl_stampsOk_2 x4.s p0, (FzAs.same _), ?_⟩)
  refine litE (m := 7) rfl ?_
  exact leafE hown hg
def impl_WorldOk (p0 : World) : Bool :=
  (bif (impl_valuesOk p0) then (bif (impl_tasksOk p0) then (impl_stampsOk p0) else false) else false)
theorem c_impl_WorldOk (p0 : World) (hs : World.bd 1048576 p0) : FnOk prog 31 [.agg ((World.cells false) p0)] ⟨.one (.v (.bool (impl_WorldOk p0))), [], [], false⟩ := by
  refine FnOk.intro (E := env) envOk wide func31 rfl (by kernel_rfl) rfl rfl ?_
  have hg := impl_WorldOk.eq_1 p0
  have hown : ∀ g : Bool, AV.Own (AV.one (.v (.bool g))) := fun g => .v _
  refine seqE ?_
  refine litE (m := 0) rfl ?_
  refine seqE ?_
  refine .inl (⟨_, _, c_impl_valuesOk p0 (by first | exact hs | exact hs.2.1 | exact hs.2.2.2.1 | exact trivial), (FzAs.same _), ?_⟩)
  refine litE (m := 2) rfl ?_
  refine brE hg (fun hg h1 => ?_) (fun hg h1 => leafE hown hg)
  refine .inl (⟨_, _, c_impl_tasksOk p0 (by first | exact hs | exact hs.2.1 | exact hs.2.2.2.1 | exact trivial), (FzAs.same _), ?_⟩)
  refine litE (m := 3) rfl ?_
  refine brE hg (fun hg h2 => ?_) (fun hg h2 => leafE hown hg)
  refine .inl (⟨_, _, c_impl_stampsOk p0 (by first | exact hs | exact hs.2.1 | exact hs.2.2.2.1 | exact trivial), (FzAs.same _), ?_⟩)
  refine litE (m := 4) rfl ?_
  exact leafE hown hg
def impl_Busy_b1 (i1 : Nat) (s1 : Int) (a1 : Task) : Step (Int) Int :=
  (bif (a1.Op != 0) then (.next (IntKind.i64.wrap (s1 + 1))) else (.next s1))
def impl_Busy (p0 : World) : Int :=
  (Fin.get (fun s1 => s1) (loopL impl_Busy_b1 0 0 p0.Tasks))
theorem c_impl_Busy (p0 : World) : FnOk prog 32 [.agg ((World.cells false) p0)] ⟨.one (.v (.int .i64 (impl_Busy p0))), [], [], false⟩ := by
  refine FnOk.intro (E := env) envOk wide func32 rfl (by kernel_rfl) rfl rfl ?_
  have hg := impl_Busy.eq_1 p0
  have hown : ∀ g : Int, AV.Own (AV.one (.v (.int .i64 g))) := fun g => .v _
  refine seqE ?_
  refine litE (m := 0) rfl ?_
  refine seqE ?_
  refine seqE ?_
  refine seqE ?_
  refine lenM fun hN1 => ?_
  refine loopLE hg [7, 8] (fun x1 => [(3, .one (.v (.int .i64 x1.s))), (9, .one (.v (.int .i64 ((x1.i : Nat) : Int))))]) (fun x1 => [.dead]) [none] ?_ (fun x1 => ?_)
  · exact ⟨rfl, ⟨rfl, rfl, rfl, rfl, trivial⟩, trivial, trivial⟩
  refine seqE ?_
  refine seqE ?_
  refine tstL (fun hi1 => ?_) (fun hi1 => ?_)
  · have hb1 := (x1.bdy hi1).trans (impl_Busy_b1.eq_1 ..)
    have hw1 := wrap_succ hi1 (by first | assumption | omega)
    refine seqE ?_
    refine seqE ?_
    refine idxAt hi1 ?_
    refine litE (m := 1) rfl ?_
    refine seqE ?_
    exact brW hb1 (fun hb1 h2 => x1.goE hi1 hb1 [none] ⟨rfl, ⟨rfl, (eqInt hw1), rfl, rfl, trivial⟩, trivial, trivial⟩) (fun hb1 h2 => x1.goE hi1 hb1 [none] ⟨rfl, ⟨rfl, (eqInt hw1), rfl, rfl, trivial⟩, trivial, trivial⟩)
  have hg := finE hg (x1.fin hi1)
  refine seqE ?_
  exact leafE hown hg
def impl_Quiet (p0 : World) : Bool :=
  (bif (impl_WorldOk p0) then (bif ((impl_Busy p0) == 0) then (bif ((((p0.Due).length : Nat) : Int) == 0) then ((((p0.Queue).length : Nat) : Int) == 0) else false) else false) else false)
theorem c_impl_Quiet (p0 : World) (hs : World.bd 1048576 p0) : FnOk prog 8 [.agg ((World.cells false) p0)] ⟨.one (.v (.bool (impl_Quiet p0))), [], [], false⟩ := by
  refine FnOk.intro (E := env) envOk wide func8 rfl (by kernel_rfl) rfl rfl ?_
  have hg := impl_Quiet.eq_1 p0
  have hown : ∀ g : Bool, AV.Own (AV.one (.v (.bool g))) := fun g => .v _
  refine seqE ?_
  refine litE (m := 0) rfl ?_
  refine seqE ?_
  refine .inl (⟨_, _, c_impl_WorldOk p0 (by first | exact hs | exact hs.2.1 | exact hs.2.2.2.1 | exact trivial), (FzAs.same _), ?_⟩)
  refine litE (m := 2) rfl ?_
  refine brE hg (fun hg h1 => ?_) (fun hg h1 => leafE hown hg)
  refine .inl (⟨_, _, c_impl_Busy p0, (FzAs.same _), ?_⟩)
  refine litE (m := 3) rfl ?_
  refine brQ hg (fun hg h2 => ?_) (fun hg h2 => leafE hown hg)
  refine lenM fun hN3 => ?_
  refine brQ hg (fun hg h4 => ?_) (fun hg h4 => leafE hown hg)
  refine lenM fun hN5 => ?_
  exact leafE hown hg
def impl_heldThings_b1 (i1 : Nat) (s1 : Int) (a1 : Trail) : Step (Int) Int :=
  (.next (IntKind.i64.wrap (s1 + (((a1.Spans).length : Nat) : Int))))
def impl_heldThings (p0 : World) : Int :=
  (Fin.get (fun s1 => s1) (loopL impl_heldThings_b1 0 0 (impl_allTrails p0.St)))
theorem c_impl_heldThings (p0 : World) (hs : World.bd 1048576 p0) : FnOk prog 43 [.agg ((World.cells false) p0)] ⟨.one (.v (.int .i64 (impl_heldThings p0))), [], [], false⟩ := by
  refine FnOk.intro (E := env) envOk wide func43 rfl (by kernel_rfl) rfl rfl ?_
  have hg := impl_heldThings.eq_1 p0
  have hown : ∀ g : Int, AV.Own (AV.one (.v (.int .i64 g))) := fun g => .v _
  refine seqE ?_
  refine litE (m := 0) rfl ?_
  refine seqE ?_
  refine seqE ?_
  refine seqE ?_
  refine .inl (⟨_, _, (FnOk.frz1 rfl (frzMap frz_Trail _) (c_impl_allTrails p0.St (by exact hs.2.1))), (FzAs.same _), ?_⟩)
  refine litE (m := 2) rfl ?_
  refine lenM fun hN1 => ?_
  refine loopLE hg [8, 9] (fun x1 => [(3, .one (.v (.int .i64 x1.s))), (10, .one (.v (.int .i64 ((x1.i : Nat) : Int))))]) (fun x1 => [.dead, .dead]) [none, none] ?_ (fun x1 => ?_)
  · exact ⟨rfl, ⟨rfl, rfl, rfl, rfl, trivial⟩, trivial, trivial⟩
  refine seqE ?_
  refine seqE ?_
  refine tstL (fun hi1 => ?_) (fun hi1 => ?_)
  · have hb1 := (x1.bdy hi1).trans (impl_heldThings_b1.eq_1 ..)
    have hw1 := wrap_succ hi1 (by first | assumption | omega)
    refine seqE ?_
    refine seqE ?_
    refine idxAt hi1 ?_
    refine litE (m := 2) rfl ?_
    refine lenM fun hN2 => ?_
    exact x1.goE hi1 hb1 [none, none] ⟨rfl, ⟨rfl, (eqInt hw1), rfl, rfl, trivial⟩, trivial, trivial⟩
  have hg := finE hg (x1.fin hi1)
  refine seqE ?_
  exact leafE hown hg
theorem heldThings_eq (w : World) : impl_heldThings w = IntKind.i64.wrap (isum (fun x : Stripe => isum (fun t : Trail => ((t.Spans.length : Nat) : Int)) x.L) w.St) := by
  unfold impl_heldThings
  rw [sum_loop (f := fun t : Trail => ((t.Spans.length : Nat) : Int)) (b := impl_heldThings_b1) _ 0 0 rfl (fun _ _ _ _ _ => rfl), allTrails_eq, isum_flat]
  simp [Fin.get]
def impl_Settled (p0 : World) : Bool :=
  (bif (impl_Quiet p0) then (bif p0.Shut then ((impl_heldThings p0) == 0) else false) else false)
theorem c_impl_Settled (p0 : World) (hs : World.bd 1048576 p0) : FnOk prog 11 [.agg ((World.cells false) p0)] ⟨.one (.v (.bool (impl_Settled p0))), [], [], false⟩ := by
  refine FnOk.intro (E := env) envOk wide func11 rfl (by kernel_rfl) rfl rfl ?_
  have hg := impl_Settled.eq_1 p0
  have hown : ∀ g : Bool, AV.Own (AV.one (.v (.bool g))) := fun g => .v _
  refine seqE ?_
  refine litE (m := 0) rfl ?_
  refine seqE ?_
  refine .inl (⟨_, _, c_impl_Quiet p0 (by first | exact hs | exact hs.2.1 | exact hs.2.2.2.1 | exact trivial), (FzAs.same _), ?_⟩)
  refine litE (m := 2) rfl ?_
  refine brE hg (fun hg h1 => ?_) (fun hg h1 => leafE hown hg)
  refine brE hg (fun hg h2 => ?_) (fun hg h2 => leafE hown hg)
  refine .inl (⟨_, _, c_impl_heldThings p0 (by first | exact hs | exact hs.2.1 | exact hs.2.2.2.1 | exact trivial), (FzAs.same _), ?_⟩)
  refine litE (m := 3) rfl ?_
  exact leafE hown hg
def laws_eqPolS_b1 (r0 : (Pol → Pol → Bool)) (p1 : (List Pol)) (i1 : Nat) (s1 : Unit) (a1 : Pol) : Step (Unit) Bool :=
  (bif (!(r0 a1 (p1[i1]?.getD default))) then (.done false) else (.next ()))
def laws_eqPolS (r0 : Pol → Pol → Bool) (p0 : (List Pol)) (p1 : (List Pol)) : Bool :=
  (bif ((((p0).length : Nat) : Int) != (((p1).length : Nat) : Int)) then false else (Fin.get (fun s1 => true) (loopL (laws_eqPolS_b1 r0 p1) 0 () p0)))
theorem c_laws_eqPolS (r0 : Pol → Pol → Bool) (p0 : (List Pol)) (p1 : (List Pol)) (m0 : Nat) (hrec0 : ∀ (z0 : Pol) (z1 : Pol), Pol.dep z0 < m0 → FnOk prog 72 [.agg (Pol.opn false z0), .agg (Pol.opn false z1)] ⟨.one (.v (.bool (r0 z0 z1))), [], [], false⟩) (hm0 : ∀ x ∈ p0, Pol.dep x < m0) : FnOk prog 119 [.one (.s false 5 (List.map (Pol.cells false) p0)), .one (.s false 5 (List.map (Pol.cells false) p1))] ⟨.one (.v (.bool (laws_eqPolS r0 p0 p1))), [], [], false⟩ := by
  refine FnOk.intro (E := env) envOk wide func119 rfl (by kernel_rfl) rfl rfl ?_
  have hg := laws_eqPolS.eq_1 r0 p0 p1
  have hown : ∀ g : Bool, AV.Own (AV.one (.v (.bool g))) := fun g => .v _
  refine seqE ?_
  refine seqE ?_
  refine seqE ?_
  refine lenM fun hN1 => ?_
  refine lenM fun hN2 => ?_
  refine brW hg (fun hg h3 => ?_) (fun hg h3 => ?_)
  · refine seqE ?_
    exact leafE hown hg
  · refine seqE ?_
    refine seqE ?_
    refine loopLE hg [0, 1] (fun x1 => [(5, .one (.v (.int .i64 ((x1.i : Nat) : Int))))]) (fun x1 => []) [] ?_ (fun x1 => ?_)
    · exact ⟨rfl, ⟨rfl, rfl, rfl, trivial⟩, trivial, trivial⟩
    refine seqE ?_
    refine seqE ?_
    refine lenM fun hN4 => ?_
    refine tstL (fun hi1 => ?_) (fun hi1 => ?_)
    · have hb1 := (x1.bdy hi1).trans (laws_eqPolS_b1.eq_1 ..)
      have hw1 := wrap_succ hi1 (by first | assumption | omega)
      refine seqE ?_
      refine seqE ?_
      refine .inl ⟨by kernel_rfl, ?_⟩
      refine idxAtR (Pol.cells_eq false) hi1 ?_
      refine idxOfR (Pol.cells_eq false) (l := p1) (by (first | omega | (simp (disch := omega) only [wrap_small, mid_eq, List.length_map]; omega) | (simp; done) | (simp; omega) | (simp at *; omega) | (simp at *; done) | (simp_all; done) | (simp_all; omega))) (fun hq5 => ?_)
      refine ⟨_, _, hrec0 (p0[x1.i]'hi1) (p1[x1.i]?.getD default) (by first | exact hm0 _ (List.getElem_mem _) | exact hm0 _ (List.mem_of_getElem? (by assumption)) | exact Nat.lt_of_lt_of_le (Pol.dep_lt (List.getElem_mem _)) (Nat.le_of_lt_succ hd0) | exact Nat.lt_of_lt_of_le (Pol.dep_lt (List.mem_of_getElem? (by assumption))) (Nat.le_of_lt_succ hd0)), (FzAs.same _), ?_⟩
      refine brE hb1 (fun hb1 h6 => ?_) (fun hb1 h6 => x1.goE hi1 hb1 [] ⟨rfl, ⟨(eqInt hw1), rfl, rfl, trivial⟩, trivial, trivial⟩)
      refine seqE ?_
      have hg := donE hg (x1.outD hi1 hb1)
      exact leafE hown hg
    have hg := finE hg (x1.fin hi1)
    refine seqE ?_
    exact leafE hown hg
def laws_eqPolR : Nat → Pol → Pol → Bool
  | 0, _, _ => default
  | n + 1, p0, p1 => (bif (p0.Kind != p1.Kind) then false else (bif (p0.N != p1.N) then false else (bif (!decide (p0.Key = p1.Key)) then false else (bif (!decide (p0.Text = p1.Text)) then false else (bif (!(laws_eqPolS (laws_eqPolR n) p0.L p1.L)) then false else true)))))
theorem cR_laws_eqPol : ∀ (n : Nat) (p0 : Pol) (p1 : Pol), Pol.dep p0 < n → FnOk prog 72 [.agg (Pol.opn false p0), .agg (Pol.opn false p1)] ⟨.one (.v (.bool (laws_eqPolR n p0 p1))), [], [], false⟩ := by
  intro n
  induction n with
  | zero => intro p0 p1 hd0; omega
  | succ n ih =>
    intro p0 p1 hd0
    refine FnOk.intro (E := env) envOk wide func72 rfl (by kernel_rfl) rfl rfl ?_
    have hg : laws_eqPolR (n + 1) p0 p1 = _ := laws_eqPolR.eq_2 ..
    have hown : ∀ g : Bool, AV.Own (AV.one (.v (.bool g))) := fun g => .v _
    refine seqE ?_
    refine litE (m := 0) rfl ?_
    refine litE (m := 1) rfl ?_
    refine seqE ?_
    refine seqE ?_
    refine brW hg (fun hg h1 => ?_) (fun hg h1 => ?_)
    · refine seqE ?_
      exact leafE hown hg
    · refine seqE ?_
      refine seqE ?_
      refine brW hg (fun hg h2 => ?_) (fun hg h2 => ?_)
      · refine seqE ?_
        exact leafE hown hg
      · refine seqE ?_
        refine seqE ?_
        refine brE hg (fun hg h3 => ?_) (fun hg h3 => ?_)
        · refine seqE ?_
          exact leafE hown hg
        · refine seqE ?_
          refine seqE ?_
          refine brE hg (fun hg h4 => ?_) (fun hg h4 => ?_)
          · refine seqE ?_
            exact leafE hown hg
          · refine seqE ?_
            refine seqE ?_
            refine .inl (⟨_, _, c_laws_eqPolS (laws_eqPolR n) p0.L p1.L n ih (by first | exact hm0 | exact fun x hx => Nat.lt_of_lt_of_le (Pol.dep_lt hx) (Nat.le_of_lt_succ hd0)), (FzAs.same _), ?_⟩)
            refine litE (m := 3) rfl ?_
            refine brE hg (fun hg h5 => ?_) (fun hg h5 => ?_)
            · refine seqE ?_
              exact leafE hown hg
            · refine seqE ?_
              exact leafE hown hg
def laws_eqPol (p0 : Pol) (p1 : Pol) : Bool := laws_eqPolR (Pol.dep p0 + 1) p0 p1
theorem c_laws_eqPol (p0 : Pol) (p1 : Pol) : FnOk prog 72 [.agg (Pol.opn false p0), .agg (Pol.opn false p1)] ⟨.one (.v (.bool (laws_eqPol p0 p1))), [], [], false⟩ := cR_laws_eqPol _ p0 p1 (Nat.lt_succ_self _)
theorem rfR_laws_eqPol : ∀ (n : Nat) (x : Pol), Pol.dep x < n → laws_eqPolR n x x = true := by
  intro n
  induction n with
  | zero => intro x h; omega
  | succ n ih =>
    intro x h
    have e : laws_eqPolS (laws_eqPolR n) x.L x.L = true := eqS_okM (b := laws_eqPolS_b1 (laws_eqPolR n)) x.L (fun a ha => ih a (Nat.lt_of_lt_of_le (Pol.dep_lt ha) (Nat.le_of_lt_succ h))) (fun _ _ _ _ => rfl) (fun _ _ => rfl)
    simp [laws_eqPolR, e]
theorem rf_laws_eqPol (x : Pol) : laws_eqPol x x = true := rfR_laws_eqPol _ x (Nat.lt_succ_self _)
def laws_eqConf (p0 : Conf) (p1 : Conf) : Bool :=
  (bif (p0.Stripes != p1.Stripes) then false else (bif (p0.Wait != p1.Wait) then false else (bif (p0.Budget != p1.Budget) then false else (bif (p0.Cache != p1.Cache) then false else (bif (p0.Queue != p1.Queue) then false else (bif (p0.Rate != p1.Rate) then false else (bif (p0.Burst != p1.Burst) then false else (bif (!(laws_eqPol p0.Rule p1.Rule)) then false else true))))))))
theorem c_laws_eqConf (p0 : Conf) (p1 : Conf) : FnOk prog 33 [.agg ((Conf.cells false) p0), .agg ((Conf.cells false) p1)] ⟨.one (.v (.bool (laws_eqConf p0 p1))), [], [], false⟩ := by
  refine FnOk.intro (E := env) envOk wide func33 rfl (by kernel_rfl) rfl rfl ?_
  have hg := laws_eqConf.eq_1 p0 p1
  have hown : ∀ g : Bool, AV.Own (AV.one (.v (.bool g))) := fun g => .v _
  refine seqE ?_
  refine litE (m := 0) rfl ?_
  refine litE (m := 1) rfl ?_
  refine seqE ?_
  refine seqE ?_
  refine brW hg (fun hg h1 => ?_) (fun hg h1 => ?_)
  · refine seqE ?_
    exact leafE hown hg
  · refine seqE ?_
    refine seqE ?_
    refine brW hg (fun hg h2 => ?_) (fun hg h2 => ?_)
    · refine seqE ?_
      exact leafE hown hg
    · refine seqE ?_
      refine seqE ?_
      refine brW hg (fun hg h3 => ?_) (fun hg h3 => ?_)
      · refine seqE ?_
        exact leafE hown hg
      · refine seqE ?_
        refine seqE ?_
        refine brW hg (fun hg h4 => ?_) (fun hg h4 => ?_)
        · refine seqE ?_
          exact leafE hown hg
        · refine seqE ?_
          refine seqE ?_
          refine brW hg (fun hg h5 => ?_) (fun hg h5 => ?_)
          · refine seqE ?_
            exact leafE hown hg
          · refine seqE ?_
            refine seqE ?_
            refine brW hg (fun hg h6 => ?_) (fun hg h6 => ?_)
            · refine seqE ?_
              exact leafE hown hg
            · refine seqE ?_
              refine seqE ?_
              refine brW hg (fun hg h7 => ?_) (fun hg h7 => ?_)
              · refine seqE ?_
                exact leafE hown hg
              · refine seqE ?_
                refine seqE ?_
                refine .inl (⟨_, _, c_laws_eqPol p0.Rule p1.Rule, (FzAs.same _), ?_⟩)
                refine litE (m := 3) rfl ?_
                refine brE hg (fun hg h8 => ?_) (fun hg h8 => ?_)
                · refine seqE ?_
                  exact leafE hown hg
                · refine seqE ?_
                  exact leafE hown hg
theorem rf_laws_eqConf (x : Conf) : laws_eqConf x x = true := by
  simp [laws_eqConf, rf_laws_eqPol]
def laws_eqAttr (p0 : Attr) (p1 : Attr) : Bool :=
  (bif (!decide (p0.Key = p1.Key)) then false else (bif (!(p0.Num == p1.Num)) then false else (bif (p0.N != p1.N) then false else (bif (!decide (p0.Text = p1.Text)) then false else true))))
theorem c_laws_eqAttr (p0 : Attr) (p1 : Attr) : FnOk prog 179 [.agg (Attr.cells p0), .agg (Attr.cells p1)] ⟨.one (.v (.bool (laws_eqAttr p0 p1))), [], [], false⟩ := by
  refine FnOk.intro (E := env) envOk wide func179 rfl (by kernel_rfl) rfl rfl ?_
  have hg := laws_eqAttr.eq_1 p0 p1
  have hown : ∀ g : Bool, AV.Own (AV.one (.v (.bool g))) := fun g => .v _
  refine seqE ?_
  refine litE (m := 0) rfl ?_
  refine litE (m := 1) rfl ?_
  refine seqE ?_
  refine seqE ?_
  refine brE hg (fun hg h1 => ?_) (fun hg h1 => ?_)
  · refine seqE ?_
    exact leafE hown hg
  · refine seqE ?_
    refine seqE ?_
    refine brE hg (fun hg h2 => ?_) (fun hg h2 => ?_)
    · refine seqE ?_
      exact leafE hown hg
    · refine seqE ?_
      refine seqE ?_
      refine brW hg (fun hg h3 => ?_) (fun hg h3 => ?_)
      · refine seqE ?_
        exact leafE hown hg
      · refine seqE ?_
        refine seqE ?_
        refine brE hg (fun hg h4 => ?_) (fun hg h4 => ?_)
        · refine seqE ?_
          exact leafE hown hg
        · refine seqE ?_
          exact leafE hown hg
theorem rf_laws_eqAttr (x : Attr) : laws_eqAttr x x = true := by
  simp [laws_eqAttr]
def laws_eqAttrS_b1 (p1 : (List Attr)) (i1 : Nat) (s1 : Unit) (a1 : Attr) : Step (Unit) Bool :=
  (bif (!(laws_eqAttr a1 (p1[i1]?.getD default))) then (.done false) else (.next ()))
def laws_eqAttrS (p0 : (List Attr)) (p1 : (List Attr)) : Bool :=
  (bif ((((p0).length : Nat) : Int) != (((p1).length : Nat) : Int)) then false else (Fin.get (fun s1 => true) (loopL (laws_eqAttrS_b1 p1) 0 () p0)))
theorem c_laws_eqAttrS (p0 : (List Attr)) (p1 : (List Attr)) : FnOk prog 155 [.one (.s false 4 (List.map Attr.cells p0)), .one (.s false 4 (List.map Attr.cells p1))] ⟨.one (.v (.bool (laws_eqAttrS p0 p1))), [], [], false⟩ := by
  refine FnOk.intro (E := env) envOk wide func155 rfl (by kernel_rfl) rfl rfl ?_
  have hg := laws_eqAttrS.eq_1 p0 p1
  have hown : ∀ g : Bool, AV.Own (AV.one (.v (.bool g))) := fun g => .v _
  refine seqE ?_
  refine seqE ?_
  refine seqE ?_
  refine lenM fun hN1 => ?_
  refine lenM fun hN2 => ?_
  refine brW hg (fun hg h3 => ?_) (fun hg h3 => ?_)
  · refine seqE ?_
    exact leafE hown hg
  · refine seqE ?_
    refine seqE ?_
    refine loopLE hg [0, 1] (fun x1 => [(5, .one (.v (.int .i64 ((x1.i : Nat) : Int))))]) (fun x1 => []) [] ?_ (fun x1 => ?_)
    · exact ⟨rfl, ⟨rfl, rfl, rfl, trivial⟩, trivial, trivial⟩
    refine seqE ?_
    refine seqE ?_
    refine lenM fun hN4 => ?_
    refine tstL (fun hi1 => ?_) (fun hi1 => ?_)
    · have hb1 := (x1.bdy hi1).trans (laws_eqAttrS_b1.eq_1 ..)
      have hw1 := wrap_succ hi1 (by first | assumption | omega)
      refine seqE ?_
      refine seqE ?_
      refine .inl ⟨by kernel_rfl, ?_⟩
      refine idxAt hi1 ?_
      refine idxOf (l := p1) (by (first | omega | (simp (disch := omega) only [wrap_small, mid_eq, List.length_map]; omega) | (simp; done) | (simp; omega) | (simp at *; omega) | (simp at *; done) | (simp_all; done) | (simp_all; omega))) (fun hq5 => ?_)
      refine ⟨_, _, c_laws_eqAttr (p0[x1.i]'hi1) (p1[x1.i]?.getD default), (FzAs.same _), ?_⟩
      refine brE hb1 (fun hb1 h6 => ?_) (fun hb1 h6 => x1.goE hi1 hb1 [] ⟨rfl, ⟨(eqInt hw1), rfl, rfl, trivial⟩, trivial, trivial⟩)
      refine seqE ?_
      have hg := donE hg (x1.outD hi1 hb1)
      exact leafE hown hg
    have hg := finE hg (x1.fin hi1)
    refine seqE ?_
    exact leafE hown hg
theorem rf_laws_eqAttrS (x : (List Attr)) : laws_eqAttrS x x = true := eqS_ok (b := laws_eqAttrS_b1) rf_laws_eqAttr (fun _ _ _ _ => rfl) (fun _ _ => rfl) x
def laws_eqSpan (p0 : Span) (p1 : Span) : Bool :=
  (bif (p0.Trace != p1.Trace) then false else (bif (p0.Id != p1.Id) then false else (bif (p0.Start != p1.Start) then false else (bif (p0.End != p1.End) then false else (bif (!(p0.Err == p1.Err)) then false else (bif (!(laws_eqAttrS p0.Attrs p1.Attrs)) then false else true))))))
theorem c_laws_eqSpan (p0 : Span) (p1 : Span) : FnOk prog 121 [.agg ((Span.cells false) p0), .agg ((Span.cells false) p1)] ⟨.one (.v (.bool (laws_eqSpan p0 p1))), [], [], false⟩ := by
  refine FnOk.intro (E := env) envOk wide func121 rfl (by kernel_rfl) rfl rfl ?_
  have hg := laws_eqSpan.eq_1 p0 p1
  have hown : ∀ g : Bool, AV.Own (AV.one (.v (.bool g))) := fun g => .v _
  refine seqE ?_
  refine litE (m := 0) rfl ?_
  refine litE (m := 1) rfl ?_
  refine seqE ?_
  refine seqE ?_
  refine brW hg (fun hg h1 => ?_) (fun hg h1 => ?_)
  · refine seqE ?_
    exact leafE hown hg
  · refine seqE ?_
    refine seqE ?_
    refine brW hg (fun hg h2 => ?_) (fun hg h2 => ?_)
    · refine seqE ?_
      exact leafE hown hg
    · refine seqE ?_
      refine seqE ?_
      refine brW hg (fun hg h3 => ?_) (fun hg h3 => ?_)
      · refine seqE ?_
        exact leafE hown hg
      · refine seqE ?_
        refine seqE ?_
        refine brW hg (fun hg h4 => ?_) (fun hg h4 => ?_)
        · refine seqE ?_
          exact leafE hown hg
        · refine seqE ?_
          refine seqE ?_
          refine brE hg (fun hg h5 => ?_) (fun hg h5 => ?_)
          · refine seqE ?_
            exact leafE hown hg
          · refine seqE ?_
            refine seqE ?_
            refine .inl (⟨_, _, c_laws_eqAttrS p0.Attrs p1.Attrs, (FzAs.same _), ?_⟩)
            refine litE (m := 3) rfl ?_
            refine brE hg (fun hg h6 => ?_) (fun hg h6 => ?_)
            · refine seqE ?_
              exact leafE hown hg
            · refine seqE ?_
              exact leafE hown hg
theorem rf_laws_eqSpan (x : Span) : laws_eqSpan x x = true := by
  simp [laws_eqSpan, rf_laws_eqAttrS]
def laws_eqSpanS_b1 (p1 : (List Span)) (i1 : Nat) (s1 : Unit) (a1 : Span) : Step (Unit) Bool :=
  (bif (!(laws_eqSpan a1 (p1[i1]?.getD default))) then (.done false) else (.next ()))
def laws_eqSpanS (p0 : (List Span)) (p1 : (List Span)) : Bool :=
  (bif ((((p0).length : Nat) : Int) != (((p1).length : Nat) : Int)) then false else (Fin.get (fun s1 => true) (loopL (laws_eqSpanS_b1 p1) 0 () p0)))
theorem c_laws_eqSpanS (p0 : (List Span)) (p1 : (List Span)) : FnOk prog 178 [.one (.s false 6 (List.map (Span.cells false) p0)), .one (.s false 6 (List.map (Span.cells false) p1))] ⟨.one (.v (.bool (laws_eqSpanS p0 p1))), [], [], false⟩ := by
  refine FnOk.intro (E := env) envOk wide func178 rfl (by kernel_rfl) rfl rfl ?_
  have hg := laws_eqSpanS.eq_1 p0 p1
  have hown : ∀ g : Bool, AV.Own (AV.one (.v (.bool g))) := fun g => .v _
  refine seqE ?_
  refine seqE ?_
  refine seqE ?_
  refine lenM fun hN1 => ?_
  refine lenM fun hN2 => ?_
  refine brW hg (fun hg h3 => ?_) (fun hg h3 => ?_)
  · refine seqE ?_
    exact leafE hown hg
  · refine seqE ?_
    refine seqE ?_
    refine loopLE hg [0, 1] (fun x1 => [(5, .one (.v (.int .i64 ((x1.i : Nat) : Int))))]) (fun x1 => []) [] ?_ (fun x1 => ?_)
    · exact ⟨rfl, ⟨rfl, rfl, rfl, trivial⟩, trivial, trivial⟩
    refine seqE ?_
    refine seqE ?_
    refine lenM fun hN4 => ?_
    refine tstL (fun hi1 => ?_) (fun hi1 => ?_)
    · have hb1 := (x1.bdy hi1).trans (laws_eqSpanS_b1.eq_1 ..)
      have hw1 := wrap_succ hi1 (by first | assumption | omega)
      refine seqE ?_
      refine seqE ?_
      refine .inl ⟨by kernel_rfl, ?_⟩
      refine idxAt hi1 ?_
      refine idxOf (l := p1) (by (first | omega | (simp (disch := omega) only [wrap_small, mid_eq, List.length_map]; omega) | (simp; done) | (simp; omega) | (simp at *; omega) | (simp at *; done) | (simp_all; done) | (simp_all; omega))) (fun hq5 => ?_)
      refine ⟨_, _, c_laws_eqSpan (p0[x1.i]'hi1) (p1[x1.i]?.getD default), (FzAs.same _), ?_⟩
      refine brE hb1 (fun hb1 h6 => ?_) (fun hb1 h6 => x1.goE hi1 hb1 [] ⟨rfl, ⟨(eqInt hw1), rfl, rfl, trivial⟩, trivial, trivial⟩)
      refine seqE ?_
      have hg := donE hg (x1.outD hi1 hb1)
      exact leafE hown hg
    have hg := finE hg (x1.fin hi1)
    refine seqE ?_
    exact leafE hown hg
theorem rf_laws_eqSpanS (x : (List Span)) : laws_eqSpanS x x = true := eqS_ok (b := laws_eqSpanS_b1) rf_laws_eqSpan (fun _ _ _ _ => rfl) (fun _ _ => rfl) x
def laws_eqTrail (p0 : Trail) (p1 : Trail) : Bool :=
  (bif (p0.Id != p1.Id) then false else (bif (p0.Stamp != p1.Stamp) then false else (bif (p0.First != p1.First) then false else (bif (!(laws_eqSpanS p0.Spans p1.Spans)) then false else true))))
theorem c_laws_eqTrail (p0 : Trail) (p1 : Trail) : FnOk prog 154 [.agg ((Trail.cells false) p0), .agg ((Trail.cells false) p1)] ⟨.one (.v (.bool (laws_eqTrail p0 p1))), [], [], false⟩ := by
  refine FnOk.intro (E := env) envOk wide func154 rfl (by kernel_rfl) rfl rfl ?_
  have hg := laws_eqTrail.eq_1 p0 p1
  have hown : ∀ g : Bool, AV.Own (AV.one (.v (.bool g))) := fun g => .v _
  refine seqE ?_
  refine litE (m := 0) rfl ?_
  refine litE (m := 1) rfl ?_
  refine seqE ?_
  refine seqE ?_
  refine brW hg (fun hg h1 => ?_) (fun hg h1 => ?_)
  · refine seqE ?_
    exact leafE hown hg
  · refine seqE ?_
    refine seqE ?_
    refine brW hg (fun hg h2 => ?_) (fun hg h2 => ?_)
    · refine seqE ?_
      exact leafE hown hg
    · refine seqE ?_
      refine seqE ?_
      refine brW hg (fun hg h3 => ?_) (fun hg h3 => ?_)
      · refine seqE ?_
        exact leafE hown hg
      · refine seqE ?_
        refine seqE ?_
        refine .inl (⟨_, _, c_laws_eqSpanS p0.Spans p1.Spans, (FzAs.same _), ?_⟩)
        refine litE (m := 3) rfl ?_
        refine brE hg (fun hg h4 => ?_) (fun hg h4 => ?_)
        · refine seqE ?_
          exact leafE hown hg
        · refine seqE ?_
          exact leafE hown hg
theorem rf_laws_eqTrail (x : Trail) : laws_eqTrail x x = true := by
  simp [laws_eqTrail, rf_laws_eqSpanS]
def laws_eqTrailS_b1 (p1 : (List Trail)) (i1 : Nat) (s1 : Unit) (a1 : Trail) : Step (Unit) Bool :=
  (bif (!(laws_eqTrail a1 (p1[i1]?.getD default))) then (.done false) else (.next ()))
def laws_eqTrailS (p0 : (List Trail)) (p1 : (List Trail)) : Bool :=
  (bif ((((p0).length : Nat) : Int) != (((p1).length : Nat) : Int)) then false else (Fin.get (fun s1 => true) (loopL (laws_eqTrailS_b1 p1) 0 () p0)))
theorem c_laws_eqTrailS (p0 : (List Trail)) (p1 : (List Trail)) : FnOk prog 120 [.one (.s false 4 (List.map (Trail.cells false) p0)), .one (.s false 4 (List.map (Trail.cells false) p1))] ⟨.one (.v (.bool (laws_eqTrailS p0 p1))), [], [], false⟩ := by
  refine FnOk.intro (E := env) envOk wide func120 rfl (by kernel_rfl) rfl rfl ?_
  have hg := laws_eqTrailS.eq_1 p0 p1
  have hown : ∀ g : Bool, AV.Own (AV.one (.v (.bool g))) := fun g => .v _
  refine seqE ?_
  refine seqE ?_
  refine seqE ?_
  refine lenM fun hN1 => ?_
  refine lenM fun hN2 => ?_
  refine brW hg (fun hg h3 => ?_) (fun hg h3 => ?_)
  · refine seqE ?_
    exact leafE hown hg
  · refine seqE ?_
    refine seqE ?_
    refine loopLE hg [0, 1] (fun x1 => [(5, .one (.v (.int .i64 ((x1.i : Nat) : Int))))]) (fun x1 => []) [] ?_ (fun x1 => ?_)
    · exact ⟨rfl, ⟨rfl, rfl, rfl, trivial⟩, trivial, trivial⟩
    refine seqE ?_
    refine seqE ?_
    refine lenM fun hN4 => ?_
    refine tstL (fun hi1 => ?_) (fun hi1 => ?_)
    · have hb1 := (x1.bdy hi1).trans (laws_eqTrailS_b1.eq_1 ..)
      have hw1 := wrap_succ hi1 (by first | assumption | omega)
      refine seqE ?_
      refine seqE ?_
      refine .inl ⟨by kernel_rfl, ?_⟩
      refine idxAt hi1 ?_
      refine idxOf (l := p1) (by (first | omega | (simp (disch := omega) only [wrap_small, mid_eq, List.length_map]; omega) | (simp; done) | (simp; omega) | (simp at *; omega) | (simp at *; done) | (simp_all; done) | (simp_all; omega))) (fun hq5 => ?_)
      refine ⟨_, _, c_laws_eqTrail (p0[x1.i]'hi1) (p1[x1.i]?.getD default), (FzAs.same _), ?_⟩
      refine brE hb1 (fun hb1 h6 => ?_) (fun hb1 h6 => x1.goE hi1 hb1 [] ⟨rfl, ⟨(eqInt hw1), rfl, rfl, trivial⟩, trivial, trivial⟩)
      refine seqE ?_
      have hg := donE hg (x1.outD hi1 hb1)
      exact leafE hown hg
    have hg := finE hg (x1.fin hi1)
    refine seqE ?_
    exact leafE hown hg
theorem rf_laws_eqTrailS (x : (List Trail)) : laws_eqTrailS x x = true := eqS_ok (b := laws_eqTrailS_b1) rf_laws_eqTrail (fun _ _ _ _ => rfl) (fun _ _ => rfl) x
def laws_eqStripe (p0 : Stripe) (p1 : Stripe) : Bool :=
  (bif (p0.Held != p1.Held) then false else (bif (!(laws_eqTrailS p0.L p1.L)) then false else true))
theorem c_laws_eqStripe (p0 : Stripe) (p1 : Stripe) : FnOk prog 73 [.agg ((Stripe.cells false) p0), .agg ((Stripe.cells false) p1)] ⟨.one (.v (.bool (laws_eqStripe p0 p1))), [], [], false⟩ := by
  refine FnOk.intro (E := env) envOk wide func73 rfl (by kernel_rfl) rfl rfl ?_
  have hg := laws_eqStripe.eq_1 p0 p1
  have hown : ∀ g : Bool, AV.Own (AV.one (.v (.bool g))) := fun g => .v _
  refine seqE ?_
  refine litE (m := 0) rfl ?_
  refine litE (m := 1) rfl ?_
  refine seqE ?_
  refine seqE ?_
  refine brW hg (fun hg h1 => ?_) (fun hg h1 => ?_)
  · refine seqE ?_
    exact leafE hown hg
  · refine seqE ?_
    refine seqE ?_
    refine .inl (⟨_, _, c_laws_eqTrailS p0.L p1.L, (FzAs.same _), ?_⟩)
    refine litE (m := 3) rfl ?_
    refine brE hg (fun hg h2 => ?_) (fun hg h2 => ?_)
    · refine seqE ?_
      exact leafE hown hg
    · refine seqE ?_
      exact leafE hown hg
theorem rf_laws_eqStripe (x : Stripe) : laws_eqStripe x x = true := by
  simp [laws_eqStripe, rf_laws_eqTrailS]
def laws_eqStripeS_b1 (p1 : (List Stripe)) (i1 : Nat) (s1 : Unit) (a1 : Stripe) : Step (Unit) Bool :=
  (bif (!(laws_eqStripe a1 (p1[i1]?.getD default))) then (.done false) else (.next ()))
def laws_eqStripeS (p0 : (List Stripe)) (p1 : (List Stripe)) : Bool :=
  (bif ((((p0).length : Nat) : Int) != (((p1).length : Nat) : Int)) then false else (Fin.get (fun s1 => true) (loopL (laws_eqStripeS_b1 p1) 0 () p0)))
theorem c_laws_eqStripeS (p0 : (List Stripe)) (p1 : (List Stripe)) : FnOk prog 34 [.one (.s false 2 (List.map (Stripe.cells false) p0)), .one (.s false 2 (List.map (Stripe.cells false) p1))] ⟨.one (.v (.bool (laws_eqStripeS p0 p1))), [], [], false⟩ := by
  refine FnOk.intro (E := env) envOk wide func34 rfl (by kernel_rfl) rfl rfl ?_
  have hg := laws_eqStripeS.eq_1 p0 p1
  have hown : ∀ g : Bool, AV.Own (AV.one (.v (.bool g))) := fun g => .v _
  refine seqE ?_
  refine seqE ?_
  refine seqE ?_
  refine lenM fun hN1 => ?_
  refine lenM fun hN2 => ?_
  refine brW hg (fun hg h3 => ?_) (fun hg h3 => ?_)
  · refine seqE ?_
    exact leafE hown hg
  · refine seqE ?_
    refine seqE ?_
    refine loopLE hg [0, 1] (fun x1 => [(5, .one (.v (.int .i64 ((x1.i : Nat) : Int))))]) (fun x1 => []) [] ?_ (fun x1 => ?_)
    · exact ⟨rfl, ⟨rfl, rfl, rfl, trivial⟩, trivial, trivial⟩
    refine seqE ?_
    refine seqE ?_
    refine lenM fun hN4 => ?_
    refine tstL (fun hi1 => ?_) (fun hi1 => ?_)
    · have hb1 := (x1.bdy hi1).trans (laws_eqStripeS_b1.eq_1 ..)
      have hw1 := wrap_succ hi1 (by first | assumption | omega)
      refine seqE ?_
      refine seqE ?_
      refine .inl ⟨by kernel_rfl, ?_⟩
      refine idxAt hi1 ?_
      refine idxOf (l := p1) (by (first | omega | (simp (disch := omega) only [wrap_small, mid_eq, List.length_map]; omega) | (simp; done) | (simp; omega) | (simp at *; omega) | (simp at *; done) | (simp_all; done) | (simp_all; omega))) (fun hq5 => ?_)
      refine ⟨_, _, c_laws_eqStripe (p0[x1.i]'hi1) (p1[x1.i]?.getD default), (FzAs.same _), ?_⟩
      refine brE hb1 (fun hb1 h6 => ?_) (fun hb1 h6 => x1.goE hi1 hb1 [] ⟨rfl, ⟨(eqInt hw1), rfl, rfl, trivial⟩, trivial, trivial⟩)
      refine seqE ?_
      have hg := donE hg (x1.outD hi1 hb1)
      exact leafE hown hg
    have hg := finE hg (x1.fin hi1)
    refine seqE ?_
    exact leafE hown hg
theorem rf_laws_eqStripeS (x : (List Stripe)) : laws_eqStripeS x x = true := eqS_ok (b := laws_eqStripeS_b1) rf_laws_eqStripe (fun _ _ _ _ => rfl) (fun _ _ => rfl) x
def laws_eqBucket (p0 : Bucket) (p1 : Bucket) : Bool :=
  (bif (p0.Rate != p1.Rate) then false else (bif (p0.Burst != p1.Burst) then false else (bif (p0.Tokens != p1.Tokens) then false else (bif (p0.At != p1.At) then false else true))))
theorem c_laws_eqBucket (p0 : Bucket) (p1 : Bucket) : FnOk prog 35 [.agg (Bucket.cells p0), .agg (Bucket.cells p1)] ⟨.one (.v (.bool (laws_eqBucket p0 p1))), [], [], false⟩ := by
  refine FnOk.intro (E := env) envOk wide func35 rfl (by kernel_rfl) rfl rfl ?_
  have hg := laws_eqBucket.eq_1 p0 p1
  have hown : ∀ g : Bool, AV.Own (AV.one (.v (.bool g))) := fun g => .v _
  refine seqE ?_
  refine litE (m := 0) rfl ?_
  refine litE (m := 1) rfl ?_
  refine seqE ?_
  refine seqE ?_
  refine brW hg (fun hg h1 => ?_) (fun hg h1 => ?_)
  · refine seqE ?_
    exact leafE hown hg
  · refine seqE ?_
    refine seqE ?_
    refine brW hg (fun hg h2 => ?_) (fun hg h2 => ?_)
    · refine seqE ?_
      exact leafE hown hg
    · refine seqE ?_
      refine seqE ?_
      refine brW hg (fun hg h3 => ?_) (fun hg h3 => ?_)
      · refine seqE ?_
        exact leafE hown hg
      · refine seqE ?_
        refine seqE ?_
        refine brW hg (fun hg h4 => ?_) (fun hg h4 => ?_)
        · refine seqE ?_
          exact leafE hown hg
        · refine seqE ?_
          exact leafE hown hg
theorem rf_laws_eqBucket (x : Bucket) : laws_eqBucket x x = true := by
  simp [laws_eqBucket]
def laws_eqVerdict (p0 : Verdict) (p1 : Verdict) : Bool :=
  (bif (p0.Trace != p1.Trace) then false else (bif (p0.Stamp != p1.Stamp) then false else (bif (!(p0.Keep == p1.Keep)) then false else true)))
theorem c_laws_eqVerdict (p0 : Verdict) (p1 : Verdict) : FnOk prog 74 [.agg (Verdict.cells p0), .agg (Verdict.cells p1)] ⟨.one (.v (.bool (laws_eqVerdict p0 p1))), [], [], false⟩ := by
  refine FnOk.intro (E := env) envOk wide func74 rfl (by kernel_rfl) rfl rfl ?_
  have hg := laws_eqVerdict.eq_1 p0 p1
  have hown : ∀ g : Bool, AV.Own (AV.one (.v (.bool g))) := fun g => .v _
  refine seqE ?_
  refine litE (m := 0) rfl ?_
  refine litE (m := 1) rfl ?_
  refine seqE ?_
  refine seqE ?_
  refine brW hg (fun hg h1 => ?_) (fun hg h1 => ?_)
  · refine seqE ?_
    exact leafE hown hg
  · refine seqE ?_
    refine seqE ?_
    refine brW hg (fun hg h2 => ?_) (fun hg h2 => ?_)
    · refine seqE ?_
      exact leafE hown hg
    · refine seqE ?_
      refine seqE ?_
      refine brE hg (fun hg h3 => ?_) (fun hg h3 => ?_)
      · refine seqE ?_
        exact leafE hown hg
      · refine seqE ?_
        exact leafE hown hg
theorem rf_laws_eqVerdict (x : Verdict) : laws_eqVerdict x x = true := by
  simp [laws_eqVerdict]
def laws_eqVerdictS_b1 (p1 : (List Verdict)) (i1 : Nat) (s1 : Unit) (a1 : Verdict) : Step (Unit) Bool :=
  (bif (!(laws_eqVerdict a1 (p1[i1]?.getD default))) then (.done false) else (.next ()))
def laws_eqVerdictS (p0 : (List Verdict)) (p1 : (List Verdict)) : Bool :=
  (bif ((((p0).length : Nat) : Int) != (((p1).length : Nat) : Int)) then false else (Fin.get (fun s1 => true) (loopL (laws_eqVerdictS_b1 p1) 0 () p0)))
theorem c_laws_eqVerdictS (p0 : (List Verdict)) (p1 : (List Verdict)) : FnOk prog 36 [.one (.s false 3 (List.map Verdict.cells p0)), .one (.s false 3 (List.map Verdict.cells p1))] ⟨.one (.v (.bool (laws_eqVerdictS p0 p1))), [], [], false⟩ := by
  refine FnOk.intro (E := env) envOk wide func36 rfl (by kernel_rfl) rfl rfl ?_
  have hg := laws_eqVerdictS.eq_1 p0 p1
  have hown : ∀ g : Bool, AV.Own (AV.one (.v (.bool g))) := fun g => .v _
  refine seqE ?_
  refine seqE ?_
  refine seqE ?_
  refine lenM fun hN1 => ?_
  refine lenM fun hN2 => ?_
  refine brW hg (fun hg h3 => ?_) (fun hg h3 => ?_)
  · refine seqE ?_
    exact leafE hown hg
  · refine seqE ?_
    refine seqE ?_
    refine loopLE hg [0, 1] (fun x1 => [(5, .one (.v (.int .i64 ((x1.i : Nat) : Int))))]) (fun x1 => []) [] ?_ (fun x1 => ?_)
    · exact ⟨rfl, ⟨rfl, rfl, rfl, trivial⟩, trivial, trivial⟩
    refine seqE ?_
    refine seqE ?_
    refine lenM fun hN4 => ?_
    refine tstL (fun hi1 => ?_) (fun hi1 => ?_)
    · have hb1 := (x1.bdy hi1).trans (laws_eqVerdictS_b1.eq_1 ..)
      have hw1 := wrap_succ hi1 (by first | assumption | omega)
      refine seqE ?_
      refine seqE ?_
      refine .inl ⟨by kernel_rfl, ?_⟩
      refine idxAt hi1 ?_
      refine idxOf (l := p1) (by (first | omega | (simp (disch := omega) only [wrap_small, mid_eq, List.length_map]; omega) | (simp; done) | (simp; omega) | (simp at *; omega) | (simp at *; done) | (simp_all; done) | (simp_all; omega))) (fun hq5 => ?_)
      refine ⟨_, _, c_laws_eqVerdict (p0[x1.i]'hi1) (p1[x1.i]?.getD default), (FzAs.same _), ?_⟩
      refine brE hb1 (fun hb1 h6 => ?_) (fun hb1 h6 => x1.goE hi1 hb1 [] ⟨rfl, ⟨(eqInt hw1), rfl, rfl, trivial⟩, trivial, trivial⟩)
      refine seqE ?_
      have hg := donE hg (x1.outD hi1 hb1)
      exact leafE hown hg
    have hg := finE hg (x1.fin hi1)
    refine seqE ?_
    exact leafE hown hg
theorem rf_laws_eqVerdictS (x : (List Verdict)) : laws_eqVerdictS x x = true := eqS_ok (b := laws_eqVerdictS_b1) rf_laws_eqVerdict (fun _ _ _ _ => rfl) (fun _ _ => rfl) x
def laws_eqTimer (p0 : Timer) (p1 : Timer) : Bool :=
  (bif (p0.Id != p1.Id) then false else (bif (p0.Trace != p1.Trace) then false else (bif (p0.At != p1.At) then false else true)))
theorem c_laws_eqTimer (p0 : Timer) (p1 : Timer) : FnOk prog 76 [.agg (Timer.cells p0), .agg (Timer.cells p1)] ⟨.one (.v (.bool (laws_eqTimer p0 p1))), [], [], false⟩ := by
  refine FnOk.intro (E := env) envOk wide func76 rfl (by kernel_rfl) rfl rfl ?_
  have hg := laws_eqTimer.eq_1 p0 p1
  have hown : ∀ g : Bool, AV.Own (AV.one (.v (.bool g))) := fun g => .v _
  refine seqE ?_
  refine litE (m := 0) rfl ?_
  refine litE (m := 1) rfl ?_
  refine seqE ?_
  refine seqE ?_
  refine brW hg (fun hg h1 => ?_) (fun hg h1 => ?_)
  · refine seqE ?_
    exact leafE hown hg
  · refine seqE ?_
    refine seqE ?_
    refine brW hg (fun hg h2 => ?_) (fun hg h2 => ?_)
    · refine seqE ?_
      exact leafE hown hg
    · refine seqE ?_
      refine seqE ?_
      refine brW hg (fun hg h3 => ?_) (fun hg h3 => ?_)
      · refine seqE ?_
        exact leafE hown hg
      · refine seqE ?_
        exact leafE hown hg
theorem rf_laws_eqTimer (x : Timer) : laws_eqTimer x x = true := by
  simp [laws_eqTimer]
def laws_eqTimerS_b1 (p1 : (List Timer)) (i1 : Nat) (s1 : Unit) (a1 : Timer) : Step (Unit) Bool :=
  (bif (!(laws_eqTimer a1 (p1[i1]?.getD default))) then (.done false) else (.next ()))
def laws_eqTimerS (p0 : (List Timer)) (p1 : (List Timer)) : Bool :=
  (bif ((((p0).length : Nat) : Int) != (((p1).length : Nat) : Int)) then false else (Fin.get (fun s1 => true) (loopL (laws_eqTimerS_b1 p1) 0 () p0)))
theorem c_laws_eqTimerS (p0 : (List Timer)) (p1 : (List Timer)) : FnOk prog 38 [.one (.s false 3 (List.map Timer.cells p0)), .one (.s false 3 (List.map Timer.cells p1))] ⟨.one (.v (.bool (laws_eqTimerS p0 p1))), [], [], false⟩ := by
  refine FnOk.intro (E := env) envOk wide func38 rfl (by kernel_rfl) rfl rfl ?_
  have hg := laws_eqTimerS.eq_1 p0 p1
  have hown : ∀ g : Bool, AV.Own (AV.one (.v (.bool g))) := fun g => .v _
  refine seqE ?_
  refine seqE ?_
  refine seqE ?_
  refine lenM fun hN1 => ?_
  refine lenM fun hN2 => ?_
  refine brW hg (fun hg h3 => ?_) (fun hg h3 => ?_)
  · refine seqE ?_
    exact leafE hown hg
  · refine seqE ?_
    refine seqE ?_
    refine loopLE hg [0, 1] (fun x1 => [(5, .one (.v (.int .i64 ((x1.i : Nat) : Int))))]) (fun x1 => []) [] ?_ (fun x1 => ?_)
    · exact ⟨rfl, ⟨rfl, rfl, rfl, trivial⟩, trivial, trivial⟩
    refine seqE ?_
    refine seqE ?_
    refine lenM fun hN4 => ?_
    refine tstL (fun hi1 => ?_) (fun hi1 => ?_)
    · have hb1 := (x1.bdy hi1).trans (laws_eqTimerS_b1.eq_1 ..)
      have hw1 := wrap_succ hi1 (by first | assumption | omega)
      refine seqE ?_
      refine seqE ?_
      refine .inl ⟨by kernel_rfl, ?_⟩
      refine idxAt hi1 ?_
      refine idxOf (l := p1) (by (first | omega | (simp (disch := omega) only [wrap_small, mid_eq, List.length_map]; omega) | (simp; done) | (simp; omega) | (simp at *; omega) | (simp at *; done) | (simp_all; done) | (simp_all; omega))) (fun hq5 => ?_)
      refine ⟨_, _, c_laws_eqTimer (p0[x1.i]'hi1) (p1[x1.i]?.getD default), (FzAs.same _), ?_⟩
      refine brE hb1 (fun hb1 h6 => ?_) (fun hb1 h6 => x1.goE hi1 hb1 [] ⟨rfl, ⟨(eqInt hw1), rfl, rfl, trivial⟩, trivial, trivial⟩)
      refine seqE ?_
      have hg := donE hg (x1.outD hi1 hb1)
      exact leafE hown hg
    have hg := finE hg (x1.fin hi1)
    refine seqE ?_
    exact leafE hown hg
theorem rf_laws_eqTimerS (x : (List Timer)) : laws_eqTimerS x x = true := eqS_ok (b := laws_eqTimerS_b1) rf_laws_eqTimer (fun _ _ _ _ => rfl) (fun _ _ => rfl) x
def laws_eqTimerSS_b1 (p1 : (List (List Timer))) (i1 : Nat) (s1 : Unit) (a1 : (List Timer)) : Step (Unit) Bool :=
  (bif (!(laws_eqTimerS a1 (p1[i1]?.getD default))) then (.done false) else (.next ()))
def laws_eqTimerSS (p0 : (List (List Timer))) (p1 : (List (List Timer))) : Bool :=
  (bif ((((p0).length : Nat) : Int) != (((p1).length : Nat) : Int)) then false else (Fin.get (fun s1 => true) (loopL (laws_eqTimerSS_b1 p1) 0 () p0)))
theorem c_laws_eqTimerSS (p0 : (List (List Timer))) (p1 : (List (List Timer))) : FnOk prog 75 [.one (.s false 1 (List.map (cSl false 3 Timer.cells) p0)), .one (.s false 1 (List.map (cSl false 3 Timer.cells) p1))] ⟨.one (.v (.bool (laws_eqTimerSS p0 p1))), [], [], false⟩ := by
  refine FnOk.intro (E := env) envOk wide func75 rfl (by kernel_rfl) rfl rfl ?_
  have hg := laws_eqTimerSS.eq_1 p0 p1
  have hown : ∀ g : Bool, AV.Own (AV.one (.v (.bool g))) := fun g => .v _
  refine seqE ?_
  refine seqE ?_
  refine seqE ?_
  refine lenM fun hN1 => ?_
  refine lenM fun hN2 => ?_
  refine brW hg (fun hg h3 => ?_) (fun hg h3 => ?_)
  · refine seqE ?_
    exact leafE hown hg
  · refine seqE ?_
    refine seqE ?_
    refine loopLE hg [0, 1] (fun x1 => [(5, .one (.v (.int .i64 ((x1.i : Nat) : Int))))]) (fun x1 => []) [] ?_ (fun x1 => ?_)
    · exact ⟨rfl, ⟨rfl, rfl, rfl, trivial⟩, trivial, trivial⟩
    refine seqE ?_
    refine seqE ?_
    refine lenM fun hN4 => ?_
    refine tstL (fun hi1 => ?_) (fun hi1 => ?_)
    · have hb1 := (x1.bdy hi1).trans (laws_eqTimerSS_b1.eq_1 ..)
      have hw1 := wrap_succ hi1 (by first | assumption | omega)
      refine seqE ?_
      refine seqE ?_
      refine .inl ⟨by kernel_rfl, ?_⟩
      refine idxAt hi1 ?_
      refine idxOf (l := p1) (by (first | omega | (simp (disch := omega) only [wrap_small, mid_eq, List.length_map]; omega) | (simp; done) | (simp; omega) | (simp at *; omega) | (simp at *; done) | (simp_all; done) | (simp_all; omega))) (fun hq5 => ?_)
      refine ⟨_, _, c_laws_eqTimerS (p0[x1.i]'hi1) (p1[x1.i]?.getD default), (FzAs.same _), ?_⟩
      refine brE hb1 (fun hb1 h6 => ?_) (fun hb1 h6 => x1.goE hi1 hb1 [] ⟨rfl, ⟨(eqInt hw1), rfl, rfl, trivial⟩, trivial, trivial⟩)
      refine seqE ?_
      have hg := donE hg (x1.outD hi1 hb1)
      exact leafE hown hg
    have hg := finE hg (x1.fin hi1)
    refine seqE ?_
    exact leafE hown hg
theorem rf_laws_eqTimerSS (x : (List (List Timer))) : laws_eqTimerSS x x = true := eqS_ok (b := laws_eqTimerSS_b1) rf_laws_eqTimerS (fun _ _ _ _ => rfl) (fun _ _ => rfl) x
def laws_eqWheel (p0 : Wheel) (p1 : Wheel) : Bool :=
  (bif (p0.Now != p1.Now) then false else (bif (!(laws_eqTimerSS p0.Near p1.Near)) then false else (bif (!(laws_eqTimerSS p0.Far p1.Far)) then false else (bif (!(laws_eqTimerS p0.Rest p1.Rest)) then false else true))))
theorem c_laws_eqWheel (p0 : Wheel) (p1 : Wheel) : FnOk prog 37 [.agg ((Wheel.cells false) p0), .agg ((Wheel.cells false) p1)] ⟨.one (.v (.bool (laws_eqWheel p0 p1))), [], [], false⟩ := by
  refine FnOk.intro (E := env) envOk wide func37 rfl (by kernel_rfl) rfl rfl ?_
  have hg := laws_eqWheel.eq_1 p0 p1
  have hown : ∀ g : Bool, AV.Own (AV.one (.v (.bool g))) := fun g => .v _
  refine seqE ?_
  refine litE (m := 0) rfl ?_
  refine litE (m := 1) rfl ?_
  refine seqE ?_
  refine seqE ?_
  refine brW hg (fun hg h1 => ?_) (fun hg h1 => ?_)
  · refine seqE ?_
    exact leafE hown hg
  · refine seqE ?_
    refine seqE ?_
    refine .inl (⟨_, _, c_laws_eqTimerSS p0.Near p1.Near, (FzAs.same _), ?_⟩)
    refine litE (m := 3) rfl ?_
    refine brE hg (fun hg h2 => ?_) (fun hg h2 => ?_)
    · refine seqE ?_
      exact leafE hown hg
    · refine seqE ?_
      refine seqE ?_
      refine .inl (⟨_, _, c_laws_eqTimerSS p0.Far p1.Far, (FzAs.same _), ?_⟩)
      refine litE (m := 4) rfl ?_
      refine brE hg (fun hg h3 => ?_) (fun hg h3 => ?_)
      · refine seqE ?_
        exact leafE hown hg
      · refine seqE ?_
        refine seqE ?_
        refine .inl (⟨_, _, c_laws_eqTimerS p0.Rest p1.Rest, (FzAs.same _), ?_⟩)
        refine litE (m := 5) rfl ?_
        refine brE hg (fun hg h4 => ?_) (fun hg h4 => ?_)
        · refine seqE ?_
          exact leafE hown hg
        · refine seqE ?_
          exact leafE hown hg
theorem rf_laws_eqWheel (x : Wheel) : laws_eqWheel x x = true := by
  simp [laws_eqWheel, rf_laws_eqTimerS, rf_laws_eqTimerSS]
def laws_eqItem (p0 : Item) (p1 : Item) : Bool :=
  (bif (p0.Stamp != p1.Stamp) then false else (bif (!(laws_eqSpan p0.S p1.S)) then false else true))
theorem c_laws_eqItem (p0 : Item) (p1 : Item) : FnOk prog 77 [.agg ((Item.cells false) p0), .agg ((Item.cells false) p1)] ⟨.one (.v (.bool (laws_eqItem p0 p1))), [], [], false⟩ := by
  refine FnOk.intro (E := env) envOk wide func77 rfl (by kernel_rfl) rfl rfl ?_
  have hg := laws_eqItem.eq_1 p0 p1
  have hown : ∀ g : Bool, AV.Own (AV.one (.v (.bool g))) := fun g => .v _
  refine seqE ?_
  refine litE (m := 0) rfl ?_
  refine litE (m := 1) rfl ?_
  refine seqE ?_
  refine seqE ?_
  refine brW hg (fun hg h1 => ?_) (fun hg h1 => ?_)
  · refine seqE ?_
    exact leafE hown hg
  · refine seqE ?_
    refine seqE ?_
    refine .inl (⟨_, _, c_laws_eqSpan p0.S p1.S, (FzAs.same _), ?_⟩)
    refine litE (m := 3) rfl ?_
    refine brE hg (fun hg h2 => ?_) (fun hg h2 => ?_)
    · refine seqE ?_
      exact leafE hown hg
    · refine seqE ?_
      exact leafE hown hg
theorem rf_laws_eqItem (x : Item) : laws_eqItem x x = true := by
  simp [laws_eqItem, rf_laws_eqSpan]
def laws_eqItemS_b1 (p1 : (List Item)) (i1 : Nat) (s1 : Unit) (a1 : Item) : Step (Unit) Bool :=
  (bif (!(laws_eqItem a1 (p1[i1]?.getD default))) then (.done false) else (.next ()))
def laws_eqItemS (p0 : (List Item)) (p1 : (List Item)) : Bool :=
  (bif ((((p0).length : Nat) : Int) != (((p1).length : Nat) : Int)) then false else (Fin.get (fun s1 => true) (loopL (laws_eqItemS_b1 p1) 0 () p0)))
theorem c_laws_eqItemS (p0 : (List Item)) (p1 : (List Item)) : FnOk prog 39 [.one (.s false 7 (List.map (Item.cells false) p0)), .one (.s false 7 (List.map (Item.cells false) p1))] ⟨.one (.v (.bool (laws_eqItemS p0 p1))), [], [], false⟩ := by
  refine FnOk.intro (E := env) envOk wide func39 rfl (by kernel_rfl) rfl rfl ?_
  have hg := laws_eqItemS.eq_1 p0 p1
  have hown : ∀ g : Bool, AV.Own (AV.one (.v (.bool g))) := fun g => .v _
  refine seqE ?_
  refine seqE ?_
  refine seqE ?_
  refine lenM fun hN1 => ?_
  refine lenM fun hN2 => ?_
  refine brW hg (fun hg h3 => ?_) (fun hg h3 => ?_)
  · refine seqE ?_
    exact leafE hown hg
  · refine seqE ?_
    refine seqE ?_
    refine loopLE hg [0, 1] (fun x1 => [(5, .one (.v (.int .i64 ((x1.i : Nat) : Int))))]) (fun x1 => []) [] ?_ (fun x1 => ?_)
    · exact ⟨rfl, ⟨rfl, rfl, rfl, trivial⟩, trivial, trivial⟩
    refine seqE ?_
    refine seqE ?_
    refine lenM fun hN4 => ?_
    refine tstL (fun hi1 => ?_) (fun hi1 => ?_)
    · have hb1 := (x1.bdy hi1).trans (laws_eqItemS_b1.eq_1 ..)
      have hw1 := wrap_succ hi1 (by first | assumption | omega)
      refine seqE ?_
      refine seqE ?_
      refine .inl ⟨by kernel_rfl, ?_⟩
      refine idxAt hi1 ?_
      refine idxOf (l := p1) (by (first | omega | (simp (disch := omega) only [wrap_small, mid_eq, List.length_map]; omega) | (simp; done) | (simp; omega) | (simp at *; omega) | (simp at *; done) | (simp_all; done) | (simp_all; omega))) (fun hq5 => ?_)
      refine ⟨_, _, c_laws_eqItem (p0[x1.i]'hi1) (p1[x1.i]?.getD default), (FzAs.same _), ?_⟩
      refine brE hb1 (fun hb1 h6 => ?_) (fun hb1 h6 => x1.goE hi1 hb1 [] ⟨rfl, ⟨(eqInt hw1), rfl, rfl, trivial⟩, trivial, trivial⟩)
      refine seqE ?_
      have hg := donE hg (x1.outD hi1 hb1)
      exact leafE hown hg
    have hg := finE hg (x1.fin hi1)
    refine seqE ?_
    exact leafE hown hg
theorem rf_laws_eqItemS (x : (List Item)) : laws_eqItemS x x = true := eqS_ok (b := laws_eqItemS_b1) rf_laws_eqItem (fun _ _ _ _ => rfl) (fun _ _ => rfl) x
def laws_eqTask (p0 : Task) (p1 : Task) : Bool :=
  (bif (p0.Op != p1.Op) then false else (bif (p0.Pc != p1.Pc) then false else (bif (!(laws_eqSpan p0.S p1.S)) then false else (bif (p0.Trace != p1.Trace) then false else (bif (p0.Stamp != p1.Stamp) then false else (bif (!(laws_eqItemS p0.Hand p1.Hand)) then false else (bif (p0.H != p1.H) then false else true)))))))
theorem c_laws_eqTask (p0 : Task) (p1 : Task) : FnOk prog 78 [.agg ((Task.cells false) p0), .agg ((Task.cells false) p1)] ⟨.one (.v (.bool (laws_eqTask p0 p1))), [], [], false⟩ := by
  refine FnOk.intro (E := env) envOk wide func78 rfl (by kernel_rfl) rfl rfl ?_
  have hg := laws_eqTask.eq_1 p0 p1
  have hown : ∀ g : Bool, AV.Own (AV.one (.v (.bool g))) := fun g => .v _
  refine seqE ?_
  refine litE (m := 0) rfl ?_
  refine litE (m := 1) rfl ?_
  refine seqE ?_
  refine seqE ?_
  refine brW hg (fun hg h1 => ?_) (fun hg h1 => ?_)
  · refine seqE ?_
    exact leafE hown hg
  · refine seqE ?_
    refine seqE ?_
    refine brW hg (fun hg h2 => ?_) (fun hg h2 => ?_)
    · refine seqE ?_
      exact leafE hown hg
    · refine seqE ?_
      refine seqE ?_
      refine .inl (⟨_, _, c_laws_eqSpan p0.S p1.S, (FzAs.same _), ?_⟩)
      refine litE (m := 3) rfl ?_
      refine brE hg (fun hg h3 => ?_) (fun hg h3 => ?_)
      · refine seqE ?_
        exact leafE hown hg
      · refine seqE ?_
        refine seqE ?_
        refine brW hg (fun hg h4 => ?_) (fun hg h4 => ?_)
        · refine seqE ?_
          exact leafE hown hg
        · refine seqE ?_
          refine seqE ?_
          refine brW hg (fun hg h5 => ?_) (fun hg h5 => ?_)
          · refine seqE ?_
            exact leafE hown hg
          · refine seqE ?_
            refine seqE ?_
            refine .inl (⟨_, _, c_laws_eqItemS p0.Hand p1.Hand, (FzAs.same _), ?_⟩)
            refine litE (m := 4) rfl ?_
            refine brE hg (fun hg h6 => ?_) (fun hg h6 => ?_)
            · refine seqE ?_
              exact leafE hown hg
            · refine seqE ?_
              refine seqE ?_
              refine brW hg (fun hg h7 => ?_) (fun hg h7 => ?_)
              · refine seqE ?_
                exact leafE hown hg
              · refine seqE ?_
                exact leafE hown hg
theorem rf_laws_eqTask (x : Task) : laws_eqTask x x = true := by
  simp [laws_eqTask, rf_laws_eqSpan, rf_laws_eqItemS]
def laws_eqTaskS_b1 (p1 : (List Task)) (i1 : Nat) (s1 : Unit) (a1 : Task) : Step (Unit) Bool :=
  (bif (!(laws_eqTask a1 (p1[i1]?.getD default))) then (.done false) else (.next ()))
def laws_eqTaskS (p0 : (List Task)) (p1 : (List Task)) : Bool :=
  (bif ((((p0).length : Nat) : Int) != (((p1).length : Nat) : Int)) then false else (Fin.get (fun s1 => true) (loopL (laws_eqTaskS_b1 p1) 0 () p0)))
theorem c_laws_eqTaskS (p0 : (List Task)) (p1 : (List Task)) : FnOk prog 40 [.one (.s false 12 (List.map (Task.cells false) p0)), .one (.s false 12 (List.map (Task.cells false) p1))] ⟨.one (.v (.bool (laws_eqTaskS p0 p1))), [], [], false⟩ := by
  refine FnOk.intro (E := env) envOk wide func40 rfl (by kernel_rfl) rfl rfl ?_
  have hg := laws_eqTaskS.eq_1 p0 p1
  have hown : ∀ g : Bool, AV.Own (AV.one (.v (.bool g))) := fun g => .v _
  refine seqE ?_
  refine seqE ?_
  refine seqE ?_
  refine lenM fun hN1 => ?_
  refine lenM fun hN2 => ?_
  refine brW hg (fun hg h3 => ?_) (fun hg h3 => ?_)
  · refine seqE ?_
    exact leafE hown hg
  · refine seqE ?_
    refine seqE ?_
    refine loopLE hg [0, 1] (fun x1 => [(5, .one (.v (.int .i64 ((x1.i : Nat) : Int))))]) (fun x1 => []) [] ?_ (fun x1 => ?_)
    · exact ⟨rfl, ⟨rfl, rfl, rfl, trivial⟩, trivial, trivial⟩
    refine seqE ?_
    refine seqE ?_
    refine lenM fun hN4 => ?_
    refine tstL (fun hi1 => ?_) (fun hi1 => ?_)
    · have hb1 := (x1.bdy hi1).trans (laws_eqTaskS_b1.eq_1 ..)
      have hw1 := wrap_succ hi1 (by first | assumption | omega)
      refine seqE ?_
      refine seqE ?_
      refine .inl ⟨by kernel_rfl, ?_⟩
      refine idxAt hi1 ?_
      refine idxOf (l := p1) (by (first | omega | (simp (disch := omega) only [wrap_small, mid_eq, List.length_map]; omega) | (simp; done) | (simp; omega) | (simp at *; omega) | (simp at *; done) | (simp_all; done) | (simp_all; omega))) (fun hq5 => ?_)
      refine ⟨_, _, c_laws_eqTask (p0[x1.i]'hi1) (p1[x1.i]?.getD default), (FzAs.same _), ?_⟩
      refine brE hb1 (fun hb1 h6 => ?_) (fun hb1 h6 => x1.goE hi1 hb1 [] ⟨rfl, ⟨(eqInt hw1), rfl, rfl, trivial⟩, trivial, trivial⟩)
      refine seqE ?_
      have hg := donE hg (x1.outD hi1 hb1)
      exact leafE hown hg
    have hg := finE hg (x1.fin hi1)
    refine seqE ?_
    exact leafE hown hg
theorem rf_laws_eqTaskS (x : (List Task)) : laws_eqTaskS x x = true := eqS_ok (b := laws_eqTaskS_b1) rf_laws_eqTask (fun _ _ _ _ => rfl) (fun _ _ => rfl) x
def laws_eqDeed (p0 : Deed) (p1 : Deed) : Bool :=
  (bif (p0.Op != p1.Op) then false else (bif (p0.Task != p1.Task) then false else (bif (!(laws_eqSpan p0.S p1.S)) then false else (bif (p0.Trace != p1.Trace) then false else (bif (p0.Stamp != p1.Stamp) then false else (bif (p0.Code != p1.Code) then false else (bif (!(p0.Keep == p1.Keep)) then false else (bif (!(p0.Void == p1.Void)) then false else (bif (p0.Took != p1.Took) then false else (bif (p0.N != p1.N) then false else (bif (p0.Forgot != p1.Forgot) then false else (bif (p0.Now != p1.Now) then false else (bif (p0.Inv != p1.Inv) then false else (bif (p0.Lin != p1.Lin) then false else (bif (p0.Res != p1.Res) then false else true)))))))))))))))
theorem c_laws_eqDeed (p0 : Deed) (p1 : Deed) : FnOk prog 79 [.agg ((Deed.cells false) p0), .agg ((Deed.cells false) p1)] ⟨.one (.v (.bool (laws_eqDeed p0 p1))), [], [], false⟩ := by
  refine FnOk.intro (E := env) envOk wide func79 rfl (by kernel_rfl) rfl rfl ?_
  have hg := laws_eqDeed.eq_1 p0 p1
  have hown : ∀ g : Bool, AV.Own (AV.one (.v (.bool g))) := fun g => .v _
  refine seqE ?_
  refine litE (m := 0) rfl ?_
  refine litE (m := 1) rfl ?_
  refine seqE ?_
  refine seqE ?_
  refine brW hg (fun hg h1 => ?_) (fun hg h1 => ?_)
  · refine seqE ?_
    exact leafE hown hg
  · refine seqE ?_
    refine seqE ?_
    refine brW hg (fun hg h2 => ?_) (fun hg h2 => ?_)
    · refine seqE ?_
      exact leafE hown hg
    · refine seqE ?_
      refine seqE ?_
      refine .inl (⟨_, _, c_laws_eqSpan p0.S p1.S, (FzAs.same _), ?_⟩)
      refine litE (m := 3) rfl ?_
      refine brE hg (fun hg h3 => ?_) (fun hg h3 => ?_)
      · refine seqE ?_
        exact leafE hown hg
      · refine seqE ?_
        refine seqE ?_
        refine brW hg (fun hg h4 => ?_) (fun hg h4 => ?_)
        · refine seqE ?_
          exact leafE hown hg
        · refine seqE ?_
          refine seqE ?_
          refine brW hg (fun hg h5 => ?_) (fun hg h5 => ?_)
          · refine seqE ?_
            exact leafE hown hg
          · refine seqE ?_
            refine seqE ?_
            refine brW hg (fun hg h6 => ?_) (fun hg h6 => ?_)
            · refine seqE ?_
              exact leafE hown hg
            · refine seqE ?_
              refine seqE ?_
              refine brE hg (fun hg h7 => ?_) (fun hg h7 => ?_)
              · refine seqE ?_
                exact leafE hown hg
              · refine seqE ?_
                refine seqE ?_
                refine brE hg (fun hg h8 => ?_) (fun hg h8 => ?_)
                · refine seqE ?_
                  exact leafE hown hg
                · refine seqE ?_
                  refine seqE ?_
                  refine brW hg (fun hg h9 => ?_) (fun hg h9 => ?_)
                  · refine seqE ?_
                    exact leafE hown hg
                  · refine seqE ?_
                    refine seqE ?_
                    refine brW hg (fun hg h10 => ?_) (fun hg h10 => ?_)
                    · refine seqE ?_
                      exact leafE hown hg
                    · refine seqE ?_
                      refine seqE ?_
                      refine brW hg (fun hg h11 => ?_) (fun hg h11 => ?_)
                      · refine seqE ?_
                        exact leafE hown hg
                      · refine seqE ?_
                        refine seqE ?_
                        refine brW hg (fun hg h12 => ?_) (fun hg h12 => ?_)
                        · refine seqE ?_
                          exact leafE hown hg
                        · refine seqE ?_
                          refine seqE ?_
                          refine brW hg (fun hg h13 => ?_) (fun hg h13 => ?_)
                          · refine seqE ?_
                            exact leafE hown hg
                          · refine seqE ?_
                            refine seqE ?_
                            refine brW hg (fun hg h14 => ?_) (fun hg h14 => ?_)
                            · refine seqE ?_
                              exact leafE hown hg
                            · refine seqE ?_
                              refine seqE ?_
                              refine brW hg (fun hg h15 => ?_) (fun hg h15 => ?_)
                              · refine seqE ?_
                                exact leafE hown hg
                              · refine seqE ?_
                                exact leafE hown hg
theorem rf_laws_eqDeed (x : Deed) : laws_eqDeed x x = true := by
  simp [laws_eqDeed, rf_laws_eqSpan]
def laws_eqDeedS_b1 (p1 : (List Deed)) (i1 : Nat) (s1 : Unit) (a1 : Deed) : Step (Unit) Bool :=
  (bif (!(laws_eqDeed a1 (p1[i1]?.getD default))) then (.done false) else (.next ()))
def laws_eqDeedS (p0 : (List Deed)) (p1 : (List Deed)) : Bool :=
  (bif ((((p0).length : Nat) : Int) != (((p1).length : Nat) : Int)) then false else (Fin.get (fun s1 => true) (loopL (laws_eqDeedS_b1 p1) 0 () p0)))
theorem c_laws_eqDeedS (p0 : (List Deed)) (p1 : (List Deed)) : FnOk prog 41 [.one (.s false 20 (List.map (Deed.cells false) p0)), .one (.s false 20 (List.map (Deed.cells false) p1))] ⟨.one (.v (.bool (laws_eqDeedS p0 p1))), [], [], false⟩ := by
  refine FnOk.intro (E := env) envOk wide func41 rfl (by kernel_rfl) rfl rfl ?_
  have hg := laws_eqDeedS.eq_1 p0 p1
  have hown : ∀ g : Bool, AV.Own (AV.one (.v (.bool g))) := fun g => .v _
  refine seqE ?_
  refine seqE ?_
  refine seqE ?_
  refine lenM fun hN1 => ?_
  refine lenM fun hN2 => ?_
  refine brW hg (fun hg h3 => ?_) (fun hg h3 => ?_)
  · refine seqE ?_
    exact leafE hown hg
  · refine seqE ?_
    refine seqE ?_
    refine loopLE hg [0, 1] (fun x1 => [(5, .one (.v (.int .i64 ((x1.i : Nat) : Int))))]) (fun x1 => []) [] ?_ (fun x1 => ?_)
    · exact ⟨rfl, ⟨rfl, rfl, rfl, trivial⟩, trivial, trivial⟩
    refine seqE ?_
    refine seqE ?_
    refine lenM fun hN4 => ?_
    refine tstL (fun hi1 => ?_) (fun hi1 => ?_)
    · have hb1 := (x1.bdy hi1).trans (laws_eqDeedS_b1.eq_1 ..)
      have hw1 := wrap_succ hi1 (by first | assumption | omega)
      refine seqE ?_
      refine seqE ?_
      refine .inl ⟨by kernel_rfl, ?_⟩
      refine idxAt hi1 ?_
      refine idxOf (l := p1) (by (first | omega | (simp (disch := omega) only [wrap_small, mid_eq, List.length_map]; omega) | (simp; done) | (simp; omega) | (simp at *; omega) | (simp at *; done) | (simp_all; done) | (simp_all; omega))) (fun hq5 => ?_)
      refine ⟨_, _, c_laws_eqDeed (p0[x1.i]'hi1) (p1[x1.i]?.getD default), (FzAs.same _), ?_⟩
      refine brE hb1 (fun hb1 h6 => ?_) (fun hb1 h6 => x1.goE hi1 hb1 [] ⟨rfl, ⟨(eqInt hw1), rfl, rfl, trivial⟩, trivial, trivial⟩)
      refine seqE ?_
      have hg := donE hg (x1.outD hi1 hb1)
      exact leafE hown hg
    have hg := finE hg (x1.fin hi1)
    refine seqE ?_
    exact leafE hown hg
theorem rf_laws_eqDeedS (x : (List Deed)) : laws_eqDeedS x x = true := eqS_ok (b := laws_eqDeedS_b1) rf_laws_eqDeed (fun _ _ _ _ => rfl) (fun _ _ => rfl) x
def laws_eqWorld (p0 : World) (p1 : World) : Bool :=
  (bif (!(laws_eqConf p0.C p1.C)) then false else (bif (p0.Time != p1.Time) then false else (bif (!(p0.Shut == p1.Shut)) then false else (bif (!(laws_eqStripeS p0.St p1.St)) then false else (bif (p0.RuleHeld != p1.RuleHeld) then false else (bif (!(laws_eqBucket p0.B p1.B)) then false else (bif (!(laws_eqVerdictS p0.Cache p1.Cache)) then false else (bif (p0.Used != p1.Used) then false else (bif (!(laws_eqWheel p0.W p1.W)) then false else (bif (!(laws_eqTimerS p0.Due p1.Due)) then false else (bif (!(laws_eqItemS p0.Queue p1.Queue)) then false else (bif (!(laws_eqItemS p0.Out p1.Out)) then false else (bif (!(laws_eqTaskS p0.Tasks p1.Tasks)) then false else (bif (!(laws_eqDeedS p0.Deeds p1.Deeds)) then false else (bif (p0.Next != p1.Next) then false else true)))))))))))))))
theorem c_laws_eqWorld (p0 : World) (p1 : World) : FnOk prog 9 [.agg ((World.cells false) p0), .agg ((World.cells false) p1)] ⟨.one (.v (.bool (laws_eqWorld p0 p1))), [], [], false⟩ := by
  refine FnOk.intro (E := env) envOk wide func9 rfl (by kernel_rfl) rfl rfl ?_
  have hg := laws_eqWorld.eq_1 p0 p1
  have hown : ∀ g : Bool, AV.Own (AV.one (.v (.bool g))) := fun g => .v _
  refine seqE ?_
  refine litE (m := 0) rfl ?_
  refine litE (m := 1) rfl ?_
  refine seqE ?_
  refine seqE ?_
  refine .inl (⟨_, _, c_laws_eqConf p0.C p1.C, (FzAs.same _), ?_⟩)
  refine litE (m := 3) rfl ?_
  refine brE hg (fun hg h1 => ?_) (fun hg h1 => ?_)
  · refine seqE ?_
    exact leafE hown hg
  · refine seqE ?_
    refine seqE ?_
    refine brW hg (fun hg h2 => ?_) (fun hg h2 => ?_)
    · refine seqE ?_
      exact leafE hown hg
    · refine seqE ?_
      refine seqE ?_
      refine brE hg (fun hg h3 => ?_) (fun hg h3 => ?_)
      · refine seqE ?_
        exact leafE hown hg
      · refine seqE ?_
        refine seqE ?_
        refine .inl (⟨_, _, c_laws_eqStripeS p0.St p1.St, (FzAs.same _), ?_⟩)
        refine litE (m := 4) rfl ?_
        refine brE hg (fun hg h4 => ?_) (fun hg h4 => ?_)
        · refine seqE ?_
          exact leafE hown hg
        · refine seqE ?_
          refine seqE ?_
          refine brW hg (fun hg h5 => ?_) (fun hg h5 => ?_)
          · refine seqE ?_
            exact leafE hown hg
          · refine seqE ?_
            refine seqE ?_
            refine .inl (⟨_, _, c_laws_eqBucket p0.B p1.B, (FzAs.same _), ?_⟩)
            refine litE (m := 5) rfl ?_
            refine brE hg (fun hg h6 => ?_) (fun hg h6 => ?_)
            · refine seqE ?_
              exact leafE hown hg
            · refine seqE ?_
              refine seqE ?_
              refine .inl (⟨_, _, c_laws_eqVerdictS p0.Cache p1.Cache, (FzAs.same _), ?_⟩)
              refine litE (m := 6) rfl ?_
              refine brE hg (fun hg h7 => ?_) (fun hg h7 => ?_)
              · refine seqE ?_
                exact leafE hown hg
              · refine seqE ?_
                refine seqE ?_
                refine brW hg (fun hg h8 => ?_) (fun hg h8 => ?_)
                · refine seqE ?_
                  exact leafE hown hg
                · refine seqE ?_
                  refine seqE ?_
                  refine .inl (⟨_, _, c_laws_eqWheel p0.W p1.W, (FzAs.same _), ?_⟩)
                  refine litE (m := 7) rfl ?_
                  refine brE hg (fun hg h9 => ?_) (fun hg h9 => ?_)
                  · refine seqE ?_
                    exact leafE hown hg
                  · refine seqE ?_
                    refine seqE ?_
                    refine .inl (⟨_, _, c_laws_eqTimerS p0.Due p1.Due, (FzAs.same _), ?_⟩)
                    refine litE (m := 8) rfl ?_
                    refine brE hg (fun hg h10 => ?_) (fun hg h10 => ?_)
                    · refine seqE ?_
                      exact leafE hown hg
                    · refine seqE ?_
                      refine seqE ?_
                      refine .inl (⟨_, _, c_laws_eqItemS p0.Queue p1.Queue, (FzAs.same _), ?_⟩)
                      refine litE (m := 9) rfl ?_
                      refine brE hg (fun hg h11 => ?_) (fun hg h11 => ?_)
                      · refine seqE ?_
                        exact leafE hown hg
                      · refine seqE ?_
                        refine seqE ?_
                        refine .inl (⟨_, _, c_laws_eqItemS p0.Out p1.Out, (FzAs.same _), ?_⟩)
                        refine litE (m := 10) rfl ?_
                        refine brE hg (fun hg h12 => ?_) (fun hg h12 => ?_)
                        · refine seqE ?_
                          exact leafE hown hg
                        · refine seqE ?_
                          refine seqE ?_
                          refine .inl (⟨_, _, c_laws_eqTaskS p0.Tasks p1.Tasks, (FzAs.same _), ?_⟩)
                          refine litE (m := 11) rfl ?_
                          refine brE hg (fun hg h13 => ?_) (fun hg h13 => ?_)
                          · refine seqE ?_
                            exact leafE hown hg
                          · refine seqE ?_
                            refine seqE ?_
                            refine .inl (⟨_, _, c_laws_eqDeedS p0.Deeds p1.Deeds, (FzAs.same _), ?_⟩)
                            refine litE (m := 12) rfl ?_
                            refine brE hg (fun hg h14 => ?_) (fun hg h14 => ?_)
                            · refine seqE ?_
                              exact leafE hown hg
                            · refine seqE ?_
                              refine seqE ?_
                              refine brW hg (fun hg h15 => ?_) (fun hg h15 => ?_)
                              · refine seqE ?_
                                exact leafE hown hg
                              · refine seqE ?_
                                exact leafE hown hg
theorem rf_laws_eqWorld (x : World) : laws_eqWorld x x = true := by
  simp [laws_eqWorld, rf_laws_eqConf, rf_laws_eqStripeS, rf_laws_eqBucket, rf_laws_eqVerdictS, rf_laws_eqTimerS, rf_laws_eqWheel, rf_laws_eqItemS, rf_laws_eqTaskS, rf_laws_eqDeedS]
def laws_FnExactSettled (p0 : World) : Bool :=
  (bif (decide ((laws_szWorld p0 1048576) < 0)) then true else (bif (!((impl_Settled (laws_toWorld p0)) == (spec_Settled (laws_toWorld p0)))) then false else (bif (!(laws_eqWorld (laws_toWorld p0) (laws_toWorld p0))) then false else true)))
theorem c_laws_FnExactSettled (p0 : World) (hw0 : World.bd 9223372036854775807 p0) : FnOk prog 4 [.agg ((World.cells false) p0)] ⟨.one (.v (.bool (laws_FnExactSettled p0))), [], [], false⟩ := by
  refine FnOk.intro (E := env) envOk wide func4 rfl (by kernel_rfl) rfl rfl ?_
  have hg := laws_FnExactSettled.eq_1 p0
  have hown : ∀ g : Bool, AV.Own (AV.one (.v (.bool g))) := fun g => .v _
  refine seqE ?_
  refine litE (m := 0) rfl ?_
  refine seqE ?_
  refine seqE ?_
  refine .inl (⟨_, _, c_laws_szWorld p0 1048576, (FzAs.same _), ?_⟩)
  refine litE (m := 2) rfl ?_
  refine seqE ?_
  refine seqE ?_
  refine brD hg (fun hg h1 => ?_) (fun hg h1 => ?_)
  · refine seqE ?_
    exact leafE hown hg
  have hz1 := szd_laws_szWorld p0 1048576 (by assumption) (by decide) (by decide) (Int.not_lt.1 h1)
  have hs1 := hz1.1
  have hl1 : (laws_szWorld p0 1048576) ≤ 1048576 := Int.le_trans hz1.2 (by decide)
  refine seqE ?_
  refine .inl (⟨_, _, c_laws_toWorld p0 (by first | assumption | (simp only [id_laws_toWorld]; assumption)), (FzAs.same _), ?_⟩)
  refine litE (m := 3) rfl ?_
  refine .inl (⟨_, _, c_spec_Settled (laws_toWorld p0) (by first | assumption | (simp only [id_laws_toWorld]; assumption)), (.cons (.agg (.cons (.same _) (.cons (.same _) (.cons (.same _) (.cons (.same _) (.cons (.same _) (.cons (.same _) (.cons (.same _) (.cons (.same _) (.cons (.same _) (.cons (.same _) (.cons (.same _) (.cons (.sl _ _ _ _ (frzMap frz_Pol _)) (.cons (.same _) (.cons (.same _) (.cons (.sl _ _ _ _ (frzMap frz_Stripe _)) (.cons (.same _) (.cons (.same _) (.cons (.same _) (.cons (.same _) (.cons (.same _) (.cons (.same _) (.cons (.same _) (.cons (.same _) (.cons (.sl _ _ _ _ (frzMap (frz_cSl frz_Timer) _)) (.cons (.sl _ _ _ _ (frzMap (frz_cSl frz_Timer) _)) (.cons (.same _) (.cons (.same _) (.cons (.sl _ _ _ _ (frzMap frz_Item _)) (.cons (.sl _ _ _ _ (frzMap frz_Item _)) (.cons (.sl _ _ _ _ (frzMap frz_Task _)) (.cons (.sl _ _ _ _ (frzMap frz_Deed _)) (.cons (.same _) .nil))))))))))))))))))))))))))))))))) (.same _)), ?_⟩)
  refine litE (m := 15) rfl ?_
  refine seqE ?_
  refine .inl (⟨_, _, c_laws_toWorld p0 (by first | assumption | (simp only [id_laws_toWorld]; assumption)), (FzAs.same _), ?_⟩)
  refine litE (m := 16) rfl ?_
  refine litE (m := 27) rfl ?_
  refine seqE ?_
  refine .inl (⟨_, _, c_impl_Settled (laws_toWorld p0) (by first | assumption | (simp only [id_laws_toWorld]; assumption)), (.cons (.agg (.cons (.same _) (.cons (.same _) (.cons (.same _) (.cons (.same _) (.cons (.same _) (.cons (.same _) (.cons (.same _) (.cons (.same _) (.cons (.same _) (.cons (.same _) (.cons (.same _) (.cons (.sl _ _ _ _ (frzMap frz_Pol _)) (.cons (.same _) (.cons (.same _) (.cons (.sl _ _ _ _ (frzMap frz_Stripe _)) (.cons (.same _) (.cons (.same _) (.cons (.same _) (.cons (.same _) (.cons (.same _) (.cons (.same _) (.cons (.same _) (.cons (.same _) (.cons (.sl _ _ _ _ (frzMap (frz_cSl frz_Timer) _)) (.cons (.sl _ _ _ _ (frzMap (frz_cSl frz_Timer) _)) (.cons (.same _) (.cons (.same _) (.cons (.sl _ _ _ _ (frzMap frz_Item _)) (.cons (.sl _ _ _ _ (frzMap frz_Item _)) (.cons (.sl _ _ _ _ (frzMap frz_Task _)) (.cons (.sl _ _ _ _ (frzMap frz_Deed _)) (.cons (.same _) .nil))))))))))))))))))))))))))))))))) (.same _)), ?_⟩)
  refine litE (m := 29) rfl ?_
  refine seqE ?_
  refine seqE ?_
  refine brE hg (fun hg h2 => ?_) (fun hg h2 => ?_)
  · refine seqE ?_
    exact leafE hown hg
  · refine seqE ?_
    refine seqE ?_
    refine .inr (.inl ⟨5, [(0, true), (1, true), (2, false), (3, false), (4, false)], by kernel_rfl, ?_⟩)
    refine ⟨_, _, c_laws_toWorld p0 (by first | assumption | (simp only [id_laws_toWorld]; assumption)), (FzAs.same _), ?_⟩
    refine litE (m := 30) rfl ?_
    refine ⟨_, _, c_laws_eqWorld (laws_toWorld p0) (laws_toWorld p0), (.cons (.agg (.cons (.same _) (.cons (.same _) (.cons (.same _) (.cons (.same _) (.cons (.same _) (.cons (.same _) (.cons (.same _) (.cons (.same _) (.cons (.same _) (.cons (.same _) (.cons (.same _) (.cons (.sl _ _ _ _ (frzMap frz_Pol _)) (.cons (.same _) (.cons (.same _) (.cons (.sl _ _ _ _ (frzMap frz_Stripe _)) (.cons (.same _) (.cons (.same _) (.cons (.same _) (.cons (.same _) (.cons (.same _) (.cons (.same _) (.cons (.same _) (.cons (.same _) (.cons (.sl _ _ _ _ (frzMap (frz_cSl frz_Timer) _)) (.cons (.sl _ _ _ _ (frzMap (frz_cSl frz_Timer) _)) (.cons (.same _) (.cons (.same _) (.cons (.sl _ _ _ _ (frzMap frz_Item _)) (.cons (.sl _ _ _ _ (frzMap frz_Item _)) (.cons (.sl _ _ _ _ (frzMap frz_Task _)) (.cons (.sl _ _ _ _ (frzMap frz_Deed _)) (.cons (.same _) .nil))))))))))))))))))))))))))))))))) (.cons (.agg (.cons (.same _) (.cons (.same _) (.cons (.same _) (.cons (.same _) (.cons (.same _) (.cons (.same _) (.cons (.same _) (.cons (.same _) (.cons (.same _) (.cons (.same _) (.cons (.same _) (.cons (.sl _ _ _ _ (frzMap frz_Pol _)) (.cons (.same _) (.cons (.same _) (.cons (.sl _ _ _ _ (frzMap frz_Stripe _)) (.cons (.same _) (.cons (.same _) (.cons (.same _) (.cons (.same _) (.cons (.same _) (.cons (.same _) (.cons (.same _) (.cons (.same _) (.cons (.sl _ _ _ _ (frzMap (frz_cSl frz_Timer) _)) (.cons (.sl _ _ _ _ (frzMap (frz_cSl frz_Timer) _)) (.cons (.same _) (.cons (.same _) (.cons (.sl _ _ _ _ (frzMap frz_Item _)) (.cons (.sl _ _ _ _ (frzMap frz_Item _)) (.cons (.sl _ _ _ _ (frzMap frz_Task _)) (.cons (.sl _ _ _ _ (frzMap frz_Deed _)) (.cons (.same _) .nil))))))))))))))))))))))))))))))))) (.same _))), ?_⟩
    refine litE (m := 42) rfl ?_
    refine brE hg (fun hg h3 => ?_) (fun hg h3 => ?_)
    · refine seqE ?_
      exact leafE hown hg
    · refine seqE ?_
      exact leafE hown hg
theorem main_NameOk (s : ByteArray) : spec_NameOk s = impl_NameOk s := rfl
theorem main_PlainOk (s : ByteArray) : spec_PlainOk s = impl_PlainOk s := by
  have e : spec_PlainOk_b1 s = impl_PlainOk_b1 s := by
    funext i u
    unfold spec_PlainOk_b1 impl_PlainOk_b1 impl_within
    have h := (s.data.getD i 0).toNat_lt
    generalize (s.data.getD i 0).toNat = n at h ⊢
    rw [Go.Ev.wrap_small (n := (n : Int)) (by omega) (by omega)]
    by_cases h1 : (n : Int) < 32
    · have h2 : ¬ (n : Int) ≥ 32 := by omega
      simp [h1, h2]
    · have h2 : (n : Int) ≥ 32 := by omega
      by_cases h3 : (n : Int) > 126
      · have h4 : ¬ (n : Int) ≤ 126 := by omega
        simp [h1, h2, h3, h4]
      · have h4 : (n : Int) ≤ 126 := by omega
        simp [h1, h2, h3, h4]
  unfold spec_PlainOk impl_PlainOk
  rw [e]
theorem main_AttrOk (a : Attr) : spec_AttrOk a = impl_AttrOk a := by
  unfold spec_AttrOk impl_AttrOk
  rw [main_NameOk, main_PlainOk, show spec_l1In a.N 0 2147483647 = impl_within a.N 0 2147483647 from rfl]
  cases impl_NameOk a.Key <;> cases a.Num <;> cases (a.N == 0) <;> cases impl_PlainOk a.Text <;> rfl
theorem main_AttrsOk (l : List Attr) : spec_AttrsOk l = impl_AttrsOk l := by
  unfold spec_AttrsOk impl_AttrsOk
  rw [show spec_AttrsOk_b1 l = impl_AttrsOk_b1 l from by funext i s a; unfold spec_AttrsOk_b1 impl_AttrsOk_b1; rw [main_AttrOk]]
theorem main_SizeOf (s : Span) : spec_SizeOf s = impl_SizeOf s := by
  rfl
theorem main_SpanOk (s : Span) : spec_SpanOk s = impl_SpanOk s := by
  unfold spec_SpanOk impl_SpanOk
  rw [main_AttrsOk, main_SizeOf, show spec_l1In s.Trace 1 999 = impl_within s.Trace 1 999 from rfl, show spec_l1In s.Id 1 999 = impl_within s.Id 1 999 from rfl]
  have e : (bif spec_l1In s.Start 0 99999 then spec_l1In s.End s.Start 99999 else false) = (bif impl_within s.End 0 99999 then impl_within s.Start 0 s.End else false) := by
    unfold spec_l1In impl_within
    rw [Bool.eq_iff_iff]
    simp only [Bool.cond_eq_ite]
    repeat' split
    all_goals simp_all
    all_goals omega
  cases impl_within s.Trace 1 999 <;> cases impl_within s.Id 1 999 <;> simp only [cond_true, cond_false]
  revert e
  cases spec_l1In s.Start 0 99999 <;> cases spec_l1In s.End s.Start 99999 <;> cases impl_within s.End 0 99999 <;> cases impl_within s.Start 0 s.End <;> simp
theorem main_AttrSize (a : Attr) : spec_AttrSize a = impl_AttrSize a := rfl
theorem main_TotalOf (l : List Span) : spec_TotalOf l = impl_TotalOf l := by
  have e : spec_TotalOf_b1 = impl_TotalOf_b1 := by
    funext i s a
    unfold spec_TotalOf_b1 impl_TotalOf_b1
    rw [main_SizeOf]
  unfold spec_TotalOf impl_TotalOf
  rw [e]
theorem main_BytesOf (t : Trail) : spec_BytesOf t = impl_BytesOf t := main_TotalOf t.Spans
theorem main_TrailOk (t : Trail) : spec_TrailOk t = impl_TrailOk t := by
  have e : spec_TrailOk_b1 t = impl_TrailOk_b1 t := by
    funext i s a
    unfold spec_TrailOk_b1 impl_TrailOk_b1
    rw [main_SpanOk]
  unfold spec_TrailOk impl_TrailOk
  rw [e]
  rfl
theorem first_loop {α ρ : Type} {p : α → Bool} {r : Nat → ρ} {b : Nat → Unit → α → Step Unit ρ} (hb : ∀ i s a, b i s a = bif p a then .done (r i) else .next ()) : ∀ (l : List α) (i : Nat), loopL b i () l = match l.findIdx? p with | some j => .done (r (i + j)) | none => .fin ()
  | [], i => rfl
  | a :: l, i => by
    unfold loopL
    rw [hb, List.findIdx?_cons]
    cases p a with
    | true => rfl
    | false =>
      simp only [cond_false, Bool.false_eq_true, if_false]
      rw [first_loop hb l (i + 1)]
      cases l.findIdx? p with
      | none => rfl
      | some j => simp only [Option.map_some]; congr 2; omega
theorem main_l11Has (l : List Int) (x : Int) : spec_l11Has l x = slices_Contains_Sint_int l x := by
  unfold spec_l11Has slices_Contains_Sint_int slices_Index_Sint_int
  rw [first_loop (p := fun a => a == x) (r := fun _ => true) (b := spec_l11Has_b1 x) (fun _ _ _ => rfl), first_loop (p := fun a => x == a) (r := fun i => ((i : Nat) : Int)) (b := slices_Index_Sint_int_b1 x) (fun _ _ _ => rfl)]
  rw [show (fun a : Int => x == a) = (fun a => a == x) from by funext a; exact BEq.comm]
  cases List.findIdx? (fun a => a == x) l with
  | none => rfl
  | some j => simp [Fin.get]
theorem some_loopC {ρ : Type} {p : Nat → Bool} {r : ρ} {b : Nat → Unit → Step Unit ρ} (hb : ∀ i s, b i s = bif p i then .done r else .next ()) : ∀ (n i : Nat), ((∃ k, k < n ∧ p (i + k) = true) ∧ loopC b i () n = .done r) ∨ ((∀ k, k < n → p (i + k) = false) ∧ loopC b i () n = .fin ())
  | 0, i => .inr ⟨fun k hk => absurd hk (by omega), rfl⟩
  | n + 1, i => by
    cases hp : p i with
    | true =>
      refine .inl ⟨⟨0, by omega, hp⟩, ?_⟩
      unfold loopC
      rw [hb, hp]
      rfl
    | false =>
      have hs : loopC b i () (n + 1) = loopC b (i + 1) () n := by
        conv => lhs; unfold loopC
        rw [hb, hp]
        rfl
      rw [hs]
      rcases some_loopC hb n (i + 1) with ⟨⟨k, hk, h⟩, e⟩ | ⟨h, e⟩
      · exact .inl ⟨⟨k + 1, by omega, by rw [← h]; congr 1; omega⟩, e⟩
      · refine .inr ⟨fun k hk => ?_, e⟩
        cases k with
        | zero => exact hp
        | succ k => rw [← h k (by omega)]; congr 1; omega
theorem loopL_at {α σ ρ : Type} {f g : Nat → σ → α → Step σ ρ} : ∀ (l : List α) (i : Nat) (s : σ), (∀ k (hk : k < l.length) s, f (i + k) s l[k] = g (i + k) s l[k]) → loopL f i s l = loopL g i s l
  | [], i, s, _ => rfl
  | a :: l, i, s, h => by
    unfold loopL
    rw [show f i s a = g i s a from h 0 (by simp) s]
    cases g i s a with
    | next s' =>
      refine loopL_at l (i + 1) s' (fun k hk s => ?_)
      have := h (k + 1) (by simpa using hk) s
      rw [show i + (k + 1) = i + 1 + k by omega] at this
      simpa using this
    | _ => rfl
theorem main_CacheOk (l : List Verdict) (m : Int) : spec_CacheOk l m = impl_CacheOk l m := by
  unfold spec_CacheOk impl_CacheOk
  rw [loopL_at (f := spec_CacheOk_b1 l) (g := impl_CacheOk_b1 l) l 0 ()]
  intro i hi s
  rw [Nat.zero_add]
  unfold spec_CacheOk_b1 impl_CacheOk_b1 impl_verdictAt slices_IndexFunc_SVerdict_Verdict_c_impl_verdictAt_1
  rw [show spec_l1In l[i].Trace 1 999 = impl_within l[i].Trace 1 999 from rfl]
  cases impl_within l[i].Trace 1 999 with
  | false => rfl
  | true =>
    cases decide (l[i].Stamp < 1) with
    | true => rfl
    | false =>
      simp only [Bool.not_true, cond_false]
      rw [first_loop (p := fun a : Verdict => a.Trace == l[i].Trace) (r := fun i => ((i : Nat) : Int)) (b := slices_IndexFunc_SVerdict_Verdict_c_impl_verdictAt_1_b1 l[i].Trace) (fun _ _ _ => rfl)]
      cases hf : l.findIdx? (fun a : Verdict => a.Trace == l[i].Trace) with
      | none =>
        rw [List.findIdx?_eq_none_iff] at hf
        have := hf l[i] (List.getElem_mem hi)
        simp at this
      | some j =>
        rw [List.findIdx?_eq_some_iff_getElem] at hf
        obtain ⟨hj, h1, h2⟩ := hf
        rcases some_loopC (p := fun k => (l[k]?.getD default).Trace == l[i].Trace) (r := (Step.done false : Step Unit Bool)) (b := spec_CacheOk_b2 l l[i]) (fun _ _ => rfl) i 0 with ⟨⟨k, hk, e⟩, h⟩ | ⟨e, h⟩
        · rw [h]
          have hne : j ≠ i := by
            intro hji
            rw [Nat.zero_add, List.getElem?_eq_getElem (by omega), Option.getD_some] at e
            exact h2 k (by omega) e
          have hb : ((((0 + j : Nat) : Nat) : Int) != ((i : Nat) : Int)) = true := by simp; omega
          simp only [Fin.get]
          rw [hb]
          rfl
        · rw [h]
          have he : j = i := by
            rcases Nat.lt_trichotomy j i with h | h | h
            · have := e j h
              rw [Nat.zero_add, List.getElem?_eq_getElem hj, Option.getD_some] at this
              rw [this] at h1
              cases h1
            · exact h
            · have := h2 i h
              simp at this
          have hb : ((((0 + j : Nat) : Nat) : Int) != ((i : Nat) : Int)) = false := by simp; omega
          simp only [Fin.get]
          rw [hb]
          rfl
theorem main_polHead (p : Pol) : spec_l5One p = impl_polHeadOk p := by
  unfold spec_l5One impl_polHeadOk spec_l5One_j1 spec_l5One_j2 impl_polHeadOk_j1 impl_polHeadOk_j2 impl_polHeadOk_j3
  rw [main_NameOk, main_PlainOk, show spec_l1In p.N 0 2147483647 = impl_within p.N 0 2147483647 from rfl, show spec_l1In ((p.L.length : Nat) : Int) 1 4 = impl_within ((p.L.length : Nat) : Int) 1 4 from rfl]
  generalize (p.N == 0) = a
  generalize decide (p.Key = ByteArray.mk #[]) = b
  generalize decide (p.Text = ByteArray.mk #[]) = c
  generalize impl_within p.N 0 2147483647 = d
  generalize impl_NameOk p.Key = e
  generalize impl_PlainOk p.Text = f
  generalize (((p.L.length : Nat) : Int) == 0) = g
  generalize impl_within ((p.L.length : Nat) : Int) 1 4 = h
  generalize (((p.L.length : Nat) : Int) == 1) = k
  by_cases h1 : p.Kind = 1
  · simp only [h1]; revert a b c d e f g h k; decide
  by_cases h2 : p.Kind = 2
  · simp only [h2]; revert a b c d e f g h k; decide
  by_cases h3 : p.Kind = 3
  · simp only [h3]; revert a b c d e f g h k; decide
  by_cases h4 : p.Kind = 4
  · simp only [h4]; revert a b c d e f g h k; decide
  by_cases h5 : p.Kind = 5
  · simp only [h5]; revert a b c d e f g h k; decide
  by_cases h6 : p.Kind = 6
  · simp only [h6]; revert a b c d e f g h k; decide
  by_cases h7 : p.Kind = 7
  · simp only [h7]; revert a b c d e f g h k; decide
  by_cases h8 : p.Kind = 8
  · simp only [h8]; revert a b c d e f g h k; decide
  by_cases h9 : p.Kind = 9
  · simp only [h9]; revert a b c d e f g h k; decide
  have g1 : (p.Kind == 1) = false := by simpa using h1
  have g2 : (p.Kind == 2) = false := by simpa using h2
  have g3 : (p.Kind == 3) = false := by simpa using h3
  have g4 : (p.Kind == 4) = false := by simpa using h4
  have g5 : (p.Kind == 5) = false := by simpa using h5
  have g6 : (p.Kind == 6) = false := by simpa using h6
  have g7 : (p.Kind == 7) = false := by simpa using h7
  have g8 : (p.Kind == 8) = false := by simpa using h8
  have g9 : (p.Kind == 9) = false := by simpa using h9
  simp only [g1, g2, g3, g4, g5, g6, g7, g8, g9, cond_false, Step.get]
  revert a b c; decide
theorem polHead_len {p : Pol} (h : impl_polHeadOk p = true) : p.L.length ≤ 4 := by
  rcases Nat.lt_or_ge 4 p.L.length with hl | hl
  · exfalso
    unfold impl_polHeadOk impl_polHeadOk_j1 impl_polHeadOk_j2 impl_polHeadOk_j3 at h
    rw [show impl_within ((p.L.length : Nat) : Int) 1 4 = false from by unfold impl_within; simp; omega, show (((p.L.length : Nat) : Int) == 0) = false from by simp; intro e; rw [e] at hl; simp at hl, show (((p.L.length : Nat) : Int) == 1) = false from by simp; omega] at h
    have e1 : ∀ (z : Step Bool Bool) (a b c : Bool), Step.get (fun s3 => bif s3 then (bif a then false else false) else (bif b then (bif c then false else false) else false)) z = true → ∃ r, z = .done r := fun z a b c hz => by
      cases z with
      | done r => exact ⟨r, rfl⟩
      | next s => cases s <;> cases a <;> cases b <;> cases c <;> cases hz
      | stop s => cases s <;> cases a <;> cases b <;> cases c <;> cases hz
    simp only [Bool.cond_eq_ite] at h
    repeat' split at h
    all_goals (simp only [Step.get] at h; repeat' split at h)
    all_goals simp_all
  · exact hl
/-- The counts of parts, beside whether they lie too deep. -/
def PolAt (n : Nat) (B : Nat) (d : Int) (p : Pol) : Prop :=
  (spec_l5DeepR n p d = true ∧ ∃ c : Nat, 1 ≤ c ∧ c ≤ B ∧ spec_PolCountR n p = ((c : Nat) : Int) ∧ impl_polPartsR n p d = ((min c 13 : Nat) : Int)) ∨
  (spec_l5DeepR n p d = false ∧ impl_polPartsR n p d = 13)
theorem pol_list {n B : Nat} {d : Int} (hB : B ≤ 1000) : ∀ (l : List Pol) (i : Nat), (∀ x ∈ l, PolAt n B (IntKind.i64.wrap (d + 1)) x) → ∀ s : Nat, s < 13 →
    (loopL (spec_l5Deep_b1 (spec_l5DeepR n) d) i () l = .fin () ∧ ∃ c : Nat, c ≤ l.length * B ∧ (∀ t : Nat, t + l.length * B ≤ 1000000000 → loopL (spec_PolCount_b1 (spec_PolCountR n)) i ((t : Nat) : Int) l = .fin (((t + c : Nat) : Nat) : Int)) ∧ Fin.get (fun x => x) (loopL (impl_polParts_b1 (impl_polPartsR n) d) i ((s : Nat) : Int) l) = ((min (s + c) 13 : Nat) : Int)) ∨
    (loopL (spec_l5Deep_b1 (spec_l5DeepR n) d) i () l = .done false ∧ Fin.get (fun x => x) (loopL (impl_polParts_b1 (impl_polPartsR n) d) i ((s : Nat) : Int) l) = 13)
  | [], i, _, s, hs => .inl ⟨rfl, 0, by simp, fun t _ => rfl, by show ((s : Nat) : Int) = _; congr 1; omega⟩
  | a :: l, i, h, s, hs => by
    have hK : ∀ c : Nat, c ≤ B → spec_PolCountR n a = ((c : Nat) : Int) → ∀ t : Nat, t + (a :: l).length * B ≤ 1000000000 → loopL (spec_PolCount_b1 (spec_PolCountR n)) i ((t : Nat) : Int) (a :: l) = loopL (spec_PolCount_b1 (spec_PolCountR n)) (i + 1) (((t + c : Nat) : Nat) : Int) l := by
      intro c hc hn t ht
      rw [List.length_cons, Nat.succ_mul] at ht
      conv => lhs; unfold loopL
      simp only [spec_PolCount_b1, hn]
      rw [Go.Ev.wrap_small (n := ((t : Nat) : Int) + ((c : Nat) : Int)) (by omega) (by omega)]
      congr 1
    rcases h a (by simp) with ⟨hd, c, hc1, hcB, hn, hp⟩ | ⟨hd, hp⟩
    · have hD : loopL (spec_l5Deep_b1 (spec_l5DeepR n) d) i () (a :: l) = loopL (spec_l5Deep_b1 (spec_l5DeepR n) d) (i + 1) () l := by
        conv => lhs; unfold loopL
        simp only [spec_l5Deep_b1, hd, Bool.not_true, cond_false]
      rw [hD]
      rcases Nat.lt_or_ge (s + min c 13) 13 with hlt | hge
      · have hP : loopL (impl_polParts_b1 (impl_polPartsR n) d) i ((s : Nat) : Int) (a :: l) = loopL (impl_polParts_b1 (impl_polPartsR n) d) (i + 1) (((s + c : Nat) : Nat) : Int) l := by
          conv => lhs; unfold loopL
          simp only [impl_polParts_b1, hp]
          rw [Go.Ev.wrap_small (n := ((s : Nat) : Int) + ((min c 13 : Nat) : Int)) (by omega) (by omega), show decide (((s : Nat) : Int) + ((min c 13 : Nat) : Int) ≥ 13) = false from by simp; omega]
          simp only [cond_false]
          congr 1
          omega
        rw [hP]
        rcases pol_list hB l (i + 1) (fun x hx => h x (by simp [hx])) (s + c) (by omega) with ⟨e1, c2, b2, e2, e3⟩ | ⟨e1, e3⟩
        · refine .inl ⟨e1, c + c2, by rw [List.length_cons, Nat.succ_mul]; omega, fun t ht => ?_, ?_⟩
          · rw [hK c hcB hn t ht, e2 (t + c) (by rw [List.length_cons, Nat.succ_mul] at ht; omega), Nat.add_assoc]
          · rw [e3, Nat.add_assoc]
        · exact .inr ⟨e1, e3⟩
      · have hP : loopL (impl_polParts_b1 (impl_polPartsR n) d) i ((s : Nat) : Int) (a :: l) = .done 13 := by
          conv => lhs; unfold loopL
          simp only [impl_polParts_b1, hp]
          rw [Go.Ev.wrap_small (n := ((s : Nat) : Int) + ((min c 13 : Nat) : Int)) (by omega) (by omega), show decide (((s : Nat) : Int) + ((min c 13 : Nat) : Int) ≥ 13) = true from by simp; omega]
          rfl
        rw [hP]
        rcases pol_list hB l (i + 1) (fun x hx => h x (by simp [hx])) 0 (by omega) with ⟨e1, c2, b2, e2, e3⟩ | ⟨e1, e3⟩
        · refine .inl ⟨e1, c + c2, by rw [List.length_cons, Nat.succ_mul]; omega, fun t ht => ?_, ?_⟩
          · rw [hK c hcB hn t ht, e2 (t + c) (by rw [List.length_cons, Nat.succ_mul] at ht; omega), Nat.add_assoc]
          · show (13 : Int) = _
            omega
        · exact .inr ⟨e1, rfl⟩
    · refine .inr ⟨?_, ?_⟩
      · unfold loopL
        simp only [spec_l5Deep_b1, hd, Bool.not_false, cond_true]
        rfl
      · unfold loopL
        simp only [impl_polParts_b1, hp]
        rw [Go.Ev.wrap_small (n := ((s : Nat) : Int) + 13) (by omega) (by omega), show decide (((s : Nat) : Int) + 13 ≥ 13) = true from by simp; omega]
        rfl
theorem pol_at : ∀ (k n : Nat) (p : Pol), k ≤ 4 → Pol.dep p < n → PolAt n (5 ^ k) (5 - ((k : Nat) : Int)) p
  | k, 0, p, _, h => absurd h (by omega)
  | 0, n + 1, p, hk, h => .inr ⟨rfl, rfl⟩
  | k + 1, n + 1, p, hk, h => by
    have hd : decide ((5 - ((k + 1 : Nat) : Int)) > 4) = false := by simp; omega
    cases ho : impl_polHeadOk p with
    | false =>
      refine .inr ⟨?_, ?_⟩
      · simp only [spec_l5DeepR, hd, main_polHead, ho, Bool.not_false, cond_true, cond_false]
      · simp only [impl_polPartsR, hd, ho, Bool.not_false, cond_true, cond_false]
    | true =>
      have hl := polHead_len ho
      have hB : 5 ^ k ≤ 1000 := by
        have : 5 ^ k ≤ 5 ^ 3 := Nat.pow_le_pow_right (by omega) (by omega)
        omega
      have ew : IntKind.i64.wrap (5 - ((k + 1 : Nat) : Int) + 1) = 5 - ((k : Nat) : Int) := by rw [Go.Ev.wrap_small] <;> omega
      have hm : p.L.length * 5 ^ k ≤ 4 * 5 ^ k := Nat.mul_le_mul_right _ hl
      have hp5 : 5 ^ (k + 1) = 5 * 5 ^ k := by rw [Nat.pow_succ, Nat.mul_comm]
      have h1 : 1 ≤ 5 ^ k := Nat.pos_of_ne_zero (by simp)
      rcases pol_list (n := n) (B := 5 ^ k) (d := 5 - ((k + 1 : Nat) : Int)) hB p.L 0 (fun x hx => by rw [ew]; exact pol_at k n x (by omega) (Nat.lt_of_lt_of_le (Pol.dep_lt hx) (Nat.le_of_lt_succ h))) 1 (by omega) with ⟨e1, c, b, e2, e3⟩ | ⟨e1, e3⟩
      · refine .inl ⟨?_, 1 + c, by omega, by omega, ?_, ?_⟩
        · simp only [spec_l5DeepR, hd, main_polHead, ho, Bool.not_true, cond_false, e1, Fin.get]
        · simp only [spec_PolCountR]
          rw [show (1 : Int) = ((1 : Nat) : Int) from rfl, e2 1 (by omega)]
          rfl
        · simp only [impl_polPartsR, hd, ho, Bool.not_true, cond_false]
          exact e3
      · refine .inr ⟨?_, ?_⟩
        · simp only [spec_l5DeepR, hd, main_polHead, ho, Bool.not_true, cond_false, e1, Fin.get]
        · simp only [impl_polPartsR, hd, ho, Bool.not_true, cond_false]
          exact e3
theorem main_PolOk (p : Pol) : spec_PolOk p = impl_PolOk p := by
  unfold spec_PolOk impl_PolOk
  rcases (pol_at 4 (Pol.dep p + 1) p (by omega) (Nat.lt_succ_self _)) with ⟨hd, c, _, hc, hn, hp⟩ | ⟨hd, hp⟩
  · rw [show spec_PolCount p = ((c : Nat) : Int) from hn, show spec_l5Deep p 1 = true from hd, show impl_polParts p 1 = ((min c 13 : Nat) : Int) from hp]
    by_cases h : c ≤ 12
    · rw [show decide (((c : Nat) : Int) ≤ 12) = true from by simp; omega, show decide (((min c 13 : Nat) : Int) ≤ 12) = true from by simp; omega]; rfl
    · rw [show decide (((c : Nat) : Int) ≤ 12) = false from by simp; omega, show decide (((min c 13 : Nat) : Int) ≤ 12) = false from by simp; omega]; rfl
  · rw [show spec_l5Deep p 1 = false from hd, show impl_polParts p 1 = 13 from hp]
    cases decide (spec_PolCount p ≤ 12) <;> rfl
theorem main_ConfOk (c : Conf) : spec_ConfOk c = impl_ConfOk c := by
  unfold spec_ConfOk impl_ConfOk
  rw [main_PolOk]
  rfl
theorem all_loop {α ρ : Type} {p : α → Bool} {r : ρ} {b : Nat → Unit → α → Step Unit ρ} (hb : ∀ i s a, b i s a = bif p a then .next () else .done r) : ∀ (l : List α) (i : Nat), loopL b i () l = bif l.all p then .fin () else .done r
  | [], i => rfl
  | a :: l, i => by
    unfold loopL
    rw [hb, List.all_cons]
    cases p a with
    | true => simp only [cond_true, Bool.true_and]; exact all_loop hb l (i + 1)
    | false => rfl
theorem all_get {α : Type} {p : α → Bool} {b : Nat → Unit → α → Step Unit Bool} (hb : ∀ i s a, b i s a = bif p a then .next () else .done false) (l : List α) (K : Unit → Bool) : Fin.get K (loopL b 0 () l) = (l.all p && K ()) := by
  rw [all_loop hb]
  cases l.all p <;> rfl
theorem bnf (a b : Bool) : (bif !a then false else b) = (a && b) := by cases a <;> rfl
theorem bft (a b : Bool) : (bif a then b else false) = (a && b) := by cases a <;> rfl
theorem bff (a b : Bool) : (bif a then false else b) = (!a && b) := by cases a <;> rfl
theorem get_bif {σ ρ : Type} (k : σ → ρ) (a : Bool) (x y : Step σ ρ) : Step.get k (bif a then x else y) = bif a then Step.get k x else Step.get k y := by cases a <;> rfl
theorem cont_loop {α : Type} {p : α → Bool} {b : Nat → Unit → α → Step Unit Int} (hb : ∀ i s a, b i s a = bif p a then .done ((i : Nat) : Int) else .next ()) (l : List α) : decide (Fin.get (fun _ => (-1 : Int)) (loopL b 0 () l) ≥ 0) = l.any p := by
  rw [first_loop hb]
  cases h : l.findIdx? p with
  | none =>
    rw [List.findIdx?_eq_none_iff] at h
    have : l.any p = false := by
      rw [← Bool.not_eq_true, List.any_eq_true]
      rintro ⟨x, hx, hp⟩
      rw [h x hx] at hp; cases hp
    rw [this]; rfl
  | some j =>
    rw [List.findIdx?_eq_some_iff_getElem] at h
    obtain ⟨hj, h1, _⟩ := h
    have : l.any p = true := List.any_eq_true.2 ⟨_, List.getElem_mem hj, h1⟩
    rw [this]
    simp [Fin.get]
theorem main_itemsOk (l : List Item) : impl_itemsOk l = l.all spec_ItemOk := by
  unfold impl_itemsOk slices_ContainsFunc_SItem_Item_c_impl_itemsOk_1 slices_IndexFunc_SItem_Item_c_impl_itemsOk_1
  rw [cont_loop (p := impl_itemsOk_1) (b := slices_IndexFunc_SItem_Item_c_impl_itemsOk_1_b1) (fun _ _ _ => rfl)]
  rw [Bool.eq_iff_iff]
  simp only [Bool.not_eq_true', ← Bool.not_eq_true, List.any_eq_true, List.all_eq_true, not_exists, not_and, impl_itemsOk_1]
  refine forall_congr' fun x => forall_congr' fun _ => ?_
  rw [show impl_ItemOk x = spec_ItemOk x from by unfold impl_ItemOk spec_ItemOk; rw [main_SpanOk]]
  cases spec_ItemOk x <;> simp
theorem nat_and (a b : Nat) (ha : a < 9223372036854775808) (hb : b < 9223372036854775808) : iAnd .i64 (a : Int) (b : Int) = ((a &&& b : Nat) : Int) := by
  unfold iAnd
  have h1 : (BitVec.ofInt IntKind.i64.bits (a : Int)).toNat = a := by
    show (BitVec.ofInt 64 (a : Int)).toNat = a
    rw [BitVec.ofInt_natCast, BitVec.toNat_ofNat]; omega
  have h2 : (BitVec.ofInt IntKind.i64.bits (b : Int)).toNat = b := by
    show (BitVec.ofInt 64 (b : Int)).toNat = b
    rw [BitVec.ofInt_natCast, BitVec.toNat_ofNat]; omega
  rw [BitVec.toNat_and, h1, h2]
  have := Nat.and_le_left (n := a) (m := b)
  exact Go.Ev.wrap_small (by omega) (by omega)
theorem nat_xor (a b : Nat) (ha : a < 4294967296) (hb : b < 4294967296) : iXor .i64 (a : Int) (b : Int) = ((a ^^^ b : Nat) : Int) := by
  unfold iXor
  have h1 : (BitVec.ofInt IntKind.i64.bits (a : Int)).toNat = a := by
    show (BitVec.ofInt 64 (a : Int)).toNat = a
    rw [BitVec.ofInt_natCast, BitVec.toNat_ofNat]; omega
  have h2 : (BitVec.ofInt IntKind.i64.bits (b : Int)).toNat = b := by
    show (BitVec.ofInt 64 (b : Int)).toNat = b
    rw [BitVec.ofInt_natCast, BitVec.toNat_ofNat]; omega
  rw [BitVec.toNat_xor, h1, h2]
  have : a ^^^ b < 2 ^ 32 := Nat.xor_lt_two_pow (by omega) (by omega)
  exact Go.Ev.wrap_small (by omega) (by omega)
theorem nat_shl (a : Nat) (k : Nat) (ha : a < 16777216) (hk : k ≤ 8) : iShl .i64 (a : Int) (k : Int) = ((a * 2 ^ k : Nat) : Int) := by
  unfold iShl
  have h1 : min ((k : Int)).toNat IntKind.i64.bits = k := by
    have : IntKind.i64.bits = 64 := rfl
    omega
  rw [h1]
  have h2 : (2 : Nat) ^ k ≤ 2 ^ 8 := Nat.pow_le_pow_right (by omega) hk
  have h3 : a * 2 ^ k ≤ 16777216 * 2 ^ 8 := Nat.mul_le_mul (by omega) h2
  have h4 : ((a : Int) * 2 ^ k) = ((a * 2 ^ k : Nat) : Int) := by simp
  rw [h4]
  exact Go.Ev.wrap_small (by omega) (by omega)
theorem nat_shr (a : Nat) : iShr .i64 (a : Int) 9 = ((a >>> 9 : Nat) : Int) := by
  unfold iShr
  have h1 : min ((9 : Int)).toNat IntKind.i64.bits = 9 := rfl
  rw [h1, Int.fdiv_eq_ediv_of_nonneg _ (by omega), Nat.shiftRight_eq_div_pow]
  simp
theorem main_Mix (n : Int) : spec_Mix n = impl_Mix n := by
  unfold spec_Mix impl_Mix
  obtain ⟨x, hx, hxl⟩ : ∃ x : Nat, iAnd .i64 n 65535 = ((x : Nat) : Int) ∧ x < 65536 := by
    unfold iAnd
    refine ⟨_, Go.Ev.wrap_small (n := (((BitVec.ofInt IntKind.i64.bits n &&& BitVec.ofInt IntKind.i64.bits 65535).toNat : Nat) : Int)) ?_ ?_, ?_⟩
    · omega
    · rw [BitVec.toNat_and]
      have := Nat.and_le_right (n := (BitVec.ofInt IntKind.i64.bits n).toNat) (m := (BitVec.ofInt IntKind.i64.bits 65535).toNat)
      have h2 : (BitVec.ofInt IntKind.i64.bits 65535).toNat = 65535 := rfl
      omega
    · rw [BitVec.toNat_and]
      have := Nat.and_le_right (n := (BitVec.ofInt IntKind.i64.bits n).toNat) (m := (BitVec.ofInt IntKind.i64.bits 65535).toNat)
      have h2 : (BitVec.ofInt IntKind.i64.bits 65535).toNat = 65535 := rfl
      omega
  rw [hx]
  have e65 : (65535 : Int) = ((65535 : Nat) : Int) := rfl
  have e7 : (7 : Int) = ((7 : Nat) : Int) := rfl
  have e8 : (8 : Int) = ((8 : Nat) : Int) := rfl
  rw [e65, e7, e8, nat_shl x 7 (by omega) (by omega), nat_and (x * 2 ^ 7) 65535 (by omega) (by omega), nat_xor x (x * 2 ^ 7) (by omega) (by omega)]
  have b1 : x ^^^ x * 2 ^ 7 < 2 ^ 32 := Nat.xor_lt_two_pow (by omega) (by omega)
  rw [nat_and (x ^^^ x * 2 ^ 7) 65535 (by omega) (by omega)]
  have hm : ∀ y : Nat, y < 65536 → y &&& 65535 = y := fun y hy => by
    have := Nat.and_two_pow_sub_one_eq_mod y 16
    rw [show (2 : Nat) ^ 16 - 1 = 65535 from rfl] at this
    rw [this]; omega
  have hd : ∀ y : Nat, (y &&& 65535) < 65536 := fun y => by have := Nat.and_le_right (n := y) (m := 65535); omega
  rw [Nat.and_xor_distrib_right, hm x hxl]
  have hy : x ^^^ (x * 2 ^ 7 &&& 65535) < 2 ^ 16 := Nat.xor_lt_two_pow (by omega) (hd _)
  rw [nat_xor x (x * 2 ^ 7 &&& 65535) (by omega) (by have := hd (x * 2 ^ 7); omega)]
  generalize x ^^^ (x * 2 ^ 7 &&& 65535) = y at hy ⊢
  rw [nat_shr y]
  have hs : y >>> 9 < 2 ^ 16 := by rw [Nat.shiftRight_eq_div_pow]; omega
  rw [nat_xor y (y >>> 9) (by omega) (by omega)]
  have hz : y ^^^ (y >>> 9) < 2 ^ 16 := Nat.xor_lt_two_pow hy hs
  generalize y ^^^ (y >>> 9) = z at hz ⊢
  rw [nat_shl z 8 (by omega) (by omega), nat_xor z (z * 2 ^ 8) (by omega) (by omega)]
  have hz2 : z ^^^ z * 2 ^ 8 < 2 ^ 32 := Nat.xor_lt_two_pow (by omega) (by omega)
  rw [nat_and (z ^^^ z * 2 ^ 8) 65535 (by omega) (by omega), nat_and (z * 2 ^ 8) 65535 (by omega) (by omega)]
  rw [nat_xor z (z * 2 ^ 8 &&& 65535) (by omega) (by have := hd (z * 2 ^ 8); omega), Nat.and_xor_distrib_right, hm z hz]
theorem main_StripeOf (a n : Int) : spec_StripeOf a n = impl_StripeOf a n := by
  unfold spec_StripeOf impl_StripeOf; rw [main_Mix]
theorem main_StripesOk (l : List Stripe) : spec_StripesOk l = impl_StripesOk l := by
  have e3 : spec_StripesOk_j3 = impl_StripesOk_j3 := by
    funext a p i k b
    unfold spec_StripesOk_j3 impl_StripesOk_j3
    rw [main_TrailOk, main_StripeOf]
  have e2 : spec_StripesOk_b2 l = impl_StripesOk_b2 l := by
    funext i a k s b
    unfold spec_StripesOk_b2 impl_StripesOk_b2
    rw [e3, main_l11Has]
  have e1 : spec_StripesOk_b1 l = impl_StripesOk_b1 l := by
    funext i s a
    unfold spec_StripesOk_b1 impl_StripesOk_b1
    rw [e2]
    rfl
  unfold spec_StripesOk impl_StripesOk
  rw [e1]
  rfl
theorem main_HeldBytes (l : List Stripe) : spec_HeldBytes l = impl_HeldBytes l := by
  unfold spec_HeldBytes impl_HeldBytes
  rw [sum_loop (f := impl_BytesOf) (b := impl_HeldBytes_b1) _ 0 0 rfl (fun i s a _ _ => rfl), allTrails_eq, isum_flat]
  rw [sum_loop (f := fun a : Stripe => isum impl_BytesOf a.L) (b := spec_HeldBytes_b1) l 0 0 rfl (fun i s a _ hs => by
    unfold spec_HeldBytes_b1
    rw [sum_loop (f := impl_BytesOf) (b := spec_HeldBytes_b2) a.L 0 s hs (fun i s b _ _ => by unfold spec_HeldBytes_b2; rw [main_BytesOf])]
    rfl)]
theorem main_Timers (w : Wheel) : spec_Timers w = impl_Timers w := by rw [spec_Timers_eq, impl_Timers_eq]
theorem main_SameSpan (a b : Span) : spec_SameSpan a b = impl_SameSpan a b := by
  unfold spec_SameSpan impl_SameSpan slices_Equal_SAttr_Attr
  have e : spec_SameSpan_b1 b = slices_Equal_SAttr_Attr_b1 b.Attrs := rfl
  rw [e]
  simp only [bne]
  cases (a.Trace == b.Trace) <;> cases (a.Id == b.Id) <;> cases (a.Start == b.Start) <;> cases (a.End == b.End) <;> cases (a.Err == b.Err) <;> rfl
theorem tdiv8 {a : Int} (h0 : 0 ≤ a) (h1 : a ≤ 2147483647) : IntKind.i64.wrap (Int.tdiv a 8) = a / 8 := by
  rw [Int.tdiv_eq_ediv_of_nonneg h0]
  exact Go.Ev.wrap_small (by omega) (by omega)
theorem beqI (a b : Int) : (a == b) = decide (a = b) := by by_cases h : a = b <;> simp [h]
theorem bneI (a b : Int) : (a != b) = !decide (a = b) := by by_cases h : a = b <;> simp [h, bne]
theorem slot_b1 (w : Wheel) (h0 : 0 ≤ w.Now) (h1 : w.Now ≤ 2147483647) (p q k : Int) (hpq : (p = 1 ∧ q = 0) ∨ (p = 2 ∧ q = 1) ∨ (p = 3 ∧ q = 2 ∧ k = 0)) : spec_l8Slot_b1 w p k = impl_belongs_b1 w q k := by
  funext i s a
  unfold spec_l8Slot_b1 impl_belongs_b1
  rw [Go.Ev.wrap_small (n := w.Now + 1) (by omega) (by omega), show spec_l1In a.Trace 1 999 = impl_within a.Trace 1 999 from rfl]
  by_cases ha : a.At ≤ w.Now
  · rw [show spec_l1In a.At (w.Now + 1) 2147483647 = false from by unfold spec_l1In; rw [decide_eq_false (by omega)]; rfl, decide_eq_true ha]
    rfl
  by_cases hb : a.At > 2147483647
  · rw [show spec_l1In a.At (w.Now + 1) 2147483647 = false from by unfold spec_l1In; rw [decide_eq_true (by omega), decide_eq_false (by omega)]; rfl, decide_eq_true hb, decide_eq_false ha]
    rfl
  rw [show spec_l1In a.At (w.Now + 1) 2147483647 = true from by unfold spec_l1In; rw [decide_eq_true (by omega), decide_eq_true (by omega)]; rfl, decide_eq_false ha, decide_eq_false hb]
  simp only [Bool.not_true, cond_false]
  congr 2
  unfold spec_l8Place impl_belongs_j2
  rw [tdiv8 (by omega) (by omega), tdiv8 h0 h1, Go.Ev.wrap_small (n := a.At / 8 - w.Now / 8) (by omega) (by omega), Int.tmod_eq_emod_of_nonneg (by omega), Int.tmod_eq_emod_of_nonneg (by omega)]
  simp only [beqI, bneI]
  unfold impl_within
  by_cases hr : a.At / 8 = w.Now / 8
  · rw [decide_eq_true hr]
    rcases hpq with ⟨rfl, rfl⟩ | ⟨rfl, rfl⟩ | ⟨rfl, rfl, rfl⟩
    · rw [show decide (a.At / 8 - w.Now / 8 = 0) = true from decide_eq_true (by omega)]
      simp [Step.get]
    · rw [show decide (a.At / 8 - w.Now / 8 ≥ 1) = false from decide_eq_false (by omega)]
      simp [Step.get]
    · rw [show decide (a.At / 8 - w.Now / 8 ≥ 8) = false from decide_eq_false (by omega)]
      simp [Step.get]
  · rw [decide_eq_false hr]
    by_cases h8 : a.At / 8 - w.Now / 8 < 8
    · rw [decide_eq_true h8]
      rcases hpq with ⟨rfl, rfl⟩ | ⟨rfl, rfl⟩ | ⟨rfl, rfl, rfl⟩
      · rw [show decide (a.At / 8 - w.Now / 8 = 0) = false from decide_eq_false (by omega)]
        simp [Step.get]
      · rw [show decide (a.At / 8 - w.Now / 8 ≥ 1) = true from decide_eq_true (by omega), show decide (a.At / 8 - w.Now / 8 ≤ 7) = true from decide_eq_true (by omega)]
        simp [Step.get]
      · rw [show decide (a.At / 8 - w.Now / 8 ≥ 8) = false from decide_eq_false (by omega)]
        simp [Step.get]
    · rw [decide_eq_false h8]
      rcases hpq with ⟨rfl, rfl⟩ | ⟨rfl, rfl⟩ | ⟨rfl, rfl, rfl⟩
      · rw [show decide (a.At / 8 - w.Now / 8 = 0) = false from decide_eq_false (by omega)]
        simp [Step.get]
      · rw [show decide (a.At / 8 - w.Now / 8 ≤ 7) = false from decide_eq_false (by omega)]
        simp [Step.get]
      · rw [show decide (a.At / 8 - w.Now / 8 ≥ 8) = true from decide_eq_true (by omega)]
        simp [Step.get]
theorem uniq_at {α : Type} [Inhabited α] (key : α → Int) (l : List α) (i : Nat) (hi : i < l.length) {b3 : Nat → Unit → Step Unit (Step Unit Bool)} (h3 : ∀ k s, b3 k s = bif (key (l[k]?.getD default) == key l[i]) then .done (.done false) else .next ())
    {b : Nat → Unit → α → Step Unit Int} (hb : ∀ k s a, b k s a = bif (key a == key l[i]) then .done ((k : Nat) : Int) else .next ()) :
    Fin.get (fun _ => (.next () : Step Unit Bool)) (loopC b3 0 () i) = bif (Fin.get (fun _ => (-1 : Int)) (loopL b 0 () l) != ((i : Nat) : Int)) then .done false else .next () := by
  rw [first_loop (p := fun a : α => key a == key l[i]) (r := fun i => ((i : Nat) : Int)) (b := b) hb]
  cases hf : l.findIdx? (fun a : α => key a == key l[i]) with
  | none =>
    rw [List.findIdx?_eq_none_iff] at hf
    have := hf l[i] (List.getElem_mem hi)
    simp at this
  | some j =>
    rw [List.findIdx?_eq_some_iff_getElem] at hf
    obtain ⟨hj, h1, h2⟩ := hf
    rcases some_loopC (p := fun k => key (l[k]?.getD default) == key l[i]) (r := (Step.done false : Step Unit Bool)) (b := b3) h3 i 0 with ⟨⟨k, hk, e⟩, h⟩ | ⟨e, h⟩
    · rw [h]
      have hne : j ≠ i := by
        intro hji
        rw [Nat.zero_add, List.getElem?_eq_getElem (by omega), Option.getD_some] at e
        exact h2 k (by omega) e
      have hb : ((((0 + j : Nat) : Nat) : Int) != ((i : Nat) : Int)) = true := by simp; omega
      simp only [Fin.get]
      rw [hb]
      rfl
    · rw [h]
      have he : j = i := by
        rcases Nat.lt_trichotomy j i with h | h | h
        · have := e j h
          rw [Nat.zero_add, List.getElem?_eq_getElem hj, Option.getD_some] at this
          rw [this] at h1
          cases h1
        · exact h
        · have := h2 i h
          simp at this
      have hb : ((((0 + j : Nat) : Nat) : Int) != ((i : Nat) : Int)) = false := by simp; omega
      simp only [Fin.get]
      rw [hb]
      rfl
theorem main_WheelOk (w : Wheel) : spec_WheelOk w = impl_WheelOk w := by
  unfold spec_WheelOk impl_WheelOk
  rw [show spec_l1In w.Now 0 2147483647 = impl_within w.Now 0 2147483647 from rfl]
  cases hn : impl_within w.Now 0 2147483647 with
  | false => cases (((w.Near.length : Nat) : Int) != 8) <;> cases (((w.Far.length : Nat) : Int) != 8) <;> rfl
  | true =>
    have hn2 : 0 ≤ w.Now ∧ w.Now ≤ 2147483647 := by
      unfold impl_within at hn
      by_cases h1 : w.Now ≥ 0
      · rw [decide_eq_true h1, cond_true] at hn
        exact ⟨h1, of_decide_eq_true hn⟩
      · rw [decide_eq_false h1] at hn; cases hn
    have e1 : ∀ l k, spec_l8Slot w l 1 k = impl_belongs w l 0 k := fun l k => by unfold spec_l8Slot impl_belongs; rw [slot_b1 w hn2.1 hn2.2 1 0 k (.inl ⟨rfl, rfl⟩)]
    have e2 : ∀ l k, spec_l8Slot w l 2 k = impl_belongs w l 1 k := fun l k => by unfold spec_l8Slot impl_belongs; rw [slot_b1 w hn2.1 hn2.2 2 1 k (.inr (.inl ⟨rfl, rfl⟩))]
    have e3 : ∀ l, spec_l8Slot w l 3 0 = impl_belongs w l 2 0 := fun l => by unfold spec_l8Slot impl_belongs; rw [slot_b1 w hn2.1 hn2.2 3 2 0 (.inr (.inr ⟨rfl, rfl, rfl⟩))]
    have eb : spec_WheelOk_b1 w = impl_WheelOk_b1 w := by
      funext i s
      unfold spec_WheelOk_b1 impl_WheelOk_b1
      rw [e1, e2]
    rw [e3, eb]
    have e4 : loopL (spec_WheelOk_b2 w) 0 () (spec_Timers w) = loopL (impl_WheelOk_b2 w) 0 () (impl_Timers w) := by
      rw [main_Timers]
      refine loopL_at _ 0 () fun i hi s => ?_
      rw [Nat.zero_add]
      unfold spec_WheelOk_b2 impl_WheelOk_b2 impl_timerAt slices_IndexFunc_STimer_Timer_c_impl_timerAt_1
      exact uniq_at Timer.Id (impl_Timers w) i hi (b3 := spec_WheelOk_b3 w (impl_Timers w)[i]) (fun k s => by unfold spec_WheelOk_b3; rw [main_Timers]) (b := slices_IndexFunc_STimer_Timer_c_impl_timerAt_1_b1 (impl_Timers w)[i].Id) (fun _ _ _ => rfl)
    rw [e4, main_Timers]
    rfl
theorem mem8 {α : Type} [Inhabited α] {P : α → Prop} {l : List α} (hl : l.length = 8) (h : ∀ k, k < 8 → P (l[k]?.getD default)) : ∀ x ∈ l, P x := by
  intro x hx
  obtain ⟨i, hi, rfl⟩ := List.getElem_of_mem hx
  have := h i (by omega)
  rw [List.getElem?_eq_getElem hi, Option.getD_some] at this
  exact this
theorem within_iff {a b c : Int} : impl_within a b c = true ↔ b ≤ a ∧ a ≤ c := by
  unfold impl_within
  rw [bft]
  simp
theorem all_of {α : Type} {q : α → Prop} {b : Nat → Unit → α → Step Unit Bool} {K : Unit → Bool} (hq : ∀ i s a, b i s a = .done false ∨ (q a ∧ b i s a = .next ())) : ∀ (l : List α) (i : Nat), Fin.get K (loopL b i () l) = true → ∀ a ∈ l, q a
  | [], _, _ => fun a ha => by cases ha
  | x :: l, i, h => by
    unfold loopL at h
    rcases hq i () x with h1 | ⟨h1, h2⟩
    · rw [h1] at h; cases h
    · rw [h2] at h
      intro a ha
      rcases List.mem_cons.1 ha with rfl | ha
      · exact h1
      · exact all_of hq l (i + 1) h a ha
theorem belongs_ids {w : Wheel} {l : List Timer} {p k : Int} (h : impl_belongs w l p k = true) : ∀ t ∈ l, 1 ≤ t.Id ∧ impl_within t.Trace 1 999 = true := by
  refine all_of (b := impl_belongs_b1 w p k) (fun i s a => ?_) l 0 h
  unfold impl_belongs_b1
  by_cases h1 : a.Id < 1
  · rw [decide_eq_true h1]; exact .inl rfl
  rw [decide_eq_false h1]
  cases h2 : impl_within a.Trace 1 999 with
  | false => exact .inl rfl
  | true =>
    cases decide (a.At ≤ w.Now) with
    | true => exact .inl rfl
    | false =>
      cases decide (a.At > 2147483647) with
      | true => exact .inl rfl
      | false =>
        simp only [Bool.not_true, cond_false]
        unfold impl_belongs_j2
        simp only [get_bif, Step.get]
        generalize ((IntKind.i64.wrap (IntKind.i64.wrap (a.At.tdiv 8) - IntKind.i64.wrap (w.Now.tdiv 8)))) = r
        cases (p == 0) <;> cases (r == 0) <;> cases (p == 1) <;> cases (impl_within r 1 7) <;> cases (a.At.tmod 8 == k) <;> cases ((IntKind.i64.wrap (a.At.tdiv 8)).tmod 8 == k) <;> cases (decide (r ≥ 8)) <;> first | exact .inl rfl | exact .inr ⟨⟨by omega, trivial⟩, rfl⟩ | exact .inr ⟨⟨by omega, rfl⟩, rfl⟩
theorem loopC_all {b : Nat → Unit → Step Unit Bool} {q : Nat → Prop} {K : Unit → Bool} (hq : ∀ i s, b i s = .done false ∨ (q i ∧ b i s = .next ())) : ∀ (n i : Nat), Fin.get K (loopC b i () n) = true → ∀ k, k < n → q (i + k)
  | 0, i, _ => fun k hk => absurd hk (by omega)
  | n + 1, i, h => by
    intro k hk
    rcases hq i () with h1 | ⟨h1, h2⟩
    · unfold loopC at h; rw [h1] at h; cases h
    · have hs : loopC b i () (n + 1) = loopC b (i + 1) () n := by
        conv => lhs; unfold loopC
        rw [h2]
      rw [hs] at h
      cases k with
      | zero => exact h1
      | succ k =>
        have := loopC_all hq n (i + 1) h k (by omega)
        rw [show i + (k + 1) = i + 1 + k by omega]
        exact this
theorem wheel_ids {w : Wheel} (h : impl_WheelOk w = true) : ∀ t ∈ impl_Timers w, 1 ≤ t.Id ∧ impl_within t.Trace 1 999 = true := by
  unfold impl_WheelOk at h
  rw [bnf, bff, bff, bnf] at h
  simp only [Bool.and_eq_true, Bool.not_eq_true', bneI, Bool.not_eq_false', decide_eq_true_eq] at h
  obtain ⟨h1, h2, h3, h4, h5⟩ := h
  have h6 : ∀ k, k < 8 → (impl_belongs w (w.Near[k]?.getD default) 0 ((k : Nat) : Int) = true ∧ impl_belongs w (w.Far[k]?.getD default) 1 ((k : Nat) : Int) = true) := by
    intro k hk
    have := loopC_all (b := impl_WheelOk_b1 w) (q := fun k => impl_belongs w (w.Near[k]?.getD default) 0 ((k : Nat) : Int) = true ∧ impl_belongs w (w.Far[k]?.getD default) 1 ((k : Nat) : Int) = true) (fun i s => by
      unfold impl_WheelOk_b1
      cases ha : impl_belongs w (w.Near[i]?.getD default) 0 ((i : Nat) : Int) with
      | false => exact .inl rfl
      | true =>
        cases hb : impl_belongs w (w.Far[i]?.getD default) 1 ((i : Nat) : Int) with
        | false => exact .inl rfl
        | true => exact .inr ⟨⟨rfl, rfl⟩, rfl⟩) 8 0 h5 k hk
    rw [Nat.zero_add] at this
    exact this
  intro t ht
  rw [impl_Timers_eq] at ht
  simp only [List.mem_append, List.mem_flatMap, id] at ht
  rcases ht with (⟨s, hs, ht⟩ | ⟨s, hs, ht⟩) | ht
  · exact mem8 (P := fun s : List Timer => ∀ t ∈ s, 1 ≤ t.Id ∧ impl_within t.Trace 1 999 = true) (by omega) (fun k hk => belongs_ids (h6 k hk).1) s hs t ht
  · exact mem8 (P := fun s : List Timer => ∀ t ∈ s, 1 ≤ t.Id ∧ impl_within t.Trace 1 999 = true) (by omega) (fun k hk => belongs_ids (h6 k hk).2) s hs t ht
  · exact belongs_ids h4 t ht
theorem main_DeedOk (d : Deed) : spec_DeedOk d = impl_DeedOk d := by
  unfold spec_DeedOk impl_DeedOk spec_DeedOk_j1 spec_DeedOk_j2 impl_DeedOk_j1 impl_DeedOk_j2
  rw [show spec_l1In d.Op 1 4 = impl_within d.Op 1 4 from rfl, show spec_l1In d.Code 1 5 = impl_within d.Code 1 5 from rfl]
  have hm : decide (min (min (min d.Took d.N) d.Forgot) d.Now < 0) = (decide (d.Took < 0) || (decide (d.N < 0) || (decide (d.Forgot < 0) || decide (d.Now < 0)))) := by
    rw [Bool.eq_iff_iff]
    simp only [decide_eq_true_eq, Bool.or_eq_true]
    omega
  rw [hm]
  simp only [beqI, bneI]
  cases impl_within d.Op 1 4 with
  | false => rfl
  | true =>
    cases decide (d.Inv < 0) with
    | true => rfl
    | false =>
      simp only [Bool.not_true, cond_false]
      cases decide (d.Took < 0) <;> cases decide (d.N < 0) <;> cases decide (d.Forgot < 0) <;> cases decide (d.Now < 0) <;> simp only [Bool.or_true, Bool.or_false, Bool.true_or, Bool.false_or, cond_true, cond_false]
      by_cases hL : d.Lin = -1
      · rw [decide_eq_true hL]
        by_cases hR : d.Res = -1
        · rw [decide_eq_true hR]
          cases decide (d.Op = 1) <;> cases impl_within d.Code 1 5 <;> cases decide (d.Code = 0) <;> rfl
        · rw [decide_eq_false hR]
          cases decide (d.Op = 1) <;> cases impl_within d.Code 1 5 <;> cases decide (d.Code = 0) <;> rfl
      · rw [decide_eq_false hL]
        have e1 : decide (d.Lin ≥ d.Inv) = !decide (d.Lin < d.Inv) := by by_cases h : d.Lin < d.Inv <;> simp [h]; omega
        have e2 : decide (d.Res ≥ d.Lin) = !decide (d.Res < d.Lin) := by by_cases h : d.Res < d.Lin <;> simp [h]; omega
        rw [e1, e2]
        cases decide (d.Res = -1) <;> cases decide (d.Lin < d.Inv) <;> cases decide (d.Res < d.Lin) <;> cases decide (d.Op = 1) <;> cases impl_within d.Code 1 5 <;> cases decide (d.Code = 0) <;> rfl
theorem done_false {α σ ρ : Type} {r0 : ρ} {b : Nat → σ → α → Step σ ρ} (hb : ∀ i s a r, b i s a = .done r → r = r0) : ∀ (l : List α) (i : Nat) (s : σ) (r : ρ), loopL b i s l = .done r → r = r0
  | [], i, s, r, h => by cases h
  | a :: l, i, s, r, h => by
    unfold loopL at h
    cases hx : b i s a with
    | next s' => rw [hx] at h; exact done_false hb l (i + 1) s' r h
    | stop s' => rw [hx] at h; cases h
    | done r' => rw [hx] at h; cases h; exact hb i s a _ hx
theorem hand_loop (t : Task) : (loopL (spec_TaskOk_b1 t) 0 () t.Hand) = (loopL (impl_handOk_b1 t) 0 () t.Hand) := by
  have e : spec_TaskOk_b1 t = impl_handOk_b1 t := by
    funext i s a
    unfold spec_TaskOk_b1 impl_handOk_b1
    rw [show spec_ItemOk a = impl_ItemOk a from by unfold impl_ItemOk spec_ItemOk; rw [main_SpanOk]]
  rw [e]
theorem eq_nil_items (l : List Item) : slices_EqualFunc_SItem_SItem_Item_Item_c_impl_SameItem l [] = (((l.length : Nat) : Int) == 0) := by
  unfold slices_EqualFunc_SItem_SItem_Item_Item_c_impl_SameItem
  cases l with
  | nil => rfl
  | cons a l =>
    have h1 : ((((a :: l).length : Nat) : Int) != (((([] : List Item).length : Nat)) : Int)) = true := by simp; omega
    have h2 : ((((a :: l).length : Nat) : Int) == 0) = false := by simp; omega
    rw [h1, h2]
    rfl
theorem main_TaskOk (t : Task) (k : Int) : spec_TaskOk t k = impl_TaskOk t k := by
  unfold spec_TaskOk impl_TaskOk impl_TaskOk_j1 impl_TaskOk_j2 impl_TaskOk_j3 impl_sameTask impl_handOk spec_l14NoSpan
  rw [show spec_l1In t.Pc 0 3 = impl_within t.Pc 0 3 from rfl, show spec_l1In k 0 4 = impl_within k 0 4 from rfl, show spec_l1In t.Trace 1 999 = impl_within t.Trace 1 999 from rfl, hand_loop, main_SameSpan, main_SpanOk, eq_nil_items]
  simp only [beqI, bneI]
  have hp : decide (((t.Hand.length : Nat) : Int) > 0) = !decide (((t.Hand.length : Nat) : Int) = 0) := by
    by_cases h : ((t.Hand.length : Nat) : Int) = 0
    · rw [decide_eq_true h, decide_eq_false (by omega)]; rfl
    · rw [decide_eq_false h, decide_eq_true (by omega)]; rfl
  have hk : decide (k < 3) = !decide (k ≥ 3) := by by_cases h : k ≥ 3 <;> simp [h]; omega
  rw [hp, hk]
  cases decide (t.H < 0) with
  | true => cases impl_within k 0 4 <;> cases impl_within t.Pc 0 3 <;> rfl
  | false =>
    cases impl_within k 0 4 <;> cases impl_within t.Pc 0 3 <;> simp only [Bool.not_true, Bool.not_false, cond_true, cond_false]
    by_cases h0 : t.Op = 0
    · simp only [h0]
      generalize impl_SameSpan t.S (Span.mk 0 0 0 0 false []) = a
      generalize decide (t.Pc = 0) = b
      generalize decide (t.Trace = 0) = c
      generalize decide (t.Stamp = 0) = d
      generalize decide (((t.Hand.length : Nat) : Int) = 0) = e
      generalize decide (t.H = 0) = f
      generalize impl_within t.Trace 1 999 = g
      generalize decide (t.Stamp ≥ 1) = h
      cases a <;> cases b <;> cases c <;> cases d <;> cases e <;> cases f <;> cases g <;> rfl
    · rw [decide_eq_false h0]
      by_cases h1 : t.Op = 1
      · simp only [h1]
        generalize impl_SpanOk t.S = a
        generalize decide (t.Pc = 3) = b
        generalize decide (t.Trace = 0) = c
        generalize decide (t.Stamp = 0) = d
        generalize decide (((t.Hand.length : Nat) : Int) = 0) = e
        generalize impl_within t.Trace 1 999 = g
        generalize decide (t.Stamp ≥ 1) = h
        generalize decide (k ≥ 3) = f
        cases a <;> cases b <;> cases c <;> cases d <;> cases e <;> cases g <;> cases f <;> cases h <;> rfl
      · rw [decide_eq_false h1]
        by_cases h2 : t.Op = 2
        · simp only [h2]
          generalize impl_SameSpan t.S (Span.mk 0 0 0 0 false []) = a
          generalize decide (t.Trace = 0) = c
          generalize decide (t.Stamp = 0) = d
          generalize impl_within t.Trace 1 999 = g
          generalize decide (t.Stamp ≥ 1) = h
          generalize decide (k ≥ 3) = f
          generalize decide (((t.Hand.length : Nat) : Int) = 0) = e
          generalize decide (t.Pc = 3) = b
          have key : ∀ z : Fin Unit Bool, (∀ r, z = .done r → r = false) → ∀ x : Bool, Fin.get (fun _ => bif f then (bif a then (bif g then (bif h then x else false) else false) else false) else false) z = bif f then (bif g then (bif h then (bif a then Fin.get (fun _ => x) z else false) else false) else false) else false := by
            intro z hz x
            cases z with
            | fin s => cases f <;> cases a <;> cases g <;> cases h <;> rfl
            | done r => rw [hz r rfl]; cases f <;> cases a <;> cases g <;> cases h <;> rfl
          have hd := done_false (r0 := false) (b := impl_handOk_b1 t) (fun i s a r h => by
            unfold impl_handOk_b1 at h
            cases h1 : impl_ItemOk a <;> rw [h1] at h
            · cases h; rfl
            · cases h2 : (a.Stamp != t.Stamp) <;> rw [h2] at h <;> cases h
              rfl) t.Hand 0 ()
          have hk := fun x => key _ hd x
          clear key
          cases c <;> cases g <;> exact hk _
        · rw [decide_eq_false h2]
          cases decide (t.Trace = 0) <;> cases impl_within t.Trace 1 999 <;> rfl
theorem main_HoldsStripe (t : Task) (n : Int) : spec_HoldsStripe t n = impl_HoldsStripe t n := by
  unfold spec_HoldsStripe impl_HoldsStripe
  rw [main_StripeOf, main_StripeOf]
  rfl
theorem main_deed (w : World) (k : Int) (hop : (w.Tasks[k.toNat]?.getD default).Op = 0 ∨ (w.Tasks[k.toNat]?.getD default).Op = 1 ∨ (w.Tasks[k.toNat]?.getD default).Op = 2) : spec_l16Deed w k = ((w.Tasks[k.toNat]?.getD default).Op == 0 || impl_deedOfTask w k) := by
  unfold spec_l16Deed impl_deedOfTask impl_deedOfTask_j1 impl_deedOfTask_j2 spec_l16Deed_j1
  generalize (w.Tasks[k.toNat]?.getD default) = t at hop ⊢
  generalize (w.Deeds[t.H.toNat]?.getD default) = d
  rw [main_SameSpan]
  simp only [beqI, bneI]
  generalize decide (t.H ≥ ((w.Deeds.length : Nat) : Int)) = a
  generalize decide (d.Task = k) = b
  generalize decide (d.Res = -1) = c
  generalize decide (d.Lin = -1) = e
  generalize decide (t.Pc = 3) = f
  generalize impl_SameSpan d.S t.S = g
  generalize decide (d.Trace = t.Trace) = h
  generalize decide (d.Stamp = t.Stamp) = i
  rcases hop with ho | ho | ho <;> rw [ho]
  · rfl
  · generalize decide (d.Op = 1) = j
    generalize decide (d.Op = 2) = k
    cases a <;> cases b <;> cases c <;> cases e <;> cases f <;> cases g <;> cases j <;> rfl
  · generalize decide (d.Op = 1) = j
    generalize decide (d.Op = 2) = k
    cases a <;> cases b <;> cases c <;> cases e <;> cases f <;> cases g <;> cases h <;> cases i <;> cases j <;> cases k <;> rfl
theorem TaskOk_op {t : Task} {k : Int} (h : impl_TaskOk t k = true) : t.Op = 0 ∨ t.Op = 1 ∨ t.Op = 2 := by
  rw [← main_TaskOk] at h
  unfold spec_TaskOk at h
  rw [bff, bnf, bnf] at h
  simp only [Bool.and_eq_true] at h
  by_cases h0 : t.Op = 0
  · exact .inl h0
  by_cases h1 : t.Op = 1
  · exact .inr (.inl h1)
  by_cases h2 : t.Op = 2
  · exact .inr (.inr h2)
  have := h.2.2.2
  rw [show (t.Op == 0) = false from by simpa using h0, show (t.Op == 1) = false from by simpa using h1, show (t.Op == 2) = false from by simpa using h2] at this
  cases this
/-- One test more in each round. -/
theorem more_loop {α σ : Type} {q : α → Bool} {f g : Nat → σ → α → Step σ Bool} {K : σ → Bool} : ∀ (l : List α) (i : Nat) (s : σ), (∀ k (hk : k < l.length) s, (f (i + k) s l[k] = .done false ∧ g (i + k) s l[k] = .done false) ∨ (∃ v, f (i + k) s l[k] = .next v ∧ g (i + k) s l[k] = bif q l[k] then .next v else .done false)) →
    Fin.get K (loopL g i s l) = (Fin.get K (loopL f i s l) && l.all q)
  | [], i, s, h => by simp [loopL, Fin.get]
  | a :: l, i, s, h => by
    have h0 := h 0 (by simp) s
    simp only [Nat.add_zero, List.getElem_cons_zero] at h0
    unfold loopL
    rcases h0 with ⟨h1, h2⟩ | ⟨v, h1, h2⟩
    · rw [h1, h2]; rfl
    · rw [h1, h2, List.all_cons]
      cases q a with
      | false =>
        simp only [cond_false, Bool.false_and, Bool.and_false]
        rfl
      | true =>
        simp only [cond_true, Bool.true_and]
        refine more_loop l (i + 1) v fun k hk s => ?_
        have := h (k + 1) (by simpa using hk) s
        rw [show i + (k + 1) = i + 1 + k by omega] at this
        simpa using this
theorem set_const : ∀ (l : List Stripe) (d e : List Int), e.length = l.length → loopL impl_tasksOk_b1 d.length (d ++ e) l = .fin (d ++ List.replicate l.length (-1))
  | [], d, e, h => by
    have : e = [] := List.eq_nil_of_length_eq_zero h
    subst this
    simp [loopL]
  | a :: l, d, [], h => by simp at h
  | a :: l, d, x :: e, h => by
    unfold loopL
    simp only [impl_tasksOk_b1]
    have h1 : (d ++ x :: e).set d.length (-1) = (d ++ [-1]) ++ e := by simp
    rw [h1]
    have := set_const l (d ++ [-1]) e (by simpa using h)
    simp only [List.length_append, List.length_cons, List.length_nil, Nat.zero_add] at this
    rw [this]
    simp [List.replicate_succ]
theorem app_const (l : List Stripe) : loopL spec_l16Tasks_b1 0 [] l = .fin (List.replicate l.length (-1)) := by
  rw [app_loop (f := fun _ => [-1]) (b := spec_l16Tasks_b1) (fun _ _ _ => rfl)]
  congr 1
  induction l with
  | nil => rfl
  | cons a l ih => simp only [List.nil_append, List.flatMap_cons] at ih ⊢; rw [ih, List.length_cons, List.replicate_succ]; rfl
theorem j4_done {a : Task} {w : World} {s : List Int × Int} {i : Nat} {r} (h : impl_tasksOk_j4 a w s i = .done r) : r = .done false := by
  unfold impl_tasksOk_j4 at h
  simp only [Bool.cond_eq_ite] at h
  repeat' split at h
  all_goals first | (cases h; rfl) | cases h
theorem j4_stop {a : Task} {w : World} {s : List Int × Int} {i : Nat} {r} (h : impl_tasksOk_j4 a w s i = .stop r) : False := by
  unfold impl_tasksOk_j4 at h
  simp only [Bool.cond_eq_ite] at h
  repeat' split at h
  all_goals cases h
theorem main_Tasks (w : World) (h5 : w.Tasks.length = 5) : spec_l16Tasks w = (impl_tasksOk w && w.Tasks.all (fun t => !decide (t.Stamp ≥ w.Next))) := by
  unfold spec_l16Tasks impl_tasksOk
  have h5' : (((w.Tasks.length : Nat) : Int) != 5) = false := by rw [h5]; rfl
  rw [h5', cond_false, app_const]
  have hc := set_const w.St [] (List.replicate w.St.length 0) (by simp)
  simp only [List.nil_append, List.length_nil] at hc
  rw [hc]
  simp only [Fin.get]
  have e5 : spec_l16Tasks_b4 = impl_tasksOk_b5 := rfl
  rw [e5]
  refine more_loop w.Tasks 0 _ fun k hk s => ?_
  rw [Nat.zero_add]
  unfold spec_l16Tasks_b2 impl_tasksOk_b2 impl_tasksOk_j3
  have ej : spec_l16Tasks_j3 w.Tasks[k] w s k = impl_tasksOk_j4 w.Tasks[k] w s k := by
    unfold spec_l16Tasks_j3 impl_tasksOk_j4
    rw [main_HoldsStripe]
  rw [main_TaskOk, ej]
  cases ht : impl_TaskOk w.Tasks[k] ((k : Nat) : Int) with
  | false => exact .inl ⟨rfl, rfl⟩
  | true =>
    have hop := TaskOk_op ht
    have hg : (w.Tasks[((k : Nat) : Int).toNat]?.getD default) = w.Tasks[k] := by
      rw [Int.toNat_natCast, List.getElem?_eq_getElem hk, Option.getD_some]
    rw [main_deed w k (by rw [hg]; exact hop), hg]
    simp only [Bool.not_true, cond_false, get_bif, Step.get, bneI, beqI]
    have key : ∀ X : Step (List Int × Int) Bool, (X = .done false ∨ ∃ v, X = .next v) → (X = .done false ∧ (bif decide (w.Tasks[k].Stamp ≥ w.Next) then Step.done false else X) = Step.done false) ∨ ∃ v, X = .next v ∧ (bif decide (w.Tasks[k].Stamp ≥ w.Next) then Step.done false else X) = bif !decide (w.Tasks[k].Stamp ≥ w.Next) then .next v else .done false := by
      intro X hX
      rcases hX with rfl | ⟨v, rfl⟩
      · refine .inl ⟨rfl, ?_⟩
        cases decide (w.Tasks[k].Stamp ≥ w.Next) <;> rfl
      · refine .inr ⟨v, rfl, ?_⟩
        cases decide (w.Tasks[k].Stamp ≥ w.Next) <;> rfl
    have hX : ∀ (c : Bool) (z : Step (List Int) (Step (List Int × Int) Bool)), z = impl_tasksOk_j4 w.Tasks[k] w s k → (Step.get (fun s4 => bif c then (bif !decide (s.2 = -1) then .done false else .next (s4, ((k : Nat) : Int))) else .next (s4, s.2)) z = .done false ∨ ∃ v, Step.get (fun s4 => bif c then (bif !decide (s.2 = -1) then .done false else .next (s4, ((k : Nat) : Int))) else (.next (s4, s.2) : Step (List Int × Int) Bool)) z = .next v) := by
      intro c z hz
      cases z with
      | next v => cases c <;> cases decide (s.2 = -1) <;> first | exact .inl rfl | exact .inr ⟨_, rfl⟩
      | stop v => exact (j4_stop hz.symm).elim
      | done r => rw [j4_done hz.symm]; exact .inl rfl
    have hY := key _ (hX (impl_HoldsRule w.Tasks[k]) _ rfl)
    have er : spec_HoldsRule w.Tasks[k] = impl_HoldsRule w.Tasks[k] := rfl
    rw [er]
    by_cases h0 : w.Tasks[k].Op = 0
    · rw [decide_eq_true h0]
      simp only [Bool.true_or, Bool.not_true, cond_false]
      exact hY
    · rw [decide_eq_false h0]
      simp only [Bool.false_or, Bool.not_false, cond_true]
      cases impl_deedOfTask w ((k : Nat) : Int) with
      | false => exact .inl ⟨rfl, rfl⟩
      | true => exact hY
theorem app2_loop {α β γ ρ : Type} {f : α → List β} {g : α → List γ} {b : Nat → List β × List γ → α → Step (List β × List γ) ρ} (hb : ∀ i s a, b i s a = .next (s.1 ++ f a, s.2 ++ g a)) : ∀ (l : List α) (i : Nat) (s : List β × List γ), loopL b i s l = .fin (s.1 ++ l.flatMap f, s.2 ++ l.flatMap g)
  | [], i, s => by simp [loopL]
  | a :: l, i, s => by
    unfold loopL
    rw [hb]
    simp only
    rw [app2_loop hb l (i + 1), List.flatMap_cons, List.flatMap_cons, List.append_assoc, List.append_assoc]
theorem tapp_loop {α β ρ : Type} {p : α → Bool} {r : ρ} {f : α → List β} {b : Nat → List β → α → Step (List β) ρ} (hb : ∀ i s a, b i s a = bif p a then .next (s ++ f a) else .done r) : ∀ (l : List α) (i : Nat) (s : List β), loopL b i s l = bif l.all p then .fin (s ++ l.flatMap f) else .done r
  | [], i, s => by simp [loopL]
  | a :: l, i, s => by
    unfold loopL
    rw [hb, List.all_cons]
    cases p a with
    | false => rfl
    | true =>
      simp only [cond_true, Bool.true_and]
      rw [tapp_loop hb l (i + 1), List.flatMap_cons, List.append_assoc]
theorem flat_one {α β : Type} (f : α → β) (l : List α) : l.flatMap (fun a => [f a]) = l.map f := by
  induction l with
  | nil => rfl
  | cons a l ih => rw [List.flatMap_cons, ih]; rfl
/-- The timers of those who judge. -/
def tmOf (a : Task) : List Timer := bif (a.Op == 2) then (bif (a.Pc != 3) then [Timer.mk a.Stamp a.Trace 0] else []) else []
theorem stamps_eq (w : World) : impl_stampsOk w = ((w.St.flatMap (fun x => x.L)).all (fun t => ((impl_Timers w.W ++ w.Due) ++ w.Tasks.flatMap tmOf).any (fun a => impl_stampsOk_1 a t)) &&
    !(((impl_Timers w.W ++ w.Due).map Timer.Id ++ w.Cache.map Verdict.Stamp ++ w.Tasks.map Task.Stamp ++ (w.St.flatMap (fun x => x.L)).map Trail.Stamp).any (fun n => decide (n ≥ w.Next)))) := by
  unfold impl_stampsOk
  rw [app_loop (f := fun a : Timer => [a.Id]) (b := impl_stampsOk_b1) (fun _ _ _ => rfl)]
  simp only [Fin.get]
  rw [app_loop (f := fun a : Verdict => [a.Stamp]) (b := impl_stampsOk_b2) (fun _ _ _ => rfl)]
  simp only [Fin.get]
  rw [app2_loop (f := tmOf) (g := fun a : Task => [a.Stamp]) (b := impl_stampsOk_b3) (fun i s a => by
    unfold impl_stampsOk_b3 tmOf
    cases (a.Op == 2) <;> cases (a.Pc != 3) <;> simp)]
  simp only [Fin.get]
  rw [tapp_loop (p := fun t : Trail => ((impl_Timers w.W ++ w.Due) ++ w.Tasks.flatMap tmOf).any (fun a => impl_stampsOk_1 a t)) (r := false) (f := fun a : Trail => [a.Stamp]) (b := impl_stampsOk_b4 _) (fun i s a => by
    unfold impl_stampsOk_b4 slices_ContainsFunc_STimer_Timer_c_impl_stampsOk_1 slices_IndexFunc_STimer_Timer_c_impl_stampsOk_1
    rw [cont_loop (p := fun x => impl_stampsOk_1 x a) (b := slices_IndexFunc_STimer_Timer_c_impl_stampsOk_1_b1 a) (fun _ _ _ => rfl)]
    cases List.any _ _ <;> rfl), allTrails_eq]
  simp only [flat_one, List.nil_append]
  cases List.all (w.St.flatMap fun x => x.L) _ with
  | false => rfl
  | true =>
    simp only [cond_true, Fin.get, Bool.true_and]
    unfold slices_ContainsFunc_Sint_int_c_impl_stampsOk_2 slices_IndexFunc_Sint_int_c_impl_stampsOk_2
    rw [cont_loop (p := fun x => impl_stampsOk_2 x w) (b := slices_IndexFunc_Sint_int_c_impl_stampsOk_2_b1 w) (fun _ _ _ => rfl)]
    rfl
theorem any_loop {α ρ : Type} {p : α → Bool} {r : ρ} {b : Nat → Unit → α → Step Unit ρ} (hb : ∀ i s a, b i s a = bif p a then .done r else .next ()) : ∀ (l : List α) (i : Nat), loopL b i () l = bif l.any p then .done r else .fin ()
  | [], i => rfl
  | a :: l, i => by
    unfold loopL
    rw [hb, List.any_cons]
    cases p a with
    | true => rfl
    | false => simp only [cond_false, Bool.false_or]; exact any_loop hb l (i + 1)
theorem known_eq (w : World) (id st : Int) : spec_l16Known w id st = ((impl_Timers w.W ++ w.Due).any (fun a => a.Id == st && a.Trace == id) || w.Tasks.any (fun a => (a.Op == 2 && a.Pc != 3) && (a.Stamp == st && a.Trace == id))) := by
  unfold spec_l16Known
  rw [any_loop (p := fun a : Timer => a.Id == st && a.Trace == id) (r := true) (b := spec_l16Known_b1 st id) (fun i s a => by unfold spec_l16Known_b1; cases (a.Id == st) <;> rfl)]
  rw [any_loop (p := fun a : Task => (a.Op == 2 && a.Pc != 3) && (a.Stamp == st && a.Trace == id)) (r := true) (b := spec_l16Known_b2 st id) (fun i s a => by unfold spec_l16Known_b2; cases (a.Op == 2) <;> cases (a.Pc != 3) <;> cases (a.Stamp == st) <;> rfl), main_Timers]
  cases List.any (impl_Timers w.W ++ w.Due) _ <;> cases List.any w.Tasks _ <;> rfl
end Go.Proofs.Tryz.Ev
