import Derived.Test.YtepchngnmfbffaaGreatLWholeWalkB
set_option linter.unusedSectionVars false

namespace Go.Proofs.Tryz.Ev
open Go Go.Ev Go.Proofs
set_option maxHeartbeats 4000000
set_option maxRecDepth 100000
set_option linter.unusedSimpArgs false
set_option linter.unusedVariables false
set_option linter.unusedSectionVars false
theorem c_impl_SameBag (p0 : (List Span)) (p1 : (List Span)) : FnOk prog 59 [.one (.s false 6 (List.map (Span.cells false) p0)), .one (.s false 6 (List.map (Span.cells false) p1))] ⟨.one (.v (.bool (impl_SameBag p0 p1))), [], [], false⟩ := by
  refine FnOk.intro (E := env) envOk wide func59 rfl (by kernel_rfl) rfl rfl ?_
  have hg := impl_SameBag.eq_1 p0 p1
  have hown : ∀ g : Bool, AV.Own (AV.one (.v (.bool g))) := fun g => .v _
  refine seqE ?_
  refine seqE ?_
  refine seqE ?_
  refine seqE ?_
  refine lenM fun hN1 => ?_
  refine loopLE hg [0, 1, 5, 8, 9] (fun x1 => [(10, .one (.v (.int .i64 ((x1.i : Nat) : Int))))]) (fun x1 => []) [] ?_ (fun x1 => ?_)
  · exact ⟨rfl, ⟨rfl, rfl, rfl, ⟨rfl, trivial⟩, rfl, rfl, trivial⟩, trivial, trivial⟩
  refine seqE ?_
  refine seqE ?_
  refine tstL (fun hi1 => ?_) (fun hi1 => ?_)
  · have hb1 := (x1.bdy hi1).trans (impl_SameBag_b1.eq_1 ..)
    have hw1 := wrap_succ hi1 (by first | assumption | omega)
    refine seqE ?_
    refine seqE ?_
    refine idxAt hi1 ?_
    refine litE (m := 0) rfl ?_
    refine seqE ?_
    refine .inl ⟨by kernel_rfl, ?_⟩
    refine ⟨_, _, c_impl_SameBag_1 p0 (p0[x1.i]'hi1), (FzAs.same _), ?_⟩
    refine ⟨_, _, c_impl_SameBag_1 p1 (p0[x1.i]'hi1), (FzAs.same _), ?_⟩
    refine brW hb1 (fun hb1 h2 => ?_) (fun hb1 h2 => x1.goE hi1 hb1 [] ⟨rfl, ⟨(eqInt hw1), rfl, rfl, ⟨rfl, trivial⟩, rfl, rfl, trivial⟩, trivial, trivial⟩)
    refine seqE ?_
    have hg := donE hg (x1.outD hi1 hb1)
    exact leafE hown hg
  have hg := finE hg (x1.fin hi1)
  refine seqE ?_
  refine lenM fun hN3 => ?_
  refine lenM fun hN4 => ?_
  exact leafE hown hg
def impl_Whole_b1 (p0 : World) (i1 : Nat) (s1 : Unit) : Step (Unit) Bool :=
  (bif (decide ((1 + ((i1 : Nat) : Int)) ≤ 9999)) then (bif (impl_Kept p0.Deeds (1 + ((i1 : Nat) : Int))) then (bif (!(impl_SameBag (impl_Sent p0 (1 + ((i1 : Nat) : Int))) (impl_Accepted p0.Deeds (1 + ((i1 : Nat) : Int))))) then (.done false) else (.next ())) else (bif (decide (((((impl_Sent p0 (1 + ((i1 : Nat) : Int)))).length : Nat) : Int) > 0)) then (.done false) else (.next ()))) else (.stop ()))
def impl_Whole (p0 : World) : Bool :=
  (Fin.get (fun s1 => true) (loopC (impl_Whole_b1 p0) 0 () ((p0.Next - 1)).toNat))
theorem cr_impl_Whole (p0 : World) (hr0 : World.rg p0) (hs : World.bd 1048576 p0) : FnOk prog 14 [.agg ((World.cells false) p0)] ⟨.one (.v (.bool (impl_Whole p0))), [], [], false⟩ := by
  refine FnOk.intro (E := env) envOk wide func14 rfl (by kernel_rfl) rfl rfl ?_
  have hg := impl_Whole.eq_1 p0
  have hown : ∀ g : Bool, AV.Own (AV.one (.v (.bool g))) := fun g => .v _
  refine seqE ?_
  refine litE (m := 0) rfl ?_
  refine seqE ?_
  refine seqE ?_
  refine loopCE hg [1] (fun x1 => [(3, .one (.v (.int .i64 (1 + ((x1.i : Nat) : Int)))))]) (fun x1 => [.keep 0]) [some 0] ?_ (fun x1 => ?_)
  · exact ⟨rfl, ⟨rfl, ⟨rfl, rfl, rfl, rfl⟩, trivial⟩, ⟨⟨rfl, rfl, ⟨rfl, rfl, rfl, rfl, rfl, rfl, rfl, rfl, rfl, rfl, rfl, rfl, rfl, rfl, rfl, rfl, rfl, rfl, rfl, rfl, rfl, rfl, rfl, rfl, rfl, rfl, rfl, rfl, rfl, rfl, rfl, rfl, trivial⟩⟩, trivial⟩, trivial⟩
  refine seqE ?_
  refine seqE ?_
  refine tstB (fun hi1 => ?_) (fun hi1 => ?_)
  · have hb1 := (x1.bdy hi1).trans (impl_Whole_b1.eq_1 ..)
    have hw1 := wrapB hi1 (World.rg.Next hr0).2
    refine brD hb1 (fun hb1 h1 => ?_) (fun hb1 h1 => ?_)
    · refine seqE ?_
      refine seqE ?_
      refine .inl (⟨_, _, c_impl_Sent p0 (1 + ((x1.i : Nat) : Int)) (by first | exact hs | exact hs.2.2.2.2.2.2.2.2), (FzAs.same _), ?_⟩)
      refine litE (m := 2) rfl ?_
      refine seqE ?_
      refine .inl (⟨_, _, c_impl_Kept p0.Deeds (1 + ((x1.i : Nat) : Int)), (FzAs.same _), ?_⟩)
      refine litE (m := 4) rfl ?_
      refine brE hb1 (fun hb1 h2 => ?_) (fun hb1 h2 => ?_)
      · refine seqE ?_
        refine .inl (⟨_, _, c_impl_Accepted p0.Deeds (1 + ((x1.i : Nat) : Int)) (by first | exact hs | exact hs.2.2.2.2.2.2.2.2), (FzAs.same _), ?_⟩)
        refine litE (m := 5) rfl ?_
        refine .inl (⟨_, _, c_impl_SameBag (impl_Sent p0 (1 + ((x1.i : Nat) : Int))) (impl_Accepted p0.Deeds (1 + ((x1.i : Nat) : Int))), (.cons (.one (.sl _ _ _ _ (frzMap frz_Span _))) (.cons (.one (.sl _ _ _ _ (frzMap frz_Span _))) (.same _))), ?_⟩)
        refine litE (m := 7) rfl ?_
        refine brE hb1 (fun hb1 h3 => ?_) (fun hb1 h3 => x1.goE hi1 hb1 [some 0] ⟨rfl, ⟨(eqInt hw1), ⟨rfl, rfl, rfl, rfl⟩, trivial⟩, ⟨⟨rfl, rfl, ⟨rfl, rfl, rfl, rfl, rfl, rfl, rfl, rfl, rfl, rfl, rfl, rfl, rfl, rfl, rfl, rfl, rfl, rfl, rfl, rfl, rfl, rfl, rfl, rfl, rfl, rfl, rfl, rfl, rfl, rfl, rfl, rfl, trivial⟩⟩, trivial⟩, trivial⟩)
        refine seqE ?_
        have hg := donE hg (x1.outD hi1 hb1)
        exact leafE hown hg
      · refine seqE ?_
        refine lenE (k := ((impl_Sent p0 (1 + ((x1.i : Nat) : Int)))).length) (by simp) (fun hN4 => ?_)
        refine brD hb1 (fun hb1 h5 => ?_) (fun hb1 h5 => x1.goE hi1 hb1 [some 0] ⟨rfl, ⟨(eqInt hw1), ⟨rfl, rfl, rfl, rfl⟩, trivial⟩, ⟨⟨rfl, rfl, ⟨rfl, rfl, rfl, rfl, rfl, rfl, rfl, rfl, rfl, rfl, rfl, rfl, rfl, rfl, rfl, rfl, rfl, rfl, rfl, rfl, rfl, rfl, rfl, rfl, rfl, rfl, rfl, rfl, rfl, rfl, rfl, rfl, trivial⟩⟩, trivial⟩, trivial⟩)
        refine seqE ?_
        have hg := donE hg (x1.outD hi1 hb1)
        exact leafE hown hg
    · have hg := finE hg (x1.outS hi1 hb1)
      refine seqE ?_
      exact leafE hown hg
  have hg := finE hg (x1.fin hi1)
  refine seqE ?_
  exact leafE hown hg
theorem c_impl_Whole (p0 : World) (hs : World.bd 1048576 p0) : FnOk prog 14 [.agg ((World.cells false) p0)] ⟨.one (.v (.bool (impl_Whole p0))), [], [], false⟩ :=
  FnOk.fits ⟨_, func14, by kernel_rfl, by kernel_rfl⟩ (fun hf => cr_impl_Whole p0 (rg_World hf.1) hs)
def laws_eqPolS_b1 (r0 : (Pol → Pol → Bool)) (p1 : (List Pol)) (i1 : Nat) (s1 : Unit) (a1 : Pol) : Step (Unit) Bool :=
  (bif (!(r0 a1 (p1[i1]?.getD default))) then (.done false) else (.next ()))
def laws_eqPolS (r0 : Pol → Pol → Bool) (p0 : (List Pol)) (p1 : (List Pol)) : Bool :=
  (bif ((((p0).length : Nat) : Int) != (((p1).length : Nat) : Int)) then false else (Fin.get (fun s1 => true) (loopL (laws_eqPolS_b1 r0 p1) 0 () p0)))
theorem c_laws_eqPolS (r0 : Pol → Pol → Bool) (p0 : (List Pol)) (p1 : (List Pol)) (m0 : Nat) (hrec0 : ∀ (z0 : Pol) (z1 : Pol), Pol.dep z0 < m0 → FnOk prog 88 [.agg (Pol.opn false z0), .agg (Pol.opn false z1)] ⟨.one (.v (.bool (r0 z0 z1))), [], [], false⟩) (hm0 : ∀ x ∈ p0, Pol.dep x < m0) : FnOk prog 121 [.one (.s false 5 (List.map (Pol.cells false) p0)), .one (.s false 5 (List.map (Pol.cells false) p1))] ⟨.one (.v (.bool (laws_eqPolS r0 p0 p1))), [], [], false⟩ := by
  refine FnOk.intro (E := env) envOk wide func121 rfl (by kernel_rfl) rfl rfl ?_
  have hg := laws_eqPolS.eq_1 r0 p0 p1
  have hown : ∀ g : Bool, AV.Own (AV.one (.v (.bool g))) := fun g => .v _
  refine seqE ?_
  refine seqE ?_
  refine seqE ?_
  refine lenM fun hN1 => ?_
  refine lenM fun hN2 => ?_
  refine brW hg (fun hg h3 => ?_) (fun hg h3 => ?_)
  · refine seqE ?_
    exact leafE hown hg
  · refine seqE ?_
    refine seqE ?_
    refine loopLE hg [0, 1] (fun x1 => [(5, .one (.v (.int .i64 ((x1.i : Nat) : Int))))]) (fun x1 => []) [] ?_ (fun x1 => ?_)
    · exact ⟨rfl, ⟨rfl, rfl, rfl, trivial⟩, trivial, trivial⟩
    refine seqE ?_
    refine seqE ?_
    refine lenM fun hN4 => ?_
    refine tstL (fun hi1 => ?_) (fun hi1 => ?_)
    · have hb1 := (x1.bdy hi1).trans (laws_eqPolS_b1.eq_1 ..)
      have hw1 := wrap_succ hi1 (by first | assumption | omega)
      refine seqE ?_
      refine seqE ?_
      refine .inl ⟨by kernel_rfl, ?_⟩
      refine idxAtR (Pol.cells_eq false) hi1 ?_
      refine idxOfR (Pol.cells_eq false) (l := p1) (by (first | omega | (simp (disch := omega) only [wrap_small, mid_eq, List.length_map]; omega) | (simp; done) | (simp; omega) | (simp at *; omega) | (simp at *; done) | (simp_all; done) | (simp_all; omega))) (fun hq5 => ?_)
      refine ⟨_, _, hrec0 (p0[x1.i]'hi1) (p1[x1.i]?.getD default) (by first | exact hm0 _ (List.getElem_mem _) | exact hm0 _ (List.mem_of_getElem? (by assumption)) | exact Nat.lt_of_lt_of_le (Pol.dep_lt (List.getElem_mem _)) (Nat.le_of_lt_succ hd0) | exact Nat.lt_of_lt_of_le (Pol.dep_lt (List.mem_of_getElem? (by assumption))) (Nat.le_of_lt_succ hd0)), (FzAs.same _), ?_⟩
      refine brE hb1 (fun hb1 h6 => ?_) (fun hb1 h6 => x1.goE hi1 hb1 [] ⟨rfl, ⟨(eqInt hw1), rfl, rfl, trivial⟩, trivial, trivial⟩)
      refine seqE ?_
      have hg := donE hg (x1.outD hi1 hb1)
      exact leafE hown hg
    have hg := finE hg (x1.fin hi1)
    refine seqE ?_
    exact leafE hown hg
def laws_eqPolR : Nat → Pol → Pol → Bool
  | 0, _, _ => default
  | n + 1, p0, p1 => (bif (p0.Kind != p1.Kind) then false else (bif (p0.N != p1.N) then false else (bif (!decide (p0.Key = p1.Key)) then false else (bif (!decide (p0.Text = p1.Text)) then false else (bif (!(laws_eqPolS (laws_eqPolR n) p0.L p1.L)) then false else true)))))
theorem cR_laws_eqPol : ∀ (n : Nat) (p0 : Pol) (p1 : Pol), Pol.dep p0 < n → FnOk prog 88 [.agg (Pol.opn false p0), .agg (Pol.opn false p1)] ⟨.one (.v (.bool (laws_eqPolR n p0 p1))), [], [], false⟩ := by
  intro n
  induction n with
  | zero => intro p0 p1 hd0; omega
  | succ n ih =>
    intro p0 p1 hd0
    refine FnOk.intro (E := env) envOk wide func88 rfl (by kernel_rfl) rfl rfl ?_
    have hg : laws_eqPolR (n + 1) p0 p1 = _ := laws_eqPolR.eq_2 ..
    have hown : ∀ g : Bool, AV.Own (AV.one (.v (.bool g))) := fun g => .v _
    refine seqE ?_
    refine litE (m := 0) rfl ?_
    refine litE (m := 1) rfl ?_
    refine seqE ?_
    refine seqE ?_
    refine brW hg (fun hg h1 => ?_) (fun hg h1 => ?_)
    · refine seqE ?_
      exact leafE hown hg
    · refine seqE ?_
      refine seqE ?_
      refine brW hg (fun hg h2 => ?_) (fun hg h2 => ?_)
      · refine seqE ?_
        exact leafE hown hg
      · refine seqE ?_
        refine seqE ?_
        refine brE hg (fun hg h3 => ?_) (fun hg h3 => ?_)
        · refine seqE ?_
          exact leafE hown hg
        · refine seqE ?_
          refine seqE ?_
          refine brE hg (fun hg h4 => ?_) (fun hg h4 => ?_)
          · refine seqE ?_
            exact leafE hown hg
          · refine seqE ?_
            refine seqE ?_
            refine .inl (⟨_, _, c_laws_eqPolS (laws_eqPolR n) p0.L p1.L n ih (by first | exact hm0 | exact fun x hx => Nat.lt_of_lt_of_le (Pol.dep_lt hx) (Nat.le_of_lt_succ hd0)), (FzAs.same _), ?_⟩)
            refine litE (m := 3) rfl ?_
            refine brE hg (fun hg h5 => ?_) (fun hg h5 => ?_)
            · refine seqE ?_
              exact leafE hown hg
            · refine seqE ?_
              exact leafE hown hg
def laws_eqPol (p0 : Pol) (p1 : Pol) : Bool := laws_eqPolR (Pol.dep p0 + 1) p0 p1
theorem c_laws_eqPol (p0 : Pol) (p1 : Pol) : FnOk prog 88 [.agg (Pol.opn false p0), .agg (Pol.opn false p1)] ⟨.one (.v (.bool (laws_eqPol p0 p1))), [], [], false⟩ := cR_laws_eqPol _ p0 p1 (Nat.lt_succ_self _)
theorem rfR_laws_eqPol : ∀ (n : Nat) (x : Pol), Pol.dep x < n → laws_eqPolR n x x = true := by
  intro n
  induction n with
  | zero => intro x h; omega
  | succ n ih =>
    intro x h
    have e : laws_eqPolS (laws_eqPolR n) x.L x.L = true := eqS_okM (b := laws_eqPolS_b1 (laws_eqPolR n)) x.L (fun a ha => ih a (Nat.lt_of_lt_of_le (Pol.dep_lt ha) (Nat.le_of_lt_succ h))) (fun _ _ _ _ => rfl) (fun _ _ => rfl)
    simp [laws_eqPolR, e]
theorem rf_laws_eqPol (x : Pol) : laws_eqPol x x = true := rfR_laws_eqPol _ x (Nat.lt_succ_self _)
def laws_eqConf (p0 : Conf) (p1 : Conf) : Bool :=
  (bif (p0.Stripes != p1.Stripes) then false else (bif (p0.Wait != p1.Wait) then false else (bif (p0.Budget != p1.Budget) then false else (bif (p0.Cache != p1.Cache) then false else (bif (p0.Queue != p1.Queue) then false else (bif (p0.Rate != p1.Rate) then false else (bif (p0.Burst != p1.Burst) then false else (bif (!(laws_eqPol p0.Rule p1.Rule)) then false else true))))))))
theorem c_laws_eqConf (p0 : Conf) (p1 : Conf) : FnOk prog 43 [.agg ((Conf.cells false) p0), .agg ((Conf.cells false) p1)] ⟨.one (.v (.bool (laws_eqConf p0 p1))), [], [], false⟩ := by
  refine FnOk.intro (E := env) envOk wide func43 rfl (by kernel_rfl) rfl rfl ?_
  have hg := laws_eqConf.eq_1 p0 p1
  have hown : ∀ g : Bool, AV.Own (AV.one (.v (.bool g))) := fun g => .v _
  refine seqE ?_
  refine litE (m := 0) rfl ?_
  refine litE (m := 1) rfl ?_
  refine seqE ?_
  refine seqE ?_
  refine brW hg (fun hg h1 => ?_) (fun hg h1 => ?_)
  · refine seqE ?_
    exact leafE hown hg
  · refine seqE ?_
    refine seqE ?_
    refine brW hg (fun hg h2 => ?_) (fun hg h2 => ?_)
    · refine seqE ?_
      exact leafE hown hg
    · refine seqE ?_
      refine seqE ?_
      refine brW hg (fun hg h3 => ?_) (fun hg h3 => ?_)
      · refine seqE ?_
        exact leafE hown hg
      · refine seqE ?_
        refine seqE ?_
        refine brW hg (fun hg h4 => ?_) (fun hg h4 => ?_)
        · refine seqE ?_
          exact leafE hown hg
        · refine seqE ?_
          refine seqE ?_
          refine brW hg (fun hg h5 => ?_) (fun hg h5 => ?_)
          · refine seqE ?_
            exact leafE hown hg
          · refine seqE ?_
            refine seqE ?_
            refine brW hg (fun hg h6 => ?_) (fun hg h6 => ?_)
            · refine seqE ?_
              exact leafE hown hg
            · refine seqE ?_
              refine seqE ?_
              refine brW hg (fun hg h7 => ?_) (fun hg h7 => ?_)
              · refine seqE ?_
                exact leafE hown hg
              · refine seqE ?_
                refine seqE ?_
                refine .inl (⟨_, _, c_laws_eqPol p0.Rule p1.Rule, (FzAs.same _), ?_⟩)
                refine litE (m := 3) rfl ?_
                refine brE hg (fun hg h8 => ?_) (fun hg h8 => ?_)
                · refine seqE ?_
                  exact leafE hown hg
                · refine seqE ?_
                  exact leafE hown hg
theorem rf_laws_eqConf (x : Conf) : laws_eqConf x x = true := by
  simp [laws_eqConf, rf_laws_eqPol]
def laws_eqAttr (p0 : Attr) (p1 : Attr) : Bool :=
  (bif (!decide (p0.Key = p1.Key)) then false else (bif (!(p0.Num == p1.Num)) then false else (bif (p0.N != p1.N) then false else (bif (!decide (p0.Text = p1.Text)) then false else true))))
theorem c_laws_eqAttr (p0 : Attr) (p1 : Attr) : FnOk prog 138 [.agg (Attr.cells p0), .agg (Attr.cells p1)] ⟨.one (.v (.bool (laws_eqAttr p0 p1))), [], [], false⟩ := by
  refine FnOk.intro (E := env) envOk wide func138 rfl (by kernel_rfl) rfl rfl ?_
  have hg := laws_eqAttr.eq_1 p0 p1
  have hown : ∀ g : Bool, AV.Own (AV.one (.v (.bool g))) := fun g => .v _
  refine seqE ?_
  refine litE (m := 0) rfl ?_
  refine litE (m := 1) rfl ?_
  refine seqE ?_
  refine seqE ?_
  refine brE hg (fun hg h1 => ?_) (fun hg h1 => ?_)
  · refine seqE ?_
    exact leafE hown hg
  · refine seqE ?_
    refine seqE ?_
    refine brE hg (fun hg h2 => ?_) (fun hg h2 => ?_)
    · refine seqE ?_
      exact leafE hown hg
    · refine seqE ?_
      refine seqE ?_
      refine brW hg (fun hg h3 => ?_) (fun hg h3 => ?_)
      · refine seqE ?_
        exact leafE hown hg
      · refine seqE ?_
        refine seqE ?_
        refine brE hg (fun hg h4 => ?_) (fun hg h4 => ?_)
        · refine seqE ?_
          exact leafE hown hg
        · refine seqE ?_
          exact leafE hown hg
theorem rf_laws_eqAttr (x : Attr) : laws_eqAttr x x = true := by
  simp [laws_eqAttr]
def laws_eqAttrS_b1 (p1 : (List Attr)) (i1 : Nat) (s1 : Unit) (a1 : Attr) : Step (Unit) Bool :=
  (bif (!(laws_eqAttr a1 (p1[i1]?.getD default))) then (.done false) else (.next ()))
def laws_eqAttrS (p0 : (List Attr)) (p1 : (List Attr)) : Bool :=
  (bif ((((p0).length : Nat) : Int) != (((p1).length : Nat) : Int)) then false else (Fin.get (fun s1 => true) (loopL (laws_eqAttrS_b1 p1) 0 () p0)))
theorem c_laws_eqAttrS (p0 : (List Attr)) (p1 : (List Attr)) : FnOk prog 131 [.one (.s false 4 (List.map Attr.cells p0)), .one (.s false 4 (List.map Attr.cells p1))] ⟨.one (.v (.bool (laws_eqAttrS p0 p1))), [], [], false⟩ := by
  refine FnOk.intro (E := env) envOk wide func131 rfl (by kernel_rfl) rfl rfl ?_
  have hg := laws_eqAttrS.eq_1 p0 p1
  have hown : ∀ g : Bool, AV.Own (AV.one (.v (.bool g))) := fun g => .v _
  refine seqE ?_
  refine seqE ?_
  refine seqE ?_
  refine lenM fun hN1 => ?_
  refine lenM fun hN2 => ?_
  refine brW hg (fun hg h3 => ?_) (fun hg h3 => ?_)
  · refine seqE ?_
    exact leafE hown hg
  · refine seqE ?_
    refine seqE ?_
    refine loopLE hg [0, 1] (fun x1 => [(5, .one (.v (.int .i64 ((x1.i : Nat) : Int))))]) (fun x1 => []) [] ?_ (fun x1 => ?_)
    · exact ⟨rfl, ⟨rfl, rfl, rfl, trivial⟩, trivial, trivial⟩
    refine seqE ?_
    refine seqE ?_
    refine lenM fun hN4 => ?_
    refine tstL (fun hi1 => ?_) (fun hi1 => ?_)
    · have hb1 := (x1.bdy hi1).trans (laws_eqAttrS_b1.eq_1 ..)
      have hw1 := wrap_succ hi1 (by first | assumption | omega)
      refine seqE ?_
      refine seqE ?_
      refine .inl ⟨by kernel_rfl, ?_⟩
      refine idxAt hi1 ?_
      refine idxOf (l := p1) (by (first | omega | (simp (disch := omega) only [wrap_small, mid_eq, List.length_map]; omega) | (simp; done) | (simp; omega) | (simp at *; omega) | (simp at *; done) | (simp_all; done) | (simp_all; omega))) (fun hq5 => ?_)
      refine ⟨_, _, c_laws_eqAttr (p0[x1.i]'hi1) (p1[x1.i]?.getD default), (FzAs.same _), ?_⟩
      refine brE hb1 (fun hb1 h6 => ?_) (fun hb1 h6 => x1.goE hi1 hb1 [] ⟨rfl, ⟨(eqInt hw1), rfl, rfl, trivial⟩, trivial, trivial⟩)
      refine seqE ?_
      have hg := donE hg (x1.outD hi1 hb1)
      exact leafE hown hg
    have hg := finE hg (x1.fin hi1)
    refine seqE ?_
    exact leafE hown hg
theorem rf_laws_eqAttrS (x : (List Attr)) : laws_eqAttrS x x = true := eqS_ok (b := laws_eqAttrS_b1) rf_laws_eqAttr (fun _ _ _ _ => rfl) (fun _ _ => rfl) x
def laws_eqSpan (p0 : Span) (p1 : Span) : Bool :=
  (bif (p0.Trace != p1.Trace) then false else (bif (p0.Id != p1.Id) then false else (bif (p0.Start != p1.Start) then false else (bif (p0.End != p1.End) then false else (bif (!(p0.Err == p1.Err)) then false else (bif (!(laws_eqAttrS p0.Attrs p1.Attrs)) then false else true))))))
theorem c_laws_eqSpan (p0 : Span) (p1 : Span) : FnOk prog 122 [.agg ((Span.cells false) p0), .agg ((Span.cells false) p1)] ⟨.one (.v (.bool (laws_eqSpan p0 p1))), [], [], false⟩ := by
  refine FnOk.intro (E := env) envOk wide func122 rfl (by kernel_rfl) rfl rfl ?_
  have hg := laws_eqSpan.eq_1 p0 p1
  have hown : ∀ g : Bool, AV.Own (AV.one (.v (.bool g))) := fun g => .v _
  refine seqE ?_
  refine litE (m := 0) rfl ?_
  refine litE (m := 1) rfl ?_
  refine seqE ?_
  refine seqE ?_
  refine brW hg (fun hg h1 => ?_) (fun hg h1 => ?_)
  · refine seqE ?_
    exact leafE hown hg
  · refine seqE ?_
    refine seqE ?_
    refine brW hg (fun hg h2 => ?_) (fun hg h2 => ?_)
    · refine seqE ?_
      exact leafE hown hg
    · refine seqE ?_
      refine seqE ?_
      refine brW hg (fun hg h3 => ?_) (fun hg h3 => ?_)
      · refine seqE ?_
        exact leafE hown hg
      · refine seqE ?_
        refine seqE ?_
        refine brW hg (fun hg h4 => ?_) (fun hg h4 => ?_)
        · refine seqE ?_
          exact leafE hown hg
        · refine seqE ?_
          refine seqE ?_
          refine brE hg (fun hg h5 => ?_) (fun hg h5 => ?_)
          · refine seqE ?_
            exact leafE hown hg
          · refine seqE ?_
            refine seqE ?_
            refine .inl (⟨_, _, c_laws_eqAttrS p0.Attrs p1.Attrs, (FzAs.same _), ?_⟩)
            refine litE (m := 3) rfl ?_
            refine brE hg (fun hg h6 => ?_) (fun hg h6 => ?_)
            · refine seqE ?_
              exact leafE hown hg
            · refine seqE ?_
              exact leafE hown hg
theorem rf_laws_eqSpan (x : Span) : laws_eqSpan x x = true := by
  simp [laws_eqSpan, rf_laws_eqAttrS]
def laws_eqSpanS_b1 (p1 : (List Span)) (i1 : Nat) (s1 : Unit) (a1 : Span) : Step (Unit) Bool :=
  (bif (!(laws_eqSpan a1 (p1[i1]?.getD default))) then (.done false) else (.next ()))
def laws_eqSpanS (p0 : (List Span)) (p1 : (List Span)) : Bool :=
  (bif ((((p0).length : Nat) : Int) != (((p1).length : Nat) : Int)) then false else (Fin.get (fun s1 => true) (loopL (laws_eqSpanS_b1 p1) 0 () p0)))
theorem c_laws_eqSpanS (p0 : (List Span)) (p1 : (List Span)) : FnOk prog 123 [.one (.s false 6 (List.map (Span.cells false) p0)), .one (.s false 6 (List.map (Span.cells false) p1))] ⟨.one (.v (.bool (laws_eqSpanS p0 p1))), [], [], false⟩ := by
  refine FnOk.intro (E := env) envOk wide func123 rfl (by kernel_rfl) rfl rfl ?_
  have hg := laws_eqSpanS.eq_1 p0 p1
  have hown : ∀ g : Bool, AV.Own (AV.one (.v (.bool g))) := fun g => .v _
  refine seqE ?_
  refine seqE ?_
  refine seqE ?_
  refine lenM fun hN1 => ?_
  refine lenM fun hN2 => ?_
  refine brW hg (fun hg h3 => ?_) (fun hg h3 => ?_)
  · refine seqE ?_
    exact leafE hown hg
  · refine seqE ?_
    refine seqE ?_
    refine loopLE hg [0, 1] (fun x1 => [(5, .one (.v (.int .i64 ((x1.i : Nat) : Int))))]) (fun x1 => []) [] ?_ (fun x1 => ?_)
    · exact ⟨rfl, ⟨rfl, rfl, rfl, trivial⟩, trivial, trivial⟩
    refine seqE ?_
    refine seqE ?_
    refine lenM fun hN4 => ?_
    refine tstL (fun hi1 => ?_) (fun hi1 => ?_)
    · have hb1 := (x1.bdy hi1).trans (laws_eqSpanS_b1.eq_1 ..)
      have hw1 := wrap_succ hi1 (by first | assumption | omega)
      refine seqE ?_
      refine seqE ?_
      refine .inl ⟨by kernel_rfl, ?_⟩
      refine idxAt hi1 ?_
      refine idxOf (l := p1) (by (first | omega | (simp (disch := omega) only [wrap_small, mid_eq, List.length_map]; omega) | (simp; done) | (simp; omega) | (simp at *; omega) | (simp at *; done) | (simp_all; done) | (simp_all; omega))) (fun hq5 => ?_)
      refine ⟨_, _, c_laws_eqSpan (p0[x1.i]'hi1) (p1[x1.i]?.getD default), (FzAs.same _), ?_⟩
      refine brE hb1 (fun hb1 h6 => ?_) (fun hb1 h6 => x1.goE hi1 hb1 [] ⟨rfl, ⟨(eqInt hw1), rfl, rfl, trivial⟩, trivial, trivial⟩)
      refine seqE ?_
      have hg := donE hg (x1.outD hi1 hb1)
      exact leafE hown hg
    have hg := finE hg (x1.fin hi1)
    refine seqE ?_
    exact leafE hown hg
theorem rf_laws_eqSpanS (x : (List Span)) : laws_eqSpanS x x = true := eqS_ok (b := laws_eqSpanS_b1) rf_laws_eqSpan (fun _ _ _ _ => rfl) (fun _ _ => rfl) x
def laws_eqTrail (p0 : Trail) (p1 : Trail) : Bool :=
  (bif (p0.Id != p1.Id) then false else (bif (p0.Stamp != p1.Stamp) then false else (bif (p0.First != p1.First) then false else (bif (!(laws_eqSpanS p0.Spans p1.Spans)) then false else true))))
theorem c_laws_eqTrail (p0 : Trail) (p1 : Trail) : FnOk prog 96 [.agg ((Trail.cells false) p0), .agg ((Trail.cells false) p1)] ⟨.one (.v (.bool (laws_eqTrail p0 p1))), [], [], false⟩ := by
  refine FnOk.intro (E := env) envOk wide func96 rfl (by kernel_rfl) rfl rfl ?_
  have hg := laws_eqTrail.eq_1 p0 p1
  have hown : ∀ g : Bool, AV.Own (AV.one (.v (.bool g))) := fun g => .v _
  refine seqE ?_
  refine litE (m := 0) rfl ?_
  refine litE (m := 1) rfl ?_
  refine seqE ?_
  refine seqE ?_
  refine brW hg (fun hg h1 => ?_) (fun hg h1 => ?_)
  · refine seqE ?_
    exact leafE hown hg
  · refine seqE ?_
    refine seqE ?_
    refine brW hg (fun hg h2 => ?_) (fun hg h2 => ?_)
    · refine seqE ?_
      exact leafE hown hg
    · refine seqE ?_
      refine seqE ?_
      refine brW hg (fun hg h3 => ?_) (fun hg h3 => ?_)
      · refine seqE ?_
        exact leafE hown hg
      · refine seqE ?_
        refine seqE ?_
        refine .inl (⟨_, _, c_laws_eqSpanS p0.Spans p1.Spans, (FzAs.same _), ?_⟩)
        refine litE (m := 3) rfl ?_
        refine brE hg (fun hg h4 => ?_) (fun hg h4 => ?_)
        · refine seqE ?_
          exact leafE hown hg
        · refine seqE ?_
          exact leafE hown hg
theorem rf_laws_eqTrail (x : Trail) : laws_eqTrail x x = true := by
  simp [laws_eqTrail, rf_laws_eqSpanS]
def laws_eqTrailS_b1 (p1 : (List Trail)) (i1 : Nat) (s1 : Unit) (a1 : Trail) : Step (Unit) Bool :=
  (bif (!(laws_eqTrail a1 (p1[i1]?.getD default))) then (.done false) else (.next ()))
def laws_eqTrailS (p0 : (List Trail)) (p1 : (List Trail)) : Bool :=
  (bif ((((p0).length : Nat) : Int) != (((p1).length : Nat) : Int)) then false else (Fin.get (fun s1 => true) (loopL (laws_eqTrailS_b1 p1) 0 () p0)))
theorem c_laws_eqTrailS (p0 : (List Trail)) (p1 : (List Trail)) : FnOk prog 52 [.one (.s false 4 (List.map (Trail.cells false) p0)), .one (.s false 4 (List.map (Trail.cells false) p1))] ⟨.one (.v (.bool (laws_eqTrailS p0 p1))), [], [], false⟩ := by
  refine FnOk.intro (E := env) envOk wide func52 rfl (by kernel_rfl) rfl rfl ?_
  have hg := laws_eqTrailS.eq_1 p0 p1
  have hown : ∀ g : Bool, AV.Own (AV.one (.v (.bool g))) := fun g => .v _
  refine seqE ?_
  refine seqE ?_
  refine seqE ?_
  refine lenM fun hN1 => ?_
  refine lenM fun hN2 => ?_
  refine brW hg (fun hg h3 => ?_) (fun hg h3 => ?_)
  · refine seqE ?_
    exact leafE hown hg
  · refine seqE ?_
    refine seqE ?_
    refine loopLE hg [0, 1] (fun x1 => [(5, .one (.v (.int .i64 ((x1.i : Nat) : Int))))]) (fun x1 => []) [] ?_ (fun x1 => ?_)
    · exact ⟨rfl, ⟨rfl, rfl, rfl, trivial⟩, trivial, trivial⟩
    refine seqE ?_
    refine seqE ?_
    refine lenM fun hN4 => ?_
    refine tstL (fun hi1 => ?_) (fun hi1 => ?_)
    · have hb1 := (x1.bdy hi1).trans (laws_eqTrailS_b1.eq_1 ..)
      have hw1 := wrap_succ hi1 (by first | assumption | omega)
      refine seqE ?_
      refine seqE ?_
      refine .inl ⟨by kernel_rfl, ?_⟩
      refine idxAt hi1 ?_
      refine idxOf (l := p1) (by (first | omega | (simp (disch := omega) only [wrap_small, mid_eq, List.length_map]; omega) | (simp; done) | (simp; omega) | (simp at *; omega) | (simp at *; done) | (simp_all; done) | (simp_all; omega))) (fun hq5 => ?_)
      refine ⟨_, _, c_laws_eqTrail (p0[x1.i]'hi1) (p1[x1.i]?.getD default), (FzAs.same _), ?_⟩
      refine brE hb1 (fun hb1 h6 => ?_) (fun hb1 h6 => x1.goE hi1 hb1 [] ⟨rfl, ⟨(eqInt hw1), rfl, rfl, trivial⟩, trivial, trivial⟩)
      refine seqE ?_
      have hg := donE hg (x1.outD hi1 hb1)
      exact leafE hown hg
    have hg := finE hg (x1.fin hi1)
    refine seqE ?_
    exact leafE hown hg
theorem rf_laws_eqTrailS (x : (List Trail)) : laws_eqTrailS x x = true := eqS_ok (b := laws_eqTrailS_b1) rf_laws_eqTrail (fun _ _ _ _ => rfl) (fun _ _ => rfl) x
def laws_eqStripe (p0 : Stripe) (p1 : Stripe) : Bool :=
  (bif (p0.Held != p1.Held) then false else (bif (!(laws_eqTrailS p0.L p1.L)) then false else true))
theorem c_laws_eqStripe (p0 : Stripe) (p1 : Stripe) : FnOk prog 89 [.agg ((Stripe.cells false) p0), .agg ((Stripe.cells false) p1)] ⟨.one (.v (.bool (laws_eqStripe p0 p1))), [], [], false⟩ := by
  refine FnOk.intro (E := env) envOk wide func89 rfl (by kernel_rfl) rfl rfl ?_
  have hg := laws_eqStripe.eq_1 p0 p1
  have hown : ∀ g : Bool, AV.Own (AV.one (.v (.bool g))) := fun g => .v _
  refine seqE ?_
  refine litE (m := 0) rfl ?_
  refine litE (m := 1) rfl ?_
  refine seqE ?_
  refine seqE ?_
  refine brW hg (fun hg h1 => ?_) (fun hg h1 => ?_)
  · refine seqE ?_
    exact leafE hown hg
  · refine seqE ?_
    refine seqE ?_
    refine .inl (⟨_, _, c_laws_eqTrailS p0.L p1.L, (FzAs.same _), ?_⟩)
    refine litE (m := 3) rfl ?_
    refine brE hg (fun hg h2 => ?_) (fun hg h2 => ?_)
    · refine seqE ?_
      exact leafE hown hg
    · refine seqE ?_
      exact leafE hown hg
theorem rf_laws_eqStripe (x : Stripe) : laws_eqStripe x x = true := by
  simp [laws_eqStripe, rf_laws_eqTrailS]
def laws_eqStripeS_b1 (p1 : (List Stripe)) (i1 : Nat) (s1 : Unit) (a1 : Stripe) : Step (Unit) Bool :=
  (bif (!(laws_eqStripe a1 (p1[i1]?.getD default))) then (.done false) else (.next ()))
def laws_eqStripeS (p0 : (List Stripe)) (p1 : (List Stripe)) : Bool :=
  (bif ((((p0).length : Nat) : Int) != (((p1).length : Nat) : Int)) then false else (Fin.get (fun s1 => true) (loopL (laws_eqStripeS_b1 p1) 0 () p0)))
theorem c_laws_eqStripeS (p0 : (List Stripe)) (p1 : (List Stripe)) : FnOk prog 44 [.one (.s false 2 (List.map (Stripe.cells false) p0)), .one (.s false 2 (List.map (Stripe.cells false) p1))] ⟨.one (.v (.bool (laws_eqStripeS p0 p1))), [], [], false⟩ := by
  refine FnOk.intro (E := env) envOk wide func44 rfl (by kernel_rfl) rfl rfl ?_
  have hg := laws_eqStripeS.eq_1 p0 p1
  have hown : ∀ g : Bool, AV.Own (AV.one (.v (.bool g))) := fun g => .v _
  refine seqE ?_
  refine seqE ?_
  refine seqE ?_
  refine lenM fun hN1 => ?_
  refine lenM fun hN2 => ?_
  refine brW hg (fun hg h3 => ?_) (fun hg h3 => ?_)
  · refine seqE ?_
    exact leafE hown hg
  · refine seqE ?_
    refine seqE ?_
    refine loopLE hg [0, 1] (fun x1 => [(5, .one (.v (.int .i64 ((x1.i : Nat) : Int))))]) (fun x1 => []) [] ?_ (fun x1 => ?_)
    · exact ⟨rfl, ⟨rfl, rfl, rfl, trivial⟩, trivial, trivial⟩
    refine seqE ?_
    refine seqE ?_
    refine lenM fun hN4 => ?_
    refine tstL (fun hi1 => ?_) (fun hi1 => ?_)
    · have hb1 := (x1.bdy hi1).trans (laws_eqStripeS_b1.eq_1 ..)
      have hw1 := wrap_succ hi1 (by first | assumption | omega)
      refine seqE ?_
      refine seqE ?_
      refine .inl ⟨by kernel_rfl, ?_⟩
      refine idxAt hi1 ?_
      refine idxOf (l := p1) (by (first | omega | (simp (disch := omega) only [wrap_small, mid_eq, List.length_map]; omega) | (simp; done) | (simp; omega) | (simp at *; omega) | (simp at *; done) | (simp_all; done) | (simp_all; omega))) (fun hq5 => ?_)
      refine ⟨_, _, c_laws_eqStripe (p0[x1.i]'hi1) (p1[x1.i]?.getD default), (FzAs.same _), ?_⟩
      refine brE hb1 (fun hb1 h6 => ?_) (fun hb1 h6 => x1.goE hi1 hb1 [] ⟨rfl, ⟨(eqInt hw1), rfl, rfl, trivial⟩, trivial, trivial⟩)
      refine seqE ?_
      have hg := donE hg (x1.outD hi1 hb1)
      exact leafE hown hg
    have hg := finE hg (x1.fin hi1)
    refine seqE ?_
    exact leafE hown hg
theorem rf_laws_eqStripeS (x : (List Stripe)) : laws_eqStripeS x x = true := eqS_ok (b := laws_eqStripeS_b1) rf_laws_eqStripe (fun _ _ _ _ => rfl) (fun _ _ => rfl) x
def laws_eqBucket (p0 : Bucket) (p1 : Bucket) : Bool :=
  (bif (p0.Rate != p1.Rate) then false else (bif (p0.Burst != p1.Burst) then false else (bif (p0.Tokens != p1.Tokens) then false else (bif (p0.At != p1.At) then false else true))))
theorem c_laws_eqBucket (p0 : Bucket) (p1 : Bucket) : FnOk prog 45 [.agg (Bucket.cells p0), .agg (Bucket.cells p1)] ⟨.one (.v (.bool (laws_eqBucket p0 p1))), [], [], false⟩ := by
  refine FnOk.intro (E := env) envOk wide func45 rfl (by kernel_rfl) rfl rfl ?_
  have hg := laws_eqBucket.eq_1 p0 p1
  have hown : ∀ g : Bool, AV.Own (AV.one (.v (.bool g))) := fun g => .v _
  refine seqE ?_
  refine litE (m := 0) rfl ?_
  refine litE (m := 1) rfl ?_
  refine seqE ?_
  refine seqE ?_
  refine brW hg (fun hg h1 => ?_) (fun hg h1 => ?_)
  · refine seqE ?_
    exact leafE hown hg
  · refine seqE ?_
    refine seqE ?_
    refine brW hg (fun hg h2 => ?_) (fun hg h2 => ?_)
    · refine seqE ?_
      exact leafE hown hg
    · refine seqE ?_
      refine seqE ?_
      refine brW hg (fun hg h3 => ?_) (fun hg h3 => ?_)
      · refine seqE ?_
        exact leafE hown hg
      · refine seqE ?_
        refine seqE ?_
        refine brW hg (fun hg h4 => ?_) (fun hg h4 => ?_)
        · refine seqE ?_
          exact leafE hown hg
        · refine seqE ?_
          exact leafE hown hg
theorem rf_laws_eqBucket (x : Bucket) : laws_eqBucket x x = true := by
  simp [laws_eqBucket]
def laws_eqVerdict (p0 : Verdict) (p1 : Verdict) : Bool :=
  (bif (p0.Trace != p1.Trace) then false else (bif (p0.Stamp != p1.Stamp) then false else (bif (!(p0.Keep == p1.Keep)) then false else true)))
theorem c_laws_eqVerdict (p0 : Verdict) (p1 : Verdict) : FnOk prog 90 [.agg (Verdict.cells p0), .agg (Verdict.cells p1)] ⟨.one (.v (.bool (laws_eqVerdict p0 p1))), [], [], false⟩ := by
  refine FnOk.intro (E := env) envOk wide func90 rfl (by kernel_rfl) rfl rfl ?_
  have hg := laws_eqVerdict.eq_1 p0 p1
  have hown : ∀ g : Bool, AV.Own (AV.one (.v (.bool g))) := fun g => .v _
  refine seqE ?_
  refine litE (m := 0) rfl ?_
  refine litE (m := 1) rfl ?_
  refine seqE ?_
  refine seqE ?_
  refine brW hg (fun hg h1 => ?_) (fun hg h1 => ?_)
  · refine seqE ?_
    exact leafE hown hg
  · refine seqE ?_
    refine seqE ?_
    refine brW hg (fun hg h2 => ?_) (fun hg h2 => ?_)
    · refine seqE ?_
      exact leafE hown hg
    · refine seqE ?_
      refine seqE ?_
      refine brE hg (fun hg h3 => ?_) (fun hg h3 => ?_)
      · refine seqE ?_
        exact leafE hown hg
      · refine seqE ?_
        exact leafE hown hg
theorem rf_laws_eqVerdict (x : Verdict) : laws_eqVerdict x x = true := by
  simp [laws_eqVerdict]
def laws_eqVerdictS_b1 (p1 : (List Verdict)) (i1 : Nat) (s1 : Unit) (a1 : Verdict) : Step (Unit) Bool :=
  (bif (!(laws_eqVerdict a1 (p1[i1]?.getD default))) then (.done false) else (.next ()))
def laws_eqVerdictS (p0 : (List Verdict)) (p1 : (List Verdict)) : Bool :=
  (bif ((((p0).length : Nat) : Int) != (((p1).length : Nat) : Int)) then false else (Fin.get (fun s1 => true) (loopL (laws_eqVerdictS_b1 p1) 0 () p0)))
theorem c_laws_eqVerdictS (p0 : (List Verdict)) (p1 : (List Verdict)) : FnOk prog 46 [.one (.s false 3 (List.map Verdict.cells p0)), .one (.s false 3 (List.map Verdict.cells p1))] ⟨.one (.v (.bool (laws_eqVerdictS p0 p1))), [], [], false⟩ := by
  refine FnOk.intro (E := env) envOk wide func46 rfl (by kernel_rfl) rfl rfl ?_
  have hg := laws_eqVerdictS.eq_1 p0 p1
  have hown : ∀ g : Bool, AV.Own (AV.one (.v (.bool g))) := fun g => .v _
  refine seqE ?_
  refine seqE ?_
  refine seqE ?_
  refine lenM fun hN1 => ?_
  refine lenM fun hN2 => ?_
  refine brW hg (fun hg h3 => ?_) (fun hg h3 => ?_)
  · refine seqE ?_
    exact leafE hown hg
  · refine seqE ?_
    refine seqE ?_
    refine loopLE hg [0, 1] (fun x1 => [(5, .one (.v (.int .i64 ((x1.i : Nat) : Int))))]) (fun x1 => []) [] ?_ (fun x1 => ?_)
    · exact ⟨rfl, ⟨rfl, rfl, rfl, trivial⟩, trivial, trivial⟩
    refine seqE ?_
    refine seqE ?_
    refine lenM fun hN4 => ?_
    refine tstL (fun hi1 => ?_) (fun hi1 => ?_)
    · have hb1 := (x1.bdy hi1).trans (laws_eqVerdictS_b1.eq_1 ..)
      have hw1 := wrap_succ hi1 (by first | assumption | omega)
      refine seqE ?_
      refine seqE ?_
      refine .inl ⟨by kernel_rfl, ?_⟩
      refine idxAt hi1 ?_
      refine idxOf (l := p1) (by (first | omega | (simp (disch := omega) only [wrap_small, mid_eq, List.length_map]; omega) | (simp; done) | (simp; omega) | (simp at *; omega) | (simp at *; done) | (simp_all; done) | (simp_all; omega))) (fun hq5 => ?_)
      refine ⟨_, _, c_laws_eqVerdict (p0[x1.i]'hi1) (p1[x1.i]?.getD default), (FzAs.same _), ?_⟩
      refine brE hb1 (fun hb1 h6 => ?_) (fun hb1 h6 => x1.goE hi1 hb1 [] ⟨rfl, ⟨(eqInt hw1), rfl, rfl, trivial⟩, trivial, trivial⟩)
      refine seqE ?_
      have hg := donE hg (x1.outD hi1 hb1)
      exact leafE hown hg
    have hg := finE hg (x1.fin hi1)
    refine seqE ?_
    exact leafE hown hg
theorem rf_laws_eqVerdictS (x : (List Verdict)) : laws_eqVerdictS x x = true := eqS_ok (b := laws_eqVerdictS_b1) rf_laws_eqVerdict (fun _ _ _ _ => rfl) (fun _ _ => rfl) x
def laws_eqTimer (p0 : Timer) (p1 : Timer) : Bool :=
  (bif (p0.Id != p1.Id) then false else (bif (p0.Trace != p1.Trace) then false else (bif (p0.At != p1.At) then false else true)))
theorem c_laws_eqTimer (p0 : Timer) (p1 : Timer) : FnOk prog 92 [.agg (Timer.cells p0), .agg (Timer.cells p1)] ⟨.one (.v (.bool (laws_eqTimer p0 p1))), [], [], false⟩ := by
  refine FnOk.intro (E := env) envOk wide func92 rfl (by kernel_rfl) rfl rfl ?_
  have hg := laws_eqTimer.eq_1 p0 p1
  have hown : ∀ g : Bool, AV.Own (AV.one (.v (.bool g))) := fun g => .v _
  refine seqE ?_
  refine litE (m := 0) rfl ?_
  refine litE (m := 1) rfl ?_
  refine seqE ?_
  refine seqE ?_
  refine brW hg (fun hg h1 => ?_) (fun hg h1 => ?_)
  · refine seqE ?_
    exact leafE hown hg
  · refine seqE ?_
    refine seqE ?_
    refine brW hg (fun hg h2 => ?_) (fun hg h2 => ?_)
    · refine seqE ?_
      exact leafE hown hg
    · refine seqE ?_
      refine seqE ?_
      refine brW hg (fun hg h3 => ?_) (fun hg h3 => ?_)
      · refine seqE ?_
        exact leafE hown hg
      · refine seqE ?_
        exact leafE hown hg
theorem rf_laws_eqTimer (x : Timer) : laws_eqTimer x x = true := by
  simp [laws_eqTimer]
def laws_eqTimerS_b1 (p1 : (List Timer)) (i1 : Nat) (s1 : Unit) (a1 : Timer) : Step (Unit) Bool :=
  (bif (!(laws_eqTimer a1 (p1[i1]?.getD default))) then (.done false) else (.next ()))
def laws_eqTimerS (p0 : (List Timer)) (p1 : (List Timer)) : Bool :=
  (bif ((((p0).length : Nat) : Int) != (((p1).length : Nat) : Int)) then false else (Fin.get (fun s1 => true) (loopL (laws_eqTimerS_b1 p1) 0 () p0)))
theorem c_laws_eqTimerS (p0 : (List Timer)) (p1 : (List Timer)) : FnOk prog 48 [.one (.s false 3 (List.map Timer.cells p0)), .one (.s false 3 (List.map Timer.cells p1))] ⟨.one (.v (.bool (laws_eqTimerS p0 p1))), [], [], false⟩ := by
  refine FnOk.intro (E := env) envOk wide func48 rfl (by kernel_rfl) rfl rfl ?_
  have hg := laws_eqTimerS.eq_1 p0 p1
  have hown : ∀ g : Bool, AV.Own (AV.one (.v (.bool g))) := fun g => .v _
  refine seqE ?_
  refine seqE ?_
  refine seqE ?_
  refine lenM fun hN1 => ?_
  refine lenM fun hN2 => ?_
  refine brW hg (fun hg h3 => ?_) (fun hg h3 => ?_)
  · refine seqE ?_
    exact leafE hown hg
  · refine seqE ?_
    refine seqE ?_
    refine loopLE hg [0, 1] (fun x1 => [(5, .one (.v (.int .i64 ((x1.i : Nat) : Int))))]) (fun x1 => []) [] ?_ (fun x1 => ?_)
    · exact ⟨rfl, ⟨rfl, rfl, rfl, trivial⟩, trivial, trivial⟩
    refine seqE ?_
    refine seqE ?_
    refine lenM fun hN4 => ?_
    refine tstL (fun hi1 => ?_) (fun hi1 => ?_)
    · have hb1 := (x1.bdy hi1).trans (laws_eqTimerS_b1.eq_1 ..)
      have hw1 := wrap_succ hi1 (by first | assumption | omega)
      refine seqE ?_
      refine seqE ?_
      refine .inl ⟨by kernel_rfl, ?_⟩
      refine idxAt hi1 ?_
      refine idxOf (l := p1) (by (first | omega | (simp (disch := omega) only [wrap_small, mid_eq, List.length_map]; omega) | (simp; done) | (simp; omega) | (simp at *; omega) | (simp at *; done) | (simp_all; done) | (simp_all; omega))) (fun hq5 => ?_)
      refine ⟨_, _, c_laws_eqTimer (p0[x1.i]'hi1) (p1[x1.i]?.getD default), (FzAs.same _), ?_⟩
      refine brE hb1 (fun hb1 h6 => ?_) (fun hb1 h6 => x1.goE hi1 hb1 [] ⟨rfl, ⟨(eqInt hw1), rfl, rfl, trivial⟩, trivial, trivial⟩)
      refine seqE ?_
      have hg := donE hg (x1.outD hi1 hb1)
      exact leafE hown hg
    have hg := finE hg (x1.fin hi1)
    refine seqE ?_
    exact leafE hown hg
theorem rf_laws_eqTimerS (x : (List Timer)) : laws_eqTimerS x x = true := eqS_ok (b := laws_eqTimerS_b1) rf_laws_eqTimer (fun _ _ _ _ => rfl) (fun _ _ => rfl) x
def laws_eqTimerSS_b1 (p1 : (List (List Timer))) (i1 : Nat) (s1 : Unit) (a1 : (List Timer)) : Step (Unit) Bool :=
  (bif (!(laws_eqTimerS a1 (p1[i1]?.getD default))) then (.done false) else (.next ()))
def laws_eqTimerSS (p0 : (List (List Timer))) (p1 : (List (List Timer))) : Bool :=
  (bif ((((p0).length : Nat) : Int) != (((p1).length : Nat) : Int)) then false else (Fin.get (fun s1 => true) (loopL (laws_eqTimerSS_b1 p1) 0 () p0)))
theorem c_laws_eqTimerSS (p0 : (List (List Timer))) (p1 : (List (List Timer))) : FnOk prog 91 [.one (.s false 1 (List.map (cSl false 3 Timer.cells) p0)), .one (.s false 1 (List.map (cSl false 3 Timer.cells) p1))] ⟨.one (.v (.bool (laws_eqTimerSS p0 p1))), [], [], false⟩ := by
  refine FnOk.intro (E := env) envOk wide func91 rfl (by kernel_rfl) rfl rfl ?_
  have hg := laws_eqTimerSS.eq_1 p0 p1
  have hown : ∀ g : Bool, AV.Own (AV.one (.v (.bool g))) := fun g => .v _
  refine seqE ?_
  refine seqE ?_
  refine seqE ?_
  refine lenM fun hN1 => ?_
  refine lenM fun hN2 => ?_
  refine brW hg (fun hg h3 => ?_) (fun hg h3 => ?_)
  · refine seqE ?_
    exact leafE hown hg
  · refine seqE ?_
    refine seqE ?_
    refine loopLE hg [0, 1] (fun x1 => [(5, .one (.v (.int .i64 ((x1.i : Nat) : Int))))]) (fun x1 => []) [] ?_ (fun x1 => ?_)
    · exact ⟨rfl, ⟨rfl, rfl, rfl, trivial⟩, trivial, trivial⟩
    refine seqE ?_
    refine seqE ?_
    refine lenM fun hN4 => ?_
    refine tstL (fun hi1 => ?_) (fun hi1 => ?_)
    · have hb1 := (x1.bdy hi1).trans (laws_eqTimerSS_b1.eq_1 ..)
      have hw1 := wrap_succ hi1 (by first | assumption | omega)
      refine seqE ?_
      refine seqE ?_
      refine .inl ⟨by kernel_rfl, ?_⟩
      refine idxAt hi1 ?_
      refine idxOf (l := p1) (by (first | omega | (simp (disch := omega) only [wrap_small, mid_eq, List.length_map]; omega) | (simp; done) | (simp; omega) | (simp at *; omega) | (simp at *; done) | (simp_all; done) | (simp_all; omega))) (fun hq5 => ?_)
      refine ⟨_, _, c_laws_eqTimerS (p0[x1.i]'hi1) (p1[x1.i]?.getD default), (FzAs.same _), ?_⟩
      refine brE hb1 (fun hb1 h6 => ?_) (fun hb1 h6 => x1.goE hi1 hb1 [] ⟨rfl, ⟨(eqInt hw1), rfl, rfl, trivial⟩, trivial, trivial⟩)
      refine seqE ?_
      have hg := donE hg (x1.outD hi1 hb1)
      exact leafE hown hg
    have hg := finE hg (x1.fin hi1)
    refine seqE ?_
    exact leafE hown hg
theorem rf_laws_eqTimerSS (x : (List (List Timer))) : laws_eqTimerSS x x = true := eqS_ok (b := laws_eqTimerSS_b1) rf_laws_eqTimerS (fun _ _ _ _ => rfl) (fun _ _ => rfl) x
def laws_eqWheel (p0 : Wheel) (p1 : Wheel) : Bool :=
  (bif (p0.Now != p1.Now) then false else (bif (!(laws_eqTimerSS p0.Near p1.Near)) then false else (bif (!(laws_eqTimerSS p0.Far p1.Far)) then false else (bif (!(laws_eqTimerS p0.Rest p1.Rest)) then false else true))))
theorem c_laws_eqWheel (p0 : Wheel) (p1 : Wheel) : FnOk prog 47 [.agg ((Wheel.cells false) p0), .agg ((Wheel.cells false) p1)] ⟨.one (.v (.bool (laws_eqWheel p0 p1))), [], [], false⟩ := by
  refine FnOk.intro (E := env) envOk wide func47 rfl (by kernel_rfl) rfl rfl ?_
  have hg := laws_eqWheel.eq_1 p0 p1
  have hown : ∀ g : Bool, AV.Own (AV.one (.v (.bool g))) := fun g => .v _
  refine seqE ?_
  refine litE (m := 0) rfl ?_
  refine litE (m := 1) rfl ?_
  refine seqE ?_
  refine seqE ?_
  refine brW hg (fun hg h1 => ?_) (fun hg h1 => ?_)
  · refine seqE ?_
    exact leafE hown hg
  · refine seqE ?_
    refine seqE ?_
    refine .inl (⟨_, _, c_laws_eqTimerSS p0.Near p1.Near, (FzAs.same _), ?_⟩)
    refine litE (m := 3) rfl ?_
    refine brE hg (fun hg h2 => ?_) (fun hg h2 => ?_)
    · refine seqE ?_
      exact leafE hown hg
    · refine seqE ?_
      refine seqE ?_
      refine .inl (⟨_, _, c_laws_eqTimerSS p0.Far p1.Far, (FzAs.same _), ?_⟩)
      refine litE (m := 4) rfl ?_
      refine brE hg (fun hg h3 => ?_) (fun hg h3 => ?_)
      · refine seqE ?_
        exact leafE hown hg
      · refine seqE ?_
        refine seqE ?_
        refine .inl (⟨_, _, c_laws_eqTimerS p0.Rest p1.Rest, (FzAs.same _), ?_⟩)
        refine litE (m := 5) rfl ?_
        refine brE hg (fun hg h4 => ?_) (fun hg h4 => ?_)
        · refine seqE ?_
          exact leafE hown hg
        · refine seqE ?_
          exact leafE hown hg
theorem rf_laws_eqWheel (x : Wheel) : laws_eqWheel x x = true := by
  simp [laws_eqWheel, rf_laws_eqTimerS, rf_laws_eqTimerSS]
def laws_eqItem (p0 : Item) (p1 : Item) : Bool :=
  (bif (p0.Stamp != p1.Stamp) then false else (bif (!(laws_eqSpan p0.S p1.S)) then false else true))
theorem c_laws_eqItem (p0 : Item) (p1 : Item) : FnOk prog 93 [.agg ((Item.cells false) p0), .agg ((Item.cells false) p1)] ⟨.one (.v (.bool (laws_eqItem p0 p1))), [], [], false⟩ := by
  refine FnOk.intro (E := env) envOk wide func93 rfl (by kernel_rfl) rfl rfl ?_
  have hg := laws_eqItem.eq_1 p0 p1
  have hown : ∀ g : Bool, AV.Own (AV.one (.v (.bool g))) := fun g => .v _
  refine seqE ?_
  refine litE (m := 0) rfl ?_
  refine litE (m := 1) rfl ?_
  refine seqE ?_
  refine seqE ?_
  refine brW hg (fun hg h1 => ?_) (fun hg h1 => ?_)
  · refine seqE ?_
    exact leafE hown hg
  · refine seqE ?_
    refine seqE ?_
    refine .inl (⟨_, _, c_laws_eqSpan p0.S p1.S, (FzAs.same _), ?_⟩)
    refine litE (m := 3) rfl ?_
    refine brE hg (fun hg h2 => ?_) (fun hg h2 => ?_)
    · refine seqE ?_
      exact leafE hown hg
    · refine seqE ?_
      exact leafE hown hg
theorem rf_laws_eqItem (x : Item) : laws_eqItem x x = true := by
  simp [laws_eqItem, rf_laws_eqSpan]
def laws_eqItemS_b1 (p1 : (List Item)) (i1 : Nat) (s1 : Unit) (a1 : Item) : Step (Unit) Bool :=
  (bif (!(laws_eqItem a1 (p1[i1]?.getD default))) then (.done false) else (.next ()))
def laws_eqItemS (p0 : (List Item)) (p1 : (List Item)) : Bool :=
  (bif ((((p0).length : Nat) : Int) != (((p1).length : Nat) : Int)) then false else (Fin.get (fun s1 => true) (loopL (laws_eqItemS_b1 p1) 0 () p0)))
theorem c_laws_eqItemS (p0 : (List Item)) (p1 : (List Item)) : FnOk prog 49 [.one (.s false 7 (List.map (Item.cells false) p0)), .one (.s false 7 (List.map (Item.cells false) p1))] ⟨.one (.v (.bool (laws_eqItemS p0 p1))), [], [], false⟩ := by
  refine FnOk.intro (E := env) envOk wide func49 rfl (by kernel_rfl) rfl rfl ?_
  have hg := laws_eqItemS.eq_1 p0 p1
  have hown : ∀ g : Bool, AV.Own (AV.one (.v (.bool g))) := fun g => .v _
  refine seqE ?_
  refine seqE ?_
  refine seqE ?_
  refine lenM fun hN1 => ?_
  refine lenM fun hN2 => ?_
  refine brW hg (fun hg h3 => ?_) (fun hg h3 => ?_)
  · refine seqE ?_
    exact leafE hown hg
  · refine seqE ?_
    refine seqE ?_
    refine loopLE hg [0, 1] (fun x1 => [(5, .one (.v (.int .i64 ((x1.i : Nat) : Int))))]) (fun x1 => []) [] ?_ (fun x1 => ?_)
    · exact ⟨rfl, ⟨rfl, rfl, rfl, trivial⟩, trivial, trivial⟩
    refine seqE ?_
    refine seqE ?_
    refine lenM fun hN4 => ?_
    refine tstL (fun hi1 => ?_) (fun hi1 => ?_)
    · have hb1 := (x1.bdy hi1).trans (laws_eqItemS_b1.eq_1 ..)
      have hw1 := wrap_succ hi1 (by first | assumption | omega)
      refine seqE ?_
      refine seqE ?_
      refine .inl ⟨by kernel_rfl, ?_⟩
      refine idxAt hi1 ?_
      refine idxOf (l := p1) (by (first | omega | (simp (disch := omega) only [wrap_small, mid_eq, List.length_map]; omega) | (simp; done) | (simp; omega) | (simp at *; omega) | (simp at *; done) | (simp_all; done) | (simp_all; omega))) (fun hq5 => ?_)
      refine ⟨_, _, c_laws_eqItem (p0[x1.i]'hi1) (p1[x1.i]?.getD default), (FzAs.same _), ?_⟩
      refine brE hb1 (fun hb1 h6 => ?_) (fun hb1 h6 => x1.goE hi1 hb1 [] ⟨rfl, ⟨(eqInt hw1), rfl, rfl, trivial⟩, trivial, trivial⟩)
      refine seqE ?_
      have hg := donE hg (x1.outD hi1 hb1)
      exact leafE hown hg
    have hg := finE hg (x1.fin hi1)
    refine seqE ?_
    exact leafE hown hg
theorem rf_laws_eqItemS (x : (List Item)) : laws_eqItemS x x = true := eqS_ok (b := laws_eqItemS_b1) rf_laws_eqItem (fun _ _ _ _ => rfl) (fun _ _ => rfl) x
def laws_eqTask (p0 : Task) (p1 : Task) : Bool :=
  (bif (p0.Op != p1.Op) then false else (bif (p0.Pc != p1.Pc) then false else (bif (!(laws_eqSpan p0.S p1.S)) then false else (bif (p0.Trace != p1.Trace) then false else (bif (p0.Stamp != p1.Stamp) then false else (bif (!(laws_eqItemS p0.Hand p1.Hand)) then false else (bif (p0.H != p1.H) then false else true)))))))
theorem c_laws_eqTask (p0 : Task) (p1 : Task) : FnOk prog 94 [.agg ((Task.cells false) p0), .agg ((Task.cells false) p1)] ⟨.one (.v (.bool (laws_eqTask p0 p1))), [], [], false⟩ := by
  refine FnOk.intro (E := env) envOk wide func94 rfl (by kernel_rfl) rfl rfl ?_
  have hg := laws_eqTask.eq_1 p0 p1
  have hown : ∀ g : Bool, AV.Own (AV.one (.v (.bool g))) := fun g => .v _
  refine seqE ?_
  refine litE (m := 0) rfl ?_
  refine litE (m := 1) rfl ?_
  refine seqE ?_
  refine seqE ?_
  refine brW hg (fun hg h1 => ?_) (fun hg h1 => ?_)
  · refine seqE ?_
    exact leafE hown hg
  · refine seqE ?_
    refine seqE ?_
    refine brW hg (fun hg h2 => ?_) (fun hg h2 => ?_)
    · refine seqE ?_
      exact leafE hown hg
    · refine seqE ?_
      refine seqE ?_
      refine .inl (⟨_, _, c_laws_eqSpan p0.S p1.S, (FzAs.same _), ?_⟩)
      refine litE (m := 3) rfl ?_
      refine brE hg (fun hg h3 => ?_) (fun hg h3 => ?_)
      · refine seqE ?_
        exact leafE hown hg
      · refine seqE ?_
        refine seqE ?_
        refine brW hg (fun hg h4 => ?_) (fun hg h4 => ?_)
        · refine seqE ?_
          exact leafE hown hg
        · refine seqE ?_
          refine seqE ?_
          refine brW hg (fun hg h5 => ?_) (fun hg h5 => ?_)
          · refine seqE ?_
            exact leafE hown hg
          · refine seqE ?_
            refine seqE ?_
            refine .inl (⟨_, _, c_laws_eqItemS p0.Hand p1.Hand, (FzAs.same _), ?_⟩)
            refine litE (m := 4) rfl ?_
            refine brE hg (fun hg h6 => ?_) (fun hg h6 => ?_)
            · refine seqE ?_
              exact leafE hown hg
            · refine seqE ?_
              refine seqE ?_
              refine brW hg (fun hg h7 => ?_) (fun hg h7 => ?_)
              · refine seqE ?_
                exact leafE hown hg
              · refine seqE ?_
                exact leafE hown hg
theorem rf_laws_eqTask (x : Task) : laws_eqTask x x = true := by
  simp [laws_eqTask, rf_laws_eqSpan, rf_laws_eqItemS]
def laws_eqTaskS_b1 (p1 : (List Task)) (i1 : Nat) (s1 : Unit) (a1 : Task) : Step (Unit) Bool :=
  (bif (!(laws_eqTask a1 (p1[i1]?.getD default))) then (.done false) else (.next ()))
def laws_eqTaskS (p0 : (List Task)) (p1 : (List Task)) : Bool :=
  (bif ((((p0).length : Nat) : Int) != (((p1).length : Nat) : Int)) then false else (Fin.get (fun s1 => true) (loopL (laws_eqTaskS_b1 p1) 0 () p0)))
theorem c_laws_eqTaskS (p0 : (List Task)) (p1 : (List Task)) : FnOk prog 50 [.one (.s false 12 (List.map (Task.cells false) p0)), .one (.s false 12 (List.map (Task.cells false) p1))] ⟨.one (.v (.bool (laws_eqTaskS p0 p1))), [], [], false⟩ := by
  refine FnOk.intro (E := env) envOk wide func50 rfl (by kernel_rfl) rfl rfl ?_
  have hg := laws_eqTaskS.eq_1 p0 p1
  have hown : ∀ g : Bool, AV.Own (AV.one (.v (.bool g))) := fun g => .v _
  refine seqE ?_
  refine seqE ?_
  refine seqE ?_
  refine lenM fun hN1 => ?_
  refine lenM fun hN2 => ?_
  refine brW hg (fun hg h3 => ?_) (fun hg h3 => ?_)
  · refine seqE ?_
    exact leafE hown hg
  · refine seqE ?_
    refine seqE ?_
    refine loopLE hg [0, 1] (fun x1 => [(5, .one (.v (.int .i64 ((x1.i : Nat) : Int))))]) (fun x1 => []) [] ?_ (fun x1 => ?_)
    · exact ⟨rfl, ⟨rfl, rfl, rfl, trivial⟩, trivial, trivial⟩
    refine seqE ?_
    refine seqE ?_
    refine lenM fun hN4 => ?_
    refine tstL (fun hi1 => ?_) (fun hi1 => ?_)
    · have hb1 := (x1.bdy hi1).trans (laws_eqTaskS_b1.eq_1 ..)
      have hw1 := wrap_succ hi1 (by first | assumption | omega)
      refine seqE ?_
      refine seqE ?_
      refine .inl ⟨by kernel_rfl, ?_⟩
      refine idxAt hi1 ?_
      refine idxOf (l := p1) (by (first | omega | (simp (disch := omega) only [wrap_small, mid_eq, List.length_map]; omega) | (simp; done) | (simp; omega) | (simp at *; omega) | (simp at *; done) | (simp_all; done) | (simp_all; omega))) (fun hq5 => ?_)
      refine ⟨_, _, c_laws_eqTask (p0[x1.i]'hi1) (p1[x1.i]?.getD default), (FzAs.same _), ?_⟩
      refine brE hb1 (fun hb1 h6 => ?_) (fun hb1 h6 => x1.goE hi1 hb1 [] ⟨rfl, ⟨(eqInt hw1), rfl, rfl, trivial⟩, trivial, trivial⟩)
      refine seqE ?_
      have hg := donE hg (x1.outD hi1 hb1)
      exact leafE hown hg
    have hg := finE hg (x1.fin hi1)
    refine seqE ?_
    exact leafE hown hg
theorem rf_laws_eqTaskS (x : (List Task)) : laws_eqTaskS x x = true := eqS_ok (b := laws_eqTaskS_b1) rf_laws_eqTask (fun _ _ _ _ => rfl) (fun _ _ => rfl) x
def laws_eqDeed (p0 : Deed) (p1 : Deed) : Bool :=
  (bif (p0.Op != p1.Op) then false else (bif (p0.Task != p1.Task) then false else (bif (!(laws_eqSpan p0.S p1.S)) then false else (bif (p0.Trace != p1.Trace) then false else (bif (p0.Stamp != p1.Stamp) then false else (bif (p0.Code != p1.Code) then false else (bif (!(p0.Keep == p1.Keep)) then false else (bif (!(p0.Void == p1.Void)) then false else (bif (p0.Took != p1.Took) then false else (bif (p0.N != p1.N) then false else (bif (p0.Forgot != p1.Forgot) then false else (bif (p0.Now != p1.Now) then false else (bif (p0.Inv != p1.Inv) then false else (bif (p0.Lin != p1.Lin) then false else (bif (p0.Res != p1.Res) then false else true)))))))))))))))
theorem c_laws_eqDeed (p0 : Deed) (p1 : Deed) : FnOk prog 95 [.agg ((Deed.cells false) p0), .agg ((Deed.cells false) p1)] ⟨.one (.v (.bool (laws_eqDeed p0 p1))), [], [], false⟩ := by
  refine FnOk.intro (E := env) envOk wide func95 rfl (by kernel_rfl) rfl rfl ?_
  have hg := laws_eqDeed.eq_1 p0 p1
  have hown : ∀ g : Bool, AV.Own (AV.one (.v (.bool g))) := fun g => .v _
  refine seqE ?_
  refine litE (m := 0) rfl ?_
  refine litE (m := 1) rfl ?_
  refine seqE ?_
  refine seqE ?_
  refine brW hg (fun hg h1 => ?_) (fun hg h1 => ?_)
  · refine seqE ?_
    exact leafE hown hg
  · refine seqE ?_
    refine seqE ?_
    refine brW hg (fun hg h2 => ?_) (fun hg h2 => ?_)
    · refine seqE ?_
      exact leafE hown hg
    · refine seqE ?_
      refine seqE ?_
      refine .inl (⟨_, _, c_laws_eqSpan p0.S p1.S, (FzAs.same _), ?_⟩)
      refine litE (m := 3) rfl ?_
      refine brE hg (fun hg h3 => ?_) (fun hg h3 => ?_)
      · refine seqE ?_
        exact leafE hown hg
      · refine seqE ?_
        refine seqE ?_
        refine brW hg (fun hg h4 => ?_) (fun hg h4 => ?_)
        · refine seqE ?_
          exact leafE hown hg
        · refine seqE ?_
          refine seqE ?_
          refine brW hg (fun hg h5 => ?_) (fun hg h5 => ?_)
          · refine seqE ?_
            exact leafE hown hg
          · refine seqE ?_
            refine seqE ?_
            refine brW hg (fun hg h6 => ?_) (fun hg h6 => ?_)
            · refine seqE ?_
              exact leafE hown hg
            · refine seqE ?_
              refine seqE ?_
              refine brE hg (fun hg h7 => ?_) (fun hg h7 => ?_)
              · refine seqE ?_
                exact leafE hown hg
              · refine seqE ?_
                refine seqE ?_
                refine brE hg (fun hg h8 => ?_) (fun hg h8 => ?_)
                · refine seqE ?_
                  exact leafE hown hg
                · refine seqE ?_
                  refine seqE ?_
                  refine brW hg (fun hg h9 => ?_) (fun hg h9 => ?_)
                  · refine seqE ?_
                    exact leafE hown hg
                  · refine seqE ?_
                    refine seqE ?_
                    refine brW hg (fun hg h10 => ?_) (fun hg h10 => ?_)
                    · refine seqE ?_
                      exact leafE hown hg
                    · refine seqE ?_
                      refine seqE ?_
                      refine brW hg (fun hg h11 => ?_) (fun hg h11 => ?_)
                      · refine seqE ?_
                        exact leafE hown hg
                      · refine seqE ?_
                        refine seqE ?_
                        refine brW hg (fun hg h12 => ?_) (fun hg h12 => ?_)
                        · refine seqE ?_
                          exact leafE hown hg
                        · refine seqE ?_
                          refine seqE ?_
                          refine brW hg (fun hg h13 => ?_) (fun hg h13 => ?_)
                          · refine seqE ?_
                            exact leafE hown hg
                          · refine seqE ?_
                            refine seqE ?_
                            refine brW hg (fun hg h14 => ?_) (fun hg h14 => ?_)
                            · refine seqE ?_
                              exact leafE hown hg
                            · refine seqE ?_
                              refine seqE ?_
                              refine brW hg (fun hg h15 => ?_) (fun hg h15 => ?_)
                              · refine seqE ?_
                                exact leafE hown hg
                              · refine seqE ?_
                                exact leafE hown hg
theorem rf_laws_eqDeed (x : Deed) : laws_eqDeed x x = true := by
  simp [laws_eqDeed, rf_laws_eqSpan]
def laws_eqDeedS_b1 (p1 : (List Deed)) (i1 : Nat) (s1 : Unit) (a1 : Deed) : Step (Unit) Bool :=
  (bif (!(laws_eqDeed a1 (p1[i1]?.getD default))) then (.done false) else (.next ()))
def laws_eqDeedS (p0 : (List Deed)) (p1 : (List Deed)) : Bool :=
  (bif ((((p0).length : Nat) : Int) != (((p1).length : Nat) : Int)) then false else (Fin.get (fun s1 => true) (loopL (laws_eqDeedS_b1 p1) 0 () p0)))
theorem c_laws_eqDeedS (p0 : (List Deed)) (p1 : (List Deed)) : FnOk prog 51 [.one (.s false 20 (List.map (Deed.cells false) p0)), .one (.s false 20 (List.map (Deed.cells false) p1))] ⟨.one (.v (.bool (laws_eqDeedS p0 p1))), [], [], false⟩ := by
  refine FnOk.intro (E := env) envOk wide func51 rfl (by kernel_rfl) rfl rfl ?_
  have hg := laws_eqDeedS.eq_1 p0 p1
  have hown : ∀ g : Bool, AV.Own (AV.one (.v (.bool g))) := fun g => .v _
  refine seqE ?_
  refine seqE ?_
  refine seqE ?_
  refine lenM fun hN1 => ?_
  refine lenM fun hN2 => ?_
  refine brW hg (fun hg h3 => ?_) (fun hg h3 => ?_)
  · refine seqE ?_
    exact leafE hown hg
  · refine seqE ?_
    refine seqE ?_
    refine loopLE hg [0, 1] (fun x1 => [(5, .one (.v (.int .i64 ((x1.i : Nat) : Int))))]) (fun x1 => []) [] ?_ (fun x1 => ?_)
    · exact ⟨rfl, ⟨rfl, rfl, rfl, trivial⟩, trivial, trivial⟩
    refine seqE ?_
    refine seqE ?_
    refine lenM fun hN4 => ?_
    refine tstL (fun hi1 => ?_) (fun hi1 => ?_)
    · have hb1 := (x1.bdy hi1).trans (laws_eqDeedS_b1.eq_1 ..)
      have hw1 := wrap_succ hi1 (by first | assumption | omega)
      refine seqE ?_
      refine seqE ?_
      refine .inl ⟨by kernel_rfl, ?_⟩
      refine idxAt hi1 ?_
      refine idxOf (l := p1) (by (first | omega | (simp (disch := omega) only [wrap_small, mid_eq, List.length_map]; omega) | (simp; done) | (simp; omega) | (simp at *; omega) | (simp at *; done) | (simp_all; done) | (simp_all; omega))) (fun hq5 => ?_)
      refine ⟨_, _, c_laws_eqDeed (p0[x1.i]'hi1) (p1[x1.i]?.getD default), (FzAs.same _), ?_⟩
      refine brE hb1 (fun hb1 h6 => ?_) (fun hb1 h6 => x1.goE hi1 hb1 [] ⟨rfl, ⟨(eqInt hw1), rfl, rfl, trivial⟩, trivial, trivial⟩)
      refine seqE ?_
      have hg := donE hg (x1.outD hi1 hb1)
      exact leafE hown hg
    have hg := finE hg (x1.fin hi1)
    refine seqE ?_
    exact leafE hown hg
theorem rf_laws_eqDeedS (x : (List Deed)) : laws_eqDeedS x x = true := eqS_ok (b := laws_eqDeedS_b1) rf_laws_eqDeed (fun _ _ _ _ => rfl) (fun _ _ => rfl) x
def laws_eqWorld (p0 : World) (p1 : World) : Bool :=
  (bif (!(laws_eqConf p0.C p1.C)) then false else (bif (p0.Time != p1.Time) then false else (bif (!(p0.Shut == p1.Shut)) then false else (bif (!(laws_eqStripeS p0.St p1.St)) then false else (bif (p0.RuleHeld != p1.RuleHeld) then false else (bif (!(laws_eqBucket p0.B p1.B)) then false else (bif (!(laws_eqVerdictS p0.Cache p1.Cache)) then false else (bif (p0.Used != p1.Used) then false else (bif (!(laws_eqWheel p0.W p1.W)) then false else (bif (!(laws_eqTimerS p0.Due p1.Due)) then false else (bif (!(laws_eqItemS p0.Queue p1.Queue)) then false else (bif (!(laws_eqItemS p0.Out p1.Out)) then false else (bif (!(laws_eqTaskS p0.Tasks p1.Tasks)) then false else (bif (!(laws_eqDeedS p0.Deeds p1.Deeds)) then false else (bif (p0.Next != p1.Next) then false else true)))))))))))))))
theorem c_laws_eqWorld (p0 : World) (p1 : World) : FnOk prog 11 [.agg ((World.cells false) p0), .agg ((World.cells false) p1)] ⟨.one (.v (.bool (laws_eqWorld p0 p1))), [], [], false⟩ := by
  refine FnOk.intro (E := env) envOk wide func11 rfl (by kernel_rfl) rfl rfl ?_
  have hg := laws_eqWorld.eq_1 p0 p1
  have hown : ∀ g : Bool, AV.Own (AV.one (.v (.bool g))) := fun g => .v _
  refine seqE ?_
  refine litE (m := 0) rfl ?_
  refine litE (m := 1) rfl ?_
  refine seqE ?_
  refine seqE ?_
  refine .inl (⟨_, _, c_laws_eqConf p0.C p1.C, (FzAs.same _), ?_⟩)
  refine litE (m := 3) rfl ?_
  refine brE hg (fun hg h1 => ?_) (fun hg h1 => ?_)
  · refine seqE ?_
    exact leafE hown hg
  · refine seqE ?_
    refine seqE ?_
    refine brW hg (fun hg h2 => ?_) (fun hg h2 => ?_)
    · refine seqE ?_
      exact leafE hown hg
    · refine seqE ?_
      refine seqE ?_
      refine brE hg (fun hg h3 => ?_) (fun hg h3 => ?_)
      · refine seqE ?_
        exact leafE hown hg
      · refine seqE ?_
        refine seqE ?_
        refine .inl (⟨_, _, c_laws_eqStripeS p0.St p1.St, (FzAs.same _), ?_⟩)
        refine litE (m := 4) rfl ?_
        refine brE hg (fun hg h4 => ?_) (fun hg h4 => ?_)
        · refine seqE ?_
          exact leafE hown hg
        · refine seqE ?_
          refine seqE ?_
          refine brW hg (fun hg h5 => ?_) (fun hg h5 => ?_)
          · refine seqE ?_
            exact leafE hown hg
          · refine seqE ?_
            refine seqE ?_
            refine .inl (⟨_, _, c_laws_eqBucket p0.B p1.B, (FzAs.same _), ?_⟩)
            refine litE (m := 5) rfl ?_
            refine brE hg (fun hg h6 => ?_) (fun hg h6 => ?_)
            · refine seqE ?_
              exact leafE hown hg
            · refine seqE ?_
              refine seqE ?_
              refine .inl (⟨_, _, c_laws_eqVerdictS p0.Cache p1.Cache, (FzAs.same _), ?_⟩)
              refine litE (m := 6) rfl ?_
              refine brE hg (fun hg h7 => ?_) (fun hg h7 => ?_)
              · refine seqE ?_
                exact leafE hown hg
              · refine seqE ?_
                refine seqE ?_
                refine brW hg (fun hg h8 => ?_) (fun hg h8 => ?_)
                · refine seqE ?_
                  exact leafE hown hg
                · refine seqE ?_
                  refine seqE ?_
                  refine .inl (⟨_, _, c_laws_eqWheel p0.W p1.W, (FzAs.same _), ?_⟩)
                  refine litE (m := 7) rfl ?_
                  refine brE hg (fun hg h9 => ?_) (fun hg h9 => ?_)
                  · refine seqE ?_
                    exact leafE hown hg
                  · refine seqE ?_
                    refine seqE ?_
                    refine .inl (⟨_, _, c_laws_eqTimerS p0.Due p1.Due, (FzAs.same _), ?_⟩)
                    refine litE (m := 8) rfl ?_
                    refine brE hg (fun hg h10 => ?_) (fun hg h10 => ?_)
                    · refine seqE ?_
                      exact leafE hown hg
                    · refine seqE ?_
                      refine seqE ?_
                      refine .inl (⟨_, _, c_laws_eqItemS p0.Queue p1.Queue, (FzAs.same _), ?_⟩)
                      refine litE (m := 9) rfl ?_
                      refine brE hg (fun hg h11 => ?_) (fun hg h11 => ?_)
                      · refine seqE ?_
                        exact leafE hown hg
                      · refine seqE ?_
                        refine seqE ?_
                        refine .inl (⟨_, _, c_laws_eqItemS p0.Out p1.Out, (FzAs.same _), ?_⟩)
                        refine litE (m := 10) rfl ?_
                        refine brE hg (fun hg h12 => ?_) (fun hg h12 => ?_)
                        · refine seqE ?_
                          exact leafE hown hg
                        · refine seqE ?_
                          refine seqE ?_
                          refine .inl (⟨_, _, c_laws_eqTaskS p0.Tasks p1.Tasks, (FzAs.same _), ?_⟩)
                          refine litE (m := 11) rfl ?_
                          refine brE hg (fun hg h13 => ?_) (fun hg h13 => ?_)
                          · refine seqE ?_
                            exact leafE hown hg
                          · refine seqE ?_
                            refine seqE ?_
                            refine .inl (⟨_, _, c_laws_eqDeedS p0.Deeds p1.Deeds, (FzAs.same _), ?_⟩)
                            refine litE (m := 12) rfl ?_
                            refine brE hg (fun hg h14 => ?_) (fun hg h14 => ?_)
                            · refine seqE ?_
                              exact leafE hown hg
                            · refine seqE ?_
                              refine seqE ?_
                              refine brW hg (fun hg h15 => ?_) (fun hg h15 => ?_)
                              · refine seqE ?_
                                exact leafE hown hg
                              · refine seqE ?_
                                exact leafE hown hg
theorem rf_laws_eqWorld (x : World) : laws_eqWorld x x = true := by
  simp [laws_eqWorld, rf_laws_eqConf, rf_laws_eqStripeS, rf_laws_eqBucket, rf_laws_eqVerdictS, rf_laws_eqTimerS, rf_laws_eqWheel, rf_laws_eqItemS, rf_laws_eqTaskS, rf_laws_eqDeedS]
def laws_FnExactWhole (p0 : World) : Bool :=
  (bif (decide ((laws_szWorld p0 1048576) < 0)) then true else (bif (!((impl_Whole (laws_toWorld p0)) == (spec_Whole (laws_toWorld p0)))) then false else (bif (!(laws_eqWorld (laws_toWorld p0) (laws_toWorld p0))) then false else true)))
theorem c_laws_FnExactWhole (p0 : World) (hw0 : World.bd 9223372036854775807 p0) : FnOk prog 4 [.agg ((World.cells false) p0)] ⟨.one (.v (.bool (laws_FnExactWhole p0))), [], [], false⟩ := by
  refine FnOk.intro (E := env) envOk wide func4 rfl (by kernel_rfl) rfl rfl ?_
  have hg := laws_FnExactWhole.eq_1 p0
  have hown : ∀ g : Bool, AV.Own (AV.one (.v (.bool g))) := fun g => .v _
  refine seqE ?_
  refine litE (m := 0) rfl ?_
  refine seqE ?_
  refine seqE ?_
  refine .inl (⟨_, _, c_laws_szWorld p0 1048576, (FzAs.same _), ?_⟩)
  refine litE (m := 2) rfl ?_
  refine seqE ?_
  refine seqE ?_
  refine brD hg (fun hg h1 => ?_) (fun hg h1 => ?_)
  · refine seqE ?_
    exact leafE hown hg
  have hz1 := szd_laws_szWorld p0 1048576 (by assumption) (by decide) (by decide) (Int.not_lt.1 h1)
  have hs1 := hz1.1
  have hl1 : (laws_szWorld p0 1048576) ≤ 1048576 := Int.le_trans hz1.2 (by decide)
  refine seqE ?_
  refine .inl (⟨_, _, c_laws_toWorld p0 (by first | assumption | (simp only [id_laws_toWorld]; assumption)), (FzAs.same _), ?_⟩)
  refine litE (m := 3) rfl ?_
  refine .inl (⟨_, _, c_spec_Whole (laws_toWorld p0) (by first | assumption | (simp only [id_laws_toWorld]; assumption)), (.cons (.agg (.cons (.same _) (.cons (.same _) (.cons (.same _) (.cons (.same _) (.cons (.same _) (.cons (.same _) (.cons (.same _) (.cons (.same _) (.cons (.same _) (.cons (.same _) (.cons (.same _) (.cons (.sl _ _ _ _ (frzMap frz_Pol _)) (.cons (.same _) (.cons (.same _) (.cons (.sl _ _ _ _ (frzMap frz_Stripe _)) (.cons (.same _) (.cons (.same _) (.cons (.same _) (.cons (.same _) (.cons (.same _) (.cons (.same _) (.cons (.same _) (.cons (.same _) (.cons (.sl _ _ _ _ (frzMap (frz_cSl frz_Timer) _)) (.cons (.sl _ _ _ _ (frzMap (frz_cSl frz_Timer) _)) (.cons (.same _) (.cons (.same _) (.cons (.sl _ _ _ _ (frzMap frz_Item _)) (.cons (.sl _ _ _ _ (frzMap frz_Item _)) (.cons (.sl _ _ _ _ (frzMap frz_Task _)) (.cons (.sl _ _ _ _ (frzMap frz_Deed _)) (.cons (.same _) .nil))))))))))))))))))))))))))))))))) (.same _)), ?_⟩)
  refine litE (m := 15) rfl ?_
  refine seqE ?_
  refine .inl (⟨_, _, c_laws_toWorld p0 (by first | assumption | (simp only [id_laws_toWorld]; assumption)), (FzAs.same _), ?_⟩)
  refine litE (m := 16) rfl ?_
  refine litE (m := 27) rfl ?_
  refine seqE ?_
  refine .inl (⟨_, _, c_impl_Whole (laws_toWorld p0) (by first | assumption | (simp only [id_laws_toWorld]; assumption)), (.cons (.agg (.cons (.same _) (.cons (.same _) (.cons (.same _) (.cons (.same _) (.cons (.same _) (.cons (.same _) (.cons (.same _) (.cons (.same _) (.cons (.same _) (.cons (.same _) (.cons (.same _) (.cons (.sl _ _ _ _ (frzMap frz_Pol _)) (.cons (.same _) (.cons (.same _) (.cons (.sl _ _ _ _ (frzMap frz_Stripe _)) (.cons (.same _) (.cons (.same _) (.cons (.same _) (.cons (.same _) (.cons (.same _) (.cons (.same _) (.cons (.same _) (.cons (.same _) (.cons (.sl _ _ _ _ (frzMap (frz_cSl frz_Timer) _)) (.cons (.sl _ _ _ _ (frzMap (frz_cSl frz_Timer) _)) (.cons (.same _) (.cons (.same _) (.cons (.sl _ _ _ _ (frzMap frz_Item _)) (.cons (.sl _ _ _ _ (frzMap frz_Item _)) (.cons (.sl _ _ _ _ (frzMap frz_Task _)) (.cons (.sl _ _ _ _ (frzMap frz_Deed _)) (.cons (.same _) .nil))))))))))))))))))))))))))))))))) (.same _)), ?_⟩)
  refine litE (m := 29) rfl ?_
  refine seqE ?_
  refine seqE ?_
  refine brE hg (fun hg h2 => ?_) (fun hg h2 => ?_)
  · refine seqE ?_
    exact leafE hown hg
  · refine seqE ?_
    refine seqE ?_
    refine .inr (.inl ⟨5, [(0, true), (1, true), (2, false), (3, false), (4, false)], by kernel_rfl, ?_⟩)
    refine ⟨_, _, c_laws_toWorld p0 (by first | assumption | (simp only [id_laws_toWorld]; assumption)), (FzAs.same _), ?_⟩
    refine litE (m := 30) rfl ?_
    refine ⟨_, _, c_laws_eqWorld (laws_toWorld p0) (laws_toWorld p0), (.cons (.agg (.cons (.same _) (.cons (.same _) (.cons (.same _) (.cons (.same _) (.cons (.same _) (.cons (.same _) (.cons (.same _) (.cons (.same _) (.cons (.same _) (.cons (.same _) (.cons (.same _) (.cons (.sl _ _ _ _ (frzMap frz_Pol _)) (.cons (.same _) (.cons (.same _) (.cons (.sl _ _ _ _ (frzMap frz_Stripe _)) (.cons (.same _) (.cons (.same _) (.cons (.same _) (.cons (.same _) (.cons (.same _) (.cons (.same _) (.cons (.same _) (.cons (.same _) (.cons (.sl _ _ _ _ (frzMap (frz_cSl frz_Timer) _)) (.cons (.sl _ _ _ _ (frzMap (frz_cSl frz_Timer) _)) (.cons (.same _) (.cons (.same _) (.cons (.sl _ _ _ _ (frzMap frz_Item _)) (.cons (.sl _ _ _ _ (frzMap frz_Item _)) (.cons (.sl _ _ _ _ (frzMap frz_Task _)) (.cons (.sl _ _ _ _ (frzMap frz_Deed _)) (.cons (.same _) .nil))))))))))))))))))))))))))))))))) (.cons (.agg (.cons (.same _) (.cons (.same _) (.cons (.same _) (.cons (.same _) (.cons (.same _) (.cons (.same _) (.cons (.same _) (.cons (.same _) (.cons (.same _) (.cons (.same _) (.cons (.same _) (.cons (.sl _ _ _ _ (frzMap frz_Pol _)) (.cons (.same _) (.cons (.same _) (.cons (.sl _ _ _ _ (frzMap frz_Stripe _)) (.cons (.same _) (.cons (.same _) (.cons (.same _) (.cons (.same _) (.cons (.same _) (.cons (.same _) (.cons (.same _) (.cons (.same _) (.cons (.sl _ _ _ _ (frzMap (frz_cSl frz_Timer) _)) (.cons (.sl _ _ _ _ (frzMap (frz_cSl frz_Timer) _)) (.cons (.same _) (.cons (.same _) (.cons (.sl _ _ _ _ (frzMap frz_Item _)) (.cons (.sl _ _ _ _ (frzMap frz_Item _)) (.cons (.sl _ _ _ _ (frzMap frz_Task _)) (.cons (.sl _ _ _ _ (frzMap frz_Deed _)) (.cons (.same _) .nil))))))))))))))))))))))))))))))))) (.same _))), ?_⟩
    refine litE (m := 42) rfl ?_
    refine brE hg (fun hg h3 => ?_) (fun hg h3 => ?_)
    · refine seqE ?_
      exact leafE hown hg
    · refine seqE ?_
      exact leafE hown hg
theorem order_eq (p0 : List Deed) (h : p0.length ≤ 1048576) : spec_Order p0 = impl_Order p0 := (spec_Order_ok p0 h).eq (impl_Order_ok p0 h)
theorem bneDe (a b : Int) : (a != b) = !decide (a = b) := by by_cases h : a = b <;> simp [h, bne]
theorem beqDe (a b : Int) : (a == b) = decide (a = b) := by by_cases h : a = b <;> simp [h]
theorem main_SameSpan (a b : Span) : spec_SameSpan a b = impl_SameSpan a b := by
  unfold spec_SameSpan impl_SameSpan slices_Equal_SAttr_Attr
  have e : spec_SameSpan_b1 b = slices_Equal_SAttr_Attr_b1 b.Attrs := rfl
  rw [e]
  simp only [bne]
  cases (a.Trace == b.Trace) <;> cases (a.Id == b.Id) <;> cases (a.Start == b.Start) <;> cases (a.End == b.End) <;> cases (a.Err == b.Err) <;> rfl
theorem count_loop {α ρ : Type} {p : α → Bool} {b : Nat → Int → α → Step Int ρ} (hb : ∀ i s a, b i s a = bif p a then .next (IntKind.i64.wrap (s + 1)) else .next s) : ∀ (l : List α) (i : Nat) (s : Int), 0 ≤ s → s + (l.length : Int) ≤ 4611686018427387904 → loopL b i s l = .fin (s + ((l.countP p : Nat) : Int))
  | [], i, s, h0, h1 => by simp [loopL]
  | a :: l, i, s, h0, h1 => by
    simp only [List.length_cons, Int.natCast_add, Int.cast_ofNat_Int] at h1
    unfold loopL
    rw [hb, List.countP_cons]
    cases p a with
    | true =>
      simp only [cond_true, if_true]
      rw [wrap_small (by omega) (by omega), count_loop hb l (i + 1) (s + 1) (by omega) (by omega)]
      congr 1
      omega
    | false =>
      simp only [cond_false]
      rw [count_loop hb l (i + 1) s h0 (by omega)]
      simp
theorem diff_loop {α ρ : Type} [Inhabited α] {p : α → Bool} {q : List α} {b : Nat → Int → α → Step Int ρ} (hb : ∀ i s a, b i s a = bif p a then (bif p (q[i]?.getD default) then .next (IntKind.i64.wrap (IntKind.i64.wrap (s + 1) - 1)) else .next (IntKind.i64.wrap (s + 1))) else (bif p (q[i]?.getD default) then .next (IntKind.i64.wrap (s - 1)) else .next s)) :
    ∀ (l : List α) (i : Nat) (s : Int), i + l.length = q.length → -4611686018427387904 ≤ s - (l.length : Int) → s + (l.length : Int) ≤ 4611686018427387904 → loopL b i s l = .fin (s + ((l.countP p : Nat) : Int) - (((q.drop i).countP p : Nat) : Int))
  | [], i, s, he, h0, h1 => by
    rw [List.drop_eq_nil_of_le (by simp at he; omega)]
    simp [loopL]
  | a :: l, i, s, he, h0, h1 => by
    simp only [List.length_cons, Int.natCast_add, Int.cast_ofNat_Int] at h0 h1 he
    have hi : i < q.length := by omega
    unfold loopL
    rw [hb, List.countP_cons, List.drop_eq_getElem_cons hi, List.countP_cons]
    simp only [List.getElem?_eq_getElem hi, Option.getD_some]
    cases p a <;> cases p q[i] <;> simp only [cond_true, cond_false, if_true, if_false, Bool.false_eq_true]
    · rw [diff_loop hb l (i + 1) s (by omega) (by omega) (by omega)]; congr 1
    · rw [wrap_small (by omega) (by omega), diff_loop hb l (i + 1) (s - 1) (by omega) (by omega) (by omega)]; congr 1; omega
    · rw [wrap_small (by omega) (by omega), diff_loop hb l (i + 1) (s + 1) (by omega) (by omega) (by omega)]; congr 1; omega
    · rw [wrap_small (n := s + 1) (by omega) (by omega), wrap_small (by omega) (by omega), diff_loop hb l (i + 1) (s + 1 - 1) (by omega) (by omega) (by omega)]; congr 1; omega
theorem main_SameBag (a b : List Span) (ha : a.length ≤ 4503599627370496) (hb : b.length ≤ 4503599627370496) : impl_SameBag a b = spec_SameBag a b := by
  have hc : ∀ (l : List Span) (s : Span), l.length ≤ 4503599627370496 → impl_SameBag_1 l s = ((l.countP (fun x => impl_SameSpan x s) : Nat) : Int) := by
    intro l s hl
    unfold impl_SameBag_1
    rw [count_loop (p := fun x => impl_SameSpan x s) (b := impl_SameBag_1_b1 s) (fun _ _ _ => rfl) l 0 0 (by omega) (by omega)]
    simp [Fin.get]
  unfold impl_SameBag spec_SameBag
  by_cases hl : a.length = b.length
  · have e1 : (((a.length : Nat) : Int) != ((b.length : Nat) : Int)) = false := by simp [hl]
    have e2 : (((a.length : Nat) : Int) == ((b.length : Nat) : Int)) = true := by simp [hl]
    rw [e1, e2, cond_false]
    congr 1
    congr 1
    funext i s x
    unfold impl_SameBag_b1 spec_SameBag_b1
    rw [hc a x ha, hc b x hb, diff_loop (p := fun y => impl_SameSpan y x) (q := b) (b := spec_SameBag_b2 b x) (fun i s y => by
      unfold spec_SameBag_b2 spec_SameBag_j3
      simp only [main_SameSpan]
      cases impl_SameSpan y x <;> cases impl_SameSpan (b[i]?.getD default) x <;> rfl) a 0 0 (by omega) (by omega) (by omega)]
    simp only [Fin.get, List.drop_zero]
    congr 1
    rw [Bool.eq_iff_iff]
    simp
    omega
  · have e1 : (((a.length : Nat) : Int) != ((b.length : Nat) : Int)) = true := by simp; omega
    have e2 : (((a.length : Nat) : Int) == ((b.length : Nat) : Int)) = false := by simp; omega
    rw [e1, e2, cond_true]
    rcases any_loop (p := fun x => impl_SameBag_1 a x != impl_SameBag_1 b x) (r := fun _ => false) (b := impl_SameBag_b1 a b) (fun _ _ _ => rfl) a 0 with ⟨_, j, e⟩ | ⟨_, e⟩ <;> rw [e] <;> rfl
theorem main_Kept (l : List Deed) (k : Int) : impl_Kept l k = spec_Kept l k := by
  unfold impl_Kept slices_ContainsFunc_SDeed_Deed_c_impl_Kept_1 slices_IndexFunc_SDeed_Deed_c_impl_Kept_1 spec_Kept
  have hs : ∀ i s a, spec_Kept_b1 k i s a = bif impl_Kept_1 a k then .done true else .next () := by
    intro i s a
    unfold spec_Kept_b1 impl_Kept_1 impl_judged
    cases (a.Op == 2) <;> cases (a.Stamp == k) <;> cases (a.Lin != -1) <;> cases a.Void <;> cases a.Keep <;> rfl
  rcases any_loop (p := fun a => impl_Kept_1 a k) (r := fun i => ((i : Nat) : Int)) (b := slices_IndexFunc_SDeed_Deed_c_impl_Kept_1_b1 k) (fun _ _ _ => rfl) l 0 with ⟨h, j, e⟩ | ⟨h, e⟩
  · rcases any_loop (p := fun a => impl_Kept_1 a k) (r := fun _ => true) (b := spec_Kept_b1 k) hs l 0 with ⟨h', j', e'⟩ | ⟨h', e'⟩
    · rw [e, e']; simp [Fin.get]
    · rw [h] at h'; cases h'
  · rcases any_loop (p := fun a => impl_Kept_1 a k) (r := fun _ => true) (b := spec_Kept_b1 k) hs l 0 with ⟨h', j', e'⟩ | ⟨h', e'⟩
    · rw [h] at h'; cases h'
    · rw [e, e']; simp [Fin.get]
def gAcc (p0 : List Deed) (p1 : Int) (v : Int) : List Span := let d := p0[v.toNat]?.getD default; if d.Op = 1 ∧ d.Stamp = p1 ∧ (d.Code = 1 ∨ d.Code = 2) then [d.S] else []
theorem spec_l3Copy_eq (x : Span) : spec_l3Copy x = x := by cases x; simp [spec_l3Copy]
theorem impl_copySpan_eq (x : Span) : impl_copySpan x = x := by cases x; simp [impl_copySpan]
theorem spec_Accepted_eq (p0 : List Deed) (p1 : Int) : spec_Accepted p0 p1 = (spec_Order p0).flatMap (gAcc p0 p1) := by
  unfold spec_Accepted
  rw [app_flat (b := spec_Accepted_b1 p0 p1) (gAcc p0 p1) (fun i s v => by
    unfold spec_Accepted_b1 gAcc spec_Accepted_j2
    rw [spec_l3Copy_eq]
    generalize p0[v.toNat]?.getD default = d
    by_cases h1 : d.Op = 1 <;> by_cases h2 : d.Stamp = p1 <;> by_cases h3 : d.Code = 1 <;> by_cases h4 : d.Code = 2 <;> simp [h1, h2, h3, h4, Step.get, beqDe, bneDe]), List.nil_append]
  rfl
theorem impl_Accepted_eq (p0 : List Deed) (p1 : Int) (h : p0.length ≤ 1048576) : impl_Accepted p0 p1 = (impl_Order p0).flatMap (gAcc p0 p1) := by
  unfold impl_Accepted
  have hf : ∀ v ∈ impl_Order p0, (p0[v.toNat]?.getD default).Lin ≠ -1 := fun v hv => by
    have hp := (impl_Order_ok p0 h).p.mem_iff.1 hv
    exact flL_lin Deed.Lin p0 v hp
  rw [app_flat (b := impl_Accepted_b1 p1) (fun d : Deed => if impl_takenIn d = true ∧ d.Stamp = p1 then [d.S] else []) (fun i s d => by
    unfold impl_Accepted_b1
    rw [impl_copySpan_eq]
    cases h1 : impl_takenIn d <;> by_cases h2 : d.Stamp = p1 <;> simp [h2, beqDe, bneDe]), List.nil_append, impl_ordered_map, flatMap_mapE]
  show List.flatMap _ _ = _
  refine flatMap_congrE fun v hv => ?_
  have := hf v hv
  unfold gAcc impl_takenIn
  generalize p0[v.toNat]?.getD default = d at this
  by_cases h1 : d.Op = 1 <;> by_cases h2 : d.Stamp = p1 <;> by_cases h3 : d.Code = 1 <;> by_cases h4 : d.Code = 2 <;> simp [h1, h2, h3, h4, this, beqDe, bneDe]
theorem main_Accepted (p0 : List Deed) (p1 : Int) (h : p0.length ≤ 1048576) : impl_Accepted p0 p1 = spec_Accepted p0 p1 := by rw [impl_Accepted_eq p0 p1 h, spec_Accepted_eq, order_eq p0 h]
theorem Accepted_len (p0 : List Deed) (p1 : Int) (h : p0.length ≤ 1048576) : (spec_Accepted p0 p1).length ≤ 1048576 := by
  rw [spec_Accepted_eq]
  exact Nat.le_trans (flat1_len (fun v => by unfold gAcc; dsimp only; split <;> simp) _) (Nat.le_trans (spec_Order_ok p0 h).len h)
theorem main_ItemsOf (l : List Item) (k : Int) : impl_ItemsOf l k = spec_ItemsOf l k := by
  unfold impl_ItemsOf spec_ItemsOf
  have : impl_ItemsOf_b1 k = spec_ItemsOf_b1 k := by funext i s a; unfold impl_ItemsOf_b1 spec_ItemsOf_b1; rw [impl_copySpan_eq, spec_l3Copy_eq]
  rw [this]
theorem main_Sent (w : World) (k : Int) : impl_Sent w k = spec_Sent w k := by
  unfold impl_Sent spec_Sent
  have : impl_Sent_b1 k = spec_Sent_b1 k := by funext i s a; unfold impl_Sent_b1 spec_Sent_b1; rw [main_ItemsOf]
  rw [this, main_ItemsOf, main_ItemsOf]
theorem main_Whole (w : World) (hs : World.bd 1048576 w) : impl_Whole w = spec_Whole w := by
  unfold impl_Whole spec_Whole
  have hd : w.Deeds.length ≤ 1048576 := hs.2.2.2.2.2.2.2.2.1
  have : impl_Whole_b1 w = spec_Whole_b1 w := by
    funext i s
    unfold impl_Whole_b1 spec_Whole_b1
    have hc : decide ((1 + ((i : Nat) : Int)) ≤ 9999) = decide ((1 + ((i : Nat) : Int)) < 10000) := by
      rw [Bool.eq_iff_iff]; simp only [decide_eq_true_eq]; omega
    have hl : (spec_Sent w (1 + ((i : Nat) : Int))).length ≤ 4503599627370496 := Nat.le_trans (spec_Sent_len w _ hs) (by omega)
    rw [hc, main_Kept, main_Sent, main_Accepted _ _ hd, main_SameBag _ _ hl (Nat.le_trans (Accepted_len _ _ hd) (by omega))]
  rw [this]
theorem law_Whole (p0 : World) (hw0 : World.bd 9223372036854775807 p0) : laws_FnExactWhole p0 = true := by
  unfold laws_FnExactWhole
  by_cases hd : laws_szWorld p0 1048576 < 0
  · rw [decide_eq_true hd]; rfl
  · rw [decide_eq_false hd]
    have hs := (szd_laws_szWorld p0 1048576 hw0 (by omega) (by omega) (by omega)).1
    simp only [cond_false, id_laws_toWorld, main_Whole p0 hs, rf_laws_eqWorld, beq_self_eq_true, Bool.not_true]
theorem rows_sl {α : Type} (f : α → List T) (W : α → Prop) : ∀ rows : List (List T), (∀ r ∈ rows, ∃ x, r = f x ∧ W x) → ∃ l : List α, rows = l.map f ∧ ∀ x ∈ l, W x
  | [], _ => ⟨[], rfl, by simp⟩
  | r :: rows, h => by
    obtain ⟨x, hx, hw⟩ := h r (by simp)
    obtain ⟨l, hl, hw'⟩ := rows_sl f W rows (fun r hr => h r (by simp [hr]))
    exact ⟨x :: l, by simp [hx, hl], fun y hy => by rcases List.mem_cons.1 hy with rfl | hy; exact hw; exact hw' y hy⟩
theorem shape_sl {α : Type} (f : α → List T) {P : Nat → α → Prop} (W : α → Prop) (hW : W = P 9223372036854775807) {n t e k : Nat} (ht : prog.underlying t = some (.slice e)) (hk : prog.cellsOf e = k) {y : List T} (h : Shape prog (n + 1) t y) (hr : ∀ r, Shape prog n e r → ∃ x, r = f x ∧ W x) :
    ∃ l : List α, y = [.s false k (l.map f)] ∧ bdS P 9223372036854775807 l := by
  subst hW
  unfold Shape at h
  rw [ht] at h
  obtain ⟨rows, h1, h2, h3⟩ := h
  rw [hk] at h1
  obtain ⟨l, rfl, hw⟩ := rows_sl f _ rows (fun r hr' => hr r (h3 r hr').2)
  exact ⟨l, h1, by simpa [maxLen] using h2, hw⟩
theorem shape3 (n : Nat) {l : List T} (h : Shape prog n 3 l) : ∃ x : Int, l = [.v (.int .i64 x)] ∧ True := by
  cases n with
  | zero => exact (h : False).elim
  | succ n =>
    simp only [Shape, underlying3] at h
    obtain ⟨x, hx, _⟩ := h
    exact ⟨x, hx, trivial⟩
theorem shape9 (n : Nat) {l : List T} (h : Shape prog n 9 l) : ∃ x : ByteArray, l = [.v (.string x)] ∧ (x).size ≤ 9223372036854775807 := by
  cases n with
  | zero => exact (h : False).elim
  | succ n =>
    simp only [Shape, underlying9] at h
    obtain ⟨x, hx, hw⟩ := h
    exact ⟨x, hx, by simpa [maxLen] using hw⟩
theorem shape24 : ∀ (n : Nat) {l : List T}, Shape prog n 24 l → ∃ x : Pol, l = Pol.cells false x ∧ Pol.bd 9223372036854775807 x := by
  intro n
  induction n using Nat.strongRecOn with
  | _ n ih =>
    intro l h
    cases n with
    | zero => exact (h : False).elim
    | succ n =>
      unfold Shape at h
      rw [underlying24] at h
      simp only [ShapeL] at h
      obtain ⟨l0, _, rfl, h0, l1, _, rfl, h1, l2, _, rfl, h2, l3, _, rfl, h3, l4, _, rfl, h4, rfl⟩ := h
      obtain ⟨x0, rfl, w0⟩ := shape3 n h0
      obtain ⟨x1, rfl, w1⟩ := shape3 n h1
      obtain ⟨x2, rfl, w2⟩ := shape9 n h2
      obtain ⟨x3, rfl, w3⟩ := shape9 n h3
      obtain ⟨x4, rfl, w4⟩ : ∃ x : List Pol, l4 = [.s false 5 (List.map (Pol.cells false) x)] ∧ bdS Pol.bd 9223372036854775807 x := by
        cases n with
        | zero => exact (h4 : False).elim
        | succ n => exact shape_sl (Pol.cells false) (P := Pol.bd) _ rfl underlying22 (by kernel_rfl) h4 (fun r hr => ih n (by omega) hr)
      refine ⟨⟨x0, x1, x2, x3, x4⟩, ?_, ?_⟩
      · rw [Pol.cells_eq]; rfl
      · rw [Pol.bd_eq]; exact ⟨w2, w3, w4⟩
theorem shape22 (n : Nat) {l : List T} (h : Shape prog n 22 l) : ∃ x : (List Pol), l = [.s false 5 (List.map (Pol.cells false) x)] ∧ bdS Pol.bd 9223372036854775807 x := by
  cases n with
  | zero => exact (h : False).elim
  | succ n =>
    exact shape_sl (Pol.cells false) (P := Pol.bd) _ rfl underlying22 (by kernel_rfl) h (fun r hr => shape24 n hr)
theorem shape26 (n : Nat) {l : List T} (h : Shape prog n 26 l) : ∃ x : Conf, l = (Conf.cells false) x ∧ Conf.bd 9223372036854775807 x := by
  cases n with
  | zero => exact (h : False).elim
  | succ n =>
    unfold Shape at h
    rw [underlying26] at h
    simp only [ShapeL] at h
    obtain ⟨_, _, rfl, h0, _, _, rfl, h1, _, _, rfl, h2, _, _, rfl, h3, _, _, rfl, h4, _, _, rfl, h5, _, _, rfl, h6, _, _, rfl, h7, rfl⟩ := h
    obtain ⟨x0, rfl, w0⟩ := shape3 n h0
    obtain ⟨x1, rfl, w1⟩ := shape3 n h1
    obtain ⟨x2, rfl, w2⟩ := shape3 n h2
    obtain ⟨x3, rfl, w3⟩ := shape3 n h3
    obtain ⟨x4, rfl, w4⟩ := shape3 n h4
    obtain ⟨x5, rfl, w5⟩ := shape3 n h5
    obtain ⟨x6, rfl, w6⟩ := shape3 n h6
    obtain ⟨x7, e7, w7⟩ := shape24 n h7
    rw [Pol.cells_eq] at e7
    subst e7
    exact ⟨⟨x0, x1, x2, x3, x4, x5, x6, x7⟩, rfl, w7⟩
theorem shape4 (n : Nat) {l : List T} (h : Shape prog n 4 l) : ∃ x : Bool, l = [.v (.bool x)] ∧ True := by
  cases n with
  | zero => exact (h : False).elim
  | succ n =>
    simp only [Shape, underlying4] at h
    obtain ⟨x, hx⟩ := h
    exact ⟨x, hx, trivial⟩
theorem shape203 (n : Nat) {l : List T} (h : Shape prog n 203 l) : ∃ x : Attr, l = Attr.cells x ∧ Attr.bd 9223372036854775807 x := by
  cases n with
  | zero => exact (h : False).elim
  | succ n =>
    unfold Shape at h
    rw [underlying203] at h
    simp only [ShapeL] at h
    obtain ⟨_, _, rfl, h0, _, _, rfl, h1, _, _, rfl, h2, _, _, rfl, h3, rfl⟩ := h
    obtain ⟨x0, rfl, w0⟩ := shape9 n h0
    obtain ⟨x1, rfl, w1⟩ := shape4 n h1
    obtain ⟨x2, rfl, w2⟩ := shape3 n h2
    obtain ⟨x3, rfl, w3⟩ := shape9 n h3
    exact ⟨⟨x0, x1, x2, x3⟩, rfl, ⟨w0, w3⟩⟩
theorem shape118 (n : Nat) {l : List T} (h : Shape prog n 118 l) : ∃ x : (List Attr), l = [.s false 4 (List.map Attr.cells x)] ∧ bdS Attr.bd 9223372036854775807 x := by
  cases n with
  | zero => exact (h : False).elim
  | succ n =>
    exact shape_sl Attr.cells (P := Attr.bd) _ rfl underlying118 (by kernel_rfl) h (fun r hr => shape203 n hr)
theorem shape120 (n : Nat) {l : List T} (h : Shape prog n 120 l) : ∃ x : Span, l = (Span.cells false) x ∧ Span.bd 9223372036854775807 x := by
  cases n with
  | zero => exact (h : False).elim
  | succ n =>
    unfold Shape at h
    rw [underlying120] at h
    simp only [ShapeL] at h
    obtain ⟨_, _, rfl, h0, _, _, rfl, h1, _, _, rfl, h2, _, _, rfl, h3, _, _, rfl, h4, _, _, rfl, h5, rfl⟩ := h
    obtain ⟨x0, rfl, w0⟩ := shape3 n h0
    obtain ⟨x1, rfl, w1⟩ := shape3 n h1
    obtain ⟨x2, rfl, w2⟩ := shape3 n h2
    obtain ⟨x3, rfl, w3⟩ := shape3 n h3
    obtain ⟨x4, rfl, w4⟩ := shape4 n h4
    obtain ⟨x5, rfl, w5⟩ := shape118 n h5
    exact ⟨⟨x0, x1, x2, x3, x4, x5⟩, rfl, w5⟩
theorem shape130 (n : Nat) {l : List T} (h : Shape prog n 130 l) : ∃ x : (List Span), l = [.s false 6 (List.map (Span.cells false) x)] ∧ bdS Span.bd 9223372036854775807 x := by
  cases n with
  | zero => exact (h : False).elim
  | succ n =>
    exact shape_sl (Span.cells false) (P := Span.bd) _ rfl underlying130 (by kernel_rfl) h (fun r hr => shape120 n hr)
theorem shape132 (n : Nat) {l : List T} (h : Shape prog n 132 l) : ∃ x : Trail, l = (Trail.cells false) x ∧ Trail.bd 9223372036854775807 x := by
  cases n with
  | zero => exact (h : False).elim
  | succ n =>
    unfold Shape at h
    rw [underlying132] at h
    simp only [ShapeL] at h
    obtain ⟨_, _, rfl, h0, _, _, rfl, h1, _, _, rfl, h2, _, _, rfl, h3, rfl⟩ := h
    obtain ⟨x0, rfl, w0⟩ := shape3 n h0
    obtain ⟨x1, rfl, w1⟩ := shape3 n h1
    obtain ⟨x2, rfl, w2⟩ := shape3 n h2
    obtain ⟨x3, rfl, w3⟩ := shape130 n h3
    exact ⟨⟨x0, x1, x2, x3⟩, rfl, w3⟩
theorem shape40 (n : Nat) {l : List T} (h : Shape prog n 40 l) : ∃ x : (List Trail), l = [.s false 4 (List.map (Trail.cells false) x)] ∧ bdS Trail.bd 9223372036854775807 x := by
  cases n with
  | zero => exact (h : False).elim
  | succ n =>
    exact shape_sl (Trail.cells false) (P := Trail.bd) _ rfl underlying40 (by kernel_rfl) h (fun r hr => shape132 n hr)
theorem shape115 (n : Nat) {l : List T} (h : Shape prog n 115 l) : ∃ x : Stripe, l = (Stripe.cells false) x ∧ Stripe.bd 9223372036854775807 x := by
  cases n with
  | zero => exact (h : False).elim
  | succ n =>
    unfold Shape at h
    rw [underlying115] at h
    simp only [ShapeL] at h
    obtain ⟨_, _, rfl, h0, _, _, rfl, h1, rfl⟩ := h
    obtain ⟨x0, rfl, w0⟩ := shape3 n h0
    obtain ⟨x1, rfl, w1⟩ := shape40 n h1
    exact ⟨⟨x0, x1⟩, rfl, w1⟩
theorem shape27 (n : Nat) {l : List T} (h : Shape prog n 27 l) : ∃ x : (List Stripe), l = [.s false 2 (List.map (Stripe.cells false) x)] ∧ bdS Stripe.bd 9223372036854775807 x := by
  cases n with
  | zero => exact (h : False).elim
  | succ n =>
    exact shape_sl (Stripe.cells false) (P := Stripe.bd) _ rfl underlying27 (by kernel_rfl) h (fun r hr => shape115 n hr)
theorem shape29 (n : Nat) {l : List T} (h : Shape prog n 29 l) : ∃ x : Bucket, l = Bucket.cells x ∧ True := by
  cases n with
  | zero => exact (h : False).elim
  | succ n =>
    unfold Shape at h
    rw [underlying29] at h
    simp only [ShapeL] at h
    obtain ⟨_, _, rfl, h0, _, _, rfl, h1, _, _, rfl, h2, _, _, rfl, h3, rfl⟩ := h
    obtain ⟨x0, rfl, w0⟩ := shape3 n h0
    obtain ⟨x1, rfl, w1⟩ := shape3 n h1
    obtain ⟨x2, rfl, w2⟩ := shape3 n h2
    obtain ⟨x3, rfl, w3⟩ := shape3 n h3
    exact ⟨⟨x0, x1, x2, x3⟩, rfl, trivial⟩
theorem shape142 (n : Nat) {l : List T} (h : Shape prog n 142 l) : ∃ x : Verdict, l = Verdict.cells x ∧ True := by
  cases n with
  | zero => exact (h : False).elim
  | succ n =>
    unfold Shape at h
    rw [underlying142] at h
    simp only [ShapeL] at h
    obtain ⟨_, _, rfl, h0, _, _, rfl, h1, _, _, rfl, h2, rfl⟩ := h
    obtain ⟨x0, rfl, w0⟩ := shape3 n h0
    obtain ⟨x1, rfl, w1⟩ := shape3 n h1
    obtain ⟨x2, rfl, w2⟩ := shape4 n h2
    exact ⟨⟨x0, x1, x2⟩, rfl, trivial⟩
theorem shape30 (n : Nat) {l : List T} (h : Shape prog n 30 l) : ∃ x : (List Verdict), l = [.s false 3 (List.map Verdict.cells x)] ∧ bdS Verdict.bd 9223372036854775807 x := by
  cases n with
  | zero => exact (h : False).elim
  | succ n =>
    exact shape_sl Verdict.cells (P := Verdict.bd) _ rfl underlying30 (by kernel_rfl) h (fun r hr => shape142 n hr)
theorem shape147 (n : Nat) {l : List T} (h : Shape prog n 147 l) : ∃ x : Timer, l = Timer.cells x ∧ True := by
  cases n with
  | zero => exact (h : False).elim
  | succ n =>
    unfold Shape at h
    rw [underlying147] at h
    simp only [ShapeL] at h
    obtain ⟨_, _, rfl, h0, _, _, rfl, h1, _, _, rfl, h2, rfl⟩ := h
    obtain ⟨x0, rfl, w0⟩ := shape3 n h0
    obtain ⟨x1, rfl, w1⟩ := shape3 n h1
    obtain ⟨x2, rfl, w2⟩ := shape3 n h2
    exact ⟨⟨x0, x1, x2⟩, rfl, trivial⟩
theorem shape32 (n : Nat) {l : List T} (h : Shape prog n 32 l) : ∃ x : (List Timer), l = [.s false 3 (List.map Timer.cells x)] ∧ bdS Timer.bd 9223372036854775807 x := by
  cases n with
  | zero => exact (h : False).elim
  | succ n =>
    exact shape_sl Timer.cells (P := Timer.bd) _ rfl underlying32 (by kernel_rfl) h (fun r hr => shape147 n hr)
theorem shape31 (n : Nat) {l : List T} (h : Shape prog n 31 l) : ∃ x : (List (List Timer)), l = [.s false 1 (List.map (cSl false 3 Timer.cells) x)] ∧ bdS (bdS Timer.bd) 9223372036854775807 x := by
  cases n with
  | zero => exact (h : False).elim
  | succ n =>
    exact shape_sl (cSl false 3 Timer.cells) (P := (bdS Timer.bd)) _ rfl underlying31 (by kernel_rfl) h (fun r hr => shape32 n hr)
theorem shape34 (n : Nat) {l : List T} (h : Shape prog n 34 l) : ∃ x : Wheel, l = (Wheel.cells false) x ∧ Wheel.bd 9223372036854775807 x := by
  cases n with
  | zero => exact (h : False).elim
  | succ n =>
    unfold Shape at h
    rw [underlying34] at h
    simp only [ShapeL] at h
    obtain ⟨_, _, rfl, h0, _, _, rfl, h1, _, _, rfl, h2, _, _, rfl, h3, rfl⟩ := h
    obtain ⟨x0, rfl, w0⟩ := shape3 n h0
    obtain ⟨x1, rfl, w1⟩ := shape31 n h1
    obtain ⟨x2, rfl, w2⟩ := shape31 n h2
    obtain ⟨x3, rfl, w3⟩ := shape32 n h3
    exact ⟨⟨x0, x1, x2, x3⟩, rfl, ⟨w1, w2, w3⟩⟩
theorem shape122 (n : Nat) {l : List T} (h : Shape prog n 122 l) : ∃ x : Item, l = (Item.cells false) x ∧ Item.bd 9223372036854775807 x := by
  cases n with
  | zero => exact (h : False).elim
  | succ n =>
    unfold Shape at h
    rw [underlying122] at h
    simp only [ShapeL] at h
    obtain ⟨_, _, rfl, h0, _, _, rfl, h1, rfl⟩ := h
    obtain ⟨x0, rfl, w0⟩ := shape3 n h0
    obtain ⟨x1, rfl, w1⟩ := shape120 n h1
    exact ⟨⟨x0, x1⟩, rfl, w1⟩
theorem shape35 (n : Nat) {l : List T} (h : Shape prog n 35 l) : ∃ x : (List Item), l = [.s false 7 (List.map (Item.cells false) x)] ∧ bdS Item.bd 9223372036854775807 x := by
  cases n with
  | zero => exact (h : False).elim
  | succ n =>
    exact shape_sl (Item.cells false) (P := Item.bd) _ rfl underlying35 (by kernel_rfl) h (fun r hr => shape122 n hr)
theorem shape125 (n : Nat) {l : List T} (h : Shape prog n 125 l) : ∃ x : Task, l = (Task.cells false) x ∧ Task.bd 9223372036854775807 x := by
  cases n with
  | zero => exact (h : False).elim
  | succ n =>
    unfold Shape at h
    rw [underlying125] at h
    simp only [ShapeL] at h
    obtain ⟨_, _, rfl, h0, _, _, rfl, h1, _, _, rfl, h2, _, _, rfl, h3, _, _, rfl, h4, _, _, rfl, h5, _, _, rfl, h6, rfl⟩ := h
    obtain ⟨x0, rfl, w0⟩ := shape3 n h0
    obtain ⟨x1, rfl, w1⟩ := shape3 n h1
    obtain ⟨x2, rfl, w2⟩ := shape120 n h2
    obtain ⟨x3, rfl, w3⟩ := shape3 n h3
    obtain ⟨x4, rfl, w4⟩ := shape3 n h4
    obtain ⟨x5, rfl, w5⟩ := shape35 n h5
    obtain ⟨x6, rfl, w6⟩ := shape3 n h6
    exact ⟨⟨x0, x1, x2, x3, x4, x5, x6⟩, rfl, ⟨w2, w5⟩⟩
theorem shape36 (n : Nat) {l : List T} (h : Shape prog n 36 l) : ∃ x : (List Task), l = [.s false 12 (List.map (Task.cells false) x)] ∧ bdS Task.bd 9223372036854775807 x := by
  cases n with
  | zero => exact (h : False).elim
  | succ n =>
    exact shape_sl (Task.cells false) (P := Task.bd) _ rfl underlying36 (by kernel_rfl) h (fun r hr => shape125 n hr)
theorem shape128 (n : Nat) {l : List T} (h : Shape prog n 128 l) : ∃ x : Deed, l = (Deed.cells false) x ∧ Deed.bd 9223372036854775807 x := by
  cases n with
  | zero => exact (h : False).elim
  | succ n =>
    unfold Shape at h
    rw [underlying128] at h
    simp only [ShapeL] at h
    obtain ⟨_, _, rfl, h0, _, _, rfl, h1, _, _, rfl, h2, _, _, rfl, h3, _, _, rfl, h4, _, _, rfl, h5, _, _, rfl, h6, _, _, rfl, h7, _, _, rfl, h8, _, _, rfl, h9, _, _, rfl, h10, _, _, rfl, h11, _, _, rfl, h12, _, _, rfl, h13, _, _, rfl, h14, rfl⟩ := h
    obtain ⟨x0, rfl, w0⟩ := shape3 n h0
    obtain ⟨x1, rfl, w1⟩ := shape3 n h1
    obtain ⟨x2, rfl, w2⟩ := shape120 n h2
    obtain ⟨x3, rfl, w3⟩ := shape3 n h3
    obtain ⟨x4, rfl, w4⟩ := shape3 n h4
    obtain ⟨x5, rfl, w5⟩ := shape3 n h5
    obtain ⟨x6, rfl, w6⟩ := shape4 n h6
    obtain ⟨x7, rfl, w7⟩ := shape4 n h7
    obtain ⟨x8, rfl, w8⟩ := shape3 n h8
    obtain ⟨x9, rfl, w9⟩ := shape3 n h9
    obtain ⟨x10, rfl, w10⟩ := shape3 n h10
    obtain ⟨x11, rfl, w11⟩ := shape3 n h11
    obtain ⟨x12, rfl, w12⟩ := shape3 n h12
    obtain ⟨x13, rfl, w13⟩ := shape3 n h13
    obtain ⟨x14, rfl, w14⟩ := shape3 n h14
    exact ⟨⟨x0, x1, x2, x3, x4, x5, x6, x7, x8, x9, x10, x11, x12, x13, x14⟩, rfl, w2⟩
theorem shape37 (n : Nat) {l : List T} (h : Shape prog n 37 l) : ∃ x : (List Deed), l = [.s false 20 (List.map (Deed.cells false) x)] ∧ bdS Deed.bd 9223372036854775807 x := by
  cases n with
  | zero => exact (h : False).elim
  | succ n =>
    exact shape_sl (Deed.cells false) (P := Deed.bd) _ rfl underlying37 (by kernel_rfl) h (fun r hr => shape128 n hr)
theorem shape39 (n : Nat) {l : List T} (h : Shape prog n 39 l) : ∃ x : World, l = (World.cells false) x ∧ World.bd 9223372036854775807 x := by
  cases n with
  | zero => exact (h : False).elim
  | succ n =>
    unfold Shape at h
    rw [underlying39] at h
    simp only [ShapeL] at h
    obtain ⟨_, _, rfl, h0, _, _, rfl, h1, _, _, rfl, h2, _, _, rfl, h3, _, _, rfl, h4, _, _, rfl, h5, _, _, rfl, h6, _, _, rfl, h7, _, _, rfl, h8, _, _, rfl, h9, _, _, rfl, h10, _, _, rfl, h11, _, _, rfl, h12, _, _, rfl, h13, _, _, rfl, h14, rfl⟩ := h
    obtain ⟨x0, rfl, w0⟩ := shape26 n h0
    obtain ⟨x1, rfl, w1⟩ := shape3 n h1
    obtain ⟨x2, rfl, w2⟩ := shape4 n h2
    obtain ⟨x3, rfl, w3⟩ := shape27 n h3
    obtain ⟨x4, rfl, w4⟩ := shape3 n h4
    obtain ⟨x5, rfl, w5⟩ := shape29 n h5
    obtain ⟨x6, rfl, w6⟩ := shape30 n h6
    obtain ⟨x7, rfl, w7⟩ := shape3 n h7
    obtain ⟨x8, rfl, w8⟩ := shape34 n h8
    obtain ⟨x9, rfl, w9⟩ := shape32 n h9
    obtain ⟨x10, rfl, w10⟩ := shape35 n h10
    obtain ⟨x11, rfl, w11⟩ := shape35 n h11
    obtain ⟨x12, rfl, w12⟩ := shape36 n h12
    obtain ⟨x13, rfl, w13⟩ := shape37 n h13
    obtain ⟨x14, rfl, w14⟩ := shape3 n h14
    exact ⟨⟨x0, x1, x2, x3, x4, x5, x6, x7, x8, x9, x10, x11, x12, x13, x14⟩, rfl, ⟨w0, w3, w6, w8, w9, w10, w11, w12, w13⟩⟩
theorem arg39 {n : Nat} {l : List T} (h : Shape prog n 39 l) : ∃ x : World, l = (World.cells false) x ∧ World.bd 9223372036854775807 x := shape39 n h
theorem law_c (p0 : World) (h0 : World.bd 9223372036854775807 p0) : FnOk prog 4 [.agg ((World.cells false) p0)] ⟨.one (.v (.bool true)), [], [], false⟩ :=
  FnOk.fits ⟨_, func4, by kernel_rfl, by kernel_rfl⟩ (fun hf => by
    have h := c_laws_FnExactWhole p0 h0
    rw [law_Whole p0 h0] at h
    exact h)

end Go.Proofs.Tryz.Ev
