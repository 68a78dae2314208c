import Derived.Test.YtalbniledlbogaaLModelNewWalk
set_option linter.unusedSectionVars false

namespace Go.Proofs.Try.Ev
open Go Go.Ev Go.Proofs
set_option maxHeartbeats 4000000
set_option maxRecDepth 100000
set_option linter.unusedSimpArgs false
set_option linter.unusedVariables false
set_option linter.unusedSectionVars false
theorem copyR_id (g : Nat → Pol → Pol) (hg : ∀ n p, g (n + 1) p = Fin.get (fun s1 => Pol.mk p.Kind p.N p.Key p.Text s1) (loopL (fun (_ : Nat) (s : List Pol) a => (.next (s ++ [g n a]) : Step (List Pol) Pol)) 0 ([] : List Pol) p.L)) : ∀ (n : Nat) (p : Pol), Pol.dep p < n → g n p = p := by
  intro n
  induction n with
  | zero => intro p h; omega
  | succ n ih =>
    intro p h
    have key : ∀ (l : List Pol) (i : Nat) (s : List Pol), (∀ x ∈ l, Pol.dep x < n) → loopL (fun (_ : Nat) (s : List Pol) a => (.next (s ++ [g n a]) : Step (List Pol) Pol)) i s l = .fin (s ++ l) := by
      intro l
      induction l with
      | nil => intro i s _; simp [loopL]
      | cons a l ih2 =>
        intro i s hl
        unfold loopL
        simp only
        rw [ih a (hl a (by simp)), ih2 (i + 1) _ (fun x hx => hl x (by simp [hx]))]
        simp
    rw [hg, key p.L 0 [] (fun x hx => by have := Pol.depL_mem hx; have := Pol.dep_L p; omega)]
    cases p
    rfl
theorem copyPol_id (p : Pol) : impl_copyPol p = p := copyR_id impl_copyPolR (fun _ _ => rfl) _ p (Nat.lt_succ_self _)
theorem l5Copy_id (p : Pol) : spec_l5Copy p = p := copyR_id spec_l5CopyR (fun _ _ => rfl) _ p (Nat.lt_succ_self _)
theorem main_ModelNew (c : Conf) : impl_ModelNew c = spec_ModelNew c := by
  unfold impl_ModelNew spec_ModelNew
  rw [main_ConfOk]
  unfold impl_copyConf spec_l13Copy
  rw [copyPol_id, l5Copy_id]
  rfl
theorem markT_nil (k : Int) : laws_markTrailS [] k = (k, []) := rfl
theorem markV_nil (k : Int) : laws_markVerdictS [] k = (k, []) := rfl
theorem heldT_nil (k : Int) : laws_heldTrailS [] k = k := rfl
theorem heldV_nil (k : Int) : laws_heldVerdictS [] k = k := rfl
theorem markP_nil (k : Int) : laws_markPolS [] k = (k, []) := rfl
theorem heldP_nil (k : Int) : laws_heldPolS [] k = k := rfl
theorem new_parts (c : Conf) : (spec_ModelNew c).Open = [] ∧ (spec_ModelNew c).Cache = [] ∧ ((spec_ModelNew c).C.Rule = c.Rule ∨ (spec_ModelNew c).C.Rule.L = []) := by
  cases h : spec_ConfOk c with
  | true =>
    have e : spec_ModelNew c = Model.mk (spec_l13Copy c) false [] [] (spec_BucketNew c.Rate c.Burst) 0 := by unfold spec_ModelNew; rw [h]; rfl
    rw [e]
    refine ⟨rfl, rfl, .inl ?_⟩
    show (spec_l13Copy c).Rule = c.Rule
    unfold spec_l13Copy
    exact l5Copy_id _
  | false =>
    have e : spec_ModelNew c = Model.mk (Conf.mk 0 0 0 0 0 0 0 (Pol.mk 0 0 (ByteArray.mk #[]) (ByteArray.mk #[]) [])) false [] [] (Bucket.mk 0 0 0 0) 0 := by unfold spec_ModelNew; rw [h]; rfl
    rw [e]
    exact ⟨rfl, rfl, .inr rfl⟩
theorem law_ModelNew (p0 : Conf) (hw0 : Conf.bd 9223372036854775807 p0) : laws_FnExactModelNew p0 = true := by
  unfold laws_FnExactModelNew
  by_cases hd : laws_szConf p0 1048576 < 0
  · rw [decide_eq_true hd]; rfl
  · rw [decide_eq_false hd]
    have hm := (ms_Conf p0 1048576 1 hw0 (by omega) (by omega) (by omega) (by omega) (by omega)).2.1
    have hm2 : decide ((laws_markConf p0 1).1 < 0) = false := by simp only [decide_eq_false_iff_not]; omega
    obtain ⟨e1, e2, e3⟩ := new_parts p0
    have hy : laws_heldPolS (laws_markPolS (spec_ModelNew p0).C.Rule.L 1).2 1 = (laws_markPolS (spec_ModelNew p0).C.Rule.L 1).1 ∧ 1 ≤ (laws_markPolS (spec_ModelNew p0).C.Rule.L 1).1 := by
      rcases e3 with e3 | e3
      · rw [e3]
        obtain ⟨l2, f1, f2, f3, _⟩ := sz_rule p0 1048576 hw0 (by omega) (by omega) (by omega)
        obtain ⟨b1, b2, b3⟩ := Pol.bd_eq.1 (show Pol.bd 9223372036854775807 p0.Rule from hw0)
        have hdl := Pol.dep_L p0.Rule
        exact ⟨hm_PolR _ (Pol.dep p0.Rule) _ p0.Rule.L l2 1 (Nat.lt_succ_self _) (by omega) (Nat.lt_succ_self _) b3 f1 (by omega) f3 (by omega) (by omega),
          (ms_PolR _ (Pol.dep p0.Rule) p0.Rule.L l2 1 (Nat.lt_succ_self _) (by omega) b3 f1 (by omega) f3 (by omega) (by omega)).2.1⟩
      · rw [e3, markP_nil, heldP_nil]; exact ⟨rfl, Int.le_refl _⟩
    obtain ⟨hy1, hy2⟩ := hy
    have hn : decide ((laws_markPolS (spec_ModelNew p0).C.Rule.L 1).1 < 0) = false := by simp only [decide_eq_false_iff_not]; omega
    have mm : (laws_markModel (spec_ModelNew p0) 1).1 = (laws_markPolS (spec_ModelNew p0).C.Rule.L 1).1 := by
      unfold laws_markModel laws_markConf laws_markPol
      rw [e1, e2, markT_nil, markV_nil]
    have m1 : (laws_markModel (spec_ModelNew p0) 1).2.C.Rule.L = (laws_markPolS (spec_ModelNew p0).C.Rule.L 1).2 := rfl
    have m2 : (laws_markModel (spec_ModelNew p0) 1).2.Open = [] := by
      unfold laws_markModel
      rw [e1, markT_nil]
    have m3 : (laws_markModel (spec_ModelNew p0) 1).2.Cache = [] := by
      unfold laws_markModel
      rw [e2, markV_nil]
    simp only [cond_false, id_laws_toConf, main_ModelNew, rf_laws_eqModel, rf_laws_eqConf, Bool.not_true, hm2]
    rw [mm, m1, m2, m3]
    unfold laws_heldModel laws_heldConf laws_heldPol
    simp only [hy1, hn, cond_false, heldT_nil, heldV_nil, bne_self_eq_false]
theorem rows_sl {α : Type} (f : α → List T) (W : α → Prop) : ∀ rows : List (List T), (∀ r ∈ rows, ∃ x, r = f x ∧ W x) → ∃ l : List α, rows = l.map f ∧ ∀ x ∈ l, W x
  | [], _ => ⟨[], rfl, by simp⟩
  | r :: rows, h => by
    obtain ⟨x, hx, hw⟩ := h r (by simp)
    obtain ⟨l, hl, hw'⟩ := rows_sl f W rows (fun r hr => h r (by simp [hr]))
    exact ⟨x :: l, by simp [hx, hl], fun y hy => by rcases List.mem_cons.1 hy with rfl | hy; exact hw; exact hw' y hy⟩
theorem shape_sl {α : Type} (f : α → List T) {P : Nat → α → Prop} (W : α → Prop) (hW : W = P 9223372036854775807) {n t e k : Nat} (ht : prog.underlying t = some (.slice e)) (hk : prog.cellsOf e = k) {y : List T} (h : Shape prog (n + 1) t y) (hr : ∀ r, Shape prog n e r → ∃ x, r = f x ∧ W x) :
    ∃ l : List α, y = [.s false k (l.map f)] ∧ bdS P 9223372036854775807 l := by
  subst hW
  unfold Shape at h
  rw [ht] at h
  obtain ⟨rows, h1, h2, h3⟩ := h
  rw [hk] at h1
  obtain ⟨l, rfl, hw⟩ := rows_sl f _ rows (fun r hr' => hr r (h3 r hr').2)
  exact ⟨l, h1, by simpa [maxLen] using h2, hw⟩
theorem shape3 (n : Nat) {l : List T} (h : Shape prog n 3 l) : ∃ x : Int, l = [.v (.int .i64 x)] ∧ True := by
  cases n with
  | zero => exact (h : False).elim
  | succ n =>
    simp only [Shape, underlying3] at h
    obtain ⟨x, hx, _⟩ := h
    exact ⟨x, hx, trivial⟩
theorem shape9 (n : Nat) {l : List T} (h : Shape prog n 9 l) : ∃ x : ByteArray, l = [.v (.string x)] ∧ (x).size ≤ 9223372036854775807 := by
  cases n with
  | zero => exact (h : False).elim
  | succ n =>
    simp only [Shape, underlying9] at h
    obtain ⟨x, hx, hw⟩ := h
    exact ⟨x, hx, by simpa [maxLen] using hw⟩
theorem shape35 : ∀ (n : Nat) {l : List T}, Shape prog n 35 l → ∃ x : Pol, l = Pol.cells false x ∧ Pol.bd 9223372036854775807 x := by
  intro n
  induction n using Nat.strongRecOn with
  | _ n ih =>
    intro l h
    cases n with
    | zero => exact (h : False).elim
    | succ n =>
      unfold Shape at h
      rw [underlying35] at h
      simp only [ShapeL] at h
      obtain ⟨l0, _, rfl, h0, l1, _, rfl, h1, l2, _, rfl, h2, l3, _, rfl, h3, l4, _, rfl, h4, rfl⟩ := h
      obtain ⟨x0, rfl, w0⟩ := shape3 n h0
      obtain ⟨x1, rfl, w1⟩ := shape3 n h1
      obtain ⟨x2, rfl, w2⟩ := shape9 n h2
      obtain ⟨x3, rfl, w3⟩ := shape9 n h3
      obtain ⟨x4, rfl, w4⟩ : ∃ x : List Pol, l4 = [.s false 5 (List.map (Pol.cells false) x)] ∧ bdS Pol.bd 9223372036854775807 x := by
        cases n with
        | zero => exact (h4 : False).elim
        | succ n => exact shape_sl (Pol.cells false) (P := Pol.bd) _ rfl underlying33 (by kernel_rfl) h4 (fun r hr => ih n (by omega) hr)
      refine ⟨⟨x0, x1, x2, x3, x4⟩, ?_, ?_⟩
      · rw [Pol.cells_eq]; rfl
      · rw [Pol.bd_eq]; exact ⟨w2, w3, w4⟩
theorem shape33 (n : Nat) {l : List T} (h : Shape prog n 33 l) : ∃ x : (List Pol), l = [.s false 5 (List.map (Pol.cells false) x)] ∧ bdS Pol.bd 9223372036854775807 x := by
  cases n with
  | zero => exact (h : False).elim
  | succ n =>
    exact shape_sl (Pol.cells false) (P := Pol.bd) _ rfl underlying33 (by kernel_rfl) h (fun r hr => shape35 n hr)
theorem shape37 (n : Nat) {l : List T} (h : Shape prog n 37 l) : ∃ x : Conf, l = (Conf.cells false) x ∧ Conf.bd 9223372036854775807 x := by
  cases n with
  | zero => exact (h : False).elim
  | succ n =>
    unfold Shape at h
    rw [underlying37] at h
    simp only [ShapeL] at h
    obtain ⟨_, _, rfl, h0, _, _, rfl, h1, _, _, rfl, h2, _, _, rfl, h3, _, _, rfl, h4, _, _, rfl, h5, _, _, rfl, h6, _, _, rfl, h7, rfl⟩ := h
    obtain ⟨x0, rfl, w0⟩ := shape3 n h0
    obtain ⟨x1, rfl, w1⟩ := shape3 n h1
    obtain ⟨x2, rfl, w2⟩ := shape3 n h2
    obtain ⟨x3, rfl, w3⟩ := shape3 n h3
    obtain ⟨x4, rfl, w4⟩ := shape3 n h4
    obtain ⟨x5, rfl, w5⟩ := shape3 n h5
    obtain ⟨x6, rfl, w6⟩ := shape3 n h6
    obtain ⟨x7, e7, w7⟩ := shape35 n h7
    rw [Pol.cells_eq] at e7
    subst e7
    exact ⟨⟨x0, x1, x2, x3, x4, x5, x6, x7⟩, rfl, w7⟩
theorem arg37 {n : Nat} {l : List T} (h : Shape prog n 37 l) : ∃ x : Conf, l = (Conf.cells false) x ∧ Conf.bd 9223372036854775807 x := shape37 n h
theorem law_c (p0 : Conf) (h0 : Conf.bd 9223372036854775807 p0) : FnOk prog 4 [.agg ((Conf.cells false) p0)] ⟨.one (.v (.bool true)), [], [], false⟩ :=
  FnOk.fits ⟨_, func4, by kernel_rfl, by kernel_rfl⟩ (fun hf => by
    have h := c_laws_FnExactModelNew p0 h0
    rw [law_ModelNew p0 h0] at h
    exact h)

end Go.Proofs.Try.Ev
