import Derived.Test.YtjimlpgolbejnaaGreatLSettledWalkC
set_option linter.unusedSectionVars false

namespace Go.Proofs.Tryz.Ev
open Go Go.Ev Go.Proofs
set_option maxHeartbeats 4000000
set_option maxRecDepth 100000
set_option linter.unusedSimpArgs false
set_option linter.unusedVariables false
set_option linter.unusedSectionVars false
theorem known_any (w : World) (t : Trail) : spec_l16Known w t.Id t.Stamp = ((impl_Timers w.W ++ w.Due) ++ w.Tasks.flatMap tmOf).any (fun a => impl_stampsOk_1 a t) := by
  rw [known_eq, List.any_append (ys := w.Tasks.flatMap tmOf)]
  congr 1
  · congr 1
    funext a
    unfold impl_stampsOk_1
    cases (a.Id == t.Stamp) <;> rfl
  · rw [List.any_flatMap]
    congr 1
    funext a
    unfold tmOf
    cases (a.Op == 2) <;> cases (a.Pc != 3) <;> simp [impl_stampsOk_1]
theorem sstamps_eq (w : World) (hn : 1 ≤ w.Next) (hn2 : w.Next ≤ 9223372036854775807) : spec_l16Stamps w = ((w.St.flatMap (fun x => x.L)).all (fun t => !decide (t.Stamp ≥ w.Next) && spec_l16Known w t.Id t.Stamp) && (w.Cache.all (fun v => !decide (v.Stamp ≥ w.Next)) &&
    (impl_Timers w.W ++ w.Due).all (fun a => (decide (a.Id ≥ 1) && !decide (a.Id ≥ w.Next)) && impl_within a.Trace 1 999))) := by
  unfold spec_l16Stamps
  rw [all_get (p := fun x : Stripe => x.L.all (fun t => !decide (t.Stamp ≥ w.Next) && spec_l16Known w t.Id t.Stamp)) (b := spec_l16Stamps_b1 w) (fun i s a => by
    unfold spec_l16Stamps_b1
    rw [all_loop (p := fun t : Trail => !decide (t.Stamp ≥ w.Next) && spec_l16Known w t.Id t.Stamp) (r := (.done false : Step Unit Bool)) (b := spec_l16Stamps_b2 w) (fun i s a => by
      unfold spec_l16Stamps_b2
      cases decide (a.Stamp ≥ w.Next) <;> cases spec_l16Known w a.Id a.Stamp <;> rfl)]
    cases List.all a.L _ <;> rfl)]
  rw [all_get (p := fun v : Verdict => !decide (v.Stamp ≥ w.Next)) (b := spec_l16Stamps_b3 w) (fun i s a => by unfold spec_l16Stamps_b3; cases decide (a.Stamp ≥ w.Next) <;> rfl)]
  rw [all_get (p := fun a : Timer => (decide (a.Id ≥ 1) && !decide (a.Id ≥ w.Next)) && impl_within a.Trace 1 999) (b := spec_l16Stamps_b4 w) (fun i s a => by
    unfold spec_l16Stamps_b4
    rw [Go.Ev.wrap_small (n := w.Next - 1) (by omega) (by omega), show spec_l1In a.Trace 1 999 = impl_within a.Trace 1 999 from rfl]
    unfold spec_l1In
    rw [show decide (a.Id ≤ w.Next - 1) = !decide (a.Id ≥ w.Next) from by
      by_cases h : a.Id ≥ w.Next
      · rw [decide_eq_true h, decide_eq_false (by omega)]; rfl
      · rw [decide_eq_false h, decide_eq_true (by omega)]; rfl]
    cases decide (a.Id ≥ 1) <;> cases decide (a.Id ≥ w.Next) <;> cases impl_within a.Trace 1 999 <;> rfl), main_Timers, List.all_flatMap]
  simp
theorem get_next {σ ρ : Type} (k : σ → ρ) (s : σ) : Step.get k (.next s) = k s := rfl
theorem get_done {σ ρ : Type} (k : σ → ρ) (r : ρ) : Step.get k (.done r) = r := rfl
theorem impl_iff (w : World) : impl_WorldOk w = true ↔ impl_ConfOk w.C = true ∧ ¬ w.Time < 0 ∧ impl_within w.RuleHeld (-1) 4 = true ∧ ¬ w.Next < 1 ∧ impl_StripesOk w.St = true ∧ ((w.St.length : Nat) : Int) = w.C.Stripes ∧
    impl_WheelOk w.W = true ∧ ¬ w.W.Now > 100000 ∧ (w.Shut = true → ¬ (((impl_Timers w.W).length : Nat) : Int) > 0) ∧ impl_BucketOk w.B = true ∧ w.B.Rate = w.C.Rate ∧ w.B.Burst = w.C.Burst ∧ ¬ w.B.At > w.W.Now ∧
    impl_CacheOk w.Cache w.C.Cache = true ∧ w.Used = impl_HeldBytes w.St ∧ ¬ w.Used > w.C.Budget ∧ ¬ ((w.Queue.length : Nat) : Int) > w.C.Queue ∧ impl_itemsOk w.Queue = true ∧ impl_itemsOk w.Out = true ∧
    w.Due.all (fun a => !decide (a.Id < 1) && impl_within a.Trace 1 999) = true ∧ w.Deeds.all (fun a => impl_DeedOk a && !decide (max (max a.Inv a.Lin) a.Res ≥ w.Time)) = true ∧ impl_tasksOk w = true ∧ impl_stampsOk w = true := by
  unfold impl_WorldOk impl_valuesOk impl_valuesOk_j1
  rw [all_get (p := fun a : Timer => !decide (a.Id < 1) && impl_within a.Trace 1 999) (b := impl_valuesOk_b2) (fun i s a => by unfold impl_valuesOk_b2; cases decide (a.Id < 1) <;> cases impl_within a.Trace 1 999 <;> rfl),
    all_get (p := fun a : Deed => impl_DeedOk a && !decide (max (max a.Inv a.Lin) a.Res ≥ w.Time)) (b := impl_valuesOk_b3 w) (fun i s a => by unfold impl_valuesOk_b3; cases impl_DeedOk a <;> cases decide (max (max a.Inv a.Lin) a.Res ≥ w.Time) <;> rfl)]
  simp only [get_bif, get_next, get_done, bnf, bft, bff, bneI, Bool.not_not, Bool.and_true]
  have hs : ∀ X : Bool, (bif w.Shut then (!decide ((((impl_Timers w.W).length : Nat) : Int) > 0) && X) else X) = ((!w.Shut || !decide ((((impl_Timers w.W).length : Nat) : Int) > 0)) && X) := fun X => by cases w.Shut <;> cases X <;> simp
  rw [hs]
  simp only [Bool.and_eq_true, Bool.or_eq_true, Bool.not_eq_true', decide_eq_true_eq, decide_eq_false_iff_not, and_assoc]
  have hs2 : (w.Shut = false ∨ ¬ (((impl_Timers w.W).length : Nat) : Int) > 0) ↔ (w.Shut = true → ¬ (((impl_Timers w.W).length : Nat) : Int) > 0) := by cases w.Shut <;> simp
  rw [hs2]
theorem spec_iff (w : World) : spec_WorldOk w = true ↔ impl_ConfOk w.C = true ∧ ¬ w.Time < 0 ∧ ¬ w.Next < 1 ∧ impl_StripesOk w.St = true ∧ ((w.St.length : Nat) : Int) = w.C.Stripes ∧ impl_BucketOk w.B = true ∧ w.B.Rate = w.C.Rate ∧ w.B.Burst = w.C.Burst ∧ ¬ w.B.At > w.W.Now ∧
    impl_CacheOk w.Cache w.C.Cache = true ∧ w.Used = impl_HeldBytes w.St ∧ ¬ w.Used > w.C.Budget ∧ impl_WheelOk w.W = true ∧ ¬ w.W.Now > 100000 ∧ (w.Shut = true → ¬ (((impl_Timers w.W).length : Nat) : Int) > 0) ∧ ¬ ((w.Queue.length : Nat) : Int) > w.C.Queue ∧
    ((w.Tasks.length : Nat) : Int) = 5 ∧ impl_itemsOk w.Queue = true ∧ impl_itemsOk w.Out = true ∧ w.Deeds.all (fun a => impl_DeedOk a && !decide (max (max a.Inv a.Lin) a.Res ≥ w.Time)) = true ∧ spec_l16Stamps w = true ∧ spec_l16Tasks w = true := by
  unfold spec_WorldOk spec_WorldOk_j1
  rw [all_get (p := spec_ItemOk) (b := spec_WorldOk_b2) (fun i s a => by unfold spec_WorldOk_b2; cases spec_ItemOk a <;> rfl), all_get (p := spec_ItemOk) (b := spec_WorldOk_b3) (fun i s a => by unfold spec_WorldOk_b3; cases spec_ItemOk a <;> rfl),
    all_get (p := fun a : Deed => impl_DeedOk a && !decide (max (max a.Inv a.Lin) a.Res ≥ w.Time)) (b := spec_WorldOk_b4 w) (fun i s a => by
      unfold spec_WorldOk_b4
      rw [main_DeedOk]
      have hm : decide (max (max a.Inv a.Lin) a.Res ≥ w.Time) = (decide (a.Inv ≥ w.Time) || (decide (a.Lin ≥ w.Time) || decide (a.Res ≥ w.Time))) := by
        rw [Bool.eq_iff_iff]
        simp only [decide_eq_true_eq, Bool.or_eq_true]
        omega
      rw [hm]
      cases impl_DeedOk a <;> cases decide (a.Inv ≥ w.Time) <;> cases decide (a.Lin ≥ w.Time) <;> cases decide (a.Res ≥ w.Time) <;> rfl),
    main_ConfOk, main_StripesOk, main_CacheOk, main_HeldBytes, main_WheelOk, main_Timers, show spec_BucketOk w.B = impl_BucketOk w.B from rfl, ← main_itemsOk, ← main_itemsOk]
  simp only [get_bif, get_next, get_done, bnf, bft, bff, bneI, Bool.not_not, Bool.and_true]
  have hs : ∀ X : Bool, (bif w.Shut then (!decide ((((impl_Timers w.W).length : Nat) : Int) > 0) && X) else X) = ((!w.Shut || !decide ((((impl_Timers w.W).length : Nat) : Int) > 0)) && X) := fun X => by cases w.Shut <;> cases X <;> simp
  rw [hs]
  simp only [Bool.and_eq_true, Bool.or_eq_true, Bool.not_eq_true', decide_eq_true_eq, decide_eq_false_iff_not, and_assoc]
  have hs2 : (w.Shut = false ∨ ¬ (((impl_Timers w.W).length : Nat) : Int) > 0) ↔ (w.Shut = true → ¬ (((impl_Timers w.W).length : Nat) : Int) > 0) := by cases w.Shut <;> simp
  rw [hs2]
/-- The lock of the rule is no one's, or a task's. -/
theorem rule_in (w : World) (h : impl_tasksOk w = true) : ((w.Tasks.length : Nat) : Int) = 5 ∧ impl_within w.RuleHeld (-1) 4 = true := by
  unfold impl_tasksOk at h
  rw [bff] at h
  simp only [Bool.and_eq_true, Bool.not_eq_true', bneI, Bool.not_eq_false', decide_eq_true_eq] at h
  obtain ⟨h5, h⟩ := h
  refine ⟨h5, ?_⟩
  have key : ∀ (l : List Task) (i : Nat) (s : List Int × Int), (i + l.length = 5) → (-1 ≤ s.2 ∧ s.2 ≤ 4) → ∀ t, loopL (impl_tasksOk_b2 w) i s l = .fin t → (-1 ≤ t.2 ∧ t.2 ≤ 4) := by
    intro l
    induction l with
    | nil => intro i s _ hs t ht; cases ht; exact hs
    | cons a l ih =>
      intro i s hi hs t ht
      simp only [List.length_cons] at hi
      unfold loopL at ht
      have hn : ∀ v, impl_tasksOk_b2 w i s a = .next v → (-1 ≤ v.2 ∧ v.2 ≤ 4) := by
        intro v hv
        unfold impl_tasksOk_b2 at hv
        cases hj : impl_tasksOk_j3 a i w with
        | done r =>
          rw [hj] at hv
          unfold impl_tasksOk_j3 at hj
          simp only [Bool.cond_eq_ite] at hj
          simp only [Step.get] at hv
          repeat' split at hj
          all_goals first | (cases hj; cases hv) | cases hj
        | stop r =>
          unfold impl_tasksOk_j3 at hj
          simp only [Bool.cond_eq_ite] at hj
          repeat' split at hj
          all_goals cases hj
        | next r =>
          rw [hj] at hv
          simp only [Step.get] at hv
          cases hz : impl_tasksOk_j4 a w s i with
          | done r => rw [hz] at hv; have := j4_done hz; subst this; cases hv
          | stop r => exact (j4_stop hz).elim
          | next u =>
            rw [hz] at hv
            simp only at hv
            cases hc : impl_HoldsRule a with
            | false => rw [hc] at hv; cases hv; exact hs
            | true =>
              rw [hc] at hv
              cases hd : (s.2 != -1) with
              | true => rw [hd] at hv; cases hv
              | false => rw [hd] at hv; cases hv; simp only; omega
      cases hb : impl_tasksOk_b2 w i s a with
      | next v => rw [hb] at ht; exact ih (i + 1) v (by omega) (hn v hb) t ht
      | stop v =>
        exfalso
        unfold impl_tasksOk_b2 at hb
        cases hj : impl_tasksOk_j3 a i w with
        | done r =>
          rw [hj] at hb
          unfold impl_tasksOk_j3 at hj
          simp only [Bool.cond_eq_ite] at hj
          simp only [Step.get] at hb
          repeat' split at hj
          all_goals first | (cases hj; cases hb) | cases hj
        | stop r =>
          unfold impl_tasksOk_j3 at hj
          simp only [Bool.cond_eq_ite] at hj
          repeat' split at hj
          all_goals cases hj
        | next r =>
          rw [hj] at hb
          simp only [Step.get] at hb
          cases hz : impl_tasksOk_j4 a w s i with
          | done r => rw [hz] at hb; have := j4_done hz; subst this; cases hb
          | stop r => exact (j4_stop hz).elim
          | next u =>
            rw [hz] at hb
            simp only at hb
            cases hc : impl_HoldsRule a with
            | false => rw [hc] at hb; cases hb
            | true =>
              rw [hc] at hb
              cases hd : (s.2 != -1) <;> rw [hd] at hb <;> cases hb
      | done v => rw [hb] at ht; cases ht
  have hc := set_const w.St [] (List.replicate w.St.length 0) (by simp)
  simp only [List.nil_append, List.length_nil] at hc
  rw [hc] at h
  simp only [Fin.get] at h
  cases hf : loopL (impl_tasksOk_b2 w) 0 (List.replicate w.St.length (-1), -1) w.Tasks with
  | done r =>
    rw [hf] at h
    simp only at h
    exfalso
    have : r = false := by
      refine done_false (r0 := false) (b := impl_tasksOk_b2 w) (fun i s a r hr => ?_) _ _ _ _ hf
      unfold impl_tasksOk_b2 at hr
      cases hj : impl_tasksOk_j3 a i w with
      | done r =>
        rw [hj] at hr
        unfold impl_tasksOk_j3 at hj
        simp only [Bool.cond_eq_ite] at hj
        simp only [Step.get] at hr
        repeat' split at hj
        all_goals first | (cases hj; cases hr; rfl) | cases hj
      | stop r =>
        unfold impl_tasksOk_j3 at hj
        simp only [Bool.cond_eq_ite] at hj
        repeat' split at hj
        all_goals cases hj
      | next r =>
        rw [hj] at hr
        simp only [Step.get] at hr
        cases hz : impl_tasksOk_j4 a w s i with
        | done r => rw [hz] at hr; have := j4_done hz; subst this; cases hr; rfl
        | stop r => exact (j4_stop hz).elim
        | next u =>
          rw [hz] at hr
          simp only at hr
          cases hc : impl_HoldsRule a with
          | false => rw [hc] at hr; cases hr
          | true =>
            rw [hc] at hr
            cases hd : (s.2 != -1) <;> rw [hd] at hr <;> cases hr
            rfl
    rw [this] at h; cases h
  | fin t =>
    rw [hf] at h
    simp only at h
    have h2 := key _ _ _ (by omega) (by simp) t hf
    have h3 : w.RuleHeld = t.2 := by
      cases hl : loopL (impl_tasksOk_b5 t) 0 () w.St with
      | fin u => rw [hl] at h; simpa using h
      | done r =>
        rw [hl] at h
        simp only at h
        have : r = false := done_false (r0 := false) (b := impl_tasksOk_b5 t) (fun i s a r hr => by
          unfold impl_tasksOk_b5 at hr
          cases hd : (a.Held != (t.1[i]?.getD default)) <;> rw [hd] at hr <;> cases hr
          rfl) _ _ _ _ hl
        rw [this] at h; cases h
    rw [within_iff]
    omega
theorem main_WorldOk (w : World) (hn2 : w.Next ≤ 9223372036854775807) : impl_WorldOk w = spec_WorldOk w := by
  rw [Bool.eq_iff_iff, impl_iff, spec_iff]
  constructor
  · rintro ⟨a1, a2, a3, a4, a5, a6, a7, a8, a9, a10, a11, a12, a13, a14, a15, a16, a17, a18, a19, a20, a21, a22, a23⟩
    obtain ⟨h5, _⟩ := rule_in w a22
    have h5n : w.Tasks.length = 5 := by omega
    rw [stamps_eq, Bool.and_eq_true, Bool.not_eq_true', ← Bool.not_eq_true, List.any_eq_true] at a23
    obtain ⟨b1, b2⟩ := a23
    have lt : ∀ n, (n ∈ (impl_Timers w.W ++ w.Due).map Timer.Id ++ w.Cache.map Verdict.Stamp ++ w.Tasks.map Task.Stamp ++ (w.St.flatMap (fun x => x.L)).map Trail.Stamp) → ¬ n ≥ w.Next := fun n hn hh => b2 ⟨n, hn, decide_eq_true hh⟩
    refine ⟨a1, a2, a4, a5, a6, a10, a11, a12, a13, a14, a15, a16, a7, a8, a9, a17, h5, a18, a19, a21, ?_, ?_⟩
    · rw [sstamps_eq w (by omega) hn2]
      simp only [Bool.and_eq_true, List.all_eq_true, Bool.not_eq_true', decide_eq_true_eq, decide_eq_false_iff_not]
      refine ⟨fun t ht => ⟨lt _ ?_, ?_⟩, fun v hv => lt _ ?_, fun a ha => ⟨⟨?_, lt _ ?_⟩, ?_⟩⟩
      · simp only [List.mem_append]; exact .inr (List.mem_map.2 ⟨t, ht, rfl⟩)
      · rw [known_any]; exact (List.all_eq_true.1 b1) t ht
      · simp only [List.mem_append]; exact .inl (.inl (.inr (List.mem_map.2 ⟨v, hv, rfl⟩)))
      · rcases List.mem_append.1 ha with ha | ha
        · exact (wheel_ids a7 a ha).1
        · have := (List.all_eq_true.1 a20) a ha
          simp only [Bool.and_eq_true, Bool.not_eq_true', decide_eq_false_iff_not] at this
          omega
      · rw [List.mem_append, List.mem_append, List.mem_append]; exact .inl (.inl (.inl (List.mem_map.2 ⟨a, ha, rfl⟩)))
      · rcases List.mem_append.1 ha with ha | ha
        · exact (wheel_ids a7 a ha).2
        · have := (List.all_eq_true.1 a20) a ha
          simp only [Bool.and_eq_true] at this
          exact this.2
    · rw [main_Tasks w h5n, Bool.and_eq_true]
      refine ⟨a22, List.all_eq_true.2 fun t ht => ?_⟩
      rw [Bool.not_eq_true', decide_eq_false_iff_not]
      refine lt _ ?_
      rw [List.mem_append, List.mem_append]; exact .inl (.inr (List.mem_map.2 ⟨t, ht, rfl⟩))
  · rintro ⟨a1, a2, a4, a5, a6, a10, a11, a12, a13, a14, a15, a16, a7, a8, a9, a17, h5, a18, a19, a21, a22, a23⟩
    have h5n : w.Tasks.length = 5 := by omega
    rw [main_Tasks w h5n, Bool.and_eq_true] at a23
    obtain ⟨c1, c2⟩ := a23
    obtain ⟨_, a3⟩ := rule_in w c1
    rw [sstamps_eq w (by omega) hn2] at a22
    simp only [Bool.and_eq_true, List.all_eq_true, Bool.not_eq_true', decide_eq_true_eq, decide_eq_false_iff_not] at a22 c2
    obtain ⟨b1, b2, b3⟩ := a22
    refine ⟨a1, a2, a3, a4, a5, a6, a7, a8, a9, a10, a11, a12, a13, a14, a15, a16, a17, a18, a19, ?_, a21, c1, ?_⟩
    · refine List.all_eq_true.2 fun a ha => ?_
      have := b3 a (List.mem_append.2 (.inr ha))
      simp only [Bool.and_eq_true, Bool.not_eq_true', decide_eq_false_iff_not]
      exact ⟨by omega, this.2⟩
    · rw [stamps_eq, Bool.and_eq_true, Bool.not_eq_true', ← Bool.not_eq_true, List.any_eq_true]
      refine ⟨List.all_eq_true.2 fun t ht => by rw [← known_any]; exact (b1 t ht).2, ?_⟩
      rintro ⟨n, hn, hh⟩
      have hh := of_decide_eq_true hh
      rw [List.mem_append, List.mem_append, List.mem_append] at hn
      simp only [List.mem_map] at hn
      rcases hn with ((⟨a, ha, rfl⟩ | ⟨v, hv, rfl⟩) | ⟨t, ht, rfl⟩) | ⟨t, ht, rfl⟩
      · exact (b3 a ha).1.2 hh
      · exact b2 v hv hh
      · exact c2 t ht hh
      · exact (b1 t ht).1 hh
theorem main_Quiet (w : World) (hn2 : w.Next ≤ 9223372036854775807) : impl_Quiet w = spec_Quiet w := by
  unfold impl_Quiet spec_Quiet
  rw [main_WorldOk w hn2]
  rfl
theorem spec_l3Copy_eq (x : Span) : spec_l3Copy x = x := by cases x; simp [spec_l3Copy]
theorem spec_l3All_eq (l : List Span) : spec_l3All l = l := by
  unfold spec_l3All
  rw [app_flat (b := spec_l3All_b1) (fun a => [a]) (fun i s a => by unfold spec_l3All_b1 spec_l3Copy; rfl), List.nil_append]
  simp [Fin.get]
theorem spec_l10Copy_eq (t : Trail) : spec_l10Copy t = t := by
  cases t
  simp [spec_l10Copy, spec_l3All_eq]
theorem otr_while (s : List Trail) (t : Trail) (hl : s.length ≤ 4503599627370496) : ∀ (n k : Nat), k ≤ n → k ≤ s.length → loopW (spec_OpenTrails_b4 s t) n (k : Int) = .fin ((insN Trail.Id s t.Id k : Nat) : Int)
  | n, 0, _, _ => by
    have hb : spec_OpenTrails_b4 s t ((0 : Nat) : Int) = .stop ((0 : Nat) : Int) := by unfold spec_OpenTrails_b4; simp
    exact loopW_stop hb n
  | 0, k + 1, h, _ => by omega
  | n + 1, k + 1, h1, h2 => by
    have hd : decide (((k + 1 : Nat) : Int) > 0) = true := decide_eq_true (by omega)
    have w : IntKind.i64.wrap (((k + 1 : Nat) : Int) - 1) = (k : Int) := by rw [wrap_small] <;> omega
    unfold insN
    by_cases hc : (s[k]?.getD default).Id > t.Id
    · have hb : spec_OpenTrails_b4 s t ((k + 1 : Nat) : Int) = .next (k : Int) := by
        unfold spec_OpenTrails_b4
        rw [hd, w, spec_l10Copy_eq]
        have : decide ((s[(k : Int).toNat]?.getD default).Id > t.Id) = true := decide_eq_true hc
        rw [this]; rfl
      unfold loopW
      rw [hb, if_pos hc]
      exact otr_while s t hl n k (by omega) (by omega)
    · have hb : spec_OpenTrails_b4 s t ((k + 1 : Nat) : Int) = .stop ((k + 1 : Nat) : Int) := by
        unfold spec_OpenTrails_b4
        rw [hd, w, spec_l10Copy_eq]
        have : decide ((s[(k : Int).toNat]?.getD default).Id > t.Id) = false := decide_eq_false hc
        rw [this]; rfl
      rw [if_neg hc]
      exact loopW_stop hb _
theorem otr_b2 (i : Nat) (s : List Trail) (t : Trail) (hl : s.length ≤ 4503599627370496) : spec_OpenTrails_b2 i s t = .next (ins Trail.Id s t) := by
  unfold spec_OpenTrails_b2 spec_OpenTrails_j3
  have e : loopW (spec_OpenTrails_b4 s t) (Int.toNat ((s.length : Nat) : Int)) ((s.length : Nat) : Int) = .fin ((insN Trail.Id s t.Id s.length : Nat) : Int) := otr_while s t hl s.length s.length (Nat.le_refl _) (Nat.le_refl _)
  rw [e, spec_l10Copy_eq]
  simp only [Fin.get_fin, Step.get]
  unfold ins
  generalize insN Trail.Id s t.Id s.length = k
  rw [show (k : Int).toNat = k from rfl]
  have : List.take (s.length - k) (List.drop k s) = List.drop k s := List.take_of_length_le (by simp)
  rw [this]
  simp
theorem otr_in : ∀ (l : List Trail) (i : Nat) (s : List Trail), s.length + l.length ≤ 4503599627370496 → loopL spec_OpenTrails_b2 i s l = .fin (insAll Trail.Id s l)
  | [], i, s, _ => rfl
  | t :: l, i, s, h => by
    simp only [List.length_cons] at h
    unfold loopL
    rw [otr_b2 i s t (by omega)]
    exact otr_in l (i + 1) _ (by rw [ins_len]; omega)
theorem insAll_len {α : Type} [Inhabited α] (key : α → Int) : ∀ (l s : List α), (insAll key s l).length = s.length + l.length
  | [], s => rfl
  | a :: l, s => by
    show (insAll key (ins key s a) l).length = _
    rw [insAll_len key l, ins_len, List.length_cons]; omega
theorem otr_out : ∀ (l : List Stripe) (i : Nat) (s : List Trail), s.length + (l.flatMap (fun x => x.L)).length ≤ 4503599627370496 → loopL spec_OpenTrails_b1 i s l = .fin (insAll Trail.Id s (l.flatMap (fun x => x.L)))
  | [], i, s, _ => rfl
  | x :: l, i, s, h => by
    simp only [List.flatMap_cons, List.length_append] at h ⊢
    unfold loopL
    have hb : spec_OpenTrails_b1 i s x = .next (insAll Trail.Id s x.L) := by
      unfold spec_OpenTrails_b1
      rw [otr_in x.L 0 s (by omega)]
      rfl
    rw [hb, insAll_append]
    exact otr_out l (i + 1) _ (by rw [insAll_len]; omega)
theorem all_ofS {α σ ρ : Type} {q : α → Prop} {b : Nat → σ → α → Step σ ρ} {r0 : ρ} (hq : ∀ i s a, b i s a = .done r0 ∨ (q a ∧ ∃ v, b i s a = .next v)) : ∀ (l : List α) (i : Nat) (s : σ), loopL b i s l = .done r0 ∨ ((∀ a ∈ l, q a) ∧ ∃ v, loopL b i s l = .fin v)
  | [], i, s => .inr ⟨fun a ha => (List.not_mem_nil ha).elim, s, rfl⟩
  | x :: l, i, s => by
    rcases hq i s x with h1 | ⟨h1, v, h2⟩
    · left; unfold loopL; rw [h1]; rfl
    · rcases all_ofS hq l (i + 1) v with h3 | ⟨h3, u, h4⟩
      · left; unfold loopL; rw [h2]; exact h3
      · right
        refine ⟨fun a ha => ?_, u, ?_⟩
        · rcases List.mem_cons.1 ha with rfl | ha
          · exact h1
          · exact h3 a ha
        · unfold loopL; rw [h2]; exact h4
theorem stripes_trails {l : List Stripe} (h : impl_StripesOk l = true) : ∀ x ∈ l, ∀ t ∈ x.L, impl_TrailOk t = true := by
  unfold impl_StripesOk at h
  rw [bnf, Bool.and_eq_true] at h
  have := all_ofS (q := fun x : Stripe => ∀ t ∈ x.L, impl_TrailOk t = true) (b := impl_StripesOk_b1 l) (r0 := false) (fun i s x => by
    unfold impl_StripesOk_b1
    cases impl_within x.Held (-1) 4 with
    | false => exact .inl rfl
    | true =>
      simp only [Bool.not_true, cond_false]
      rcases all_ofS (q := fun t : Trail => impl_TrailOk t = true) (b := impl_StripesOk_b2 l i x) (r0 := (.done false : Step (List Int) Bool)) (fun k s t => by
        unfold impl_StripesOk_b2 impl_StripesOk_j3
        cases ht : impl_TrailOk t with
        | false => exact .inl rfl
        | true =>
          simp only [Bool.not_true, cond_false, get_bif, get_next, get_done]
          generalize slices_Contains_Sint_int s t.Stamp = c1
          generalize (impl_StripeOf t.Id ((l.length : Nat) : Int) != ((i : Nat) : Int)) = c2
          generalize decide (((k : Nat) : Int) > 0) = c3
          generalize decide ((x.L[(IntKind.i64.wrap (((k : Nat) : Int) - 1)).toNat]?.getD default).Id ≥ t.Id) = c4
          cases c1 <;> cases c2 <;> cases c3 <;> cases c4 <;> first | exact .inl rfl | exact .inr ⟨trivial, _, rfl⟩ | exact .inr ⟨rfl, _, rfl⟩) x.L 0 s with h1 | ⟨h1, v, h2⟩
      · rw [h1]; exact .inl rfl
      · rw [h2]; exact .inr ⟨h1, v, rfl⟩) l 0 []
  rcases this with h1 | ⟨h1, _⟩
  · rw [h1] at h; cases h.2
  · exact h1
theorem trail_spans {t : Trail} (h : impl_TrailOk t = true) : 1 ≤ t.Spans.length := by
  rcases Nat.eq_zero_or_pos t.Spans.length with h0 | h0
  · exfalso
    have hn : t.Spans = [] := List.eq_nil_of_length_eq_zero h0
    unfold impl_TrailOk at h
    rw [hn] at h
    have e : decide (((([] : List Span).length : Nat) : Int) > 0) = false := rfl
    simp only [loopL, Fin.get, e] at h
    generalize impl_within t.Id 1 999 = a at h
    generalize decide (t.Stamp ≥ 1) = b at h
    generalize impl_within t.First 0 2147483647 = c at h
    cases a <;> cases b <;> cases c <;> cases h
  · exact h0
theorem isum_pos {α : Type} (f : α → Int) (N : Int) : ∀ l : List α, (∀ a ∈ l, 0 ≤ f a ∧ f a ≤ N) → 0 ≤ isum f l ∧ isum f l ≤ N * (l.length : Int)
  | [], _ => by simp [isum]
  | a :: l, h => by
    have h1 := h a (by simp)
    have h2 := isum_pos f N l (fun x hx => h x (by simp [hx]))
    simp only [isum, List.length_cons, Int.natCast_add, Int.mul_add, Int.natCast_one, Int.mul_one]
    omega
theorem isum_zero {α : Type} (f : α → Int) : ∀ l : List α, (∀ a ∈ l, 0 ≤ f a) → isum f l = 0 → ∀ a ∈ l, f a = 0
  | [], _, _ => fun a ha => by cases ha
  | x :: l, h, h0 => by
    have h1 := h x (by simp)
    have h2 : 0 ≤ isum f l := by
      clear h0
      induction l with
      | nil => simp [isum]
      | cons y l ih =>
        have := ih (fun a ha => h a (by rcases List.mem_cons.1 ha with rfl | ha <;> simp [*]))
        have h3 := h y (by simp)
        simp only [isum]; omega
    simp only [isum] at h0
    intro a ha
    rcases List.mem_cons.1 ha with rfl | ha
    · omega
    · exact isum_zero f l (fun a ha => h a (by simp [ha])) (by omega) a ha
theorem main_Settled (w : World) (hs : World.bd 1048576 w) (hn2 : w.Next ≤ 9223372036854775807) : impl_Settled w = spec_Settled w := by
  unfold impl_Settled spec_Settled
  rw [main_Quiet w hn2]
  cases hq : spec_Quiet w with
  | false => rfl
  | true =>
    simp only [cond_true]
    have hw : impl_WorldOk w = true := by
      rw [main_WorldOk w hn2]
      unfold spec_Quiet at hq
      rw [bft, Bool.and_eq_true] at hq
      exact hq.1
    have hst := (impl_iff w).1 hw |>.2.2.2.2.1
    have ht := stripes_trails hst
    cases w.Shut with
    | false => rfl
    | true =>
      simp only [cond_true]
      have hb : ∀ x ∈ w.St, (0 : Int) ≤ isum (fun t : Trail => ((t.Spans.length : Nat) : Int)) x.L ∧ isum (fun t : Trail => ((t.Spans.length : Nat) : Int)) x.L ≤ 1099511627776 := by
        intro x hx
        have h1 := isum_pos (fun t : Trail => ((t.Spans.length : Nat) : Int)) 1048576 x.L (fun t h => by
          have : t.Spans.length ≤ 1048576 := ((hs.2.1.2 x hx).2 t h).1
          refine ⟨by omega, by omega⟩)
        have h2 : x.L.length ≤ 1048576 := (hs.2.1.2 x hx).1
        omega
      have hb2 := isum_pos (fun x : Stripe => isum (fun t : Trail => ((t.Spans.length : Nat) : Int)) x.L) 1099511627776 w.St hb
      have hl : w.St.length ≤ 1048576 := hs.2.1.1
      have hlen := allTrails_len w.St hs.2.1
      rw [allTrails_eq] at hlen
      have e : spec_OpenTrails w.St = insAll Trail.Id [] (w.St.flatMap (fun x => x.L)) := by
        unfold spec_OpenTrails
        rw [otr_out w.St 0 [] (by simp only [List.length_nil]; omega)]
        rfl
      rw [heldThings_eq, Go.Ev.wrap_small (by omega) (by omega), e, insAll_len, Bool.eq_iff_iff]
      simp only [beq_iff_eq, List.length_nil, Nat.zero_add]
      constructor
      · intro h0
        have h1 := isum_zero _ w.St (fun x hx => (hb x hx).1) h0
        have : w.St.flatMap (fun x => x.L) = [] := by
          rw [List.flatMap_eq_nil_iff]
          intro x hx
          have h2 := isum_zero (fun t : Trail => ((t.Spans.length : Nat) : Int)) x.L (fun t _ => by omega) (h1 x hx)
          refine List.eq_nil_iff_forall_not_mem.2 fun t htm => ?_
          have h3 := h2 t htm
          have h4 := trail_spans (ht x hx t htm)
          omega
        rw [this]; rfl
      · intro h0
        have h1 : w.St.flatMap (fun x => x.L) = [] := List.eq_nil_of_length_eq_zero (by omega)
        rw [List.flatMap_eq_nil_iff] at h1
        have : ∀ l : List Stripe, (∀ x ∈ l, x.L = []) → isum (fun x : Stripe => isum (fun t : Trail => ((t.Spans.length : Nat) : Int)) x.L) l = 0 := by
          intro l
          induction l with
          | nil => intro _; rfl
          | cons x l ih =>
            intro h
            simp only [isum]
            rw [h x (by simp), ih (fun y hy => h y (by simp [hy]))]
            rfl
        exact this _ h1
theorem law_Settled (p0 : World) (hw0 : World.bd 9223372036854775807 p0) (hr0 : World.rg p0) : laws_FnExactSettled p0 = true := by
  unfold laws_FnExactSettled
  by_cases hd : laws_szWorld p0 1048576 < 0
  · rw [decide_eq_true hd]; rfl
  · rw [decide_eq_false hd]
    have hs := (szd_laws_szWorld p0 1048576 hw0 (by omega) (by omega) (by omega)).1
    simp only [cond_false, id_laws_toWorld, main_Settled p0 hs (World.rg.Next hr0).2, rf_laws_eqWorld, beq_self_eq_true, Bool.not_true]
theorem rows_sl {α : Type} (f : α → List T) (W : α → Prop) : ∀ rows : List (List T), (∀ r ∈ rows, ∃ x, r = f x ∧ W x) → ∃ l : List α, rows = l.map f ∧ ∀ x ∈ l, W x
  | [], _ => ⟨[], rfl, by simp⟩
  | r :: rows, h => by
    obtain ⟨x, hx, hw⟩ := h r (by simp)
    obtain ⟨l, hl, hw'⟩ := rows_sl f W rows (fun r hr => h r (by simp [hr]))
    exact ⟨x :: l, by simp [hx, hl], fun y hy => by rcases List.mem_cons.1 hy with rfl | hy; exact hw; exact hw' y hy⟩
theorem shape_sl {α : Type} (f : α → List T) {P : Nat → α → Prop} (W : α → Prop) (hW : W = P 9223372036854775807) {n t e k : Nat} (ht : prog.underlying t = some (.slice e)) (hk : prog.cellsOf e = k) {y : List T} (h : Shape prog (n + 1) t y) (hr : ∀ r, Shape prog n e r → ∃ x, r = f x ∧ W x) :
    ∃ l : List α, y = [.s false k (l.map f)] ∧ bdS P 9223372036854775807 l := by
  subst hW
  unfold Shape at h
  rw [ht] at h
  obtain ⟨rows, h1, h2, h3⟩ := h
  rw [hk] at h1
  obtain ⟨l, rfl, hw⟩ := rows_sl f _ rows (fun r hr' => hr r (h3 r hr').2)
  exact ⟨l, h1, by simpa [maxLen] using h2, hw⟩
theorem shape3 (n : Nat) {l : List T} (h : Shape prog n 3 l) : ∃ x : Int, l = [.v (.int .i64 x)] ∧ True := by
  cases n with
  | zero => exact (h : False).elim
  | succ n =>
    simp only [Shape, underlying3] at h
    obtain ⟨x, hx, _⟩ := h
    exact ⟨x, hx, trivial⟩
theorem shape9 (n : Nat) {l : List T} (h : Shape prog n 9 l) : ∃ x : ByteArray, l = [.v (.string x)] ∧ (x).size ≤ 9223372036854775807 := by
  cases n with
  | zero => exact (h : False).elim
  | succ n =>
    simp only [Shape, underlying9] at h
    obtain ⟨x, hx, hw⟩ := h
    exact ⟨x, hx, by simpa [maxLen] using hw⟩
theorem shape24 : ∀ (n : Nat) {l : List T}, Shape prog n 24 l → ∃ x : Pol, l = Pol.cells false x ∧ Pol.bd 9223372036854775807 x := by
  intro n
  induction n using Nat.strongRecOn with
  | _ n ih =>
    intro l h
    cases n with
    | zero => exact (h : False).elim
    | succ n =>
      unfold Shape at h
      rw [underlying24] at h
      simp only [ShapeL] at h
      obtain ⟨l0, _, rfl, h0, l1, _, rfl, h1, l2, _, rfl, h2, l3, _, rfl, h3, l4, _, rfl, h4, rfl⟩ := h
      obtain ⟨x0, rfl, w0⟩ := shape3 n h0
      obtain ⟨x1, rfl, w1⟩ := shape3 n h1
      obtain ⟨x2, rfl, w2⟩ := shape9 n h2
      obtain ⟨x3, rfl, w3⟩ := shape9 n h3
      obtain ⟨x4, rfl, w4⟩ : ∃ x : List Pol, l4 = [.s false 5 (List.map (Pol.cells false) x)] ∧ bdS Pol.bd 9223372036854775807 x := by
        cases n with
        | zero => exact (h4 : False).elim
        | succ n => exact shape_sl (Pol.cells false) (P := Pol.bd) _ rfl underlying22 (by kernel_rfl) h4 (fun r hr => ih n (by omega) hr)
      refine ⟨⟨x0, x1, x2, x3, x4⟩, ?_, ?_⟩
      · rw [Pol.cells_eq]; rfl
      · rw [Pol.bd_eq]; exact ⟨w2, w3, w4⟩
theorem shape22 (n : Nat) {l : List T} (h : Shape prog n 22 l) : ∃ x : (List Pol), l = [.s false 5 (List.map (Pol.cells false) x)] ∧ bdS Pol.bd 9223372036854775807 x := by
  cases n with
  | zero => exact (h : False).elim
  | succ n =>
    exact shape_sl (Pol.cells false) (P := Pol.bd) _ rfl underlying22 (by kernel_rfl) h (fun r hr => shape24 n hr)
theorem shape26 (n : Nat) {l : List T} (h : Shape prog n 26 l) : ∃ x : Conf, l = (Conf.cells false) x ∧ Conf.bd 9223372036854775807 x := by
  cases n with
  | zero => exact (h : False).elim
  | succ n =>
    unfold Shape at h
    rw [underlying26] at h
    simp only [ShapeL] at h
    obtain ⟨_, _, rfl, h0, _, _, rfl, h1, _, _, rfl, h2, _, _, rfl, h3, _, _, rfl, h4, _, _, rfl, h5, _, _, rfl, h6, _, _, rfl, h7, rfl⟩ := h
    obtain ⟨x0, rfl, w0⟩ := shape3 n h0
    obtain ⟨x1, rfl, w1⟩ := shape3 n h1
    obtain ⟨x2, rfl, w2⟩ := shape3 n h2
    obtain ⟨x3, rfl, w3⟩ := shape3 n h3
    obtain ⟨x4, rfl, w4⟩ := shape3 n h4
    obtain ⟨x5, rfl, w5⟩ := shape3 n h5
    obtain ⟨x6, rfl, w6⟩ := shape3 n h6
    obtain ⟨x7, e7, w7⟩ := shape24 n h7
    rw [Pol.cells_eq] at e7
    subst e7
    exact ⟨⟨x0, x1, x2, x3, x4, x5, x6, x7⟩, rfl, w7⟩
theorem shape4 (n : Nat) {l : List T} (h : Shape prog n 4 l) : ∃ x : Bool, l = [.v (.bool x)] ∧ True := by
  cases n with
  | zero => exact (h : False).elim
  | succ n =>
    simp only [Shape, underlying4] at h
    obtain ⟨x, hx⟩ := h
    exact ⟨x, hx, trivial⟩
theorem shape211 (n : Nat) {l : List T} (h : Shape prog n 211 l) : ∃ x : Attr, l = Attr.cells x ∧ Attr.bd 9223372036854775807 x := by
  cases n with
  | zero => exact (h : False).elim
  | succ n =>
    unfold Shape at h
    rw [underlying211] at h
    simp only [ShapeL] at h
    obtain ⟨_, _, rfl, h0, _, _, rfl, h1, _, _, rfl, h2, _, _, rfl, h3, rfl⟩ := h
    obtain ⟨x0, rfl, w0⟩ := shape9 n h0
    obtain ⟨x1, rfl, w1⟩ := shape4 n h1
    obtain ⟨x2, rfl, w2⟩ := shape3 n h2
    obtain ⟨x3, rfl, w3⟩ := shape9 n h3
    exact ⟨⟨x0, x1, x2, x3⟩, rfl, ⟨w0, w3⟩⟩
theorem shape98 (n : Nat) {l : List T} (h : Shape prog n 98 l) : ∃ x : (List Attr), l = [.s false 4 (List.map Attr.cells x)] ∧ bdS Attr.bd 9223372036854775807 x := by
  cases n with
  | zero => exact (h : False).elim
  | succ n =>
    exact shape_sl Attr.cells (P := Attr.bd) _ rfl underlying98 (by kernel_rfl) h (fun r hr => shape211 n hr)
theorem shape100 (n : Nat) {l : List T} (h : Shape prog n 100 l) : ∃ x : Span, l = (Span.cells false) x ∧ Span.bd 9223372036854775807 x := by
  cases n with
  | zero => exact (h : False).elim
  | succ n =>
    unfold Shape at h
    rw [underlying100] at h
    simp only [ShapeL] at h
    obtain ⟨_, _, rfl, h0, _, _, rfl, h1, _, _, rfl, h2, _, _, rfl, h3, _, _, rfl, h4, _, _, rfl, h5, rfl⟩ := h
    obtain ⟨x0, rfl, w0⟩ := shape3 n h0
    obtain ⟨x1, rfl, w1⟩ := shape3 n h1
    obtain ⟨x2, rfl, w2⟩ := shape3 n h2
    obtain ⟨x3, rfl, w3⟩ := shape3 n h3
    obtain ⟨x4, rfl, w4⟩ := shape4 n h4
    obtain ⟨x5, rfl, w5⟩ := shape98 n h5
    exact ⟨⟨x0, x1, x2, x3, x4, x5⟩, rfl, w5⟩
theorem shape186 (n : Nat) {l : List T} (h : Shape prog n 186 l) : ∃ x : (List Span), l = [.s false 6 (List.map (Span.cells false) x)] ∧ bdS Span.bd 9223372036854775807 x := by
  cases n with
  | zero => exact (h : False).elim
  | succ n =>
    exact shape_sl (Span.cells false) (P := Span.bd) _ rfl underlying186 (by kernel_rfl) h (fun r hr => shape100 n hr)
theorem shape188 (n : Nat) {l : List T} (h : Shape prog n 188 l) : ∃ x : Trail, l = (Trail.cells false) x ∧ Trail.bd 9223372036854775807 x := by
  cases n with
  | zero => exact (h : False).elim
  | succ n =>
    unfold Shape at h
    rw [underlying188] at h
    simp only [ShapeL] at h
    obtain ⟨_, _, rfl, h0, _, _, rfl, h1, _, _, rfl, h2, _, _, rfl, h3, rfl⟩ := h
    obtain ⟨x0, rfl, w0⟩ := shape3 n h0
    obtain ⟨x1, rfl, w1⟩ := shape3 n h1
    obtain ⟨x2, rfl, w2⟩ := shape3 n h2
    obtain ⟨x3, rfl, w3⟩ := shape186 n h3
    exact ⟨⟨x0, x1, x2, x3⟩, rfl, w3⟩
theorem shape93 (n : Nat) {l : List T} (h : Shape prog n 93 l) : ∃ x : (List Trail), l = [.s false 4 (List.map (Trail.cells false) x)] ∧ bdS Trail.bd 9223372036854775807 x := by
  cases n with
  | zero => exact (h : False).elim
  | succ n =>
    exact shape_sl (Trail.cells false) (P := Trail.bd) _ rfl underlying93 (by kernel_rfl) h (fun r hr => shape188 n hr)
theorem shape95 (n : Nat) {l : List T} (h : Shape prog n 95 l) : ∃ x : Stripe, l = (Stripe.cells false) x ∧ Stripe.bd 9223372036854775807 x := by
  cases n with
  | zero => exact (h : False).elim
  | succ n =>
    unfold Shape at h
    rw [underlying95] at h
    simp only [ShapeL] at h
    obtain ⟨_, _, rfl, h0, _, _, rfl, h1, rfl⟩ := h
    obtain ⟨x0, rfl, w0⟩ := shape3 n h0
    obtain ⟨x1, rfl, w1⟩ := shape93 n h1
    exact ⟨⟨x0, x1⟩, rfl, w1⟩
theorem shape27 (n : Nat) {l : List T} (h : Shape prog n 27 l) : ∃ x : (List Stripe), l = [.s false 2 (List.map (Stripe.cells false) x)] ∧ bdS Stripe.bd 9223372036854775807 x := by
  cases n with
  | zero => exact (h : False).elim
  | succ n =>
    exact shape_sl (Stripe.cells false) (P := Stripe.bd) _ rfl underlying27 (by kernel_rfl) h (fun r hr => shape95 n hr)
theorem shape29 (n : Nat) {l : List T} (h : Shape prog n 29 l) : ∃ x : Bucket, l = Bucket.cells x ∧ True := by
  cases n with
  | zero => exact (h : False).elim
  | succ n =>
    unfold Shape at h
    rw [underlying29] at h
    simp only [ShapeL] at h
    obtain ⟨_, _, rfl, h0, _, _, rfl, h1, _, _, rfl, h2, _, _, rfl, h3, rfl⟩ := h
    obtain ⟨x0, rfl, w0⟩ := shape3 n h0
    obtain ⟨x1, rfl, w1⟩ := shape3 n h1
    obtain ⟨x2, rfl, w2⟩ := shape3 n h2
    obtain ⟨x3, rfl, w3⟩ := shape3 n h3
    exact ⟨⟨x0, x1, x2, x3⟩, rfl, trivial⟩
theorem shape134 (n : Nat) {l : List T} (h : Shape prog n 134 l) : ∃ x : Verdict, l = Verdict.cells x ∧ True := by
  cases n with
  | zero => exact (h : False).elim
  | succ n =>
    unfold Shape at h
    rw [underlying134] at h
    simp only [ShapeL] at h
    obtain ⟨_, _, rfl, h0, _, _, rfl, h1, _, _, rfl, h2, rfl⟩ := h
    obtain ⟨x0, rfl, w0⟩ := shape3 n h0
    obtain ⟨x1, rfl, w1⟩ := shape3 n h1
    obtain ⟨x2, rfl, w2⟩ := shape4 n h2
    exact ⟨⟨x0, x1, x2⟩, rfl, trivial⟩
theorem shape30 (n : Nat) {l : List T} (h : Shape prog n 30 l) : ∃ x : (List Verdict), l = [.s false 3 (List.map Verdict.cells x)] ∧ bdS Verdict.bd 9223372036854775807 x := by
  cases n with
  | zero => exact (h : False).elim
  | succ n =>
    exact shape_sl Verdict.cells (P := Verdict.bd) _ rfl underlying30 (by kernel_rfl) h (fun r hr => shape134 n hr)
theorem shape139 (n : Nat) {l : List T} (h : Shape prog n 139 l) : ∃ x : Timer, l = Timer.cells x ∧ True := by
  cases n with
  | zero => exact (h : False).elim
  | succ n =>
    unfold Shape at h
    rw [underlying139] at h
    simp only [ShapeL] at h
    obtain ⟨_, _, rfl, h0, _, _, rfl, h1, _, _, rfl, h2, rfl⟩ := h
    obtain ⟨x0, rfl, w0⟩ := shape3 n h0
    obtain ⟨x1, rfl, w1⟩ := shape3 n h1
    obtain ⟨x2, rfl, w2⟩ := shape3 n h2
    exact ⟨⟨x0, x1, x2⟩, rfl, trivial⟩
theorem shape32 (n : Nat) {l : List T} (h : Shape prog n 32 l) : ∃ x : (List Timer), l = [.s false 3 (List.map Timer.cells x)] ∧ bdS Timer.bd 9223372036854775807 x := by
  cases n with
  | zero => exact (h : False).elim
  | succ n =>
    exact shape_sl Timer.cells (P := Timer.bd) _ rfl underlying32 (by kernel_rfl) h (fun r hr => shape139 n hr)
theorem shape31 (n : Nat) {l : List T} (h : Shape prog n 31 l) : ∃ x : (List (List Timer)), l = [.s false 1 (List.map (cSl false 3 Timer.cells) x)] ∧ bdS (bdS Timer.bd) 9223372036854775807 x := by
  cases n with
  | zero => exact (h : False).elim
  | succ n =>
    exact shape_sl (cSl false 3 Timer.cells) (P := (bdS Timer.bd)) _ rfl underlying31 (by kernel_rfl) h (fun r hr => shape32 n hr)
theorem shape34 (n : Nat) {l : List T} (h : Shape prog n 34 l) : ∃ x : Wheel, l = (Wheel.cells false) x ∧ Wheel.bd 9223372036854775807 x := by
  cases n with
  | zero => exact (h : False).elim
  | succ n =>
    unfold Shape at h
    rw [underlying34] at h
    simp only [ShapeL] at h
    obtain ⟨_, _, rfl, h0, _, _, rfl, h1, _, _, rfl, h2, _, _, rfl, h3, rfl⟩ := h
    obtain ⟨x0, rfl, w0⟩ := shape3 n h0
    obtain ⟨x1, rfl, w1⟩ := shape31 n h1
    obtain ⟨x2, rfl, w2⟩ := shape31 n h2
    obtain ⟨x3, rfl, w3⟩ := shape32 n h3
    exact ⟨⟨x0, x1, x2, x3⟩, rfl, ⟨w1, w2, w3⟩⟩
theorem shape102 (n : Nat) {l : List T} (h : Shape prog n 102 l) : ∃ x : Item, l = (Item.cells false) x ∧ Item.bd 9223372036854775807 x := by
  cases n with
  | zero => exact (h : False).elim
  | succ n =>
    unfold Shape at h
    rw [underlying102] at h
    simp only [ShapeL] at h
    obtain ⟨_, _, rfl, h0, _, _, rfl, h1, rfl⟩ := h
    obtain ⟨x0, rfl, w0⟩ := shape3 n h0
    obtain ⟨x1, rfl, w1⟩ := shape100 n h1
    exact ⟨⟨x0, x1⟩, rfl, w1⟩
theorem shape35 (n : Nat) {l : List T} (h : Shape prog n 35 l) : ∃ x : (List Item), l = [.s false 7 (List.map (Item.cells false) x)] ∧ bdS Item.bd 9223372036854775807 x := by
  cases n with
  | zero => exact (h : False).elim
  | succ n =>
    exact shape_sl (Item.cells false) (P := Item.bd) _ rfl underlying35 (by kernel_rfl) h (fun r hr => shape102 n hr)
theorem shape105 (n : Nat) {l : List T} (h : Shape prog n 105 l) : ∃ x : Task, l = (Task.cells false) x ∧ Task.bd 9223372036854775807 x := by
  cases n with
  | zero => exact (h : False).elim
  | succ n =>
    unfold Shape at h
    rw [underlying105] at h
    simp only [ShapeL] at h
    obtain ⟨_, _, rfl, h0, _, _, rfl, h1, _, _, rfl, h2, _, _, rfl, h3, _, _, rfl, h4, _, _, rfl, h5, _, _, rfl, h6, rfl⟩ := h
    obtain ⟨x0, rfl, w0⟩ := shape3 n h0
    obtain ⟨x1, rfl, w1⟩ := shape3 n h1
    obtain ⟨x2, rfl, w2⟩ := shape100 n h2
    obtain ⟨x3, rfl, w3⟩ := shape3 n h3
    obtain ⟨x4, rfl, w4⟩ := shape3 n h4
    obtain ⟨x5, rfl, w5⟩ := shape35 n h5
    obtain ⟨x6, rfl, w6⟩ := shape3 n h6
    exact ⟨⟨x0, x1, x2, x3, x4, x5, x6⟩, rfl, ⟨w2, w5⟩⟩
theorem shape36 (n : Nat) {l : List T} (h : Shape prog n 36 l) : ∃ x : (List Task), l = [.s false 12 (List.map (Task.cells false) x)] ∧ bdS Task.bd 9223372036854775807 x := by
  cases n with
  | zero => exact (h : False).elim
  | succ n =>
    exact shape_sl (Task.cells false) (P := Task.bd) _ rfl underlying36 (by kernel_rfl) h (fun r hr => shape105 n hr)
theorem shape108 (n : Nat) {l : List T} (h : Shape prog n 108 l) : ∃ x : Deed, l = (Deed.cells false) x ∧ Deed.bd 9223372036854775807 x := by
  cases n with
  | zero => exact (h : False).elim
  | succ n =>
    unfold Shape at h
    rw [underlying108] at h
    simp only [ShapeL] at h
    obtain ⟨_, _, rfl, h0, _, _, rfl, h1, _, _, rfl, h2, _, _, rfl, h3, _, _, rfl, h4, _, _, rfl, h5, _, _, rfl, h6, _, _, rfl, h7, _, _, rfl, h8, _, _, rfl, h9, _, _, rfl, h10, _, _, rfl, h11, _, _, rfl, h12, _, _, rfl, h13, _, _, rfl, h14, rfl⟩ := h
    obtain ⟨x0, rfl, w0⟩ := shape3 n h0
    obtain ⟨x1, rfl, w1⟩ := shape3 n h1
    obtain ⟨x2, rfl, w2⟩ := shape100 n h2
    obtain ⟨x3, rfl, w3⟩ := shape3 n h3
    obtain ⟨x4, rfl, w4⟩ := shape3 n h4
    obtain ⟨x5, rfl, w5⟩ := shape3 n h5
    obtain ⟨x6, rfl, w6⟩ := shape4 n h6
    obtain ⟨x7, rfl, w7⟩ := shape4 n h7
    obtain ⟨x8, rfl, w8⟩ := shape3 n h8
    obtain ⟨x9, rfl, w9⟩ := shape3 n h9
    obtain ⟨x10, rfl, w10⟩ := shape3 n h10
    obtain ⟨x11, rfl, w11⟩ := shape3 n h11
    obtain ⟨x12, rfl, w12⟩ := shape3 n h12
    obtain ⟨x13, rfl, w13⟩ := shape3 n h13
    obtain ⟨x14, rfl, w14⟩ := shape3 n h14
    exact ⟨⟨x0, x1, x2, x3, x4, x5, x6, x7, x8, x9, x10, x11, x12, x13, x14⟩, rfl, w2⟩
theorem shape37 (n : Nat) {l : List T} (h : Shape prog n 37 l) : ∃ x : (List Deed), l = [.s false 20 (List.map (Deed.cells false) x)] ∧ bdS Deed.bd 9223372036854775807 x := by
  cases n with
  | zero => exact (h : False).elim
  | succ n =>
    exact shape_sl (Deed.cells false) (P := Deed.bd) _ rfl underlying37 (by kernel_rfl) h (fun r hr => shape108 n hr)
theorem shape39 (n : Nat) {l : List T} (h : Shape prog n 39 l) : ∃ x : World, l = (World.cells false) x ∧ World.bd 9223372036854775807 x := by
  cases n with
  | zero => exact (h : False).elim
  | succ n =>
    unfold Shape at h
    rw [underlying39] at h
    simp only [ShapeL] at h
    obtain ⟨_, _, rfl, h0, _, _, rfl, h1, _, _, rfl, h2, _, _, rfl, h3, _, _, rfl, h4, _, _, rfl, h5, _, _, rfl, h6, _, _, rfl, h7, _, _, rfl, h8, _, _, rfl, h9, _, _, rfl, h10, _, _, rfl, h11, _, _, rfl, h12, _, _, rfl, h13, _, _, rfl, h14, rfl⟩ := h
    obtain ⟨x0, rfl, w0⟩ := shape26 n h0
    obtain ⟨x1, rfl, w1⟩ := shape3 n h1
    obtain ⟨x2, rfl, w2⟩ := shape4 n h2
    obtain ⟨x3, rfl, w3⟩ := shape27 n h3
    obtain ⟨x4, rfl, w4⟩ := shape3 n h4
    obtain ⟨x5, rfl, w5⟩ := shape29 n h5
    obtain ⟨x6, rfl, w6⟩ := shape30 n h6
    obtain ⟨x7, rfl, w7⟩ := shape3 n h7
    obtain ⟨x8, rfl, w8⟩ := shape34 n h8
    obtain ⟨x9, rfl, w9⟩ := shape32 n h9
    obtain ⟨x10, rfl, w10⟩ := shape35 n h10
    obtain ⟨x11, rfl, w11⟩ := shape35 n h11
    obtain ⟨x12, rfl, w12⟩ := shape36 n h12
    obtain ⟨x13, rfl, w13⟩ := shape37 n h13
    obtain ⟨x14, rfl, w14⟩ := shape3 n h14
    exact ⟨⟨x0, x1, x2, x3, x4, x5, x6, x7, x8, x9, x10, x11, x12, x13, x14⟩, rfl, ⟨w0, w3, w6, w8, w9, w10, w11, w12, w13⟩⟩
theorem arg39 {n : Nat} {l : List T} (h : Shape prog n 39 l) : ∃ x : World, l = (World.cells false) x ∧ World.bd 9223372036854775807 x := shape39 n h
theorem law_c (p0 : World) (h0 : World.bd 9223372036854775807 p0) : FnOk prog 4 [.agg ((World.cells false) p0)] ⟨.one (.v (.bool true)), [], [], false⟩ :=
  FnOk.fits ⟨_, func4, by kernel_rfl, by kernel_rfl⟩ (fun hf => by
    have h := c_laws_FnExactSettled p0 h0
    rw [law_Settled p0 h0 (rg_World hf.1)] at h
    exact h)

end Go.Proofs.Tryz.Ev
