import Derived.Test.YtalbniledlbogaaLSentWalkB
set_option linter.unusedSectionVars false

namespace Go.Proofs.Try.Ev
open Go Go.Ev Go.Proofs
set_option maxHeartbeats 4000000
set_option maxRecDepth 100000
set_option linter.unusedSimpArgs false
set_option linter.unusedVariables false
set_option linter.unusedSectionVars false
theorem sze_World (x : World) (s : Int) (h : 0 ≤ laws_szWorld x s) : laws_szWorld x s = (laws_szDeedS x.Deeds (laws_szTaskS x.Tasks (laws_szItemS x.Out (laws_szItemS x.Queue (laws_szTimerS x.Due (laws_szWheel x.W (laws_szVerdictS x.Cache (laws_szStripeS x.St (laws_szConf x.C s))))))))) ∧ 0 ≤ (laws_szConf x.C s) ∧ 0 ≤ (laws_szStripeS x.St (laws_szConf x.C s)) ∧ 0 ≤ (laws_szVerdictS x.Cache (laws_szStripeS x.St (laws_szConf x.C s))) ∧ 0 ≤ (laws_szWheel x.W (laws_szVerdictS x.Cache (laws_szStripeS x.St (laws_szConf x.C s)))) ∧ 0 ≤ (laws_szTimerS x.Due (laws_szWheel x.W (laws_szVerdictS x.Cache (laws_szStripeS x.St (laws_szConf x.C s))))) ∧ 0 ≤ (laws_szItemS x.Queue (laws_szTimerS x.Due (laws_szWheel x.W (laws_szVerdictS x.Cache (laws_szStripeS x.St (laws_szConf x.C s)))))) ∧ 0 ≤ (laws_szItemS x.Out (laws_szItemS x.Queue (laws_szTimerS x.Due (laws_szWheel x.W (laws_szVerdictS x.Cache (laws_szStripeS x.St (laws_szConf x.C s))))))) ∧ 0 ≤ (laws_szTaskS x.Tasks (laws_szItemS x.Out (laws_szItemS x.Queue (laws_szTimerS x.Due (laws_szWheel x.W (laws_szVerdictS x.Cache (laws_szStripeS x.St (laws_szConf x.C s)))))))) ∧ 0 ≤ (laws_szDeedS x.Deeds (laws_szTaskS x.Tasks (laws_szItemS x.Out (laws_szItemS x.Queue (laws_szTimerS x.Due (laws_szWheel x.W (laws_szVerdictS x.Cache (laws_szStripeS x.St (laws_szConf x.C s))))))))) := by
  unfold laws_szWorld at h ⊢
  rcases ilg (laws_szConf x.C s) 0 with g0 | g0
  · rw [decide_eq_true g0] at h; simp at h
  rw [decide_eq_false (show ¬ (laws_szConf x.C s) < 0 by omega)] at h ⊢
  simp only [cond_false] at h ⊢
  rcases ilg (laws_szStripeS x.St (laws_szConf x.C s)) 0 with g1 | g1
  · rw [decide_eq_true g1] at h; simp at h
  rw [decide_eq_false (show ¬ (laws_szStripeS x.St (laws_szConf x.C s)) < 0 by omega)] at h ⊢
  simp only [cond_false] at h ⊢
  rcases ilg (laws_szVerdictS x.Cache (laws_szStripeS x.St (laws_szConf x.C s))) 0 with g2 | g2
  · rw [decide_eq_true g2] at h; simp at h
  rw [decide_eq_false (show ¬ (laws_szVerdictS x.Cache (laws_szStripeS x.St (laws_szConf x.C s))) < 0 by omega)] at h ⊢
  simp only [cond_false] at h ⊢
  rcases ilg (laws_szWheel x.W (laws_szVerdictS x.Cache (laws_szStripeS x.St (laws_szConf x.C s)))) 0 with g3 | g3
  · rw [decide_eq_true g3] at h; simp at h
  rw [decide_eq_false (show ¬ (laws_szWheel x.W (laws_szVerdictS x.Cache (laws_szStripeS x.St (laws_szConf x.C s)))) < 0 by omega)] at h ⊢
  simp only [cond_false] at h ⊢
  rcases ilg (laws_szTimerS x.Due (laws_szWheel x.W (laws_szVerdictS x.Cache (laws_szStripeS x.St (laws_szConf x.C s))))) 0 with g4 | g4
  · rw [decide_eq_true g4] at h; simp at h
  rw [decide_eq_false (show ¬ (laws_szTimerS x.Due (laws_szWheel x.W (laws_szVerdictS x.Cache (laws_szStripeS x.St (laws_szConf x.C s))))) < 0 by omega)] at h ⊢
  simp only [cond_false] at h ⊢
  rcases ilg (laws_szItemS x.Queue (laws_szTimerS x.Due (laws_szWheel x.W (laws_szVerdictS x.Cache (laws_szStripeS x.St (laws_szConf x.C s)))))) 0 with g5 | g5
  · rw [decide_eq_true g5] at h; simp at h
  rw [decide_eq_false (show ¬ (laws_szItemS x.Queue (laws_szTimerS x.Due (laws_szWheel x.W (laws_szVerdictS x.Cache (laws_szStripeS x.St (laws_szConf x.C s)))))) < 0 by omega)] at h ⊢
  simp only [cond_false] at h ⊢
  rcases ilg (laws_szItemS x.Out (laws_szItemS x.Queue (laws_szTimerS x.Due (laws_szWheel x.W (laws_szVerdictS x.Cache (laws_szStripeS x.St (laws_szConf x.C s))))))) 0 with g6 | g6
  · rw [decide_eq_true g6] at h; simp at h
  rw [decide_eq_false (show ¬ (laws_szItemS x.Out (laws_szItemS x.Queue (laws_szTimerS x.Due (laws_szWheel x.W (laws_szVerdictS x.Cache (laws_szStripeS x.St (laws_szConf x.C s))))))) < 0 by omega)] at h ⊢
  simp only [cond_false] at h ⊢
  rcases ilg (laws_szTaskS x.Tasks (laws_szItemS x.Out (laws_szItemS x.Queue (laws_szTimerS x.Due (laws_szWheel x.W (laws_szVerdictS x.Cache (laws_szStripeS x.St (laws_szConf x.C s)))))))) 0 with g7 | g7
  · rw [decide_eq_true g7] at h; simp at h
  rw [decide_eq_false (show ¬ (laws_szTaskS x.Tasks (laws_szItemS x.Out (laws_szItemS x.Queue (laws_szTimerS x.Due (laws_szWheel x.W (laws_szVerdictS x.Cache (laws_szStripeS x.St (laws_szConf x.C s)))))))) < 0 by omega)] at h ⊢
  simp only [cond_false] at h ⊢
  rcases ilg (laws_szDeedS x.Deeds (laws_szTaskS x.Tasks (laws_szItemS x.Out (laws_szItemS x.Queue (laws_szTimerS x.Due (laws_szWheel x.W (laws_szVerdictS x.Cache (laws_szStripeS x.St (laws_szConf x.C s))))))))) 0 with g8 | g8
  · rw [decide_eq_true g8] at h; simp at h
  rw [decide_eq_false (show ¬ (laws_szDeedS x.Deeds (laws_szTaskS x.Tasks (laws_szItemS x.Out (laws_szItemS x.Queue (laws_szTimerS x.Due (laws_szWheel x.W (laws_szVerdictS x.Cache (laws_szStripeS x.St (laws_szConf x.C s))))))))) < 0 by omega)] at h ⊢
  simp only [cond_false] at h ⊢
  exact ⟨by first | rfl | trivial, g0, g1, g2, g3, g4, g5, g6, g7, g8⟩
theorem ms_World : MkS World.bd laws_markWorld laws_szWorld := by
  intro x s k hP h0 h1 h2 h3 h4
  obtain ⟨e, g0, g1, g2, g3, g4, g5, g6, g7, g8⟩ := sze_World x s h2
  rw [e]
  unfold laws_markWorld
  simp only
  have q0 := ms_Conf x.C _ k hP.1 h0 (by omega) g0 (by omega) (by omega)
  have q1 := ms_StripeS x.St _ (laws_markConf x.C k).1 hP.2.1 g0 (by omega) g1 (by omega) (by omega)
  have q2 := ms_VerdictS x.Cache _ (laws_markStripeS x.St (laws_markConf x.C k).1).1 hP.2.2.1 g1 (by omega) g2 (by omega) (by omega)
  have q3 := ms_Wheel x.W _ (laws_markVerdictS x.Cache (laws_markStripeS x.St (laws_markConf x.C k).1).1).1 hP.2.2.2.1 g2 (by omega) g3 (by omega) (by omega)
  have q4 := ms_TimerS x.Due _ (laws_markWheel x.W (laws_markVerdictS x.Cache (laws_markStripeS x.St (laws_markConf x.C k).1).1).1).1 hP.2.2.2.2.1 g3 (by omega) g4 (by omega) (by omega)
  have q5 := ms_ItemS x.Queue _ (laws_markTimerS x.Due (laws_markWheel x.W (laws_markVerdictS x.Cache (laws_markStripeS x.St (laws_markConf x.C k).1).1).1).1).1 hP.2.2.2.2.2.1 g4 (by omega) g5 (by omega) (by omega)
  have q6 := ms_ItemS x.Out _ (laws_markItemS x.Queue (laws_markTimerS x.Due (laws_markWheel x.W (laws_markVerdictS x.Cache (laws_markStripeS x.St (laws_markConf x.C k).1).1).1).1).1).1 hP.2.2.2.2.2.2.1 g5 (by omega) g6 (by omega) (by omega)
  have q7 := ms_TaskS x.Tasks _ (laws_markItemS x.Out (laws_markItemS x.Queue (laws_markTimerS x.Due (laws_markWheel x.W (laws_markVerdictS x.Cache (laws_markStripeS x.St (laws_markConf x.C k).1).1).1).1).1).1).1 hP.2.2.2.2.2.2.2.1 g6 (by omega) g7 (by omega) (by omega)
  have q8 := ms_DeedS x.Deeds _ (laws_markTaskS x.Tasks (laws_markItemS x.Out (laws_markItemS x.Queue (laws_markTimerS x.Due (laws_markWheel x.W (laws_markVerdictS x.Cache (laws_markStripeS x.St (laws_markConf x.C k).1).1).1).1).1).1).1).1 hP.2.2.2.2.2.2.2.2 g7 (by omega) g8 (by omega) (by omega)
  omega
def mAttr (_ : Attr) (k : Int) : Attr := ⟨laws_markText k, Int.tmod (k + 1) 3 == 0, k + 1 + 1, laws_markText (k + 1 + 1 + 1)⟩
theorem mk_AttrS (l : List Attr) (k : Int) (h1 : 1 ≤ k) (h2 : k + csum (fun _ => 4) l ≤ 9223372036854775807) : laws_markAttrS l k = (k + csum (fun _ => 4) l, markL mAttr (fun _ => 4) k l) := by
  unfold laws_markAttrS
  have := mark_loop (mb := laws_markAttrS_b1) (M := mAttr) (c := fun _ => 4) (Pd := fun _ => True) (fun i s a _ h1 h2 => by unfold laws_markAttrS_b1; simp (disch := omega) only [wrap_small, mAttr]; simp [Int.add_assoc]) l l [] k rfl (fun _ _ => trivial) h1 h2
  simp only [List.nil_append, List.length_nil] at this
  rw [this]; rfl
theorem hd_AttrS (l : List Attr) (k : Int) (h1 : 1 ≤ k) (h2 : k + csum (fun _ => 4) l ≤ 9223372036854775807) : laws_heldAttrS (markL mAttr (fun _ => 4) k l) k = k + csum (fun _ => 4) l := by
  unfold laws_heldAttrS
  rw [held_loop (hb := laws_heldAttrS_b1) (M := mAttr) (c := fun _ => 4) (Pd := fun _ => True) (fun i s a _ h1 h2 => by unfold laws_heldAttrS_b1; simp (disch := omega) only [wrap_small, mAttr]; simp [Int.add_assoc]) l 0 k (fun _ _ => trivial) h1 h2]
  rfl
def cSpan (a : Span) : Nat := 5 + csum (fun _ : Attr => 4) a.Attrs
def mSpan (a : Span) (k : Int) : Span := ⟨k, k + 1, k + 1 + 1, k + 1 + 1 + 1, Int.tmod (k + 1 + 1 + 1 + 1) 3 == 0, markL mAttr (fun _ => 4) (k + 1 + 1 + 1 + 1 + 1) a.Attrs⟩
theorem mk_SpanS (l : List Span) (k : Int) (h1 : 1 ≤ k) (h2 : k + csum cSpan l ≤ 9223372036854775807) : laws_markSpanS l k = (k + csum cSpan l, markL mSpan cSpan k l) := by
  unfold laws_markSpanS
  have := mark_loop (mb := laws_markSpanS_b1) (M := mSpan) (c := cSpan) (Pd := fun _ => True) (fun i s a _ h1 h2 => by
    unfold laws_markSpanS_b1
    generalize s.1[i]?.getD default = x at h2 ⊢
    unfold cSpan at h2 ⊢
    simp (disch := omega) only [wrap_small, mSpan]
    rw [mk_AttrS _ _ (by omega) (by omega)]
    simp only [Int.add_assoc]
    simp [Int.add_assoc]
    omega) l l [] k rfl (fun _ _ => trivial) h1 h2
  simp only [List.nil_append, List.length_nil] at this
  rw [this]; rfl
theorem hd_SpanS (l : List Span) (k : Int) (h1 : 1 ≤ k) (h2 : k + csum cSpan l ≤ 9223372036854775807) : laws_heldSpanS (markL mSpan cSpan k l) k = k + csum cSpan l := by
  unfold laws_heldSpanS
  rw [held_loop (hb := laws_heldSpanS_b1) (M := mSpan) (c := cSpan) (Pd := fun _ => True) (fun i s a _ h1 h2 => by
    unfold cSpan at h2 ⊢
    unfold laws_heldSpanS_b1
    simp (disch := omega) only [wrap_small, mSpan]
    rw [hd_AttrS _ _ (by omega) (by omega)]
    have hd : decide (s + 1 + 1 + 1 + 1 + 1 + ((csum (fun _ : Attr => 4) a.Attrs : Nat) : Int) < 0) = false := by simp; omega
    simp only [hd, bne_self_eq_false, beq_self_eq_true, Bool.not_true, cond_false]
    simp [Int.add_assoc]) l 0 k (fun _ _ => trivial) h1 h2]
  rfl
theorem spec_l3Copy_eq (x : Span) : spec_l3Copy x = x := by cases x; simp [spec_l3Copy]
theorem impl_copySpan_eq (x : Span) : impl_copySpan x = x := by cases x; simp [impl_copySpan]
theorem main_ItemsOf (l : List Item) (k : Int) : impl_ItemsOf l k = spec_ItemsOf l k := by
  unfold impl_ItemsOf spec_ItemsOf
  have : impl_ItemsOf_b1 k = spec_ItemsOf_b1 k := by funext i s a; unfold impl_ItemsOf_b1 spec_ItemsOf_b1; rw [impl_copySpan_eq, spec_l3Copy_eq]
  rw [this]
theorem main_Sent (w : World) (k : Int) : impl_Sent w k = spec_Sent w k := by
  unfold impl_Sent spec_Sent
  have : impl_Sent_b1 k = spec_Sent_b1 k := by funext i s a; unfold impl_Sent_b1 spec_Sent_b1; rw [main_ItemsOf]
  rw [this, main_ItemsOf, main_ItemsOf]
theorem ItemsOf_mem (l : List Item) (k : Int) (h : bdS Item.bd 1048576 l) : ∀ a ∈ spec_ItemsOf l k, a.Attrs.length ≤ 1048576 := by
  have e : spec_ItemsOf l k = l.flatMap (fun a => bif a.Stamp == k then [a.S] else []) := by
    unfold spec_ItemsOf
    rw [app_flat (b := spec_ItemsOf_b1 k) (fun a => bif a.Stamp == k then [a.S] else []) (fun i s a => by unfold spec_ItemsOf_b1; rw [spec_l3Copy_eq]; cases (a.Stamp == k) <;> simp), List.nil_append]
    rfl
  rw [e]
  intro a ha
  obtain ⟨x, hx, hax⟩ := List.mem_flatMap.1 ha
  cases hc : (x.Stamp == k) with
  | false => rw [hc] at hax; cases hax
  | true =>
    rw [hc] at hax
    rw [List.mem_singleton.1 hax]
    exact (h.2 x hx).1
theorem Sent_mem (w : World) (k : Int) (hs : World.bd 1048576 w) : ∀ a ∈ spec_Sent w k, cSpan a ≤ 4194309 := by
  have e : spec_Sent w k = (spec_ItemsOf w.Out k ++ spec_ItemsOf w.Queue k) ++ w.Tasks.flatMap (fun t => spec_ItemsOf t.Hand k) := by
    unfold spec_Sent
    rw [app_loop (f := fun t : Task => spec_ItemsOf t.Hand k) (b := spec_Sent_b1 k) (fun _ _ _ => rfl)]
    rfl
  intro a ha
  have hl : a.Attrs.length ≤ 1048576 := by
    rw [e, List.mem_append, List.mem_append, List.mem_flatMap] at ha
    rcases ha with (ha | ha) | ⟨t, ht, ha⟩
    · exact ItemsOf_mem _ _ hs.2.2.2.2.2.2.1 a ha
    · exact ItemsOf_mem _ _ hs.2.2.2.2.2.1 a ha
    · exact ItemsOf_mem _ _ (hs.2.2.2.2.2.2.2.1.2 t ht).2 a ha
  unfold cSpan
  rw [csum_const]; omega
theorem law_Sent (p0 : World) (p1 : Int) (hw0 : World.bd 9223372036854775807 p0) : laws_FnExactSent p0 p1 = true := by
  unfold laws_FnExactSent
  by_cases hd : laws_szWorld p0 1048576 < 0
  · rw [decide_eq_true hd]; rfl
  · rw [decide_eq_false hd]
    have hs := (szd_laws_szWorld p0 1048576 hw0 (by omega) (by omega) (by omega)).1
    have hm := (ms_World p0 1048576 1 hw0 (by omega) (by omega) (by omega) (by omega) (by omega)).2.1
    have hl := spec_Sent_len p0 p1 hs
    have hc := csum_le (Sent_mem p0 p1 hs)
    have hk : (1 : Int) + csum cSpan (spec_Sent p0 p1) ≤ 9223372036854775807 := by omega
    have hm2 : decide ((laws_markWorld p0 1).1 < 0) = false := by simp only [decide_eq_false_iff_not]; omega
    simp only [cond_false, id_laws_toWorld, main_Sent, rf_laws_eqSpanS, rf_laws_eqWorld, Bool.not_true, hm2, mk_SpanS _ _ (Int.le_refl 1) hk, hd_SpanS _ _ (Int.le_refl 1) hk, bne_self_eq_false]
    have : decide ((1 : Int) + csum cSpan (spec_Sent p0 p1) < 0) = false := by simp only [decide_eq_false_iff_not]; omega
    rw [this]; rfl
theorem rows_sl {α : Type} (f : α → List T) (W : α → Prop) : ∀ rows : List (List T), (∀ r ∈ rows, ∃ x, r = f x ∧ W x) → ∃ l : List α, rows = l.map f ∧ ∀ x ∈ l, W x
  | [], _ => ⟨[], rfl, by simp⟩
  | r :: rows, h => by
    obtain ⟨x, hx, hw⟩ := h r (by simp)
    obtain ⟨l, hl, hw'⟩ := rows_sl f W rows (fun r hr => h r (by simp [hr]))
    exact ⟨x :: l, by simp [hx, hl], fun y hy => by rcases List.mem_cons.1 hy with rfl | hy; exact hw; exact hw' y hy⟩
theorem shape_sl {α : Type} (f : α → List T) {P : Nat → α → Prop} (W : α → Prop) (hW : W = P 9223372036854775807) {n t e k : Nat} (ht : prog.underlying t = some (.slice e)) (hk : prog.cellsOf e = k) {y : List T} (h : Shape prog (n + 1) t y) (hr : ∀ r, Shape prog n e r → ∃ x, r = f x ∧ W x) :
    ∃ l : List α, y = [.s false k (l.map f)] ∧ bdS P 9223372036854775807 l := by
  subst hW
  unfold Shape at h
  rw [ht] at h
  obtain ⟨rows, h1, h2, h3⟩ := h
  rw [hk] at h1
  obtain ⟨l, rfl, hw⟩ := rows_sl f _ rows (fun r hr' => hr r (h3 r hr').2)
  exact ⟨l, h1, by simpa [maxLen] using h2, hw⟩
theorem shape3 (n : Nat) {l : List T} (h : Shape prog n 3 l) : ∃ x : Int, l = [.v (.int .i64 x)] ∧ True := by
  cases n with
  | zero => exact (h : False).elim
  | succ n =>
    simp only [Shape, underlying3] at h
    obtain ⟨x, hx, _⟩ := h
    exact ⟨x, hx, trivial⟩
theorem shape9 (n : Nat) {l : List T} (h : Shape prog n 9 l) : ∃ x : ByteArray, l = [.v (.string x)] ∧ (x).size ≤ 9223372036854775807 := by
  cases n with
  | zero => exact (h : False).elim
  | succ n =>
    simp only [Shape, underlying9] at h
    obtain ⟨x, hx, hw⟩ := h
    exact ⟨x, hx, by simpa [maxLen] using hw⟩
theorem shape35 : ∀ (n : Nat) {l : List T}, Shape prog n 35 l → ∃ x : Pol, l = Pol.cells false x ∧ Pol.bd 9223372036854775807 x := by
  intro n
  induction n using Nat.strongRecOn with
  | _ n ih =>
    intro l h
    cases n with
    | zero => exact (h : False).elim
    | succ n =>
      unfold Shape at h
      rw [underlying35] at h
      simp only [ShapeL] at h
      obtain ⟨l0, _, rfl, h0, l1, _, rfl, h1, l2, _, rfl, h2, l3, _, rfl, h3, l4, _, rfl, h4, rfl⟩ := h
      obtain ⟨x0, rfl, w0⟩ := shape3 n h0
      obtain ⟨x1, rfl, w1⟩ := shape3 n h1
      obtain ⟨x2, rfl, w2⟩ := shape9 n h2
      obtain ⟨x3, rfl, w3⟩ := shape9 n h3
      obtain ⟨x4, rfl, w4⟩ : ∃ x : List Pol, l4 = [.s false 5 (List.map (Pol.cells false) x)] ∧ bdS Pol.bd 9223372036854775807 x := by
        cases n with
        | zero => exact (h4 : False).elim
        | succ n => exact shape_sl (Pol.cells false) (P := Pol.bd) _ rfl underlying33 (by kernel_rfl) h4 (fun r hr => ih n (by omega) hr)
      refine ⟨⟨x0, x1, x2, x3, x4⟩, ?_, ?_⟩
      · rw [Pol.cells_eq]; rfl
      · rw [Pol.bd_eq]; exact ⟨w2, w3, w4⟩
theorem shape33 (n : Nat) {l : List T} (h : Shape prog n 33 l) : ∃ x : (List Pol), l = [.s false 5 (List.map (Pol.cells false) x)] ∧ bdS Pol.bd 9223372036854775807 x := by
  cases n with
  | zero => exact (h : False).elim
  | succ n =>
    exact shape_sl (Pol.cells false) (P := Pol.bd) _ rfl underlying33 (by kernel_rfl) h (fun r hr => shape35 n hr)
theorem shape37 (n : Nat) {l : List T} (h : Shape prog n 37 l) : ∃ x : Conf, l = (Conf.cells false) x ∧ Conf.bd 9223372036854775807 x := by
  cases n with
  | zero => exact (h : False).elim
  | succ n =>
    unfold Shape at h
    rw [underlying37] at h
    simp only [ShapeL] at h
    obtain ⟨_, _, rfl, h0, _, _, rfl, h1, _, _, rfl, h2, _, _, rfl, h3, _, _, rfl, h4, _, _, rfl, h5, _, _, rfl, h6, _, _, rfl, h7, rfl⟩ := h
    obtain ⟨x0, rfl, w0⟩ := shape3 n h0
    obtain ⟨x1, rfl, w1⟩ := shape3 n h1
    obtain ⟨x2, rfl, w2⟩ := shape3 n h2
    obtain ⟨x3, rfl, w3⟩ := shape3 n h3
    obtain ⟨x4, rfl, w4⟩ := shape3 n h4
    obtain ⟨x5, rfl, w5⟩ := shape3 n h5
    obtain ⟨x6, rfl, w6⟩ := shape3 n h6
    obtain ⟨x7, e7, w7⟩ := shape35 n h7
    rw [Pol.cells_eq] at e7
    subst e7
    exact ⟨⟨x0, x1, x2, x3, x4, x5, x6, x7⟩, rfl, w7⟩
theorem shape4 (n : Nat) {l : List T} (h : Shape prog n 4 l) : ∃ x : Bool, l = [.v (.bool x)] ∧ True := by
  cases n with
  | zero => exact (h : False).elim
  | succ n =>
    simp only [Shape, underlying4] at h
    obtain ⟨x, hx⟩ := h
    exact ⟨x, hx, trivial⟩
theorem shape237 (n : Nat) {l : List T} (h : Shape prog n 237 l) : ∃ x : Attr, l = Attr.cells x ∧ Attr.bd 9223372036854775807 x := by
  cases n with
  | zero => exact (h : False).elim
  | succ n =>
    unfold Shape at h
    rw [underlying237] at h
    simp only [ShapeL] at h
    obtain ⟨_, _, rfl, h0, _, _, rfl, h1, _, _, rfl, h2, _, _, rfl, h3, rfl⟩ := h
    obtain ⟨x0, rfl, w0⟩ := shape9 n h0
    obtain ⟨x1, rfl, w1⟩ := shape4 n h1
    obtain ⟨x2, rfl, w2⟩ := shape3 n h2
    obtain ⟨x3, rfl, w3⟩ := shape9 n h3
    exact ⟨⟨x0, x1, x2, x3⟩, rfl, ⟨w0, w3⟩⟩
theorem shape94 (n : Nat) {l : List T} (h : Shape prog n 94 l) : ∃ x : (List Attr), l = [.s false 4 (List.map Attr.cells x)] ∧ bdS Attr.bd 9223372036854775807 x := by
  cases n with
  | zero => exact (h : False).elim
  | succ n =>
    exact shape_sl Attr.cells (P := Attr.bd) _ rfl underlying94 (by kernel_rfl) h (fun r hr => shape237 n hr)
theorem shape96 (n : Nat) {l : List T} (h : Shape prog n 96 l) : ∃ x : Span, l = (Span.cells false) x ∧ Span.bd 9223372036854775807 x := by
  cases n with
  | zero => exact (h : False).elim
  | succ n =>
    unfold Shape at h
    rw [underlying96] at h
    simp only [ShapeL] at h
    obtain ⟨_, _, rfl, h0, _, _, rfl, h1, _, _, rfl, h2, _, _, rfl, h3, _, _, rfl, h4, _, _, rfl, h5, rfl⟩ := h
    obtain ⟨x0, rfl, w0⟩ := shape3 n h0
    obtain ⟨x1, rfl, w1⟩ := shape3 n h1
    obtain ⟨x2, rfl, w2⟩ := shape3 n h2
    obtain ⟨x3, rfl, w3⟩ := shape3 n h3
    obtain ⟨x4, rfl, w4⟩ := shape4 n h4
    obtain ⟨x5, rfl, w5⟩ := shape94 n h5
    exact ⟨⟨x0, x1, x2, x3, x4, x5⟩, rfl, w5⟩
theorem shape247 (n : Nat) {l : List T} (h : Shape prog n 247 l) : ∃ x : (List Span), l = [.s false 6 (List.map (Span.cells false) x)] ∧ bdS Span.bd 9223372036854775807 x := by
  cases n with
  | zero => exact (h : False).elim
  | succ n =>
    exact shape_sl (Span.cells false) (P := Span.bd) _ rfl underlying247 (by kernel_rfl) h (fun r hr => shape96 n hr)
theorem shape249 (n : Nat) {l : List T} (h : Shape prog n 249 l) : ∃ x : Trail, l = (Trail.cells false) x ∧ Trail.bd 9223372036854775807 x := by
  cases n with
  | zero => exact (h : False).elim
  | succ n =>
    unfold Shape at h
    rw [underlying249] at h
    simp only [ShapeL] at h
    obtain ⟨_, _, rfl, h0, _, _, rfl, h1, _, _, rfl, h2, _, _, rfl, h3, rfl⟩ := h
    obtain ⟨x0, rfl, w0⟩ := shape3 n h0
    obtain ⟨x1, rfl, w1⟩ := shape3 n h1
    obtain ⟨x2, rfl, w2⟩ := shape3 n h2
    obtain ⟨x3, rfl, w3⟩ := shape247 n h3
    exact ⟨⟨x0, x1, x2, x3⟩, rfl, w3⟩
theorem shape177 (n : Nat) {l : List T} (h : Shape prog n 177 l) : ∃ x : (List Trail), l = [.s false 4 (List.map (Trail.cells false) x)] ∧ bdS Trail.bd 9223372036854775807 x := by
  cases n with
  | zero => exact (h : False).elim
  | succ n =>
    exact shape_sl (Trail.cells false) (P := Trail.bd) _ rfl underlying177 (by kernel_rfl) h (fun r hr => shape249 n hr)
theorem shape179 (n : Nat) {l : List T} (h : Shape prog n 179 l) : ∃ x : Stripe, l = (Stripe.cells false) x ∧ Stripe.bd 9223372036854775807 x := by
  cases n with
  | zero => exact (h : False).elim
  | succ n =>
    unfold Shape at h
    rw [underlying179] at h
    simp only [ShapeL] at h
    obtain ⟨_, _, rfl, h0, _, _, rfl, h1, rfl⟩ := h
    obtain ⟨x0, rfl, w0⟩ := shape3 n h0
    obtain ⟨x1, rfl, w1⟩ := shape177 n h1
    exact ⟨⟨x0, x1⟩, rfl, w1⟩
theorem shape57 (n : Nat) {l : List T} (h : Shape prog n 57 l) : ∃ x : (List Stripe), l = [.s false 2 (List.map (Stripe.cells false) x)] ∧ bdS Stripe.bd 9223372036854775807 x := by
  cases n with
  | zero => exact (h : False).elim
  | succ n =>
    exact shape_sl (Stripe.cells false) (P := Stripe.bd) _ rfl underlying57 (by kernel_rfl) h (fun r hr => shape179 n hr)
theorem shape58 (n : Nat) {l : List T} (h : Shape prog n 58 l) : ∃ x : Bucket, l = Bucket.cells x ∧ True := by
  cases n with
  | zero => exact (h : False).elim
  | succ n =>
    unfold Shape at h
    rw [underlying58] at h
    simp only [ShapeL] at h
    obtain ⟨_, _, rfl, h0, _, _, rfl, h1, _, _, rfl, h2, _, _, rfl, h3, rfl⟩ := h
    obtain ⟨x0, rfl, w0⟩ := shape3 n h0
    obtain ⟨x1, rfl, w1⟩ := shape3 n h1
    obtain ⟨x2, rfl, w2⟩ := shape3 n h2
    obtain ⟨x3, rfl, w3⟩ := shape3 n h3
    exact ⟨⟨x0, x1, x2, x3⟩, rfl, trivial⟩
theorem shape194 (n : Nat) {l : List T} (h : Shape prog n 194 l) : ∃ x : Verdict, l = Verdict.cells x ∧ True := by
  cases n with
  | zero => exact (h : False).elim
  | succ n =>
    unfold Shape at h
    rw [underlying194] at h
    simp only [ShapeL] at h
    obtain ⟨_, _, rfl, h0, _, _, rfl, h1, _, _, rfl, h2, rfl⟩ := h
    obtain ⟨x0, rfl, w0⟩ := shape3 n h0
    obtain ⟨x1, rfl, w1⟩ := shape3 n h1
    obtain ⟨x2, rfl, w2⟩ := shape4 n h2
    exact ⟨⟨x0, x1, x2⟩, rfl, trivial⟩
theorem shape59 (n : Nat) {l : List T} (h : Shape prog n 59 l) : ∃ x : (List Verdict), l = [.s false 3 (List.map Verdict.cells x)] ∧ bdS Verdict.bd 9223372036854775807 x := by
  cases n with
  | zero => exact (h : False).elim
  | succ n =>
    exact shape_sl Verdict.cells (P := Verdict.bd) _ rfl underlying59 (by kernel_rfl) h (fun r hr => shape194 n hr)
theorem shape199 (n : Nat) {l : List T} (h : Shape prog n 199 l) : ∃ x : Timer, l = Timer.cells x ∧ True := by
  cases n with
  | zero => exact (h : False).elim
  | succ n =>
    unfold Shape at h
    rw [underlying199] at h
    simp only [ShapeL] at h
    obtain ⟨_, _, rfl, h0, _, _, rfl, h1, _, _, rfl, h2, rfl⟩ := h
    obtain ⟨x0, rfl, w0⟩ := shape3 n h0
    obtain ⟨x1, rfl, w1⟩ := shape3 n h1
    obtain ⟨x2, rfl, w2⟩ := shape3 n h2
    exact ⟨⟨x0, x1, x2⟩, rfl, trivial⟩
theorem shape61 (n : Nat) {l : List T} (h : Shape prog n 61 l) : ∃ x : (List Timer), l = [.s false 3 (List.map Timer.cells x)] ∧ bdS Timer.bd 9223372036854775807 x := by
  cases n with
  | zero => exact (h : False).elim
  | succ n =>
    exact shape_sl Timer.cells (P := Timer.bd) _ rfl underlying61 (by kernel_rfl) h (fun r hr => shape199 n hr)
theorem shape60 (n : Nat) {l : List T} (h : Shape prog n 60 l) : ∃ x : (List (List Timer)), l = [.s false 1 (List.map (cSl false 3 Timer.cells) x)] ∧ bdS (bdS Timer.bd) 9223372036854775807 x := by
  cases n with
  | zero => exact (h : False).elim
  | succ n =>
    exact shape_sl (cSl false 3 Timer.cells) (P := (bdS Timer.bd)) _ rfl underlying60 (by kernel_rfl) h (fun r hr => shape61 n hr)
theorem shape63 (n : Nat) {l : List T} (h : Shape prog n 63 l) : ∃ x : Wheel, l = (Wheel.cells false) x ∧ Wheel.bd 9223372036854775807 x := by
  cases n with
  | zero => exact (h : False).elim
  | succ n =>
    unfold Shape at h
    rw [underlying63] at h
    simp only [ShapeL] at h
    obtain ⟨_, _, rfl, h0, _, _, rfl, h1, _, _, rfl, h2, _, _, rfl, h3, rfl⟩ := h
    obtain ⟨x0, rfl, w0⟩ := shape3 n h0
    obtain ⟨x1, rfl, w1⟩ := shape60 n h1
    obtain ⟨x2, rfl, w2⟩ := shape60 n h2
    obtain ⟨x3, rfl, w3⟩ := shape61 n h3
    exact ⟨⟨x0, x1, x2, x3⟩, rfl, ⟨w1, w2, w3⟩⟩
theorem shape183 (n : Nat) {l : List T} (h : Shape prog n 183 l) : ∃ x : Item, l = (Item.cells false) x ∧ Item.bd 9223372036854775807 x := by
  cases n with
  | zero => exact (h : False).elim
  | succ n =>
    unfold Shape at h
    rw [underlying183] at h
    simp only [ShapeL] at h
    obtain ⟨_, _, rfl, h0, _, _, rfl, h1, rfl⟩ := h
    obtain ⟨x0, rfl, w0⟩ := shape3 n h0
    obtain ⟨x1, rfl, w1⟩ := shape96 n h1
    exact ⟨⟨x0, x1⟩, rfl, w1⟩
theorem shape64 (n : Nat) {l : List T} (h : Shape prog n 64 l) : ∃ x : (List Item), l = [.s false 7 (List.map (Item.cells false) x)] ∧ bdS Item.bd 9223372036854775807 x := by
  cases n with
  | zero => exact (h : False).elim
  | succ n =>
    exact shape_sl (Item.cells false) (P := Item.bd) _ rfl underlying64 (by kernel_rfl) h (fun r hr => shape183 n hr)
theorem shape186 (n : Nat) {l : List T} (h : Shape prog n 186 l) : ∃ x : Task, l = (Task.cells false) x ∧ Task.bd 9223372036854775807 x := by
  cases n with
  | zero => exact (h : False).elim
  | succ n =>
    unfold Shape at h
    rw [underlying186] at h
    simp only [ShapeL] at h
    obtain ⟨_, _, rfl, h0, _, _, rfl, h1, _, _, rfl, h2, _, _, rfl, h3, _, _, rfl, h4, _, _, rfl, h5, _, _, rfl, h6, rfl⟩ := h
    obtain ⟨x0, rfl, w0⟩ := shape3 n h0
    obtain ⟨x1, rfl, w1⟩ := shape3 n h1
    obtain ⟨x2, rfl, w2⟩ := shape96 n h2
    obtain ⟨x3, rfl, w3⟩ := shape3 n h3
    obtain ⟨x4, rfl, w4⟩ := shape3 n h4
    obtain ⟨x5, rfl, w5⟩ := shape64 n h5
    obtain ⟨x6, rfl, w6⟩ := shape3 n h6
    exact ⟨⟨x0, x1, x2, x3, x4, x5, x6⟩, rfl, ⟨w2, w5⟩⟩
theorem shape65 (n : Nat) {l : List T} (h : Shape prog n 65 l) : ∃ x : (List Task), l = [.s false 12 (List.map (Task.cells false) x)] ∧ bdS Task.bd 9223372036854775807 x := by
  cases n with
  | zero => exact (h : False).elim
  | succ n =>
    exact shape_sl (Task.cells false) (P := Task.bd) _ rfl underlying65 (by kernel_rfl) h (fun r hr => shape186 n hr)
theorem shape98 (n : Nat) {l : List T} (h : Shape prog n 98 l) : ∃ x : Deed, l = (Deed.cells false) x ∧ Deed.bd 9223372036854775807 x := by
  cases n with
  | zero => exact (h : False).elim
  | succ n =>
    unfold Shape at h
    rw [underlying98] at h
    simp only [ShapeL] at h
    obtain ⟨_, _, rfl, h0, _, _, rfl, h1, _, _, rfl, h2, _, _, rfl, h3, _, _, rfl, h4, _, _, rfl, h5, _, _, rfl, h6, _, _, rfl, h7, _, _, rfl, h8, _, _, rfl, h9, _, _, rfl, h10, _, _, rfl, h11, _, _, rfl, h12, _, _, rfl, h13, _, _, rfl, h14, rfl⟩ := h
    obtain ⟨x0, rfl, w0⟩ := shape3 n h0
    obtain ⟨x1, rfl, w1⟩ := shape3 n h1
    obtain ⟨x2, rfl, w2⟩ := shape96 n h2
    obtain ⟨x3, rfl, w3⟩ := shape3 n h3
    obtain ⟨x4, rfl, w4⟩ := shape3 n h4
    obtain ⟨x5, rfl, w5⟩ := shape3 n h5
    obtain ⟨x6, rfl, w6⟩ := shape4 n h6
    obtain ⟨x7, rfl, w7⟩ := shape4 n h7
    obtain ⟨x8, rfl, w8⟩ := shape3 n h8
    obtain ⟨x9, rfl, w9⟩ := shape3 n h9
    obtain ⟨x10, rfl, w10⟩ := shape3 n h10
    obtain ⟨x11, rfl, w11⟩ := shape3 n h11
    obtain ⟨x12, rfl, w12⟩ := shape3 n h12
    obtain ⟨x13, rfl, w13⟩ := shape3 n h13
    obtain ⟨x14, rfl, w14⟩ := shape3 n h14
    exact ⟨⟨x0, x1, x2, x3, x4, x5, x6, x7, x8, x9, x10, x11, x12, x13, x14⟩, rfl, w2⟩
theorem shape22 (n : Nat) {l : List T} (h : Shape prog n 22 l) : ∃ x : (List Deed), l = [.s false 20 (List.map (Deed.cells false) x)] ∧ bdS Deed.bd 9223372036854775807 x := by
  cases n with
  | zero => exact (h : False).elim
  | succ n =>
    exact shape_sl (Deed.cells false) (P := Deed.bd) _ rfl underlying22 (by kernel_rfl) h (fun r hr => shape98 n hr)
theorem shape67 (n : Nat) {l : List T} (h : Shape prog n 67 l) : ∃ x : World, l = (World.cells false) x ∧ World.bd 9223372036854775807 x := by
  cases n with
  | zero => exact (h : False).elim
  | succ n =>
    unfold Shape at h
    rw [underlying67] at h
    simp only [ShapeL] at h
    obtain ⟨_, _, rfl, h0, _, _, rfl, h1, _, _, rfl, h2, _, _, rfl, h3, _, _, rfl, h4, _, _, rfl, h5, _, _, rfl, h6, _, _, rfl, h7, _, _, rfl, h8, _, _, rfl, h9, _, _, rfl, h10, _, _, rfl, h11, _, _, rfl, h12, _, _, rfl, h13, _, _, rfl, h14, rfl⟩ := h
    obtain ⟨x0, rfl, w0⟩ := shape37 n h0
    obtain ⟨x1, rfl, w1⟩ := shape3 n h1
    obtain ⟨x2, rfl, w2⟩ := shape4 n h2
    obtain ⟨x3, rfl, w3⟩ := shape57 n h3
    obtain ⟨x4, rfl, w4⟩ := shape3 n h4
    obtain ⟨x5, rfl, w5⟩ := shape58 n h5
    obtain ⟨x6, rfl, w6⟩ := shape59 n h6
    obtain ⟨x7, rfl, w7⟩ := shape3 n h7
    obtain ⟨x8, rfl, w8⟩ := shape63 n h8
    obtain ⟨x9, rfl, w9⟩ := shape61 n h9
    obtain ⟨x10, rfl, w10⟩ := shape64 n h10
    obtain ⟨x11, rfl, w11⟩ := shape64 n h11
    obtain ⟨x12, rfl, w12⟩ := shape65 n h12
    obtain ⟨x13, rfl, w13⟩ := shape22 n h13
    obtain ⟨x14, rfl, w14⟩ := shape3 n h14
    exact ⟨⟨x0, x1, x2, x3, x4, x5, x6, x7, x8, x9, x10, x11, x12, x13, x14⟩, rfl, ⟨w0, w3, w6, w8, w9, w10, w11, w12, w13⟩⟩
theorem arg67 {n : Nat} {l : List T} (h : Shape prog n 67 l) : ∃ x : World, l = (World.cells false) x ∧ World.bd 9223372036854775807 x := shape67 n h
theorem arg3 {n : Nat} {y : T} (h : Shape prog n 3 [y]) : ∃ x : Int, y = .v (.int .i64 x) ∧ True := by
  obtain ⟨x, hx, hw⟩ := shape3 n h
  exact ⟨x, by simpa using hx, hw⟩
theorem law_c (p0 : World) (p1 : Int) (h0 : World.bd 9223372036854775807 p0) : FnOk prog 5 [.agg ((World.cells false) p0), .one (.v (.int .i64 p1))] ⟨.one (.v (.bool true)), [], [], false⟩ :=
  FnOk.fits ⟨_, func5, by kernel_rfl, by kernel_rfl⟩ (fun hf => by
    have h := c_laws_FnExactSent p0 p1 h0
    rw [law_Sent p0 p1 h0] at h
    exact h)

end Go.Proofs.Try.Ev
