import Derived.Test.YtjpgineaoghoeaaDoorLParseSpanWalk
set_option linter.unusedSectionVars false

namespace Go.Proofs.Tryd.Ev
open Go Go.Ev Go.Proofs
set_option maxHeartbeats 4000000
set_option maxRecDepth 100000
set_option linter.unusedSimpArgs false
set_option linter.unusedVariables false
set_option linter.unusedSectionVars false
theorem pn_loop {s : ByteArray} : ∀ (n i acc : Nat), i + n = s.size → (∀ c ∈ s.data.toList.drop i, 48 ≤ c.toNat ∧ c.toNat ≤ 57) → valD acc (s.data.toList.drop i) ≤ 2147483647 → loopC (spec_ParseNum_b2 s) i (acc : Int) n = .fin ((valD acc (s.data.toList.drop i) : Nat) : Int)
  | 0, i, acc, h, _, _ => by
    have : s.data.toList.drop i = [] := List.drop_eq_nil_iff.2 (by rw [L_len]; omega)
    rw [this]; rfl
  | n + 1, i, acc, h, hd, hv => by
    have hi : i < s.data.toList.length := by rw [L_len]; omega
    have e := List.drop_eq_getElem_cons hi
    rw [e] at hd hv ⊢
    have hs' : i < s.size := by rw [← L_len]; exact hi
    have e2 : s.data.getD i 0 = s.data.toList[i] := by simp [Array.getD, hs']
    generalize s.data.toList[i] = c at hd hv e2 ⊢
    have hc := hd c (by simp)
    have h2 : acc * 10 + (c.toNat - 48) ≤ valD acc (c :: s.data.toList.drop (i + 1)) := valD_le _ _
    have e3 : spec_ParseNum_b2 s i (acc : Int) = .next (((acc * 10 + (c.toNat - 48) : Nat)) : Int) := by
      unfold spec_ParseNum_b2
      rw [l1In_byte, e2, decide_eq_true (by omega), Bool.not_true, cond_false, wrap_small (n := 10 * (acc : Int)) (by omega) (by omega)]
      have e4 : IntKind.u8.wrap ((c.toNat : Int) - 48) = ((c.toNat - 48 : Nat) : Int) := by
        have : (c.toNat : Int) - 48 = ((c.toNat - 48 : Nat) : Int) := by omega
        rw [this]
        simp [IntKind.wrap, IntKind.bits, IntKind.signed]; omega
      rw [e4, wrap_small (n := ((c.toNat - 48 : Nat) : Int)) (by omega) (by omega), wrap_small (n := 10 * (acc : Int) + ((c.toNat - 48 : Nat) : Int)) (by omega) (by omega)]
      congr 1; omega
    unfold loopC
    rw [e3]
    exact pn_loop n (i + 1) _ (by omega) (fun c hc => hd c (by simp [hc])) hv
theorem parseNum_dec {n : Int} (h0 : 0 ≤ n) (h1 : n ≤ 2147483647) : spec_ParseNum (oL (Lib.decDigits n.toNat)) = (n, true) := by
  have hd := dec_dig n.toNat
  have hne := dec_ne n.toNat
  have hl : (Lib.decDigits n.toNat).length ≤ 10 := by
    rw [Lib.decDigits_length]; exact nDigits_le 9 _ (by omega)
  have hp : 1 ≤ (Lib.decDigits n.toNat).length := by
    cases he : Lib.decDigits n.toNat with
    | nil => exact absurd he hne
    | cons c r => simp
  have ej : spec_ParseNum_j1 (oL (Lib.decDigits n.toNat)) = .next () := by
    unfold spec_ParseNum_j1
    rw [oL_size, oL_get]
    rw [show ((((Lib.decDigits n.toNat).length : Nat) : Int) == 0) = false by simpa using hne, cond_false, decide_eq_false (by omega), cond_false]
    by_cases h2 : (((Lib.decDigits n.toNat).length : Nat) : Int) > 1
    · rw [decide_eq_true h2, cond_true]
      have hz : (((Lib.decDigits n.toNat).getD 0 0).toNat : Int) ≠ 48 := by
        cases he : Lib.decDigits n.toNat with
        | nil => exact absurd he hne
        | cons c r =>
          have h3 : 1 ≤ n.toNat := by
            rcases Nat.eq_zero_or_pos n.toNat with hz | hz
            · rw [hz, Lib.decDigits_one (by omega)] at h2; simp at h2
            · exact hz
          have := dec_head n.toNat h3 c r he
          show (c.toNat : Int) ≠ 48
          omega
      rw [beq_false_of_ne hz, cond_false]
    · rw [decide_eq_false h2, cond_false]
  have hv := pn_loop (s := oL (Lib.decDigits n.toNat)) (oL (Lib.decDigits n.toNat)).size 0 0 (by omega) (by rw [L_oL]; simpa using hd) (by rw [L_oL, List.drop_zero, dec_val]; omega)
  rw [L_oL, List.drop_zero, dec_val] at hv
  unfold spec_ParseNum
  rw [ej]
  show Fin.get _ (loopC _ 0 0 _) = _
  rw [show (0 : Int) = ((0 : Nat) : Int) from rfl, hv]
  show (bif decide (((n.toNat : Nat) : Int) > 2147483647) then _ else _) = _
  rw [decide_eq_false (by omega), cond_false]
  congr 1; omega
/-- What stands ahead of the first c, and behind it. -/
theorem cut_at {l r : List UInt8} {c : UInt8} (h : c ∉ l) : cutS (oL (l ++ c :: r)) (ByteArray.mk #[c]) = (oL l, oL r, true) := by
  have key : ∀ l : List UInt8, c ∉ l → Lib.indexByte (l ++ c :: r) c = (l.length : Int) := by
    intro l
    induction l with
    | nil => intro _; simp [Lib.indexByte]
    | cons b l ih =>
      intro h
      have hb : (b == c) = false := by
        rw [beq_eq_false_iff_ne]; rintro rfl; exact h (by simp)
      have := ih (fun hc => h (by simp [hc]))
      rw [List.cons_append, Lib.indexByte, hb, this]
      rw [if_neg (by decide), if_neg (by simp), List.length_cons]
      omega
  have hi : Lib.index (l ++ c :: r) [c] = (l.length : Int) := by rw [index_one]; exact key l h
  have e : Lib.cut (l ++ c :: r) [c] = (l, r, true) := by
    unfold Lib.cut
    rw [hi, if_pos (by omega)]
    simp
  unfold cutS
  show ((⟨(Lib.cut (l ++ c :: r) [c]).1.toArray⟩ : ByteArray), (⟨(Lib.cut (l ++ c :: r) [c]).2.1.toArray⟩ : ByteArray), (Lib.cut (l ++ c :: r) [c]).2.2) = _
  rw [e]; rfl
theorem index_at {l r : List UInt8} {c : UInt8} (h : c ∉ l) (hr : r = [] ∨ ∃ r', r = c :: r') : Lib.indexByte (l ++ r) c = -1 ∧ r = [] ∨ Lib.indexByte (l ++ r) c = (l.length : Int) := by
  have key : ∀ (l r : List UInt8), c ∉ l → (r = [] → Lib.indexByte (l ++ r) c = -1) ∧ ∀ r', r = c :: r' → Lib.indexByte (l ++ r) c = (l.length : Int) := by
    intro l r
    induction l with
    | nil => intro _; exact ⟨fun e => by subst e; rfl, fun r' e => by subst e; simp [Lib.indexByte]⟩
    | cons b l ih =>
      intro h
      have hb : (b == c) = false := by
        rw [beq_eq_false_iff_ne]; rintro rfl; exact h (by simp)
      obtain ⟨i1, i2⟩ := ih (fun hc => h (by simp [hc]))
      refine ⟨fun e => ?_, fun r' e => ?_⟩
      · rw [List.cons_append, Lib.indexByte, hb, i1 e]; rfl
      · rw [List.cons_append, Lib.indexByte, hb, i2 r' e, if_neg (by decide), if_neg (by simp), List.length_cons]; omega
  rcases hr with e | ⟨r', e⟩
  · exact .inl ⟨(key l r h).1 e, e⟩
  · exact .inr ((key l r h).2 r' e)
/-- The texts of right things. -/
structure AtP (a : Attr) : Prop where
  low : ∀ c ∈ a.Key.data.toList, 97 ≤ c.toNat ∧ c.toNat ≤ 122
  ne : a.Key.data.toList ≠ []
  num : a.Num = true → 0 ≤ a.N ∧ a.N ≤ 2147483647 ∧ a.Text = ByteArray.mk #[]
  txt : a.Num = false → a.N = 0 ∧ (34 : UInt8) ∉ a.Text.data.toList
def atL (a : Attr) : List UInt8 := a.Key.data.toList ++ 61 :: (bif a.Num then Lib.decDigits a.N.toNat else 34 :: (a.Text.data.toList ++ [34]))
def aL (l : List Attr) : List UInt8 := l.flatMap fun a => 32 :: atL a
def sL (x : Span) : List UInt8 := Lib.decDigits x.Trace.toNat ++ 47 :: (Lib.decDigits x.Id.toNat ++ 32 :: (Lib.decDigits x.Start.toNat ++ 45 :: (Lib.decDigits x.End.toNat ++ ((bif x.Err then [32, 102, 97, 105, 108, 101, 100] else []) ++ aL x.Attrs))))
theorem allC {σ : Type} {f : Nat → σ → Step σ Bool} {P : Nat → Prop} (hn : ∀ i s v, f i s = .next v → P i) (hs : ∀ i s v, f i s ≠ .stop v) (hd : ∀ i s r, f i s = .done r → r = false) : ∀ (n i : Nat) (s : σ) (k : σ → Bool), Fin.get k (loopC f i s n) = true → ∀ j, i ≤ j → j < i + n → P j
  | 0, i, s, k, _, j, h1, h2 => by omega
  | n + 1, i, s, k, h, j, h1, h2 => by
    unfold loopC at h
    cases e : f i s with
    | next v =>
      rw [e] at h
      by_cases hj : j = i
      · subst hj; exact hn _ _ _ e
      · exact allC hn hs hd n (i + 1) v k h j (by omega) (by omega)
    | stop v => exact absurd e (hs _ _ _)
    | done r =>
      rw [e] at h
      have := hd _ _ _ e
      subst this
      cases h
theorem nameOk_low {s : ByteArray} (h : impl_NameOk s = true) : (∀ c ∈ s.data.toList, 97 ≤ c.toNat ∧ c.toNat ≤ 122) ∧ s.data.toList ≠ [] := by
  have hsz : 1 ≤ s.size := by
    unfold impl_NameOk at h
    rcases loopC_all (impl_NameOk_all s) s.size 0 () with ⟨u, e⟩ | e
    · rw [e] at h
      simp [Fin.get, impl_within, Bool.cond_eq_ite] at h
      omega
    · rw [e] at h; cases h
  refine ⟨fun c hc => ?_, fun e => by have := L_len s; rw [e] at this; simp at this; omega⟩
  obtain ⟨j, hj, e⟩ := List.mem_iff_getElem.1 hc
  unfold impl_NameOk at h
  have := allC (P := fun i => 97 ≤ (s.data.getD i 0).toNat ∧ (s.data.getD i 0).toNat ≤ 122) (f := impl_NameOk_b1 s) (fun i u v e => by
    unfold impl_NameOk_b1 at e
    by_cases h1 : ((s.data.getD i 0).toNat : Int) < 97
    · rw [decide_eq_true h1, cond_true] at e; cases e
    · rw [decide_eq_false h1, cond_false] at e
      by_cases h2 : ((s.data.getD i 0).toNat : Int) > 122
      · rw [decide_eq_true h2, cond_true] at e; cases e
      · omega) (fun i u v e => by
    unfold impl_NameOk_b1 at e
    cases h1 : decide (((s.data.getD i 0).toNat : Int) < 97) <;> rw [h1] at e
    · cases h2 : decide (((s.data.getD i 0).toNat : Int) > 122) <;> rw [h2] at e <;> cases e
    · cases e) (impl_NameOk_all s) _ _ _ _ h j (Nat.zero_le _) (by rw [L_len] at hj; omega)
  have hs' : j < s.size := by rw [← L_len]; exact hj
  have e2 : s.data.getD j 0 = s.data.toList[j] := by simp [Array.getD, hs']
  rw [e2, e] at this
  exact this
theorem plainOk_noq {s : ByteArray} (h : impl_PlainOk s = true) : (34 : UInt8) ∉ s.data.toList := by
  intro hc
  obtain ⟨j, hj, e⟩ := List.mem_iff_getElem.1 hc
  unfold impl_PlainOk at h
  have := allC (P := fun i => (s.data.getD i 0).toNat ≠ 34) (f := impl_PlainOk_b1 s) (fun i u v e => by
    unfold impl_PlainOk_b1 at e
    cases h1 : impl_within (IntKind.i64.wrap ((s.data.getD i 0).toNat : Int)) 32 126 <;> rw [h1] at e
    · cases e
    · by_cases h2 : ((s.data.getD i 0).toNat : Int) = 34
      · rw [h2] at e; cases e
      · omega) (fun i u v e => by
    unfold impl_PlainOk_b1 at e
    cases h1 : impl_within (IntKind.i64.wrap ((s.data.getD i 0).toNat : Int)) 32 126 <;> rw [h1] at e
    · cases e
    · cases h2 : (((s.data.getD i 0).toNat : Int) == 34) <;> rw [h2] at e <;> cases e) (impl_PlainOk_all s) _ _ _ _ h j (Nat.zero_le _) (by rw [L_len] at hj; omega)
  have hs' : j < s.size := by rw [← L_len]; exact hj
  have e2 : s.data.getD j 0 = s.data.toList[j] := by simp [Array.getD, hs']
  rw [e2, e] at this
  exact this rfl
theorem within_iff {n a b : Int} : impl_within n a b = true ↔ a ≤ n ∧ n ≤ b := by
  unfold impl_within
  simp [Bool.cond_eq_ite]
theorem attrOk_P {a : Attr} (h : impl_AttrOk a = true) : AtP a := by
  unfold impl_AttrOk at h
  cases hn : impl_NameOk a.Key with
  | false => rw [hn] at h; cases a.Num <;> simp at h
  | true =>
    obtain ⟨h1, h2⟩ := nameOk_low hn
    rw [hn] at h
    refine ⟨h1, h2, fun e => ?_, fun e => ?_⟩
    · rw [e] at h
      simp only [cond_true] at h
      cases hw : impl_within a.N 0 2147483647 with
      | false => rw [hw] at h; cases h
      | true =>
        rw [hw, cond_true, decide_eq_true_eq] at h
        have := within_iff.1 hw
        exact ⟨this.1, this.2, h⟩
    · rw [e] at h
      simp only [cond_true, cond_false] at h
      cases hw : impl_PlainOk a.Text with
      | false => rw [hw] at h; cases h
      | true =>
        rw [hw, cond_true] at h
        exact ⟨by simpa using h, plainOk_noq hw⟩
theorem attrText_L {a : Attr} (h : impl_AttrOk a = true) : impl_AttrText a = oL (atL a) := by
  have hp := attrOk_P h
  unfold impl_AttrText
  rw [h, Bool.not_true, cond_false]
  unfold atL
  rw [← oL_L (a.Key ++ ByteArray.mk #[61] ++ impl_NumText a.N), ← oL_L (a.Key ++ ByteArray.mk #[61, 34] ++ a.Text ++ ByteArray.mk #[34])]
  cases hn : a.Num with
  | true =>
    have := hp.num hn
    simp only [cond_true, L_app]
    show oL (_ ++ [61] ++ (itoaS a.N).data.toList) = _
    rw [itoaS_oL this.1, L_oL]; simp
  | false =>
    simp only [cond_false, L_app]
    show oL (_ ++ [61, 34] ++ _ ++ [34]) = _
    simp
structure SpP (x : Span) : Prop where
  tr : 0 ≤ x.Trace ∧ x.Trace ≤ 2147483647
  id : 0 ≤ x.Id ∧ x.Id ≤ 2147483647
  st : 0 ≤ x.Start ∧ x.Start ≤ 2147483647
  en : 0 ≤ x.End ∧ x.End ≤ 2147483647
  at' : ∀ a ∈ x.Attrs, impl_AttrOk a = true
  len : x.Attrs.length ≤ 4
theorem attrsOk_all {l : List Attr} (h : impl_AttrsOk l = true) : ∀ a ∈ l, impl_AttrOk a = true := by
  have key : ∀ (l' : List Attr) (i : Nat), (∃ k : Unit → Bool, Fin.get k (loopL (impl_AttrsOk_b1 l) i () l') = true) → ∀ a ∈ l', impl_AttrOk a = true := by
    intro l'
    induction l' with
    | nil => intro i _ a ha; cases ha
    | cons b l' ih =>
      rintro i ⟨k, hk⟩ a ha
      unfold loopL at hk
      cases hb : impl_AttrOk b with
      | false =>
        exfalso
        have e : impl_AttrsOk_b1 l i () b = .done false := by unfold impl_AttrsOk_b1; rw [hb]; rfl
        rw [e] at hk; cases hk
      | true =>
        rcases List.mem_cons.1 ha with rfl | ha
        · exact hb
        · cases e : impl_AttrsOk_b1 l i () b with
          | next v => rw [e] at hk; exact ih (i + 1) ⟨k, hk⟩ a ha
          | stop v =>
            exfalso
            revert e
            unfold impl_AttrsOk_b1
            cases (!impl_AttrOk b) <;> cases decide (((i : Nat) : Int) > 0) <;> cases (!Op.bytesLess ((l[((IntKind.i64.wrap (((i : Nat) : Int) - 1))).toNat]?.getD default).Key).toList (b.Key).toList) <;> (intro e; cases e)
          | done r => rw [e] at hk; have := impl_AttrsOk_all l i () b r e; subst this; cases hk
  unfold impl_AttrsOk at h
  exact key l 0 ⟨_, h⟩
theorem spanOk_P {x : Span} (h : impl_SpanOk x = true) : SpP x := by
  have hl := impl_SpanOk_len h
  unfold impl_SpanOk at h
  cases h1 : impl_within x.Trace 1 999 with
  | false => rw [h1] at h; cases h
  | true =>
    cases h2 : impl_within x.Id 1 999 with
    | false => rw [h1, h2] at h; cases h
    | true =>
      cases h3 : impl_within x.End 0 99999 with
      | false => rw [h1, h2, h3] at h; cases h
      | true =>
        cases h4 : impl_within x.Start 0 x.End with
        | false => rw [h1, h2, h3, h4] at h; cases h
        | true =>
          cases h5 : impl_AttrsOk x.Attrs with
          | false => rw [h1, h2, h3, h4, h5] at h; cases h
          | true =>
            have k1 := within_iff.1 h1; have k2 := within_iff.1 h2; have k3 := within_iff.1 h3; have k4 := within_iff.1 h4
            exact ⟨by omega, by omega, by omega, by omega, attrsOk_all h5, hl⟩
theorem numText_L {n : Int} (h : 0 ≤ n) : impl_NumText n = oL (Lib.decDigits n.toNat) := itoaS_oL h
theorem spanText_L {x : Span} (h : impl_SpanOk x = true) : impl_SpanText x = oL (sL x) := by
  have hp := spanOk_P h
  have loop : ∀ (l : List Attr) (i : Nat) (s : List UInt8), (∀ a ∈ l, impl_AttrOk a = true) → loopL impl_SpanText_b2 i (oL s) l = .fin (oL (s ++ aL l)) := by
    intro l
    induction l with
    | nil => intro i s _; show Fin.fin (oL s) = _; simp [aL]
    | cons a l ih =>
      intro i s hl
      have e : impl_SpanText_b2 i (oL s) a = .next (oL (s ++ ([32] ++ atL a))) := by
        unfold impl_SpanText_b2
        rw [attrText_L (hl a (by simp)), show (ByteArray.mk #[32]) = oL [32] from rfl, oL_app, oL_app]
      unfold loopL
      rw [e]
      simp only
      rw [ih (i + 1) (s ++ ([32] ++ atL a)) (fun b hb => hl b (by simp [hb]))]
      simp [aL, List.flatMap_cons]
  obtain ⟨v, e, e2⟩ := spanText_run h
  have hv : v = oL (Lib.decDigits x.Trace.toNat ++ 47 :: (Lib.decDigits x.Id.toNat ++ 32 :: (Lib.decDigits x.Start.toNat ++ 45 :: (Lib.decDigits x.End.toNat ++ (bif x.Err then [32, 102, 97, 105, 108, 101, 100] else []))))) := by
    unfold impl_SpanText_j1 at e
    rw [numText_L hp.tr.1, numText_L hp.id.1, numText_L hp.st.1, numText_L hp.en.1, show (ByteArray.mk #[47]) = oL [47] from rfl, show (ByteArray.mk #[32]) = oL [32] from rfl, show (ByteArray.mk #[45]) = oL [45] from rfl, show (ByteArray.mk #[32, 102, 97, 105, 108, 101, 100]) = oL [32, 102, 97, 105, 108, 101, 100] from rfl] at e
    simp only [oL_app] at e
    cases he : x.Err with
    | true => rw [he, cond_true] at e; cases e; congr 1; simp
    | false => rw [he, cond_false] at e; cases e; congr 1; simp
  rw [e2, hv, loop _ _ _ hp.at']
  show oL _ = oL _
  congr 1
  unfold sL
  simp
theorem dec_not {n : Nat} {c : UInt8} (h : c.toNat < 48 ∨ 57 < c.toNat) : c ∉ Lib.decDigits n := fun hc => by have := dec_dig n c hc; omega
theorem numberAhead_at {n : Int} {r : List UInt8} {c : UInt8} (h0 : 0 ≤ n) (h1 : n ≤ 2147483647) (hc : c.toNat < 48 ∨ 57 < c.toNat) : impl_numberAhead (oL (Lib.decDigits n.toNat ++ c :: r)) (ByteArray.mk #[c]) = (n, oL r) := by
  unfold impl_numberAhead
  rw [cut_at (dec_not hc)]
  simp only [Bool.not_true, cond_false]
  rw [pnum_dec h0 h1]
  rfl
theorem tail_space {l : List Attr} : aL l = [] ∧ l = [] ∨ ∃ a l', l = a :: l' ∧ aL l = 32 :: (atL a ++ aL l') := by
  cases l with
  | nil => exact .inl ⟨rfl, rfl⟩
  | cons a l => exact .inr ⟨a, l, rfl, by simp [aL, List.flatMap_cons]⟩
theorem toU8_32 : (32 : Int).toNat.toUInt8 = (32 : UInt8) := rfl
theorem idx_num {ρ : Type} {n : Nat} {r : List UInt8} (hr : r = [] ∨ ∃ r', r = 32 :: r') : (bif (decide (indexByteS (oL (Lib.decDigits n ++ r)) 32 < 0)) then (.next ((((oL (Lib.decDigits n ++ r)).size : Nat) : Int)) : Step Int ρ) else (.next (indexByteS (oL (Lib.decDigits n ++ r)) 32))) = .next (((Lib.decDigits n).length : Nat) : Int) := by
  unfold indexByteS
  rw [toU8_32, L_oL]
  rcases index_at (l := Lib.decDigits n) (r := r) (c := 32) (dec_not (by decide)) hr with ⟨e, er⟩ | e
  · rw [e, decide_eq_true (by decide), cond_true, oL_size, er, List.append_nil]
  · rw [e, decide_eq_false (by omega), cond_false]
theorem attrAhead_at {a : Attr} {r : List UInt8} (h : impl_AttrOk a = true) (hr : r = [] ∨ ∃ r', r = 32 :: r') : impl_attrAhead (oL (atL a ++ r)) = (a, oL r, true) := by
  have hp := attrOk_P h
  have hk : (61 : UInt8) ∉ a.Key.data.toList := fun hc => by have := hp.low _ hc; revert this; decide
  have e1 : oL (atL a ++ r) = oL (a.Key.data.toList ++ 61 :: ((bif a.Num then Lib.decDigits a.N.toNat else 34 :: (a.Text.data.toList ++ [34])) ++ r)) := by unfold atL; simp
  rw [e1]
  have hcut := cut_at (r := (bif a.Num then Lib.decDigits a.N.toNat else 34 :: (a.Text.data.toList ++ [34])) ++ r) hk
  unfold impl_attrAhead impl_attrAhead_j1
  rw [hcut]
  simp only [Bool.not_true, cond_false]
  cases hn : a.Num with
  | true =>
    obtain ⟨n0, n1, nt⟩ := hp.num hn
    have hd := dec_dig a.N.toNat
    have hne := dec_ne a.N.toNat
    simp only [cond_true]
    have e2 : ¬ oL (Lib.decDigits a.N.toNat ++ r) = ByteArray.mk #[] := by
      intro e
      have := oL_inj.1 (e.trans (show ByteArray.mk #[] = oL [] from rfl))
      simp [hne] at this
    have e3 : (((((oL (Lib.decDigits a.N.toNat ++ r)).data.getD 0 0).toNat : Nat) : Int) == 34) = false := by
      rw [oL_get]
      cases hl : Lib.decDigits a.N.toNat with
      | nil => exact absurd hl hne
      | cons c l =>
        rw [hl] at hd
        have := hd c (by simp)
        show ((c.toNat : Int) == 34) = false
        rw [beq_eq_false_iff_ne]; omega
    rw [decide_eq_false e2, cond_false, e3, cond_false, idx_num hr]
    show ((Attr.mk _ true _ _, _, _) : Attr × ByteArray × Bool) = _
    rw [Int.toNat_natCast, oL_ext, List.take_left, List.drop_zero, pnum_dec n0 n1, oL_ext, oL_size, List.take_of_length_le (Nat.le_refl _), List.drop_left]
    cases a
    simp only at hn nt
    subst hn nt
    rfl
  | false =>
    obtain ⟨n0, nt⟩ := hp.txt hn
    simp only [cond_false]
    have e2 : ¬ oL ((34 :: (a.Text.data.toList ++ [34])) ++ r) = ByteArray.mk #[] := by
      intro e
      have := oL_inj.1 (e.trans (show ByteArray.mk #[] = oL [] from rfl))
      simp at this
    have e3 : (((((oL ((34 :: (a.Text.data.toList ++ [34])) ++ r)).data.getD 0 0).toNat : Nat) : Int) == 34) = true := rfl
    rw [decide_eq_false e2, cond_false, e3, cond_true, oL_ext, oL_size, List.take_of_length_le (Nat.le_refl _)]
    have e4 : List.drop 1 ((34 :: (a.Text.data.toList ++ [34])) ++ r) = a.Text.data.toList ++ 34 :: r := by simp
    rw [e4, cut_at nt]
    cases a
    simp only at hn n0
    subst hn n0
    rfl
theorem hasPrefix_at {t r : List UInt8} : stringslite_HasPrefix (oL (t ++ r)) (oL t) = true := by
  unfold stringslite_HasPrefix
  rw [oL_size, oL_size, decide_eq_true (by simp; omega), cond_true, oL_ext]
  simp
theorem attr_loop : ∀ (l2 l1 : List Attr) (n : Nat), (∀ a ∈ l2, impl_AttrOk a = true) → l1.length + l2.length ≤ 4 → l2.length ≤ n → loopW impl_ParseSpan_b4 n (l1, oL (aL l2)) = .fin (l1 ++ l2, oL [])
  | [], l1, n, _, _, _ => by
    have e : impl_ParseSpan_b4 (l1, oL (aL [])) = .stop (l1, oL []) := by
      unfold impl_ParseSpan_b4 strings_HasPrefix
      rw [show stringslite_HasPrefix (oL (aL [])) (ByteArray.mk #[32]) = false from rfl, cond_false]; rfl
    cases n <;> (unfold loopW; rw [e, List.append_nil]; rfl)
  | a :: l2, l1, 0, _, _, h => by simp at h
  | a :: l2, l1, n + 1, hl, h4, hn => by
    have e0 : aL (a :: l2) = [32] ++ (atL a ++ aL l2) := by simp [aL, List.flatMap_cons]
    have hr : aL l2 = [] ∨ ∃ r', aL l2 = 32 :: r' := by
      rcases tail_space (l := l2) with ⟨e, _⟩ | ⟨b, l', _, e⟩
      · exact .inl e
      · exact .inr ⟨_, e⟩
    have ha := attrAhead_at (hl a (by simp)) hr
    have e : impl_ParseSpan_b4 (l1, oL (aL (a :: l2))) = .next (l1 ++ [a], oL (aL l2)) := by
      unfold impl_ParseSpan_b4 strings_HasPrefix
      rw [e0]
      rw [show stringslite_HasPrefix (oL ([32] ++ (atL a ++ aL l2))) (ByteArray.mk #[32]) = true from hasPrefix_at, cond_true]
      rw [decide_eq_true (by simp only [List.length_cons] at h4; show ((l1.length : Nat) : Int) ≤ 4; omega), cond_true]
      have e1 : (oL ([32] ++ (atL a ++ aL l2))).extract 1 (oL ([32] ++ (atL a ++ aL l2))).size = oL (atL a ++ aL l2) := by
        rw [oL_ext, oL_size, List.take_of_length_le (Nat.le_refl _)]; rfl
      simp only [e1, ha, Bool.not_true, cond_false]
    unfold loopW
    rw [e]
    simp only
    rw [attr_loop l2 (l1 ++ [a]) n (fun b hb => hl b (by simp [hb])) (by simp only [List.length_append, List.length_cons, List.length_nil] at h4 ⊢; omega) (by simp at hn; omega)]
    simp
theorem cutPrefix_at {t r : List UInt8} : stringslite_CutPrefix (oL (t ++ r)) (oL t) = (oL r, true) := by
  unfold stringslite_CutPrefix
  rw [hasPrefix_at, Bool.not_true, cond_false, oL_ext, oL_size, oL_size, List.take_of_length_le (Nat.le_refl _), List.drop_left]
theorem hasPrefix_false {l t : List UInt8} (h : ∀ r, l ≠ t ++ r) : stringslite_HasPrefix (oL l) (oL t) = false := by
  unfold stringslite_HasPrefix
  by_cases hc : (((oL l).size : Nat) : Int) ≥ (((oL t).size : Nat) : Int)
  · rw [decide_eq_true hc, cond_true, decide_eq_false]
    rw [oL_ext, oL_inj, oL_size]
    intro e
    rw [List.drop_zero] at e
    exact h (l.drop t.length) (by rw [← e]; rw [List.length_take]; rw [oL_size, oL_size] at hc; rw [Nat.min_eq_left (by omega), List.take_append_drop])
  · rw [decide_eq_false hc, cond_false]
theorem cutPrefix_no {l t : List UInt8} (h : ∀ r, l ≠ t ++ r) : stringslite_CutPrefix (oL l) (oL t) = (oL l, false) := by
  unfold stringslite_CutPrefix
  rw [hasPrefix_false h, Bool.not_false, cond_true]
/-- A thing said whose name begins as the word. -/
theorem key_after {K R after : List UInt8} (hK : ∀ c ∈ K, 97 ≤ c.toNat ∧ c.toNat ≤ 122) : ∀ F : List UInt8, (∀ c ∈ F, 97 ≤ c.toNat ∧ c.toNat ≤ 122) → K ++ 61 :: R = F ++ after → ∃ c r, after = c :: r ∧ c ≠ 32 := by
  induction K with
  | nil =>
    intro F hF e
    cases F with
    | nil => exact ⟨61, R, e.symm, by decide⟩
    | cons c F =>
      exfalso
      have h1 := hF c (by simp)
      have : (61 : UInt8) = c := by simpa using (List.cons.inj e).1
      subst this
      revert h1; decide
  | cons k K ih =>
    intro F hF e
    cases F with
    | nil => exact ⟨k, K ++ 61 :: R, e.symm, by rintro rfl; have := hK 32 (by simp); revert this; decide⟩
    | cons c F =>
      exact ih (fun c hc => hK c (by simp [hc])) F (fun c hc => hF c (by simp [hc])) (List.cons.inj e).2
theorem low_failed : ∀ c ∈ ([102, 97, 105, 108, 101, 100] : List UInt8), 97 ≤ c.toNat ∧ c.toNat ≤ 122 := by decide
theorem next_get {σ τ ρ : Type} (v : σ) (k : σ → ρ) : Step.get k (.next v) = k v := rfl
/-- The program reads what is right. -/
theorem implParse_at {x : Span} (h : impl_SpanOk x = true) : impl_ParseSpan (impl_SpanText x) = (x, true) := by
  have hp := spanOk_P h
  have hT := spanText_L h
  rw [hT]
  generalize hta : (bif x.Err then [32, 102, 97, 105, 108, 101, 100] else []) ++ aL x.Attrs = tail
  have htail : tail = [] ∨ ∃ r', tail = 32 :: r' := by
    rw [← hta]
    cases x.Err with
    | true => exact .inr ⟨_, rfl⟩
    | false =>
      rcases tail_space (l := x.Attrs) with ⟨e, _⟩ | ⟨b, l', _, e⟩
      · exact .inl e
      · exact .inr ⟨_, e⟩
  have es : sL x = Lib.decDigits x.Trace.toNat ++ 47 :: (Lib.decDigits x.Id.toNat ++ 32 :: (Lib.decDigits x.Start.toNat ++ 45 :: (Lib.decDigits x.End.toNat ++ tail))) := by rw [← hta]; rfl
  have n1 : impl_numberAhead (oL (sL x)) (ByteArray.mk #[47]) = (x.Trace, oL (Lib.decDigits x.Id.toNat ++ 32 :: (Lib.decDigits x.Start.toNat ++ 45 :: (Lib.decDigits x.End.toNat ++ tail)))) := by rw [es]; exact numberAhead_at hp.tr.1 hp.tr.2 (by decide)
  have n2 := numberAhead_at (n := x.Id) (r := Lib.decDigits x.Start.toNat ++ 45 :: (Lib.decDigits x.End.toNat ++ tail)) (c := 32) hp.id.1 hp.id.2 (by decide)
  have n3 := numberAhead_at (n := x.Start) (r := Lib.decDigits x.End.toNat ++ tail) (c := 45) hp.st.1 hp.st.2 (by decide)
  have j1 : impl_ParseSpan_j1 (oL (sL x)) = .next (((Lib.decDigits x.End.toNat).length : Nat) : Int) := by
    unfold impl_ParseSpan_j1
    rw [n1, n2, n3]
    exact idx_num htail
  have x1 : (oL (Lib.decDigits x.End.toNat ++ tail)).extract (((Lib.decDigits x.End.toNat).length : Nat) : Int).toNat (oL (Lib.decDigits x.End.toNat ++ tail)).size = oL tail := by
    rw [oL_ext, oL_size, List.take_of_length_le (Nat.le_refl _), Int.toNat_natCast, List.drop_left]
  have x2 : (oL (Lib.decDigits x.End.toNat ++ tail)).extract 0 (((Lib.decDigits x.End.toNat).length : Nat) : Int).toNat = oL (Lib.decDigits x.End.toNat) := by
    rw [oL_ext, Int.toNat_natCast, List.take_left, List.drop_zero]
  have j2 : impl_ParseSpan_j2 (oL (sL x)) (((Lib.decDigits x.End.toNat).length : Nat) : Int) = .next (x.Err, oL (aL x.Attrs)) := by
    unfold impl_ParseSpan_j2 strings_CutPrefix
    simp only [n1, n2, n3, x1]
    rw [show (ByteArray.mk #[32, 102, 97, 105, 108, 101, 100]) = oL [32, 102, 97, 105, 108, 101, 100] from rfl]
    cases he : x.Err with
    | true =>
      rw [he, cond_true] at hta
      rw [← hta, cutPrefix_at]
      simp only [cond_true]
      rcases tail_space (l := x.Attrs) with ⟨e, _⟩ | ⟨b, l', _, e⟩
      · rw [e, show oL [] = ByteArray.mk #[] from rfl, decide_eq_true rfl, cond_true]
      · rw [e, decide_eq_false (by rw [show ByteArray.mk #[] = oL [] from rfl, oL_inj]; simp), cond_false, oL_get]
        rfl
    | false =>
      rw [he, cond_false, List.nil_append] at hta
      rw [← hta]
      by_cases hx : ∃ r, aL x.Attrs = [32, 102, 97, 105, 108, 101, 100] ++ r
      · obtain ⟨after, ea⟩ := hx
        rw [ea, cutPrefix_at]
        simp only [cond_true]
        rcases tail_space (l := x.Attrs) with ⟨e, _⟩ | ⟨b, l', el, e⟩
        · rw [e] at ea; cases ea
        · rw [e] at ea
          have hb := attrOk_P (hp.at' b (by rw [el]; simp))
          have ea2 : b.Key.data.toList ++ 61 :: ((bif b.Num then Lib.decDigits b.N.toNat else 34 :: (b.Text.data.toList ++ [34])) ++ aL l') = [102, 97, 105, 108, 101, 100] ++ after := by
            have := (List.cons.inj ea).2
            unfold atL at this
            simpa using this
          obtain ⟨c, r, e3, hc⟩ := key_after hb.low _ low_failed ea2
          subst e3
          rw [decide_eq_false (by rw [show ByteArray.mk #[] = oL [] from rfl, oL_inj]; simp), cond_false, oL_get]
          have e4 : ((((c :: r).getD 0 0).toNat : Int) == 32) = false := by
            rw [beq_eq_false_iff_ne]
            intro e5
            apply hc
            apply UInt8.toNat_inj.1
            show c.toNat = 32
            have e6 : ((c.toNat : Nat) : Int) = 32 := e5
            omega
          rw [e4, cond_false]
      · rw [cutPrefix_no (fun r e => hx ⟨r, e⟩)]
        rfl
  have j3 : impl_ParseSpan_j3 (x.Err, oL (aL x.Attrs)) = .next x.Attrs := by
    unfold impl_ParseSpan_j3
    have hlen : x.Attrs.length ≤ (oL (aL x.Attrs)).size := by
      rw [oL_size]
      have : ∀ l : List Attr, l.length ≤ (aL l).length := by
        intro l
        induction l with
        | nil => exact Nat.le_refl _
        | cons a l ih =>
          have e : aL (a :: l) = 32 :: (atL a ++ aL l) := by simp [aL, List.flatMap_cons]
          rw [e]; simp; omega
      exact this _
    have := attr_loop x.Attrs [] (oL (aL x.Attrs)).size hp.at' (by simpa using hp.len) hlen
    simp only at this ⊢
    rw [this]
    rfl
  unfold impl_ParseSpan
  rw [j1, next_get (τ := Unit), j2, next_get (τ := Unit), j3, next_get (τ := Unit), n1, n2, n3]
  simp only [x2, pnum_dec hp.en.1 hp.en.2]
  have ex : (Span.mk x.Trace x.Id x.Start x.End x.Err x.Attrs) = x := by cases x; rfl
  rw [ex, h, Bool.not_true, cond_false, hT, decide_eq_true rfl, Bool.not_true, cond_false]
theorem bif_or {β : Type} {P : β → Prop} {c : Bool} {a b : β} (ha : c = true → P a) (hb : c = false → P b) : P (bif c then a else b) := bif_ind ha hb
def GoodI (s : ByteArray) (z : Span × Bool) : Prop := z = (Span.mk 0 0 0 0 false [], false) ∨ ∃ x, z = (x, true) ∧ impl_SpanOk x = true ∧ impl_SpanText x = s
theorem step_good {σ ρ : Type} {P : ρ → Prop} {st : Step σ ρ} {k : σ → ρ} (h : ∀ v, P (k v)) (hd : ∀ r, st = .done r → P r) : P (Step.get k st) := by
  cases st with
  | next v => exact h v
  | stop v => exact h v
  | done r => exact hd r rfl
theorem nf {b : Bool} (h : (!b) = false) : b = true := by cases b; cases h; rfl
theorem loopW_done {σ ρ : Type} {b : σ → Step σ ρ} {P : ρ → Prop} (h : ∀ s r, b s = .done r → P r) : ∀ (n : Nat) (s : σ) (r : ρ), loopW b n s = .done r → P r
  | 0, s, r, e => by
    unfold loopW at e
    cases hb : b s with
    | done r' => rw [hb] at e; cases e; exact h s r hb
    | next v => rw [hb] at e; cases e
    | stop v => rw [hb] at e; cases e
  | n + 1, s, r, e => by
    unfold loopW at e
    cases hb : b s with
    | done r' => rw [hb] at e; cases e; exact h s r hb
    | next v => rw [hb] at e; exact loopW_done h n v r e
    | stop v => rw [hb] at e; cases e
theorem implParse_good (s : ByteArray) : GoodI s (impl_ParseSpan s) := by
  unfold impl_ParseSpan
  refine step_good (fun s1 => step_good (fun s2 => step_good (fun s3 => ?_) ?_) ?_) ?_
  · refine bif_ind (P := GoodI s) (fun _ => .inl rfl) (fun h1 => bif_ind (P := GoodI s) (fun _ => .inl rfl) (fun h2 => .inr ⟨_, rfl, nf h1, ?_⟩))
    have := nf h2
    simpa using this
  · intro r e
    unfold impl_ParseSpan_j3 at e
    have key : ∀ f, (∀ r, f = .done r → ∃ z, r = .done z ∧ GoodI s z) → Fin.get (fun s4 : List Attr × ByteArray => (.next s4.1 : Step (List Attr) (Span × Bool))) f = .done r → GoodI s r := by
      intro f hf e
      cases f with
      | fin v => cases e
      | done r' => obtain ⟨z, rfl, hz⟩ := hf r' rfl; cases e; exact hz
    refine key _ (fun r' e' => ?_) e
    refine loopW_done (P := fun r => ∃ z, r = .done z ∧ GoodI s z) (fun st r0 e0 => ?_) _ _ _ e'
    revert e0
    unfold impl_ParseSpan_b4
    refine bif_ind (P := fun q : Step ((List Attr) × ByteArray) (Step ((List Attr)) (Span × Bool)) => q = .done r0 → ∃ z, r0 = .done z ∧ GoodI s z) (fun _ => ?_) (fun _ e => by cases e)
    refine bif_ind (P := fun q : Step ((List Attr) × ByteArray) (Step ((List Attr)) (Span × Bool)) => q = .done r0 → ∃ z, r0 = .done z ∧ GoodI s z) (fun _ => ?_) (fun _ e => by cases e)
    exact bif_ind (P := fun q : Step ((List Attr) × ByteArray) (Step ((List Attr)) (Span × Bool)) => q = .done r0 → ∃ z, r0 = .done z ∧ GoodI s z) (fun _ e => by cases e; exact ⟨_, rfl, .inl rfl⟩) (fun _ e => by cases e)
  · intro r e
    exfalso
    revert e
    unfold impl_ParseSpan_j2
    exact bif_ind (P := fun q : Step (Bool × ByteArray) (Span × Bool) => q = .done r → False) (fun _ => bif_ind (P := fun q : Step (Bool × ByteArray) (Span × Bool) => q = .done r → False) (fun _ e => by cases e) (fun _ => bif_ind (P := fun q : Step (Bool × ByteArray) (Span × Bool) => q = .done r → False) (fun _ e => by cases e) (fun _ e => by cases e))) (fun _ e => by cases e)
  · intro r e
    exfalso
    revert e
    unfold impl_ParseSpan_j1
    exact bif_ind (P := fun q : Step Int (Span × Bool) => q = .done r → False) (fun _ e => by cases e) (fun _ e => by cases e)
/-- A reader of s, of which l is left. -/
structure Rr (s : ByteArray) (l : List UInt8) (r : l27Reader) : Prop where
  es : r.f_s = s
  bad : r.f_bad = false
  len : s.size ≤ 1048576
  at' : ∃ pre, s = oL (pre ++ l) ∧ r.f_at = ((pre.length : Nat) : Int)
theorem Rr.ok {s : ByteArray} {l : List UInt8} {r : l27Reader} (h : Rr s l r) : RdOk r := by
  obtain ⟨pre, e, ea⟩ := h.at'
  have e2 : s.size = pre.length + l.length := by rw [e, oL_size, List.length_append]
  exact ⟨by rw [ea]; omega, by rw [ea, h.es, e2]; omega, by rw [h.es]; exact h.len⟩
theorem scanTo_at {f : UInt8 → Bool} {pre m l : List UInt8} (hm : ∀ c ∈ m, f c = true) (hl : l = [] ∨ ∃ c l', l = c :: l' ∧ f c = false) : scanTo f (oL (pre ++ (m ++ l))) pre.length = pre.length + m.length := by
  unfold scanTo
  rw [L_oL, List.drop_left]
  congr 1
  have : (m ++ l).takeWhile f = m := by
    rw [List.takeWhile_append_of_pos hm]
    rcases hl with rfl | ⟨c, l', rfl, hc⟩
    · simp
    · rw [List.takeWhile_cons, if_neg (by rw [hc]; decide), List.append_nil]
  rw [this]
theorem ext_mid {pre m l : List UInt8} : (oL (pre ++ (m ++ l))).extract pre.length (pre.length + m.length) = oL m := by
  rw [oL_ext, ← List.append_assoc, List.take_append_of_le_length (by simp), List.take_of_length_le (by simp), List.drop_left]
def NoDig (l : List UInt8) : Prop := l = [] ∨ ∃ c l', l = c :: l' ∧ isDig c = false
theorem num_run' {s : ByteArray} {n : Int} {l : List UInt8} {r : l27Reader} (h : Rr s (Lib.decDigits n.toNat ++ l) r) (h0 : 0 ≤ n) (h1 : n ≤ 2147483647) (hl : NoDig l) : ∃ r', spec_l27Num r = (n, r') ∧ Rr s l r' := by
  have hok := h.ok
  obtain ⟨pre, e, ea⟩ := h.at'
  refine ⟨⟨s, (((pre ++ Lib.decDigits n.toNat).length : Nat) : Int), false⟩, ?_, ?_⟩
  · rw [num_eq hok, h.es, h.bad, ea, Int.toNat_natCast, e, scanTo_at (f := isDig) (fun c hc => by have := dec_dig n.toNat c hc; unfold isDig; rw [decide_eq_true]; omega) hl, ext_mid, parseNum_dec h0 h1, List.length_append]
    rfl
  · exact ⟨rfl, rfl, h.len, pre ++ Lib.decDigits n.toNat, by rw [e, List.append_assoc], rfl⟩
theorem name_run' {s : ByteArray} {K l : List UInt8} {r : l27Reader} (h : Rr s (K ++ l) r) (hK : ∀ c ∈ K, 97 ≤ c.toNat ∧ c.toNat ≤ 122) (hl : l = [] ∨ ∃ c l', l = c :: l' ∧ isLow c = false) : ∃ r', spec_l27Name r = (oL K, r') ∧ Rr s l r' := by
  have hok := h.ok
  obtain ⟨pre, e, ea⟩ := h.at'
  refine ⟨⟨s, (((pre ++ K).length : Nat) : Int), false⟩, ?_, rfl, rfl, h.len, pre ++ K, by rw [e, List.append_assoc], rfl⟩
  rw [name_eq hok, h.es, h.bad, ea, Int.toNat_natCast, e, scanTo_at (f := isLow) (fun c hc => by have := hK c hc; unfold isLow; rw [decide_eq_true]; omega) hl, ext_mid, List.length_append]
theorem is_yes {s : ByteArray} {t l : List UInt8} {r : l27Reader} (h : Rr s (t ++ l) r) : ∃ r', spec_l27Is r (oL t) = (true, r') ∧ Rr s l r' := by
  obtain ⟨pre, e, ea⟩ := h.at'
  have e2 : s.size = pre.length + (t.length + l.length) := by rw [e, oL_size, List.length_append, List.length_append]
  have hlen := h.len
  refine ⟨⟨s, (((pre ++ t).length : Nat) : Int), false⟩, ?_, rfl, rfl, h.len, pre ++ t, by rw [e, List.append_assoc], rfl⟩
  unfold spec_l27Is
  rw [h.bad, cond_false, ea, oL_size, wrap_small (n := ((pre.length : Nat) : Int) + ((t.length : Nat) : Int)) (by omega) (by omega), h.es, decide_eq_false (by omega), cond_false]
  rw [show (((pre.length : Nat) : Int) + ((t.length : Nat) : Int)).toNat = pre.length + t.length by omega, Int.toNat_natCast]
  rw [show s.extract pre.length (pre.length + t.length) = oL t by rw [e, ext_mid], decide_eq_true rfl, Bool.not_true, cond_false, List.length_append]
  rfl
theorem is_no {s : ByteArray} {t l : List UInt8} {r : l27Reader} (h : Rr s l r) (hn : ∀ l', l ≠ t ++ l') (ht : t.length ≤ 1000) : spec_l27Is r (oL t) = (false, r) := by
  obtain ⟨pre, e, ea⟩ := h.at'
  have e2 : s.size = pre.length + l.length := by rw [e, oL_size, List.length_append]
  have hlen := h.len
  unfold spec_l27Is
  rw [h.bad, cond_false, ea, oL_size, wrap_small (n := ((pre.length : Nat) : Int) + ((t.length : Nat) : Int)) (by omega) (by omega), h.es]
  by_cases hc : ((pre.length : Nat) : Int) + ((t.length : Nat) : Int) > ((s.size : Nat) : Int)
  · rw [decide_eq_true hc, cond_true]
  · rw [decide_eq_false hc, cond_false]
    rw [show (((pre.length : Nat) : Int) + ((t.length : Nat) : Int)).toNat = pre.length + t.length by omega, Int.toNat_natCast]
    have e3 : s.extract pre.length (pre.length + t.length) = oL (l.take t.length) := by
      rw [e]
      have := ext_mid (pre := pre) (m := l.take t.length) (l := l.drop t.length)
      rw [List.take_append_drop, List.length_take, Nat.min_eq_left (by omega)] at this
      exact this
    rw [e3, decide_eq_false (fun e4 => hn (l.drop t.length) (by rw [← oL_inj.1 e4, List.length_take, Nat.min_eq_left (by omega), List.take_append_drop])), Bool.not_false, cond_true]
theorem must_yes {s : ByteArray} {t l : List UInt8} {r : l27Reader} (h : Rr s (t ++ l) r) : Rr s l (spec_l27Must r (oL t)) := by
  obtain ⟨r', e, h'⟩ := is_yes h
  unfold spec_l27Must bindV
  rw [e]
  exact h'
theorem failed_yes {s : ByteArray} {l : List UInt8} {r : l27Reader} (h : Rr s ([32, 102, 97, 105, 108, 101, 100] ++ l) r) (hl : l = [] ∨ ∃ l', l = 32 :: l') : ∃ r', spec_l27Failed r = (true, r') ∧ Rr s l r' := by
  obtain ⟨r', e, h'⟩ := is_yes h
  refine ⟨r', ?_, h'⟩
  unfold spec_l27Failed bindV
  rw [show (ByteArray.mk #[32, 102, 97, 105, 108, 101, 100]) = oL [32, 102, 97, 105, 108, 101, 100] from rfl, e]
  simp only [Bool.not_true, cond_false]
  obtain ⟨pre, e1, ea⟩ := h'.at'
  rcases hl with rfl | ⟨l', rfl⟩
  · have e2 : s.size = pre.length := by rw [e1, oL_size, List.append_nil]
    rw [ea, h'.es, decide_eq_false (by omega), cond_false]
  · have e2 : s.size = pre.length + (l'.length + 1) := by rw [e1, oL_size, List.length_append, List.length_cons]
    rw [ea, h'.es, decide_eq_true (by omega), cond_true, Int.toNat_natCast, e1, oL_get]
    have : (pre ++ 32 :: l').getD pre.length 0 = 32 := by simp [List.getD_eq_getElem?_getD]
    rw [this]
    rfl
theorem failed_no {s : ByteArray} {l : List UInt8} {r : l27Reader} (h : Rr s l r) (hl : ∀ after, l = [32, 102, 97, 105, 108, 101, 100] ++ after → ∃ c r, after = c :: r ∧ c ≠ 32) : ∃ r', spec_l27Failed r = (false, r') ∧ Rr s l r' := by
  by_cases hx : ∃ after, l = [32, 102, 97, 105, 108, 101, 100] ++ after
  · obtain ⟨after, el⟩ := hx
    obtain ⟨c, q, ec, hc⟩ := hl after el
    have h2 : Rr s ([32, 102, 97, 105, 108, 101, 100] ++ after) r := el ▸ h
    obtain ⟨r', e, h'⟩ := is_yes h2
    obtain ⟨pre, e1, ea⟩ := h'.at'
    obtain ⟨pre0, e10, ea0⟩ := h.at'
    refine ⟨⟨s, r.f_at, false⟩, ?_, rfl, rfl, h.len, pre0, e10, ea0⟩
    unfold spec_l27Failed bindV
    rw [show (ByteArray.mk #[32, 102, 97, 105, 108, 101, 100]) = oL [32, 102, 97, 105, 108, 101, 100] from rfl, e]
    simp only [Bool.not_true, cond_false]
    subst ec
    have e2 : s.size = pre.length + (q.length + 1) := by rw [e1, oL_size, List.length_append, List.length_cons]
    have e4 : (((c.toNat : Nat) : Int) != 32) = true := by
      rw [bne_iff_ne]
      intro e5
      exact hc (UInt8.toNat_inj.1 (by show c.toNat = 32; omega))
    have e3 : (pre ++ c :: q).getD pre.length 0 = c := by simp [List.getD_eq_getElem?_getD]
    rw [ea, h'.es, h'.bad, decide_eq_true (by omega), cond_true, Int.toNat_natCast]
    rw [show (s.data.getD pre.length 0) = c by rw [e1, oL_get, e3], e4, cond_true]
  · refine ⟨r, ?_, h⟩
    unfold spec_l27Failed bindV
    rw [show (ByteArray.mk #[32, 102, 97, 105, 108, 101, 100]) = oL [32, 102, 97, 105, 108, 101, 100] from rfl, is_no h (fun l' e => hx ⟨l', e⟩) (by decide)]
    rfl
theorem quoted_run {s : ByteArray} {T l : List UInt8} {r : l27Reader} (h : Rr s ([34] ++ (T ++ 34 :: l)) r) (hT : (34 : UInt8) ∉ T) : ∃ r', spec_l27Quoted r = (oL T, r') ∧ Rr s l r' := by
  rw [quoted_eq h.ok]
  have h1 := must_yes h
  unfold bindV
  rw [show (ByteArray.mk #[34]) = oL [34] from rfl]
  generalize spec_l27Must r (oL [34]) = v at h1
  obtain ⟨pre, e, ea⟩ := h1.at'
  have hs := scanTo_at (f := notQ) (pre := pre) (m := T) (l := 34 :: l) (fun c hc => by
    unfold notQ
    rw [bne_iff_ne]
    intro e5
    exact hT (by rw [show (34 : UInt8) = c from UInt8.toNat_inj.1 (by show 34 = c.toNat; omega)]; exact hc)) (.inr ⟨34, l, rfl, rfl⟩)
  have h2 : Rr s ([34] ++ l) ⟨s, (((pre ++ T).length : Nat) : Int), false⟩ := ⟨rfl, rfl, h.len, pre ++ T, by rw [e]; simp, rfl⟩
  refine ⟨_, ?_, must_yes h2⟩
  dsimp only
  rw [h1.es, h1.bad, ea, Int.toNat_natCast, e, hs, ext_mid, List.length_append]
theorem isLow61 (l : List UInt8) : (61 :: l) = [] ∨ ∃ c l', (61 :: l) = c :: l' ∧ isLow c = false := .inr ⟨61, l, rfl, by decide⟩
theorem noDig_of {l : List UInt8} (h : l = [] ∨ ∃ r', l = 32 :: r') : NoDig l := by
  rcases h with e | ⟨r', e⟩
  · exact .inl e
  · exact .inr ⟨32, r', e, by decide⟩
theorem aL_head (l : List Attr) : aL l = [] ∨ ∃ r', aL l = 32 :: r' := by
  rcases tail_space (l := l) with ⟨e, _⟩ | ⟨b, l', _, e⟩
  · exact .inl e
  · exact .inr ⟨_, e⟩
theorem sp_loop {s : ByteArray} : ∀ (l2 l1 : List Attr) (n : Nat) (i : Int) (b : Bool), (∀ a ∈ l2, impl_AttrOk a = true) → Rr s (aL l2) ⟨s, i, b⟩ → l2.length ≤ n → ∃ j, loopW spec_ParseSpan_b2 n (l1, s, i, b) = .fin (l1 ++ l2, s, j, false)
  | [], l1, n, i, b, _, h, _ => by
    have hb : b = false := h.bad
    subst hb
    have e := is_no (t := [32]) h (fun l' e => by cases e) (by decide)
    have e2 : spec_ParseSpan_b2 (l1, s, i, false) = .stop (l1, s, i, false) := by
      unfold spec_ParseSpan_b2 bindV
      simp only [Bool.not_false, cond_true]
      rw [show (ByteArray.mk #[32]) = oL [32] from rfl, e]
      rfl
    refine ⟨i, ?_⟩
    cases n <;> (unfold loopW; rw [e2, List.append_nil]; rfl)
  | a :: l2, l1, 0, i, b, _, _, h => by simp at h
  | a :: l2, l1, n + 1, i, b, hl, h, hn => by
    have hb : b = false := h.bad
    subst hb
    have hp := attrOk_P (hl a (by simp))
    have e0 : aL (a :: l2) = [32] ++ (a.Key.data.toList ++ 61 :: ((bif a.Num then Lib.decDigits a.N.toNat else 34 :: (a.Text.data.toList ++ [34])) ++ aL l2)) := by simp [aL, List.flatMap_cons, atL]
    rw [e0] at h
    obtain ⟨r1, e1, h1⟩ := is_yes h
    obtain ⟨r2, e2, h2⟩ := name_run' h1 hp.low (isLow61 _)
    have h3 := must_yes (t := [61]) (l := (bif a.Num then Lib.decDigits a.N.toNat else 34 :: (a.Text.data.toList ++ [34])) ++ aL l2) h2
    have ej : ∃ r4 : l27Reader, spec_ParseSpan_j3 (spec_l27Must r2 (oL [61])) = .next (r4.f_s, r4.f_at, r4.f_bad, a.Text, a.Num, a.N) ∧ Rr s (aL l2) r4 := by
      generalize spec_l27Must r2 (oL [61]) = v at h3
      obtain ⟨pre, e, ea⟩ := h3.at'
      unfold spec_ParseSpan_j3 spec_ParseSpan_j4 bindV
      cases hn' : a.Num with
      | true =>
        obtain ⟨n0, n1, nt⟩ := hp.num hn'
        rw [hn', cond_true] at h3 e
        have hne := dec_ne a.N.toNat
        obtain ⟨r4, e4, h4⟩ := num_run' h3 n0 n1 (noDig_of (aL_head l2))
        refine ⟨r4, ?_, h4⟩
        have e5 : (((v.f_s.data.getD v.f_at.toNat 0).toNat : Int) == 34) = false := by
          rw [h3.es, ea, Int.toNat_natCast, e, oL_get]
          have hd := dec_dig a.N.toNat
          cases hc : Lib.decDigits a.N.toNat with
          | nil => exact absurd hc hne
          | cons c q =>
            rw [hc] at hd
            have hd := hd c (by simp)
            have : (pre ++ (c :: q ++ aL l2)).getD pre.length 0 = c := by simp [List.getD_eq_getElem?_getD]
            rw [this, beq_eq_false_iff_ne]; omega
        have e6 : v.f_at < ((v.f_s.size : Nat) : Int) := by
          have e7 : s.size = pre.length + ((Lib.decDigits a.N.toNat).length + (aL l2).length) := by
            have := congrArg ByteArray.size e
            rw [oL_size, List.length_append, List.length_append] at this
            exact this
          have : 1 ≤ (Lib.decDigits a.N.toNat).length := by
            cases hc : Lib.decDigits a.N.toNat with
            | nil => exact absurd hc hne
            | cons c q => simp
          rw [h3.es, ea]; omega
        rw [h3.bad, Bool.not_false, cond_true, decide_eq_true e6, cond_true, e5]
        simp only [Step.get, cond_false, e4, nt]
      | false =>
        obtain ⟨n0, nt⟩ := hp.txt hn'
        rw [hn', cond_false] at h3 e
        have h3' : Rr s ([34] ++ (a.Text.data.toList ++ 34 :: aL l2)) v := by
          have : (34 :: (a.Text.data.toList ++ [34])) ++ aL l2 = [34] ++ (a.Text.data.toList ++ 34 :: aL l2) := by simp
          rw [this] at h3; exact h3
        obtain ⟨r4, e4, h4⟩ := quoted_run h3' nt
        refine ⟨r4, ?_, h4⟩
        have e5 : (((v.f_s.data.getD v.f_at.toNat 0).toNat : Int) == 34) = true := by
          rw [h3.es, ea, Int.toNat_natCast, e, oL_get]
          have : (pre ++ (34 :: (a.Text.data.toList ++ [34]) ++ aL l2)).getD pre.length 0 = 34 := by simp [List.getD_eq_getElem?_getD]
          rw [this]; rfl
        have e6 : v.f_at < ((v.f_s.size : Nat) : Int) := by
          have e7 := congrArg ByteArray.size e
          rw [oL_size, List.length_append, List.length_append, List.length_cons] at e7
          rw [h3.es, ea]; omega
        rw [h3.bad, Bool.not_false, cond_true, decide_eq_true e6, cond_true, e5]
        simp only [Step.get, cond_true, e4, n0, oL_L]
    obtain ⟨r4, e4, h4⟩ := ej
    have e5 : spec_ParseSpan_b2 (l1, s, i, false) = .next (l1 ++ [a], r4.f_s, r4.f_at, r4.f_bad) := by
      unfold spec_ParseSpan_b2 bindV
      simp only [Bool.not_false, cond_true]
      rw [show (ByteArray.mk #[32]) = oL [32] from rfl, e1]
      simp only [cond_true, e2]
      rw [show (ByteArray.mk #[61]) = oL [61] from rfl, e4]
      simp only [Step.get, oL_L]
    have hs := h4.es; have hbd := h4.bad
    obtain ⟨rs, ra, rb⟩ := r4
    simp only at hs hbd
    subst hs hbd
    obtain ⟨j, ej⟩ := sp_loop l2 (l1 ++ [a]) n ra false (fun b hb => hl b (by simp [hb])) h4 (by simp at hn; omega)
    refine ⟨j, ?_⟩
    unfold loopW
    rw [e5]
    simp only
    rw [ej]
    simp
theorem spanOk_rg {x : Span} (h : impl_SpanOk x = true) : Span.rg x := by
  have hp := spanOk_P h
  have i64 : ∀ n : Int, 0 ≤ n ∧ n ≤ 2147483647 → I64 n := fun n hn => ⟨by omega, by omega⟩
  refine ⟨i64 _ hp.tr, i64 _ hp.id, i64 _ hp.st, i64 _ hp.en, trivial, ⟨by have := hp.len; omega, fun a ha => ?_⟩, trivial⟩
  have ha := hp.at' a ha
  have h1 := impl_AttrOk_size ha
  have h2 := attrOk_P ha
  refine ⟨by omega, trivial, ?_, ?_, trivial⟩
  · cases hn : a.Num with
    | true => have := h2.num hn; exact i64 _ ⟨this.1, this.2.1⟩
    | false => rw [(h2.txt hn).1]; exact i64 _ ⟨by omega, by omega⟩
  · cases hn : a.Num with
    | true => rw [(h2.num hn).2.2]; decide
    | false => have := h1.2 hn; omega
/-- The reference reads what is right. -/
theorem specParse_at {x : Span} (h : impl_SpanOk x = true) : spec_ParseSpan (impl_SpanText x) = (x, true) := by
  have hp := spanOk_P h
  have hT := spanText_L h
  have hsz : (impl_SpanText x).size ≤ 1048576 := Nat.le_trans (impl_SpanText_size (spanOk_rg h)) (by omega)
  have hms := main_SpanText (spanOk_rg h)
  generalize hs : impl_SpanText x = s at hT hsz hms ⊢
  have h0 : Rr s (sL x) ⟨s, 0, false⟩ := ⟨rfl, rfl, hsz, [], hT, rfl⟩
  unfold sL at h0
  obtain ⟨r1, e1, h1⟩ := num_run' h0 hp.tr.1 hp.tr.2 (.inr ⟨47, _, rfl, by decide⟩)
  have h2 := must_yes (t := [47]) h1
  obtain ⟨r3, e3, h3⟩ := num_run' h2 hp.id.1 hp.id.2 (.inr ⟨32, _, rfl, by decide⟩)
  have h4 := must_yes (t := [32]) h3
  obtain ⟨r5, e5, h5⟩ := num_run' h4 hp.st.1 hp.st.2 (.inr ⟨45, _, rfl, by decide⟩)
  have h6 := must_yes (t := [45]) h5
  obtain ⟨r7, e7, h7⟩ := num_run' h6 hp.en.1 hp.en.2 (by
    cases x.Err with
    | true => exact .inr ⟨32, _, rfl, by decide⟩
    | false => exact noDig_of (aL_head _))
  have h8 : ∃ r8, spec_l27Failed r7 = (x.Err, r8) ∧ Rr s (aL x.Attrs) r8 := by
    cases he : x.Err with
    | true => rw [he] at h7; exact failed_yes h7 (aL_head _)
    | false =>
      rw [he] at h7
      refine failed_no h7 (fun after ea => ?_)
      rcases tail_space (l := x.Attrs) with ⟨e, _⟩ | ⟨b, l', el, e⟩
      · rw [e] at ea; cases ea
      · rw [e] at ea
        have hb := attrOk_P (hp.at' b (by rw [el]; simp))
        have ea2 : b.Key.data.toList ++ 61 :: ((bif b.Num then Lib.decDigits b.N.toNat else 34 :: (b.Text.data.toList ++ [34])) ++ aL l') = [102, 97, 105, 108, 101, 100] ++ after := by
          have := (List.cons.inj ea).2
          unfold atL at this
          simpa using this
        exact key_after hb.low _ low_failed ea2
  obtain ⟨r8, e8, h8⟩ := h8
  have hs8 := h8.es; have hb8 := h8.bad
  obtain ⟨rs, ra, rb⟩ := r8
  simp only at hs8 hb8
  subst hs8 hb8
  have hfuel : x.Attrs.length ≤ spM (([] : List Attr), rs, ra, false) := by
    obtain ⟨pre, e, ea⟩ := h8.at'
    have e2 := congrArg ByteArray.size e
    rw [oL_size, List.length_append] at e2
    have : ∀ l : List Attr, l.length ≤ (aL l).length := by
      intro l
      induction l with
      | nil => exact Nat.le_refl _
      | cons a l ih =>
        have e : aL (a :: l) = 32 :: (atL a ++ aL l) := by simp [aL, List.flatMap_cons]
        rw [e]; simp; omega
    have := this x.Attrs
    have ea : ra = ((pre.length : Nat) : Int) := ea
    show _ ≤ rs.size - ra.toNat
    omega
  obtain ⟨j, ej⟩ := sp_loop x.Attrs [] _ ra false hp.at' h8 hfuel
  unfold spec_ParseSpan bindV
  rw [e1, show (ByteArray.mk #[47]) = oL [47] from rfl, show (ByteArray.mk #[32]) = oL [32] from rfl, show (ByteArray.mk #[45]) = oL [45] from rfl]
  simp only [e3, e5, e7, e8]
  have ej1 : spec_ParseSpan_j1 (x.Err, ⟨rs, ra, false⟩) = .next (rs, j, false, x.Attrs) := by
    unfold spec_ParseSpan_j1
    simp only
    rw [ej]
    rfl
  have hne : ¬ rs = ByteArray.mk #[] := by
    intro e
    rw [hT] at e
    have := oL_inj.1 (e.trans (show ByteArray.mk #[] = oL [] from rfl))
    simp [sL] at this
  have ex : (Span.mk x.Trace x.Id x.Start x.End x.Err x.Attrs) = x := by cases x; rfl
  rw [ej1]
  simp only [Step.get, cond_false, ex]
  rw [decide_eq_false hne, cond_false, hms, decide_eq_true rfl, Bool.not_true, cond_false]
def mAttr (_ : Attr) (k : Int) : Attr := ⟨laws_markText k, Int.tmod (k + 1) 3 == 0, k + 1 + 1, laws_markText (k + 1 + 1 + 1)⟩
theorem mk_AttrS (l : List Attr) (k : Int) (h1 : 1 ≤ k) (h2 : k + csum (fun _ => 4) l ≤ 9223372036854775807) : laws_markAttrS l k = (k + csum (fun _ => 4) l, markL mAttr (fun _ => 4) k l) := by
  unfold laws_markAttrS
  have := mark_loop (mb := laws_markAttrS_b1) (M := mAttr) (c := fun _ => 4) (Pd := fun _ => True) (fun i s a _ h1 h2 => by unfold laws_markAttrS_b1; simp (disch := omega) only [wrap_small, mAttr]; simp [Int.add_assoc]) l l [] k rfl (fun _ _ => trivial) h1 h2
  simp only [List.nil_append, List.length_nil] at this
  rw [this]; rfl
theorem hd_AttrS (l : List Attr) (k : Int) (h1 : 1 ≤ k) (h2 : k + csum (fun _ => 4) l ≤ 9223372036854775807) : laws_heldAttrS (markL mAttr (fun _ => 4) k l) k = k + csum (fun _ => 4) l := by
  unfold laws_heldAttrS
  rw [held_loop (hb := laws_heldAttrS_b1) (M := mAttr) (c := fun _ => 4) (Pd := fun _ => True) (fun i s a _ h1 h2 => by unfold laws_heldAttrS_b1; simp (disch := omega) only [wrap_small, mAttr]; simp [Int.add_assoc]) l 0 k (fun _ _ => trivial) h1 h2]
  rfl
theorem j4_next (v : l27Reader) : ∃ b, spec_ParseSpan_j4 v = .next b := by
  unfold spec_ParseSpan_j4
  cases v.f_bad <;> cases decide (v.f_at < ((v.f_s.size : Nat) : Int)) <;> exact ⟨_, rfl⟩
theorem j3_next (v : l27Reader) : ∃ s, spec_ParseSpan_j3 v = .next s := by
  obtain ⟨b, e⟩ := j4_next v
  unfold spec_ParseSpan_j3 bindV
  rw [e]
  cases b <;> exact ⟨_, rfl⟩
theorem b2_done (s : (List Attr) × ByteArray × Int × Bool) (r) : spec_ParseSpan_b2 s ≠ .done r := by
  unfold spec_ParseSpan_b2 bindV
  cases !s.2.2.2 with
  | false => intro h; cases h
  | true =>
    simp only [cond_true]
    generalize spec_l27Is (l27Reader.mk s.2.1 s.2.2.1 s.2.2.2) (ByteArray.mk #[32]) = v9
    cases v9.1 with
    | false => intro h; cases h
    | true =>
      simp only [cond_true]
      obtain ⟨t, e⟩ := j3_next (spec_l27Must (spec_l27Name v9.2).2 (ByteArray.mk #[61]))
      rw [e]
      intro h; cases h
theorem specParse_good (s : ByteArray) : GoodI s (spec_ParseSpan s) := by
  unfold spec_ParseSpan bindV
  refine step_good (fun v => ?_) ?_
  · refine bif_ind (P := GoodI s) (fun _ => .inl rfl) (fun _ => bif_ind (P := GoodI s) (fun _ => .inl rfl) (fun h1 => bif_ind (P := GoodI s) (fun _ => .inl rfl) (fun h2 => ?_)))
    have h2 := nf h2
    rw [decide_eq_false_iff_not] at h1
    rw [decide_eq_true_eq] at h2
    refine .inr ⟨_, rfl, ?_⟩
    have ho : ∀ x : Span, spec_SpanText x = s → impl_SpanOk x = true ∧ impl_SpanText x = s := by
      intro x hx
      cases ho : impl_SpanOk x with
      | true => exact ⟨rfl, by rw [← main_SpanText (spanOk_rg ho)]; exact hx⟩
      | false =>
        exfalso
        apply h1
        rw [← hx]
        unfold spec_SpanText
        rw [main_SpanOk, ho]
        rfl
    exact ho _ h2
  · intro r e
    exfalso
    unfold spec_ParseSpan_j1 at e
    have key : ∀ f : Fin ((List Attr) × ByteArray × Int × Bool) (Step (ByteArray × Int × Bool × (List Attr)) (Span × Bool)), (∀ r, f ≠ .done r) → Fin.get (fun s2 => (.next (s2.2.1, s2.2.2.1, s2.2.2.2, s2.1) : Step (ByteArray × Int × Bool × (List Attr)) (Span × Bool))) f ≠ .done r := by
      intro f hf e
      cases f with
      | fin v => cases e
      | done r' => exact hf r' rfl
    exact key _ (fun r' e' => loopW_done (P := fun _ => False) (fun st r0 e0 => b2_done st r0 e0) _ _ _ e') e
theorem main_ParseSpan (s : ByteArray) : impl_ParseSpan s = spec_ParseSpan s := by
  rcases implParse_good s with e | ⟨x, e, h1, h2⟩
  · rcases specParse_good s with e' | ⟨x, e', h1, h2⟩
    · rw [e, e']
    · have := implParse_at h1
      rw [h2] at this
      rw [this, e']
  · have := specParse_at h1
    rw [h2] at this
    rw [this, e]
theorem implParse_len (s : ByteArray) : (impl_ParseSpan s).1.Attrs.length ≤ 4 := by
  rcases implParse_good s with e | ⟨x, e, h1, _⟩
  · rw [e]; exact Nat.zero_le _
  · rw [e]; exact (spanOk_P h1).len
theorem law_ParseSpan (p0 : ByteArray) : laws_FnExactParseSpan p0 = true := by
  have hl := implParse_len p0
  have hc : csum (fun _ : Attr => 4) (impl_ParseSpan p0).1.Attrs ≤ 16 := by rw [csum_const]; omega
  have m := mk_AttrS (impl_ParseSpan p0).1.Attrs 1 (by omega) (by omega)
  have hh := hd_AttrS (impl_ParseSpan p0).1.Attrs 1 (by omega) (by omega)
  have e1 : (laws_markSpan (impl_ParseSpan p0).1 1).1 = 1 + csum (fun _ : Attr => 4) (impl_ParseSpan p0).1.Attrs := by unfold laws_markSpan; rw [m]
  have e2 : (laws_markSpan (impl_ParseSpan p0).1 1).2.Attrs = markL mAttr (fun _ => 4) 1 (impl_ParseSpan p0).1.Attrs := by unfold laws_markSpan; rw [m]
  have hd : decide ((1 : Int) + ((csum (fun _ : Attr => 4) (impl_ParseSpan p0).1.Attrs : Nat) : Int) < 0) = false := by rw [decide_eq_false]; omega
  have e3 : ∀ a b c d e, laws_heldSpan (Span.mk a b c d e (markL mAttr (fun _ => 4) 1 (impl_ParseSpan p0).1.Attrs)) 1 = 1 + csum (fun _ : Attr => 4) (impl_ParseSpan p0).1.Attrs := by
    intro a b c d e
    unfold laws_heldSpan
    simp only [hh, hd, cond_false]
  unfold laws_FnExactParseSpan
  rw [← main_ParseSpan p0]
  cases decide (((p0.size : Nat) : Int) > 1048576) with
  | true => rfl
  | false =>
    simp only [cond_false, rf_laws_eqSpan, Bool.not_true, beq_self_eq_true, e1, e2, e3, hd, bne_self_eq_false]
theorem rows_sl {α : Type} (f : α → List T) (W : α → Prop) : ∀ rows : List (List T), (∀ r ∈ rows, ∃ x, r = f x ∧ W x) → ∃ l : List α, rows = l.map f ∧ ∀ x ∈ l, W x
  | [], _ => ⟨[], rfl, by simp⟩
  | r :: rows, h => by
    obtain ⟨x, hx, hw⟩ := h r (by simp)
    obtain ⟨l, hl, hw'⟩ := rows_sl f W rows (fun r hr => h r (by simp [hr]))
    exact ⟨x :: l, by simp [hx, hl], fun y hy => by rcases List.mem_cons.1 hy with rfl | hy; exact hw; exact hw' y hy⟩
theorem shape_sl {α : Type} (f : α → List T) {P : Nat → α → Prop} (W : α → Prop) (hW : W = P 9223372036854775807) {n t e k : Nat} (ht : prog.underlying t = some (.slice e)) (hk : prog.cellsOf e = k) {y : List T} (h : Shape prog (n + 1) t y) (hr : ∀ r, Shape prog n e r → ∃ x, r = f x ∧ W x) :
    ∃ l : List α, y = [.s false k (l.map f)] ∧ bdS P 9223372036854775807 l := by
  subst hW
  unfold Shape at h
  rw [ht] at h
  obtain ⟨rows, h1, h2, h3⟩ := h
  rw [hk] at h1
  obtain ⟨l, rfl, hw⟩ := rows_sl f _ rows (fun r hr' => hr r (h3 r hr').2)
  exact ⟨l, h1, by simpa [maxLen] using h2, hw⟩
theorem shape9 (n : Nat) {l : List T} (h : Shape prog n 9 l) : ∃ x : ByteArray, l = [.v (.string x)] ∧ (x).size ≤ 9223372036854775807 := by
  cases n with
  | zero => exact (h : False).elim
  | succ n =>
    simp only [Shape, underlying9] at h
    obtain ⟨x, hx, hw⟩ := h
    exact ⟨x, hx, by simpa [maxLen] using hw⟩
theorem arg9 {n : Nat} {y : T} (h : Shape prog n 9 [y]) : ∃ x : ByteArray, y = .v (.string x) ∧ (x).size ≤ 9223372036854775807 := by
  obtain ⟨x, hx, hw⟩ := shape9 n h
  exact ⟨x, by simpa using hx, hw⟩
theorem law_c (p0 : ByteArray) (h0 : (p0).size ≤ 9223372036854775807) : FnOk prog 3 [.one (.v (.string p0))] ⟨.one (.v (.bool true)), [], [], false⟩ :=
  FnOk.fits ⟨_, func3, by kernel_rfl, by kernel_rfl⟩ (fun hf => by
    have h := c_laws_FnExactParseSpan p0 h0
    rw [law_ParseSpan p0] at h
    exact h)

end Go.Proofs.Tryd.Ev
