/- How many marks there may be: no more than what was counted of a value allows. -/
import Derived.Test.YtalbniledlbogaaEvMk
set_option linter.unusedSectionVars false
set_option linter.unusedVariables false
set_option linter.unusedSimpArgs false
namespace Go.Ev
open Go
theorem ilg (a b : Int) : a < b ∨ b ≤ a := by omega
/-- What is marked is not more than what was counted allows. -/
def MkS {α β : Type} (P : Nat → α → Prop) (mk : α → Int → Int × β) (sz : α → Int → Int) : Prop :=
  ∀ x left k, P 9223372036854775807 x → 0 ≤ left → left ≤ 1048576 → 0 ≤ sz x left → 1 ≤ k → k + 32 * left ≤ 1099511627776 → sz x left ≤ left ∧ k ≤ (mk x k).1 ∧ (mk x k).1 ≤ k + 32 * (left - sz x left)
/-- The same of an element: what its own numbers are is not more than 32. -/
def MkE {α : Type} (P : α → Prop) (N : α → Int → Int) (f : α → Int → Int) : Prop :=
  ∀ a k s, P a → 0 ≤ s → s ≤ 1048576 → 0 ≤ f a s → 1 ≤ k → k + 32 * s + 32 ≤ 1099511627776 → f a s ≤ s ∧ k ≤ N a k ∧ N a k ≤ k + 32 * (s - f a s) + 32
theorem mkb_loop {α ρ : Type} [Inhabited α] {M : α → Int → α} {N : α → Int → Int} {f : α → Int → Int} {P : α → Prop} (hN : MkE P N f) {mb : Nat → List α × Int → α → Step (List α × Int) ρ}
    (hm : ∀ i s a, mb i s a = .next (s.1.set i (M (s.1[i]?.getD default) s.2), N (s.1[i]?.getD default) s.2)) {zb : Nat → Int → α → Step Int Int} (hz : ∀ i s a, zb i s a = bif decide (f a s < 0) then .done (-1) else .next (f a s)) :
    ∀ (r r0 d : List α) (i : Nat) (k left t : Int), r0.length = r.length → (∀ a ∈ r, P a) → loopL zb i left r = .fin t → 0 ≤ left → left ≤ 1048576 → 1 ≤ k → k + 32 * left + 32 * (r.length : Int) ≤ 1099511627776 →
      ∃ d' k', loopL mb d.length (d ++ r, k) r0 = .fin (d', k') ∧ 0 ≤ t ∧ t ≤ left ∧ k ≤ k' ∧ k' ≤ k + 32 * (left - t) + 32 * (r.length : Int)
  | [], [], d, i, k, left, t, _, _, ht, h0, _, _, _ => by
    simp only [loopL] at ht
    cases ht
    exact ⟨d ++ [], k, rfl, h0, Int.le_refl _, Int.le_refl _, by simp⟩
  | [], _ :: _, _, _, _, _, _, h, _, _, _, _, _, _ => by simp at h
  | _ :: _, [], _, _, _, _, _, h, _, _, _, _, _, _ => by simp at h
  | a :: r, b :: r0, d, i, k, left, t, h, hP, ht, h0, h1, h2, h3 => by
    unfold loopL at ht
    rw [hz] at ht
    simp only [List.length_cons, Int.natCast_add, Int.natCast_one] at h3 ⊢
    cases hd : decide (f a left < 0) with
    | true => rw [hd] at ht; cases ht
    | false =>
      rw [hd] at ht
      simp only [cond_false] at ht
      have hf : 0 ≤ f a left := by have := of_decide_eq_false hd; omega
      obtain ⟨p1, p2, p3⟩ := hN a k left (hP a (by simp)) h0 h1 hf h2 (by omega)
      unfold loopL
      have e : (d ++ a :: r)[d.length]?.getD default = a := by simp
      rw [hm]
      simp only [e]
      have es : (d ++ a :: r).set d.length (M a k) = (d ++ [M a k]) ++ r := by
        rw [List.set_append_right _ _ (Nat.le_refl _), Nat.sub_self, List.set_cons_zero]; simp
      obtain ⟨d', k', q1, q2, q3, q4, q5⟩ := mkb_loop hN hm hz r r0 (d ++ [M a k]) (i + 1) (N a k) (f a left) t (by simpa using h) (fun x hx => hP x (by simp [hx])) ht hf (by omega) (by omega) (by omega)
      rw [es]
      simp only [List.length_append, List.length_cons, List.length_nil] at q1
      refine ⟨d', k', q1, q2, by omega, by omega, by omega⟩
theorem mkS_ok {α : Type} [Inhabited α] {M : α → Int → α} {N : α → Int → Int} {f : α → Int → Int} {P : Nat → α → Prop} (hN : MkE (P 9223372036854775807) N f) {mb : Nat → List α × Int → α → Step (List α × Int) (Int × List α)}
    (hm : ∀ i s a, mb i s a = .next (s.1.set i (M (s.1[i]?.getD default) s.2), N (s.1[i]?.getD default) s.2)) {zb : Nat → Int → α → Step Int Int} (hz : ∀ i s a, zb i s a = bif decide (f a s < 0) then .done (-1) else .next (f a s))
    {mk : List α → Int → Int × List α} (hmk : ∀ l k, mk l k = Fin.get (fun s => (s.2, s.1)) (loopL mb 0 (l, k) l)) {sz : List α → Int → Int}
    (hsz : ∀ l left, sz l left = bif decide (IntKind.i64.wrap (left - ((l.length : Nat) : Int)) < 0) then (-1) else Fin.get (fun s => s) (loopL zb 0 (IntKind.i64.wrap (left - ((l.length : Nat) : Int))) l)) : MkS (bdS P) mk sz := by
  intro l left k hP h0 h1 h2 h3 h4
  rw [hsz] at h2 ⊢
  have hl := hP.1
  rw [wrap_small (n := left - ((l.length : Nat) : Int)) (by omega) (by omega)] at h2 ⊢
  cases hd : decide (left - ((l.length : Nat) : Int) < 0) with
  | true => rw [hd] at h2; simp at h2
  | false =>
    rw [hd] at h2
    simp only [cond_false] at h2 ⊢
    have hge := of_decide_eq_false hd
    cases ht : loopL zb 0 (left - ((l.length : Nat) : Int)) l with
    | done r =>
      exfalso
      rw [ht] at h2
      simp only [Fin.get] at h2
      have hr : ∀ (l : List α) (i : Nat) (s r : Int), loopL zb i s l = .done r → r = -1 := by
        intro l
        induction l with
        | nil => intro i s r h; cases h
        | cons a l ih =>
          intro i s r h
          unfold loopL at h
          rw [hz] at h
          cases hd : decide (f a s < 0) with
          | true => rw [hd] at h; cases h; rfl
          | false => rw [hd] at h; exact ih _ _ _ h
      rw [hr _ _ _ _ ht] at h2
      omega
    | fin t =>
      rw [ht] at h2
      simp only [Fin.get] at h2 ⊢
      obtain ⟨d', k', q1, q2, q3, q4, q5⟩ := mkb_loop hN hm hz l l [] 0 k (left - ((l.length : Nat) : Int)) t rfl hP.2 ht (by omega) (by omega) h3 (by omega)
      simp only [List.nil_append, List.length_nil] at q1
      rw [hmk, q1]
      simp only [Fin.get]
      omega
/-- Elements that are not counted one by one. -/
theorem mkF_ok {α : Type} [Inhabited α] {M : α → Int → α} {N : α → Int → Int} {P : Nat → α → Prop} (hN : ∀ a k, 1 ≤ k → k + 32 ≤ 1099511627776 → k ≤ N a k ∧ N a k ≤ k + 32) {mb : Nat → List α × Int → α → Step (List α × Int) (Int × List α)}
    (hm : ∀ i s a, mb i s a = .next (s.1.set i (M (s.1[i]?.getD default) s.2), N (s.1[i]?.getD default) s.2)) {mk : List α → Int → Int × List α} (hmk : ∀ l k, mk l k = Fin.get (fun s => (s.2, s.1)) (loopL mb 0 (l, k) l)) {sz : List α → Int → Int}
    (hsz : ∀ l left, sz l left = bif decide (IntKind.i64.wrap (left - ((l.length : Nat) : Int)) < 0) then (-1) else IntKind.i64.wrap (left - ((l.length : Nat) : Int))) : MkS (bdS P) mk sz := by
  have hfin : ∀ (l : List α) (i : Nat) (s : Int), 0 ≤ s → loopL (fun (_ : Nat) (s : Int) (_ : α) => bif decide (s < 0) then (.done (-1) : Step Int Int) else .next s) i s l = .fin s := by
    intro l
    induction l with
    | nil => intro i s _; rfl
    | cons a l ih =>
      intro i s hs
      unfold loopL
      rw [decide_eq_false (by omega)]
      exact ih _ _ hs
  have hN2 : MkE (P 9223372036854775807) N (fun _ s => s) := fun a k s _ h0 h1 _ h3 h4 => by
    have := hN a k h3 (by omega)
    exact ⟨Int.le_refl _, by omega, by show N a k ≤ k + 32 * (s - s) + 32; omega⟩
  intro l left k hP h0 h1 h2 h3 h4
  have hl := hP.1
  have hw := wrap_small (n := left - ((l.length : Nat) : Int)) (by omega) (by omega)
  rw [hsz, hw] at h2
  rw [hsz, hw]
  cases hd : decide (left - ((l.length : Nat) : Int) < 0) with
  | true => rw [hd] at h2; simp at h2
  | false =>
    have hge := of_decide_eq_false hd
    obtain ⟨d', k', q1, q2, q3, q4, q5⟩ := mkb_loop hN2 hm (zb := fun (_ : Nat) (s : Int) (_ : α) => bif decide (s < 0) then (.done (-1) : Step Int Int) else .next s) (fun _ _ _ => rfl) l l [] 0 k (left - ((l.length : Nat) : Int)) (left - ((l.length : Nat) : Int)) rfl hP.2 (hfin l 0 _ (by omega)) (by omega) (by omega) h3 (by omega)
    simp only [List.nil_append, List.length_nil] at q1
    rw [hmk, q1]
    simp only [Fin.get, cond_false]
    omega
end Go.Ev
namespace Go.Ev
open Go
/-- What was marked is still held. -/
theorem hm_loop {α ρ : Type} [Inhabited α] {M : α → Int → α} {N : α → Int → Int} {f : α → Int → Int} {P Q : α → Prop} (hN : MkE P N f) {mb : Nat → List α × Int → α → Step (List α × Int) ρ}
    (hm : ∀ i s a, mb i s a = .next (s.1.set i (M (s.1[i]?.getD default) s.2), N (s.1[i]?.getD default) s.2)) {zb : Nat → Int → α → Step Int Int} (hz : ∀ i s a, zb i s a = bif decide (f a s < 0) then .done (-1) else .next (f a s))
    {hb : Nat → Int → α → Step Int Int} (hh : ∀ i a k s, P a → 0 ≤ s → s ≤ 1048576 → 0 ≤ f a s → 1 ≤ k → k + 32 * s + 32 ≤ 1099511627776 → Q (M a k) → hb i k (M a k) = .next (N a k)) :
    ∀ (r r0 d : List α) (i : Nat) (k left t : Int), r0.length = r.length → (∀ a ∈ r, P a) → loopL zb i left r = .fin t → 0 ≤ left → left ≤ 1048576 → 1 ≤ k → k + 32 * left + 32 * (r.length : Int) ≤ 1099511627776 →
      ∃ r' k', loopL mb d.length (d ++ r, k) r0 = .fin (d ++ r', k') ∧ ((∀ x ∈ r', Q x) → ∀ i, loopL hb i k r' = .fin k')
  | [], [], d, i, k, left, t, _, _, ht, h0, _, _, _ => ⟨[], k, rfl, fun _ _ => rfl⟩
  | [], _ :: _, _, _, _, _, _, h, _, _, _, _, _, _ => by simp at h
  | _ :: _, [], _, _, _, _, _, h, _, _, _, _, _, _ => by simp at h
  | a :: r, b :: r0, d, i, k, left, t, h, hP, ht, h0, h1, h2, h3 => by
    unfold loopL at ht
    rw [hz] at ht
    simp only [List.length_cons, Int.natCast_add, Int.natCast_one] at h3 ⊢
    cases hd : decide (f a left < 0) with
    | true => rw [hd] at ht; cases ht
    | false =>
      rw [hd] at ht
      simp only [cond_false] at ht
      have hf : 0 ≤ f a left := by have := of_decide_eq_false hd; omega
      obtain ⟨p1, p2, p3⟩ := hN a k left (hP a (by simp)) h0 h1 hf h2 (by omega)
      have e : (d ++ a :: r)[d.length]?.getD default = a := by simp
      have es : (d ++ a :: r).set d.length (M a k) = (d ++ [M a k]) ++ r := by
        rw [List.set_append_right _ _ (Nat.le_refl _), Nat.sub_self, List.set_cons_zero]; simp
      obtain ⟨r', k', q1, q2⟩ := hm_loop (Q := Q) hN hm hz hh r r0 (d ++ [M a k]) (i + 1) (N a k) (f a left) t (by simpa using h) (fun x hx => hP x (by simp [hx])) ht hf (by omega) (by omega) (by omega)
      refine ⟨M a k :: r', k', ?_, fun hQ i => ?_⟩
      · unfold loopL
        rw [hm]
        simp only [e]
        rw [es]
        simp only [List.length_append, List.length_cons, List.length_nil] at q1
        rw [q1]
        simp
      · unfold loopL
        rw [hh i a k left (hP a (by simp)) h0 h1 hf h2 (by omega) (hQ _ (by simp))]
        exact q2 (fun x hx => hQ x (by simp [hx])) (i + 1)
theorem hmS_ok {α : Type} [Inhabited α] {M : α → Int → α} {N : α → Int → Int} {f : α → Int → Int} {P : Nat → α → Prop} {Q : α → Prop} (hN : MkE (P 9223372036854775807) N f) {mb : Nat → List α × Int → α → Step (List α × Int) (Int × List α)}
    (hm : ∀ i s a, mb i s a = .next (s.1.set i (M (s.1[i]?.getD default) s.2), N (s.1[i]?.getD default) s.2)) {zb : Nat → Int → α → Step Int Int} (hz : ∀ i s a, zb i s a = bif decide (f a s < 0) then .done (-1) else .next (f a s))
    {hb : Nat → Int → α → Step Int Int} (hh : ∀ i a k s, P 9223372036854775807 a → 0 ≤ s → s ≤ 1048576 → 0 ≤ f a s → 1 ≤ k → k + 32 * s + 32 ≤ 1099511627776 → Q (M a k) → hb i k (M a k) = .next (N a k))
    {mk : List α → Int → Int × List α} (hmk : ∀ l k, mk l k = Fin.get (fun s => (s.2, s.1)) (loopL mb 0 (l, k) l)) {sz : List α → Int → Int}
    (hsz : ∀ l left, sz l left = bif decide (IntKind.i64.wrap (left - ((l.length : Nat) : Int)) < 0) then (-1) else Fin.get (fun s => s) (loopL zb 0 (IntKind.i64.wrap (left - ((l.length : Nat) : Int))) l))
    {hd : List α → Int → Int} (hhd : ∀ l k, hd l k = Fin.get (fun s => s) (loopL hb 0 k l)) :
    ∀ l left k, bdS P 9223372036854775807 l → 0 ≤ left → left ≤ 1048576 → 0 ≤ sz l left → 1 ≤ k → k + 32 * left ≤ 1099511627776 → (∀ x ∈ (mk l k).2, Q x) → hd (mk l k).2 k = (mk l k).1 := by
  intro l left k hP h0 h1 h2 h3 h4 hQ
  rw [hsz] at h2
  have hl := hP.1
  rw [wrap_small (n := left - ((l.length : Nat) : Int)) (by omega) (by omega)] at h2
  cases hd' : decide (left - ((l.length : Nat) : Int) < 0) with
  | true => rw [hd'] at h2; simp at h2
  | false =>
    rw [hd'] at h2
    simp only [cond_false] at h2
    have hge := of_decide_eq_false hd'
    cases ht : loopL zb 0 (left - ((l.length : Nat) : Int)) l with
    | done r =>
      exfalso
      rw [ht] at h2
      simp only [Fin.get] at h2
      have hr : ∀ (l : List α) (i : Nat) (s r : Int), loopL zb i s l = .done r → r = -1 := by
        intro l
        induction l with
        | nil => intro i s r h; cases h
        | cons a l ih =>
          intro i s r h
          unfold loopL at h
          rw [hz] at h
          cases hd : decide (f a s < 0) with
          | true => rw [hd] at h; cases h; rfl
          | false => rw [hd] at h; exact ih _ _ _ h
      rw [hr _ _ _ _ ht] at h2
      omega
    | fin t =>
      obtain ⟨r', k', q1, q2⟩ := hm_loop (Q := Q) hN hm hz hh l l [] 0 k (left - ((l.length : Nat) : Int)) t rfl hP.2 ht (by omega) (by omega) h3 (by omega)
      simp only [List.nil_append, List.length_nil] at q1
      have e : mk l k = (k', r') := by rw [hmk, q1]; rfl
      rw [e] at hQ ⊢
      rw [hhd, q2 hQ 0]
      rfl
end Go.Ev
