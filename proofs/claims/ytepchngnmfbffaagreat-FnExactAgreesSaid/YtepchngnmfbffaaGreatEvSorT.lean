/- The library's stable sort, as it is printed, of whatever elements: blocks in order, then pairs of blocks merged. -/
import Derived.Test.YtepchngnmfbffaaGreatEvSort
set_option linter.unusedSectionVars false
set_option linter.unusedVariables false
set_option linter.unusedSimpArgs false
namespace Go.Ev
open Go
variable {α : Type} [Inhabited α] {R : α → α → Prop} {cmp : α → α → Int}
/-- Of two elements, the first ahead of the second: what the comparison says. -/
def Cm (R : α → α → Prop) (cmp : α → α → Int) (x y : α) : Prop := (cmp y x < 0 ↔ R y x) ∧ (R x y ∨ R y x)
theorem loopW_stop {σ ρ : Type} {b : σ → Step σ ρ} {s v : σ} (h : b s = .stop v) (n : Nat) : loopW b n s = .fin v := by
  cases n <;> simp [loopW, h, Step.fin]
theorem is_b2 (a k : Nat) (s : List α) (ha : a ≤ k) (hk : k ≤ 1152921504606846976) : g_insertionSort_b2 (a : Int) cmp (s, (k : Int)) =
    if a < k then (if cmp (atD s k) (atD s (k - 1)) < 0 then .next (swp s k (k - 1), ((k - 1 : Nat) : Int)) else .stop (s, (k : Int))) else .stop (s, (k : Int)) := by
  unfold g_insertionSort_b2
  simp only
  by_cases h : a < k
  · have h1 : decide ((k : Int) > (a : Int)) = true := by simp; omega
    rw [h1, if_pos h, cond_true, predN hk (by omega)]
    simp only [Bool.cond_eq_ite, decide_eq_true_eq]
    rfl
  · have h1 : decide ((k : Int) > (a : Int)) = false := by simp; omega
    rw [h1, if_neg h]; rfl
theorem run_mid {Q T : List α} {x : α} (tr : ∀ x y z, R x y → R y z → R x z) (h1 : Run R (Q ++ T)) (h2 : ∀ q ∈ Q, R q x) (h3 : ∀ t ∈ T, R x t) : Run R (Q ++ x :: T) := by
  unfold Run at *
  rw [List.pairwise_append] at h1 ⊢
  refine ⟨h1.1, List.pairwise_cons.2 ⟨h3, h1.2.1⟩, fun q hq y hy => ?_⟩
  rcases List.mem_cons.1 hy with e | hy
  · rw [e]; exact h2 q hq
  · exact h1.2.2 q hq y hy
theorem isW (tr : ∀ x y z, R x y → R y z → R x z) (as : ∀ x y, R x y → ¬ R y x) (x : α) (A S : List α) : ∀ (n : Nat) (Q T : List α), Q.length ≤ n → A.length + Q.length ≤ 1152921504606846976 → Run R (Q ++ T) → (∀ t ∈ T, R x t) → (∀ y ∈ Q, Cm R cmp y x) →
    ∃ Z k, loopW (g_insertionSort_b2 (A.length : Int) cmp) n (A ++ (Q ++ x :: (T ++ S)), ((A.length + Q.length : Nat) : Int)) = .fin (A ++ (Z ++ S), k) ∧ Z.Perm (Q ++ x :: T) ∧ Run R Z := by
  intro n Q
  induction hq : Q.length generalizing Q n with
  | zero =>
    intro T h1 h2 h3 h4 h5
    have : Q = [] := List.length_eq_zero_iff.1 hq
    subst this
    have hb : g_insertionSort_b2 (A.length : Int) cmp (A ++ ([] ++ x :: (T ++ S)), ((A.length + 0 : Nat) : Int)) = .stop (A ++ ([] ++ x :: (T ++ S)), ((A.length + 0 : Nat) : Int)) := by
      rw [is_b2 _ _ _ (by omega) (by omega), if_neg (by omega)]
    refine ⟨x :: T, ((A.length + 0 : Nat) : Int), ?_, List.Perm.refl _, List.pairwise_cons.2 ⟨h4, by simpa [Run] using h3⟩⟩
    exact loopW_stop hb n
  | succ m ih =>
    intro T h1 h2 h3 h4 h5
    obtain ⟨Q', q, rfl⟩ : ∃ Q' q, Q = Q' ++ [q] := ⟨Q.dropLast, Q.getLast (by intro e; simp [e] at hq), (List.dropLast_concat_getLast _).symm⟩
    have hl : Q'.length = m := by simpa using hq
    obtain ⟨n, rfl⟩ : ∃ n', n = n' + 1 := ⟨n - 1, by omega⟩
    have e1 : A ++ (Q' ++ [q] ++ x :: (T ++ S)) = (A ++ Q') ++ q :: ([] ++ x :: (T ++ S)) := by simp
    have g1 : atD (A ++ (Q' ++ [q] ++ x :: (T ++ S))) (A.length + (m + 1)) = x := by
      unfold atD
      rw [e1, List.getElem?_append_right (by simp; omega), show A.length + (m + 1) - (A ++ Q').length = 1 by simp; omega]
      rfl
    have g2 : atD (A ++ (Q' ++ [q] ++ x :: (T ++ S))) (A.length + (m + 1) - 1) = q := by
      unfold atD
      rw [e1, List.getElem?_append_right (by simp; omega), show A.length + (m + 1) - 1 - (A ++ Q').length = 0 by simp; omega]
      rfl
    have cq := h5 q (by simp)
    unfold loopW
    rw [is_b2 _ _ _ (by omega) (by omega), if_pos (by omega), g1, g2]
    by_cases hlt : cmp x q < 0
    · rw [if_pos hlt]
      have hs := swp_split (A ++ Q') [] (T ++ S) q x
      simp only [List.length_append, hl, List.length_nil, Nat.add_zero] at hs
      have rxq : R x q := cq.1.1 hlt
      have hsw : swp (A ++ (Q' ++ [q] ++ x :: (T ++ S))) (A.length + (m + 1)) (A.length + (m + 1) - 1) = A ++ (Q' ++ x :: (q :: T ++ S)) := by
        rw [swp_comm _ _ _ (by omega), e1, show A.length + (m + 1) - 1 = A.length + m by omega, show A.length + (m + 1) = A.length + m + 1 by omega, hs]
        simp
      rw [hsw]
      simp only
      obtain ⟨Z, k, z1, z2, z3⟩ := ih n Q' hl (q :: T) (by omega) (by omega) (by simpa [Run] using h3) (fun t ht => by
        rcases List.mem_cons.1 ht with e | ht
        · rw [e]; exact rxq
        · exact h4 t ht) (fun y hy => h5 y (by simp [hy]))
      refine ⟨Z, k, ?_, z2.trans ?_, z3⟩
      · rw [show A.length + (m + 1) - 1 = A.length + m by omega]; exact z1
      · rw [List.append_assoc]
        exact (List.Perm.swap _ _ _).append_left _
    · rw [if_neg hlt]
      have rqx : R q x := by
        rcases cq.2 with h | h
        · exact h
        · exact absurd (cq.1.2 h) hlt
      refine ⟨Q' ++ [q] ++ x :: T, ((A.length + (m + 1) : Nat) : Int), by simp only [Step.fin, List.append_assoc]; rfl, List.Perm.refl _, run_mid tr h3 (fun y hy => ?_) h4⟩
      rcases List.mem_append.1 hy with hy | hy
      · have := h3
        unfold Run at this
        rw [List.append_assoc, List.pairwise_append] at this
        exact tr _ _ _ (this.2.2 y hy q (by simp)) rqx
      · rw [List.mem_singleton.1 hy]; exact rqx
theorem isC (tr : ∀ x y z, R x y → R y z → R x z) (as : ∀ x y, R x y → ¬ R y x) (A S : List α) : ∀ (X Q : List α), 0 < Q.length → A.length + Q.length + X.length ≤ 1152921504606846976 → Run R Q → X.Pairwise (Cm R cmp) → (∀ y ∈ Q, ∀ x ∈ X, Cm R cmp y x) →
    ∃ Z, loopC (g_insertionSort_b1 (A.length : Int) cmp) (Q.length - 1) (A ++ (Q ++ (X ++ S))) X.length = .fin (A ++ (Z ++ S)) ∧ Z.Perm (Q ++ X) ∧ Run R Z
  | [], Q, h0, h1, h2, h3, h4 => ⟨Q, by simp [loopC], by simp, h2⟩
  | x :: X, Q, h0, h1, h2, h3, h4 => by
    simp only [List.length_cons] at h1
    have w : IntKind.i64.wrap (((A.length : Nat) : Int) + 1) + ((Q.length - 1 : Nat) : Int) = ((A.length + Q.length : Nat) : Int) := by rw [wrap_small] <;> omega
    obtain ⟨Z, k, z1, z2, z3⟩ := isW (cmp := cmp) tr as x A (X ++ S) (((A.length + Q.length : Nat) : Int) - (A.length : Int)).toNat Q [] (by omega) (by omega) (by simpa using h2) (fun t ht => by cases ht) (fun y hy => h4 y hy x (by simp))
    have hb : g_insertionSort_b1 (A.length : Int) cmp (Q.length - 1) (A ++ (Q ++ (x :: X ++ S))) = .next (A ++ (Z ++ (X ++ S))) := by
      unfold g_insertionSort_b1
      simp only [w]
      simp only [List.nil_append] at z1
      rw [show x :: X ++ S = x :: (X ++ S) from rfl, z1]
      rfl
    have hZ : Z.length = Q.length + 1 := by rw [z2.length_eq]; simp
    rw [List.length_cons]
    unfold loopC
    rw [hb]
    simp only
    have p3 := List.pairwise_cons.1 h3
    obtain ⟨Z', y1, y2, y3⟩ := isC tr as A S X Z (by omega) (by omega) z3 p3.2 (fun y hy x' hx' => by
      have := z2.mem_iff.1 hy
      rcases List.mem_append.1 this with h | h
      · exact h4 y h x' (List.mem_cons_of_mem _ hx')
      · rw [List.mem_singleton.1 h]; exact p3.1 x' hx')
    refine ⟨Z', ?_, y2.trans ?_, y3⟩
    · rw [show Q.length - 1 + 1 = Z.length - 1 by omega]; exact y1
    · refine (z2.append_right X).trans ?_
      simp
theorem g_ins_ok (tr : ∀ x y z, R x y → R y z → R x z) (as : ∀ x y, R x y → ¬ R y x) (A X S : List α) (hb : A.length + X.length ≤ 576460752303423488) (hX : X.Pairwise (Cm R cmp)) :
    ∃ Z, g_insertionSort (A ++ (X ++ S)) (A.length : Int) ((A.length + X.length : Nat) : Int) cmp = A ++ (Z ++ S) ∧ Z.Perm X ∧ Run R Z := by
  unfold g_insertionSort
  have w : (((A.length + X.length : Nat) : Int) - IntKind.i64.wrap ((A.length : Int) + 1)).toNat = X.length - 1 := by rw [wrap_small] <;> omega
  rw [w]
  cases X with
  | nil => exact ⟨[], by simp [loopC, Fin.get], List.Perm.refl _, List.Pairwise.nil⟩
  | cons x X =>
    have p := List.pairwise_cons.1 hX
    simp only [List.length_cons] at hb
    obtain ⟨Z, z1, z2, z3⟩ := isC (cmp := cmp) tr as A S X [x] (by simp) (by simp; omega) (by simp [Run]) p.2 (fun y hy x' hx' => by rw [List.mem_singleton.1 hy]; exact p.1 x' hx')
    refine ⟨Z, ?_, z2, z3⟩
    have : (x :: X).length - 1 = X.length := rfl
    rw [this]
    have e : loopC (g_insertionSort_b1 (A.length : Int) cmp) 0 (A ++ (x :: X ++ S)) X.length = .fin (A ++ (Z ++ S)) := z1
    rw [e]; rfl
/-- Blocks: all but the last are of one length. -/
def full (n : Nat) : List (List α) → Prop
  | [] => True
  | [B] => B.length ≤ n ∧ 0 < B.length
  | B :: B' :: r => B.length = n ∧ full n (B' :: r)
/-- Blocks in order in themselves, and as the comparison takes them. -/
structure Good (R : α → α → Prop) (cmp : α → α → Int) (n : Nat) (Bs : List (List α)) : Prop where
  f : full n Bs
  r : ∀ B ∈ Bs, Run R B
  c : Bs.Pairwise (fun B B' => ∀ x ∈ B, ∀ y ∈ B', Cm R cmp x y)
theorem Good.cons {n : Nat} {B : List α} {Bs : List (List α)} (h : Good R cmp n Bs) (hl : B.length = n) (hn : 0 < n) (hr : Run R B) (hc : ∀ x ∈ B, ∀ y ∈ Bs.flatten, Cm R cmp x y) : Good R cmp n (B :: Bs) := by
  refine ⟨?_, fun B' hB => ?_, List.pairwise_cons.2 ⟨fun B' hB x hx y hy => hc x hx y (List.mem_flatten.2 ⟨B', hB, hy⟩), h.c⟩⟩
  · cases Bs with
    | nil => exact ⟨by omega, by omega⟩
    | cons B' r => exact ⟨hl, h.f⟩
  · rcases List.mem_cons.1 hB with e | hB
    · rw [e]; exact hr
    · exact h.r B' hB
theorem Good.one {n : Nat} {B : List α} (hl : B.length ≤ n) (h0 : 0 < B.length) (hr : Run R B) : Good R cmp n [B] :=
  ⟨⟨hl, h0⟩, fun B' hB => by rw [List.mem_singleton.1 hB]; exact hr, by simp⟩
theorem Good.nil {n : Nat} : Good R cmp n ([] : List (List α)) := ⟨trivial, fun B hB => (nomatch hB), List.Pairwise.nil⟩
theorem st_b1 (tr : ∀ x y z, R x y → R y z → R x z) (as : ∀ x y, R x y → ¬ R y x) (N : Nat) (hN : N ≤ 288230376151711744) : ∀ (n : Nat) (A X : List α), A.length + X.length = N → N + 1 - (A.length + 20) ≤ n → X.Pairwise (Cm R cmp) →
    ∃ Bs s a b, loopW (g_stable_b1 (N : Int) cmp) n (A ++ X, (A.length : Int), ((A.length + 20 : Nat) : Int)) = .fin (s, a, b) ∧ g_insertionSort s a N cmp = A ++ Bs.flatten ∧ Bs.flatten.Perm X ∧ Good R cmp 20 Bs := by
  intro n
  induction n using Nat.strongRecOn with
  | ind n ih =>
    intro A X h1 h2 h3
    by_cases h : A.length + 20 ≤ N
    · obtain ⟨n, rfl⟩ : ∃ n', n = n' + 1 := ⟨n - 1, by omega⟩
      unfold loopW
      obtain ⟨U, V, rfl, hU⟩ : ∃ U V, X = U ++ V ∧ U.length = 20 := ⟨X.take 20, X.drop 20, by simp, by simp; omega⟩
      rw [List.pairwise_append] at h3
      obtain ⟨Z, z1, z2, z3⟩ := g_ins_ok (cmp := cmp) tr as A U V (by simp at h1; omega) h3.1
      have hd : decide (((A.length + 20 : Nat) : Int) ≤ (N : Int)) = true := by simp; omega
      have w : IntKind.i64.wrap (((A.length + 20 : Nat) : Int) + 20) = ((A.length + 20 + 20 : Nat) : Int) := by rw [wrap_small] <;> omega
      have hZ : Z.length = 20 := by rw [z2.length_eq, hU]
      have hb : g_stable_b1 (N : Int) cmp (A ++ (U ++ V), (A.length : Int), ((A.length + 20 : Nat) : Int)) = .next ((A ++ Z) ++ V, ((A ++ Z).length : Int), (((A ++ Z).length + 20 : Nat) : Int)) := by
        unfold g_stable_b1
        simp only [hd, cond_true]
        rw [hU] at z1
        rw [z1, w]
        simp [hZ]
      rw [hb]
      simp only
      obtain ⟨Bs, s, a, b, y1, y2, y3, y4⟩ := ih n (by omega) (A ++ Z) V (by simp at h1 ⊢; omega) (by simp [hZ]; omega) h3.2.1
      refine ⟨Z :: Bs, s, a, b, y1, ?_, ?_, y4.cons hZ (by omega) z3 (fun x hx y hy => h3.2.2 x (z2.mem_iff.1 hx) y (y3.mem_iff.1 hy))⟩
      · rw [y2]; simp
      · exact z2.append y3
    · have hd : decide (((A.length + 20 : Nat) : Int) ≤ (N : Int)) = false := by simp; omega
      have hb : g_stable_b1 (N : Int) cmp (A ++ X, (A.length : Int), ((A.length + 20 : Nat) : Int)) = .stop (A ++ X, (A.length : Int), ((A.length + 20 : Nat) : Int)) := by
        unfold g_stable_b1
        simp only [hd, cond_false]
      have hl : loopW (g_stable_b1 (N : Int) cmp) n (A ++ X, (A.length : Int), ((A.length + 20 : Nat) : Int)) = .fin (A ++ X, (A.length : Int), ((A.length + 20 : Nat) : Int)) := by
        exact loopW_stop hb n
      rw [hl]
      obtain ⟨Z, z1, z2, z3⟩ := g_ins_ok (cmp := cmp) tr as A X [] (by omega) h3
      rw [h1, List.append_nil, List.append_nil] at z1
      by_cases hX : X = []
      · subst hX
        have : Z = [] := z2.eq_nil
        subst this
        exact ⟨[], _, _, _, rfl, z1, by simp, Good.nil⟩
      · have : 0 < X.length := List.length_pos_iff.2 hX
        exact ⟨[Z], _, _, _, rfl, by simpa using z1, by simpa using z2, Good.one (by rw [z2.length_eq]; omega) (by rw [z2.length_eq]; omega) z3⟩
theorem g_merge_ok (tr : ∀ x y z, R x y → R y z → R x z) (as : ∀ x y, R x y → ¬ R y x) (A X Y S : List α) (hx : 0 < X.length) (hy : 0 < Y.length) (hb : A.length + X.length + Y.length ≤ 576460752303423488) (rX : Run R X) (rY : Run R Y) (hC : ∀ x ∈ X, ∀ y ∈ Y, Cm R cmp x y) :
    ∃ Z, g_symMerge (A ++ (X ++ (Y ++ S))) (A.length : Int) ((A.length + X.length : Nat) : Int) ((A.length + X.length + Y.length : Nat) : Int) cmp = A ++ (Z ++ S) ∧ Z.Perm (X ++ Y) ∧ Run R Z := by
  unfold g_symMerge
  rw [g_sym_eq cmp _ _ A.length (A.length + X.length) (A.length + X.length + Y.length) (by omega) (by omega) hb (by omega)]
  exact symM_ok tr as _ A X Y S _ _ _ rfl rfl rfl hx hy (by omega) rX rY (fun x hx y hy => ⟨by rw [decide_eq_true_eq]; exact (hC x hx y hy).1, (hC x hx y hy).2⟩)
/-- A pass: pairs of blocks are merged. -/
theorem st_b3 (tr : ∀ x y z, R x y → R y z → R x z) (as : ∀ x y, R x y → ¬ R y x) (N k : Nat) (z : List α) (hk0 : 0 < k) (hN : N ≤ 288230376151711744) (hkN : k < N) : ∀ (n : Nat) (A : List α) (Bs : List (List α)), A.length + Bs.flatten.length = N → N + 1 - (A.length + 2 * k) ≤ n → Good R cmp k Bs →
    ∃ Cs, Fin.get (fun s3 => (bif (decide ((IntKind.i64.wrap (s3.2.1 + (k : Int))) < (N : Int))) then (.next ((g_symMerge s3.1 s3.2.1 (IntKind.i64.wrap (s3.2.1 + (k : Int))) (N : Int) cmp), (IntKind.i64.wrap ((k : Int) * 2)))) else (.next (s3.1, (IntKind.i64.wrap ((k : Int) * 2))))))
        (loopW (g_stable_b3 (N : Int) (z, (k : Int)) cmp) n (A ++ Bs.flatten, (A.length : Int), ((A.length + 2 * k : Nat) : Int))) = (Step.next (A ++ Cs.flatten, ((k * 2 : Nat) : Int)) : Step ((List α) × Int) (List α)) ∧ Cs.flatten.Perm Bs.flatten ∧ Good R cmp (k * 2) Cs := by
  have wk : IntKind.i64.wrap ((k : Int) * 2) = ((k * 2 : Nat) : Int) := by rw [wrap_small] <;> omega
  intro n
  induction n using Nat.strongRecOn with
  | ind n ih =>
    intro A Bs h1 h2 h3
    have wa : IntKind.i64.wrap ((A.length : Int) + (k : Int)) = ((A.length + k : Nat) : Int) := by rw [wrap_small] <;> omega
    have stp : ∀ (m : Nat) (s : List α) (a b : Int), ¬ b ≤ (N : Int) → loopW (g_stable_b3 (N : Int) (z, (k : Int)) cmp) m (s, a, b) = .fin (s, a, b) := by
      intro m s a b hh
      have hb : g_stable_b3 (N : Int) (z, (k : Int)) cmp (s, a, b) = .stop (s, a, b) := by
        unfold g_stable_b3
        have hd : decide (b ≤ (N : Int)) = false := by simp; omega
        simp only [hd, cond_false]
      exact loopW_stop hb m
    match Bs, h3 with
    | [], h3 =>
      have hl : A.length = N := by simpa using h1
      have hd2 : decide (((A.length + k : Nat) : Int) < (N : Int)) = false := by simp; omega
      rw [stp _ _ _ _ (by omega)]
      simp only [Fin.get_fin, wa, hd2, cond_false, wk]
      exact ⟨[], rfl, List.Perm.refl _, Good.nil⟩
    | [B], h3 =>
      have hf := h3.f
      simp only [full] at hf
      simp only [List.flatten_cons, List.flatten_nil, List.append_nil] at h1 h2 ⊢
      have hd2 : decide (((A.length + k : Nat) : Int) < (N : Int)) = false := by simp; omega
      rw [stp _ _ _ _ (by omega)]
      simp only [Fin.get_fin, wa, hd2, cond_false, wk]
      exact ⟨[B], by simp, by simp, Good.one (by omega) hf.2 (h3.r B (by simp))⟩
    | [B, B'], h3 =>
      have hf := h3.f
      simp only [full] at hf
      simp only [List.flatten_cons, List.flatten_nil, List.append_nil, List.length_append] at h1 h2 ⊢
      have hc := (List.pairwise_cons.1 h3.c).1 B' (by simp)
      obtain ⟨Z, z1, z2, z3⟩ := g_merge_ok (cmp := cmp) tr as A B B' [] (by omega) (by omega) (by omega) (h3.r B (by simp)) (h3.r B' (by simp)) hc
      rw [hf.1, List.append_nil, List.append_nil, show A.length + k + B'.length = N by omega] at z1
      have hZ : Z.length = k + B'.length := by rw [z2.length_eq]; simp [hf.1]
      by_cases he : A.length + 2 * k ≤ N
      · obtain ⟨n, rfl⟩ : ∃ n', n = n' + 1 := ⟨n - 1, by omega⟩
        have hd : decide (((A.length + 2 * k : Nat) : Int) ≤ (N : Int)) = true := by simp; omega
        have hNe : A.length + 2 * k = N := by omega
        have w2 : IntKind.i64.wrap (((A.length + 2 * k : Nat) : Int) + IntKind.i64.wrap (2 * (k : Int))) = ((N + 2 * k : Nat) : Int) := by rw [wrap_small (n := 2 * (k : Int)) (by omega) (by omega), wrap_small] <;> omega
        have hb : g_stable_b3 (N : Int) (z, (k : Int)) cmp (A ++ (B ++ B'), (A.length : Int), ((A.length + 2 * k : Nat) : Int)) = .next (A ++ Z, (N : Int), ((N + 2 * k : Nat) : Int)) := by
          unfold g_stable_b3
          simp only [hd, cond_true]
          rw [wa, w2, hNe, z1]
        have wn : IntKind.i64.wrap ((N : Int) + (k : Int)) = ((N + k : Nat) : Int) := by rw [wrap_small] <;> omega
        have hd4 : decide (((N + k : Nat) : Int) < (N : Int)) = false := by simp; omega
        have hl : loopW (g_stable_b3 (N : Int) (z, (k : Int)) cmp) (n + 1) (A ++ (B ++ B'), (A.length : Int), ((A.length + 2 * k : Nat) : Int)) = .fin (A ++ Z, (N : Int), ((N + 2 * k : Nat) : Int)) := by
          unfold loopW
          rw [hb]
          exact stp _ _ _ _ (by omega)
        rw [hl]
        simp only [Fin.get_fin, wn, hd4, cond_false, wk]
        exact ⟨[Z], by simp, by simpa using z2, Good.one (by omega) (by omega) z3⟩
      · have hd2 : decide (((A.length + k : Nat) : Int) < (N : Int)) = true := by simp; omega
        rw [stp _ _ _ _ (by omega)]
        simp only [Fin.get_fin, wa, hd2, cond_true, wk]
        rw [z1]
        exact ⟨[Z], by simp, by simpa using z2, Good.one (by omega) (by omega) z3⟩
    | B :: B' :: B'' :: r, h3 =>
      have hf := h3.f
      simp only [full] at hf
      have hc := (List.pairwise_cons.1 h3.c)
      have hc' := (List.pairwise_cons.1 hc.2)
      have hlen : (B :: B' :: B'' :: r).flatten.length = 2 * k + (B'' :: r).flatten.length := by
        simp only [List.flatten_cons, List.length_append, hf.1, hf.2.1]; omega
      have he : (B :: B' :: B'' :: r).flatten = B ++ (B' ++ (B'' :: r).flatten) := by simp
      rw [hlen] at h1
      obtain ⟨n, rfl⟩ : ∃ n', n = n' + 1 := ⟨n - 1, by omega⟩
      obtain ⟨Z, z1, z2, z3⟩ := g_merge_ok (cmp := cmp) tr as A B B' ((B'' :: r).flatten) (by omega) (by omega) (by omega) (h3.r B (by simp)) (h3.r B' (by simp)) (hc.1 B' (by simp))
      rw [hf.1, hf.2.1, show A.length + k + k = A.length + 2 * k by omega] at z1
      have hZ : Z.length = 2 * k := by rw [z2.length_eq]; simp [hf.1, hf.2.1]; omega
      have hd : decide (((A.length + 2 * k : Nat) : Int) ≤ (N : Int)) = true := by simp; omega
      have w2 : IntKind.i64.wrap (((A.length + 2 * k : Nat) : Int) + IntKind.i64.wrap (2 * (k : Int))) = (((A ++ Z).length + 2 * k : Nat) : Int) := by
        rw [wrap_small (n := 2 * (k : Int)) (by omega) (by omega), wrap_small] <;> simp [hZ] <;> omega
      have hb : g_stable_b3 (N : Int) (z, (k : Int)) cmp (A ++ (B :: B' :: B'' :: r).flatten, (A.length : Int), ((A.length + 2 * k : Nat) : Int)) = .next ((A ++ Z) ++ (B'' :: r).flatten, ((A ++ Z).length : Int), (((A ++ Z).length + 2 * k : Nat) : Int)) := by
        unfold g_stable_b3
        simp only [hd, cond_true]
        rw [wa, w2, he, z1]
        simp [hZ]
      unfold loopW
      rw [hb]
      simp only
      obtain ⟨Cs, y1, y2, y3⟩ := ih n (by omega) (A ++ Z) (B'' :: r) (by simp only [List.length_append, hZ]; omega) (by simp only [List.length_append, hZ]; omega) ⟨hf.2.2, fun B hB => h3.r B (List.mem_cons_of_mem _ (List.mem_cons_of_mem _ hB)), hc'.2⟩
      refine ⟨Z :: Cs, ?_, ?_, y3.cons (by omega) (by omega) z3 (fun x hx y hy => ?_)⟩
      · rw [y1]; simp
      · rw [he, ← List.append_assoc]; exact z2.append y2
      · obtain ⟨B0, hB0, hy⟩ := List.mem_flatten.1 (y2.mem_iff.1 hy)
        rcases List.mem_append.1 (z2.mem_iff.1 hx) with h | h
        · exact hc.1 B0 (List.mem_cons_of_mem _ hB0) x h y hy
        · exact hc'.1 B0 hB0 x h y hy
theorem st_b2 (tr : ∀ x y z, R x y → R y z → R x z) (as : ∀ x y, R x y → ¬ R y x) (N : Nat) (hN : N ≤ 288230376151711744) : ∀ (n k : Nat) (Bs : List (List α)), 0 < k → Bs.flatten.length = N → N - k ≤ n → Good R cmp k Bs → k ≤ 1152921504606846976 →
    ∃ Z k', loopW (g_stable_b2 (N : Int) cmp) n (Bs.flatten, (k : Int)) = .fin (Z, k') ∧ Z.Perm Bs.flatten ∧ Run R Z := by
  intro n
  induction n using Nat.strongRecOn with
  | ind n ih =>
    intro k Bs h0 h1 h2 h3 h4
    by_cases h : k < N
    · obtain ⟨n, rfl⟩ : ∃ n', n = n' + 1 := ⟨n - 1, by omega⟩
      have w2 : IntKind.i64.wrap (2 * (k : Int)) = ((2 * k : Nat) : Int) := by rw [wrap_small] <;> omega
      have hd : decide ((k : Int) < (N : Int)) = true := by simp; omega
      obtain ⟨Cs, c1, c2, c3⟩ := st_b3 (cmp := cmp) tr as N k Bs.flatten h0 hN h ((N : Int) + 1 - ((2 * k : Nat) : Int)).toNat [] Bs (by simpa using h1) (by simp; omega) h3
      simp only [List.nil_append, List.length_nil, Nat.zero_add] at c1
      have hb : g_stable_b2 (N : Int) cmp (Bs.flatten, (k : Int)) = .next (Cs.flatten, ((k * 2 : Nat) : Int)) := by
        unfold g_stable_b2
        simp only [hd, cond_true, w2]
        exact c1
      unfold loopW
      rw [hb]
      simp only
      obtain ⟨Z, k', y1, y2, y3⟩ := ih n (by omega) (k * 2) Cs (by omega) (by rw [c2.length_eq]; exact h1) (by omega) c3 (by omega)
      exact ⟨Z, k', y1, y2.trans c2, y3⟩
    · have hd : decide ((k : Int) < (N : Int)) = false := by simp; omega
      have hb : g_stable_b2 (N : Int) cmp (Bs.flatten, (k : Int)) = .stop (Bs.flatten, (k : Int)) := by
        unfold g_stable_b2; simp only [hd, cond_false]
      refine ⟨Bs.flatten, (k : Int), loopW_stop hb n, List.Perm.refl _, ?_⟩
      match Bs, h3 with
      | [], _ => exact List.Pairwise.nil
      | [B], h3 => simpa using h3.r B (by simp)
      | B :: B' :: r, h3 =>
        have hf := h3.f
        simp only [full] at hf
        have : 0 < (B' :: r).flatten.length := by
          cases r with
          | nil => simp [full] at hf ⊢; exact hf.2.2
          | cons B'' r => simp only [full] at hf; simp only [List.flatten_cons, List.length_append]; omega
        simp only [List.flatten_cons (l := B), List.length_append] at h1
        omega
/-- The library's stable sort sorts, and keeps the order of equals. -/
theorem g_stable_ok (tr : ∀ x y z, R x y → R y z → R x z) (as : ∀ x y, R x y → ¬ R y x) (l : List α) (hN : l.length ≤ 288230376151711744) (hC : l.Pairwise (Cm R cmp)) :
    (g_stable l (l.length : Int) cmp).Perm l ∧ Run R (g_stable l (l.length : Int) cmp) := by
  obtain ⟨Bs, s, a, b, y1, y2, y3, y4⟩ := st_b1 (cmp := cmp) tr as l.length hN ((l.length : Int) + 1 - 20).toNat [] l (by simp) (by simp; omega) hC
  simp only [List.nil_append, List.length_nil, Nat.zero_add] at y1 y2
  obtain ⟨Z, k', z1, z2, z3⟩ := st_b2 (cmp := cmp) tr as l.length hN ((l.length : Int) - 20).toNat 20 Bs (by omega) y3.length_eq (by omega) y4 (by omega)
  have e : g_stable l (l.length : Int) cmp = Z := by
    unfold g_stable
    simp only
    have y1' : loopW (g_stable_b1 (l.length : Int) cmp) ((l.length : Int) + 1 - 20).toNat (l, 0, 20) = .fin (s, a, b) := y1
    rw [y1']
    simp only [Fin.get_fin]
    rw [y2]
    have z1' : loopW (g_stable_b2 (l.length : Int) cmp) ((l.length : Int) - 20).toNat (Bs.flatten, 20) = .fin (Z, k') := z1
    rw [z1']
    rfl
  rw [e]
  exact ⟨z2.trans y3, z3⟩
end Go.Ev
