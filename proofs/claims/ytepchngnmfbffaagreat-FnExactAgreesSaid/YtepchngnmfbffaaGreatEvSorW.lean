/- What the sort's functions keep: how many elements, and that they are the elements. -/
import Derived.Test.YtepchngnmfbffaaGreatEvSorT
set_option linter.unusedSectionVars false
set_option linter.unusedVariables false
set_option linter.unusedSimpArgs false
namespace Go.Ev
open Go
variable {α : Type} [Inhabited α] {P : α → Prop} {cmp : α → α → Int}
/-- All elements are such. -/
def Srt (P : α → Prop) (s : List α) : Prop := ∀ v ∈ s, P v
theorem Srt.get {s : List α} (h : Srt P s) {i : Nat} (hi : i < s.length) : P (s[i]?.getD default) := by
  rw [List.getElem?_eq_getElem hi]; exact h _ (List.getElem_mem hi)
theorem Srt.set {s : List α} (h : Srt P s) {i : Nat} {v : α} (hv : P v) : Srt P (s.set i v) := fun w hw => by
  rcases List.mem_or_eq_of_mem_set hw with h1 | h1
  · exact h w h1
  · rw [h1]; exact hv
theorem Srt.swp {s : List α} (h : Srt P s) {i j : Nat} (hi : i < s.length) (hj : j < s.length) : Srt P (swp s i j) := (h.set (h.get hj)).set (h.get hi)
/-- All are such, and so many. -/
def Sz (P : α → Prop) (N : Nat) (s : List α) : Prop := Srt P s ∧ s.length = N
theorem Sz.swp {N : Nat} {s : List α} (h : Sz P N s) {i j : Nat} (hi : i < N) (hj : j < N) : Sz P N (swp s i j) := ⟨h.1.swp (by rw [h.2]; exact hi) (by rw [h.2]; exact hj), by rw [length_swp, h.2]⟩
theorem Sz.swapR {N : Nat} : ∀ (n : Nat) {s : List α} {a b : Nat}, Sz P N s → a + n ≤ N → b + n ≤ N → Sz P N (swapR n s a b)
  | 0, _, _, _, h, _, _ => h
  | n + 1, _, _, _, h, h1, h2 => Sz.swapR n (h.swp (by omega) (by omega)) (by omega) (by omega)
theorem Sz.rot {N : Nat} : ∀ (k : Nat) {s : List α} {m i j : Nat}, Sz P N s → i ≤ m → m + j ≤ N → Sz P N (rot k s m i j)
  | 0, _, _, _, _, h, _, _ => h
  | k + 1, s, m, i, j, h, h1, h2 => by
    unfold Ev.rot
    split
    · exact h.swapR _ (by omega) (by omega)
    · split
      · exact Sz.rot k (h.swapR _ (by omega) (by omega)) (by omega) (by omega)
      · exact Sz.rot k (h.swapR _ (by omega) (by omega)) (by omega) (by omega)
theorem Sz.up {N : Nat} : ∀ (k : Nat) {s : List α} {i : Nat}, Sz P N s → i + k < N → Sz P N (up k s i)
  | 0, _, _, h, _ => h
  | k + 1, _, _, h, h1 => Sz.up k (h.swp (by omega) (by omega)) (by omega)
theorem Sz.down {N : Nat} : ∀ (k : Nat) {s : List α} {i : Nat}, Sz P N s → i < N → Sz P N (down k s i)
  | 0, _, _, h, _ => h
  | k + 1, _, _, h, h1 => Sz.down k (h.swp (by omega) (by omega)) (by omega)
theorem Sz.symM {N : Nat} {lt : α → α → Bool} : ∀ (k : Nat) {s : List α} {a m b : Nat}, Sz P N s → a < m → m < b → b ≤ N → Sz P N (symM lt k s a m b)
  | 0, _, _, _, _, h, _, _, _ => h
  | k + 1, s, a, m, b, h, h1, h2, h3 => by
    unfold Ev.symM
    split
    · have := half_bd (p := fun h => lt (atD s h) (atD s a)) (b - m) m b (by omega)
      exact h.up _ (by omega)
    · split
      · exact h.down _ (by omega)
      · simp only
        generalize hs : half (fun c => !lt (atD s ((a + b) / 2 + m - 1 - c)) (atD s c)) ((if (a + b) / 2 < m then (a + b) / 2 else m) - if (a + b) / 2 < m then (a + b) / 2 + m - b else a) (if (a + b) / 2 < m then (a + b) / 2 + m - b else a) (if (a + b) / 2 < m then (a + b) / 2 else m) = q
        have hq : a ≤ q ∧ q ≤ m ∧ (a + b) / 2 + m - b ≤ q ∧ q ≤ (a + b) / 2 := by
          rw [← hs]
          by_cases hc : (a + b) / 2 < m
          · simp only [if_pos hc]
            have := half_bd (p := fun c => !lt (atD s ((a + b) / 2 + m - 1 - c)) (atD s c)) ((a + b) / 2 - ((a + b) / 2 + m - b)) ((a + b) / 2 + m - b) ((a + b) / 2) (by omega)
            omega
          · simp only [if_neg hc]
            have := half_bd (p := fun c => !lt (atD s ((a + b) / 2 + m - 1 - c)) (atD s c)) (m - a) a m (by omega)
            omega
        have h7 : Sz P N (if q < m ∧ m < (a + b) / 2 + m - q then Ev.rot ((a + b) / 2 + m - q - q) s m (m - q) ((a + b) / 2 + m - q - m) else s) := by
          split
          · exact h.rot _ (by omega) (by omega)
          · exact h
        generalize (if q < m ∧ m < (a + b) / 2 + m - q then Ev.rot ((a + b) / 2 + m - q - q) s m (m - q) ((a + b) / 2 + m - q - m) else s) = s7 at h7
        have h8 : Sz P N (if a < q ∧ q < (a + b) / 2 then Ev.symM lt k s7 a q ((a + b) / 2) else s7) := by
          split
          · exact Sz.symM k h7 (by omega) (by omega) (by omega)
          · exact h7
        generalize (if a < q ∧ q < (a + b) / 2 then Ev.symM lt k s7 a q ((a + b) / 2) else s7) = s8 at h8
        split
        · exact Sz.symM k h8 (by omega) (by omega) (by omega)
        · exact h8
theorem toN {x : Int} (h : 0 ≤ x) : ((x.toNat : Nat) : Int) = x := by omega
theorem sz_swap {N : Nat} {s : List α} (h : Sz P N s) {a b n : Int} (ha : 0 ≤ a) (hb : 0 ≤ b) (hn : 0 ≤ n) (h1 : a + n ≤ N) (h2 : b + n ≤ N) (hN : N ≤ 288230376151711744) : Sz P N (g_swapRange s a b n cmp) := by
  rw [← toN ha, ← toN hb, ← toN hn, g_swapRange_eq _ _ _ _ _ (by omega) (by omega)]
  exact h.swapR _ (by omega) (by omega)
theorem sz_rot {N : Nat} {s : List α} (h : Sz P N s) {a m b : Int} (ha : 0 ≤ a) (h1 : a < m) (h2 : m < b) (h3 : b ≤ N) (hN : N ≤ 288230376151711744) : Sz P N (g_rotate s a m b cmp) := by
  rw [← toN ha, ← toN (show 0 ≤ m by omega), ← toN (show 0 ≤ b by omega), g_rotate_eq _ _ _ _ _ (by omega) (by omega) (by omega)]
  exact h.rot _ (by omega) (by omega)
theorem sz_symR {N : Nat} {s : List α} (h : Sz P N s) {n : Nat} {a m b : Int} (ha : 0 ≤ a) (h1 : a < m) (h2 : m < b) (h3 : b ≤ N) (hN : N ≤ 288230376151711744) (hn : (b - a).toNat < n) : Sz P N (g_symMergeR n s a m b cmp) := by
  rw [← toN ha, ← toN (show 0 ≤ m by omega), ← toN (show 0 ≤ b by omega), g_sym_eq _ _ _ _ _ _ (by omega) (by omega) (by omega) (by omega)]
  exact h.symM _ (by omega) (by omega) (by omega)
theorem sz_sym {N : Nat} {s : List α} (h : Sz P N s) {a m b : Int} (ha : 0 ≤ a) (h1 : a < m) (h2 : m < b) (h3 : b ≤ N) (hN : N ≤ 288230376151711744) : Sz P N (g_symMerge s a m b cmp) := sz_symR h ha h1 h2 h3 hN (Nat.lt_succ_self _)
theorem sz_ins {N : Nat} {s : List α} (h : Sz P N s) {a b : Int} (ha : 0 ≤ a) (h1 : a ≤ b) (h2 : b ≤ N) (hN : N ≤ 288230376151711744) : Sz P N (g_insertionSort s a b cmp) := by
  unfold g_insertionSort
  have wa : IntKind.i64.wrap (a + 1) = a + 1 := by rw [wrap_small] <;> omega
  obtain ⟨a, rfl⟩ : ∃ k : Nat, a = k := ⟨a.toNat, by omega⟩
  obtain ⟨b, rfl⟩ : ∃ k : Nat, b = k := ⟨b.toNat, by omega⟩
  have stp : ∀ (n k : Nat) (s : List α), Sz P N s → a ≤ k → k < N → ∀ v, loopW (g_insertionSort_b2 (a : Int) cmp) n (s, (k : Int)) = .fin v → Sz P N v.1 := by
    intro n
    induction n with
    | zero =>
      intro k s h h1 h2 v hv
      unfold loopW at hv
      rw [is_b2 _ _ _ h1 (by omega)] at hv
      split at hv
      · split at hv
        · simp only [Step.fin] at hv; cases hv; exact h.swp (by omega) (by omega)
        · simp only [Step.fin] at hv; cases hv; exact h
      · simp only [Step.fin] at hv; cases hv; exact h
    | succ n ih =>
      intro k s h h1 h2 v hv
      unfold loopW at hv
      rw [is_b2 _ _ _ h1 (by omega)] at hv
      by_cases hk : a < k
      · rw [if_pos hk] at hv
        by_cases hc : cmp (atD s k) (atD s (k - 1)) < 0
        · rw [if_pos hc] at hv
          exact ih (k - 1) _ (h.swp (by omega) (by omega)) (by omega) (by omega) v hv
        · rw [if_neg hc] at hv; simp only [Step.fin] at hv; cases hv; exact h
      · rw [if_neg hk] at hv; simp only [Step.fin] at hv; cases hv; exact h
  have lp : ∀ (n i : Nat) (s : List α), Sz P N s → (n = 0 ∨ a + 1 + i + n ≤ N) → ∃ v, loopC (g_insertionSort_b1 (a : Int) cmp) i s n = .fin v ∧ Sz P N v := by
    intro n
    induction n with
    | zero => intro i s h _; exact ⟨s, rfl, h⟩
    | succ n ih =>
      intro i s h hi
      unfold loopC
      have hb : ∃ v, g_insertionSort_b1 (a : Int) cmp i s = .next v ∧ Sz P N v := by
        unfold g_insertionSort_b1
        rw [wa, show (a : Int) + 1 + ((i : Nat) : Int) = ((a + 1 + i : Nat) : Int) by omega]
        simp only
        have hno : ∀ (n : Nat) (k : Nat) (s : List α), a ≤ k → k ≤ 1152921504606846976 → ∃ v, loopW (g_insertionSort_b2 (a : Int) cmp) n (s, (k : Int)) = .fin v := by
          intro n
          induction n with
          | zero =>
            intro k s h1 h2
            unfold loopW
            rw [is_b2 _ _ _ h1 h2]
            split
            · split
              · exact ⟨_, rfl⟩
              · exact ⟨_, rfl⟩
            · exact ⟨_, rfl⟩
          | succ n ih =>
            intro k s h1 h2
            unfold loopW
            rw [is_b2 _ _ _ h1 h2]
            by_cases hk : a < k
            · rw [if_pos hk]
              by_cases hc : cmp (atD s k) (atD s (k - 1)) < 0
              · rw [if_pos hc]; exact ih (k - 1) _ (by omega) (by omega)
              · rw [if_neg hc]; exact ⟨_, rfl⟩
            · rw [if_neg hk]; exact ⟨_, rfl⟩
        obtain ⟨v, hv⟩ := hno ((((a + 1 + i : Nat) : Int) - (a : Int)).toNat) (a + 1 + i) s (by omega) (by omega)
        have := stp _ (a + 1 + i) s h (by omega) (by omega) v hv
        rw [hv]
        exact ⟨v.1, rfl, this⟩
      obtain ⟨v, hv, hs⟩ := hb
      rw [hv]
      exact ih (i + 1) v hs (by omega)
  obtain ⟨v, hv, hs⟩ := lp (((b : Int) - IntKind.i64.wrap ((a : Int) + 1)).toNat) 0 s h (by rw [wa]; omega)
  rw [hv]; exact hs
/-- What the joins of the merge hand on. -/
theorem j5_ok {a m b : Int} {v : Int × Int} (ha : 0 ≤ a) (h1 : a < m) (h2 : m < b) (h3 : b ≤ 288230376151711744) (h : (g_symMerge_j5 m a b : Step (Int × Int) (List α)) = .next v) : a ≤ v.1 ∧ v.1 ≤ v.2 ∧ v.2 ≤ m ∧ v.2 ≤ (a + b) / 2 ∧ (a + b) / 2 + m - b ≤ v.1 := by
  unfold g_symMerge_j5 at h
  rw [mid_eq (by omega) (by omega) (by omega)] at h
  by_cases hc : m > (a + b) / 2
  · have hd : decide (m > (a + b) / 2) = true := by simp; omega
    rw [hd, cond_true] at h
    cases h
    have w : IntKind.i64.wrap (IntKind.i64.wrap ((a + b) / 2 + m) - b) = (a + b) / 2 + m - b := by rw [wrap_small (n := (a + b) / 2 + m) (by omega) (by omega), wrap_small] <;> omega
    simp only [w]
    omega
  · have hd : decide (m > (a + b) / 2) = false := by simp; omega
    rw [hd, cond_false] at h
    cases h
    simp only
    omega
theorem j7_ok {N : Nat} {s v : List α} {s6 : Int × Int} {a m b : Int} (ha : 0 ≤ a) (h1 : a < m) (h2 : m < b) (h3 : b ≤ N) (hN : N ≤ 288230376151711744) (h6 : a ≤ s6.1) (h7 : s6.1 ≤ m) (h8 : (a + b) / 2 + m - b ≤ s6.1) (hs : Sz P N s) (h : g_symMerge_j7 s6 m a b s cmp = .next v) : Sz P N v := by
  unfold g_symMerge_j7 at h
  rw [mid_eq (by omega) (by omega) (by omega)] at h
  have w : IntKind.i64.wrap (IntKind.i64.wrap ((a + b) / 2 + m) - s6.1) = (a + b) / 2 + m - s6.1 := by rw [wrap_small (n := (a + b) / 2 + m) (by omega) (by omega), wrap_small] <;> omega
  rw [w] at h
  by_cases c1 : s6.1 < m
  · have hd : decide (s6.1 < m) = true := by simp; omega
    rw [hd, cond_true] at h
    by_cases c2 : m < (a + b) / 2 + m - s6.1
    · have hd : decide (m < (a + b) / 2 + m - s6.1) = true := by simp; omega
      rw [hd, cond_true] at h
      cases h
      exact sz_rot hs (by omega) (by omega) (by omega) (by omega) hN
    · have hd : decide (m < (a + b) / 2 + m - s6.1) = false := by simp; omega
      rw [hd, cond_false] at h
      cases h; exact hs
  · have hd : decide (s6.1 < m) = false := by simp; omega
    rw [hd, cond_false] at h
    cases h; exact hs
theorem j8_ok {N : Nat} {s v : List α} {s6 : Int × Int} {a b : Int} {rf : List α → Int → Int → Int → (α → α → Int) → List α} (ha : 0 ≤ a) (hab : a < b) (h3 : b ≤ N) (hN : N ≤ 288230376151711744) (h6 : a ≤ s6.1) (hs : Sz P N s) (hr : ∀ m b', a < m → m < b' → b' < b → Sz P N (rf s a m b' cmp)) (h : g_symMerge_j8 rf a s6 b s cmp = .next v) : Sz P N v := by
  unfold g_symMerge_j8 at h
  rw [mid_eq (by omega) (by omega) (by omega)] at h
  by_cases c1 : a < s6.1
  · have hd : decide (a < s6.1) = true := by simp; omega
    rw [hd, cond_true] at h
    by_cases c2 : s6.1 < (a + b) / 2
    · have hd : decide (s6.1 < (a + b) / 2) = true := by simp; omega
      rw [hd, cond_true] at h
      cases h
      exact hr _ _ (by omega) (by omega) (by omega)
    · have hd : decide (s6.1 < (a + b) / 2) = false := by simp; omega
      rw [hd, cond_false] at h
      cases h; exact hs
  · have hd : decide (a < s6.1) = false := by simp; omega
    rw [hd, cond_false] at h
    cases h; exact hs
end Go.Ev
namespace Go.Ev
open Go
theorem mid_eq1 {a b : Int} (ha : 0 ≤ a) (hb : 0 ≤ b) (h : a + b ≤ 4611686018427387904) : IntKind.i64.wrap (iShr .u64 (IntKind.u64.wrap (a + b)) 1) = (a + b) / 2 := by
  have := mid_eq ha hb h
  rw [wrap_small (n := a + b) (by omega) (by omega)] at this
  exact this
theorem mid_eq2 {a b : Int} (ha : 0 ≤ a) (hb : 0 ≤ b) (h : a + b ≤ 4611686018427387904) : IntKind.i64.wrap (Int.fdiv (IntKind.u64.wrap (a + b)) (2 ^ (min 1 IntKind.u64.bits))) = (a + b) / 2 := mid_eq1 ha hb h
theorem mid_eq3 {a b : Int} (ha : 0 ≤ a) (hb : 0 ≤ b) (h : a + b ≤ 4611686018427387904) : IntKind.i64.wrap (Int.fdiv (IntKind.u64.wrap (a + b)) (2 ^ (min (Int.toNat 1) IntKind.u64.bits))) = (a + b) / 2 := mid_eq1 ha hb h
end Go.Ev
namespace Go.Ev
open Go
theorem ord_keep {l : Nat} {i : Nat} {s : List Int} (h : s.length ≤ i ∧ Srt (fun v : Int => 0 ≤ v ∧ v < ((l : Nat) : Int) ∧ v < ((i : Nat) : Int)) s) : s.length ≤ i + 1 ∧ Srt (fun v : Int => 0 ≤ v ∧ v < ((l : Nat) : Int) ∧ v < ((i + 1 : Nat) : Int)) s :=
  ⟨by omega, fun v hv => by have := h.2 v hv; omega⟩
theorem ord_add {l : Nat} {i : Nat} {s : List Int} (h : s.length ≤ i ∧ Srt (fun v : Int => 0 ≤ v ∧ v < ((l : Nat) : Int) ∧ v < ((i : Nat) : Int)) s) (hi : i < l) : (s ++ [(i : Int)]).length ≤ i + 1 ∧ Srt (fun v : Int => 0 ≤ v ∧ v < ((l : Nat) : Int) ∧ v < ((i + 1 : Nat) : Int)) (s ++ [(i : Int)]) :=
  ⟨by simp; omega, fun v hv => by
    rcases List.mem_append.1 hv with h1 | h1
    · have := h.2 v h1; omega
    · rw [List.mem_singleton.1 h1]; omega⟩
end Go.Ev
namespace Go.Ev
open Go
variable {α : Type} [Inhabited α] {cmp : α → α → Int}
theorem len_fin {σ ρ : Type} {P : σ → Prop} {Q : ρ → Prop} {k : σ → ρ} {l : Fin σ ρ} (h : (∀ v, l = .fin v → P v) ∧ ∀ r, l = .done r → Q r) (hk : ∀ v, P v → Q (k v)) : Q (Fin.get k l) := by
  cases l with
  | fin v => exact hk v (h.1 v rfl)
  | done r => exact h.2 r rfl
theorem len_get {σ ρ : Type} {P : σ → Prop} {Q : ρ → Prop} {k : σ → ρ} {l : Step σ ρ} (h : (∀ v, l = .next v → P v) ∧ (∀ v, l = .stop v → P v) ∧ ∀ r, l = .done r → Q r) (hk : ∀ v, P v → Q (k v)) : Q (Step.get k l) := by
  cases l with
  | next v => exact hk v (h.1 v rfl)
  | stop v => exact hk v (h.2.1 v rfl)
  | done r => exact h.2.2 r rfl
theorem len_g_swapRange (p0 : List α) (a b n : Int) : (g_swapRange p0 a b n cmp).length = p0.length := by
  unfold g_swapRange
  refine len_fin (P := fun s => s.length = p0.length) (Q := fun r : List α => r.length = p0.length) (loopC_ind (P := fun s : List α => s.length = p0.length) (fun i s hs => ?_) _ _ _ rfl) (fun v hv => hv)
  unfold g_swapRange_b1
  exact ⟨fun v e => by cases e; simpa using hs, fun v e => (by cases e), fun r e => (by cases e)⟩
theorem bif_step {σ ρ : Type} {c : Bool} {A B : Step σ ρ} {P : σ → Prop} {Q : ρ → Prop} (hA : (∀ v, A = .next v → P v) ∧ (∀ v, A = .stop v → P v) ∧ ∀ r, A = .done r → Q r) (hB : (∀ v, B = .next v → P v) ∧ (∀ v, B = .stop v → P v) ∧ ∀ r, B = .done r → Q r) :
    (∀ v, (bif c then A else B) = .next v → P v) ∧ (∀ v, (bif c then A else B) = .stop v → P v) ∧ ∀ r, (bif c then A else B) = .done r → Q r := by
  cases c
  · exact hB
  · exact hA
theorem nx_step {σ ρ : Type} {P : σ → Prop} {Q : ρ → Prop} {s : σ} (h : P s) : (∀ v, (Step.next s : Step σ ρ) = .next v → P v) ∧ (∀ v, (Step.next s : Step σ ρ) = .stop v → P v) ∧ ∀ r, (Step.next s : Step σ ρ) = .done r → Q r :=
  ⟨fun v e => by cases e; exact h, fun v e => (by cases e), fun r e => (by cases e)⟩
theorem st_step {σ ρ : Type} {P : σ → Prop} {Q : ρ → Prop} {s : σ} (h : P s) : (∀ v, (Step.stop s : Step σ ρ) = .next v → P v) ∧ (∀ v, (Step.stop s : Step σ ρ) = .stop v → P v) ∧ ∀ r, (Step.stop s : Step σ ρ) = .done r → Q r :=
  ⟨fun v e => (by cases e), fun v e => by cases e; exact h, fun r e => (by cases e)⟩
theorem len_g_rotate (p0 : List α) (a b n : Int) : (g_rotate p0 a b n cmp).length = p0.length := by
  unfold g_rotate
  refine len_fin (P := fun s : List α × Int × Int => s.1.length = p0.length) (Q := fun r : List α => r.length = p0.length) (loopW_ind (P := fun s : List α × Int × Int => s.1.length = p0.length) (fun s hs => ?_) _ _ rfl) (fun v hv => by rw [len_g_swapRange]; exact hv)
  unfold g_rotate_b1
  exact bif_step (bif_step (nx_step (by rw [len_g_swapRange]; exact hs)) (nx_step (by rw [len_g_swapRange]; exact hs))) (st_step hs)
theorem len_g_ins (p0 : List α) (a b : Int) : (g_insertionSort p0 a b cmp).length = p0.length := by
  unfold g_insertionSort
  refine len_fin (P := fun s => s.length = p0.length) (Q := fun r : List α => r.length = p0.length) (loopC_ind (P := fun s : List α => s.length = p0.length) (fun i s hs => ?_) _ _ _ rfl) (fun v hv => hv)
  unfold g_insertionSort_b1
  refine len_fin (P := fun s : List α × Int => s.1.length = p0.length) (Q := fun z : Step (List α) (List α) => (∀ v, z = .next v → v.length = p0.length) ∧ (∀ v, z = .stop v → v.length = p0.length) ∧ ∀ r, z = .done r → r.length = p0.length) (loopW_ind (P := fun s : List α × Int => s.1.length = p0.length) (fun s hs => ?_) _ _ hs) (fun v hv => nx_step hv)
  unfold g_insertionSort_b2
  exact bif_step (bif_step (nx_step (by simpa using hs)) (st_step hs)) (st_step hs)
theorem bif_len {c : Bool} {A B : List α} {N : Nat} (hA : A.length = N) (hB : B.length = N) : (bif c then A else B).length = N := by
  cases c
  · exact hB
  · exact hA
theorem len_g_symR (cmp : α → α → Int) : ∀ (n : Nat) (p0 : List α) (a m b : Int), (g_symMergeR n p0 a m b cmp).length = p0.length
  | 0, p0, _, _, _ => rfl
  | n + 1, p0, a, m, b => by
    have ih := len_g_symR cmp n
    unfold g_symMergeR
    refine bif_len ?_ (bif_len ?_ ?_)
    · refine len_fin (P := fun _ => True) (Q := fun r : List α => r.length = p0.length) ⟨fun _ _ => trivial, fun r e => ?_⟩ (fun v _ => ?_)
      · refine (loopW_ind (P := fun _ => True) (Q := fun r : List α => r.length = p0.length) (fun s _ => ?_) _ _ trivial).2 r e
        unfold g_symMerge_b1
        exact bif_step (bif_step (nx_step trivial) (nx_step trivial)) (st_step trivial)
      · refine len_fin (P := fun s => s.length = p0.length) (Q := fun r : List α => r.length = p0.length) (loopC_ind (P := fun s : List α => s.length = p0.length) (fun i s hs => ?_) _ _ _ rfl) (fun v hv => hv)
        unfold g_symMerge_b2
        exact nx_step (by simpa using hs)
    · refine len_fin (P := fun _ => True) (Q := fun r : List α => r.length = p0.length) ⟨fun _ _ => trivial, fun r e => ?_⟩ (fun v _ => ?_)
      · refine (loopW_ind (P := fun _ => True) (Q := fun r : List α => r.length = p0.length) (fun s _ => ?_) _ _ trivial).2 r e
        unfold g_symMerge_b3
        exact bif_step (bif_step (nx_step trivial) (nx_step trivial)) (st_step trivial)
      · refine len_fin (P := fun s : List α × Int => s.1.length = p0.length) (Q := fun r : List α => r.length = p0.length) (loopW_ind (P := fun s : List α × Int => s.1.length = p0.length) (fun s hs => ?_) _ _ rfl) (fun v hv => hv)
        unfold g_symMerge_b4
        exact bif_step (nx_step (by simpa using hs)) (st_step hs)
    · refine len_get (P := fun _ => True) (Q := fun r : List α => r.length = p0.length) ?_ (fun s5 _ => ?_)
      · unfold g_symMerge_j5
        exact bif_step (nx_step trivial) (nx_step trivial)
      · refine len_fin (P := fun _ => True) (Q := fun r : List α => r.length = p0.length) ⟨fun _ _ => trivial, fun r e => ?_⟩ (fun s6 _ => ?_)
        · refine (loopW_ind (P := fun _ => True) (Q := fun r : List α => r.length = p0.length) (fun s _ => ?_) _ _ trivial).2 r e
          unfold g_symMerge_b6
          exact bif_step (bif_step (nx_step trivial) (nx_step trivial)) (st_step trivial)
        · refine len_get (P := fun s : List α => s.length = p0.length) (Q := fun r : List α => r.length = p0.length) ?_ (fun s7 h7 => ?_)
          · unfold g_symMerge_j7
            exact bif_step (bif_step (nx_step (len_g_rotate ..)) (nx_step rfl)) (nx_step rfl)
          · refine len_get (P := fun s : List α => s.length = p0.length) (Q := fun r : List α => r.length = p0.length) ?_ (fun s8 h8 => ?_)
            · unfold g_symMerge_j8
              exact bif_step (bif_step (nx_step (by rw [ih]; exact h7)) (nx_step h7)) (nx_step h7)
            · exact bif_len (bif_len (by rw [ih]; exact h8) h8) h8
theorem len_g_sym (p0 : List α) (a m b : Int) : (g_symMerge p0 a m b cmp).length = p0.length := len_g_symR _ _ _ _ _ _
end Go.Ev
namespace Go.Ev
open Go
def OrI (i : Nat) (s : List Int) : Prop := s.length ≤ i ∧ Srt (fun v : Int => 0 ≤ v ∧ v < ((i : Nat) : Int)) s
theorem ors_keep {i : Nat} {s : List Int} (h : OrI i s) : OrI (i + 1) s := ⟨by have := h.1; omega, fun v hv => by have := h.2 v hv; dsimp only at this ⊢; omega⟩
theorem ors_ins {i : Nat} {s : List Int} (h : OrI i s) (u : Int) (hu : 0 ≤ u ∧ u ≤ ((s.length : Nat) : Int)) : OrI (i + 1) (((List.take (u.toNat - 0) (List.drop 0 s)) ++ [((i : Nat) : Int)]) ++ (List.take (s.length - u.toNat) (List.drop u.toNat s))) := by
  have h1 := h.1
  refine ⟨?_, fun v hv => ?_⟩
  · simp only [List.length_append, List.length_take, List.length_drop, List.length_cons, List.length_nil]; omega
  · dsimp only
    rcases List.mem_append.1 hv with hv | hv
    · rcases List.mem_append.1 hv with hv | hv
      · have := h.2 v (List.mem_of_mem_drop (List.mem_of_mem_take hv)); dsimp only at this; omega
      · rw [List.mem_singleton.1 hv]; omega
    · have := h.2 v (List.mem_of_mem_drop (List.mem_of_mem_take hv)); dsimp only at this; omega
end Go.Ev
