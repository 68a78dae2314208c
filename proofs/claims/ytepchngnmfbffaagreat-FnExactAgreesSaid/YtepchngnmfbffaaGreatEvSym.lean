/- A stable sort in place, in plain words: ranges that change places, turns, merges. -/
set_option linter.unusedSectionVars false
namespace Go.Ev
variable {α : Type} [Inhabited α]
/-- Two places change what they hold. -/
def swp (l : List α) (i j : Nat) : List α := (l.set i (l[j]?.getD default)).set j (l[i]?.getD default)
theorem length_swp (l : List α) (i j : Nat) : (swp l i j).length = l.length := by simp [swp]
theorem swp_split (P Q R : List α) (x y : α) : swp (P ++ x :: (Q ++ y :: R)) P.length (P.length + 1 + Q.length) = P ++ y :: (Q ++ x :: R) := by
  have h1 : (P ++ x :: (Q ++ y :: R))[P.length + 1 + Q.length]? = some y := by
    rw [List.getElem?_append_right (by omega), show P.length + 1 + Q.length - P.length = Q.length + 1 by omega, List.getElem?_cons_succ, List.getElem?_append_right (by omega)]
    simp
  have h2 : (P ++ x :: (Q ++ y :: R))[P.length]? = some x := by simp
  unfold swp
  rw [h1, h2]
  simp only [Option.getD_some]
  rw [List.set_append_right _ _ (Nat.le_refl _), Nat.sub_self, List.set_cons_zero, List.set_append_right _ _ (by omega), show P.length + 1 + Q.length - P.length = Q.length + 1 by omega, List.set_cons_succ, List.set_append_right _ _ (Nat.le_refl _), Nat.sub_self, List.set_cons_zero]
def swapR : Nat → List α → Nat → Nat → List α
  | 0, l, _, _ => l
  | n + 1, l, a, b => swapR n (swp l a b) (a + 1) (b + 1)
theorem swapR_ok : ∀ (X Y P M S : List α), X.length = Y.length → swapR X.length (P ++ (X ++ (M ++ (Y ++ S)))) P.length (P.length + X.length + M.length) = P ++ (Y ++ (M ++ (X ++ S)))
  | [], [], P, M, S, _ => rfl
  | [], _ :: _, _, _, _, h => by simp at h
  | _ :: _, [], _, _, _, h => by simp at h
  | x :: X, y :: Y, P, M, S, h => by
    have h : X.length = Y.length := by simpa using h
    have e1 : P ++ (x :: X ++ (M ++ (y :: Y ++ S))) = P ++ x :: ((X ++ M) ++ y :: (Y ++ S)) := by simp
    have e2 : P.length + (x :: X).length + M.length = P.length + 1 + (X ++ M).length := by simp; omega
    rw [e1, e2, List.length_cons]
    unfold swapR
    rw [swp_split]
    have e3 : P ++ y :: ((X ++ M) ++ x :: (Y ++ S)) = (P ++ [y]) ++ (X ++ ((M ++ [x]) ++ (Y ++ S))) := by simp
    have e4 : P.length + 1 = (P ++ [y]).length := by simp
    have e5 : P.length + 1 + (X ++ M).length + 1 = (P ++ [y]).length + X.length + (M ++ [x]).length := by simp; omega
    rw [e3, e5, e4, swapR_ok X Y (P ++ [y]) (M ++ [x]) S h]
    simp
theorem length_swapR : ∀ (n : Nat) (l : List α) (a b : Nat), (swapR n l a b).length = l.length
  | 0, _, _, _ => rfl
  | n + 1, l, a, b => by rw [swapR, length_swapR n, length_swp]
/-- A turn: two ranges, one behind the other, change places. -/
def rot : Nat → List α → Nat → Nat → Nat → List α
  | 0, l, _, _, _ => l
  | k + 1, l, m, i, j =>
    if i = j then swapR i l (m - i) m
    else if j < i then rot k (swapR j l (m - i) m) m (i - j) j
    else rot k (swapR i l (m - i) (m + j - i)) m i (j - i)
theorem rot_ok : ∀ (k : Nat) (A U V B : List α) (m : Nat), 0 < U.length → 0 < V.length → U.length + V.length ≤ k → m = A.length + U.length → rot k (A ++ (U ++ (V ++ B))) m U.length V.length = A ++ (V ++ (U ++ B))
  | 0, A, U, V, B, m, h1, _, h, _ => by omega
  | k + 1, A, U, V, B, m, h1, h2, h, hm => by
    unfold rot
    have hmi : m - U.length = A.length := by omega
    split
    · rename_i e
      have := swapR_ok U V A [] B e
      simp only [List.nil_append, List.length_nil, Nat.add_zero] at this
      rw [hmi, hm, this]
    · rename_i hne
      split
      · rename_i hlt
        obtain ⟨U1, U2, rfl, hl⟩ : ∃ U1 U2, U = U1 ++ U2 ∧ U1.length = V.length := ⟨U.take V.length, U.drop V.length, by simp, by simp; omega⟩
        have := swapR_ok U1 V A U2 B hl
        rw [hmi, hm, ← hl, show A ++ (U1 ++ U2 ++ (V ++ B)) = A ++ (U1 ++ (U2 ++ (V ++ B))) by simp, show A.length + (U1 ++ U2).length = A.length + U1.length + U2.length by simp; omega, this,
          show (U1 ++ U2).length - U1.length = U2.length by simp, hl, show A ++ (V ++ (U2 ++ (U1 ++ B))) = (A ++ V) ++ (U2 ++ (U1 ++ B)) by simp, ← hl]
        simp only [List.length_append] at hne hlt h
        rw [rot_ok k (A ++ V) U2 U1 B _ (by omega) (by omega) (by omega) (by simp; omega)]
        simp
      · rename_i hlt
        obtain ⟨V1, V2, rfl, hl⟩ : ∃ V1 V2, V = V1 ++ V2 ∧ V2.length = U.length := ⟨V.take (V.length - U.length), V.drop (V.length - U.length), by simp, by simp; omega⟩
        have := swapR_ok U V2 A V1 B hl.symm
        simp only [List.length_append] at hne hlt h h2
        rw [hmi, show m + (V1 ++ V2).length - U.length = A.length + U.length + V1.length by simp; omega, show A ++ (U ++ (V1 ++ V2 ++ B)) = A ++ (U ++ (V1 ++ (V2 ++ B))) by simp, this,
          show (V1 ++ V2).length - U.length = V1.length by simp; omega, ← hl]
        rw [rot_ok k A V2 V1 (U ++ B) m (by omega) (by omega) (by omega) (by omega)]
        simp
/-- In order. -/
def Run (R : α → α → Prop) (l : List α) : Prop := l.Pairwise R
/-- A search by halves. -/
def half (p : Nat → Bool) : Nat → Nat → Nat → Nat
  | 0, i, _ => i
  | k + 1, i, j => if i < j then (if p ((i + j) / 2) then half p k ((i + j) / 2 + 1) j else half p k i ((i + j) / 2)) else i
theorem half_ok {p : Nat → Bool} : ∀ (k i j lo hi : Nat), lo ≤ i → i ≤ j → j ≤ hi → j - i ≤ k → (∀ c, lo ≤ c → c < i → p c = true) → (∀ c, j ≤ c → c < hi → p c = false) →
    (∀ c d, lo ≤ c → c ≤ d → d < hi → p d = true → p c = true) → i ≤ half p k i j ∧ half p k i j ≤ j ∧ (∀ c, lo ≤ c → c < half p k i j → p c = true) ∧ (∀ c, half p k i j ≤ c → c < hi → p c = false)
  | 0, i, j, lo, hi, h1, h2, h3, h4, ha, hb, hm => by
    have : i = j := by omega
    subst this
    exact ⟨Nat.le_refl _, Nat.le_refl _, ha, hb⟩
  | k + 1, i, j, lo, hi, h1, h2, h3, h4, ha, hb, hm => by
    unfold half
    split
    · rename_i hlt
      cases hp : p ((i + j) / 2) with
      | true =>
        simp only [if_true]
        obtain ⟨q1, q2, q3, q4⟩ := half_ok k ((i + j) / 2 + 1) j lo hi (by omega) (by omega) h3 (by omega) (fun c hc1 hc2 => hm c ((i + j) / 2) hc1 (by omega) (by omega) hp) hb hm
        exact ⟨by omega, q2, q3, q4⟩
      | false =>
        simp only [Bool.false_eq_true, if_false]
        obtain ⟨q1, q2, q3, q4⟩ := half_ok k i ((i + j) / 2) lo hi h1 (by omega) (by omega) (by omega) ha (fun c hc1 hc2 => by
          cases hpc : p c with
          | false => rfl
          | true => rw [hm ((i + j) / 2) c (by omega) hc1 hc2 hpc] at hp; cases hp) hm
        exact ⟨q1, by omega, q3, q4⟩
    · exact ⟨Nat.le_refl _, h2, ha, fun c hc1 hc2 => hb c (by omega) hc2⟩
/-- What stands at a place is carried up. -/
def up : Nat → List α → Nat → List α
  | 0, l, _ => l
  | n + 1, l, k => up n (swp l k (k + 1)) (k + 1)
theorem up_ok : ∀ (Q P S : List α) (x : α), up Q.length (P ++ x :: (Q ++ S)) P.length = P ++ (Q ++ x :: S)
  | [], P, S, x => rfl
  | q :: Q, P, S, x => by
    have := swp_split P [] (Q ++ S) x q
    simp only [List.nil_append, List.length_nil, Nat.add_zero] at this
    rw [List.length_cons, up, show P ++ x :: (q :: Q ++ S) = P ++ x :: q :: (Q ++ S) by simp, this, show P ++ q :: x :: (Q ++ S) = (P ++ [q]) ++ x :: (Q ++ S) by simp, show P.length + 1 = (P ++ [q]).length by simp, up_ok Q (P ++ [q]) S x]
    simp
/-- .. down. -/
def down : Nat → List α → Nat → List α
  | 0, l, _ => l
  | n + 1, l, k => down n (swp l k (k - 1)) (k - 1)
theorem swp_comm (l : List α) (i j : Nat) (h : i ≠ j) : swp l i j = swp l j i := by
  unfold swp
  rw [List.set_comm _ _ h]
theorem down_ok : ∀ (n : Nat) (Q P S : List α) (x : α), Q.length = n → down n (P ++ (Q ++ x :: S)) (P.length + n) = P ++ x :: (Q ++ S)
  | 0, Q, P, S, x, h => by
    have : Q = [] := List.length_eq_zero_iff.1 h
    subst this; rfl
  | n + 1, Q, P, S, x, h => by
    obtain ⟨Q', q, rfl⟩ : ∃ Q' q, Q = Q' ++ [q] := ⟨Q.dropLast, Q.getLast (by intro e; simp [e] at h), (List.dropLast_concat_getLast _).symm⟩
    have hl : Q'.length = n := by simpa using h
    have e := swp_split (P ++ Q') [] S q x
    simp only [List.nil_append, List.length_nil, Nat.add_zero, List.length_append, hl] at e
    have e1 : P ++ (Q' ++ [q] ++ x :: S) = P ++ Q' ++ q :: x :: S := by simp
    rw [down, show P.length + (n + 1) - 1 = P.length + n by omega, swp_comm _ _ _ (by omega), e1, show P.length + (n + 1) = P.length + n + 1 by omega, e, show P ++ Q' ++ x :: q :: S = P ++ (Q' ++ x :: (q :: S)) by simp, down_ok n Q' P (q :: S) x hl]
    simp
end Go.Ev
set_option linter.unusedSectionVars false
namespace Go.Ev
variable {α : Type} [Inhabited α]
theorem mem_take' {l : List α} {n : Nat} {x : α} (h : x ∈ l.take n) : ∃ i, ∃ hi : i < l.length, i < n ∧ l[i] = x := by
  obtain ⟨i, hi, e⟩ := List.getElem_of_mem h
  rw [List.length_take] at hi
  exact ⟨i, by omega, by omega, by rw [List.getElem_take] at e; exact e⟩
theorem mem_drop' {l : List α} {n : Nat} {x : α} (h : x ∈ l.drop n) : ∃ i, ∃ hi : i < l.length, n ≤ i ∧ l[i] = x := by
  obtain ⟨i, hi, e⟩ := List.getElem_of_mem h
  rw [List.length_drop] at hi
  exact ⟨n + i, by omega, by omega, by rw [List.getElem_drop] at e; exact e⟩
def atD (l : List α) (k : Nat) : α := l[k]?.getD default
theorem atD_X {P X Y S : List α} {k j : Nat} (hk : k = P.length + j) (hj : j < X.length) : atD (P ++ (X ++ (Y ++ S))) k = X[j] := by
  subst hk
  unfold atD
  rw [List.getElem?_append_right (by omega), show P.length + j - P.length = j by omega, List.getElem?_append_left hj, List.getElem?_eq_getElem hj, Option.getD_some]
theorem atD_Y {P X Y S : List α} {k j : Nat} (hk : k = P.length + X.length + j) (hj : j < Y.length) : atD (P ++ (X ++ (Y ++ S))) k = Y[j] := by
  subst hk
  unfold atD
  rw [List.getElem?_append_right (by omega), List.getElem?_append_right (by omega), show P.length + X.length + j - P.length - X.length = j by omega, List.getElem?_append_left hj, List.getElem?_eq_getElem hj, Option.getD_some]
/-- Two runs, one behind the other, become one. -/
def symM (lt : α → α → Bool) : Nat → List α → Nat → Nat → Nat → List α
  | 0, l, _, _, _ => l
  | k + 1, l, a, m, b =>
    if m - a = 1 then up (half (fun h => lt (atD l h) (atD l a)) (b - m) m b - 1 - a) l a
    else if b - m = 1 then down (m - half (fun h => !lt (atD l m) (atD l h)) (m - a) a m) l m
    else
      let mid := (a + b) / 2
      let n := mid + m
      let s0 := if mid < m then n - b else a
      let r0 := if mid < m then mid else m
      let s := half (fun c => !lt (atD l (n - 1 - c)) (atD l c)) (r0 - s0) s0 r0
      let e := n - s
      let l1 := if s < m ∧ m < e then rot (e - s) l m (m - s) (e - m) else l
      let l2 := if a < s ∧ s < mid then symM lt k l1 a s mid else l1
      if mid < e ∧ e < b then symM lt k l2 mid e b else l2
theorem run_get {R : α → α → Prop} {l : List α} (h : Run R l) {i j : Nat} (hi : i < l.length) (hj : j < l.length) (hij : i < j) : R l[i] l[j] :=
  List.pairwise_iff_getElem.1 h i j hi hj hij
theorem symM_ok {R : α → α → Prop} (tr : ∀ x y z, R x y → R y z → R x z) (as : ∀ x y, R x y → ¬ R y x) {lt : α → α → Bool} :
    ∀ (k : Nat) (P X Y S : List α) (a m b : Nat), P.length = a → a + X.length = m → m + Y.length = b → 0 < X.length → 0 < Y.length → X.length + Y.length ≤ k → Run R X → Run R Y →
      (∀ x ∈ X, ∀ y ∈ Y, (lt y x = true ↔ R y x) ∧ (R x y ∨ R y x)) → ∃ Z, symM lt k (P ++ (X ++ (Y ++ S))) a m b = P ++ (Z ++ S) ∧ Z.Perm (X ++ Y) ∧ Run R Z
  | 0, P, X, Y, S, a, m, b, _, _, _, hx, _, hk, _, _, _ => by omega
  | k + 1, P, X, Y, S, a, m, b, ha, hm, hb, hx, hy, hk, rX, rY, hlt => by
    have ltT : ∀ x ∈ X, ∀ y ∈ Y, lt y x = true → R y x := fun x hx y hy h => (hlt x hx y hy).1.1 h
    have ltF : ∀ x ∈ X, ∀ y ∈ Y, lt y x = false → R x y := fun x hx y hy h => by
      rcases (hlt x hx y hy).2 with h2 | h2
      · exact h2
      · rw [(hlt x hx y hy).1.2 h2] at h; cases h
    have ltR : ∀ x ∈ X, ∀ y ∈ Y, R x y → lt y x = false := fun x hx y hy h => by
      cases hl : lt y x with
      | false => rfl
      | true => exact absurd (ltT x hx y hy hl) (as _ _ h)
    unfold symM
    split
    · -- one ahead
      rename_i h1
      obtain ⟨x, rfl⟩ : ∃ x, X = [x] := by
        have : X.length = 1 := by omega
        exact List.length_eq_one_iff.1 this
      have e1 : m = a + 1 := by simpa using hm.symm
      have ax : atD (P ++ ([x] ++ (Y ++ S))) a = x := by
        have := atD_X (P := P) (X := [x]) (Y := Y) (S := S) (k := a) (j := 0) (by omega) (by simp)
        simpa using this
      have ay : ∀ c, m ≤ c → (hc : c < b) → atD (P ++ ([x] ++ (Y ++ S))) c = Y[c - m]'(by omega) := fun c h1 h2 => atD_Y (by simp; omega) (by omega)
      obtain ⟨q1, q2, q3, q4⟩ := half_ok (p := fun h => lt (atD (P ++ ([x] ++ (Y ++ S))) h) (atD (P ++ ([x] ++ (Y ++ S))) a)) (b - m) m b m b (Nat.le_refl _) (by omega) (Nat.le_refl _) (Nat.le_refl _) (fun c h1 h2 => by omega) (fun c h1 h2 => by omega) (fun c d h1 h2 h3 hp => by
        simp only [ax] at hp ⊢
        rw [ay d (by omega) h3] at hp
        rw [ay c h1 (by omega)]
        have r1 := ltT x (by simp) _ (List.getElem_mem _) hp
        by_cases hcd : c = d
        · subst hcd; exact hp
        · exact (hlt x (by simp) _ (List.getElem_mem _)).1.2 (tr _ _ _ (run_get rY (i := c - m) (j := d - m) (by omega) (by omega) (by omega)) r1))
      generalize half _ (b - m) m b = i at q1 q2 q3 q4
      have hup := up_ok (Y.take (i - m)) P (Y.drop (i - m) ++ S) x
      rw [show (Y.take (i - m)).length = i - 1 - a by rw [List.length_take]; omega, ha] at hup
      have el : P ++ x :: (Y.take (i - m) ++ (Y.drop (i - m) ++ S)) = P ++ ([x] ++ (Y ++ S)) := by rw [← List.append_assoc (Y.take _), List.take_append_drop]; rfl
      rw [el] at hup
      refine ⟨Y.take (i - m) ++ x :: Y.drop (i - m), by rw [hup]; simp, ?_, ?_⟩
      · have := List.perm_middle (a := x) (l₁ := Y.take (i - m)) (l₂ := Y.drop (i - m))
        rw [List.take_append_drop] at this
        exact this
      · unfold Run
        rw [List.pairwise_append, List.pairwise_cons]
        refine ⟨rY.sublist (List.take_sublist _ _), ⟨fun y hy => ?_, rY.sublist (List.drop_sublist _ _)⟩, fun y hy z hz => ?_⟩
        · obtain ⟨j, hj, h2, rfl⟩ := mem_drop' hy
          have := q4 (m + j) (by omega) (by omega)
          simp only [ax] at this
          rw [ay (m + j) (by omega) (by omega)] at this
          simp only [Nat.add_sub_cancel_left] at this
          exact ltF x (by simp) _ (List.getElem_mem _) this
        · obtain ⟨j, hj, h2, rfl⟩ := mem_take' hy
          have hx1 : R Y[j] x := by
            have := q3 (m + j) (by omega) (by omega)
            simp only [ax] at this
            rw [ay (m + j) (by omega) (by omega)] at this
            simp only [Nat.add_sub_cancel_left] at this
            exact ltT x (by simp) _ (List.getElem_mem _) this
          rcases List.mem_cons.1 hz with rfl | hz
          · exact hx1
          · obtain ⟨j', hj', h3, rfl⟩ := mem_drop' hz
            exact run_get rY hj hj' (by omega)
    · split
      · -- one behind
        rename_i h1 h2
        obtain ⟨y, rfl⟩ : ∃ y, Y = [y] := by
          have : Y.length = 1 := by omega
          exact List.length_eq_one_iff.1 this
        have e1 : b = m + 1 := by simpa using hb.symm
        have ay : atD (P ++ (X ++ ([y] ++ S))) m = y := by
          have := atD_Y (P := P) (X := X) (Y := [y]) (S := S) (k := m) (j := 0) (by omega) (by simp)
          simpa using this
        have ax : ∀ c, a ≤ c → (hc : c < m) → atD (P ++ (X ++ ([y] ++ S))) c = X[c - a]'(by omega) := fun c h1 h2 => atD_X (by omega) (by omega)
        obtain ⟨q1, q2, q3, q4⟩ := half_ok (p := fun h => !lt (atD (P ++ (X ++ ([y] ++ S))) m) (atD (P ++ (X ++ ([y] ++ S))) h)) (m - a) a m a m (Nat.le_refl _) (by omega) (Nat.le_refl _) (Nat.le_refl _) (fun c h1 h2 => by omega) (fun c h1 h2 => by omega) (fun c d h1 h2 h3 hp => by
          simp only [ay, Bool.not_eq_true'] at hp ⊢
          rw [ax d (by omega) h3] at hp
          rw [ax c h1 (by omega)]
          have r1 := ltF _ (List.getElem_mem _) y (by simp) hp
          by_cases hcd : c = d
          · subst hcd; exact hp
          · exact ltR _ (List.getElem_mem _) y (by simp) (tr _ _ _ (run_get rX (i := c - a) (j := d - a) (by omega) (by omega) (by omega)) r1))
        generalize half _ (m - a) a m = i at q1 q2 q3 q4
        have hdn := down_ok (m - i) (X.drop (i - a)) (P ++ X.take (i - a)) S y (by rw [List.length_drop]; omega)
        rw [show (P ++ X.take (i - a)).length + (m - i) = m by rw [List.length_append, List.length_take]; omega] at hdn
        have el : P ++ X.take (i - a) ++ (X.drop (i - a) ++ y :: S) = P ++ (X ++ ([y] ++ S)) := by
          rw [List.append_assoc, ← List.append_assoc (X.take _), List.take_append_drop]; rfl
        rw [el] at hdn
        refine ⟨X.take (i - a) ++ y :: X.drop (i - a), by rw [hdn]; simp, ?_, ?_⟩
        · have := List.perm_middle (a := y) (l₁ := X.take (i - a)) (l₂ := X.drop (i - a))
          rw [List.take_append_drop] at this
          exact this.trans (List.perm_append_comm (l₁ := [y]))
        · unfold Run
          rw [List.pairwise_append, List.pairwise_cons]
          refine ⟨rX.sublist (List.take_sublist _ _), ⟨fun x hx => ?_, rX.sublist (List.drop_sublist _ _)⟩, fun x hx z hz => ?_⟩
          · obtain ⟨j, hj, h2, rfl⟩ := mem_drop' hx
            have := q4 (a + j) (by omega) (by omega)
            simp only [ay, Bool.not_eq_false'] at this
            rw [ax (a + j) (by omega) (by omega)] at this
            simp only [Nat.add_sub_cancel_left] at this
            exact ltT _ (List.getElem_mem _) y (by simp) this
          · obtain ⟨j, hj, h2, rfl⟩ := mem_take' hx
            have hx1 : R X[j] y := by
              have := q3 (a + j) (by omega) (by omega)
              simp only [ay, Bool.not_eq_true'] at this
              rw [ax (a + j) (by omega) (by omega)] at this
              simp only [Nat.add_sub_cancel_left] at this
              exact ltF _ (List.getElem_mem _) y (by simp) this
            rcases List.mem_cons.1 hz with rfl | hz
            · exact hx1
            · obtain ⟨j', hj', h3, rfl⟩ := mem_drop' hz
              exact run_get rX hj hj' (by omega)
      · -- both longer
        rename_i h1 h2
        simp only
        have hmid1 : a < (a + b) / 2 := by omega
        have hmid2 : (a + b) / 2 < b := by omega
        generalize hmid : (a + b) / 2 = mid at hmid1 hmid2
        have hmb : 2 * mid ≤ a + b ∧ a + b ≤ 2 * mid + 1 := by omega
        have hs0 : ∃ s0, s0 = (if mid < m then mid + m - b else a) := ⟨_, rfl⟩
        have hr0 : ∃ r0, r0 = (if mid < m then mid else m) := ⟨_, rfl⟩
        obtain ⟨s0, hs0⟩ := hs0
        obtain ⟨r0, hr0⟩ := hr0
        rw [← hs0, ← hr0]
        have bd : a ≤ s0 ∧ s0 ≤ r0 ∧ r0 ≤ m ∧ r0 ≤ mid ∧ m + r0 ≤ mid + m ∧ mid + m ≤ b + s0 ∧ (s0 = a ∨ mid + m = b + s0) ∧ (r0 = m ∨ r0 = mid) := by
          by_cases h : mid < m
          · rw [if_pos h] at hs0 hr0; omega
          · rw [if_neg h] at hs0 hr0; omega
        clear hs0 hr0
        obtain ⟨b1, b2, b3, b4, b5, b6, b7, b8⟩ := bd
        have ax : ∀ c, a ≤ c → (hc : c < m) → atD (P ++ (X ++ (Y ++ S))) c = X[c - a]'(by omega) := fun c h1 h2 => atD_X (by omega) (by omega)
        have ay : ∀ c, m ≤ c → (hc : c < b) → atD (P ++ (X ++ (Y ++ S))) c = Y[c - m]'(by omega) := fun c h1 h2 => atD_Y (by omega) (by omega)
        obtain ⟨q1, q2, q3, q4⟩ := half_ok (p := fun c => !lt (atD (P ++ (X ++ (Y ++ S))) (mid + m - 1 - c)) (atD (P ++ (X ++ (Y ++ S))) c)) (r0 - s0) s0 r0 s0 r0 (Nat.le_refl _) b2 (Nat.le_refl _) (Nat.le_refl _) (fun c h1 h2 => by omega) (fun c h1 h2 => by omega) (fun c d h1 h2 h3 hp => by
          simp only [Bool.not_eq_true'] at hp ⊢
          rw [ax d (by omega) (by omega), ay _ (by omega) (by omega)] at hp
          rw [ax c (by omega) (by omega), ay _ (by omega) (by omega)]
          have r1 := ltF _ (List.getElem_mem _) _ (List.getElem_mem _) hp
          by_cases hcd : c = d
          · subst hcd; exact hp
          · exact ltR _ (List.getElem_mem _) _ (List.getElem_mem _) (tr _ _ _ (run_get rX (i := c - a) (j := d - a) (by omega) (by omega) (by omega)) (tr _ _ _ r1 (run_get rY (i := mid + m - 1 - d - m) (j := mid + m - 1 - c - m) (by omega) (by omega) (by omega)))))
        generalize half _ (r0 - s0) s0 r0 = s at q1 q2 q3 q4
        have he : ∃ e, e = mid + m - s := ⟨_, rfl⟩
        obtain ⟨e, he⟩ := he
        rw [← he]
        have hX : X = X.take (s - a) ++ X.drop (s - a) := (List.take_append_drop _ _).symm
        have hY : Y = Y.take (e - m) ++ Y.drop (e - m) := (List.take_append_drop _ _).symm
        have lX1 : (X.take (s - a)).length = s - a := by rw [List.length_take]; omega
        have lX2 : (X.drop (s - a)).length = m - s := by rw [List.length_drop]; omega
        have lY1 : (Y.take (e - m)).length = e - m := by rw [List.length_take]; omega
        have lY2 : (Y.drop (e - m)).length = b - e := by rw [List.length_drop]; omega
        have mX1 : ∀ x ∈ X.take (s - a), x ∈ X := fun x h => List.mem_of_mem_take h
        have mX2 : ∀ x ∈ X.drop (s - a), x ∈ X := fun x h => List.mem_of_mem_drop h
        have mY1 : ∀ x ∈ Y.take (e - m), x ∈ Y := fun x h => List.mem_of_mem_take h
        have mY2 : ∀ x ∈ Y.drop (e - m), x ∈ Y := fun x h => List.mem_of_mem_drop h
        have rX1 : Run R (X.take (s - a)) := rX.sublist (List.take_sublist _ _)
        have rX2 : Run R (X.drop (s - a)) := rX.sublist (List.drop_sublist _ _)
        have rY1 : Run R (Y.take (e - m)) := rY.sublist (List.take_sublist _ _)
        have rY2 : Run R (Y.drop (e - m)) := rY.sublist (List.drop_sublist _ _)
        have c12 : ∀ x ∈ X.take (s - a), ∀ y ∈ X.drop (s - a), R x y := fun x hx y hy => by
          obtain ⟨i, hi, h3, rfl⟩ := mem_take' hx
          obtain ⟨j, hj, h4, rfl⟩ := mem_drop' hy
          exact run_get rX hi hj (by omega)
        have c34 : ∀ x ∈ Y.take (e - m), ∀ y ∈ Y.drop (e - m), R x y := fun x hx y hy => by
          obtain ⟨i, hi, h3, rfl⟩ := mem_take' hx
          obtain ⟨j, hj, h4, rfl⟩ := mem_drop' hy
          exact run_get rY hi hj (by omega)
        have c14 : ∀ x ∈ X.take (s - a), ∀ y ∈ Y.drop (e - m), R x y := fun x hx y hy => by
          obtain ⟨i, hi, h3, rfl⟩ := mem_take' hx
          obtain ⟨j, hj, h4, rfl⟩ := mem_drop' hy
          have hq := q3 (s - 1) (by omega) (by omega)
          simp only [Bool.not_eq_true'] at hq
          rw [ax (s - 1) (by omega) (by omega), ay _ (by omega) (by omega)] at hq
          have r1 := ltF _ (List.getElem_mem _) _ (List.getElem_mem _) hq
          have r2 : i = s - 1 - a ∨ i < s - 1 - a := by omega
          have r3 : j = mid + m - 1 - (s - 1) - m ∨ mid + m - 1 - (s - 1) - m < j := by omega
          have r4 : R X[i] (Y[mid + m - 1 - (s - 1) - m]'(by omega)) := by
            rcases r2 with r2 | r2
            · subst r2; exact r1
            · exact tr _ _ _ (run_get rX hi (by omega) r2) r1
          rcases r3 with r3 | r3
          · subst r3; exact r4
          · exact tr _ _ _ r4 (run_get rY (by omega) hj r3)
        have c32 : ∀ x ∈ Y.take (e - m), ∀ y ∈ X.drop (s - a), R x y := fun x hx y hy => by
          obtain ⟨i, hi, h3, rfl⟩ := mem_take' hx
          obtain ⟨j, hj, h4, rfl⟩ := mem_drop' hy
          have hq := q4 s (by omega) (by omega)
          simp only [Bool.not_eq_false'] at hq
          rw [ax s (by omega) (by omega), ay _ (by omega) (by omega)] at hq
          have r1 := ltT _ (List.getElem_mem _) _ (List.getElem_mem _) hq
          have r2 : i = mid + m - 1 - s - m ∨ i < mid + m - 1 - s - m := by omega
          have r3 : j = s - a ∨ s - a < j := by omega
          have r4 : R Y[i] (X[s - a]'(by omega)) := by
            rcases r2 with r2 | r2
            · subst r2; exact r1
            · exact tr _ _ _ (run_get rY hi (by omega) r2) r1
          rcases r3 with r3 | r3
          · subst r3; exact r4
          · exact tr _ _ _ r4 (run_get rX (by omega) hj r3)
        generalize hX1 : X.take (s - a) = X1 at *
        generalize hX2 : X.drop (s - a) = X2 at *
        generalize hY1 : Y.take (e - m) = Y1 at *
        generalize hY2 : Y.drop (e - m) = Y2 at *
        clear hX1 hX2 hY1 hY2
        have nil_of : ∀ {l : List α}, l.length = 0 → l = [] := fun h => List.length_eq_zero_iff.1 h
        -- the turn
        have hl1 : (if s < m ∧ m < e then rot (e - s) (P ++ (X ++ (Y ++ S))) m (m - s) (e - m) else P ++ (X ++ (Y ++ S))) = P ++ (X1 ++ (Y1 ++ (X2 ++ (Y2 ++ S)))) := by
          have el : P ++ (X ++ (Y ++ S)) = (P ++ X1) ++ (X2 ++ (Y1 ++ (Y2 ++ S))) := by rw [hX, hY]; simp
          split
          · rename_i h
            have := rot_ok (e - s) (P ++ X1) X2 Y1 (Y2 ++ S) m (by omega) (by omega) (by omega) (by rw [List.length_append]; omega)
            rw [lX2, lY1] at this
            rw [el, this]; simp
          · rename_i h
            rcases (show X2.length = 0 ∨ Y1.length = 0 by omega) with h0 | h0
            · rw [el, nil_of h0]; simp
            · rw [el, nil_of h0]; simp
        rw [hl1]
        clear hl1
        -- the first half
        have hl2 : ∃ Z1, (if a < s ∧ s < mid then symM lt k (P ++ (X1 ++ (Y1 ++ (X2 ++ (Y2 ++ S))))) a s mid else P ++ (X1 ++ (Y1 ++ (X2 ++ (Y2 ++ S))))) = P ++ (Z1 ++ (X2 ++ (Y2 ++ S))) ∧ Z1.Perm (X1 ++ Y1) ∧ Run R Z1 := by
          split
          · rename_i h
            exact symM_ok tr as k P X1 Y1 (X2 ++ (Y2 ++ S)) a s mid ha (by omega) (by omega) (by omega) (by omega) (by omega) rX1 rY1 (fun x hx y hy => hlt x (mX1 x hx) y (mY1 y hy))
          · rename_i h
            refine ⟨X1 ++ Y1, by simp, .refl _, ?_⟩
            rcases (show X1.length = 0 ∨ Y1.length = 0 by omega) with h0 | h0
            · rw [nil_of h0]; exact rY1
            · rw [nil_of h0, List.append_nil]; exact rX1
        obtain ⟨Z1, hz1, p1, r1⟩ := hl2
        rw [hz1]
        have lZ1 : Z1.length = (s - a) + (e - m) := by rw [p1.length_eq, List.length_append]; omega
        have hl3 : ∃ Z2, (if mid < e ∧ e < b then symM lt k (P ++ (Z1 ++ (X2 ++ (Y2 ++ S)))) mid e b else P ++ (Z1 ++ (X2 ++ (Y2 ++ S)))) = P ++ (Z1 ++ (Z2 ++ S)) ∧ Z2.Perm (X2 ++ Y2) ∧ Run R Z2 := by
          split
          · rename_i h
            obtain ⟨Z2, q, p2, r2⟩ := symM_ok tr as k (P ++ Z1) X2 Y2 S mid e b (by rw [List.length_append]; omega) (by omega) (by omega) (by omega) (by omega) (by omega) rX2 rY2 (fun x hx y hy => hlt x (mX2 x hx) y (mY2 y hy))
            exact ⟨Z2, by rw [← List.append_assoc, q]; simp, p2, r2⟩
          · rename_i h
            refine ⟨X2 ++ Y2, by simp, .refl _, ?_⟩
            rcases (show X2.length = 0 ∨ Y2.length = 0 by omega) with h0 | h0
            · rw [nil_of h0]; exact rY2
            · rw [nil_of h0, List.append_nil]; exact rX2
        obtain ⟨Z2, hz2, p2, r2⟩ := hl3
        rw [hz2]
        refine ⟨Z1 ++ Z2, by simp, ?_, ?_⟩
        · refine (p1.append p2).trans ?_
          rw [hX, hY]
          have : (X1 ++ Y1 ++ (X2 ++ Y2)).Perm (X1 ++ (X2 ++ Y1) ++ Y2) := by
            have e1 : X1 ++ Y1 ++ (X2 ++ Y2) = X1 ++ ((Y1 ++ X2) ++ Y2) := by simp
            have e2 : X1 ++ (X2 ++ Y1) ++ Y2 = X1 ++ ((X2 ++ Y1) ++ Y2) := by simp
            rw [e1, e2]
            exact (List.Perm.append_right _ List.perm_append_comm).append_left _
          refine this.trans ?_
          simp
        · unfold Run
          rw [List.pairwise_append]
          refine ⟨r1, r2, fun x hx y hy => ?_⟩
          have hx := p1.mem_iff.1 hx
          have hy := p2.mem_iff.1 hy
          rcases List.mem_append.1 hx with hx | hx <;> rcases List.mem_append.1 hy with hy | hy
          · exact c12 x hx y hy
          · exact c14 x hx y hy
          · exact c32 x hx y hy
          · exact c34 x hx y hy
end Go.Ev
