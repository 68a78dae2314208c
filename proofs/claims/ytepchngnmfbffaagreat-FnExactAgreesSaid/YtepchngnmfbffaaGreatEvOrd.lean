/- The order of what took place: by insertion, and by the library's stable sort. -/
import Derived.Test.YtepchngnmfbffaaGreatEvSorW
set_option linter.unusedSectionVars false
set_option linter.unusedVariables false
set_option linter.unusedSimpArgs false
namespace Go.Ev
open Go
theorem loopL_ind {α σ ρ : Type} {b : Nat → σ → α → Step σ ρ} {P : Nat → σ → Prop} {R : σ → Prop} {Q : ρ → Prop} {l0 : List α} (h : ∀ i s (hi : i < l0.length), P i s → (∀ v, b i s l0[i] = .next v → P (i + 1) v) ∧ (∀ v, b i s l0[i] = .stop v → R v) ∧ ∀ r, b i s l0[i] = .done r → Q r) (hf : ∀ s, P l0.length s → R s) :
    ∀ (l : List α) (i : Nat) (s : σ), i ≤ l0.length → l0.drop i = l → P i s → (∀ v, loopL b i s l = .fin v → R v) ∧ ∀ r, loopL b i s l = .done r → Q r
  | [], i, s, hi, hl, hs => by
    have : i = l0.length := by have := congrArg List.length hl; simp at this; omega
    subst this
    exact ⟨fun v e => by cases e; exact hf s hs, fun r e => by cases e⟩
  | a :: l, i, s, hi, hl, hs => by
    have hlt : i < l0.length := by have := congrArg List.length hl; simp at this; omega
    rw [List.drop_eq_getElem_cons hlt] at hl
    have ha := (List.cons.inj hl).1
    have hl2 := (List.cons.inj hl).2
    subst ha
    obtain ⟨h1, h2, h3⟩ := h i s hlt hs
    unfold loopL
    cases hb : b i s l0[i] with
    | next v => exact loopL_ind h hf l (i + 1) v hlt hl2 (h1 v hb)
    | stop v => exact ⟨fun u e => by cases e; exact h2 v hb, fun r e => by cases e⟩
    | done r => exact ⟨fun u e => (by cases e), fun r' e => by cases e; exact h3 r hb⟩
section
variable {α : Type} [Inhabited α] (lin : α → Int)
/-- The places of what took place. -/
def flL : Nat → List α → List Int
  | _, [] => []
  | i, d :: l => if lin d = -1 then flL (i + 1) l else (i : Int) :: flL (i + 1) l
theorem flL_app (a : α) : ∀ (l : List α) (i : Nat), flL lin i (l ++ [a]) = flL lin i l ++ (if lin a = -1 then [] else [((i + l.length : Nat) : Int)])
  | [], i => by simp [flL]
  | d :: l, i => by
    have := flL_app a l (i + 1)
    simp only [List.cons_append, flL, this, List.length_cons]
    have e : i + 1 + l.length = i + (l.length + 1) := by omega
    rw [e]
    split <;> simp
theorem flL_in : ∀ (l : List α) (i : Nat) (v : Int), v ∈ flL lin i l → (i : Int) ≤ v ∧ v < ((i + l.length : Nat) : Int)
  | [], i, v, h => by simp [flL] at h
  | d :: l, i, v, h => by
    unfold flL at h
    split at h
    · have := flL_in l (i + 1) v h; simp only [List.length_cons]; omega
    · rcases List.mem_cons.1 h with e | h
      · subst e; simp only [List.length_cons]; omega
      · have := flL_in l (i + 1) v h; simp only [List.length_cons]; omega
theorem flL_len : ∀ (l : List α) (i : Nat), (flL lin i l).length ≤ l.length
  | [], i => Nat.le_refl _
  | d :: l, i => by
    have := flL_len l (i + 1)
    unfold flL
    split <;> simp <;> omega
theorem flL_lt : ∀ (l : List α) (i : Nat), (flL lin i l).Pairwise (· < ·)
  | [], i => List.Pairwise.nil
  | d :: l, i => by
    unfold flL
    split
    · exact flL_lt l (i + 1)
    · exact List.pairwise_cons.2 ⟨fun v hv => by have := flL_in lin l (i + 1) v hv; omega, flL_lt l (i + 1)⟩
/-- What x says of its element. -/
def lnA (p0 : List α) (x : Int) : Int := lin (p0[x.toNat]?.getD default)
def RL (p0 : List α) (x y : Int) : Prop := lnA lin p0 x < lnA lin p0 y ∨ (lnA lin p0 x = lnA lin p0 y ∧ x < y)
theorem RL_tr (p0 : List α) : ∀ x y z, RL lin p0 x y → RL lin p0 y z → RL lin p0 x z := by
  intro x y z h1 h2; unfold RL at *; omega
theorem RL_as (p0 : List α) : ∀ x y, RL lin p0 x y → ¬ RL lin p0 y x := by
  intro x y h1 h2; unfold RL at *; omega
/-- In order, and just those. -/
structure OrdOk (p0 : List α) (o : List Int) : Prop where
  p : o.Perm (flL lin 0 p0)
  r : Run (RL lin p0) o
variable {lin} in
theorem OrdOk.eq {p0 : List α} {o o' : List Int} (h : OrdOk lin p0 o) (h' : OrdOk lin p0 o') : o = o' :=
  List.Perm.eq_of_pairwise (fun a b _ _ h1 h2 => absurd h2 (RL_as lin p0 _ _ h1)) h.r h'.r (h.p.trans h'.p.symm)
variable {lin} in
theorem OrdOk.len {p0 : List α} {o : List Int} (h : OrdOk lin p0 o) : o.length ≤ p0.length := by rw [h.p.length_eq]; exact flL_len lin p0 0
variable {lin} in
theorem OrdOk.mem {p0 : List α} {o : List Int} (h : OrdOk lin p0 o) {v : Int} (hv : v ∈ o) : 0 ≤ v ∧ v < ((p0.length : Nat) : Int) := by
  have := flL_in lin p0 0 v (h.p.mem_iff.1 hv); simpa using this
def cmL (a b : Int) : Int := if a < b then -1 else if a > b then 1 else 0
theorem sort_ok (p0 : List α) {cmp : Int → Int → Int} (hc : ∀ x y, cmp x y = cmL (lnA lin p0 x) (lnA lin p0 y)) (h : p0.length ≤ 1048576) : OrdOk lin p0 (g_stable (flL lin 0 p0) (((flL lin 0 p0).length : Nat) : Int) cmp) := by
  have hl := flL_len lin p0 0
  have := g_stable_ok (R := RL lin p0) (cmp := cmp) (RL_tr lin p0) (RL_as lin p0) (flL lin 0 p0) (by omega) ((flL_lt lin p0 0).imp fun {x y} hxy => by
    unfold Cm
    rw [hc]
    unfold cmL RL
    constructor
    · constructor
      · intro h
        by_cases h1 : lnA lin p0 y < lnA lin p0 x
        · exact .inl h1
        · rw [if_neg h1] at h
          split at h <;> omega
      · rintro (h | ⟨_, h⟩)
        · rw [if_pos h]; omega
        · omega
    · omega)
  exact ⟨this.1, this.2⟩
theorem list_bd {b : Nat → List Int → α → Step (List Int) (List Int)} (hb : ∀ i s a, b i s a = bif (lin a != (-1)) then .next (s ++ [(i : Int)]) else .next s) : ∀ (l : List α) (i : Nat) (s : List Int), loopL b i s l = .fin (s ++ flL lin i l)
  | [], i, s => by simp [loopL, flL]
  | d :: l, i, s => by
    unfold loopL
    rw [hb]
    by_cases h : lin d = -1
    · have : (lin d != -1) = false := by simp [h]
      rw [this]
      simp only [cond_false]
      rw [list_bd hb l (i + 1) s, flL, if_pos h]
    · have : (lin d != -1) = true := by simp [h]
      rw [this]
      simp only [cond_true]
      rw [list_bd hb l (i + 1) _, flL, if_neg h]
      simp
-- by insertion
def o_b3 (p0 : List α) (s1 : List Int) (a1 : α) (s3 : Int) : Step Int (Step Int (Step (List Int) (List Int))) :=
  (bif (decide (s3 > 0)) then (bif (decide (lin (p0[((s1[((IntKind.i64.wrap (s3 - 1))).toNat]?.getD default)).toNat]?.getD default) > lin a1)) then (.next (IntKind.i64.wrap (s3 - 1))) else (.stop s3)) else (.stop s3))
def o_j2 (p0 : List α) (s1 : List Int) (a1 : α) : Step Int (Step (List Int) (List Int)) :=
  (Fin.get (fun s3 => (.next s3)) (loopW (o_b3 lin p0 s1 a1) (Int.toNat (((s1).length : Nat) : Int)) (((s1).length : Nat) : Int)))
def o_b1 (p0 : List α) (i1 : Nat) (s1 : List Int) (a1 : α) : Step (List Int) (List Int) :=
  (bif (lin a1 == (-1)) then (.next s1) else (Step.get (fun s2 => (.next (((List.take ((s2).toNat - 0) (List.drop 0 s1)) ++ [((i1 : Nat) : Int)]) ++ (List.take ((s1).length - (s2).toNat) (List.drop (s2).toNat s1))))) (o_j2 lin p0 s1 a1)))
def o_Order (p0 : List α) : List Int := (Fin.get (fun s1 => s1) (loopL (o_b1 lin p0) 0 ([] : List Int) p0))
theorem o_while (p0 : List α) (s1 : List Int) (a1 : α) (hl : s1.length ≤ 1048576) : ∀ (n k : Nat), k ≤ n → k ≤ s1.length → ∃ k' : Nat, loopW (o_b3 lin p0 s1 a1) n (k : Int) = .fin (k' : Int) ∧ k' ≤ k ∧ (∀ j, k' ≤ j → j < k → lnA lin p0 (s1[j]?.getD default) > lin a1) ∧ (k' = 0 ∨ ¬ lnA lin p0 (s1[k' - 1]?.getD default) > lin a1)
  | n, 0, _, _ => by
    have hb : o_b3 lin p0 s1 a1 ((0 : Nat) : Int) = .stop ((0 : Nat) : Int) := by unfold o_b3; simp
    exact ⟨0, loopW_stop hb n, Nat.le_refl _, fun j _ h => absurd h (Nat.not_lt_zero _), .inl rfl⟩
  | 0, k + 1, h, _ => by omega
  | n + 1, k + 1, h1, h2 => by
    have hd : decide (((k + 1 : Nat) : Int) > 0) = true := decide_eq_true (by omega)
    have w : IntKind.i64.wrap (((k + 1 : Nat) : Int) - 1) = (k : Int) := by rw [wrap_small] <;> omega
    by_cases hc : lnA lin p0 (s1[k]?.getD default) > lin a1
    · have hb : o_b3 lin p0 s1 a1 ((k + 1 : Nat) : Int) = .next (k : Int) := by
        unfold o_b3
        rw [hd, w]
        have : decide (lin (p0[(s1[(k : Int).toNat]?.getD default).toNat]?.getD default) > lin a1) = true := by simpa [lnA] using hc
        rw [this]; rfl
      unfold loopW
      rw [hb]
      obtain ⟨k', e, q1, q2, q3⟩ := o_while p0 s1 a1 hl n k (by omega) (by omega)
      refine ⟨k', e, by omega, fun j h1 h2 => ?_, q3⟩
      rcases Nat.lt_or_ge j k with h | h
      · exact q2 j h1 h
      · have : j = k := by omega
        subst this; exact hc
    · have hb : o_b3 lin p0 s1 a1 ((k + 1 : Nat) : Int) = .stop ((k + 1 : Nat) : Int) := by
        unfold o_b3
        rw [hd, w]
        have : decide (lin (p0[(s1[(k : Int).toNat]?.getD default).toNat]?.getD default) > lin a1) = false := by simpa [lnA] using hc
        rw [this]; rfl
      exact ⟨k + 1, loopW_stop hb _, Nat.le_refl _, fun j h1 h2 => by omega, .inr (by simpa using hc)⟩
theorem o_ok (p0 : List α) (h : p0.length ≤ 1048576) : OrdOk lin p0 (o_Order lin p0) := by
  unfold o_Order
  refine len_fin (P := fun s : List Int => OrdOk lin p0 s) (Q := fun s : List Int => OrdOk lin p0 s) (loopL_ind (P := fun i (s : List Int) => s.Perm (flL lin 0 (p0.take i)) ∧ Run (RL lin p0) s) (R := fun s => OrdOk lin p0 s) (Q := fun s => OrdOk lin p0 s) (l0 := p0) (fun i s hi hs => ?_) (fun s hs => ⟨by simpa using hs.1, hs.2⟩) p0 0 [] (Nat.zero_le _) rfl ⟨by simp [flL], List.Pairwise.nil⟩) (fun v hv => hv)
  obtain ⟨hp, hr⟩ := hs
  have ht : p0.take (i + 1) = p0.take i ++ [p0[i]] := by rw [List.take_succ_eq_append_getElem hi]
  have hfl := flL_app lin p0[i] (p0.take i) 0
  have hti : (p0.take i).length = i := by simp; omega
  rw [hti] at hfl
  unfold o_b1
  by_cases hm : lin p0[i] = -1
  · have : (lin p0[i] == -1) = true := by simp [hm]
    rw [this]
    simp only [cond_true]
    have key : s.Perm (flL lin 0 (p0.take (i + 1))) ∧ Run (RL lin p0) s := ⟨by rw [ht, hfl, if_pos hm]; simpa using hp, hr⟩
    exact ⟨fun v e => by cases e; exact key, fun v e => (by cases e), fun r e => (by cases e)⟩
  · have hmf : (lin p0[i] == -1) = false := by simp [hm]
    rw [hmf]
    simp only [cond_false]
    have hsl : s.length ≤ i := by
      rw [hp.length_eq]
      have := flL_len lin (p0.take i) 0
      omega
    have hin : ∀ v ∈ s, 0 ≤ v ∧ v < (i : Int) := fun v hv => by
      have := flL_in lin (p0.take i) 0 v (hp.mem_iff.1 hv)
      rw [hti] at this
      omega
    obtain ⟨k, e, q1, q2, q3⟩ := o_while lin p0 s p0[i] (by omega) s.length s.length (Nat.le_refl _) (Nat.le_refl _)
    have hj : o_j2 lin p0 s p0[i] = .next (k : Int) := by
      unfold o_j2
      have e' : loopW (o_b3 lin p0 s p0[i]) (Int.toNat ((s.length : Nat) : Int)) ((s.length : Nat) : Int) = .fin (k : Int) := e
      rw [e']; rfl
    rw [hj]
    simp only [Step.get]
    have ek : (List.take ((k : Int).toNat - 0) (List.drop 0 s) ++ [(i : Int)]) ++ List.take (s.length - (k : Int).toNat) (List.drop (k : Int).toNat s) = List.take k s ++ (i : Int) :: List.drop k s := by
      rw [show (k : Int).toNat = k from rfl]
      have : List.take (s.length - k) (List.drop k s) = List.drop k s := List.take_of_length_le (by simp)
      rw [this]
      simp
    rw [ek]
    have hai : lnA lin p0 (i : Int) = lin p0[i] := by unfold lnA; simp [hi]
    have key : (List.take k s ++ (i : Int) :: List.drop k s).Perm (flL lin 0 (p0.take (i + 1))) ∧ Run (RL lin p0) (List.take k s ++ (i : Int) :: List.drop k s) := by
     refine ⟨?_, run_mid (RL_tr lin p0) (by simpa using hr) (fun x hx => ?_) (fun y hy => ?_)⟩
     · rw [ht, hfl, if_neg hm]
       have h1 : (List.take k s ++ (i : Int) :: List.drop k s).Perm ((i : Int) :: s) := by
         have := List.perm_middle (a := (i : Int)) (l₁ := List.take k s) (l₂ := List.drop k s)
         rw [List.take_append_drop] at this
         exact this
       refine h1.trans ?_
       refine (List.Perm.cons _ hp).trans ?_
       simp only [Nat.zero_add]
       exact (List.perm_append_comm (l₁ := [(i : Int)]) (l₂ := flL lin 0 (p0.take i)))
     · have hxs := hin x (List.mem_of_mem_take hx)
       have hle : lnA lin p0 x ≤ lin p0[i] := by
         rcases q3 with h0 | h0
         · subst h0; simp at hx
         · obtain ⟨j, hjl, hjk, e⟩ := mem_take' hx
           have hk1 : k - 1 < s.length := by omega
           rw [List.getElem?_eq_getElem hk1, Option.getD_some] at h0
           rcases Nat.lt_or_ge j (k - 1) with h | h
           · have := run_get hr hjl hk1 h
             rw [e] at this
             unfold RL at this
             omega
           · have : j = k - 1 := by omega
             subst this
             rw [e] at h0
             omega
       unfold RL
       rw [hai]
       omega
     · obtain ⟨j, hjl, hjk, e⟩ := mem_drop' hy
       have := q2 j hjk hjl
       rw [List.getElem?_eq_getElem hjl, Option.getD_some, e] at this
       unfold RL
       rw [hai]
       omega
    exact ⟨fun v e => by cases e; exact key, fun v e => (by cases e), fun r e => (by cases e)⟩
end
end Go.Ev
namespace Go.Ev
open Go
theorem app_flat {α β ρ : Type} {b : Nat → List β → α → Step (List β) ρ} (g : α → List β) (hb : ∀ i s a, b i s a = .next (s ++ g a)) : ∀ (l : List α) (i : Nat) (s : List β), loopL b i s l = .fin (s ++ l.flatMap g)
  | [], i, s => by simp [loopL]
  | a :: l, i, s => by
    unfold loopL
    rw [hb]
    simp only
    rw [app_flat g hb l (i + 1) _]
    simp
theorem getD_mem {α : Type} [Inhabited α] {l : List α} {i : Nat} (h : i < l.length) : l[i]?.getD default ∈ l := by
  rw [List.getElem?_eq_getElem h, Option.getD_some]; exact List.getElem_mem h
theorem getD_memI {α : Type} [Inhabited α] {l : List α} {v : Int} (h : 0 ≤ v ∧ v < ((l.length : Nat) : Int)) : l[v.toNat]?.getD default ∈ l := getD_mem (by omega)
end Go.Ev
namespace Go.Ev
theorem flL_linA {α : Type} [Inhabited α] (lin : α → Int) : ∀ (l d : List α) (v : Int), v ∈ flL lin d.length l → lin (((d ++ l)[v.toNat]?).getD default) ≠ -1
  | [], d, v, h => by simp [flL] at h
  | a :: l, d, v, h => by
    have e : d ++ a :: l = (d ++ [a]) ++ l := by simp
    have ih := flL_linA lin l (d ++ [a]) v
    simp only [List.length_append, List.length_cons, List.length_nil] at ih
    unfold flL at h
    split at h
    · rw [e]; exact ih h
    · rename_i hne
      rcases List.mem_cons.1 h with h | h
      · subst h; simpa using hne
      · rw [e]; exact ih h
theorem flL_lin {α : Type} [Inhabited α] (lin : α → Int) (l : List α) (v : Int) (h : v ∈ flL lin 0 l) : lin ((l[v.toNat]?).getD default) ≠ -1 := by
  have := flL_linA lin l [] v h
  simpa using this
end Go.Ev
